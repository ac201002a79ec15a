/-
  OWN WORK. Joined by merge.py: Rsg.
-/
import Derived.Test.YthnenjodighlmaaGreatQF
/-! ## Rsg -/
namespace Go.Proofs.YthnenjodighlmaaGreat
open Go Go.RowKit Sym
set_option maxRecDepth 100000

def fmBad (s : Sh) : Bool := orB (orB (orB (orB (orB (andB (s.k != 6) (decide ((s.n : Int) > 0))) (andB (s.k != 2) (decide ((s.l.n : Int) > 0)))) (andB (s.k != 5) (!(ptEq s.c ⟨0, 0⟩)))) (!(nearF s.a))) (!(nearF s.b))) (!(nearF s.c))
def fmR1 (s : Sh) : Bool := andB (decide (s.r ≥ 1)) (decide (s.r ≤ 536870912))
def fmP (s : Sh) : Bool := andB (andB (andB (andB (s.r == 0) (ptEq s.a ⟨0, 0⟩)) (ptEq s.b ⟨0, 0⟩)) (decide (rPoints s.l ≥ 0))) (decide (rPoints s.l ≤ 1000))
def fmB6 (s : Sh) (d : Int) : Bool := orB (orB (orB (s.r != 0) (!(ptEq s.a ⟨0, 0⟩))) (!(ptEq s.b ⟨0, 0⟩))) (decide (d < 1))
def fmG (g : Sh → Int → Bool) (sh : Nat → Sh) (d : Int) (i : Nat) (_ : Unit) : Bool × Unit := (g (sh i) (W (d - 1)), ())
def fmE (g : Sh → Int → Bool) (sh : Nat → Sh) (s : Sh) (d : Int) : Bool :=
  bif fmBad s then false else bif s.k == 1 then andB (fmR1 s) (ptEq s.b ⟨0, 0⟩) else bif s.k == 2 then fmP s else bif s.k == 3 then fmR1 s else bif s.k == 4 then andB (fmR1 s) (!(ptEq s.a s.b)) else
  bif s.k == 5 then andB (fmR1 s) (rRingOk s.c s.a s.b) else bif s.k == 6 then (bif fmB6 s d then false else (runN (fmG g sh d) () s.n).1) else false
def RFmOk (x : Sh) (g : Sh → Int → Bool) : Prop := ∀ d, Dyn.CallD Tryz.prog 43 [dvS x, dvI d] (rB (g x d))
def tdFm (Pd : Sh → Prop) (g : Sh → Int → Bool) : List Dyn.EntryD := [(56, en1D (qAnd qC CtrB) fun l => rI (rPoints l)), (43, en2D (qAnd qS Pd) qI fun x d => rB (g x d))]
def tabFm (Pd : Sh → Prop) (g : Sh → Int → Bool) : Dyn.Tabs := Dyn.tabs tbR (tdFm Pd g) noD dtyS
theorem tabFm_ok {Pd : Sh → Prop} {g : Sh → Int → Bool} (ih : ∀ x, Pd x → RFmOk x g) : Dyn.TabsOk Tryz.prog (tabFm Pd g) :=
  Dyn.tabs_ok tbR_ok (List.forall_mem_cons.2 ⟨en1D_ok (qAnd_ok qC_ok) fun l h => rPoints_ok l h.1, List.forall_mem_cons.2 ⟨en2D_ok (qAnd_ok qS_ok) qI_ok fun x d h _ => ih x h.1 d, fun _ h => by cases h⟩⟩)
def fmS (s : Sh) (d i : Int) : Dyn.St := mkS 169 [(1, sI d), (2, sL 1), (4, .k (vb false)), (8, sI i)] [some (.deep (cS s)), some (.cells 45 (shV 0 8 s))]
def fmR (_ : Unit) : Dyn.St := mkS 169 [(4, .k (vb false))] []
def fmK : List Nat := [1, 2, 4, 8]
def fmLp (g : Sh → Int → Bool) (sh : Nat → Sh) (s : Sh) (d : Int) : Dyn.Lp := fun id st => match id with
  | 1 => some (.side [keepA 169 [0, 1] [] fmK (2 ^ 8) st = fmS s d 0] (.ite (runN (fmG g sh d) () s.n).1 (.leaf .normal (fmS s d s.n)) (.leaf .ret (fmR ()))))
  | _ => none
def fmB (Pd : Sh → Prop) (g : Sh → Int → Bool) (sh : Nat → Sh) (s : Sh) (d : Int) (i : Nat) : Dyn.Out :=
  .ite (decide ((i : Int) < s.n)) (.side [0 ≤ (i : Int) ∧ (i : Int) < s.n, Pd (sh i), ctrSelf (sh i).l] (.ite (!(g (sh i) (W (d - 1)))) (.leaf .ret (fmR ())) (.leaf .normal (fmS s d (W ((i : Int) + 1)))))) (.leaf (.exit 1) (fmS s d i))
theorem fm_B (Pd : Sh → Prop) (g : Sh → Int → Bool) (k : Int) (a b c : P2) (r : Int) (l : Ctr) (n : Nat) (add : Nat → Bool) (sh : Nat → Sh) (d : Int) (i : Nat) :
    (Dyn.lexec Tryz.prog (tabFm Pd g) (fmLp g sh (mkSh k a b c r l n add sh) d) 3 (unloopD (blkD Tryz.f43.body 1)) .leaf (fmS (mkSh k a b c r l n add sh) d i)).rl (keepR 169 [0, 1] [] fmK [4]) = fmB Pd g sh (mkSh k a b c r l n add sh) d i := by kernel_rfl
theorem fm_blocks : blocksL (bodyD Tryz.f43.body) = [(0, blkD Tryz.f43.body 0), (1, .loop (unloopD (blkD Tryz.f43.body 1))), (2, blkD Tryz.f43.body 2)] := by kernel_rfl
theorem fm_b1 : blocksL (unloopD (blkD Tryz.f43.body 1)) = [(2, blkD Tryz.f43.body 2)] := by kernel_rfl
theorem fm_loop {Pd : Sh → Prop} {g : Sh → Int → Bool} (ih : ∀ x, Pd x → RFmOk x g) (k : Int) (a b c : P2) (r : Int) (l : Ctr) (n : Nat) (add : Nat → Bool) (sh : Nat → Sh) (hn : n ≤ 1000000000) (hP : ∀ i, i < n → Pd (sh i)) (d : Int) (w0 : Dyn.Base Tryz.prog) (s : Dyn.St) (o : Dyn.Out)
    (h : fmLp g sh (mkSh k a b c r l n add sh) d 1 s = some o) : Dyn.BlockSound Tryz.prog w0 1 (.loop (unloopD (blkD Tryz.f43.body 1))) s o := by
  simp only [fmLp, Option.some.injEq] at h
  subst h
  refine side_one fun hS => ?_
  refine run_block (fuel := 3) (tabFm_ok ih) mo (lp := fmLp g sh (mkSh k a b c r l n add sh) d) (by rw [fm_b1]; exact lpOk_cons (fun s o h => by cases h) lpOk_nil) (fun t (_ : Unit) => fmS (mkSh k a b c r l n add sh) d t) n (fmG g sh d) () fmR (keepR 169 [0, 1] [] fmK [4]) (keepR_ent 169 _ _ _ _) (fun t _ => fmB Pd g sh (mkSh k a b c r l n add sh) d t) (fun t _ => fm_B Pd g k a b c r l n add sh d t) (fun t q ht ha => ?_) (fun q ha => ?_) (hS ▸ keepA_ent 169 _ _ _ _ s)
  · have e1 : W ((t : Int) + 1) = ((t + 1 : Nat) : Int) := by rw [W_id (by omega) (by omega)]; omega
    unfold fmB fmG
    refine ⟨fun _ => ⟨⟨⟨by omega, by show (t : Int) < (n : Int); omega⟩, hP _ ht, ctrSelf_ok _, trivial⟩, fun hx => .inr ⟨rfl, by simpa using hx, Dyn.Fits.refl _⟩, fun hx => .inl ⟨rfl, by simpa using hx, ?_⟩⟩, fun hf => ?_⟩
    · rw [e1]; exact Dyn.Fits.refl _
    · rw [decide_eq_false_iff_not] at hf; exact absurd (show (t : Int) < (n : Int) by omega) hf
  · refine ⟨fun ht => ?_, fun _ => ⟨rfl, Dyn.Fits.refl _⟩⟩
    rw [decide_eq_true_eq] at ht; exact absurd (show (n : Int) < (n : Int) from ht) (by omega)
def fmO (g : Sh → Int → Bool) (sh : Nat → Sh) (s : Sh) (d : Int) : Dyn.RO :=
  .ite (fmBad s) (.leaf (rB false)) (.ite (s.k == 1) (.leaf (rB (andB (fmR1 s) (ptEq s.b ⟨0, 0⟩)))) (.ite (s.k == 2) (.side [CtrB s.l, ctrSelf s.l] (.leaf (rB (fmP s)))) (.ite (s.k == 3) (.leaf (rB (fmR1 s))) (.ite (s.k == 4) (.leaf (rB (andB (fmR1 s) (!(ptEq s.a s.b))))) (.ite (s.k == 5) (.leaf (rB (andB (fmR1 s) (rRingOk s.c s.a s.b)))) (.ite (s.k == 6) (.ite (fmB6 s d) (.leaf (rB false)) (.side [fmS s d 0 = fmS s d 0] (.ite (runN (fmG g sh d) () s.n).1 (.leaf (rB true)) (.leaf (rB false))))) (.leaf (rB false))))))))
theorem fm_O (Pd : Sh → Prop) (g : Sh → Int → Bool) (sh : Nat → Sh) (s : Sh) (d : Int) : (Dyn.dfun Tryz.prog (tabFm Pd g) (fmLp g sh s d) 3 Tryz.f43 [dvS s, dvI d]).ro Tryz.prog Tryz.f43.results = fmO g sh s d := by kernel_rfl
theorem fm_sat (g : Sh → Int → Bool) (sh : Nat → Sh) (s : Sh) (hl : CtrB s.l) (d : Int) : (fmO g sh s d).sat fun r => Dyn.RVLe r (rB (fmE g sh s d)) := by
  unfold fmE fmO
  refine ⟨fun h => ?_, fun h => ⟨fun h1 => ?_, fun h1 => ⟨fun h2 => ⟨⟨hl, ctrSelf_ok _, trivial⟩, ?_⟩, fun h2 => ⟨fun h3 => ?_, fun h3 => ⟨fun h4 => ?_, fun h4 => ⟨fun h5 => ?_, fun h5 => ⟨fun h6 => ⟨fun h7 => ?_, fun h7 => ⟨⟨rfl, trivial⟩, fun h8 => ?_, fun h8 => ?_⟩⟩, fun h6 => ?_⟩⟩⟩⟩⟩⟩⟩
  · rw [h]; exact ro_leaf rfl
  · rw [h, h1]; exact ro_leaf rfl
  · rw [h, h1, h2]; exact ro_leaf rfl
  · rw [h, h1, h2, h3]; exact ro_leaf rfl
  · rw [h, h1, h2, h3, h4]; exact ro_leaf rfl
  · rw [h, h1, h2, h3, h4, h5]; exact ro_leaf rfl
  · rw [h, h1, h2, h3, h4, h5, h6, h7]; exact ro_leaf rfl
  · rw [h, h1, h2, h3, h4, h5, h6, h7, h8]; exact ro_leaf rfl
  · rw [h, h1, h2, h3, h4, h5, h6, h7, h8]; exact ro_leaf rfl
  · rw [h, h1, h2, h3, h4, h5, h6]; exact ro_leaf rfl
theorem fm_lvl {Pd : Sh → Prop} {g : Sh → Int → Bool} (ih : ∀ x, Pd x → RFmOk x g) (k : Int) (a b c : P2) (r : Int) (l : Ctr) (n : Nat) (add : Nat → Bool) (sh : Nat → Sh) (hl : CtrB l) (hn : n ≤ 1000000000) (hP : ∀ i, i < n → Pd (sh i)) (d : Int) :
    Dyn.CallD Tryz.prog 43 [dvS (mkSh k a b c r l n add sh), dvI d] (rB (fmE g sh (mkSh k a b c r l n add sh) d)) :=
  Dyn.dcontract (lp := fmLp g sh (mkSh k a b c r l n add sh) d) (fuel := 3) (tabFm_ok ih) mo Tryz.func43 (by kernel_rfl) (c := bodyD Tryz.f43.body) (by kernel_rfl)
    (fun w0 => by rw [fm_blocks]; exact lpOk_cons (fun s o h => by cases h) (lpOk_cons (fm_loop ih k a b c r l n add sh hn hP d w0) (lpOk_cons (fun s o h => by cases h) lpOk_nil)))
    (by kernel_rfl) (fm_O Pd g sh _ d) (fm_sat g sh _ hl d)
def rFm : Shp → Int → Bool
  | .nil, _ => false
  | .mk k a b c r l n _ sub, d =>
    let s : Sh := ⟨k, a, b, c, r, l, n, fun _ => []⟩
    bif fmBad s then false else bif k == 1 then andB (fmR1 s) (ptEq b ⟨0, 0⟩) else bif k == 2 then fmP s else bif k == 3 then fmR1 s else bif k == 4 then andB (fmR1 s) (!(ptEq a b)) else
    bif k == 5 then andB (fmR1 s) (rRingOk c a b) else bif k == 6 then (bif fmB6 s d then false else (runN (fun i (_ : Unit) => (rFm (sub i) (W (d - 1)), ())) () n).1) else false
noncomputable def rFmE (x : Sh) (d : Int) : Bool := rFm (ofSh x) d
theorem rFmE_eq (s : Shp) (d : Int) : rFmE (toSh s) d = rFm s d := by unfold rFmE; rw [ofSh_toSh]
theorem rFm_lvl (k : Int) (a b c : P2) (r : Int) (l : Ctr) (n : Nat) (add : Nat → Bool) (sub : Nat → Shp) (d : Int) : rFm (.mk k a b c r l n add sub) d = fmE rFmE (fun i => toSh (sub i)) (toSh (.mk k a b c r l n add sub)) d := by
  unfold fmE fmG
  simp only [rFmE_eq]
  rfl
theorem rFm_ok : ∀ s : Shp, ShB s → RFmOk (toSh s) rFmE := by
  intro s
  induction s with
  | nil => intro h; exact h.elim
  | mk k a b c r l n add sub ih =>
    intro h d
    rw [rFmE_eq, rFm_lvl]
    exact fm_lvl (Pd := fun x => ∃ i, i < n ∧ x = toSh (sub i)) (fun x hx => by
      obtain ⟨i, hi, rfl⟩ := hx
      exact ih i (h.2.2 i hi)) k a b c r l n add (fun i => toSh (sub i)) h.1 h.2.1 (fun i hi => ⟨i, hi, rfl⟩) d
theorem rFm_all : ∀ x, PdS x → RFmOk x rFmE := fun x hx d => by
  have k := rFm_ok _ hx.1 d
  rw [show rFmE (toSh (ofSh x)) d = rFmE x d by unfold rFmE; rw [ofSh_toSh]] at k
  exact CallD_le (args := dvS (toSh (ofSh x)) :: [dvI d]) ⟨SLe.dv hx.2, Dyn.DVLe.refl _, trivial⟩ k
/-! ### Ok, Has -/
noncomputable def rOkE (x : Sh) : Bool := andB (rFmE x 8) (decide (rCntE x ≤ 1000))
noncomputable def rFigHasE (x : Sh) (p : P2) : Bool := andB (rOkE x) (rHasE x p)
noncomputable def tdRo : List Dyn.EntryD := [(43, en2D (qAnd qS PdS) qI fun x d => rB (rFmE x d)), (44, en1D (qAnd qS PdS) fun x => rI (rCntE x))]
noncomputable def tabRo : Dyn.Tabs := Dyn.tabs tbR tdRo noD noD
theorem tabRo_ok : Dyn.TabsOk Tryz.prog tabRo := Dyn.tabs_ok tbR_ok (List.forall_mem_cons.2 ⟨en2D_ok (qAnd_ok qS_ok) qI_ok fun x d h _ => rFm_all x h.1 d, List.forall_mem_cons.2 ⟨en1D_ok (qAnd_ok qS_ok) fun x h => rCnt_all x h.1, fun _ h => by cases h⟩⟩)
theorem rOk_ok (x : Sh) (h : PdS x) : Dyn.CallD Tryz.prog 34 [dvS x] (rB (rOkE x)) :=
  Dyn.dcontractV (lp := Dyn.noLp) (fuel := 3) tabRo_ok mo Tryz.func34 (by kernel_rfl) (c := bodyD Tryz.f34.body) (by kernel_rfl) (fun w0 => Dyn.noLp_ok _ w0) (by kernel_rfl) (by kernel_rfl) (show _ = [PdS x, ctrSelf x.l, some (rFmE x 8) = some true ∧ True → allP [PdS x, ctrSelf x.l]] by kernel_rfl) ⟨h, ctrSelf_ok _, fun _ => ⟨h, ctrSelf_ok _, trivial⟩, trivial⟩
noncomputable def tdRh2 : List Dyn.EntryD := [(34, en1D (qAnd qS PdS) fun x => rB (rOkE x)), (35, en2D (qAnd qS PdS) qP fun x p => rB (rHasE x p))]
noncomputable def tabRh2 : Dyn.Tabs := Dyn.tabs tbR tdRh2 noD noD
theorem tabRh2_ok : Dyn.TabsOk Tryz.prog tabRh2 := Dyn.tabs_ok tbR_ok (List.forall_mem_cons.2 ⟨en1D_ok (qAnd_ok qS_ok) fun x h => rOk_ok x h.1, List.forall_mem_cons.2 ⟨en2D_ok (qAnd_ok qS_ok) qP_ok fun x p h _ => rHas_all x h.1 p, fun _ h => by cases h⟩⟩)
theorem rFigHas_ok (x : Sh) (h : PdS x) (p : P2) : Dyn.CallD Tryz.prog 20 [dvS x, dvP p] (rB (rFigHasE x p)) :=
  Dyn.dcontractV (lp := Dyn.noLp) (fuel := 3) tabRh2_ok mo Tryz.func20 (by kernel_rfl) (c := bodyD Tryz.f20.body) (by kernel_rfl) (fun w0 => Dyn.noLp_ok _ w0) (by kernel_rfl) (by kernel_rfl) (show _ = [PdS x, ctrSelf x.l, some (rOkE x) = some true ∧ True → allP [PdS x, ctrSelf x.l]] by kernel_rfl) ⟨h, ctrSelf_ok _, fun _ => ⟨h, ctrSelf_ok _, trivial⟩, trivial⟩
end Go.Proofs.YthnenjodighlmaaGreat
