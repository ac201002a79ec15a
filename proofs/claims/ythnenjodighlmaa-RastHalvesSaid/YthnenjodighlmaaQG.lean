/-
  OWN WORK. Joined by merge.py: Rgb.
-/
import Derived.Test.YthnenjodighlmaaQF
/-! ## Rgb -/
namespace Go.Proofs.Ythnenjodighlmaa
open Go Go.RowKit Sym
set_option maxRecDepth 100000

def dtyG (t : TypeId) : Bool := dtyO t || Nat.beq t 103 || Nat.beq t 123
def nilV : Value := .slice none 0 0
def slV (k n : Nat) : Value := .slice (some ⟨k, 0, some 0⟩) n 0
/-! ### reach -/
noncomputable def tdGc : List Dyn.EntryD := [(16, en1D (qAnd qS PdS) fun x => .tup [dvX (figBnd x).1, dvB (figBnd x).2]), (69, en1D (qAnd qS PdS) fun x => rB (hbE x))]
noncomputable def tabGc : Dyn.Tabs := Dyn.tabs tbF tdGc noD dtyG
theorem tabGc_ok : Dyn.TabsOk Try.prog tabGc := Dyn.tabs_ok tbF_ok (List.forall_mem_cons.2 ⟨en1D_ok (qAnd_ok qS_ok) fun x h => figBnd_ok x h.1, List.forall_mem_cons.2 ⟨en1D_ok (qAnd_ok qS_ok) fun x h => hb_all x h.1, fun _ h => by cases h⟩⟩)
noncomputable def gcKp (sh : Nat → Sh) (i : Nat) : Bool := (figBnd (sh i)).2
noncomputable def gcF (add : Nat → Bool) (sh : Nat → Sh) (n : Nat) (j : Nat) : List Dyn.DC := partC (add (kIx (gcKp sh) n j)) (sh (kIx (gcKp sh) n j))
noncomputable def gcH (sh : Nat → Sh) (n : Nat) (j : Nat) : List Dyn.DC := extC (figBnd (sh (kIx (gcKp sh) n j))).1 (hbE (sh (kIx (gcKp sh) n j)))
def gcS0 (s : Sh) (F H : Nat → List Dyn.DC) (c : Nat) (i : Int) : Dyn.St := mkS 39 [(2, sL 1), (3, sL 2), (8, sH 0 0 s.n), (9, sI s.n), (10, sI i)] [some (.deep [.row s.n s.f]), some (.cells 103 [nilV, nilV]), some (.cells 103 [slV 3 c, slV 4 c]), some (.own 62 c F), some (.own 123 c H)]
def gcK : List Nat := [2, 3, 8, 9, 10]
noncomputable def gcS (n : Nat) (add : Nat → Bool) (sh : Nat → Sh) (c : Nat) (i : Int) : Dyn.St := gcS0 (mkL n add sh) (gcF add sh n) (gcH sh n) c i
noncomputable def gcV (n : Nat) (add : Nat → Bool) (sh : Nat → Sh) (c i : Nat) : Dyn.St := gcS0 (mkL n add sh) (Dyn.appF c (gcF add sh n) (fun _ => partC (add i) (sh i))) (Dyn.appF c (gcH sh n) (fun _ => extC (figBnd (sh i)).1 (hbE (sh i)))) (c + 1) (W (i + 1))
noncomputable def gcLp (n : Nat) (add : Nat → Bool) (sh : Nat → Sh) : Dyn.Lp := fun id st => match id with
  | 0 => some (.side [Dyn.nilCell 2 1 123 (gcH sh n) (Dyn.nilCell 2 0 62 (gcF add sh n) (keepA 39 [0, 1, 2] [] gcK (2 ^ 10) st)) = gcS n add sh 0 0] (.leaf .normal (gcS n add sh (kN (gcKp sh) n) n)))
  | _ => none
noncomputable def gcB (n : Nat) (add : Nat → Bool) (sh : Nat → Sh) (c i : Nat) : Dyn.Out :=
  .ite (decide ((i : Int) < (n : Int))) (.side [0 ≤ (i : Int) ∧ (i : Int) < (n : Int)] (.side [PdS (sh i), ctrSelf (sh i).l] (.ite (figBnd (sh i)).2 (.side [szP 120 c] (.side [PdS (sh i), ctrSelf (sh i).l, szP 40 c] (.leaf .normal (gcV n add sh c i)))) (.leaf .normal (gcS n add sh c (W (i + 1))))))) (.leaf (.exit 0) (gcS n add sh c i))
theorem gc_B (n : Nat) (add : Nat → Bool) (sh : Nat → Sh) (c i : Nat) : (Dyn.lexec Try.prog tabGc (gcLp n add sh) 3 (unloopD (blkD Try.f52.body 0)) .leaf (gcS n add sh c i)).rl (keepCR 39 [0, 1, 2] [] [(2, 0), (2, 1)] gcK [] []) = gcB n add sh c i := by kernel_rfl
theorem gc_blocks : blocksL (bodyD Try.f52.body) = [(0, .loop (unloopD (blkD Try.f52.body 0))), (1, blkD Try.f52.body 1)] := by kernel_rfl
theorem gc_b0 : blocksL (unloopD (blkD Try.f52.body 0)) = [(1, blkD Try.f52.body 1)] := by kernel_rfl
theorem gc_loop (n : Nat) (add : Nat → Bool) (sh : Nat → Sh) (hn : n ≤ 1000000000) (hP : ∀ i, i < n → PdS (sh i)) (w0 : Dyn.Base Try.prog) (st : Dyn.St) (o : Dyn.Out) (h : gcLp n add sh 0 st = some o) : Dyn.BlockSound Try.prog w0 0 (.loop (unloopD (blkD Try.f52.body 0))) st o := by
  simp only [gcLp, Option.some.injEq] at h
  subst h
  refine side_one fun hS => ?_
  refine fold_block (fuel := 3) tabGc_ok mo (lp := gcLp n add sh) (by rw [gc_b0]; exact lpOk_cons (fun s o h => by cases h) lpOk_nil) (fun i (_ : Unit) => gcS n add sh (kN (gcKp sh) i) i) n (fun _ _ => ()) () (keepCR 39 [0, 1, 2] [] [(2, 0), (2, 1)] gcK [] []) (keepCR_ent 39 _ _ _ _ _ _) (fun i _ => gcB n add sh (kN (gcKp sh) i) i) (fun i _ => gc_B n add sh (kN (gcKp sh) i) i) (fun i hi => ?_) ?_ (hS ▸ ((keepA_ent 39 _ _ _ _ st).trans (Dyn.Ent.nilCell (P := Try.prog) (k := 10) (by kernel_rfl) _ _)).trans (Dyn.Ent.nilCell (P := Try.prog) (k := 4) (by kernel_rfl) _ _))
  · have hk := kN_le (gcKp sh) i
    refine ⟨fun _ => ⟨⟨⟨by omega, by omega⟩, trivial⟩, ⟨hP i hi, ctrSelf_ok _, trivial⟩, fun hx => ⟨⟨szP_ok (by decide) (by omega), trivial⟩, ⟨hP i hi, ctrSelf_ok _, szP_ok (by decide) (by omega), trivial⟩, rfl, ?_⟩, fun hx => ⟨rfl, ?_⟩⟩, fun hf => ?_⟩
    · unfold gcV
      rw [Wn1 hi hn, kN_step (gcKp sh) hx]
      have e := kIx_at (gcKp sh) hx hi
      exact ⟨rfl, Dyn.HeLe.refl _, Dyn.HeLe.refl _, Dyn.HeLe.refl _, le_app (by unfold gcF; rw [e]), le_app (by unfold gcH; rw [e]), trivial⟩
    · rw [Wn1 hi hn, kN_skip (gcKp sh) hx]; exact Dyn.Fits.refl _
    · rw [decide_eq_false_iff_not] at hf
      exact absurd (show (i : Int) < (n : Int) by omega) hf
  · refine ⟨fun ht => ?_, fun _ => ⟨rfl, Dyn.Fits.refl _⟩⟩
    rw [decide_eq_true_eq] at ht
    exact absurd (show (n : Int) < (n : Int) from ht) (by omega)
noncomputable def gcR (n : Nat) (add : Nat → Bool) (sh : Nat → Sh) : Dyn.RV := .val (dvG ⟨kN (gcKp sh) n, gcF add sh n, kN (gcKp sh) n, gcH sh n⟩)
theorem gc_O (n : Nat) (add : Nat → Bool) (sh : Nat → Sh) : (Dyn.dfun Try.prog tabGc (gcLp n add sh) 3 Try.f52 [dvL (mkL n add sh)]).ro Try.prog Try.f52.results = .side [gcS n add sh 0 0 = gcS n add sh 0 0] (.leaf (gcR n add sh)) := by kernel_rfl
theorem gc_lvl (n : Nat) (add : Nat → Bool) (sh : Nat → Sh) (hn : n ≤ 1000000000) (hP : ∀ i, i < n → PdS (sh i)) : Dyn.CallD Try.prog 52 [dvL (mkL n add sh)] (gcR n add sh) :=
  Dyn.dcontract (lp := gcLp n add sh) (fuel := 3) tabGc_ok mo Try.func52 (by kernel_rfl) (c := bodyD Try.f52.body) (by kernel_rfl)
    (fun w0 => by rw [gc_blocks]; exact lpOk_cons (gc_loop n add sh hn hP w0) (lpOk_cons (fun s o h => by cases h) lpOk_nil))
    (by kernel_rfl) (gc_O n add sh) ⟨⟨rfl, trivial⟩, ro_leaf rfl⟩
theorem greach_ok : ∀ s : Shp, ShB s → Dyn.CallD Try.prog 52 [dvL (toSh s)] (.val (dvG (toG (reachF s)))) := by
  intro s h
  cases s with
  | nil => exact h.elim
  | mk k a b c r l n add sub =>
    have q := gc_lvl n add (fun i => toSh (sub i)) h.2.1 fun i hi => PdS_mk (h.2.2 i hi)
    unfold gcR gcF gcH at q
    have e : gcKp (fun i => toSh (sub i)) = rchK (.mk k a b c r l n add sub) := funext fun i => by unfold gcKp rchK; rw [figBnd_C]; rfl
    rw [e] at q
    simp only [figBnd_C, hbE_eq] at q
    exact q
/-! ### near -/
def gnKp (B : Nat → B4) (q : Nat → Bool) (b : B4) (i : Nat) : Bool := bif q i then true else !(apart (B i) b)
def gnF0 (add : Nat → Bool) (sh : Nat → Sh) (i : Nat) : List Dyn.DC := partC (add i) (sh i)
def gnH0 (B : Nat → B4) (q : Nat → Bool) (i : Nat) : List Dyn.DC := extC (B i) (q i)
def gnF (add : Nat → Bool) (sh : Nat → Sh) (B : Nat → B4) (q : Nat → Bool) (b : B4) (n : Nat) (j : Nat) : List Dyn.DC := gnF0 add sh (kIx (gnKp B q b) n j)
def gnH (B : Nat → B4) (q : Nat → Bool) (b : B4) (n : Nat) (j : Nat) : List Dyn.DC := gnH0 B q (kIx (gnKp B q b) n j)
def tabGn : Dyn.Tabs := Dyn.tabs tbF [] noD dtyG
theorem tabGn_ok : Dyn.TabsOk Try.prog tabGn := Dyn.tabs_ok tbF_ok (fun _ h => by cases h)
def gnS0 (n : Nat) (f h : Nat → List Dyn.DC) (b : B4) (F H : Nat → List Dyn.DC) (c : Nat) (i : Int) : Dyn.St := mkS 43 [(2, sL 1), (3, sL 2), (4, sL 3), (5, sL 4), (9, sH 0 1 n), (10, sI n), (11, sI i)]
  [some (.deep [.row n f, .row n h]), some (.cells 103 [.slice (some ⟨0, 0, some 0⟩) n 0, .slice (some ⟨0, 1, some 0⟩) n 0]), some (.cells 40 (bxV b)), some (.cells 103 [nilV, nilV]), some (.cells 103 [slV 5 c, slV 6 c]), some (.own 62 c F), some (.own 123 c H)]
def gnK : List Nat := [2, 3, 4, 5, 9, 10, 11]
def gnS (n : Nat) (add : Nat → Bool) (sh : Nat → Sh) (B : Nat → B4) (q : Nat → Bool) (b : B4) (c : Nat) (i : Int) : Dyn.St := gnS0 n (gnF0 add sh) (gnH0 B q) b (gnF add sh B q b n) (gnH B q b n) c i
def gnV (n : Nat) (add : Nat → Bool) (sh : Nat → Sh) (B : Nat → B4) (q : Nat → Bool) (b : B4) (c i : Nat) : Dyn.St := gnS0 n (gnF0 add sh) (gnH0 B q) b (Dyn.appF c (gnF add sh B q b n) (fun _ => gnF0 add sh i)) (Dyn.appF c (gnH B q b n) (fun _ => gnH0 B q i)) (c + 1) (W (i + 1))
def gnLp (n : Nat) (add : Nat → Bool) (sh : Nat → Sh) (B : Nat → B4) (q : Nat → Bool) (b : B4) : Dyn.Lp := fun id st => match id with
  | 0 => some (.side [Dyn.nilCell 4 1 123 (gnH B q b n) (Dyn.nilCell 4 0 62 (gnF add sh B q b n) (keepA 43 [0, 1, 2, 3, 4] [] gnK (2 ^ 11) st)) = gnS n add sh B q b 0 0] (.leaf .normal (gnS n add sh B q b (kN (gnKp B q b) n) n)))
  | _ => none
def gnB (n : Nat) (add : Nat → Bool) (sh : Nat → Sh) (B : Nat → B4) (q : Nat → Bool) (b : B4) (c i : Nat) : Dyn.Out :=
  .ite (decide ((i : Int) < (n : Int))) (.side [0 ≤ (i : Int) ∧ (i : Int) < (n : Int)] (.ite (gnKp B q b i) (.side [0 ≤ (i : Int) ∧ (i : Int) < (n : Int), szP 120 c] (.side [szP 40 c] (.leaf .normal (gnV n add sh B q b c i)))) (.leaf .normal (gnS n add sh B q b c (W (i + 1)))))) (.leaf (.exit 0) (gnS n add sh B q b c i))
theorem gn_B (n : Nat) (add : Nat → Bool) (sh : Nat → Sh) (B : Nat → B4) (q : Nat → Bool) (b : B4) (c i : Nat) : (Dyn.lexec Try.prog tabGn (gnLp n add sh B q b) 3 (unloopD (blkD Try.f53.body 0)) .leaf (gnS n add sh B q b c i)).rl (keepCR 43 [0, 1, 2, 3, 4] [] [(4, 0), (4, 1)] gnK [] []) = gnB n add sh B q b c i := by kernel_rfl
theorem gn_blocks : blocksL (bodyD Try.f53.body) = [(0, .loop (unloopD (blkD Try.f53.body 0))), (1, blkD Try.f53.body 1)] := by kernel_rfl
theorem gn_b0 : blocksL (unloopD (blkD Try.f53.body 0)) = [(1, blkD Try.f53.body 1)] := by kernel_rfl
theorem gn_loop (n : Nat) (add : Nat → Bool) (sh : Nat → Sh) (B : Nat → B4) (q : Nat → Bool) (b : B4) (hn : n ≤ 1000000000) (w0 : Dyn.Base Try.prog) (st : Dyn.St) (o : Dyn.Out) (h : gnLp n add sh B q b 0 st = some o) : Dyn.BlockSound Try.prog w0 0 (.loop (unloopD (blkD Try.f53.body 0))) st o := by
  simp only [gnLp, Option.some.injEq] at h
  subst h
  refine side_one fun hS => ?_
  refine fold_block (fuel := 3) tabGn_ok mo (lp := gnLp n add sh B q b) (by rw [gn_b0]; exact lpOk_cons (fun s o h => by cases h) lpOk_nil) (fun i (_ : Unit) => gnS n add sh B q b (kN (gnKp B q b) i) i) n (fun _ _ => ()) () (keepCR 43 [0, 1, 2, 3, 4] [] [(4, 0), (4, 1)] gnK [] []) (keepCR_ent 43 _ _ _ _ _ _) (fun i _ => gnB n add sh B q b (kN (gnKp B q b) i) i) (fun i _ => gn_B n add sh B q b (kN (gnKp B q b) i) i) (fun i hi => ?_) ?_ (hS ▸ ((keepA_ent 43 _ _ _ _ st).trans (Dyn.Ent.nilCell (P := Try.prog) (k := 10) (by kernel_rfl) _ _)).trans (Dyn.Ent.nilCell (P := Try.prog) (k := 4) (by kernel_rfl) _ _))
  · have hk := kN_le (gnKp B q b) i
    refine ⟨fun _ => ⟨⟨⟨by omega, by omega⟩, trivial⟩, fun hx => ⟨⟨⟨by omega, by omega⟩, szP_ok (by decide) (by omega), trivial⟩, ⟨szP_ok (by decide) (by omega), trivial⟩, rfl, ?_⟩, fun hx => ⟨rfl, ?_⟩⟩, fun hf => ?_⟩
    · unfold gnV
      rw [Wn1 hi hn, kN_step (gnKp B q b) hx]
      have e := kIx_at (gnKp B q b) hx hi
      exact ⟨rfl, Dyn.HeLe.refl _, Dyn.HeLe.refl _, Dyn.HeLe.refl _, Dyn.HeLe.refl _, Dyn.HeLe.refl _, le_app (by unfold gnF; rw [e]), le_app (by unfold gnH; rw [e]), trivial⟩
    · rw [Wn1 hi hn, kN_skip (gnKp B q b) hx]; exact Dyn.Fits.refl _
    · rw [decide_eq_false_iff_not] at hf
      exact absurd (show (i : Int) < (n : Int) by omega) hf
  · refine ⟨fun ht => ?_, fun _ => ⟨rfl, Dyn.Fits.refl _⟩⟩
    rw [decide_eq_true_eq] at ht
    exact absurd (show (n : Int) < (n : Int) from ht) (by omega)
def gnR (n : Nat) (add : Nat → Bool) (sh : Nat → Sh) (B : Nat → B4) (q : Nat → Bool) (b : B4) : Dyn.RV := .val (dvG ⟨kN (gnKp B q b) n, gnF add sh B q b n, kN (gnKp B q b) n, gnH B q b n⟩)
theorem gn_O (n : Nat) (add : Nat → Bool) (sh : Nat → Sh) (B : Nat → B4) (q : Nat → Bool) (b : B4) : (Dyn.dfun Try.prog tabGn (gnLp n add sh B q b) 3 Try.f53 [dvG ⟨n, gnF0 add sh, n, gnH0 B q⟩, dvX b]).ro Try.prog Try.f53.results = .side [gnS n add sh B q b 0 0 = gnS n add sh B q b 0 0] (.leaf (gnR n add sh B q b)) := by kernel_rfl
theorem gn_lvl (n : Nat) (add : Nat → Bool) (sh : Nat → Sh) (B : Nat → B4) (q : Nat → Bool) (b : B4) (hn : n ≤ 1000000000) : Dyn.CallD Try.prog 53 [dvG ⟨n, gnF0 add sh, n, gnH0 B q⟩, dvX b] (gnR n add sh B q b) :=
  Dyn.dcontract (lp := gnLp n add sh B q b) (fuel := 3) tabGn_ok mo Try.func53 (by kernel_rfl) (c := bodyD Try.f53.body) (by kernel_rfl)
    (fun w0 => by rw [gn_blocks]; exact lpOk_cons (gn_loop n add sh B q b hn w0) (lpOk_cons (fun s o h => by cases h) lpOk_nil))
    (by kernel_rfl) (gn_O n add sh B q b) ⟨⟨rfl, trivial⟩, ro_leaf rfl⟩
theorem near_ok0 (s : Shp) (h : nuO s ≤ 1000000000) (b : B4) : Dyn.CallD Try.prog 53 [dvG (toG s), dvX b] (.val (dvG (toG (nearG s b)))) :=
  gn_lvl (nuO s) (adO s) (fun i => toSh (suO s i)) (fun i => (figBndC (suO s i)).1) (fun i => hbF (suO s i)) b h
/-! ### groups that show objects -/
def PdG (x : Gr) : Prop := PdS (obX x.n x.f) ∧ x.m = x.n ∧ ∀ i, i < x.n → x.h i = extC (figBndC (suO (ofG x) i)).1 (hbF (suO (ofG x) i))
theorem PdG_mk {s : Shp} (h : ShB (lst s)) : PdG (toG s) := by
  refine ⟨PdS_mk (s := lst s) h, rfl, fun i hi => ?_⟩
  rw [ofG_toG]; rfl
theorem obX_nu {n : Nat} {f : Nat → List Dyn.DC} (h : PdS (obX n f)) : nuO (ofSh (obX n f)) = n ∧ ∀ i, i < n → f i = partC (adO (ofSh (obX n f)) i) (toSh (suO (ofSh (obX n f)) i)) := by
  have k := h.2
  cases e : ofSh (obX n f) with
  | nil => have := h.1; rw [e] at this; exact this.elim
  | mk k' a b c r l m add sub =>
    rw [e] at k
    obtain ⟨_, _, _, _, _, _, k7, k8⟩ := k
    have k7 : n = m := k7
    exact ⟨k7.symm, fun i hi => k8 i hi⟩
theorem PdG.le {x : Gr} (h : PdG x) : Dyn.DVLe (dvG x) (dvG (toG (ofG x))) := by
  have k := obX_nu h.1
  exact ⟨⟨k.1.symm, k.2⟩, ⟨h.2.1.trans k.1.symm, fun i hi => h.2.2 i (by rw [← h.2.1]; exact hi)⟩, trivial⟩
theorem PdG.B {x : Gr} (h : PdG x) : ShB (ofG x) := h.1.1
theorem lst_B {s : Shp} (h : ShB s) : ShB (lst s) := by
  cases s with
  | nil => exact h.elim
  | mk k a b c r l n add sub => exact ⟨CtrB_ze, h.2.1, h.2.2⟩
theorem fil_B {s : Shp} (h : ShB s) (keep : Nat → Bool) : ShB (filL keep s) := by
  cases s with
  | nil => exact h.elim
  | mk k a b c r l n add sub =>
    refine ⟨CtrB_ze, Nat.le_trans (kN_le keep n) h.2.1, fun i hi => ?_⟩
    exact h.2.2 _ (kIx_lt keep hi).1
theorem ShB_nu {s : Shp} (h : ShB s) : nuO s ≤ 1000000000 := by
  cases s with
  | nil => exact h.elim
  | mk k a b c r l n add sub => exact h.2.1
noncomputable def nearE (x : Gr) (b : B4) : Gr := toG (nearG (ofG x) b)
theorem nearE_Pd {x : Gr} (h : PdG x) (b : B4) : PdG (nearE x b) := PdG_mk (lst_B (fil_B h.B _))
theorem gnear_all (x : Gr) (h : PdG x) (b : B4) : Dyn.CallD Try.prog 53 [dvG x, dvX b] (.val (dvG (nearE x b))) :=
  CallD_le (args := [dvG (toG (ofG x)), dvX b]) ⟨h.le, Dyn.DVLe.refl _, trivial⟩ (near_ok0 (ofG x) (ShB_nu h.B) b)
noncomputable def reachE (x : Sh) : Gr := toG (reachF (ofSh x))
theorem reachE_Pd {x : Sh} (h : PdS x) : PdG (reachE x) := PdG_mk (lst_B (fil_B h.1 _))
theorem greach_all (x : Sh) (h : PdS x) : Dyn.CallD Try.prog 52 [dvL x] (.val (dvG (reachE x))) :=
  CallD_le (args := [dvL (toSh (ofSh x))]) ⟨SLe.dvL h.2, trivial⟩ (greach_ok (ofSh x) h.1)
end Go.Proofs.Ythnenjodighlmaa
