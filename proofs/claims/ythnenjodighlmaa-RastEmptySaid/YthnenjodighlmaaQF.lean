/-
  OWN WORK. Joined by merge.py: Tam Sam San Tua Tub Roe Pia Rof Tuc Bou Rpl Rga Rgb.
-/
import Derived.Test.YthnenjodighlmaaQE
/-! ## Tam -/
namespace Go.Proofs.Ythnenjodighlmaa
open Go Go.RowKit Sym
set_option maxRecDepth 100000

def tbT : List Entry := (37, en5 dP dI dI dI dB (fun c f t s sm => .tuple ⟨[pt (arcC c sm), pt (arcAt c f s sm), pt (arcAt c t s sm)]⟩)) :: tbF
theorem tbT_ok : ∀ e ∈ tbT, EntryOk Try.prog e := List.forall_mem_cons.2 ⟨en5_ok dP_eq dI_eq dI_eq dI_eq dB_eq arc_ok, tbF_ok⟩
def atP (p : P2) (sm : Bool) : P2 := ⟨bif sm then (lClose p 20).x else (lPt p).x, bif sm then (lClose p 20).y else (lPt p).y⟩
def dptB (q : Bool) : Dyn.DV := .one (.ptr [.p (vb q)])
def enPb (F : P2 → Bool → Dyn.RV) : List Dyn.DV → Option (Dyn.RV × List Prop)
  | [.agg [.p (.int .i64 x), .p (.int .i64 y)], .one (.ptr [.p (.bool q)])] => some (F ⟨x, y⟩ q, [])
  | _ => none
theorem enPb_ok {P : Program} {K : Nat} {F : P2 → Bool → Dyn.RV} (h : ∀ x u, Dyn.CallD P K [dvP x, dptB u] (F x u)) : Dyn.EntryDOk P (K, enPb F) := fun args r ps hr hp => by
  dsimp only at hr
  unfold enPb at hr
  split at hr
  · simp only [Option.some.injEq, Prod.mk.injEq] at hr
    obtain ⟨rfl, rfl⟩ := hr
    rename_i x y u
    exact h ⟨x, y⟩ u
  · cases hr
def RV.pt (p : P2) : Dyn.RV := .val (dvP p)
def tabA1 : Dyn.Tabs := Dyn.tabs tbT [] noD noD
theorem tabA1_ok : Dyn.TabsOk Try.prog tabA1 := Dyn.tabs_ok tbT_ok (fun _ h => by cases h)
theorem at_O (p : P2) (sm : Bool) : (Dyn.dfun Try.prog tabA1 Dyn.noLp 3 Try.f35 [dvP p, dptB sm]).ro Try.prog Try.f35.results = .ite sm (.side [W (20 + 1) ≠ 0] (.leaf (RV.pt (lClose p 20)))) (.leaf (RV.pt (lPt p))) := by kernel_rfl
theorem at_ok (p : P2) (sm : Bool) : Dyn.CallD Try.prog 35 [dvP p, dptB sm] (RV.pt (atP p sm)) :=
  Dyn.dcontract (lp := Dyn.noLp) (fuel := 3) (X := tabA1) tabA1_ok mo Try.func35 (by kernel_rfl) (c := bodyD Try.f35.body) (by kernel_rfl) (fun w0 => Dyn.noLp_ok _ w0)
    (by kernel_rfl) (at_O p sm) ⟨fun h => by subst h; exact ⟨⟨by decide, trivial⟩, ro_leaf rfl⟩, fun h => by subst h; exact ro_leaf rfl⟩
def tdTm (Pd : Sh → Prop) (g : Sh → Bool → Int → Sh) : List Dyn.EntryD := [(35, enPb fun p q => RV.pt (atP p q)), (38, en2D qC qB fun l q => .val (dvC (tameC l q))), (12, en3D (qAnd qS Pd) qB qI fun x q d => .val (dvS (g x q d)))]
def drTm (K : Nat) : Bool := Nat.beq K 12 || Nat.beq K 38
def tabTm (Pd : Sh → Prop) (g : Sh → Bool → Int → Sh) : Dyn.Tabs := Dyn.tabs tbT (tdTm Pd g) drTm dtyS
theorem tabTm_ok {Pd : Sh → Prop} {g : Sh → Bool → Int → Sh} (ih : ∀ x, Pd x → ∀ sm d, Dyn.CallD Try.prog 12 [dvS x, dvB sm, dvI d] (.val (dvS (g x sm d)))) : Dyn.TabsOk Try.prog (tabTm Pd g) :=
  Dyn.tabs_ok tbT_ok (List.forall_mem_cons.2 ⟨enPb_ok at_ok, List.forall_mem_cons.2 ⟨en2D_ok qC_ok qB_ok fun l q _ _ => tame_ok l q, List.forall_mem_cons.2 ⟨en3D_ok (qAnd_ok qS_ok) qB_ok qI_ok fun x q d h _ _ => ih x h.1 q d, fun _ h => by cases h⟩⟩⟩)
/-! ### what it makes -/
def tmK0 (s : Sh) : Int := W ((W (s.k.tmod 6 + 6)).tmod 6 + 1)
def tmKk (s : Sh) (d : Int) : Int := bif bif decide (d > 5) then tmK0 s == 6 else false then 1 else tmK0 s
def tmR (s : Sh) (sm : Bool) : Int := bif sm then W ((lR s.r).tmod 15 + 1) else lR s.r
def eqP (a b : P2) : Bool := bif a.x == b.x then bif a.y == b.y then true else false else false
def tmB (s : Sh) (sm : Bool) : P2 :=
  bif bif eqP (atP s.a sm) (atP s.b sm) then decide ((atP s.b sm).x > 0) else false then ⟨W ((atP s.b sm).x - 1), (atP s.b sm).y⟩ else bif eqP (atP s.a sm) (atP s.b sm) then ⟨W ((atP s.b sm).x + 1), (atP s.b sm).y⟩ else atP s.b sm
def ze : P2 := ⟨0, 0⟩
def zeC : Ctr := ⟨0, fun _ => 0, fun _ _ => ⟨0, 0⟩⟩
def noF (_ : Nat) : List Dyn.DC := []
def tmN (s : Sh) (d : Int) : Nat := min s.n (imax (W (4 - d)) 1).toNat
def tmF (g : Sh → Bool → Int → Sh) (sh : Nat → Sh) (add : Nat → Bool) (sm : Bool) (d : Int) (i : Nat) : List Dyn.DC := partC (add i) (g (sh i) sm (W (d + 1)))
/-- Tame, by what it makes of parts -/
def tameG (g : Sh → Bool → Int → Sh) (sh : Nat → Sh) (add : Nat → Bool) (s : Sh) (sm : Bool) (d : Int) : Sh :=
  bif tmKk s d == 1 then ⟨tmKk s d, atP s.a sm, ze, ze, tmR s sm, zeC, 0, noF⟩
  else bif bif tmKk s d == 3 then tmKk s d == 3 else tmKk s d == 4 then ⟨tmKk s d, atP s.a sm, tmB s sm, ze, tmR s sm, zeC, 0, noF⟩
  else bif tmKk s d == 5 then ⟨tmKk s d, arcAt s.c (band s.a.x 65535) s.b.x sm, arcAt s.c (band s.a.y 65535) s.b.x sm, arcC s.c sm, tmR s sm, zeC, 0, noF⟩
  else bif tmKk s d == 2 then ⟨tmKk s d, ze, ze, ze, 0, tameC s.l sm, 0, noF⟩
  else ⟨tmKk s d, ze, ze, ze, 0, zeC, tmN s d, tmF g sh add sm d⟩
def tmZ : List Value := [vi 0, vi 0, vi 0, vi 0, vi 0, vi 0, vi 0, vi 0, .slice none 0 0, .slice none 0 0]
def tmO10 (k : Int) (nm n : Nat) : List Value := [vi k, vi 0, vi 0, vi 0, vi 0, vi 0, vi 0, vi 0, .slice none 0 0, .slice (some ⟨nm, 0, some 0⟩) n 0]
def tmS (s : Sh) (sm : Bool) (d i : Int) (n : Nat) (f : Nat → List Dyn.DC) : Dyn.St := mkS 154 [(2, sI d), (3, sL 1), (4, sL 2), (6, sL 3), (8, sL 4), (10, sI i)]
  [some (.deep (cS s)), some (.cells 27 (shV 0 8 s)), some (.cells 4 [vb sm]), some (.cells 27 tmZ), some (.cells 27 (tmO10 (tmKk s d) 5 n)), some (.own 35 n f)]
def tmK : List Nat := [2, 3, 4, 6, 8, 10]
def tmLp (g : Sh → Bool → Int → Sh) (sh : Nat → Sh) (add : Nat → Bool) (s : Sh) (sm : Bool) (d : Int) : Dyn.Lp := fun id st => match id with
  | 1 => some (.side [Dyn.nilCell 4 9 35 (tmF g sh add sm d) (keepA 154 [0, 1, 2] [6, 8] tmK (2 ^ 10) st) = tmS s sm d 0 0 (tmF g sh add sm d)] (.leaf .normal (tmS s sm d (tmN s d : Nat) (tmN s d) (tmF g sh add sm d))))
  | _ => none
def tmBd (Pd : Sh → Prop) (g : Sh → Bool → Int → Sh) (sh : Nat → Sh) (add : Nat → Bool) (s : Sh) (sm : Bool) (d : Int) (i : Nat) : Dyn.Out :=
  .ite (bif decide ((i : Int) < s.n) then decide ((i : Int) < imax (W (4 - d)) 1) else false)
    (.side [0 ≤ (i : Int) ∧ (i : Int) < s.n, 0 ≤ (i : Int) ∧ (i : Int) < s.n, Pd (sh i), ctrSelf (sh i).l, szP 120 i] (.leaf .normal (tmS s sm d (W (i + 1)) (i + 1) (Dyn.appF i (tmF g sh add sm d) (fun _ => tmF g sh add sm d i)))))
    (.leaf (.exit 1) (tmS s sm d i i (tmF g sh add sm d)))
theorem tm_Bd (Pd : Sh → Prop) (g : Sh → Bool → Int → Sh) (k : Int) (a b c : P2) (r : Int) (l : Ctr) (n : Nat) (add : Nat → Bool) (sh : Nat → Sh) (sm : Bool) (d : Int) (i : Nat) :
    (Dyn.lexec Try.prog (tabTm Pd g) (tmLp g sh add (mkSh k a b c r l n add sh) sm d) 3 (unloopD (blkD Try.f12.body 1)) .leaf (tmS (mkSh k a b c r l n add sh) sm d i i (tmF g sh add sm d))).rl (keepCR 154 [0, 1, 2, 3, 4] [] [(4, 9)] tmK [] []) = tmBd Pd g sh add (mkSh k a b c r l n add sh) sm d i := by kernel_rfl
theorem tm_blocks : blocksL (bodyD Try.f12.body) = [(0, blkD Try.f12.body 0), (1, .loop (unloopD (blkD Try.f12.body 1))), (2, blkD Try.f12.body 2)] := by kernel_rfl
theorem tm_b1 : blocksL (unloopD (blkD Try.f12.body 1)) = [(2, blkD Try.f12.body 2)] := by kernel_rfl
theorem tm_loop {Pd : Sh → Prop} {g : Sh → Bool → Int → Sh} (ih : ∀ x, Pd x → ∀ sm d, Dyn.CallD Try.prog 12 [dvS x, dvB sm, dvI d] (.val (dvS (g x sm d)))) (k : Int) (a b c : P2) (r : Int) (l : Ctr) (n : Nat) (add : Nat → Bool) (sh : Nat → Sh) (hn : n ≤ 1000000000) (hP : ∀ i, i < n → Pd (sh i)) (sm : Bool) (d : Int) (w0 : Dyn.Base Try.prog) (st : Dyn.St) (o : Dyn.Out)
    (h : tmLp g sh add (mkSh k a b c r l n add sh) sm d 1 st = some o) : Dyn.BlockSound Try.prog w0 1 (.loop (unloopD (blkD Try.f12.body 1))) st o := by
  simp only [tmLp, Option.some.injEq] at h
  subst h
  refine side_one fun hS => ?_
  have hN : tmN (mkSh k a b c r l n add sh) d = min n (imax (W (4 - d)) 1).toNat := rfl
  have hM : 1 ≤ imax (W (4 - d)) 1 := by unfold imax; split <;> omega
  refine fold_block (fuel := 3) (tabTm_ok ih) mo (lp := tmLp g sh add (mkSh k a b c r l n add sh) sm d) (by rw [tm_b1]; exact lpOk_cons (fun s o h => by cases h) lpOk_nil) (fun i (_ : Unit) => tmS (mkSh k a b c r l n add sh) sm d i i (tmF g sh add sm d)) (tmN (mkSh k a b c r l n add sh) d) (fun _ _ => ()) () (keepCR 154 [0, 1, 2, 3, 4] [] [(4, 9)] tmK [] []) (keepCR_ent 154 _ _ _ _ _ _) (fun i _ => tmBd Pd g sh add (mkSh k a b c r l n add sh) sm d i) (fun i _ => tm_Bd Pd g k a b c r l n add sh sm d i) (fun i hi => ?_) ?_ (hS ▸ (keepA_ent 154 _ _ _ _ st).trans (Dyn.Ent.nilCell (P := Try.prog) (k := 10) (by kernel_rfl) _ _))
  · rw [hN] at hi
    refine ⟨fun _ => ⟨⟨⟨by omega, by show (i : Int) < (n : Int); omega⟩, ⟨by omega, by show (i : Int) < (n : Int); omega⟩, hP i (by omega), ctrSelf_ok _, szP_ok (by decide) (by omega), trivial⟩, rfl, ?_⟩, fun hf => ?_⟩
    · rw [Wn1 (show i < n by omega) hn]
      exact ⟨rfl, Dyn.HeLe.refl _, Dyn.HeLe.refl _, Dyn.HeLe.refl _, Dyn.HeLe.refl _, Dyn.HeLe.refl _, le_app rfl, trivial⟩
    · rw [Bool.eq_false_iff] at hf
      exact absurd (and_iff.2 ⟨show (i : Int) < (n : Int) by omega, by omega⟩) hf
  · refine ⟨fun ht => ?_, fun _ => ⟨rfl, Dyn.Fits.refl _⟩⟩
    have ht := and_iff.1 ht
    have h1 : ((tmN (mkSh k a b c r l n add sh) d : Nat) : Int) < (n : Int) := ht.1
    have h2 := ht.2
    rw [hN] at h1 h2
    omega
def rvT (k : Int) (a b c : P2) (r : Int) (L : Dyn.DC) (n : Nat) (f : Nat → List Dyn.DC) : Dyn.RV := .val (.agg [cI k, cI a.x, cI a.y, cI b.x, cI b.y, cI c.x, cI c.y, cI r, L, .row n f])
def nilR : Dyn.DC := .row 0 noF
def tmRk (g : Sh → Bool → Int → Sh) (sh : Nat → Sh) (add : Nat → Bool) (s : Sh) (sm : Bool) (d r : Int) : Dyn.RO :=
  .ite (tmKk s d == 1) (.leaf (rvT (tmKk s d) (atP s.a sm) ze ze r nilR 0 noF))
  (.ite (bif tmKk s d == 3 then tmKk s d == 3 else tmKk s d == 4)
    (.ite (bif eqP (atP s.a sm) (atP s.b sm) then decide ((atP s.b sm).x > 0) else false) (.leaf (rvT (tmKk s d) (atP s.a sm) ⟨W ((atP s.b sm).x - 1), (atP s.b sm).y⟩ ze r nilR 0 noF))
      (.ite (eqP (atP s.a sm) (atP s.b sm)) (.leaf (rvT (tmKk s d) (atP s.a sm) ⟨W ((atP s.b sm).x + 1), (atP s.b sm).y⟩ ze r nilR 0 noF)) (.leaf (rvT (tmKk s d) (atP s.a sm) (atP s.b sm) ze r nilR 0 noF))))
  (.ite (tmKk s d == 5) (.leaf (rvT (tmKk s d) (arcAt s.c (band s.a.x 65535) s.b.x sm) (arcAt s.c (band s.a.y 65535) s.b.x sm) (arcC s.c sm) r nilR 0 noF))
  (.ite (tmKk s d == 2) (.side [ctrSelf s.l] (.leaf (rvT (tmKk s d) ze ze ze 0 (cCtr (tameC s.l sm)) 0 noF)))
  (.side [tmS s sm d 0 0 (tmF g sh add sm d) = tmS s sm d 0 0 (tmF g sh add sm d)] (.leaf (rvT (tmKk s d) ze ze ze 0 nilR (tmN s d) (tmF g sh add sm d)))))))
theorem tm_O (Pd : Sh → Prop) (g : Sh → Bool → Int → Sh) (sh : Nat → Sh) (add : Nat → Bool) (s : Sh) (sm : Bool) (d : Int) : (Dyn.dfun Try.prog (tabTm Pd g) (tmLp g sh add s sm d) 3 Try.f12 [dvS s, dvB sm, dvI d]).ro Try.prog Try.f12.results = .ite sm (tmRk g sh add s sm d (W ((lR s.r).tmod 15 + 1))) (tmRk g sh add s sm d (lR s.r)) := by kernel_rfl
theorem rvT_le {k : Int} {a b c : P2} {r : Int} {L : Dyn.DC} {n : Nat} {f : Nat → List Dyn.DC} {x : Sh} (hk : x.k = k) (ha : x.a = a) (hb : x.b = b) (hc : x.c = c) (hr : x.r = r) (hL : Dyn.DCLe L (cCtr x.l)) (hn : n = x.n) (hf : ∀ i, i < n → f i = x.f i) : (Dyn.RO.leaf (rvT k a b c r L n f)).sat fun q => Dyn.RVLe q (.val (dvS x)) := by
  subst hk; subst ha; subst hb; subst hc; subst hr
  exact ⟨rfl, rfl, rfl, rfl, rfl, rfl, rfl, rfl, hL, ⟨hn, hf⟩, trivial⟩
theorem nilR_le : Dyn.DCLe nilR (cCtr zeC) := ⟨rfl, fun i hi => by omega⟩
theorem tm_satk (g : Sh → Bool → Int → Sh) (sh : Nat → Sh) (add : Nat → Bool) (s : Sh) (sm : Bool) (d : Int) : (tmRk g sh add s sm d (tmR s sm)).sat fun r => Dyn.RVLe r (.val (dvS (tameG g sh add s sm d))) := by
  unfold tameG
  refine ⟨fun h => ?_, fun h => ⟨fun h2 => ⟨fun h3 => ?_, fun h3 => ⟨fun h4 => ?_, fun h4 => ?_⟩⟩, fun h2 => ⟨fun h3 => ?_, fun h3 => ⟨fun h4 => ⟨⟨ctrSelf_ok _, trivial⟩, ?_⟩, fun h4 => ⟨⟨rfl, trivial⟩, ?_⟩⟩⟩⟩⟩
  · rw [h]; exact rvT_le rfl rfl rfl rfl rfl nilR_le rfl fun _ _ => rfl
  · rw [h, h2]; exact rvT_le rfl rfl (by show tmB s sm = _; unfold tmB; rw [h3]; rfl) rfl rfl nilR_le rfl fun _ _ => rfl
  · rw [h, h2]; exact rvT_le rfl rfl (by show tmB s sm = _; unfold tmB; rw [h3, h4]; rfl) rfl rfl nilR_le rfl fun _ _ => rfl
  · rw [h, h2]; exact rvT_le rfl rfl (by show tmB s sm = _; unfold tmB; rw [h3, h4]; rfl) rfl rfl nilR_le rfl fun _ _ => rfl
  · rw [h, h2, h3]; exact rvT_le rfl rfl rfl rfl rfl nilR_le rfl fun _ _ => rfl
  · rw [h, h2, h3, h4]; exact rvT_le rfl rfl rfl rfl rfl (Dyn.DCLe.refl _) rfl fun _ _ => rfl
  · rw [h, h2, h3, h4]; exact rvT_le rfl rfl rfl rfl rfl nilR_le rfl fun _ _ => rfl
theorem tame_lvl {Pd : Sh → Prop} {g : Sh → Bool → Int → Sh} (ih : ∀ x, Pd x → ∀ sm d, Dyn.CallD Try.prog 12 [dvS x, dvB sm, dvI d] (.val (dvS (g x sm d)))) (k : Int) (a b c : P2) (r : Int) (l : Ctr) (n : Nat) (add : Nat → Bool) (sh : Nat → Sh) (hn : n ≤ 1000000000) (hP : ∀ i, i < n → Pd (sh i)) (sm : Bool) (d : Int) :
    Dyn.CallD Try.prog 12 [dvS (mkSh k a b c r l n add sh), dvB sm, dvI d] (.val (dvS (tameG g sh add (mkSh k a b c r l n add sh) sm d))) :=
  Dyn.dcontract (lp := tmLp g sh add (mkSh k a b c r l n add sh) sm d) (fuel := 3) (tabTm_ok ih) mo Try.func12 (by kernel_rfl) (c := bodyD Try.f12.body) (by kernel_rfl)
    (fun w0 => by rw [tm_blocks]; exact lpOk_cons (fun s o h => by cases h) (lpOk_cons (tm_loop ih k a b c r l n add sh hn hP sm d w0) (lpOk_cons (fun s o h => by cases h) lpOk_nil)))
    (by kernel_rfl) (tm_O Pd g sh add _ sm d) (by
      cases sm
      · exact ⟨fun h => (by cases h), fun _ => tm_satk g sh add _ false d⟩
      · exact ⟨fun _ => tm_satk g sh add _ true d, fun h => (by cases h)⟩)
theorem CallD_rle {P : Program} {K : Nat} {args : List Dyn.DV} {r r' : Dyn.RV} (h : Dyn.RVLe r r') (k : Dyn.CallD P K args r) : Dyn.CallD P K args r' := fun w F us hF hd => by
  have := k w F us hF hd
  split at this
  · rename_i u w' hr
    exact ⟨Dyn.DenR_le h this.1, this.2⟩
  · rename_i f as' w' hr
    refine ⟨this.1, this.2.mono fun e w'' he => ?_⟩
    obtain ⟨u, h1, h2, h3⟩ := he
    exact ⟨u, h1, Dyn.DenR_le h h2, h3⟩
  · exact this.elim
/-- a shape without parts -/
def leafS (k : Int) (a b c : P2) (r : Int) (l : Ctr) : Shp := .mk k a b c r l 0 (fun _ => false) (fun _ => .nil)
def tameS : Shp → Bool → Int → Shp
  | .nil, _, _ => .nil
  | .mk k a b c r l n add sub, sm, d =>
    let s : Sh := ⟨k, a, b, c, r, l, n, noF⟩
    bif tmKk s d == 1 then leafS (tmKk s d) (atP a sm) ze ze (tmR s sm) zeC
    else bif bif tmKk s d == 3 then tmKk s d == 3 else tmKk s d == 4 then leafS (tmKk s d) (atP a sm) (tmB s sm) ze (tmR s sm) zeC
    else bif tmKk s d == 5 then leafS (tmKk s d) (arcAt c (band a.x 65535) b.x sm) (arcAt c (band a.y 65535) b.x sm) (arcC c sm) (tmR s sm) zeC
    else bif tmKk s d == 2 then leafS (tmKk s d) ze ze ze 0 (tameC l sm)
    else .mk (tmKk s d) ze ze ze 0 zeC (tmN s d) add (fun i => tameS (sub i) sm (W (d + 1)))
noncomputable def tameE (x : Sh) (sm : Bool) (d : Int) : Sh := toSh (tameS (ofSh x) sm d)
theorem tameE_eq (s : Shp) (sm : Bool) (d : Int) : tameE (toSh s) sm d = toSh (tameS s sm d) := by unfold tameE; rw [ofSh_toSh]
theorem dvS_leaf (k : Int) (a b c : P2) (r : Int) (l : Ctr) : Dyn.DVLe (dvS ⟨k, a, b, c, r, l, 0, noF⟩) (dvS (toSh (leafS k a b c r l))) := ⟨rfl, rfl, rfl, rfl, rfl, rfl, rfl, rfl, Dyn.DCLe.refl _, ⟨rfl, fun i hi => absurd hi (Nat.not_lt_zero _)⟩, trivial⟩
theorem tm_pick {K : Int} (D1 D2 D3 D4 D5 : Sh) (E1 E2 E3 E4 E5 : Shp) (h1 : Dyn.DVLe (dvS D1) (dvS (toSh E1))) (h2 : Dyn.DVLe (dvS D2) (dvS (toSh E2))) (h3 : Dyn.DVLe (dvS D3) (dvS (toSh E3))) (h4 : Dyn.DVLe (dvS D4) (dvS (toSh E4))) (h5 : Dyn.DVLe (dvS D5) (dvS (toSh E5))) :
    Dyn.DVLe (dvS (bif K == 1 then D1 else bif bif K == 3 then K == 3 else K == 4 then D2 else bif K == 5 then D3 else bif K == 2 then D4 else D5)) (dvS (toSh (bif K == 1 then E1 else bif bif K == 3 then K == 3 else K == 4 then E2 else bif K == 5 then E3 else bif K == 2 then E4 else E5))) := by
  cases K == 1
  · cases (bif K == 3 then K == 3 else K == 4)
    · cases K == 5
      · cases K == 2
        · exact h5
        · exact h4
      · exact h3
    · exact h2
  · exact h1
theorem tameS_lvl (k : Int) (a b c : P2) (r : Int) (l : Ctr) (n : Nat) (add : Nat → Bool) (sub : Nat → Shp) (sm : Bool) (d : Int) :
    Dyn.DVLe (dvS (tameG tameE (fun i => toSh (sub i)) add (mkSh k a b c r l n add (fun i => toSh (sub i))) sm d)) (dvS (toSh (tameS (.mk k a b c r l n add sub) sm d))) := by
  refine tm_pick (K := tmKk ⟨k, a, b, c, r, l, n, noF⟩ d) _ _ _ _ _ _ _ _ _ _ (dvS_leaf _ _ _ _ _ _) (dvS_leaf _ _ _ _ _ _) (dvS_leaf _ _ _ _ _ _) (dvS_leaf _ _ _ _ _ _) ?_
  refine ⟨rfl, rfl, rfl, rfl, rfl, rfl, rfl, rfl, Dyn.DCLe.refl _, ⟨rfl, fun i hi => ?_⟩, trivial⟩
  show partC (add i) (tameE (toSh (sub i)) sm (W (d + 1))) = partC (add i) (toSh (tameS (sub i) sm (W (d + 1))))
  rw [tameE_eq]
theorem tameE_ok : ∀ s : Shp, ShB s → ∀ sm d, Dyn.CallD Try.prog 12 [dvS (toSh s), dvB sm, dvI d] (.val (dvS (tameE (toSh s) sm d))) := by
  intro s
  induction s with
  | nil => intro h; exact h.elim
  | mk k a b c r l n add sub ih =>
    intro h sm d
    rw [tameE_eq]
    refine CallD_rle (r := .val (dvS (tameG tameE (fun i => toSh (sub i)) add (mkSh k a b c r l n add (fun i => toSh (sub i))) sm d))) (tameS_lvl k a b c r l n add sub sm d) ?_
    exact tame_lvl (Pd := fun x => ∃ i, i < n ∧ x = toSh (sub i)) (fun x hx => by
      obtain ⟨i, hi, rfl⟩ := hx
      exact ih i (h.2.2 i hi)) k a b c r l n add (fun i => toSh (sub i)) h.2.1 (fun i hi => ⟨i, hi, rfl⟩) sm d
theorem tame_all : ∀ x, PdS x → ∀ sm d, Dyn.CallD Try.prog 12 [dvS x, dvB sm, dvI d] (.val (dvS (tameE x sm d))) := fun x hx sm d => by
  have k := tameE_ok _ hx.1 sm d
  rw [show tameE (toSh (ofSh x)) sm d = tameE x sm d by unfold tameE; rw [ofSh_toSh]] at k
  exact CallD_le (args := dvS (toSh (ofSh x)) :: [dvB sm, dvI d]) ⟨SLe.dv hx.2, Dyn.DVLe.refl _, Dyn.DVLe.refl _, trivial⟩ k
end Go.Proofs.Ythnenjodighlmaa

/-! ## Sam -/
namespace Go.Proofs.Ythnenjodighlmaa
open Go Go.RowKit Sym
set_option maxRecDepth 100000

end Go.Proofs.Ythnenjodighlmaa

/-! ## San -/
namespace Go.Proofs.Ythnenjodighlmaa
open Go Go.RowKit Sym
set_option maxRecDepth 100000

end Go.Proofs.Ythnenjodighlmaa

/-! ## Tua -/
namespace Go.Proofs.Ythnenjodighlmaa
open Go Go.RowKit Sym
set_option maxRecDepth 100000

end Go.Proofs.Ythnenjodighlmaa

/-! ## Tub -/
namespace Go.Proofs.Ythnenjodighlmaa
open Go Go.RowKit Sym
set_option maxRecDepth 100000

theorem CtrB_ze : CtrB zeC := ⟨by decide, fun i hi => absurd hi (Nat.not_lt_zero i)⟩
/-- no shape -/
def noS : Shp := leafS 0 ze ze ze 0 zeC
def zeroRV : Dyn.RV := .tup [.agg [cI 0, cI 0, cI 0, cI 0, cI 0, cI 0, cI 0, cI 0, nilR, nilR], dvB false]
theorem zero_le : Dyn.RVLe zeroRV (.tup [dvS (toSh noS), dvB false]) := ⟨⟨rfl, rfl, rfl, rfl, rfl, rfl, rfl, rfl, nilR_le, ⟨rfl, fun i hi => absurd hi (Nat.not_lt_zero _)⟩, trivial⟩, rfl, trivial⟩
end Go.Proofs.Ythnenjodighlmaa

/-! ## Roe -/
namespace Go.Proofs.Ythnenjodighlmaa
open Go Go.ChangeShapes Go.WideShapes Go.ChangeAt Go.RowKit Go.Joins Go.Deep
set_option maxRecDepth 100000

section
variable {H : Type} {enc : TypeId × Value → H} {P : Program} {w : World} {base : Nat} {spare : Nat → Bool} {held : Bool}
theorem ctr_den {fuel : Nat} {x : DataW H × List MemPlace} {t e2 e : TypeId} {f0 f1 : Field} {v : Value} (ht : P.underlying t = some (.slice e2)) (hc2 : P.cellsOf e2 = 1) (ht2 : P.underlying e2 = some (.slice e)) (he : P.underlying e = some (.struct #[f0, f1]))
    (ce : P.cellsOf e = 2) (o0 : f0.offset = 0) (o1 : f1.offset = 1) (c0 : P.cellsOf f0.type = 1) (c1 : P.cellsOf f1.type = 1) (k0 : P.underlying f0.type = some (.int .i64)) (k1 : P.underlying f1.type = some (.int .i64))
    (hf : DataW.trod enc P w base spare held fuel t [v] = some x) : ∃ l : Ctr, Dyn.DenC w (fun b => b < w.heap.size) (cCtr l) v := by
  rcases open_slice1 ht hc2 hf with ⟨h, _⟩ | ⟨a', len', cap', m, n, V, D, Pl, h, hb, hl, hcap, hm, hx, hall⟩
  · simp only [List.cons.injEq, and_true] at h
    rw [h]
    exact ⟨⟨0, fun _ => 0, fun _ _ => ⟨0, 0⟩⟩, .nil _ none 0⟩
  · simp only [List.cons.injEq, and_true] at h
    rw [h]
    have hlm : len' ≤ m := by rw [hm]; split <;> omega
    by_cases hz : len' = 0
    · subst hz
      exact ⟨⟨0, fun _ => 0, fun _ _ => ⟨0, 0⟩⟩, .nil _ (some a') cap'⟩
    · have h0 := (hall 0 (by omega)).1
      obtain ⟨hlt, hsp⟩ := addr_cell h0
      have hsp := hsp rfl
      obtain ⟨b, off, sp⟩ := a'
      dsimp only at hsp
      subst hsp
      simp only [addr_add] at hall hlt
      haveI : Inhabited (Nat × (Nat → P2)) := ⟨0, fun _ => ⟨0, 0⟩⟩
      obtain ⟨g, hg⟩ := choose_lt (α := Nat × (Nat → P2)) (n := len') (p := fun i q => Dyn.DenC w (fun b => b < w.heap.size) (cRow q.1 q.2) (V i)) (fun i hi => by
        obtain ⟨q, p, hq⟩ := row_P ht2 he ce o0 o1 c0 c1 k0 k1 (hall i (by omega)).2
        exact ⟨(q, p), hq⟩)
      refine ⟨⟨len', fun i => (g i).1, fun i => (g i).2⟩, .row len' _ b off cap' 1 (fun i _ => V i) hl hlt (fun i hi => ⟨rfl, fun j hj => ?_⟩) (fun i j hi hj => ?_)⟩
      · obtain rfl : j = 0 := by omega
        rw [Nat.mul_one, Nat.add_zero]; exact (hall i (by omega)).1
      · obtain rfl : j = 0 := by omega
        exact hg i hi
theorem pt_den {F : Nat → Prop} {fuel : Nat} {x : DataW H × List MemPlace} {t : TypeId} {f0 f1 : Field} {u v : Value} (ht : P.underlying t = some (.struct #[f0, f1])) (o0 : f0.offset = 0) (o1 : f1.offset = 1) (c0 : P.cellsOf f0.type = 1) (c1 : P.cellsOf f1.type = 1) (k0 : P.underlying f0.type = some (.int .i64)) (k1 : P.underlying f1.type = some (.int .i64))
    (hf : DataW.trod enc P w base spare held fuel t [u, v] = some x) : ∃ p : P2, u = vi p.x ∧ v = vi p.y ∧ Dyn.DenC w F (cI p.x) u ∧ Dyn.DenC w F (cI p.y) v := by
  obtain ⟨y0, y1, n, _, _, h0, h1⟩ := trod_struct2 ht hf
  rw [o0, c0] at h0
  rw [o1, c1] at h1
  obtain ⟨x0, e0, _⟩ := DataW.trod_int k0 h0
  obtain ⟨x1, e1, _⟩ := DataW.trod_int k1 h1
  simp only [List.drop_zero, List.take_succ_cons, List.take_zero, List.cons.injEq, and_true, List.drop_succ_cons] at e0 e1
  subst e0; subst e1
  exact ⟨⟨x0, x1⟩, rfl, rfl, .p _ rfl, .p _ rfl⟩
theorem DenL_get {F : Nat → Prop} : ∀ {ds : List Dyn.DC} {us : List Value} {j : Nat}, Dyn.DenL w F ds us → j < us.length → Dyn.DenC w F (ds.getD j default) (us.getD j default)
  | [], [], _, _, h => absurd h (Nat.not_lt_zero _)
  | d :: ds, u :: us, 0, h, _ => h.1
  | d :: ds, u :: us, j + 1, h, hj => DenL_get (ds := ds) (us := us) (j := j) h.2 (Nat.lt_of_succ_lt_succ hj)
/-- what the types of a shape are -/
structure ShT (P : Program) (tS tK tP tR tL tL1 tQ tE tB tI : TypeId) : Prop where
  s : ∃ f0 f1 f2 f3 f4 f5 f6 : Field, P.underlying tS = some (.struct #[f0, f1, f2, f3, f4, f5, f6]) ∧ (f0.type = tK ∧ f1.type = tP ∧ f2.type = tP ∧ f3.type = tP ∧ f4.type = tR ∧ f5.type = tL ∧ f6.type = tQ) ∧ f0.offset = 0 ∧ f1.offset = 1 ∧ f2.offset = 3 ∧ f3.offset = 5 ∧ f4.offset = 7 ∧ f5.offset = 8 ∧ f6.offset = 9
  sc : P.cellsOf tS = 10
  kc : P.cellsOf tK = 1
  pc : P.cellsOf tP = 2
  rc : P.cellsOf tR = 1
  lc : P.cellsOf tL = 1
  qc : P.cellsOf tQ = 1
  k : P.underlying tK = some (.int .i64)
  r : P.underlying tR = some (.int .i64)
  p : ∃ g0 g1 : Field, P.underlying tP = some (.struct #[g0, g1]) ∧ g0.offset = 0 ∧ g1.offset = 1 ∧ g0.type = tI ∧ g1.type = tI
  ic : P.cellsOf tI = 1
  i : P.underlying tI = some (.int .i64)
  l : P.underlying tL = some (.slice tL1)
  l1c : P.cellsOf tL1 = 1
  l1 : P.underlying tL1 = some (.slice tP)
  q : P.underlying tQ = some (.slice tE)
  ec : P.cellsOf tE = 11
  e : ∃ h0 h1 : Field, P.underlying tE = some (.struct #[h0, h1]) ∧ h0.offset = 0 ∧ h1.offset = 1 ∧ h0.type = tB ∧ h1.type = tS
  bc : P.cellsOf tB = 1
  b : P.underlying tB = some .bool
theorem shape_den {tS tK tP tR tL tL1 tQ tE tB tI : TypeId} (T : ShT P tS tK tP tR tL tL1 tQ tE tB tI) : ∀ (fuel : Nat) (cs : List Value) (x : DataW H × List MemPlace), DataW.trod enc P w base spare held fuel tS cs = some x →
    ∃ s : Shp, ShW s ∧ Dyn.DenL w (fun b => b < w.heap.size) (cS (toSh s)) cs := by
  intro fuel
  induction fuel using Nat.strongRecOn with
  | _ fuel ih =>
    intro cs x hx
    obtain ⟨f0, f1, f2, f3, f4, f5, f6, hs, ⟨t0, t1, t2, t3, t4, t5, t6⟩, o0, o1, o2, o3, o4, o5, o6⟩ := T.s
    obtain ⟨g0, g1, hp, p0, p1, q0, q1⟩ := T.p
    obtain ⟨h0, h1, he, a0, a1, b0, b1⟩ := T.e
    obtain ⟨xs, n, rfl, _, hl, hlen, hf⟩ := DataW.trod_struct hs hx
    rw [T.sc] at hl
    obtain ⟨v0, v1, v2, v3, v4, v5, v6, v7, v8, v9, rfl⟩ : ∃ v0 v1 v2 v3 v4 v5 v6 v7 v8 v9 : Value, cs = [v0, v1, v2, v3, v4, v5, v6, v7, v8, v9] := by
      match cs, hl with
      | [v0, v1, v2, v3, v4, v5, v6, v7, v8, v9], _ => exact ⟨v0, v1, v2, v3, v4, v5, v6, v7, v8, v9, rfl⟩
    have hxl : xs.length = 7 := hlen
    have get : ∀ i, i < 7 → ∃ y, xs[i]? = some y := fun i hi => ⟨xs[i], List.getElem?_eq_getElem (by omega)⟩
    obtain ⟨y0, e0⟩ := get 0 (by decide)
    obtain ⟨y1, e1⟩ := get 1 (by decide)
    obtain ⟨y2, e2⟩ := get 2 (by decide)
    obtain ⟨y3, e3⟩ := get 3 (by decide)
    obtain ⟨y4, e4⟩ := get 4 (by decide)
    obtain ⟨y5, e5⟩ := get 5 (by decide)
    obtain ⟨y6, e6⟩ := get 6 (by decide)
    have k0 := hf 0 f0 rfl
    have k1 := hf 1 f1 rfl
    have k2 := hf 2 f2 rfl
    have k3 := hf 3 f3 rfl
    have k4 := hf 4 f4 rfl
    have k5 := hf 5 f5 rfl
    have k6 := hf 6 f6 rfl
    rw [e0, t0, o0, T.kc] at k0
    rw [e1, t1, o1, T.pc] at k1
    rw [e2, t2, o2, T.pc] at k2
    rw [e3, t3, o3, T.pc] at k3
    rw [e4, t4, o4, T.rc] at k4
    rw [e5, t5, o5, T.lc] at k5
    rw [e6, t6, o6, T.qc] at k6
    simp only [List.drop_zero, List.take_succ_cons, List.take_zero, List.drop_succ_cons] at k0 k1 k2 k3 k4 k5 k6
    obtain ⟨z0, r0, _⟩ := DataW.trod_int T.k k0
    obtain ⟨z4, r4, _⟩ := DataW.trod_int T.r k4
    simp only [List.cons.injEq, and_true] at r0 r4
    subst r0; subst r4
    obtain ⟨pa, _, _, a1', a2'⟩ := pt_den (F := fun b => b < w.heap.size) hp p0 p1 (by rw [q0]; exact T.ic) (by rw [q1]; exact T.ic) (by rw [q0]; exact T.i) (by rw [q1]; exact T.i) k1
    obtain ⟨pb, _, _, b1', b2'⟩ := pt_den (F := fun b => b < w.heap.size) hp p0 p1 (by rw [q0]; exact T.ic) (by rw [q1]; exact T.ic) (by rw [q0]; exact T.i) (by rw [q1]; exact T.i) k2
    obtain ⟨pc, _, _, c1', c2'⟩ := pt_den (F := fun b => b < w.heap.size) hp p0 p1 (by rw [q0]; exact T.ic) (by rw [q1]; exact T.ic) (by rw [q0]; exact T.i) (by rw [q1]; exact T.i) k3
    obtain ⟨l, hL⟩ := ctr_den T.l T.l1c T.l1 hp T.pc p0 p1 (by rw [q0]; exact T.ic) (by rw [q1]; exact T.ic) (by rw [q0]; exact T.i) (by rw [q1]; exact T.i) k5
    have parts : ∃ (m : Nat) (add : Nat → Bool) (sub : Nat → Shp), (∀ i, i < m → ShW (sub i)) ∧ Dyn.DenC w (fun b => b < w.heap.size) (.row m fun i => partC (add i) (toSh (sub i))) v9 := by
      rcases DataW.trod_slice T.q k6 with ⟨hv, _⟩ | ⟨a, len, cap, elems, rest, m, rfl, hv, _, hb, hle, _, hel, hall, _⟩
      · simp only [List.cons.injEq, and_true] at hv
        subst hv
        exact ⟨0, fun _ => false, fun _ => .nil, fun i hi => absurd hi (Nat.not_lt_zero i), .nil _ none 0⟩
      · simp only [List.cons.injEq, and_true] at hv
        subst hv
        have part : ∀ i, i < len → ∃ q : (Bool × Shp) × (Nat → Value), ShW q.1.2 ∧ (∀ j, j < 11 → w.cell? ((a.add (i * 11)).add j) = some (q.2 j)) ∧ (∀ j, j < 11 → Dyn.DenC w (fun b => b < w.heap.size) ((partC q.1.1 (toSh q.1.2)).getD j default) (q.2 j)) := fun i hi => by
          have key := hall i hi
          rw [T.ec, List.getElem?_eq_getElem (by omega)] at key
          obtain ⟨cs', h1', h2'⟩ := Option.bind_eq_some_iff.1 key
          obtain ⟨_, hlen', hcell⟩ := World.cells?_some h1'
          obtain ⟨ys, n', rfl, _, _, hyl, hfy⟩ := DataW.trod_struct he h2'
          have hyl : ys.length = 2 := hyl
          have m0 := hfy 0 h0 rfl
          have m1 := hfy 1 h1 rfl
          rw [List.getElem?_eq_getElem (by omega), b0, a0, T.bc] at m0
          rw [List.getElem?_eq_getElem (by omega), b1, a1, T.sc] at m1
          obtain ⟨c, cs'', rfl⟩ : ∃ c cs'', cs' = c :: cs'' := by
            match cs', hlen' with
            | c :: cs'', _ => exact ⟨c, cs'', rfl⟩
          simp only [List.drop_zero, List.take_succ_cons, List.take_zero, List.drop_succ_cons] at m0 m1
          rw [List.take_of_length_le (by simp only [List.length_cons] at hlen'; omega)] at m1
          obtain ⟨q, hq, _⟩ := DataW.trod_bool T.b m0
          simp only [List.cons.injEq, and_true] at hq
          subst hq
          obtain ⟨s', hW', hD'⟩ := ih n' (by omega) _ _ m1
          refine ⟨((q, s'), fun j => ((.bool q : Value) :: cs'').getD j default), hW', fun j hj => ?_, fun j hj => ?_⟩
          · rw [hcell j hj]
            show _ = some ((Value.bool q :: cs'').getD j default)
            rw [List.getD_eq_getElem?_getD, List.getElem?_eq_getElem (by omega)]; rfl
          · exact DenL_get (ds := partC q (toSh s')) (us := .bool q :: cs'') ⟨.p _ rfl, hD'⟩ (by omega)
        by_cases hz : len = 0
        · subst hz
          exact ⟨0, fun _ => false, fun _ => .nil, fun i hi => absurd hi (Nat.not_lt_zero i), .nil _ (some a) cap⟩
        · haveI : Inhabited ((Bool × Shp) × (Nat → Value)) := ⟨((false, .nil), fun _ => default)⟩
          obtain ⟨g, hg⟩ := choose_lt part
          have z0 := (hg 0 (by omega)).2.1 0 (by decide)
          have za : (a.add (0 * 11)).add 0 = a.add 0 := rfl
          rw [za] at z0
          obtain ⟨hlt, hsp⟩ := addr_cell z0
          have hsp := hsp rfl
          obtain ⟨b, off, sp⟩ := a
          dsimp only at hsp
          subst hsp
          simp only [addr_add] at hg hlt
          exact ⟨len, fun i => (g i).1.1, fun i => (g i).1.2, fun i hi => (hg i hi).1, .row len _ b off cap 11 (fun i j => (g i).2 j) hle hlt (fun i hi => ⟨rfl, fun j hj => (hg i hi).2.1 j hj⟩) (fun i j hi hj => (hg i hi).2.2 j hj)⟩
    obtain ⟨m, add, sub, hW, hQ⟩ := parts
    exact ⟨.mk z0 pa pb pc z4 l m add sub, hW, .p _ rfl, a1', a2', b1', b2', c1', c2', .p _ rfl, hL, hQ, trivial⟩
end
theorem shT : ShT Try.prog 27 3 23 2 24 70 25 35 4 2 where
  s := ⟨_, _, _, _, _, _, _, Try.underlying27, ⟨rfl, rfl, rfl, rfl, rfl, rfl, rfl⟩, rfl, rfl, rfl, rfl, rfl, rfl, rfl⟩
  sc := by kernel_rfl
  kc := by kernel_rfl
  pc := by kernel_rfl
  rc := by kernel_rfl
  lc := by kernel_rfl
  qc := by kernel_rfl
  k := Try.underlying3
  r := Try.underlying2
  p := ⟨_, _, Try.underlying23, rfl, rfl, rfl, rfl⟩
  ic := by kernel_rfl
  i := Try.underlying2
  l := Try.underlying24
  l1c := by kernel_rfl
  l1 := Try.underlying70
  q := Try.underlying25
  ec := by kernel_rfl
  e := ⟨_, _, Try.underlying35, rfl, rfl, rfl, rfl⟩
  bc := by kernel_rfl
  b := Try.underlying4
end Go.Proofs.Ythnenjodighlmaa

/-! ## Pia -/
namespace Go.Proofs.Ythnenjodighlmaa
open Go Go.RowKit Sym
set_option maxRecDepth 100000

/-! ### a list of objects, as the parts of a form -/
def dvL (x : Sh) : Dyn.DV := .one (.row x.n x.f)
def obX (n : Nat) (f : Nat → List Dyn.DC) : Sh := ⟨6, ze, ze, ze, 0, zeC, n, f⟩
def mkL (n : Nat) (add : Nat → Bool) (sh : Nat → Sh) : Sh := mkSh 6 ze ze ze 0 zeC n add sh
def qL : Dec Sh
  | .one (.row n f) => some (obX n f, [])
  | _ => none
theorem qL_ok : DecOk qL dvL (fun _ => True) := fun d x ps h hp => by
  unfold qL at h; split at h
  · simp only [Option.some.injEq, Prod.mk.injEq] at h
    obtain ⟨rfl, rfl⟩ := h
    exact ⟨⟨rfl, fun _ _ => rfl⟩, trivial⟩
  · cases h
theorem SLe.dvL {x y : Sh} (h : SLe x y) : Dyn.DVLe (dvL x) (dvL y) := ⟨h.2.2.2.2.2.2.1, h.2.2.2.2.2.2.2⟩
def dtyO (t : TypeId) : Bool := dtyS t || Nat.beq t 62 || Nat.beq t 44
def lForm (n : Nat) (add : Nat → Bool) (sub : Nat → Shp) : Shp := .mk 6 ze ze ze 0 zeC n add sub
def nuO : Shp → Nat
  | .nil => 0
  | .mk _ _ _ _ _ _ n _ _ => n
def adO : Shp → Nat → Bool
  | .nil, _ => false
  | .mk _ _ _ _ _ _ _ add _, i => add i
def suO : Shp → Nat → Shp
  | .nil, _ => .nil
  | .mk _ _ _ _ _ _ _ _ sub, i => sub i

/-! ### Small -/
noncomputable def sbG (sh : Nat → Sh) (i : Nat) (_ : Unit) : Bool × Unit := (smallE (sh i) 0, ())
noncomputable def small21 (s : Shp) : Bool := bif decide ((nuO s : Int) > 20) then false else (runN (fun i (_ : Unit) => (smallF (suO s i) 0, ())) () (nuO s)).1
noncomputable def tdSb : List Dyn.EntryD := [(10, en2D (qAnd qS PdW) qI fun x d => rB (smallE x d))]
noncomputable def tabSb : Dyn.Tabs := Dyn.tabs tbF tdSb noD dtyO
theorem tabSb_ok : Dyn.TabsOk Try.prog tabSb := Dyn.tabs_ok tbF_ok (List.forall_mem_cons.2 ⟨en2D_ok (qAnd_ok qS_ok) qI_ok fun x d h _ => small_all x h.1 d, fun _ h => by cases h⟩)
def sbS (s : Sh) (i : Int) : Dyn.St := mkS 20 [(0, sH 0 0 s.n), (2, .k (vb false)), (3, sI i)] [some (.deep [.row s.n s.f])]
def sbR : Dyn.St := mkS 20 [(2, .k (vb false))] []
def sbK : List Nat := [0, 2, 3]
noncomputable def sbLp (sh : Nat → Sh) (s : Sh) : Dyn.Lp := fun id st => match id with
  | 0 => some (.side [keepA 20 [0] [] sbK (2 ^ 3) st = sbS s 0, s.n ≤ 20] (.ite (runN (sbG sh) () s.n).1 (.leaf .normal (sbS s s.n)) (.leaf .ret sbR)))
  | _ => none
noncomputable def sbB (sh : Nat → Sh) (s : Sh) (i : Nat) : Dyn.Out :=
  .ite (decide ((i : Int) < s.n)) (.side [0 ≤ (i : Int) ∧ (i : Int) < s.n, PdW (sh i), ctrSelf (sh i).l] (.ite (!(smallE (sh i) 0)) (.leaf .ret sbR) (.leaf .normal (sbS s (W (i + 1)))))) (.leaf (.exit 0) (sbS s i))
theorem sb_B (n : Nat) (add : Nat → Bool) (sh : Nat → Sh) (i : Nat) : (Dyn.lexec Try.prog tabSb (sbLp sh (mkL n add sh)) 3 (unloopD (blkD Try.f17.body 0)) .leaf (sbS (mkL n add sh) i)).rl (keepR 20 [0] [] sbK [2]) = sbB sh (mkL n add sh) i := by kernel_rfl
theorem sb_blocks : blocksL (bodyD Try.f17.body) = [(0, .loop (unloopD (blkD Try.f17.body 0))), (1, blkD Try.f17.body 1)] := by kernel_rfl
theorem sb_b0 : blocksL (unloopD (blkD Try.f17.body 0)) = [(1, blkD Try.f17.body 1)] := by kernel_rfl
theorem sb_loop (n : Nat) (add : Nat → Bool) (sh : Nat → Sh) (hP : ∀ i, i < n → PdW (sh i)) (w0 : Dyn.Base Try.prog) (st : Dyn.St) (o : Dyn.Out) (h : sbLp sh (mkL n add sh) 0 st = some o) : Dyn.BlockSound Try.prog w0 0 (.loop (unloopD (blkD Try.f17.body 0))) st o := by
  simp only [sbLp, Option.some.injEq] at h
  subst h
  refine side_two fun hS hn => ?_
  have hn' : n ≤ 20 := hn
  refine run_block (fuel := 3) tabSb_ok mo (lp := sbLp sh (mkL n add sh)) (by rw [sb_b0]; exact lpOk_cons (fun s o h => by cases h) lpOk_nil) (fun i (_ : Unit) => sbS (mkL n add sh) i) n (sbG sh) () (fun _ => sbR) (keepR 20 [0] [] sbK [2]) (keepR_ent 20 _ _ _ _) (fun i _ => sbB sh (mkL n add sh) i) (fun i _ => sb_B n add sh i) (fun i a hi ha => ?_) (fun a ha => ?_) (hS ▸ keepA_ent 20 _ _ _ _ st)
  · refine ⟨fun _ => ⟨⟨⟨by omega, by show (i : Int) < (n : Int); omega⟩, hP i hi, ctrSelf_ok _, trivial⟩, fun hx => .inr ⟨rfl, ?_, Dyn.Fits.refl _⟩, fun hx => .inl ⟨rfl, ?_, ?_⟩⟩, fun hf => ?_⟩
    · simpa [sbG] using hx
    · simpa [sbG] using hx
    · rw [Wn1 hi (by omega)]; exact Dyn.Fits.refl _
    · rw [decide_eq_false_iff_not] at hf
      exact absurd (show (i : Int) < (n : Int) by omega) hf
  · refine ⟨fun ht => ?_, fun _ => ⟨rfl, Dyn.Fits.refl _⟩⟩
    rw [decide_eq_true_eq] at ht
    exact absurd (show (n : Int) < (n : Int) from ht) (by omega)
noncomputable def sbO (sh : Nat → Sh) (s : Sh) : Dyn.RO :=
  .ite (decide ((s.n : Int) > 20)) (.leaf (rB false)) (.side [sbS s 0 = sbS s 0, s.n ≤ 20] (.ite (runN (sbG sh) () s.n).1 (.leaf (rB true)) (.leaf (rB false))))
theorem sb_O (sh : Nat → Sh) (s : Sh) : (Dyn.dfun Try.prog tabSb (sbLp sh s) 3 Try.f17 [dvL s]).ro Try.prog Try.f17.results = sbO sh s := by kernel_rfl
theorem sb_lvl (n : Nat) (add : Nat → Bool) (sh : Nat → Sh) (hP : ∀ i, i < n → PdW (sh i)) : Dyn.CallD Try.prog 17 [dvL (mkL n add sh)] (rB (bif decide ((n : Int) > 20) then false else (runN (sbG sh) () n).1)) :=
  Dyn.dcontract (lp := sbLp sh (mkL n add sh)) (fuel := 3) tabSb_ok mo Try.func17 (by kernel_rfl) (c := bodyD Try.f17.body) (by kernel_rfl)
    (fun w0 => by rw [sb_blocks]; exact lpOk_cons (sb_loop n add sh hP w0) (lpOk_cons (fun s o h => by cases h) lpOk_nil))
    (by kernel_rfl) (sb_O sh _) (by
      refine ⟨fun h => ?_, fun h => ⟨⟨rfl, ?_, trivial⟩, fun h2 => ?_, fun h2 => ?_⟩⟩
      · rw [show decide ((n : Int) > 20) = true from h]; exact ro_leaf rfl
      · have : ¬ (n : Int) > 20 := of_decide_eq_false h
        show n ≤ 20
        omega
      · rw [show decide ((n : Int) > 20) = false from h, show (runN (sbG sh) () n).1 = true from h2]; exact ro_leaf rfl
      · rw [show decide ((n : Int) > 20) = false from h, show (runN (sbG sh) () n).1 = false from h2]; exact ro_leaf rfl)
theorem small21_ok : ∀ s : Shp, ShW s → Dyn.CallD Try.prog 17 [dvL (toSh s)] (rB (small21 s)) := by
  intro s h
  cases s with
  | nil => exact h.elim
  | mk k a b c r l n add sub =>
    have q := sb_lvl n add (fun i => toSh (sub i)) fun i hi => PdW_mk (h i hi)
    unfold sbG at q
    simp only [smallE_eq] at q
    exact q
/-! ### Tame -/
noncomputable def tame21 (s : Shp) (sm : Bool) : Shp := .mk 6 ze ze ze 0 zeC (min (nuO s) 12) (adO s) (fun i => tameS (suO s i) sm 2)
noncomputable def tdTl : List Dyn.EntryD := [(12, en3D (qAnd qS PdS) qB qI fun x q d => .val (dvS (tameE x q d)))]
def drTl (K : Nat) : Bool := Nat.beq K 12
noncomputable def tabTl : Dyn.Tabs := Dyn.tabs tbF tdTl drTl dtyO
theorem tabTl_ok : Dyn.TabsOk Try.prog tabTl := Dyn.tabs_ok tbF_ok (List.forall_mem_cons.2 ⟨en3D_ok (qAnd_ok qS_ok) qB_ok qI_ok fun x q d h _ _ => tame_all x h.1 q d, fun _ h => by cases h⟩)
noncomputable def tlF (add : Nat → Bool) (sh : Nat → Sh) (sm : Bool) (i : Nat) : List Dyn.DC := partC (add i) (tameE (sh i) sm 2)
noncomputable def tlS (s : Sh) (add : Nat → Bool) (sh : Nat → Sh) (sm : Bool) (t : Int) (i : Nat) : Dyn.St := mkS 34 [(0, sH 0 0 s.n), (1, sB sm), (4, .k (.slice none 0 0)), (5, sH 1 0 i), (6, sI t)] [some (.deep [.row s.n s.f]), some (.own 62 i (tlF add sh sm))]
def tlK : List Nat := [0, 1, 4, 5, 6]
noncomputable def tlLp (add : Nat → Bool) (sh : Nat → Sh) (s : Sh) (sm : Bool) : Dyn.Lp := fun id st => match id with
  | 0 => some (.side [Dyn.nilSlot 5 62 (tlF add sh sm) (keepS 34 [0] tlK (2 ^ 6) st) = tlS s add sh sm 0 0] (.leaf .normal (tlS s add sh sm (min s.n 12 : Nat) (min s.n 12))))
  | _ => none
noncomputable def tlV (s : Sh) (add : Nat → Bool) (sh : Nat → Sh) (sm : Bool) (i : Nat) : Dyn.St := mkS 34 [(0, sH 0 0 s.n), (1, sB sm), (4, .k (.slice none 0 0)), (5, sH 1 0 (i + 1)), (6, sI (W (i + 1)))] [some (.deep [.row s.n s.f]), some (.own 62 (i + 1) (Dyn.appF i (tlF add sh sm) (fun _ => tlF add sh sm i)))]
noncomputable def tlB (s : Sh) (add : Nat → Bool) (sh : Nat → Sh) (sm : Bool) (i : Nat) : Dyn.Out :=
  .ite (bif decide ((i : Int) < s.n) then decide ((i : Int) < 12) else false)
    (.side [0 ≤ (i : Int) ∧ (i : Int) < s.n, 0 ≤ (i : Int) ∧ (i : Int) < s.n, PdS (sh i), ctrSelf (sh i).l, szP 120 i] (.leaf .normal (tlV s add sh sm i)))
    (.leaf (.exit 0) (tlS s add sh sm i i))
theorem tl_B (n : Nat) (add : Nat → Bool) (sh : Nat → Sh) (sm : Bool) (i : Nat) : (Dyn.lexec Try.prog tabTl (tlLp add sh (mkL n add sh) sm) 3 (unloopD (blkD Try.f19.body 0)) .leaf (tlS (mkL n add sh) add sh sm i i)).rl (fun _ s => keepA 34 [0] [5] tlK 0 s) = tlB (mkL n add sh) add sh sm i := by kernel_rfl
theorem tl_blocks : blocksL (bodyD Try.f19.body) = [(0, .loop (unloopD (blkD Try.f19.body 0))), (1, blkD Try.f19.body 1)] := by kernel_rfl
theorem tl_b0 : blocksL (unloopD (blkD Try.f19.body 0)) = [(1, blkD Try.f19.body 1)] := by kernel_rfl
theorem tl_loop (n : Nat) (add : Nat → Bool) (sh : Nat → Sh) (sm : Bool) (hn : n ≤ 1000000000) (hP : ∀ i, i < n → PdS (sh i)) (w0 : Dyn.Base Try.prog) (st : Dyn.St) (o : Dyn.Out) (h : tlLp add sh (mkL n add sh) sm 0 st = some o) : Dyn.BlockSound Try.prog w0 0 (.loop (unloopD (blkD Try.f19.body 0))) st o := by
  simp only [tlLp, Option.some.injEq] at h
  subst h
  refine side_one fun hS => ?_
  refine fold_block (fuel := 3) tabTl_ok mo (lp := tlLp add sh (mkL n add sh) sm) (by rw [tl_b0]; exact lpOk_cons (fun s o h => by cases h) lpOk_nil) (fun i (_ : Unit) => tlS (mkL n add sh) add sh sm i i) (min n 12) (fun _ _ => ()) () (fun _ s => keepA 34 [0] [5] tlK 0 s) (fun _ s => keepA_ent 34 _ _ _ 0 s) (fun i _ => tlB (mkL n add sh) add sh sm i) (fun i _ => tl_B n add sh sm i) (fun i hi => ?_) ?_ (hS ▸ (keepS_ent 34 (by decide) _ _ st).trans (Dyn.Ent.nilSlot (P := Try.prog) (k := 10) (by kernel_rfl) _ _))
  · have hi' : i < n := by omega
    refine ⟨fun _ => ⟨⟨⟨by omega, by show (i : Int) < (n : Int); omega⟩, ⟨by omega, by show (i : Int) < (n : Int); omega⟩, hP i hi', ctrSelf_ok _, szP_ok (by decide) (by omega), trivial⟩, rfl, ?_⟩, fun hf => ?_⟩
    · unfold tlV
      rw [Wn1 hi' hn]
      exact ⟨rfl, Dyn.HeLe.refl _, le_app rfl, trivial⟩
    · rw [Bool.eq_false_iff] at hf
      exact absurd (and_iff.2 ⟨show (i : Int) < (n : Int) by omega, by omega⟩) hf
  · refine ⟨fun ht => ?_, fun _ => ⟨rfl, Dyn.Fits.refl _⟩⟩
    have ht := and_iff.1 ht
    have h1 : ((min n 12 : Nat) : Int) < (n : Int) := ht.1
    have h2 : ((min n 12 : Nat) : Int) < 12 := ht.2
    omega
theorem tl_O (add : Nat → Bool) (sh : Nat → Sh) (s : Sh) (sm : Bool) : (Dyn.dfun Try.prog tabTl (tlLp add sh s sm) 3 Try.f19 [dvL s, dvB sm]).ro Try.prog Try.f19.results = .side [tlS s add sh sm 0 0 = tlS s add sh sm 0 0] (.leaf (.val (.one (.row (min s.n 12) (tlF add sh sm))))) := by kernel_rfl
theorem tl_lvl (n : Nat) (add : Nat → Bool) (sh : Nat → Sh) (sm : Bool) (hn : n ≤ 1000000000) (hP : ∀ i, i < n → PdS (sh i)) : Dyn.CallD Try.prog 19 [dvL (mkL n add sh), dvB sm] (.val (.one (.row (min n 12) (tlF add sh sm)))) :=
  Dyn.dcontract (lp := tlLp add sh (mkL n add sh) sm) (fuel := 3) tabTl_ok mo Try.func19 (by kernel_rfl) (c := bodyD Try.f19.body) (by kernel_rfl)
    (fun w0 => by rw [tl_blocks]; exact lpOk_cons (tl_loop n add sh sm hn hP w0) (lpOk_cons (fun s o h => by cases h) lpOk_nil))
    (by kernel_rfl) (tl_O add sh _ sm) ⟨⟨rfl, trivial⟩, rfl, fun _ _ => rfl⟩
theorem tame21_ok : ∀ s : Shp, ShB s → ∀ sm, Dyn.CallD Try.prog 19 [dvL (toSh s), dvB sm] (.val (dvL (toSh (tame21 s sm)))) := by
  intro s h sm
  cases s with
  | nil => exact h.elim
  | mk k a b c r l n add sub =>
    have q := tl_lvl n add (fun i => toSh (sub i)) sm h.2.1 fun i hi => PdS_mk (h.2.2 i hi)
    unfold tlF at q
    simp only [tameE_eq] at q
    exact q
/-! ### Class -/
noncomputable def figClassS (s : Shp) (b : B4) : Int := bif !(okE (toSh s)) then 0 else classF s b
noncomputable def pClass (s : Shp) (b : B4) : Int := foldN (fun i acc => foldF acc (figClassS (suO s i) b) (adO s i)) 0 (nuO s)
theorem figClassE_eq (s : Shp) (b : B4) : figClassE (toSh s) b = figClassS s b := by unfold figClassE figClassS; rw [classE_eq]
noncomputable def tdPc : List Dyn.EntryD := [(46, en2D (qAnd qS PdS) qX fun x b => rI (figClassE x b))]
noncomputable def tabPc : Dyn.Tabs := Dyn.tabs tbF tdPc noD dtyO
theorem tabPc_ok : Dyn.TabsOk Try.prog tabPc := Dyn.tabs_ok tbF_ok (List.forall_mem_cons.2 ⟨en2D_ok (qAnd_ok qS_ok) qX_ok fun x b h _ => figClass_ok x h.1 b, fun _ h => by cases h⟩)
noncomputable def pcG (sh : Nat → Sh) (add : Nat → Bool) (b : B4) (i : Nat) (acc : Int) : Int := foldF acc (figClassE (sh i) b) (add i)
def pcS (s : Sh) (b : B4) (acc i : Int) : Dyn.St := mkS 24 [(3, sL 1), (4, .k (vi 0)), (5, sI acc), (8, sH 0 0 s.n), (9, sI s.n), (10, sI i)] [some (.deep [.row s.n s.f]), some (.cells 40 [vi b.x0, vi b.y0, vi b.x1, vi b.y1])]
def pcK : List Nat := [3, 4, 5, 8, 9, 10]
noncomputable def pcLp (sh : Nat → Sh) (add : Nat → Bool) (s : Sh) (b : B4) : Dyn.Lp := fun id st => match id with
  | 0 => some (.side [keepA 24 [0, 1] [] pcK (2 ^ 5 + 2 ^ 10) st = pcS s b 0 0] (.leaf .normal (pcS s b (foldN (pcG sh add b) 0 s.n) s.n)))
  | _ => none
noncomputable def pcB (sh : Nat → Sh) (add : Nat → Bool) (s : Sh) (b : B4) (i : Nat) (acc : Int) : Dyn.Out :=
  .ite (decide ((i : Int) < s.n)) (.side [0 ≤ (i : Int) ∧ (i : Int) < s.n] (.side [PdS (sh i), ctrSelf (sh i).l] (.leaf .normal (pcS s b (foldF acc (figClassE (sh i) b) (add i)) (W (i + 1)))))) (.leaf (.exit 0) (pcS s b acc i))
theorem pc_B (n : Nat) (add : Nat → Bool) (sh : Nat → Sh) (b : B4) (i : Nat) (acc : Int) : (Dyn.lexec Try.prog tabPc (pcLp sh add (mkL n add sh) b) 3 (unloopD (blkD Try.f22.body 0)) .leaf (pcS (mkL n add sh) b acc i)).rl (keepR 24 [0, 1] [] pcK []) = pcB sh add (mkL n add sh) b i acc := by kernel_rfl
theorem pc_blocks : blocksL (bodyD Try.f22.body) = [(0, .loop (unloopD (blkD Try.f22.body 0))), (1, blkD Try.f22.body 1)] := by kernel_rfl
theorem pc_b0 : blocksL (unloopD (blkD Try.f22.body 0)) = [(1, blkD Try.f22.body 1)] := by kernel_rfl
theorem pc_loop (n : Nat) (add : Nat → Bool) (sh : Nat → Sh) (hn : n ≤ 1000000000) (hP : ∀ i, i < n → PdS (sh i)) (b : B4) (w0 : Dyn.Base Try.prog) (s : Dyn.St) (o : Dyn.Out) (h : pcLp sh add (mkL n add sh) b 0 s = some o) : Dyn.BlockSound Try.prog w0 0 (.loop (unloopD (blkD Try.f22.body 0))) s o := by
  simp only [pcLp, Option.some.injEq] at h
  subst h
  refine side_one fun hS => ?_
  refine fold_block (fuel := 3) tabPc_ok mo (lp := pcLp sh add (mkL n add sh) b) (by rw [pc_b0]; exact lpOk_cons (fun s o h => by cases h) lpOk_nil) (fun i acc => pcS (mkL n add sh) b acc i) n (pcG sh add b) 0 (keepR 24 [0, 1] [] pcK []) (keepR_ent 24 _ _ _ _) (fun i acc => pcB sh add (mkL n add sh) b i acc) (fun i acc => pc_B n add sh b i acc) (fun i hi => ?_) ?_ (hS ▸ keepA_ent 24 _ _ _ _ s)
  · refine ⟨fun _ => ⟨⟨⟨by omega, by show (i : Int) < (n : Int); omega⟩, trivial⟩, ⟨hP i hi, ctrSelf_ok _, trivial⟩, rfl, ?_⟩, fun hf => ?_⟩
    · rw [Wn1 hi hn]; exact Dyn.Fits.refl _
    · rw [decide_eq_false_iff_not] at hf
      exact absurd (show (i : Int) < (n : Int) by omega) hf
  · refine ⟨fun ht => ?_, fun _ => ⟨rfl, Dyn.Fits.refl _⟩⟩
    rw [decide_eq_true_eq] at ht
    exact absurd (show (n : Int) < (n : Int) from ht) (by omega)
theorem pc_O (sh : Nat → Sh) (add : Nat → Bool) (s : Sh) (b : B4) : (Dyn.dfun Try.prog tabPc (pcLp sh add s b) 3 Try.f22 [dvL s, dvX b]).ro Try.prog Try.f22.results = .side [pcS s b 0 0 = pcS s b 0 0] (.leaf (rI (foldN (pcG sh add b) 0 s.n))) := by kernel_rfl
theorem pc_lvl (n : Nat) (add : Nat → Bool) (sh : Nat → Sh) (hn : n ≤ 1000000000) (hP : ∀ i, i < n → PdS (sh i)) (b : B4) : Dyn.CallD Try.prog 22 [dvL (mkL n add sh), dvX b] (rI (foldN (pcG sh add b) 0 n)) :=
  Dyn.dcontract (lp := pcLp sh add (mkL n add sh) b) (fuel := 3) tabPc_ok mo Try.func22 (by kernel_rfl) (c := bodyD Try.f22.body) (by kernel_rfl)
    (fun w0 => by rw [pc_blocks]; exact lpOk_cons (pc_loop n add sh hn hP b w0) (lpOk_cons (fun s o h => by cases h) lpOk_nil))
    (by kernel_rfl) (pc_O sh add _ b) ⟨⟨rfl, trivial⟩, ro_leaf rfl⟩
theorem pClass_ok : ∀ s : Shp, ShB s → ∀ b, Dyn.CallD Try.prog 22 [dvL (toSh s), dvX b] (rI (pClass s b)) := by
  intro s h b
  cases s with
  | nil => exact h.elim
  | mk k a b' c r l n add sub =>
    have q := pc_lvl n add (fun i => toSh (sub i)) h.2.1 (fun i hi => PdS_mk (h.2.2 i hi)) b
    unfold pcG at q
    simp only [figClassE_eq] at q
    exact q
end Go.Proofs.Ythnenjodighlmaa

/-! ## Rof -/
namespace Go.Proofs.Ythnenjodighlmaa
open Go Go.ChangeShapes Go.WideShapes Go.ChangeAt Go.RowKit Go.Joins Go.Deep
set_option maxRecDepth 100000

section
variable {H : Type} {enc : TypeId × Value → H} {P : Program} {w : World} {base : Nat} {spare : Nat → Bool} {held : Bool}
theorem objs_den {tS tK tP tR tL tL1 tQ tE tB tI tQ' tE' : TypeId} (T : ShT P tS tK tP tR tL tL1 tQ tE tB tI) (q : P.underlying tQ' = some (.slice tE')) (ec : P.cellsOf tE' = 11)
    (he : ∃ h0 h1 : Field, P.underlying tE' = some (.struct #[h0, h1]) ∧ h0.offset = 0 ∧ h1.offset = 1 ∧ h0.type = tB ∧ h1.type = tS) {fuel : Nat} {v9 : Value} {y : DataW H × List MemPlace} (k6 : DataW.trod enc P w base spare held fuel tQ' [v9] = some y) :
    ∃ (m : Nat) (add : Nat → Bool) (sub : Nat → Shp), (∀ i, i < m → ShW (sub i)) ∧ Dyn.DenC w (fun b => b < w.heap.size) (.row m fun i => partC (add i) (toSh (sub i))) v9 := by
  obtain ⟨h0, h1, he, a0, a1, b0, b1⟩ := he
  rcases DataW.trod_slice q k6 with ⟨hv, _⟩ | ⟨a, len, cap, elems, rest, m, rfl, hv, _, hb, hle, _, hel, hall, _⟩
  · simp only [List.cons.injEq, and_true] at hv
    subst hv
    exact ⟨0, fun _ => false, fun _ => .nil, fun i hi => absurd hi (Nat.not_lt_zero i), .nil _ none 0⟩
  · simp only [List.cons.injEq, and_true] at hv
    subst hv
    have part : ∀ i, i < len → ∃ q : (Bool × Shp) × (Nat → Value), ShW q.1.2 ∧ (∀ j, j < 11 → w.cell? ((a.add (i * 11)).add j) = some (q.2 j)) ∧ (∀ j, j < 11 → Dyn.DenC w (fun b => b < w.heap.size) ((partC q.1.1 (toSh q.1.2)).getD j default) (q.2 j)) := fun i hi => by
      have key := hall i hi
      rw [ec, List.getElem?_eq_getElem (by omega)] at key
      obtain ⟨cs', h1', h2'⟩ := Option.bind_eq_some_iff.1 key
      obtain ⟨_, hlen', hcell⟩ := World.cells?_some h1'
      obtain ⟨ys, n', rfl, _, _, hyl, hfy⟩ := DataW.trod_struct he h2'
      have hyl : ys.length = 2 := hyl
      have m0 := hfy 0 h0 rfl
      have m1 := hfy 1 h1 rfl
      rw [List.getElem?_eq_getElem (by omega), b0, a0, T.bc] at m0
      rw [List.getElem?_eq_getElem (by omega), b1, a1, T.sc] at m1
      obtain ⟨c, cs'', rfl⟩ : ∃ c cs'', cs' = c :: cs'' := by
        match cs', hlen' with
        | c :: cs'', _ => exact ⟨c, cs'', rfl⟩
      simp only [List.drop_zero, List.take_succ_cons, List.take_zero, List.drop_succ_cons] at m0 m1
      rw [List.take_of_length_le (by simp only [List.length_cons] at hlen'; omega)] at m1
      obtain ⟨q, hq, _⟩ := DataW.trod_bool T.b m0
      simp only [List.cons.injEq, and_true] at hq
      subst hq
      obtain ⟨s', hW', hD'⟩ := shape_den T n' _ _ m1
      refine ⟨((q, s'), fun j => ((.bool q : Value) :: cs'').getD j default), hW', fun j hj => ?_, fun j hj => ?_⟩
      · rw [hcell j hj]
        show _ = some ((Value.bool q :: cs'').getD j default)
        rw [List.getD_eq_getElem?_getD, List.getElem?_eq_getElem (by omega)]; rfl
      · exact DenL_get (ds := partC q (toSh s')) (us := .bool q :: cs'') ⟨.p _ rfl, hD'⟩ (by omega)
    by_cases hz : len = 0
    · subst hz
      exact ⟨0, fun _ => false, fun _ => .nil, fun i hi => absurd hi (Nat.not_lt_zero i), .nil _ (some a) cap⟩
    · haveI : Inhabited ((Bool × Shp) × (Nat → Value)) := ⟨((false, .nil), fun _ => default)⟩
      obtain ⟨g, hg⟩ := choose_lt part
      have z0 := (hg 0 (by omega)).2.1 0 (by decide)
      have za : (a.add (0 * 11)).add 0 = a.add 0 := rfl
      rw [za] at z0
      obtain ⟨hlt, hsp⟩ := addr_cell z0
      have hsp := hsp rfl
      obtain ⟨b, off, sp⟩ := a
      dsimp only at hsp
      subst hsp
      simp only [addr_add] at hg hlt
      exact ⟨len, fun i => (g i).1.1, fun i => (g i).1.2, fun i hi => (hg i hi).1, .row len _ b off cap 11 (fun i j => (g i).2 j) hle hlt (fun i hi => ⟨rfl, fun j hj => (hg i hi).2.1 j hj⟩) (fun i j hi hj => (hg i hi).2.2 j hj)⟩
theorem open_O {tS tK tP tR tL tL1 tQ tE tB tI tQ' tE' : TypeId} (T : ShT P tS tK tP tR tL tL1 tQ tE tB tI) (q : P.underlying tQ' = some (.slice tE')) (ec : P.cellsOf tE' = 11)
    (he : ∃ h0 h1 : Field, P.underlying tE' = some (.struct #[h0, h1]) ∧ h0.offset = 0 ∧ h1.offset = 1 ∧ h0.type = tB ∧ h1.type = tS) {r : Reach} {b0 : Nat} {v : Value} {d : DataW H} {ps : List MemPlace} (hval : Value.okWide P w r b0 tQ' v) (hd : DataW.Trod enc P w base spare held tQ' v d ps) :
    ∃ s : Shp, ShW s ∧ Dyn.DenV w (fun b => b < w.heap.size) (dvL (toSh s)) v := by
  obtain ⟨a, len, cap, rfl⟩ := okWide_slice q hval
  obtain ⟨fuel, hf⟩ := hd
  obtain ⟨m, add, sub, hW, hD⟩ := objs_den T q ec he hf
  exact ⟨lForm m add sub, hW, hD⟩
end
end Go.Proofs.Ythnenjodighlmaa

/-! ## Tuc -/
namespace Go.Proofs.Ythnenjodighlmaa
open Go Go.RowKit Sym
set_option maxRecDepth 100000

end Go.Proofs.Ythnenjodighlmaa

/-! ## Bou -/
namespace Go.Proofs.Ythnenjodighlmaa
open Go Go.RowKit Sym
set_option maxRecDepth 100000

def ruM (a : Int × Int) : Int := W ((W (a.1 + a.2)).tdiv 2)
def ruStep (v : Int) (a : Int × Int) : Int × Int := (bif decide (W (ruM a * ruM a) ≥ v) then a.1 else W (ruM a + 1), bif decide (W (ruM a * ruM a) ≥ v) then ruM a else a.2)
def ruG (v : Int) (_ : Nat) (a : Int × Int) : Int × Int := ruStep v a
def ruCnt (v : Int) : Nat → Int × Int → Nat
  | 0, _ => 0
  | f + 1, a => if a.1 < a.2 then ruCnt v f (ruStep v a) + 1 else 0
def ruA : Int × Int := (0, 2147483648)
def ruN (v : Int) : Nat := ruCnt v 32 ruA
/-- the least whole number whose square is not less than v -/
def rupF (v : Int) : Int := (foldN (ruG v) ruA (ruN v)).1
def ruI (a : Int × Int) : Prop := 0 ≤ a.1 ∧ a.1 ≤ a.2 ∧ a.2 ≤ 2147483648
theorem ruM_eq {a : Int × Int} (h : ruI a) : ruM a = (a.1 + a.2) / 2 := by
  obtain ⟨h1, h2, h3⟩ := h
  unfold ruM
  rw [W_id (x := a.1 + a.2) (by omega) (by omega), Int.tdiv_eq_ediv_of_nonneg (by omega), W_id (by omega) (by omega)]
theorem ru_step {v : Int} {a : Int × Int} (h : ruI a) (hlt : a.1 < a.2) : ruI (ruStep v a) ∧ 2 * ((ruStep v a).2 - (ruStep v a).1) ≤ a.2 - a.1 := by
  have m := ruM_eq h
  obtain ⟨h1, h2, h3⟩ := h
  have w : W (ruM a + 1) = ruM a + 1 := by rw [m]; exact W_id (by omega) (by omega)
  unfold ruStep ruI
  rw [w]
  cases decide (W (ruM a * ruM a) ≥ v)
  · exact ⟨⟨by dsimp only [cond_false]; omega, by dsimp only [cond_false]; omega, by dsimp only [cond_false]; omega⟩, by dsimp only [cond_false]; omega⟩
  · exact ⟨⟨by dsimp only [cond_true]; omega, by dsimp only [cond_true]; omega, by dsimp only [cond_true]; omega⟩, by dsimp only [cond_true]; omega⟩
theorem foldN_ru (v : Int) (a : Int × Int) : ∀ k, foldN (ruG v) a (k + 1) = foldN (ruG v) (ruStep v a) k
  | 0 => rfl
  | k + 1 => by
    show ruG v (k + 1) (foldN (ruG v) a (k + 1)) = ruG v k (foldN (ruG v) (ruStep v a) k)
    rw [foldN_ru v a k]; rfl
theorem ru_run (v : Int) : ∀ (f : Nat) (a : Int × Int), ruI a → a.2 - a.1 < 2 ^ f → (∀ k, k < ruCnt v f a → (foldN (ruG v) a k).1 < (foldN (ruG v) a k).2) ∧ ¬ (foldN (ruG v) a (ruCnt v f a)).1 < (foldN (ruG v) a (ruCnt v f a)).2
  | 0, a, h, hf => by
    refine ⟨fun k hk => absurd hk (Nat.not_lt_zero k), ?_⟩
    show ¬ a.1 < a.2
    have : (2 : Int) ^ 0 = 1 := by decide
    omega
  | f + 1, a, h, hf => by
    by_cases hlt : a.1 < a.2
    · have st := ru_step (v := v) h hlt
      have e : (2 : Int) ^ (f + 1) = 2 * 2 ^ f := by rw [Int.pow_succ, Int.mul_comm]
      have ih := ru_run v f (ruStep v a) st.1 (by omega)
      have c : ruCnt v (f + 1) a = ruCnt v f (ruStep v a) + 1 := by simp only [ruCnt]; rw [if_pos hlt]
      rw [c]
      refine ⟨fun k hk => ?_, ?_⟩
      · cases k with
        | zero => exact hlt
        | succ k => rw [foldN_ru]; exact ih.1 k (by omega)
      · rw [foldN_ru]; exact ih.2
    · have c : ruCnt v (f + 1) a = 0 := by simp only [ruCnt]; rw [if_neg hlt]
      rw [c]
      exact ⟨fun k hk => absurd hk (Nat.not_lt_zero k), hlt⟩
theorem ru_all (v : Int) : (∀ k, k < ruN v → (foldN (ruG v) ruA k).1 < (foldN (ruG v) ruA k).2) ∧ ¬ (foldN (ruG v) ruA (ruN v)).1 < (foldN (ruG v) ruA (ruN v)).2 := ru_run v 32 ruA ⟨by decide, by decide, by decide⟩ (by decide)
def ruS (v : Int) (a : Int × Int) : Dyn.St := mkS 22 [(0, sI v), (2, .k (vi 0)), (3, sI a.1), (4, sI a.2)] []
def ruK : List Nat := [0, 2, 3, 4]
def ruB (v : Int) (a : Int × Int) : Dyn.Out := .ite (decide (a.1 < a.2)) (.leaf .normal (ruS v (ruStep v a))) (.leaf (.exit 0) (ruS v a))
theorem ru_B (v : Int) (a : Int × Int) : (Dyn.lexec Try.prog tabF0 Dyn.noLp 3 (unloopD (blkD Try.f59.body 0)) .leaf (ruS v a)).rl (keepR 22 [] [] ruK [2]) = ruB v a := by kernel_rfl
def ruLp (v : Int) : Dyn.Lp := fun id st => match id with
  | 0 => some (.side [keepA 22 [] [] ruK (2 ^ 3 + 2 ^ 4) st = ruS v ruA] (.leaf .normal (ruS v (foldN (ruG v) ruA (ruN v)))))
  | _ => none
theorem ru_blocks : blocksL (bodyD Try.f59.body) = [(0, .loop (unloopD (blkD Try.f59.body 0))), (1, blkD Try.f59.body 1)] := by kernel_rfl
theorem ru_b0 : blocksL (unloopD (blkD Try.f59.body 0)) = [(1, blkD Try.f59.body 1)] := by kernel_rfl
theorem ru_loop (v : Int) (w0 : Dyn.Base Try.prog) (st : Dyn.St) (o : Dyn.Out) (h : ruLp v 0 st = some o) : Dyn.BlockSound Try.prog w0 0 (.loop (unloopD (blkD Try.f59.body 0))) st o := by
  simp only [ruLp, Option.some.injEq] at h
  subst h
  refine side_one fun hS => ?_
  refine fold_block (fuel := 3) tabF0_ok mo (lp := Dyn.noLp) (by rw [ru_b0]; exact lpOk_cons (fun s o h => by cases h) lpOk_nil) (fun _ a => ruS v a) (ruN v) (ruG v) ruA (keepR 22 [] [] ruK [2]) (keepR_ent 22 _ _ _ _) (fun _ a => ruB v a) (fun _ a => ru_B v a) (fun i hi => ?_) ?_ (hS ▸ keepA_ent 22 _ _ _ _ st)
  · exact ⟨fun _ => ⟨rfl, Dyn.Fits.refl _⟩, fun hf => absurd ((ru_all v).1 i hi) (by simpa using hf)⟩
  · exact ⟨fun ht => absurd (by simpa using ht) (ru_all v).2, fun _ => ⟨rfl, Dyn.Fits.refl _⟩⟩
theorem rootUp_ok (v : Int) : Dyn.CallD Try.prog 59 [dvI v] (rI (rupF v)) :=
  Dyn.dcontract (lp := ruLp v) (fuel := 3) (X := tabF0) tabF0_ok mo Try.func59 (by kernel_rfl) (c := bodyD Try.f59.body) (by kernel_rfl)
    (fun w0 => by rw [ru_blocks]; exact lpOk_cons (ru_loop v w0) (lpOk_cons (fun s o h => by cases h) lpOk_nil))
    (by kernel_rfl) (O := .side [ruS v ruA = ruS v ruA] (.leaf (rI (rupF v)))) (by kernel_rfl) ⟨⟨rfl, trivial⟩, rfl⟩
/-! ### take -/
def tkF (f : Bool) (a b : B4) : B4 := ⟨bif f then imin a.x0 b.x0 else b.x0, bif f then imin a.y0 b.y0 else b.y0, bif f then imax a.x1 b.x1 else b.x1, bif f then imax a.y1 b.y1 else b.y1⟩
def bxV (b : B4) : List Value := [vi b.x0, vi b.y0, vi b.x1, vi b.y1]
def tkL (f : Bool) (a : B4) : Dyn.Lent := [(4, [vb f]), (40, bxV a)]
theorem tk_O (f : Bool) (a b : B4) : (Dyn.dfunX Try.prog tabF0 Dyn.noLp 3 Try.f60 (tkL f a) [.d (dvX b), .lp 0 0, .lp 1 0]).rx Try.prog (tkL f a) Try.f60.results
    = .ite f (.leaf (.tuple ⟨[]⟩) [[vb true], bxV (tkF true a b)]) (.leaf (.tuple ⟨[]⟩) [[vb true], bxV (tkF false a b)]) := by kernel_rfl
theorem take_ok (f : Bool) (a b : B4) : Dyn.CallX Try.prog 60 [.d (dvX b), .lp 0 0, .lp 1 0] (tkL f a) (.tuple ⟨[]⟩) [[vb true], bxV (tkF f a b)] :=
  Dyn.xcontract (lp := Dyn.noLp) (fuel := 3) (X := tabF0) tabF0_ok mo Try.func60 (by kernel_rfl) (c := bodyD Try.f60.body) (by kernel_rfl) (fun w0 => Dyn.noLp_ok _ w0)
    (by kernel_rfl) (by kernel_rfl) (by kernel_rfl) (tk_O f a b) ⟨fun h => by subst h; exact ⟨rfl, rfl⟩, fun h => by subst h; exact ⟨rfl, rfl⟩⟩
def enTk : List Dyn.LA → Dyn.Lent → Option (Value × List (List Value) × List Prop)
  | [.d u, .lp 0 0, .lp 1 0], [(t, [.bool f]), (t2, [.int .i64 x0, .int .i64 y0, .int .i64 x1, .int .i64 y1])] => match aX u, Nat.beq t 4, Nat.beq t2 40 with
    | some b, true, true => some (.tuple ⟨[]⟩, [[vb true], bxV (tkF f ⟨x0, y0, x1, y1⟩ b)], [])
    | _, _, _ => none
  | _, _ => none
theorem CallX_le1 {P : Program} {K : Nat} {u u' : Dyn.DV} {l : List Dyn.LA} {lent : Dyn.Lent} {r : Value} {o : List (List Value)} (h1 : Dyn.DVLe u u') (k : Dyn.CallX P K (.d u' :: l) lent r o) : Dyn.CallX P K (.d u :: l) lent r o := fun w F bs us hF hn hd hl hden => k w F bs us hF hn hd hl (by
  cases us with
  | nil => exact hden
  | cons x us => exact ⟨Dyn.DenV_le h1 hden.1, hden.2⟩)
theorem enTk_ok : Dyn.EntryXOk Try.prog (60, enTk) := fun as' lent u out ps h hp => by
  dsimp only at h
  unfold enTk at h
  split at h
  · rename_i t f t2 x0 y0 x1 y1
    split at h
    · rename_i b hb ht ht2
      have e1 := Nat.eq_of_beq_eq_true ht
      have e2 := Nat.eq_of_beq_eq_true ht2
      subst e1; subst e2
      simp only [Option.some.injEq, Prod.mk.injEq] at h
      obtain ⟨rfl, rfl, rfl⟩ := h
      exact CallX_le1 (aX_eq hb) (take_ok f ⟨x0, y0, x1, y1⟩ b)
    · cases h
  · cases h
def BdOk (x : Sh) (g : Sh → B4 × Bool) : Prop := Dyn.CallD Try.prog 42 [dvS x] (.tup [dvX (g x).1, dvB (g x).2])
def tdBd (Pd : Sh → Prop) (g : Sh → B4 × Bool) : List Dyn.EntryD := [(59, en1D qI fun v => rI (rupF v)), (42, en1D (qAnd qS Pd) fun x => .tup [dvX (g x).1, dvB (g x).2])]
def drBd (K : Nat) : Bool := Nat.beq K 60
def tabBd (Pd : Sh → Prop) (g : Sh → B4 × Bool) : Dyn.Tabs := Dyn.tabsX tbF (tdBd Pd g) [(60, enTk)] drBd dtyS true
theorem tabBd_ok {Pd : Sh → Prop} {g : Sh → B4 × Bool} (ih : ∀ x, Pd x → BdOk x g) : Dyn.TabsOk Try.prog (tabBd Pd g) :=
  Dyn.tabsX_ok tbF_ok (List.forall_mem_cons.2 ⟨en1D_ok qI_ok fun v _ => rootUp_ok v, List.forall_mem_cons.2 ⟨en1D_ok (qAnd_ok qS_ok) fun x h => ih x h.1, fun _ h => by cases h⟩⟩) (List.forall_mem_cons.2 ⟨enTk_ok, fun _ h => by cases h⟩)
def bdQ : Bool × B4 := (false, ⟨0, 0, 0, 0⟩)
def bdI (l : Ctr) (i k : Nat) (q : Bool × B4) : Bool × B4 := (true, tkF q.1 q.2 (aroundF (l.p i k) (l.p i k) 0))
def bdO (l : Ctr) (i : Nat) (q : Bool × B4) : Bool × B4 := foldN (bdI l i) q (l.m i)
def bdP (g : Sh → B4 × Bool) (sh : Nat → Sh) (add : Nat → Bool) (i : Nat) (q : Bool × B4) : Bool × B4 := bif !(add i) then q else bif (g (sh i)).2 then (true, tkF q.1 q.2 (g (sh i)).1) else q
def sFn : Dyn.SV := .v (.func (.func 60) ⟨[]⟩ ⟨[.pointer (some ⟨4, 0, none⟩), .pointer (some ⟨3, 0, none⟩)]⟩)
def bdH (s : Sh) (q : Bool × B4) : List (Option Dyn.HE) := [some (.deep (cS s)), some (.cells 27 (shV 0 8 s)), some (.cells 40 [vi 0, vi 0, vi 0, vi 0]), some (.cells 40 (bxV q.2)), some (.cells 4 [vb q.1])]
def bdL : List (Nat × Dyn.SV) := [(1, sL 1), (2, sL 2), (3, .k (vb false)), (6, sL 3), (7, sL 4), (8, sFn)]
def bdS (s : Sh) (q : Bool × B4) (i : Int) : Dyn.St := mkS 114 (bdL ++ [(72, sH 0 8 s.l.n), (73, sI s.l.n), (74, sI i)]) (bdH s q)
def bdT (s : Sh) (q : Bool × B4) (i j : Int) : Dyn.St := mkS 114 (bdL ++ [(10, sH 5 0 (s.l.m i.toNat)), (72, sH 0 8 s.l.n), (73, sI s.l.n), (74, sI i), (78, sH 5 0 (s.l.m i.toNat)), (79, sI (s.l.m i.toNat)), (80, sI j)]) (bdH s q ++ [some (.deep [cRow (s.l.m i.toNat) (s.l.p i.toNat)])])
def bdU (s : Sh) (q : Bool × B4) (i : Int) : Dyn.St := mkS 114 (bdL ++ [(92, sH 0 9 s.n), (93, sI s.n), (94, sI i)]) (bdH s q)
def bdK0 : List Nat := [1, 2, 3, 6, 7, 8, 72, 73, 74]
def bdK1 : List Nat := [1, 2, 3, 6, 7, 8, 10, 72, 73, 74, 78, 79, 80]
def bdK2 : List Nat := [1, 2, 3, 6, 7, 8, 92, 93, 94]
def accB (st : Dyn.St) : Bool × B4 := match st.heap.getD 3 none, st.heap.getD 4 none with
  | some (.cells _ [.int _ x0, .int _ y0, .int _ x1, .int _ y1]), some (.cells _ [.bool f]) => (f, ⟨x0, y0, x1, y1⟩)
  | _, _ => bdQ
def bdLp (g : Sh → B4 × Bool) (sh : Nat → Sh) (add : Nat → Bool) (s : Sh) : Dyn.Lp := fun id st => match id with
  | 1 => some (.side [keepA 114 [0, 1, 2, 4, 5] [] bdK0 (2 ^ 74) st = bdS s bdQ 0] (.leaf .normal (bdS s (foldN (bdO s.l) bdQ s.l.n) s.l.n)))
  | 3 =>
    let q := accB st
    let i := intD (st.slots.getD 74 .junk)
    some (.side [keepA 114 [0, 1, 2, 3, 4] [10] bdK1 (2 ^ 80) st = bdT s q i 0, 0 ≤ i ∧ i < s.l.n] (.leaf .normal (bdT s (bdO s.l i.toNat q) i (s.l.m i.toNat))))
  | 5 =>
    let q := accB st
    some (.side [keepA 114 [0, 1, 2, 3, 4] [] bdK2 (2 ^ 94) st = bdU s q 0] (.leaf .normal (bdU s (foldN (bdP g sh add) q s.n) s.n)))
  | _ => none
def bdBi (s : Sh) (q : Bool × B4) (i j : Nat) : Dyn.Out :=
  .ite (decide ((j : Int) < s.l.m i)) (.side [0 ≤ (j : Int) ∧ (j : Int) < s.l.m i] (.leaf .normal (bdT s (bdI s.l i j q) i (W (j + 1))))) (.leaf (.exit 3) (bdT s q i j))
def bdBo (s : Sh) (q : Bool × B4) (i : Nat) : Dyn.Out :=
  .ite (decide ((i : Int) < s.l.n)) (.side [0 ≤ (i : Int) ∧ (i : Int) < s.l.n] (.side [bdT s q i 0 = bdT s q i 0, 0 ≤ (i : Int) ∧ (i : Int) < s.l.n] (.leaf .normal (bdS s (bdO s.l i q) (W (i + 1)))))) (.leaf (.exit 1) (bdS s q i))
def bdBp (Pd : Sh → Prop) (g : Sh → B4 × Bool) (sh : Nat → Sh) (add : Nat → Bool) (s : Sh) (q : Bool × B4) (i : Nat) : Dyn.Out :=
  .ite (decide ((i : Int) < s.n)) (.side [0 ≤ (i : Int) ∧ (i : Int) < s.n] (.ite (!(add i)) (.leaf .normal (bdU s q (W (i + 1)))) (.side [Pd (sh i), ctrSelf (sh i).l] (.ite (g (sh i)).2 (.leaf .normal (bdU s (true, tkF q.1 q.2 (g (sh i)).1) (W (i + 1)))) (.leaf .normal (bdU s q (W (i + 1)))))))) (.leaf (.exit 5) (bdU s q i))
theorem bd_Bi (Pd : Sh → Prop) (g : Sh → B4 × Bool) (sh : Nat → Sh) (add : Nat → Bool) (s : Sh) (q : Bool × B4) (i j : Nat) : (Dyn.lexec Try.prog (tabBd Pd g) (bdLp g sh add s) 3 (unloopD (blkD Try.f42.body 3)) .leaf (bdT s q i j)).rl (keepR 114 [0, 1, 2, 3, 4] [10] bdK1 []) = bdBi s q i j := by kernel_rfl
theorem bd_Bo (Pd : Sh → Prop) (g : Sh → B4 × Bool) (sh : Nat → Sh) (add : Nat → Bool) (s : Sh) (q : Bool × B4) (i : Nat) : (Dyn.lexec Try.prog (tabBd Pd g) (bdLp g sh add s) 3 (unloopD (blkD Try.f42.body 1)) .leaf (bdS s q i)).rl (keepR 114 [0, 1, 2, 3, 4] [] bdK0 []) = bdBo s q i := by kernel_rfl
theorem bd_Bp (Pd : Sh → Prop) (g : Sh → B4 × Bool) (k : Int) (a b c : P2) (r : Int) (l : Ctr) (n : Nat) (add : Nat → Bool) (sh : Nat → Sh) (q : Bool × B4) (i : Nat) : (Dyn.lexec Try.prog (tabBd Pd g) (bdLp g sh add (mkSh k a b c r l n add sh)) 3 (unloopD (blkD Try.f42.body 5)) .leaf (bdU (mkSh k a b c r l n add sh) q i)).rl (keepR 114 [0, 1, 2, 3, 4] [] bdK2 []) = bdBp Pd g sh add (mkSh k a b c r l n add sh) q i := by kernel_rfl
theorem bd_blocks : blocksL (bodyD Try.f42.body) = [(0, blkD Try.f42.body 0), (1, .loop (unloopD (blkD Try.f42.body 1))), (2, blkD Try.f42.body 2), (3, .loop (unloopD (blkD Try.f42.body 3))), (4, blkD Try.f42.body 4), (5, .loop (unloopD (blkD Try.f42.body 5))), (6, blkD Try.f42.body 6)] := by kernel_rfl
theorem bd_b1 : blocksL (unloopD (blkD Try.f42.body 1)) = [(2, blkD Try.f42.body 2), (3, .loop (unloopD (blkD Try.f42.body 3))), (4, blkD Try.f42.body 4)] := by kernel_rfl
theorem bd_b3 : blocksL (unloopD (blkD Try.f42.body 3)) = [(4, blkD Try.f42.body 4)] := by kernel_rfl
theorem bd_b5 : blocksL (unloopD (blkD Try.f42.body 5)) = [(6, blkD Try.f42.body 6)] := by kernel_rfl
theorem bd_inner {Pd : Sh → Prop} {g : Sh → B4 × Bool} (ih : ∀ x, Pd x → BdOk x g) (sh : Nat → Sh) (add : Nat → Bool) (s : Sh) (hl : CtrB s.l) (w0 : Dyn.Base Try.prog) (st : Dyn.St) (o : Dyn.Out)
    (h : bdLp g sh add s 3 st = some o) : Dyn.BlockSound Try.prog w0 3 (.loop (unloopD (blkD Try.f42.body 3))) st o := by
  simp only [bdLp, Option.some.injEq] at h
  subst h
  refine side_two fun hS hi => ?_
  revert hS hi
  generalize intD (st.slots.getD 74 .junk) = i'
  generalize accB st = q
  intro hS hi
  obtain ⟨i, rfl⟩ : ∃ i : Nat, i' = (i : Int) := ⟨i'.toNat, by omega⟩
  have hm : s.l.m i ≤ 1000000000 := hl.2 i (by omega)
  refine fold_block (fuel := 3) (tabBd_ok ih) mo (lp := bdLp g sh add s) (by rw [bd_b3]; exact lpOk_cons (fun s o h => by cases h) lpOk_nil) (fun j q => bdT s q i j) (s.l.m i) (bdI s.l i) q (keepR 114 [0, 1, 2, 3, 4] [10] bdK1 []) (keepR_ent 114 _ _ _ _) (fun j q => bdBi s q i j) (fun j q => bd_Bi Pd g sh add s q i j) (fun j hj => ?_) ?_ (hS ▸ keepA_ent 114 _ _ _ _ st)
  · refine ⟨fun _ => ⟨⟨⟨by omega, by omega⟩, trivial⟩, rfl, ?_⟩, fun hf => ?_⟩
    · rw [Wn1 hj hm]; exact Dyn.Fits.refl _
    · rw [decide_eq_false_iff_not] at hf; omega
  · refine ⟨fun ht => ?_, fun _ => ⟨rfl, Dyn.Fits.refl _⟩⟩
    rw [decide_eq_true_eq] at ht; omega
theorem bd_outer {Pd : Sh → Prop} {g : Sh → B4 × Bool} (ih : ∀ x, Pd x → BdOk x g) (sh : Nat → Sh) (add : Nat → Bool) (s : Sh) (hl : CtrB s.l) (w0 : Dyn.Base Try.prog) (st : Dyn.St) (o : Dyn.Out)
    (h : bdLp g sh add s 1 st = some o) : Dyn.BlockSound Try.prog w0 1 (.loop (unloopD (blkD Try.f42.body 1))) st o := by
  simp only [bdLp, Option.some.injEq] at h
  subst h
  refine side_one fun hS => ?_
  refine fold_block (fuel := 3) (tabBd_ok ih) mo (lp := bdLp g sh add s) (by rw [bd_b1]; exact lpOk_cons (fun s o h => by cases h) (lpOk_cons (bd_inner ih sh add s hl w0) (lpOk_cons (fun s o h => by cases h) lpOk_nil))) (fun i q => bdS s q i) s.l.n (bdO s.l) bdQ (keepR 114 [0, 1, 2, 3, 4] [] bdK0 []) (keepR_ent 114 _ _ _ _) (fun i q => bdBo s q i) (fun i q => bd_Bo Pd g sh add s q i) (fun i hi => ?_) ?_ (hS ▸ keepA_ent 114 _ _ _ _ st)
  · have hb : 0 ≤ (i : Int) ∧ (i : Int) < s.l.n := ⟨by omega, by omega⟩
    refine ⟨fun _ => ⟨⟨hb, trivial⟩, ⟨rfl, hb, trivial⟩, rfl, ?_⟩, fun hf => ?_⟩
    · rw [Wn1 hi hl.1]; exact Dyn.Fits.refl _
    · rw [decide_eq_false_iff_not] at hf; omega
  · refine ⟨fun ht => ?_, fun _ => ⟨rfl, Dyn.Fits.refl _⟩⟩
    rw [decide_eq_true_eq] at ht; omega
theorem bd_parts {Pd : Sh → Prop} {g : Sh → B4 × Bool} (ih : ∀ x, Pd x → BdOk x g) (k : Int) (a b c : P2) (r : Int) (l : Ctr) (n : Nat) (add : Nat → Bool) (sh : Nat → Sh) (hn : n ≤ 1000000000) (hP : ∀ i, i < n → Pd (sh i)) (w0 : Dyn.Base Try.prog) (st : Dyn.St) (o : Dyn.Out)
    (h : bdLp g sh add (mkSh k a b c r l n add sh) 5 st = some o) : Dyn.BlockSound Try.prog w0 5 (.loop (unloopD (blkD Try.f42.body 5))) st o := by
  simp only [bdLp, Option.some.injEq] at h
  subst h
  refine side_one fun hS => ?_
  revert hS
  generalize accB st = q0
  intro hS
  refine fold_block (fuel := 3) (tabBd_ok ih) mo (lp := bdLp g sh add (mkSh k a b c r l n add sh)) (by rw [bd_b5]; exact lpOk_cons (fun s o h => by cases h) lpOk_nil) (fun i q => bdU (mkSh k a b c r l n add sh) q i) n (bdP g sh add) q0 (keepR 114 [0, 1, 2, 3, 4] [] bdK2 []) (keepR_ent 114 _ _ _ _) (fun i q => bdBp Pd g sh add (mkSh k a b c r l n add sh) q i) (fun i q => bd_Bp Pd g k a b c r l n add sh q i) (fun i hi => ?_) ?_ (hS ▸ keepA_ent 114 _ _ _ _ st)
  · have hb : 0 ≤ (i : Int) ∧ (i : Int) < (n : Int) := ⟨by omega, by omega⟩
    generalize foldN (bdP g sh add) q0 i = q
    unfold bdP
    refine ⟨fun _ => ⟨⟨hb, trivial⟩, fun hx => ⟨rfl, ?_⟩, fun hx => ⟨⟨hP i hi, ctrSelf_ok _, trivial⟩, fun hy => ⟨rfl, ?_⟩, fun hy => ⟨rfl, ?_⟩⟩⟩, fun hf => ?_⟩
    · rw [Wn1 hi hn, hx]; exact Dyn.Fits.refl _
    · rw [Wn1 hi hn, hx, hy]; exact Dyn.Fits.refl _
    · rw [Wn1 hi hn, hx, hy]; exact Dyn.Fits.refl _
    · rw [decide_eq_false_iff_not] at hf
      exact absurd hb.2 hf
  · refine ⟨fun ht => ?_, fun _ => ⟨rfl, Dyn.Fits.refl _⟩⟩
    rw [decide_eq_true_eq] at ht
    exact absurd (show (n : Int) < (n : Int) from ht) (by omega)
def bdR (s : Sh) : Int := W (s.r + rupF (W (W (W (s.a.x - s.c.x) * W (s.a.x - s.c.x)) + W (W (s.a.y - s.c.y) * W (s.a.y - s.c.y)))))
def bdAll (g : Sh → B4 × Bool) (sh : Nat → Sh) (add : Nat → Bool) (s : Sh) : Bool × B4 := foldN (bdP g sh add) (foldN (bdO s.l) bdQ s.l.n) s.n
def bdOO (g : Sh → B4 × Bool) (sh : Nat → Sh) (add : Nat → Bool) (s : Sh) : Dyn.RO :=
  .ite (s.k == 1) (.leaf (.tup [dvX (aroundF s.a s.a s.r), dvB true]))
  (.ite (bif s.k == 3 then s.k == 3 else s.k == 4) (.leaf (.tup [dvX (aroundF s.a s.b s.r), dvB true]))
  (.ite (s.k == 5) (.leaf (.tup [dvX (aroundF s.c s.c (bdR s)), dvB true]))
  (.side [bdS s bdQ 0 = bdS s bdQ 0] (.side [bdU s (foldN (bdO s.l) bdQ s.l.n) 0 = bdU s (foldN (bdO s.l) bdQ s.l.n) 0] (.leaf (.tup [dvX (bdAll g sh add s).2, dvB (bdAll g sh add s).1]))))))
theorem bd_OO (Pd : Sh → Prop) (g : Sh → B4 × Bool) (sh : Nat → Sh) (add : Nat → Bool) (s : Sh) : (Dyn.dfun Try.prog (tabBd Pd g) (bdLp g sh add s) 3 Try.f42 [dvS s]).ro Try.prog Try.f42.results = bdOO g sh add s := by kernel_rfl
def boundsG (g : Sh → B4 × Bool) (sh : Nat → Sh) (add : Nat → Bool) (s : Sh) : B4 × Bool :=
  bif s.k == 1 then (aroundF s.a s.a s.r, true) else bif bif s.k == 3 then s.k == 3 else s.k == 4 then (aroundF s.a s.b s.r, true) else bif s.k == 5 then (aroundF s.c s.c (bdR s), true) else ((bdAll g sh add s).2, (bdAll g sh add s).1)
theorem bd_sat (g : Sh → B4 × Bool) (sh : Nat → Sh) (add : Nat → Bool) (s : Sh) : (bdOO g sh add s).sat fun r => Dyn.RVLe r (.tup [dvX (boundsG g sh add s).1, dvB (boundsG g sh add s).2]) := by
  unfold boundsG
  refine ⟨fun h => ?_, fun h => ⟨fun h2 => ?_, fun h2 => ⟨fun h3 => ?_, fun h3 => ⟨⟨rfl, trivial⟩, ⟨rfl, trivial⟩, ?_⟩⟩⟩⟩
  · rw [h]; exact ⟨Dyn.DVLe.refl _, rfl, trivial⟩
  · rw [h, h2]; exact ⟨Dyn.DVLe.refl _, rfl, trivial⟩
  · rw [h, h2, h3]; exact ⟨Dyn.DVLe.refl _, rfl, trivial⟩
  · rw [h, h2, h3]; exact ⟨Dyn.DVLe.refl _, Dyn.DVLe.refl _, trivial⟩
theorem bounds_lvl {Pd : Sh → Prop} {g : Sh → B4 × Bool} (ih : ∀ x, Pd x → BdOk x g) (k : Int) (a b c : P2) (r : Int) (l : Ctr) (n : Nat) (add : Nat → Bool) (sh : Nat → Sh) (hl : CtrB l) (hn : n ≤ 1000000000) (hP : ∀ i, i < n → Pd (sh i)) :
    Dyn.CallD Try.prog 42 [dvS (mkSh k a b c r l n add sh)] (.tup [dvX (boundsG g sh add (mkSh k a b c r l n add sh)).1, dvB (boundsG g sh add (mkSh k a b c r l n add sh)).2]) :=
  Dyn.dcontract (lp := bdLp g sh add (mkSh k a b c r l n add sh)) (fuel := 3) (tabBd_ok ih) mo Try.func42 (by kernel_rfl) (c := bodyD Try.f42.body) (by kernel_rfl)
    (fun w0 => by
      rw [bd_blocks]
      exact lpOk_cons (fun s o h => by cases h) (lpOk_cons (bd_outer ih sh add _ hl w0) (lpOk_cons (fun s o h => by cases h) (lpOk_cons (bd_inner ih sh add _ hl w0) (lpOk_cons (fun s o h => by cases h) (lpOk_cons (bd_parts ih k a b c r l n add sh hn hP w0) (lpOk_cons (fun s o h => by cases h) lpOk_nil)))))))
    (by kernel_rfl) (bd_OO Pd g sh add _) (bd_sat g sh add (mkSh k a b c r l n add sh))
/-- bounds, all the way down -/
def bndF : Shp → B4 × Bool
  | .nil => (⟨0, 0, 0, 0⟩, false)
  | .mk k a b c r l n add sub =>
    bif k == 1 then (aroundF a a r, true) else bif bif k == 3 then k == 3 else k == 4 then (aroundF a b r, true) else bif k == 5 then (aroundF c c (bdR ⟨k, a, b, c, r, l, n, noF⟩), true) else
    ((foldN (fun i q => bif !(add i) then q else bif (bndF (sub i)).2 then (true, tkF q.1 q.2 (bndF (sub i)).1) else q) (foldN (bdO l) bdQ l.n) n).2, (foldN (fun i q => bif !(add i) then q else bif (bndF (sub i)).2 then (true, tkF q.1 q.2 (bndF (sub i)).1) else q) (foldN (bdO l) bdQ l.n) n).1)
noncomputable def bndE (x : Sh) : B4 × Bool := bndF (ofSh x)
theorem bndE_eq (s : Shp) : bndE (toSh s) = bndF s := by unfold bndE; rw [ofSh_toSh]
theorem bndF_lvl (k : Int) (a b c : P2) (r : Int) (l : Ctr) (n : Nat) (add : Nat → Bool) (sub : Nat → Shp) : bndF (.mk k a b c r l n add sub) = boundsG bndE (fun i => toSh (sub i)) add (mkSh k a b c r l n add (fun i => toSh (sub i))) := by
  unfold boundsG bdAll bdP
  simp only [bndE_eq]
  rfl
theorem bnd_ok : ∀ s : Shp, ShB s → BdOk (toSh s) bndE := by
  intro s
  induction s with
  | nil => intro h; exact h.elim
  | mk k a b c r l n add sub ih =>
    intro h
    unfold BdOk
    rw [bndE_eq, bndF_lvl]
    exact bounds_lvl (Pd := fun x => ∃ i, i < n ∧ x = toSh (sub i)) (fun x hx => by
      obtain ⟨i, hi, rfl⟩ := hx
      exact ih i (h.2.2 i hi)) k a b c r l n add (fun i => toSh (sub i)) h.1 h.2.1 (fun i hi => ⟨i, hi, rfl⟩)
theorem bnd_all : ∀ x, PdS x → BdOk x bndE := fun x hx => by
  have k := bnd_ok _ hx.1
  unfold BdOk at k
  rw [show bndE (toSh (ofSh x)) = bndE x by unfold bndE; rw [ofSh_toSh]] at k
  exact CallD_le (args := [dvS (toSh (ofSh x))]) ⟨SLe.dv hx.2, trivial⟩ k
noncomputable def figBnd (x : Sh) : B4 × Bool := bif okE x then bndE x else (⟨0, 0, 0, 0⟩, false)
noncomputable def tdBb : List Dyn.EntryD := [(39, en1D (qAnd qS PdS) fun x => rB (okE x)), (42, en1D (qAnd qS PdS) fun x => .tup [dvX (bndE x).1, dvB (bndE x).2])]
noncomputable def tabBb : Dyn.Tabs := Dyn.tabs tbF tdBb noD dtyS
theorem tabBb_ok : Dyn.TabsOk Try.prog tabBb := Dyn.tabs_ok tbF_ok (List.forall_mem_cons.2 ⟨en1D_ok (qAnd_ok qS_ok) fun x h => figOk_ok x h.1, List.forall_mem_cons.2 ⟨en1D_ok (qAnd_ok qS_ok) fun x h => bnd_all x h.1, fun _ h => by cases h⟩⟩)
noncomputable def bbO (x : Sh) : Dyn.RO := .side [PdS x, ctrSelf x.l] (.ite (!(okE x)) (.leaf (.tup [dvX ⟨0, 0, 0, 0⟩, dvB false])) (.side [PdS x, ctrSelf x.l] (.leaf (.tup [dvX (bndE x).1, dvB (bndE x).2]))))
theorem bb_O (x : Sh) : (Dyn.dfun Try.prog tabBb Dyn.noLp 3 Try.f16 [dvS x]).ro Try.prog Try.f16.results = bbO x := by kernel_rfl
theorem figBnd_ok (x : Sh) (h : PdS x) : Dyn.CallD Try.prog 16 [dvS x] (.tup [dvX (figBnd x).1, dvB (figBnd x).2]) :=
  Dyn.dcontract (lp := Dyn.noLp) (fuel := 3) tabBb_ok mo Try.func16 (by kernel_rfl) (c := bodyD Try.f16.body) (by kernel_rfl) (fun w0 => Dyn.noLp_ok _ w0) (by kernel_rfl) (bb_O x) (by
    unfold figBnd
    refine ⟨⟨h, ctrSelf_ok _, trivial⟩, fun h1 => ?_, fun h1 => ⟨⟨h, ctrSelf_ok _, trivial⟩, ?_⟩⟩
    · rw [show okE x = false by simpa using h1]; exact ⟨Dyn.DVLe.refl _, rfl, trivial⟩
    · rw [show okE x = true by simpa using h1]; exact ⟨Dyn.DVLe.refl _, Dyn.DVLe.refl _, trivial⟩)
end Go.Proofs.Ythnenjodighlmaa

/-! ## Rpl -/
namespace Go.Proofs.Ythnenjodighlmaa
open Go Go.RowKit Sym
set_option maxRecDepth 100000

def okS (s : Shp) : Bool := (validF s 0 1000).1
theorem okE_S (s : Shp) : okE (toSh s) = okS s := by unfold okE okS; rw [vE_eq]
def figClassC (s : Shp) (b : B4) : Int := bif !(okS s) then 0 else classF s b
theorem figClassS_C (s : Shp) (b : B4) : figClassS s b = figClassC s b := by unfold figClassS figClassC; rw [okE_S]
def pClassC (s : Shp) (b : B4) : Int := foldN (fun i acc => foldF acc (figClassC (suO s i) b) (adO s i)) 0 (nuO s)
theorem pClass_C (s : Shp) (b : B4) : pClass s b = pClassC s b := by
  unfold pClass pClassC
  simp only [figClassS_C]
def figBndC (s : Shp) : B4 × Bool := bif okS s then bndF s else (⟨0, 0, 0, 0⟩, false)
theorem figBnd_C (s : Shp) : figBnd (toSh s) = figBndC s := by unfold figBnd figBndC; rw [okE_S, bndE_eq]
/-! ### what is kept -/
def kN (keep : Nat → Bool) : Nat → Nat
  | 0 => 0
  | n + 1 => bif keep n then kN keep n + 1 else kN keep n
def kIx (keep : Nat → Bool) : Nat → Nat → Nat
  | 0, _ => 0
  | n + 1, j => bif keep n && Nat.beq (kN keep n) j then n else kIx keep n j
theorem kN_le (keep : Nat → Bool) : ∀ n, kN keep n ≤ n
  | 0 => Nat.le_refl _
  | n + 1 => by
    have := kN_le keep n
    unfold kN
    cases keep n
    · show kN keep n ≤ n + 1; omega
    · show kN keep n + 1 ≤ n + 1; omega
theorem kN_mono (keep : Nat → Bool) {i : Nat} : ∀ {n : Nat}, i ≤ n → kN keep i ≤ kN keep n
  | 0, h => by obtain rfl : i = 0 := by omega
               exact Nat.le_refl _
  | n + 1, h => by
    by_cases e : i = n + 1
    · subst e; exact Nat.le_refl _
    · have := kN_mono keep (i := i) (n := n) (by omega)
      show kN keep i ≤ (bif keep n then kN keep n + 1 else kN keep n)
      cases keep n
      · exact this
      · show kN keep i ≤ kN keep n + 1; omega
theorem kN_step (keep : Nat → Bool) {i : Nat} (h : keep i = true) : kN keep (i + 1) = kN keep i + 1 := by
  show (bif keep i then kN keep i + 1 else kN keep i) = _
  rw [h]; rfl
theorem kN_skip (keep : Nat → Bool) {i : Nat} (h : keep i = false) : kN keep (i + 1) = kN keep i := by
  show (bif keep i then kN keep i + 1 else kN keep i) = _
  rw [h]; rfl
theorem kIx_at (keep : Nat → Bool) {i : Nat} (h : keep i = true) : ∀ {n : Nat}, i < n → kIx keep n (kN keep i) = i
  | 0, hn => absurd hn (Nat.not_lt_zero i)
  | n + 1, hn => by
    show (bif keep n && Nat.beq (kN keep n) (kN keep i) then n else kIx keep n (kN keep i)) = i
    by_cases e : i = n
    · subst e
      rw [h, Nat.beq_refl]; rfl
    · have k1 := kN_mono keep (i := i + 1) (n := n) (by omega)
      rw [kN_step keep h] at k1
      have : Nat.beq (kN keep n) (kN keep i) = false := by
        cases q : Nat.beq (kN keep n) (kN keep i)
        · rfl
        · have := Nat.eq_of_beq_eq_true q; omega
      rw [this, Bool.and_false]
      exact kIx_at keep h (by omega)
theorem kIx_lt (keep : Nat → Bool) {j : Nat} : ∀ {n : Nat}, j < kN keep n → kIx keep n j < n ∧ keep (kIx keep n j) = true
  | 0, h => absurd h (Nat.not_lt_zero j)
  | n + 1, h => by
    show (bif keep n && Nat.beq (kN keep n) j then n else kIx keep n j) < n + 1 ∧ keep (bif keep n && Nat.beq (kN keep n) j then n else kIx keep n j) = true
    cases hk : keep n
    · rw [kN_skip keep hk] at h
      have := kIx_lt keep (j := j) (n := n) h
      exact ⟨by show kIx keep n j < n + 1; omega, this.2⟩
    · rw [kN_step keep hk] at h
      cases q : Nat.beq (kN keep n) j
      · have ne : kN keep n ≠ j := fun e => by rw [e, Nat.beq_refl] at q; cases q
        have := kIx_lt keep (j := j) (n := n) (by omega)
        exact ⟨by show kIx keep n j < n + 1; omega, this.2⟩
      · exact ⟨by show n < n + 1; omega, hk⟩
/-- the objects that are kept -/
def filL (keep : Nat → Bool) (s : Shp) : Shp := lForm (kN keep (nuO s)) (fun j => adO s (kIx keep (nuO s) j)) (fun j => suO s (kIx keep (nuO s) j))
/-- a fold over what is kept -/
theorem fil_fold {α : Type} (keep : Nat → Bool) (g : Nat → α → α) (a : α) (n : Nat) : ∀ m, m ≤ n → foldN (fun j acc => g (kIx keep n j) acc) a (kN keep m) = foldN (fun i acc => bif keep i then g i acc else acc) a m
  | 0, _ => rfl
  | m + 1, h => by
    have ih := fil_fold keep g a n m (by omega)
    cases hk : keep m
    · rw [kN_skip keep hk, ih]
      show _ = (bif keep m then _ else _)
      rw [hk]; rfl
    · rw [kN_step keep hk]
      show g (kIx keep n (kN keep m)) (foldN _ a (kN keep m)) = (bif keep m then _ else _)
      rw [kIx_at keep hk (show m < n by omega), ih, hk]; rfl
theorem pClass_fil (keep : Nat → Bool) (s : Shp) (b : B4) : pClassC (filL keep s) b = foldN (fun i acc => bif keep i then foldF acc (figClassC (suO s i) b) (adO s i) else acc) 0 (nuO s) :=
  fil_fold keep (fun i acc => foldF acc (figClassC (suO s i) b) (adO s i)) 0 (nuO s) (nuO s) (Nat.le_refl _)
/-- whether there is a bar -/
def hbF : Shp → Bool
  | .nil => false
  | .mk k _ _ _ _ _ n _ sub => bif k == 4 then true else !((runN (fun i (_ : Unit) => (!(hbF (sub i)), ())) () n).1)
def rchK (s : Shp) (i : Nat) : Bool := (figBndC (suO s i)).2
def reachF (s : Shp) : Shp := filL (rchK s) s
def nearK (s : Shp) (b : B4) (i : Nat) : Bool := bif hbF (suO s i) then true else !(apart (figBndC (suO s i)).1 b)
def nearG (s : Shp) (b : B4) : Shp := filL (nearK s b) s
/-! ### the count of cells -/
structure ExR where
  lo : Int
  hi : Int
  e : Int
  a : Int
def exNo (e a : Int) : ExR := ⟨0, 0, e, a⟩
/-- the quarters of a box -/
def spB (b : B4) (i : Nat) : B4 := match i with
  | 0 => ⟨spl b 0 b.x0, spl b 0 b.y0, spl b 0 (midX b), spl b 0 (midY b)⟩
  | 1 => ⟨spl b 0 (midX b), spl b 0 b.y0, spl b 0 b.x1, spl b 0 (midY b)⟩
  | 2 => ⟨spl b 0 b.x0, spl b 0 (midY b), spl b 0 (midX b), spl b 0 b.y1⟩
  | _ => ⟨spl b 0 (midX b), spl b 0 (midY b), spl b 0 b.x1, spl b 0 b.y1⟩
/-- one quarter after the other -/
def exQ (f : B4 → Int → ExR) (b : B4) (a : Int) : ExR :=
  bif (f (spB b 0) a).e != 0 then exNo (f (spB b 0) a).e (f (spB b 0) a).a else
  bif (f (spB b 1) (f (spB b 0) a).a).e != 0 then exNo (f (spB b 1) (f (spB b 0) a).a).e (f (spB b 1) (f (spB b 0) a).a).a else
  bif (f (spB b 2) (f (spB b 1) (f (spB b 0) a).a).a).e != 0 then exNo (f (spB b 2) (f (spB b 1) (f (spB b 0) a).a).a).e (f (spB b 2) (f (spB b 1) (f (spB b 0) a).a).a).a else
  bif (f (spB b 3) (f (spB b 2) (f (spB b 1) (f (spB b 0) a).a).a).a).e != 0 then exNo (f (spB b 3) (f (spB b 2) (f (spB b 1) (f (spB b 0) a).a).a).a).e (f (spB b 3) (f (spB b 2) (f (spB b 1) (f (spB b 0) a).a).a).a).a else
  ⟨W (W (W (W (0 + (f (spB b 0) a).lo) + (f (spB b 1) (f (spB b 0) a).a).lo) + (f (spB b 2) (f (spB b 1) (f (spB b 0) a).a).a).lo) + (f (spB b 3) (f (spB b 2) (f (spB b 1) (f (spB b 0) a).a).a).a).lo),
   W (W (W (W (0 + (f (spB b 0) a).hi) + (f (spB b 1) (f (spB b 0) a).a).hi) + (f (spB b 2) (f (spB b 1) (f (spB b 0) a).a).a).hi) + (f (spB b 3) (f (spB b 2) (f (spB b 1) (f (spB b 0) a).a).a).a).hi),
   0, (f (spB b 3) (f (spB b 2) (f (spB b 1) (f (spB b 0) a).a).a).a).a⟩
/-- cells of a box -/
def cellsN (d : Nat) : Int := ((4 ^ d : Nat) : Int)
/-- a look at a box: c is its class; at what its quarters give, if it is to be split -/
def exT (most c : Int) (cells : Int) (m : Int → ExR) (a : Int) : ExR :=
  bif !(decide (W (a + 1) ≤ most)) then exNo 6 (W (a + 1)) else
  bif c == 0 then exNo 0 (W (a + 1)) else bif c == 2 then ⟨cells, cells, 0, W (a + 1)⟩ else m (W (a + 1))
def exF (most : Int) : Nat → Shp → B4 → Int → ExR
  | 0, s, b, a => exT most (pClassC s b) (cellsN 0) (fun a => ⟨0, 1, 0, a⟩) a
  | d + 1, s, b, a => exT most (pClassC s b) (cellsN (d + 1)) (exQ (fun q a => exF most d (nearG s q) q a) b) a
end Go.Proofs.Ythnenjodighlmaa

/-! ## Rga -/
namespace Go.Proofs.Ythnenjodighlmaa
open Go Go.RowKit Sym
set_option maxRecDepth 100000

/-! ### hasBar -/
def hbN (g : Sh → Bool) (sh : Nat → Sh) (i : Nat) (_ : Unit) : Bool × Unit := (!(g (sh i)), ())
def hbG (g : Sh → Bool) (sh : Nat → Sh) (s : Sh) : Bool := bif s.k == 4 then true else !((runN (hbN g sh) () s.n).1)
def HbOk (x : Sh) (g : Sh → Bool) : Prop := Dyn.CallD Try.prog 69 [dvS x] (rB (g x))
def tdHb (Pd : Sh → Prop) (g : Sh → Bool) : List Dyn.EntryD := [(69, en1D (qAnd qS Pd) fun x => rB (g x))]
def tabHb (Pd : Sh → Prop) (g : Sh → Bool) : Dyn.Tabs := Dyn.tabs tbF (tdHb Pd g) noD dtyS
theorem tabHb_ok {Pd : Sh → Prop} {g : Sh → Bool} (ih : ∀ x, Pd x → HbOk x g) : Dyn.TabsOk Try.prog (tabHb Pd g) :=
  Dyn.tabs_ok tbF_ok (List.forall_mem_cons.2 ⟨en1D_ok (qAnd_ok qS_ok) fun x h => ih x h.1, fun _ h => by cases h⟩)
def hbS (s : Sh) (i : Int) : Dyn.St := mkS 19 [(2, .k (vb false)), (9, sH 0 9 s.n), (10, sI s.n), (11, sI i)] [some (.deep (cS s))]
def hbR : Dyn.St := mkS 19 [(2, .k (vb true))] []
def hbK : List Nat := [2, 9, 10, 11]
def hbLp (g : Sh → Bool) (sh : Nat → Sh) (s : Sh) : Dyn.Lp := fun id st => match id with
  | 0 => some (.side [keepA 19 [0] [] hbK (2 ^ 11) st = hbS s 0] (.ite (runN (hbN g sh) () s.n).1 (.leaf .normal (hbS s s.n)) (.leaf .ret hbR)))
  | _ => none
def hbB (Pd : Sh → Prop) (g : Sh → Bool) (sh : Nat → Sh) (s : Sh) (i : Nat) : Dyn.Out :=
  .ite (decide ((i : Int) < s.n)) (.side [0 ≤ (i : Int) ∧ (i : Int) < s.n] (.side [Pd (sh i), ctrSelf (sh i).l] (.ite (g (sh i)) (.leaf .ret hbR) (.leaf .normal (hbS s (W (i + 1))))))) (.leaf (.exit 0) (hbS s i))
theorem hb_B (Pd : Sh → Prop) (g : Sh → Bool) (k : Int) (a b c : P2) (r : Int) (l : Ctr) (n : Nat) (add : Nat → Bool) (sh : Nat → Sh) (i : Nat) :
    (Dyn.lexec Try.prog (tabHb Pd g) (hbLp g sh (mkSh k a b c r l n add sh)) 3 (unloopD (blkD Try.f69.body 0)) .leaf (hbS (mkSh k a b c r l n add sh) i)).rl (keepR 19 [0] [] hbK [2]) = hbB Pd g sh (mkSh k a b c r l n add sh) i := by kernel_rfl
theorem hb_blocks : blocksL (bodyD Try.f69.body) = [(0, .loop (unloopD (blkD Try.f69.body 0))), (1, blkD Try.f69.body 1)] := by kernel_rfl
theorem hb_b0 : blocksL (unloopD (blkD Try.f69.body 0)) = [(1, blkD Try.f69.body 1)] := by kernel_rfl
theorem hb_loop {Pd : Sh → Prop} {g : Sh → Bool} (ih : ∀ x, Pd x → HbOk x g) (k : Int) (a b c : P2) (r : Int) (l : Ctr) (n : Nat) (add : Nat → Bool) (sh : Nat → Sh) (hn : n ≤ 1000000000) (hP : ∀ i, i < n → Pd (sh i)) (w0 : Dyn.Base Try.prog) (st : Dyn.St) (o : Dyn.Out) (h : hbLp g sh (mkSh k a b c r l n add sh) 0 st = some o) : Dyn.BlockSound Try.prog w0 0 (.loop (unloopD (blkD Try.f69.body 0))) st o := by
  simp only [hbLp, Option.some.injEq] at h
  subst h
  refine side_one fun hS => ?_
  refine run_block (fuel := 3) (tabHb_ok ih) mo (lp := hbLp g sh (mkSh k a b c r l n add sh)) (by rw [hb_b0]; exact lpOk_cons (fun s o h => by cases h) lpOk_nil) (fun i (_ : Unit) => hbS (mkSh k a b c r l n add sh) i) n (hbN g sh) () (fun _ => hbR) (keepR 19 [0] [] hbK [2]) (keepR_ent 19 _ _ _ _) (fun i _ => hbB Pd g sh (mkSh k a b c r l n add sh) i) (fun i _ => hb_B Pd g k a b c r l n add sh i) (fun i a hi ha => ?_) (fun a ha => ?_) (hS ▸ keepA_ent 19 _ _ _ _ st)
  · refine ⟨fun _ => ⟨⟨⟨by omega, by show (i : Int) < (n : Int); omega⟩, trivial⟩, ⟨hP i hi, ctrSelf_ok _, trivial⟩, fun hx => .inr ⟨rfl, ?_, Dyn.Fits.refl _⟩, fun hx => .inl ⟨rfl, ?_, ?_⟩⟩, fun hf => ?_⟩
    · simpa [hbN] using hx
    · simpa [hbN] using hx
    · rw [Wn1 hi hn]; exact Dyn.Fits.refl _
    · rw [decide_eq_false_iff_not] at hf
      exact absurd (show (i : Int) < (n : Int) by omega) hf
  · refine ⟨fun ht => ?_, fun _ => ⟨rfl, Dyn.Fits.refl _⟩⟩
    rw [decide_eq_true_eq] at ht
    exact absurd (show (n : Int) < (n : Int) from ht) (by omega)
def hbO (g : Sh → Bool) (sh : Nat → Sh) (s : Sh) : Dyn.RO :=
  .ite (s.k == 4) (.leaf (rB true)) (.side [hbS s 0 = hbS s 0] (.ite (runN (hbN g sh) () s.n).1 (.leaf (rB false)) (.leaf (rB true))))
theorem hb_O (Pd : Sh → Prop) (g : Sh → Bool) (sh : Nat → Sh) (s : Sh) : (Dyn.dfun Try.prog (tabHb Pd g) (hbLp g sh s) 3 Try.f69 [dvS s]).ro Try.prog Try.f69.results = hbO g sh s := by kernel_rfl
theorem hb_lvl {Pd : Sh → Prop} {g : Sh → Bool} (ih : ∀ x, Pd x → HbOk x g) (k : Int) (a b c : P2) (r : Int) (l : Ctr) (n : Nat) (add : Nat → Bool) (sh : Nat → Sh) (hn : n ≤ 1000000000) (hP : ∀ i, i < n → Pd (sh i)) : Dyn.CallD Try.prog 69 [dvS (mkSh k a b c r l n add sh)] (rB (hbG g sh (mkSh k a b c r l n add sh))) :=
  Dyn.dcontract (lp := hbLp g sh (mkSh k a b c r l n add sh)) (fuel := 3) (tabHb_ok ih) mo Try.func69 (by kernel_rfl) (c := bodyD Try.f69.body) (by kernel_rfl)
    (fun w0 => by rw [hb_blocks]; exact lpOk_cons (hb_loop ih k a b c r l n add sh hn hP w0) (lpOk_cons (fun s o h => by cases h) lpOk_nil))
    (by kernel_rfl) (hb_O Pd g sh _) (by
      unfold hbG
      refine ⟨fun h => ?_, fun h => ⟨⟨rfl, trivial⟩, fun h2 => ?_, fun h2 => ?_⟩⟩
      · rw [h]; exact ro_leaf rfl
      · rw [h, show (runN (hbN g sh) () (mkSh k a b c r l n add sh).n).1 = true from h2]; exact ro_leaf rfl
      · rw [h, show (runN (hbN g sh) () (mkSh k a b c r l n add sh).n).1 = false from h2]; exact ro_leaf rfl)
noncomputable def hbE (x : Sh) : Bool := hbF (ofSh x)
theorem hbE_eq (s : Shp) : hbE (toSh s) = hbF s := by unfold hbE; rw [ofSh_toSh]
theorem hbF_lvl (k : Int) (a b c : P2) (r : Int) (l : Ctr) (n : Nat) (add : Nat → Bool) (sub : Nat → Shp) : hbF (.mk k a b c r l n add sub) = hbG hbE (fun i => toSh (sub i)) (mkSh k a b c r l n add (fun i => toSh (sub i))) := by
  unfold hbG hbN
  simp only [hbE_eq]
  rfl
theorem hb_ok : ∀ s : Shp, ShB s → HbOk (toSh s) hbE := by
  intro s
  induction s with
  | nil => intro h; exact h.elim
  | mk k a b c r l n add sub ih =>
    intro h
    unfold HbOk
    rw [hbE_eq, hbF_lvl]
    exact hb_lvl (Pd := fun x => ∃ i, i < n ∧ x = toSh (sub i)) (fun x hx => by
      obtain ⟨i, hi, rfl⟩ := hx
      exact ih i (h.2.2 i hi)) k a b c r l n add (fun i => toSh (sub i)) h.2.1 (fun i hi => ⟨i, hi, rfl⟩)
theorem hb_all : ∀ x, PdS x → HbOk x hbE := fun x hx => by
  have k := hb_ok _ hx.1
  unfold HbOk at k
  rw [show hbE (toSh (ofSh x)) = hbE x by unfold hbE; rw [ofSh_toSh]] at k
  exact CallD_le (args := [dvS (toSh (ofSh x))]) ⟨SLe.dv hx.2, trivial⟩ k
/-! ### groups -/
structure Gr where
  n : Nat
  f : Nat → List Dyn.DC
  m : Nat
  h : Nat → List Dyn.DC
def dvG (x : Gr) : Dyn.DV := .agg [.row x.n x.f, .row x.m x.h]
def extC (b : B4) (q : Bool) : List Dyn.DC := [cI b.x0, cI b.y0, cI b.x1, cI b.y1, .p (vb q)]
def qG : Dec Gr
  | .agg [.row n f, .row m h] => some (⟨n, f, m, h⟩, [])
  | _ => none
theorem qG_ok : DecOk qG dvG (fun _ => True) := fun d x ps h hp => by
  unfold qG at h; split at h
  · simp only [Option.some.injEq, Prod.mk.injEq] at h
    obtain ⟨rfl, rfl⟩ := h
    exact ⟨⟨⟨rfl, fun _ _ => rfl⟩, ⟨rfl, fun _ _ => rfl⟩, trivial⟩, trivial⟩
  · cases h
/-- the objects of a group -/
noncomputable def ofG (x : Gr) : Shp := ofSh (obX x.n x.f)
def toG (s : Shp) : Gr := ⟨nuO s, fun i => partC (adO s i) (toSh (suO s i)), nuO s, fun i => extC (figBndC (suO s i)).1 (hbF (suO s i))⟩
def lst (s : Shp) : Shp := lForm (nuO s) (adO s) (suO s)
theorem ofG_toG (s : Shp) : ofG (toG s) = lst s := by
  show ofSh (toSh (lst s)) = lst s
  exact ofSh_toSh _
end Go.Proofs.Ythnenjodighlmaa

/-! ## Rgb -/
namespace Go.Proofs.Ythnenjodighlmaa
open Go Go.RowKit Sym
set_option maxRecDepth 100000

def dtyG (t : TypeId) : Bool := dtyO t || Nat.beq t 103 || Nat.beq t 123
def nilV : Value := .slice none 0 0
def slV (k n : Nat) : Value := .slice (some ⟨k, 0, some 0⟩) n 0
/-! ### reach -/
noncomputable def tdGc : List Dyn.EntryD := [(16, en1D (qAnd qS PdS) fun x => .tup [dvX (figBnd x).1, dvB (figBnd x).2]), (69, en1D (qAnd qS PdS) fun x => rB (hbE x))]
noncomputable def tabGc : Dyn.Tabs := Dyn.tabs tbF tdGc noD dtyG
theorem tabGc_ok : Dyn.TabsOk Try.prog tabGc := Dyn.tabs_ok tbF_ok (List.forall_mem_cons.2 ⟨en1D_ok (qAnd_ok qS_ok) fun x h => figBnd_ok x h.1, List.forall_mem_cons.2 ⟨en1D_ok (qAnd_ok qS_ok) fun x h => hb_all x h.1, fun _ h => by cases h⟩⟩)
noncomputable def gcKp (sh : Nat → Sh) (i : Nat) : Bool := (figBnd (sh i)).2
noncomputable def gcF (add : Nat → Bool) (sh : Nat → Sh) (n : Nat) (j : Nat) : List Dyn.DC := partC (add (kIx (gcKp sh) n j)) (sh (kIx (gcKp sh) n j))
noncomputable def gcH (sh : Nat → Sh) (n : Nat) (j : Nat) : List Dyn.DC := extC (figBnd (sh (kIx (gcKp sh) n j))).1 (hbE (sh (kIx (gcKp sh) n j)))
def gcS0 (s : Sh) (F H : Nat → List Dyn.DC) (c : Nat) (i : Int) : Dyn.St := mkS 39 [(2, sL 1), (3, sL 2), (8, sH 0 0 s.n), (9, sI s.n), (10, sI i)] [some (.deep [.row s.n s.f]), some (.cells 103 [nilV, nilV]), some (.cells 103 [slV 3 c, slV 4 c]), some (.own 62 c F), some (.own 123 c H)]
def gcK : List Nat := [2, 3, 8, 9, 10]
noncomputable def gcS (n : Nat) (add : Nat → Bool) (sh : Nat → Sh) (c : Nat) (i : Int) : Dyn.St := gcS0 (mkL n add sh) (gcF add sh n) (gcH sh n) c i
noncomputable def gcV (n : Nat) (add : Nat → Bool) (sh : Nat → Sh) (c i : Nat) : Dyn.St := gcS0 (mkL n add sh) (Dyn.appF c (gcF add sh n) (fun _ => partC (add i) (sh i))) (Dyn.appF c (gcH sh n) (fun _ => extC (figBnd (sh i)).1 (hbE (sh i)))) (c + 1) (W (i + 1))
noncomputable def gcLp (n : Nat) (add : Nat → Bool) (sh : Nat → Sh) : Dyn.Lp := fun id st => match id with
  | 0 => some (.side [Dyn.nilCell 2 1 123 (gcH sh n) (Dyn.nilCell 2 0 62 (gcF add sh n) (keepA 39 [0, 1, 2] [] gcK (2 ^ 10) st)) = gcS n add sh 0 0] (.leaf .normal (gcS n add sh (kN (gcKp sh) n) n)))
  | _ => none
noncomputable def gcB (n : Nat) (add : Nat → Bool) (sh : Nat → Sh) (c i : Nat) : Dyn.Out :=
  .ite (decide ((i : Int) < (n : Int))) (.side [0 ≤ (i : Int) ∧ (i : Int) < (n : Int)] (.side [PdS (sh i), ctrSelf (sh i).l] (.ite (figBnd (sh i)).2 (.side [szP 120 c] (.side [PdS (sh i), ctrSelf (sh i).l, szP 40 c] (.leaf .normal (gcV n add sh c i)))) (.leaf .normal (gcS n add sh c (W (i + 1))))))) (.leaf (.exit 0) (gcS n add sh c i))
theorem gc_B (n : Nat) (add : Nat → Bool) (sh : Nat → Sh) (c i : Nat) : (Dyn.lexec Try.prog tabGc (gcLp n add sh) 3 (unloopD (blkD Try.f52.body 0)) .leaf (gcS n add sh c i)).rl (keepCR 39 [0, 1, 2] [] [(2, 0), (2, 1)] gcK [] []) = gcB n add sh c i := by kernel_rfl
theorem gc_blocks : blocksL (bodyD Try.f52.body) = [(0, .loop (unloopD (blkD Try.f52.body 0))), (1, blkD Try.f52.body 1)] := by kernel_rfl
theorem gc_b0 : blocksL (unloopD (blkD Try.f52.body 0)) = [(1, blkD Try.f52.body 1)] := by kernel_rfl
theorem gc_loop (n : Nat) (add : Nat → Bool) (sh : Nat → Sh) (hn : n ≤ 1000000000) (hP : ∀ i, i < n → PdS (sh i)) (w0 : Dyn.Base Try.prog) (st : Dyn.St) (o : Dyn.Out) (h : gcLp n add sh 0 st = some o) : Dyn.BlockSound Try.prog w0 0 (.loop (unloopD (blkD Try.f52.body 0))) st o := by
  simp only [gcLp, Option.some.injEq] at h
  subst h
  refine side_one fun hS => ?_
  refine fold_block (fuel := 3) tabGc_ok mo (lp := gcLp n add sh) (by rw [gc_b0]; exact lpOk_cons (fun s o h => by cases h) lpOk_nil) (fun i (_ : Unit) => gcS n add sh (kN (gcKp sh) i) i) n (fun _ _ => ()) () (keepCR 39 [0, 1, 2] [] [(2, 0), (2, 1)] gcK [] []) (keepCR_ent 39 _ _ _ _ _ _) (fun i _ => gcB n add sh (kN (gcKp sh) i) i) (fun i _ => gc_B n add sh (kN (gcKp sh) i) i) (fun i hi => ?_) ?_ (hS ▸ ((keepA_ent 39 _ _ _ _ st).trans (Dyn.Ent.nilCell (P := Try.prog) (k := 10) (by kernel_rfl) _ _)).trans (Dyn.Ent.nilCell (P := Try.prog) (k := 4) (by kernel_rfl) _ _))
  · have hk := kN_le (gcKp sh) i
    refine ⟨fun _ => ⟨⟨⟨by omega, by omega⟩, trivial⟩, ⟨hP i hi, ctrSelf_ok _, trivial⟩, fun hx => ⟨⟨szP_ok (by decide) (by omega), trivial⟩, ⟨hP i hi, ctrSelf_ok _, szP_ok (by decide) (by omega), trivial⟩, rfl, ?_⟩, fun hx => ⟨rfl, ?_⟩⟩, fun hf => ?_⟩
    · unfold gcV
      rw [Wn1 hi hn, kN_step (gcKp sh) hx]
      have e := kIx_at (gcKp sh) hx hi
      exact ⟨rfl, Dyn.HeLe.refl _, Dyn.HeLe.refl _, Dyn.HeLe.refl _, le_app (by unfold gcF; rw [e]), le_app (by unfold gcH; rw [e]), trivial⟩
    · rw [Wn1 hi hn, kN_skip (gcKp sh) hx]; exact Dyn.Fits.refl _
    · rw [decide_eq_false_iff_not] at hf
      exact absurd (show (i : Int) < (n : Int) by omega) hf
  · refine ⟨fun ht => ?_, fun _ => ⟨rfl, Dyn.Fits.refl _⟩⟩
    rw [decide_eq_true_eq] at ht
    exact absurd (show (n : Int) < (n : Int) from ht) (by omega)
noncomputable def gcR (n : Nat) (add : Nat → Bool) (sh : Nat → Sh) : Dyn.RV := .val (dvG ⟨kN (gcKp sh) n, gcF add sh n, kN (gcKp sh) n, gcH sh n⟩)
theorem gc_O (n : Nat) (add : Nat → Bool) (sh : Nat → Sh) : (Dyn.dfun Try.prog tabGc (gcLp n add sh) 3 Try.f52 [dvL (mkL n add sh)]).ro Try.prog Try.f52.results = .side [gcS n add sh 0 0 = gcS n add sh 0 0] (.leaf (gcR n add sh)) := by kernel_rfl
theorem gc_lvl (n : Nat) (add : Nat → Bool) (sh : Nat → Sh) (hn : n ≤ 1000000000) (hP : ∀ i, i < n → PdS (sh i)) : Dyn.CallD Try.prog 52 [dvL (mkL n add sh)] (gcR n add sh) :=
  Dyn.dcontract (lp := gcLp n add sh) (fuel := 3) tabGc_ok mo Try.func52 (by kernel_rfl) (c := bodyD Try.f52.body) (by kernel_rfl)
    (fun w0 => by rw [gc_blocks]; exact lpOk_cons (gc_loop n add sh hn hP w0) (lpOk_cons (fun s o h => by cases h) lpOk_nil))
    (by kernel_rfl) (gc_O n add sh) ⟨⟨rfl, trivial⟩, ro_leaf rfl⟩
theorem greach_ok : ∀ s : Shp, ShB s → Dyn.CallD Try.prog 52 [dvL (toSh s)] (.val (dvG (toG (reachF s)))) := by
  intro s h
  cases s with
  | nil => exact h.elim
  | mk k a b c r l n add sub =>
    have q := gc_lvl n add (fun i => toSh (sub i)) h.2.1 fun i hi => PdS_mk (h.2.2 i hi)
    unfold gcR gcF gcH at q
    have e : gcKp (fun i => toSh (sub i)) = rchK (.mk k a b c r l n add sub) := funext fun i => by unfold gcKp rchK; rw [figBnd_C]; rfl
    rw [e] at q
    simp only [figBnd_C, hbE_eq] at q
    exact q
/-! ### near -/
def gnKp (B : Nat → B4) (q : Nat → Bool) (b : B4) (i : Nat) : Bool := bif q i then true else !(apart (B i) b)
def gnF0 (add : Nat → Bool) (sh : Nat → Sh) (i : Nat) : List Dyn.DC := partC (add i) (sh i)
def gnH0 (B : Nat → B4) (q : Nat → Bool) (i : Nat) : List Dyn.DC := extC (B i) (q i)
def gnF (add : Nat → Bool) (sh : Nat → Sh) (B : Nat → B4) (q : Nat → Bool) (b : B4) (n : Nat) (j : Nat) : List Dyn.DC := gnF0 add sh (kIx (gnKp B q b) n j)
def gnH (B : Nat → B4) (q : Nat → Bool) (b : B4) (n : Nat) (j : Nat) : List Dyn.DC := gnH0 B q (kIx (gnKp B q b) n j)
def tabGn : Dyn.Tabs := Dyn.tabs tbF [] noD dtyG
theorem tabGn_ok : Dyn.TabsOk Try.prog tabGn := Dyn.tabs_ok tbF_ok (fun _ h => by cases h)
def gnS0 (n : Nat) (f h : Nat → List Dyn.DC) (b : B4) (F H : Nat → List Dyn.DC) (c : Nat) (i : Int) : Dyn.St := mkS 43 [(2, sL 1), (3, sL 2), (4, sL 3), (5, sL 4), (9, sH 0 1 n), (10, sI n), (11, sI i)]
  [some (.deep [.row n f, .row n h]), some (.cells 103 [.slice (some ⟨0, 0, some 0⟩) n 0, .slice (some ⟨0, 1, some 0⟩) n 0]), some (.cells 40 (bxV b)), some (.cells 103 [nilV, nilV]), some (.cells 103 [slV 5 c, slV 6 c]), some (.own 62 c F), some (.own 123 c H)]
def gnK : List Nat := [2, 3, 4, 5, 9, 10, 11]
def gnS (n : Nat) (add : Nat → Bool) (sh : Nat → Sh) (B : Nat → B4) (q : Nat → Bool) (b : B4) (c : Nat) (i : Int) : Dyn.St := gnS0 n (gnF0 add sh) (gnH0 B q) b (gnF add sh B q b n) (gnH B q b n) c i
def gnV (n : Nat) (add : Nat → Bool) (sh : Nat → Sh) (B : Nat → B4) (q : Nat → Bool) (b : B4) (c i : Nat) : Dyn.St := gnS0 n (gnF0 add sh) (gnH0 B q) b (Dyn.appF c (gnF add sh B q b n) (fun _ => gnF0 add sh i)) (Dyn.appF c (gnH B q b n) (fun _ => gnH0 B q i)) (c + 1) (W (i + 1))
def gnLp (n : Nat) (add : Nat → Bool) (sh : Nat → Sh) (B : Nat → B4) (q : Nat → Bool) (b : B4) : Dyn.Lp := fun id st => match id with
  | 0 => some (.side [Dyn.nilCell 4 1 123 (gnH B q b n) (Dyn.nilCell 4 0 62 (gnF add sh B q b n) (keepA 43 [0, 1, 2, 3, 4] [] gnK (2 ^ 11) st)) = gnS n add sh B q b 0 0] (.leaf .normal (gnS n add sh B q b (kN (gnKp B q b) n) n)))
  | _ => none
def gnB (n : Nat) (add : Nat → Bool) (sh : Nat → Sh) (B : Nat → B4) (q : Nat → Bool) (b : B4) (c i : Nat) : Dyn.Out :=
  .ite (decide ((i : Int) < (n : Int))) (.side [0 ≤ (i : Int) ∧ (i : Int) < (n : Int)] (.ite (gnKp B q b i) (.side [0 ≤ (i : Int) ∧ (i : Int) < (n : Int), szP 120 c] (.side [szP 40 c] (.leaf .normal (gnV n add sh B q b c i)))) (.leaf .normal (gnS n add sh B q b c (W (i + 1)))))) (.leaf (.exit 0) (gnS n add sh B q b c i))
theorem gn_B (n : Nat) (add : Nat → Bool) (sh : Nat → Sh) (B : Nat → B4) (q : Nat → Bool) (b : B4) (c i : Nat) : (Dyn.lexec Try.prog tabGn (gnLp n add sh B q b) 3 (unloopD (blkD Try.f53.body 0)) .leaf (gnS n add sh B q b c i)).rl (keepCR 43 [0, 1, 2, 3, 4] [] [(4, 0), (4, 1)] gnK [] []) = gnB n add sh B q b c i := by kernel_rfl
theorem gn_blocks : blocksL (bodyD Try.f53.body) = [(0, .loop (unloopD (blkD Try.f53.body 0))), (1, blkD Try.f53.body 1)] := by kernel_rfl
theorem gn_b0 : blocksL (unloopD (blkD Try.f53.body 0)) = [(1, blkD Try.f53.body 1)] := by kernel_rfl
theorem gn_loop (n : Nat) (add : Nat → Bool) (sh : Nat → Sh) (B : Nat → B4) (q : Nat → Bool) (b : B4) (hn : n ≤ 1000000000) (w0 : Dyn.Base Try.prog) (st : Dyn.St) (o : Dyn.Out) (h : gnLp n add sh B q b 0 st = some o) : Dyn.BlockSound Try.prog w0 0 (.loop (unloopD (blkD Try.f53.body 0))) st o := by
  simp only [gnLp, Option.some.injEq] at h
  subst h
  refine side_one fun hS => ?_
  refine fold_block (fuel := 3) tabGn_ok mo (lp := gnLp n add sh B q b) (by rw [gn_b0]; exact lpOk_cons (fun s o h => by cases h) lpOk_nil) (fun i (_ : Unit) => gnS n add sh B q b (kN (gnKp B q b) i) i) n (fun _ _ => ()) () (keepCR 43 [0, 1, 2, 3, 4] [] [(4, 0), (4, 1)] gnK [] []) (keepCR_ent 43 _ _ _ _ _ _) (fun i _ => gnB n add sh B q b (kN (gnKp B q b) i) i) (fun i _ => gn_B n add sh B q b (kN (gnKp B q b) i) i) (fun i hi => ?_) ?_ (hS ▸ ((keepA_ent 43 _ _ _ _ st).trans (Dyn.Ent.nilCell (P := Try.prog) (k := 10) (by kernel_rfl) _ _)).trans (Dyn.Ent.nilCell (P := Try.prog) (k := 4) (by kernel_rfl) _ _))
  · have hk := kN_le (gnKp B q b) i
    refine ⟨fun _ => ⟨⟨⟨by omega, by omega⟩, trivial⟩, fun hx => ⟨⟨⟨by omega, by omega⟩, szP_ok (by decide) (by omega), trivial⟩, ⟨szP_ok (by decide) (by omega), trivial⟩, rfl, ?_⟩, fun hx => ⟨rfl, ?_⟩⟩, fun hf => ?_⟩
    · unfold gnV
      rw [Wn1 hi hn, kN_step (gnKp B q b) hx]
      have e := kIx_at (gnKp B q b) hx hi
      exact ⟨rfl, Dyn.HeLe.refl _, Dyn.HeLe.refl _, Dyn.HeLe.refl _, Dyn.HeLe.refl _, Dyn.HeLe.refl _, le_app (by unfold gnF; rw [e]), le_app (by unfold gnH; rw [e]), trivial⟩
    · rw [Wn1 hi hn, kN_skip (gnKp B q b) hx]; exact Dyn.Fits.refl _
    · rw [decide_eq_false_iff_not] at hf
      exact absurd (show (i : Int) < (n : Int) by omega) hf
  · refine ⟨fun ht => ?_, fun _ => ⟨rfl, Dyn.Fits.refl _⟩⟩
    rw [decide_eq_true_eq] at ht
    exact absurd (show (n : Int) < (n : Int) from ht) (by omega)
def gnR (n : Nat) (add : Nat → Bool) (sh : Nat → Sh) (B : Nat → B4) (q : Nat → Bool) (b : B4) : Dyn.RV := .val (dvG ⟨kN (gnKp B q b) n, gnF add sh B q b n, kN (gnKp B q b) n, gnH B q b n⟩)
theorem gn_O (n : Nat) (add : Nat → Bool) (sh : Nat → Sh) (B : Nat → B4) (q : Nat → Bool) (b : B4) : (Dyn.dfun Try.prog tabGn (gnLp n add sh B q b) 3 Try.f53 [dvG ⟨n, gnF0 add sh, n, gnH0 B q⟩, dvX b]).ro Try.prog Try.f53.results = .side [gnS n add sh B q b 0 0 = gnS n add sh B q b 0 0] (.leaf (gnR n add sh B q b)) := by kernel_rfl
theorem gn_lvl (n : Nat) (add : Nat → Bool) (sh : Nat → Sh) (B : Nat → B4) (q : Nat → Bool) (b : B4) (hn : n ≤ 1000000000) : Dyn.CallD Try.prog 53 [dvG ⟨n, gnF0 add sh, n, gnH0 B q⟩, dvX b] (gnR n add sh B q b) :=
  Dyn.dcontract (lp := gnLp n add sh B q b) (fuel := 3) tabGn_ok mo Try.func53 (by kernel_rfl) (c := bodyD Try.f53.body) (by kernel_rfl)
    (fun w0 => by rw [gn_blocks]; exact lpOk_cons (gn_loop n add sh B q b hn w0) (lpOk_cons (fun s o h => by cases h) lpOk_nil))
    (by kernel_rfl) (gn_O n add sh B q b) ⟨⟨rfl, trivial⟩, ro_leaf rfl⟩
theorem near_ok0 (s : Shp) (h : nuO s ≤ 1000000000) (b : B4) : Dyn.CallD Try.prog 53 [dvG (toG s), dvX b] (.val (dvG (toG (nearG s b)))) :=
  gn_lvl (nuO s) (adO s) (fun i => toSh (suO s i)) (fun i => (figBndC (suO s i)).1) (fun i => hbF (suO s i)) b h
/-! ### groups that show objects -/
def PdG (x : Gr) : Prop := PdS (obX x.n x.f) ∧ x.m = x.n ∧ ∀ i, i < x.n → x.h i = extC (figBndC (suO (ofG x) i)).1 (hbF (suO (ofG x) i))
theorem PdG_mk {s : Shp} (h : ShB (lst s)) : PdG (toG s) := by
  refine ⟨PdS_mk (s := lst s) h, rfl, fun i hi => ?_⟩
  rw [ofG_toG]; rfl
theorem obX_nu {n : Nat} {f : Nat → List Dyn.DC} (h : PdS (obX n f)) : nuO (ofSh (obX n f)) = n ∧ ∀ i, i < n → f i = partC (adO (ofSh (obX n f)) i) (toSh (suO (ofSh (obX n f)) i)) := by
  have k := h.2
  cases e : ofSh (obX n f) with
  | nil => have := h.1; rw [e] at this; exact this.elim
  | mk k' a b c r l m add sub =>
    rw [e] at k
    obtain ⟨_, _, _, _, _, _, k7, k8⟩ := k
    have k7 : n = m := k7
    exact ⟨k7.symm, fun i hi => k8 i hi⟩
theorem PdG.le {x : Gr} (h : PdG x) : Dyn.DVLe (dvG x) (dvG (toG (ofG x))) := by
  have k := obX_nu h.1
  exact ⟨⟨k.1.symm, k.2⟩, ⟨h.2.1.trans k.1.symm, fun i hi => h.2.2 i (by rw [← h.2.1]; exact hi)⟩, trivial⟩
theorem PdG.B {x : Gr} (h : PdG x) : ShB (ofG x) := h.1.1
theorem lst_B {s : Shp} (h : ShB s) : ShB (lst s) := by
  cases s with
  | nil => exact h.elim
  | mk k a b c r l n add sub => exact ⟨CtrB_ze, h.2.1, h.2.2⟩
theorem fil_B {s : Shp} (h : ShB s) (keep : Nat → Bool) : ShB (filL keep s) := by
  cases s with
  | nil => exact h.elim
  | mk k a b c r l n add sub =>
    refine ⟨CtrB_ze, Nat.le_trans (kN_le keep n) h.2.1, fun i hi => ?_⟩
    exact h.2.2 _ (kIx_lt keep hi).1
theorem ShB_nu {s : Shp} (h : ShB s) : nuO s ≤ 1000000000 := by
  cases s with
  | nil => exact h.elim
  | mk k a b c r l n add sub => exact h.2.1
noncomputable def nearE (x : Gr) (b : B4) : Gr := toG (nearG (ofG x) b)
theorem nearE_Pd {x : Gr} (h : PdG x) (b : B4) : PdG (nearE x b) := PdG_mk (lst_B (fil_B h.B _))
theorem gnear_all (x : Gr) (h : PdG x) (b : B4) : Dyn.CallD Try.prog 53 [dvG x, dvX b] (.val (dvG (nearE x b))) :=
  CallD_le (args := [dvG (toG (ofG x)), dvX b]) ⟨h.le, Dyn.DVLe.refl _, trivial⟩ (near_ok0 (ofG x) (ShB_nu h.B) b)
noncomputable def reachE (x : Sh) : Gr := toG (reachF (ofSh x))
theorem reachE_Pd {x : Sh} (h : PdS x) : PdG (reachE x) := PdG_mk (lst_B (fil_B h.1 _))
theorem greach_all (x : Sh) (h : PdS x) : Dyn.CallD Try.prog 52 [dvL x] (.val (dvG (reachE x))) :=
  CallD_le (args := [dvL (toSh (ofSh x))]) ⟨SLe.dvL h.2, trivial⟩ (greach_ok (ofSh x) h.1)
end Go.Proofs.Ythnenjodighlmaa
