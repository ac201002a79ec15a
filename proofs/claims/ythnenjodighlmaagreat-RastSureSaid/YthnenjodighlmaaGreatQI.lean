/-
  OWN WORK. Joined by merge.py: Plc Cnt Pie Pif Rsh Rsi Rsj Sup Suq Rpl Tue Tuf Fir Bnb Rio Bnc Bnd Pim Rpo Rpq Rsa Rga Rgb Rgc Rgd.
-/
import Derived.Test.YthnenjodighlmaaGreatQE
import Derived.WalkKit
import Derived.ProofKit
import Derived.Test.YthnenjodighlmaaGreatQH
import Derived.Test.YthnenjodighlmaaGreatQG
import Derived.Test.YthnenjodighlmaaGreatQF
import Derived.Laws.LoneSync
import Derived.Deep.RegionWith
/-! ## Plc -/
namespace Go.Proofs.YthnenjodighlmaaGreat
open Go Go.RowKit Sym
set_option maxRecDepth 100000

end Go.Proofs.YthnenjodighlmaaGreat

/-! ## Cnt -/
namespace Go.Proofs.YthnenjodighlmaaGreat
open Go Go.RowKit Sym
set_option maxRecDepth 100000

end Go.Proofs.YthnenjodighlmaaGreat

/-! ## Pie -/
namespace Go.Proofs.YthnenjodighlmaaGreat
open Go Go.RowKit Sym
set_option maxRecDepth 100000

/-! ### a disc around (0, 0), as it is written -/
def dC (r : Int) : List Dyn.DC := [cI 1, cI 0, cI 0, cI 0, cI 0, cI 0, cI 0, cI r, .row 0 noF, .row 0 noF]
def discS (r : Int) : Shp := leafS 1 ze ze ze r zeC
theorem dC_le (r : Int) : DLL (dC r) (cS (toSh (discS r))) := ⟨.refl _, .refl _, .refl _, .refl _, .refl _, .refl _, .refl _, .refl _, DLe.rowL fun i hi => absurd hi (Nat.not_lt_zero i), DLe.rowL fun i hi => absurd hi (Nat.not_lt_zero i), trivial⟩
/-! ### the lists of the document -/
def fL2 : Nat → List Dyn.DC := Dyn.pickL 0 [cB true :: dC 9, cB false :: dC 2]
def E1 : Prop := (1 : Int) = 1 ∧ (0 : Int) = 0 ∧ (0 : Int) = 0 ∧ (0 : Int) = 0 ∧ (0 : Int) = 0 ∧ (0 : Int) = 0 ∧ (0 : Int) = 0 ∧ 0 = 0 ∧ 0 = 0
def L2 : Shp := lForm 2 (fun i => Nat.beq i 0) (fun i => discS (bif Nat.beq i 0 then 9 else 2))
def L0 : Shp := lForm 0 (fun _ => false) (fun _ => .nil)
def LN (n : Nat) : Shp := bif Nat.beq n 0 then L0 else L2
theorem L2_e0 : fL2 0 = cB true :: dC 9 := by kernel_rfl
theorem L2_e1 : fL2 1 = cB false :: dC 2 := by kernel_rfl
theorem L2_le : DVd (.one (.row 2 fL2)) (dvL (toSh L2)) := DLe.rowL fun i hi => by
  have : i = 0 ∨ i = 1 := by omega
  rcases this with rfl | rfl
  · rw [L2_e0]; exact ⟨.refl _, dC_le 9⟩
  · rw [L2_e1]; exact ⟨.refl _, dC_le 2⟩
def RkL (n : Nat) (f : Nat → List Dyn.DC) : Prop := n = 0 ∨ (n = 2 ∧ DLe (.row n f) (.row 2 fL2))
theorem RkL.call {P : Program} {K n : Nat} {f : Nat → List Dyn.DC} {l : List Dyn.DV} {r : Dyn.RV} (h : RkL n f) (k : Dyn.CallD P K (dvL (toSh (LN n)) :: l) r) : Dyn.CallD P K (.one (.row n f) :: l) r := by
  rcases h with rfl | ⟨rfl, h⟩
  · exact CallD_d1 (v' := dvL (toSh L0)) (DLe.rowL fun i hi => absurd hi (Nat.not_lt_zero i)) k
  · exact CallD_d1 (show DVd (.one (.row 2 f)) (.one (.row 2 fL2)) from h) (CallD_d1 L2_le k)
end Go.Proofs.YthnenjodighlmaaGreat

/-! ## Pif -/
namespace Go.Proofs.YthnenjodighlmaaGreat
open Go Go.RowKit Sym
set_option maxRecDepth 100000

theorem small21_all (x : Sh) (h : PdW x) : Dyn.CallD Tryz.prog 4 [dvL x] (rB (small21 (ofSh x))) := CallD_le (args := [dvL (toSh (ofSh x))]) ⟨SLe.dvL h.2, trivial⟩ (small21_ok _ h.1)
theorem tame21_all (x : Sh) (h : PdS x) (sm : Bool) : Dyn.CallD Tryz.prog 6 [dvL x, dvB sm] (.val (dvL (toSh (tame21 (ofSh x) sm)))) := CallD_le (args := [dvL (toSh (ofSh x)), dvB sm]) ⟨SLe.dvL h.2, Dyn.DVLe.refl _, trivial⟩ (tame21_ok _ h.1 sm)
theorem pClass_all (x : Sh) (h : PdS x) (b : B4) : Dyn.CallD Tryz.prog 32 [dvL x, dvX b] (rI (pClass (ofSh x) b)) := CallD_le (args := [dvL (toSh (ofSh x)), dvX b]) ⟨SLe.dvL h.2, Dyn.DVLe.refl _, trivial⟩ (pClass_ok _ h.1 b)
/-- what of it is tame -/
theorem lf_B {n : Nat} {add : Nat → Bool} {sub : Nat → Shp} (h : small21 (lForm n add sub) = true) : ShB (lForm n add sub) := by
  unfold small21 at h
  by_cases hn : ((n : Nat) : Int) > 20
  · rw [show decide ((nuO (lForm n add sub) : Int) > 20) = true from decide_eq_true hn] at h; cases h
  · rw [show decide ((nuO (lForm n add sub) : Int) > 20) = false from decide_eq_false hn] at h
    refine ⟨⟨by decide, fun i hi => absurd hi (Nat.not_lt_zero i)⟩, by omega, fun i hi => ?_⟩
    obtain ⟨u, _, k2⟩ := runN_all h i hi
    exact small_B _ 0 k2
theorem tame21_B (s : Shp) (h : ShB s) (sm : Bool) : ShB (tame21 s sm) := by
  cases s with
  | nil => exact h.elim
  | mk k a b c r l n add sub =>
    refine ⟨⟨by decide, fun i hi => absurd hi (Nat.not_lt_zero i)⟩, by show min n 12 ≤ _; omega, fun i hi => ?_⟩
    have hi' : i < min n 12 := hi
    exact fine_B _ 2 (tame_fine sm (sub i) 2 (h.2.2 i (by omega)) (by decide) (by decide)) (by decide)
theorem tame2_ok (sm : Bool) (s : Shp) (h : ShB s) : okE (toSh (tameS s sm 2)) = true := by
  unfold okE
  rw [vE_eq]
  exact (fine_valid (fun p hp => PB_near (tmX_le sm) hp) _ 2 0 1000 (tame_fine sm s 2 h (by decide) (by decide)) (by decide) (by decide) (by decide) (by decide) (by decide)).1
/-- tame objects are sure of the points of a box -/
theorem pile_sure (sm : Bool) {b : B4} (hb : BR b) (hf : Fits b) (hx : b.x0 ≤ b.x1) (hy : b.y0 ≤ b.y1) (x y : Int) (s : Shp) (h : ShB s) : Sure (pHas (tame21 s sm) (lIn b x y)) (pClass (tame21 s sm) b) := by
  cases s with
  | nil => exact h.elim
  | mk k a b' c r l n add sub =>
    show Sure (foldN (hasN (fun i => figHasS (tameS (sub i) sm 2) (lIn b x y)) add) false (min n 12)) (foldN (fun i acc => foldF acc (figClassS (tameS (sub i) sm 2) b) (add i)) 0 (min n 12))
    refine sure_fold _ (fun i => figClassS (tameS (sub i) sm 2) b) add _ fun i hi => ?_
    have ok := tame2_ok sm (sub i) (h.2.2 i (by omega))
    have e1 : figHasS (tameS (sub i) sm 2) (lIn b x y) = hasF (tameS (sub i) sm 2) (lIn b x y) := by unfold figHasS; rw [ok]; rfl
    have e2 : figClassS (tameS (sub i) sm 2) b = classF (tameS (sub i) sm 2) b := by unfold figClassS; rw [ok]; rfl
    show Sure (figHasS (tameS (sub i) sm 2) (lIn b x y)) (figClassS (tameS (sub i) sm 2) b)
    rw [e1, e2]
    exact shape_sure sm hb hf hx hy x y (sub i) 2
end Go.Proofs.YthnenjodighlmaaGreat

/-! ## Rsh -/
namespace Go.Proofs.YthnenjodighlmaaGreat
open Go Go.RowKit Sym
set_option maxRecDepth 100000

noncomputable def tdLh : List Dyn.EntryD := [(20, en2D (qAnd qS PdS) qP fun x p => rB (rFigHasE x p))]
noncomputable def tabLh : Dyn.Tabs := Dyn.tabs tbR tdLh noD dtyO
theorem tabLh_ok : Dyn.TabsOk Tryz.prog tabLh := Dyn.tabs_ok tbR_ok (List.forall_mem_cons.2 ⟨en2D_ok (qAnd_ok qS_ok) qP_ok fun x p h _ => rFigHas_ok x h.1 p, fun _ h => by cases h⟩)
def lhS (s : Sh) (p : P2) (i : Int) : Dyn.St := mkS 25 [(0, sH 0 0 s.n), (3, sL 1), (4, .k (vb false)), (5, sI i)] [some (.deep [.row s.n s.f]), some (.cells 38 [vi p.x, vi p.y])]
def lhR (q : Bool) : Dyn.St := mkS 25 [(4, sB q)] []
def lhK : List Nat := [0, 3, 4, 5]
noncomputable def lhLp (sh : Nat → Sh) (add : Nat → Bool) (s : Sh) (p : P2) : Dyn.Lp := fun id st => match id with
  | 0 => some (.side [keepA 25 [0, 1] [] lhK 0 st = lhS s p (W ((s.n : Int) - 1))] (.ite (runN (hsG rFigHasE sh add s.n p) false s.n).1 (.leaf .normal (lhS s p ((s.n : Int) - 1 - (s.n : Nat)))) (.leaf .ret (lhR (runN (hsG rFigHasE sh add s.n p) false s.n).2))))
  | _ => none
noncomputable def lhB (sh : Nat → Sh) (add : Nat → Bool) (s : Sh) (p : P2) (i : Int) : Dyn.Out :=
  .ite (decide (i ≥ 0)) (.side [0 ≤ i ∧ i < s.n, PdS (sh i.toNat), ctrSelf (sh i.toNat).l] (.ite (rFigHasE (sh i.toNat) p) (.side [0 ≤ i ∧ i < s.n] (.leaf .ret (lhR (add i.toNat)))) (.leaf .normal (lhS s p (W (i - 1)))))) (.leaf (.exit 0) (lhS s p i))
theorem lh_B (n : Nat) (add : Nat → Bool) (sh : Nat → Sh) (p : P2) (i : Int) :
    (Dyn.lexec Tryz.prog tabLh (lhLp sh add (mkL n add sh) p) 3 (unloopD (blkD Tryz.f10.body 0)) .leaf (lhS (mkL n add sh) p i)).rl (keepR 25 [0, 1] [] lhK [4]) = lhB sh add (mkL n add sh) p i := by kernel_rfl
theorem lh_blocks : blocksL (bodyD Tryz.f10.body) = [(0, .loop (unloopD (blkD Tryz.f10.body 0))), (1, blkD Tryz.f10.body 1)] := by kernel_rfl
theorem lh_b0 : blocksL (unloopD (blkD Tryz.f10.body 0)) = [(1, blkD Tryz.f10.body 1)] := by kernel_rfl
theorem lh_loop (n : Nat) (add : Nat → Bool) (sh : Nat → Sh) (hn : n ≤ 1000000000) (hP : ∀ i, i < n → PdS (sh i)) (p : P2) (w0 : Dyn.Base Tryz.prog) (s : Dyn.St) (o : Dyn.Out)
    (h : lhLp sh add (mkL n add sh) p 0 s = some o) : Dyn.BlockSound Tryz.prog w0 0 (.loop (unloopD (blkD Tryz.f10.body 0))) s o := by
  simp only [lhLp, Option.some.injEq] at h
  subst h
  refine side_one fun hS => ?_
  have e0 : W ((n : Int) - 1) = (n : Int) - 1 - ((0 : Nat) : Int) := by rw [W_id (by omega) (by omega)]; omega
  refine run_block (fuel := 3) tabLh_ok mo (lp := lhLp sh add (mkL n add sh) p) (by rw [lh_b0]; exact lpOk_cons (fun s o h => by cases h) lpOk_nil) (fun t (_ : Bool) => lhS (mkL n add sh) p ((n : Int) - 1 - (t : Nat))) n (hsG rFigHasE sh add n p) false lhR (keepR 25 [0, 1] [] lhK [4]) (keepR_ent 25 _ _ _ _) (fun t _ => lhB sh add (mkL n add sh) p ((n : Int) - 1 - (t : Nat))) (fun t _ => lh_B n add sh p _) (fun t q ht ha => ?_) (fun q ha => ?_) ?_
  · have ei : ((n : Int) - 1 - (t : Nat)).toNat = n - 1 - t := by omega
    unfold hsG lhB
    rw [ei]
    refine ⟨fun _ => ⟨⟨⟨by omega, by show (n : Int) - 1 - (t : Nat) < (n : Int); omega⟩, hP _ (by omega), ctrSelf_ok _, trivial⟩, fun hx => ⟨⟨⟨by omega, by show (n : Int) - 1 - (t : Nat) < (n : Int); omega⟩, trivial⟩, .inr ⟨rfl, ?_, ?_⟩⟩, fun hx => .inl ⟨rfl, ?_, ?_⟩⟩, fun hf => ?_⟩
    · rw [hx]; rfl
    · rw [hx]; exact Dyn.Fits.refl _
    · rw [hx]; rfl
    · rw [W_id (by omega) (by omega), show (n : Int) - 1 - (t : Int) - 1 = (n : Int) - 1 - ((t + 1 : Nat) : Int) by omega]; exact Dyn.Fits.refl _
    · rw [decide_eq_false_iff_not] at hf; omega
  · refine ⟨fun ht => ?_, fun _ => ⟨rfl, Dyn.Fits.refl _⟩⟩
    rw [decide_eq_true_eq] at ht; omega
  · have hS' : keepA 25 [0, 1] [] lhK 0 s = lhS (mkL n add sh) p ((n : Int) - 1 - ((0 : Nat) : Int)) := by rw [hS]; show lhS _ p (W ((n : Int) - 1)) = _; rw [e0]
    exact hS' ▸ keepA_ent 25 _ _ _ _ s
noncomputable def lhO (sh : Nat → Sh) (add : Nat → Bool) (s : Sh) (p : P2) : Dyn.RO :=
  .side [lhS s p (W ((s.n : Int) - 1)) = lhS s p (W ((s.n : Int) - 1))] (.ite (runN (hsG rFigHasE sh add s.n p) false s.n).1 (.leaf (rB false)) (.leaf (rB (runN (hsG rFigHasE sh add s.n p) false s.n).2)))
theorem lh_O (sh : Nat → Sh) (add : Nat → Bool) (s : Sh) (p : P2) : (Dyn.dfun Tryz.prog tabLh (lhLp sh add s p) 3 Tryz.f10 [dvL s, dvP p]).ro Tryz.prog Tryz.f10.results = lhO sh add s p := by kernel_rfl
theorem lh_lvl (n : Nat) (add : Nat → Bool) (sh : Nat → Sh) (hn : n ≤ 1000000000) (hP : ∀ i, i < n → PdS (sh i)) (p : P2) : Dyn.CallD Tryz.prog 10 [dvL (mkL n add sh), dvP p] (rB (runN (hsG rFigHasE sh add n p) false n).2) :=
  Dyn.dcontract (lp := lhLp sh add (mkL n add sh) p) (fuel := 3) tabLh_ok mo Tryz.func10 (by kernel_rfl) (c := bodyD Tryz.f10.body) (by kernel_rfl)
    (fun w0 => by rw [lh_blocks]; exact lpOk_cons (lh_loop n add sh hn hP p w0) (lpOk_cons (fun s o h => by cases h) lpOk_nil))
    (by kernel_rfl) (lh_O sh add _ p) (by
      refine ⟨⟨rfl, trivial⟩, fun h => ?_, fun h => ro_leaf rfl⟩
      exact ro_leaf (congrArg rB (rhRun_false rFigHasE sh add n p n h).symm))
noncomputable def rFigHasS (s : Shp) (p : P2) : Bool := andB (andB (rFm s 8) (decide (rCnt s ≤ 1000))) (rHasF s p)
theorem rFigHasE_eq (s : Shp) (p : P2) : rFigHasE (toSh s) p = rFigHasS s p := by unfold rFigHasE rOkE rFigHasS; rw [rFmE_eq, rCntE_eq, rHasE_eq]
noncomputable def rPile (s : Shp) (p : P2) : Bool := (runN (fun t (_ : Bool) => bif rFigHasS (suO s (nuO s - 1 - t)) p then (false, adO s (nuO s - 1 - t)) else (true, false)) false (nuO s)).2
theorem rPile_ok (s : Shp) (h : ShB s) (p : P2) : Dyn.CallD Tryz.prog 10 [dvL (toSh s), dvP p] (rB (rPile s p)) := by
  cases s with
  | nil => exact h.elim
  | mk k a b c r l n add sub =>
    have q := lh_lvl n add (fun i => toSh (sub i)) h.2.1 (fun i hi => PdS_mk (h.2.2 i hi)) p
    unfold hsG at q
    simp only [rFigHasE_eq] at q
    exact q
theorem rPile_all (x : Sh) (h : PdS x) (p : P2) : Dyn.CallD Tryz.prog 10 [dvL x, dvP p] (rB (rPile (ofSh x) p)) := CallD_le (args := [dvL (toSh (ofSh x)), dvP p]) ⟨SLe.dvL h.2, Dyn.DVLe.refl _, trivial⟩ (rPile_ok _ h.1 p)
end Go.Proofs.YthnenjodighlmaaGreat

/-! ## Rsi -/
namespace Go.Proofs.YthnenjodighlmaaGreat
open Go Go.RowKit Sym
set_option maxRecDepth 100000

/-! ### rings -/
/-- nearer than so much by the greater, or by the less -/
theorem shell_eq {A B d : Int} (hA : 0 ≤ A) (hB : 1 ≤ B) (hd : 0 ≤ d) : (B ≥ A ∨ A + B - d ≤ 0 ∨ (A + B - d) * (A + B - d) ≤ 4 * B * A) ↔ (A - B - d ≤ 0 ∨ (A - B - d) * (A - B - d) ≤ 4 * d * B) := by
  have e : (A + B - d) * (A + B - d) - 4 * B * A = (A - B - d) * (A - B - d) - 4 * d * B := by grind
  constructor
  · rintro (h | h | h)
    · exact .inl (by omega)
    · exact .inl (by omega)
    · exact .inr (by omega)
  · rintro (h | h)
    · by_cases k : B ≥ A
      · exact .inl k
      · by_cases q : A + B - d ≤ 0
        · exact .inr (.inl q)
        · refine .inr (.inr ?_)
          have h1 : (A + B - d) * (A + B - d) ≤ (2 * B) * (2 * B) := sq_le (by omega) (by omega)
          have h2 : B * B ≤ B * A := Int.mul_le_mul_of_nonneg_left (by omega) (by omega)
          have e2 : (2 * B) * (2 * B) = 4 * (B * B) := by grind
          have e3 : 4 * B * A = 4 * (B * A) := by grind
          omega
    · exact .inr (.inr (by omega))
theorem rAtMost_eq {d big r : Int} (h0 : 0 ≤ d) (h1 : d ≤ 4000000000000000000) (h2 : 0 ≤ big) (h3 : big ≤ 4000000000000000000) (h4 : 1 ≤ r) (h5 : r ≤ 536870912) : rAtMost d big r = insI d big r := by
  have s := sq_bd (A := 536870912) (x := r) (by omega) h5
  have e4 : 4 * r * r = 4 * (r * r) := by grind
  unfold rAtMost insI
  dsimp only
  rw [W_id (x := r * r) (by omega) (by omega), W_id (x := d - big) (by omega) (by omega), W_id (x := d - big - r * r) (by omega) (by omega), W_id (x := 4 * r) (by omega) (by omega), W_id (x := 4 * r * r) (by omega) (by omega), U_id (x := 4 * r * r) (by omega) (by omega), U_id (x := big) (by omega) (by omega),
    rle (by omega) (by omega) ⟨by omega, by omega⟩ ⟨by omega, by omega⟩, orB_eq, ← Bool.decide_or]
  exact decide_eq_decide.2 (by rw [show 4 * r * r * big = 4 * big * (r * r) by grind])
theorem rAtLeast_eq {d big r : Int} (h0 : 0 ≤ d) (h1 : d ≤ 4000000000000000000) (h2 : 0 ≤ big) (h3 : big ≤ 4000000000000000000) (h4 : 1 ≤ r) (h5 : r ≤ 536870912) : rAtLeast d big r = outI d big r := by
  have s := sq_bd (A := 536870912) (x := r) (by omega) h5
  have s1 : 1 * 1 ≤ r * r := Int.mul_le_mul h4 h4 (by omega) (by omega)
  have e4 : 4 * r * r = 4 * (r * r) := by grind
  unfold rAtLeast outI
  dsimp only
  rw [W_id (x := r * r) (by omega) (by omega), W_id (x := big + r * r) (by omega) (by omega), W_id (x := big + r * r - d) (by omega) (by omega), W_id (x := 4 * r) (by omega) (by omega), W_id (x := 4 * r * r) (by omega) (by omega), U_id (x := 4 * r * r) (by omega) (by omega), U_id (x := big) (by omega) (by omega),
    rle (by omega) (by omega) ⟨by omega, by omega⟩ ⟨by omega, by omega⟩, orB_eq, orB_eq, ← Bool.decide_or, ← Bool.decide_or]
  refine decide_eq_decide.2 (Iff.trans ?_ (shell_eq (A := big) (B := r * r) (d := d) h2 (by omega) h0))
  rw [e4, or_assoc]
theorem rSector_eq {p c a e : P2} (hp : PR p) (hc : PR c) (ha : PR a) (he : PR e) : rSector p c a e = sectI p c a e := sector_eq hp hc ha he
theorem rRingOk_eq {c a e : P2} (hc : PR c) (ha : PR a) (he : PR e) : rRingOk c a e = true ↔ okI c a e := by
  have e1 := rDist_eq2 hc ha
  have e2 := rDist_eq2 hc he
  have c1 : distI c a = distI a c := by unfold distI; grind
  have c2 : distI c e = distI e c := by unfold distI; grind
  unfold rRingOk okI
  rw [e1.1, e2.1, andB_eq, c1, c2]
  rw [c1] at e1
  simp only [Bool.and_eq_true, beq_iff_eq, decide_eq_true_eq]
  omega
theorem rRing_eq {p c a e : P2} {r : Int} (hp : PR p) (hc : PR c) (ha : PR a) (he : PR e) (ok : okI c a e) (h4 : 1 ≤ r) (h5 : r ≤ 536870912) (hd : distI p c ≤ 4000000000000000000) (hr : distI a c ≤ 4000000000000000000) : rRingHas p c a e r = ringHas p c a e r := by
  rw [ringHas_eq hp hc ha he ok h4 (by omega) hd hr]
  unfold rRingHas ringI
  rw [(rRingOk_eq hc ha he).2 ok, decide_eq_false (show ¬ r < 1 by omega), (rDist_eq2 hp hc).1, (rDist_eq2 ha hc).1, rDiscHas_eq hp ha h4 (by omega), rDiscHas_eq hp he h4 (by omega), rSector_eq hp hc ha he, rAtLeast_eq (dist_nn _ _) hd (dist_nn _ _) hr h4 h5, rAtMost_eq (dist_nn _ _) hd (dist_nn _ _) hr h4 h5]
  simp only [orB_eq, andB_eq, Bool.not_true, Bool.or_false, bif_f]
/-! ### contours -/
theorem phX_eq (p a e : P2) : phX p a e = crossesF p a e := by
  unfold phX crossesF
  by_cases h1 : a.y > p.y <;> by_cases h2 : e.y > p.y
  · rw [decide_eq_true h1, decide_eq_true h2, decide_eq_false (show ¬ a.y ≤ p.y by omega), decide_eq_false (show ¬ e.y ≤ p.y by omega)]; rfl
  · rw [decide_eq_true h1, decide_eq_false h2, decide_eq_false (show ¬ a.y ≤ p.y by omega), decide_eq_true (show e.y ≤ p.y by omega), decide_eq_false (show ¬ e.y > a.y by omega)]
    simp only [orB_eq, andB_eq]; rfl
  · rw [decide_eq_false h1, decide_eq_true h2, decide_eq_true (show a.y ≤ p.y by omega), decide_eq_false (show ¬ e.y ≤ p.y by omega), decide_eq_true (show e.y > a.y by omega)]
    simp only [orB_eq, andB_eq]
    cases decide (cross a e p > 0) <;> rfl
  · rw [decide_eq_false h1, decide_eq_false h2, decide_eq_true (show a.y ≤ p.y by omega), decide_eq_true (show e.y ≤ p.y by omega)]; rfl
theorem phE_eq {p a e : P2} (hp : PR p) (ha : PR a) (he : PR e) : phE p a e = meets (spotF p) a e := by
  have m := meets_eq (b := spotF p) (p := a) (q := e) ⟨hp.x, hp.y, hp.x, hp.y⟩ ha he (Int.le_refl _) (Int.le_refl _)
  rw [m, show meetsI (spotF p) a e = onI p a e from spot_meets p a e]
  unfold phE onI
  have i1 : ∀ u v : Int, imin u v = min u v := fun u v => by unfold imin; split <;> omega
  have i2 : ∀ u v : Int, imax u v = max u v := fun u v => by unfold imax; split <;> omega
  rw [(cross_eq ha he hp).1, i1, i1, i2, i2, Bool.eq_iff_iff]
  simp only [andB_eq, Bool.and_eq_true, beq_iff_eq, decide_eq_true_eq]
  omega
theorem run_in (E X : Nat → Bool) (q : Bool) : ∀ m, (runN (fun k q => bif E k then (false, q) else (true, bif X k then !q else q)) q m).1 = !(anyN E m) ∧ (anyN E m = false → (runN (fun k q => bif E k then (false, q) else (true, bif X k then !q else q)) q m).2 = xor q (parN X m))
  | 0 => ⟨rfl, fun _ => by simp [runN, parN]⟩
  | m + 1 => by
    obtain ⟨h1, h2⟩ := run_in E X q m
    have ea : anyN E (m + 1) = (anyN E m || E m) := rfl
    have ep : parN X (m + 1) = xor (parN X m) (X m) := rfl
    cases ha : anyN E m with
    | true =>
      rw [ha] at h1
      have e : runN (fun k q => bif E k then (false, q) else (true, bif X k then !q else q)) q m = (false, (runN (fun k q => bif E k then (false, q) else (true, bif X k then !q else q)) q m).2) := Prod.ext h1 rfl
      rw [runN_stop e (by omega), ea, ha]
      exact ⟨rfl, fun h => by cases h⟩
    | false =>
      rw [ha] at h1
      have h2 := h2 ha
      have e : runN (fun k q => bif E k then (false, q) else (true, bif X k then !q else q)) q m = (true, xor q (parN X m)) := Prod.ext h1 h2
      rw [runN_go e, ea, ha, ep]
      cases hE : E m
      · refine ⟨rfl, fun _ => ?_⟩
        show (bif X m then !(xor q (parN X m)) else xor q (parN X m)) = _
        rw [bif_xor, Bool.xor_assoc]
      · exact ⟨rfl, fun h => by cases h⟩
theorem run_out (E X : Nat → Nat → Bool) (m : Nat → Nat) (q : Bool) : ∀ n, (runN (fun i q => runN (fun k q => bif E i k then (false, q) else (true, bif X i k then !q else q)) q (m i)) q n).1 = !(anyN (fun i => anyN (E i) (m i)) n) ∧ (anyN (fun i => anyN (E i) (m i)) n = false → (runN (fun i q => runN (fun k q => bif E i k then (false, q) else (true, bif X i k then !q else q)) q (m i)) q n).2 = xor q (parN (fun i => parN (X i) (m i)) n))
  | 0 => ⟨rfl, fun _ => by simp [runN, parN]⟩
  | n + 1 => by
    obtain ⟨h1, h2⟩ := run_out E X m q n
    have ea : anyN (fun i => anyN (E i) (m i)) (n + 1) = (anyN (fun i => anyN (E i) (m i)) n || anyN (E n) (m n)) := rfl
    have ep : parN (fun i => parN (X i) (m i)) (n + 1) = xor (parN (fun i => parN (X i) (m i)) n) (parN (X n) (m n)) := rfl
    generalize eg : (fun i q => runN (fun k q => bif E i k then (false, q) else (true, bif X i k then !q else q)) q (m i)) = g at *
    cases ha : anyN (fun i => anyN (E i) (m i)) n with
    | true =>
      rw [ha] at h1
      have e : runN g q n = (false, (runN g q n).2) := Prod.ext h1 rfl
      rw [runN_stop e (by omega), ea, ha]
      exact ⟨rfl, fun h => by cases h⟩
    | false =>
      rw [ha] at h1
      have h2 := h2 ha
      have e : runN g q n = (true, xor q (parN (fun i => parN (X i) (m i)) n)) := Prod.ext h1 h2
      obtain ⟨k1, k2⟩ := run_in (E n) (X n) (xor q (parN (fun i => parN (X i) (m i)) n)) (m n)
      rw [runN_go e, ea, ha, ep, ← eg]
      dsimp only
      refine ⟨?_, fun h => ?_⟩
      · rw [k1]; rfl
      · rw [k2 (by simpa using h), Bool.xor_assoc]
theorem rPoly_eq {p : P2} {l : Ctr} (hp : PR p) (hl : ∀ i, i < l.n → ∀ k, k < l.m i → PR (l.p i k)) : rPolyHas p l = polyHasF p l := by
  have h := run_out (fun i => edgeC l (phE p) i) (fun i => edgeC l (phX p) i) l.m false l.n
  have eE : anyN (fun i => anyN (edgeC l (phE p) i) (l.m i)) l.n = touchF (spotF p) l := by
    unfold touchF
    refine anyN_congr fun i hi => anyN_congr fun k hk => ?_
    have hn : nxt (l.m i) k < l.m i := by
      unfold nxt
      have a := Int.tmod_nonneg (a := (k : Int) + 1) (l.m i : Int) (by omega)
      have b := Int.tmod_lt_of_pos ((k : Int) + 1) (show (0 : Int) < (l.m i : Int) by omega)
      omega
    exact phE_eq hp (hl i hi k hk) (hl i hi _ hn)
  have eX : (fun i => parN (edgeC l (phX p) i) (l.m i)) = fun i => parN (edgeC l (crossesF p) i) (l.m i) := by
    rw [show phX p = crossesF p from funext fun a => funext fun e => phX_eq p a e]
  obtain ⟨h1, h2⟩ := h
  unfold rPolyHas polyHasF
  change (bif (runN (fun i q => runN (fun k q => bif edgeC l (phE p) i k then (false, q) else (true, bif edgeC l (phX p) i k then !q else q)) q (l.m i)) false l.n).1 then (runN (fun i q => runN (fun k q => bif edgeC l (phE p) i k then (false, q) else (true, bif edgeC l (phX p) i k then !q else q)) q (l.m i)) false l.n).2 else true) = _
  rw [h1, eE]
  cases ht : touchF (spotF p) l
  · rw [h2 (by rw [eE, ht])]
    show xor false (parN (fun i => parN (edgeC l (phX p) i) (l.m i)) l.n) = oddF p l
    rw [eX, Bool.false_xor]; rfl
  · rfl
end Go.Proofs.YthnenjodighlmaaGreat

/-! ## Rsj -/
namespace Go.Proofs.YthnenjodighlmaaGreat
open Go Go.RowKit Sym
set_option maxRecDepth 100000

theorem fold_ext {α : Type} {f g : Nat → α → α} (a : α) : ∀ n, (∀ i x, i < n → f i x = g i x) → foldN f a n = foldN g a n
  | 0, _ => rfl
  | n + 1, h => by
    show f n (foldN f a n) = g n (foldN g a n)
    rw [fold_ext a n fun i x hi => h i x (by omega), h n _ (by omega)]
theorem near_bd {p : P2} (h : nearF p = true) : (-536870912 ≤ p.x ∧ p.x ≤ 536870912) ∧ (-536870912 ≤ p.y ∧ p.y ≤ 536870912) := by
  unfold nearF at h
  rw [andB_eq, andB_eq, andB_eq, Bool.and_eq_true, Bool.and_eq_true, Bool.and_eq_true, decide_eq_true_eq, decide_eq_true_eq, decide_eq_true_eq, decide_eq_true_eq] at h
  exact ⟨⟨by omega, by omega⟩, by omega, by omega⟩
theorem near_dist {p q : P2} (hp : nearF p = true) (hq : nearF q = true) : distI p q ≤ 4000000000000000000 := by
  have a := near_bd hp
  have b := near_bd hq
  have x := sq_bd (A := 1073741824) (x := p.x - q.x) (by omega) (by omega)
  have y := sq_bd (A := 1073741824) (x := p.y - q.y) (by omega) (by omega)
  unfold distI; omega
/-- has of a shape that may be -/
theorem fine_same {P : P2 → Prop} (hP : ∀ p, P p → nearF p = true) {p : P2} (hp : nearF p = true) : ∀ (s : Shp) (d : Int), Fine P s d → rHasF s p = hasF s p := by
  intro s
  induction s with
  | nil => intro d h; exact h.elim
  | mk k a b c r l n add sub ih =>
    intro d h
    have pp := near_PR hp
    have N : ∀ q, P q → PR q := fun q hq => near_PR (hP q hq)
    rcases h with ⟨rfl, rfl, rfl, rfl, rfl, ha, hr⟩ | ⟨rfl, rfl, rfl, rfl, ha, hb, hr⟩ | ⟨rfl, rfl, rfl, rfl, ha, hb, hr, hn⟩ | ⟨rfl, rfl, rfl, ha, hb, hc, hr, ho⟩ | ⟨rfl, rfl, rfl, rfl, rfl, rfl, hc⟩ | ⟨rfl, rfl, rfl, rfl, rfl, rfl, h5, hm, hs⟩
    · have w := wid_bd hr
      show rDiscHas p a r = discHas p a r
      rw [rDiscHas_eq pp (N a ha) (by omega) (by omega), discHas_eq pp (N a ha) (by omega) (by omega)]
    · have w := wid_bd hr
      show rLineHas p a b r = lineHas p a b r
      rw [rLineHas_eq pp (N a ha) (N b hb) (by omega) (by omega), lineHas_eq pp (N a ha) (N b hb) (by omega) (by omega)]
    · have w := wid_bd hr
      show rBarHas p a b r = barHas p a b r
      rw [rBarHas_eq pp (N a ha) (N b hb) (by omega), barHas_eq pp (N a ha) (N b hb) (by omega)]
    · have w := wid_bd hr
      show rRingHas p c a b r = ringHas p c a b r
      exact rRing_eq pp (N c hc) (N a ha) (N b hb) ho (by omega) (by omega) (near_dist hp (hP c hc)) (near_dist (hP a ha) (hP c hc))
    · show rPolyHas p l = polyHasF p l
      exact rPoly_eq pp fun i hi k hk => N _ ((hc.2 i hi).2 k hk)
    · show (runN (fun t (_ : Bool) => bif rHasF (sub (n - 1 - t)) p then (false, add (n - 1 - t)) else (true, false)) false n).2 = (runN (fun t (_ : Bool) => bif hasF (sub (n - 1 - t)) p then (false, add (n - 1 - t)) else (true, false)) false n).2
      rw [has_fold (fun i => rHasF (sub i) p), has_fold (fun i => hasF (sub i) p)]
      refine fold_ext _ n fun i x hi => ?_
      unfold hasN
      dsimp only
      rw [ih i (d + 1) (hs i hi)]
/-! ### formed -/
theorem rpts_fine {P : P2 → Prop} (hP : ∀ p, P p → nearF p = true) {l : Ctr} (h : FinC P l) : 0 ≤ rPoints l ∧ rPoints l ≤ 48 := by
  have k := runN_inv (g := rpO l) (a := 0) (fun i (a : Int) => 0 ≤ a ∧ a ≤ 12 * (i : Int)) ⟨by omega, by omega⟩ l.n (fun i x hi hx => by
    have hm := h.2 i hi
    have hn := h.1
    have q := runN_inv (g := rpI l i) (a := x) (fun k (a : Int) => x ≤ a ∧ a ≤ x + (k : Int)) ⟨by omega, by omega⟩ (l.m i) (fun k y hk hy => by
      unfold rpI
      rw [hP _ (hm.2 k hk)]
      refine ⟨rfl, ?_⟩
      show x ≤ W (y + 1) ∧ W (y + 1) ≤ x + ((k + 1 : Nat) : Int)
      rw [W_id (by omega) (by omega)]; omega)
    refine ⟨q.1, ?_⟩
    have q2 : x ≤ (rpO l i x).2 ∧ (rpO l i x).2 ≤ x + (l.m i : Int) := q.2
    omega)
  have hn := h.1
  unfold rPoints
  rw [k.1]
  have k2 := k.2
  show 0 ≤ (runN (rpO l) 0 l.n).2 ∧ (runN (rpO l) 0 l.n).2 ≤ 48
  omega
theorem near_ze : nearF ze = true := rfl
theorem wid_R1 {s : Sh} (h : widF s.r = true) : fmR1 s = true := by
  have w := wid_bd h
  unfold fmR1
  rw [decide_eq_true (show s.r ≥ 1 by omega), decide_eq_true (show s.r ≤ 536870912 by omega)]; rfl
theorem bad_0 {k : Int} {a b c : P2} {r : Int} {l : Ctr} {n : Nat} (h6 : k = 6 ∨ n = 0) (h2 : k = 2 ∨ l = zeC) (h5 : k = 5 ∨ c = ze) (ha : nearF a = true) (hb : nearF b = true) (hc : nearF c = true) : fmBad ⟨k, a, b, c, r, l, n, fun _ => []⟩ = false := by
  unfold fmBad
  dsimp only
  rw [ha, hb, hc]
  have e1 : andB (k != 6) (decide ((n : Int) > 0)) = false := by
    rcases h6 with rfl | rfl
    · rfl
    · cases k != 6 <;> rfl
  have e2 : andB (k != 2) (decide ((l.n : Int) > 0)) = false := by
    rcases h2 with rfl | rfl
    · rfl
    · cases k != 2 <;> rfl
  have e3 : andB (k != 5) (!(ptEq c ⟨0, 0⟩)) = false := by
    rcases h5 with rfl | rfl
    · rfl
    · cases k != 5 <;> rfl
  rw [e1, e2, e3]; rfl
theorem rFm_mk (k : Int) (a b c : P2) (r : Int) (l : Ctr) (n : Nat) (add : Nat → Bool) (sub : Nat → Shp) (d : Int) : rFm (.mk k a b c r l n add sub) d =
    bif fmBad ⟨k, a, b, c, r, l, n, fun _ => []⟩ then false else bif k == 1 then andB (fmR1 ⟨k, a, b, c, r, l, n, fun _ => []⟩) (ptEq b ⟨0, 0⟩) else bif k == 2 then fmP ⟨k, a, b, c, r, l, n, fun _ => []⟩ else bif k == 3 then fmR1 ⟨k, a, b, c, r, l, n, fun _ => []⟩ else bif k == 4 then andB (fmR1 ⟨k, a, b, c, r, l, n, fun _ => []⟩) (!(ptEq a b)) else
    bif k == 5 then andB (fmR1 ⟨k, a, b, c, r, l, n, fun _ => []⟩) (rRingOk c a b) else bif k == 6 then (bif fmB6 ⟨k, a, b, c, r, l, n, fun _ => []⟩ d then false else (runN (fun i (_ : Unit) => (rFm (sub i) (W (d - 1)), ())) () n).1) else false := rfl
theorem fine_formed {P : P2 → Prop} (hP : ∀ p, P p → nearF p = true) : ∀ (s : Shp) (d e : Int), Fine P s d → 0 ≤ d → 6 - d ≤ e → e ≤ 100 → rFm s e = true := by
  intro s
  induction s with
  | nil => intro d e h; exact h.elim
  | mk k a b c r l n add sub ih =>
    intro d e h h0 he h1
    rcases h with ⟨rfl, rfl, rfl, rfl, rfl, ha, hr⟩ | ⟨rfl, rfl, rfl, rfl, ha, hb, hr⟩ | ⟨rfl, rfl, rfl, rfl, ha, hb, hr, hn⟩ | ⟨rfl, rfl, rfl, ha, hb, hc, hr, ho⟩ | ⟨rfl, rfl, rfl, rfl, rfl, rfl, hc⟩ | ⟨rfl, rfl, rfl, rfl, rfl, rfl, h5, hm, hs⟩
    · rw [rFm_mk]
      rw [bad_0 (.inr rfl) (.inr rfl) (.inr rfl) (hP a ha) near_ze near_ze, wid_R1 (s := ⟨1, a, ze, ze, r, zeC, 0, fun _ => []⟩) hr]; rfl
    · rw [rFm_mk]
      rw [bad_0 (.inr rfl) (.inr rfl) (.inr rfl) (hP a ha) (hP b hb) near_ze, wid_R1 (s := ⟨3, a, b, ze, r, zeC, 0, fun _ => []⟩) hr]; rfl
    · have q : ptEq a b = false := by rw [ptEq_eq]; exact decide_eq_false fun q => hn (by cases a; cases b; obtain ⟨q1, q2⟩ := q; cases q1; cases q2; rfl)
      rw [rFm_mk]
      rw [bad_0 (.inr rfl) (.inr rfl) (.inr rfl) (hP a ha) (hP b hb) near_ze, wid_R1 (s := ⟨4, a, b, ze, r, zeC, 0, fun _ => []⟩) hr, q]; rfl
    · rw [rFm_mk]
      rw [bad_0 (.inr rfl) (.inr rfl) (.inl rfl) (hP a ha) (hP b hb) (hP c hc), wid_R1 (s := ⟨5, a, b, c, r, zeC, 0, fun _ => []⟩) hr, (rRingOk_eq (near_PR (hP c hc)) (near_PR (hP a ha)) (near_PR (hP b hb))).2 ho]; rfl
    · have q := rpts_fine hP hc
      rw [rFm_mk]
      rw [bad_0 (.inr rfl) (.inl rfl) (.inr rfl) near_ze near_ze near_ze]
      show fmP ⟨2, ze, ze, ze, 0, l, 0, fun _ => []⟩ = true
      unfold fmP
      dsimp only
      rw [decide_eq_true (show rPoints l ≥ 0 by omega), decide_eq_true (show rPoints l ≤ 1000 by omega)]; rfl
    · rw [rFm_mk]
      rw [bad_0 (.inl rfl) (.inr rfl) (.inr rfl) near_ze near_ze near_ze]
      show (bif fmB6 ⟨6, ze, ze, ze, 0, zeC, n, fun _ => []⟩ e then false else (runN (fun i (_ : Unit) => (rFm (sub i) (W (e - 1)), ())) () n).1) = true
      rw [show fmB6 ⟨6, ze, ze, ze, 0, zeC, n, fun _ => []⟩ e = decide (e < 1) from rfl, decide_eq_false (show ¬ e < 1 by omega), W_id (x := e - 1) (by omega) (by omega)]
      exact (runN_inv (fun _ _ => True) trivial n (fun i _ hi _ => ⟨ih i (d + 1) (e - 1) (hs i hi) (by omega) (by omega) (by omega), trivial⟩)).1
theorem fine_cnt {P : P2 → Prop} : ∀ (s : Shp) (d : Int), Fine P s d → 0 ≤ d → 1 ≤ rCnt s ∧ rCnt s ≤ Nd d := by
  intro s
  induction s with
  | nil => intro d h; exact h.elim
  | mk k a b c r l n add sub ih =>
    intro d h h0
    have nd := Nd_one d
    have one : n = 0 → 1 ≤ rCnt (.mk k a b c r l n add sub) ∧ rCnt (.mk k a b c r l n add sub) ≤ Nd d := fun e => by subst e; exact ⟨by show (1 : Int) ≤ 1; omega, by show (1 : Int) ≤ Nd d; omega⟩
    rcases h with ⟨_, _, _, _, e, _⟩ | ⟨_, _, _, e, _⟩ | ⟨_, _, _, e, _⟩ | ⟨_, _, e, _⟩ | ⟨_, _, _, _, _, e, _⟩ | ⟨rfl, rfl, rfl, rfl, rfl, rfl, h5, hm, hs⟩
    · exact one e
    · exact one e
    · exact one e
    · exact one e
    · exact one e
    · have st := Nd_step h0 h5 (show 0 ≤ (n : Int) by omega) (by omega)
      have nn := Nd_one (d + 1)
      have key : ∀ m : Nat, m ≤ n → 1 ≤ foldN (fun i a => W (a + rCnt (sub i))) 1 m ∧ foldN (fun i a => W (a + rCnt (sub i))) 1 m ≤ 1 + (m : Int) * Nd (d + 1) := by
        intro m
        induction m with
        | zero => intro _; exact ⟨by show (1 : Int) ≤ 1; omega, by show (1 : Int) ≤ 1 + ((0 : Nat) : Int) * Nd (d + 1); omega⟩
        | succ m ihm =>
          intro hm
          have a := ihm (by omega)
          have q := ih m (d + 1) (hs m (by omega)) (by omega)
          have a1 : ((m + 1 : Nat) : Int) * Nd (d + 1) ≤ (n : Int) * Nd (d + 1) := Int.mul_le_mul_of_nonneg_right (by omega) (by omega)
          have a2 : ((m + 1 : Nat) : Int) * Nd (d + 1) = (m : Int) * Nd (d + 1) + Nd (d + 1) := by rw [show ((m + 1 : Nat) : Int) = (m : Int) + 1 by omega, Int.add_mul, Int.one_mul]
          show 1 ≤ W (foldN (fun i a => W (a + rCnt (sub i))) 1 m + rCnt (sub m)) ∧ W (foldN (fun i a => W (a + rCnt (sub i))) 1 m + rCnt (sub m)) ≤ _
          rw [W_id (by omega) (by omega)]
          omega
      have := key n (Nat.le_refl n)
      show 1 ≤ foldN (fun i a => W (a + rCnt (sub i))) 1 n ∧ foldN (fun i a => W (a + rCnt (sub i))) 1 n ≤ Nd d
      omega
theorem fine_rhas {P : P2 → Prop} (hP : ∀ p, P p → nearF p = true) {p : P2} (hp : nearF p = true) {s : Shp} {d : Int} (h : Fine P s d) (h0 : 0 ≤ d) : rFigHasS s p = hasF s p := by
  have c := fine_cnt s d h h0
  have n := Nd_one d
  unfold rFigHasS
  rw [fine_formed hP s d 8 h h0 (by omega) (by decide), decide_eq_true (show rCnt s ≤ 1000 by omega), fine_same hP hp s d h]; rfl
/-- of lists that may be -/
theorem rPile_eq (sm : Bool) {p : P2} (hp : nearF p = true) (s : Shp) (h : ShB s) : rPile (tame21 s sm) p = pHas (tame21 s sm) p := by
  cases s with
  | nil => exact h.elim
  | mk k a b c r l n add sub =>
    show (runN (fun t (_ : Bool) => bif rFigHasS (tameS (sub (min n 12 - 1 - t)) sm 2) p then (false, add (min n 12 - 1 - t)) else (true, false)) false (min n 12)).2 = foldN (hasN (fun i => figHasS (tameS (sub i) sm 2) p) add) false (min n 12)
    rw [has_fold (fun i => rFigHasS (tameS (sub i) sm 2) p)]
    refine fold_ext _ _ fun i x hi => ?_
    unfold hasN
    dsimp only
    have hB := h.2.2 i (by omega)
    rw [fine_rhas (fun p hp => PB_near (tmX_le sm) hp) hp (tame_fine sm (sub i) 2 hB (by decide) (by decide)) (by decide)]
    rw [show figHasS (tameS (sub i) sm 2) p = hasF (tameS (sub i) sm 2) p by unfold figHasS; rw [tame2_ok sm (sub i) hB]; rfl]
end Go.Proofs.YthnenjodighlmaaGreat

/-! ## Sup -/
namespace Go.Proofs.YthnenjodighlmaaGreat
open Go Go.RowKit Sym
set_option maxRecDepth 100000

/-! what Points counts -/
end Go.Proofs.YthnenjodighlmaaGreat

/-! ## Suq -/
namespace Go.Proofs.YthnenjodighlmaaGreat
open Go Go.RowKit Sym
set_option maxRecDepth 100000

def oneN (b : Bool) : Nat := bif b then 1 else 0
def sumN (f : Nat → Nat) : Nat → Nat
  | 0 => 0
  | n + 1 => sumN f n + f n
theorem sum_congr {f g : Nat → Nat} : ∀ {n}, (∀ i, i < n → f i = g i) → sumN f n = sumN g n
  | 0, _ => rfl
  | n + 1, h => by unfold sumN; rw [sum_congr fun i hi => h i (by omega), h n (by omega)]
theorem sum_add (f g : Nat → Nat) : ∀ n, sumN (fun i => f i + g i) n = sumN f n + sumN g n
  | 0 => rfl
  | n + 1 => by unfold sumN; rw [sum_add f g n]; omega
/-! ### what Points counts -/
end Go.Proofs.YthnenjodighlmaaGreat

/-! ## Rpl -/
namespace Go.Proofs.YthnenjodighlmaaGreat
open Go Go.RowKit Sym
set_option maxRecDepth 100000

def okS (s : Shp) : Bool := (validF s 0 1000).1
theorem okE_S (s : Shp) : okE (toSh s) = okS s := by unfold okE okS; rw [vE_eq]
def figClassC (s : Shp) (b : B4) : Int := bif !(okS s) then 0 else classF s b
theorem figClassS_C (s : Shp) (b : B4) : figClassS s b = figClassC s b := by unfold figClassS figClassC; rw [okE_S]
def pClassC (s : Shp) (b : B4) : Int := foldN (fun i acc => foldF acc (figClassC (suO s i) b) (adO s i)) 0 (nuO s)
theorem pClass_C (s : Shp) (b : B4) : pClass s b = pClassC s b := by
  unfold pClass pClassC
  simp only [figClassS_C]
def figBndC (s : Shp) : B4 × Bool := bif okS s then bndF s else (⟨0, 0, 0, 0⟩, false)
theorem figBnd_C (s : Shp) : figBnd (toSh s) = figBndC s := by unfold figBnd figBndC; rw [okE_S, bndE_eq]
/-! ### what is kept -/
def kN (keep : Nat → Bool) : Nat → Nat
  | 0 => 0
  | n + 1 => bif keep n then kN keep n + 1 else kN keep n
def kIx (keep : Nat → Bool) : Nat → Nat → Nat
  | 0, _ => 0
  | n + 1, j => bif keep n && Nat.beq (kN keep n) j then n else kIx keep n j
theorem kN_le (keep : Nat → Bool) : ∀ n, kN keep n ≤ n
  | 0 => Nat.le_refl _
  | n + 1 => by
    have := kN_le keep n
    unfold kN
    cases keep n
    · show kN keep n ≤ n + 1; omega
    · show kN keep n + 1 ≤ n + 1; omega
theorem kN_mono (keep : Nat → Bool) {i : Nat} : ∀ {n : Nat}, i ≤ n → kN keep i ≤ kN keep n
  | 0, h => by obtain rfl : i = 0 := by omega
               exact Nat.le_refl _
  | n + 1, h => by
    by_cases e : i = n + 1
    · subst e; exact Nat.le_refl _
    · have := kN_mono keep (i := i) (n := n) (by omega)
      show kN keep i ≤ (bif keep n then kN keep n + 1 else kN keep n)
      cases keep n
      · exact this
      · show kN keep i ≤ kN keep n + 1; omega
theorem kN_step (keep : Nat → Bool) {i : Nat} (h : keep i = true) : kN keep (i + 1) = kN keep i + 1 := by
  show (bif keep i then kN keep i + 1 else kN keep i) = _
  rw [h]; rfl
theorem kN_skip (keep : Nat → Bool) {i : Nat} (h : keep i = false) : kN keep (i + 1) = kN keep i := by
  show (bif keep i then kN keep i + 1 else kN keep i) = _
  rw [h]; rfl
theorem kIx_at (keep : Nat → Bool) {i : Nat} (h : keep i = true) : ∀ {n : Nat}, i < n → kIx keep n (kN keep i) = i
  | 0, hn => absurd hn (Nat.not_lt_zero i)
  | n + 1, hn => by
    show (bif keep n && Nat.beq (kN keep n) (kN keep i) then n else kIx keep n (kN keep i)) = i
    by_cases e : i = n
    · subst e
      rw [h, Nat.beq_refl]; rfl
    · have k1 := kN_mono keep (i := i + 1) (n := n) (by omega)
      rw [kN_step keep h] at k1
      have : Nat.beq (kN keep n) (kN keep i) = false := by
        cases q : Nat.beq (kN keep n) (kN keep i)
        · rfl
        · have := Nat.eq_of_beq_eq_true q; omega
      rw [this, Bool.and_false]
      exact kIx_at keep h (by omega)
theorem kIx_lt (keep : Nat → Bool) {j : Nat} : ∀ {n : Nat}, j < kN keep n → kIx keep n j < n ∧ keep (kIx keep n j) = true
  | 0, h => absurd h (Nat.not_lt_zero j)
  | n + 1, h => by
    show (bif keep n && Nat.beq (kN keep n) j then n else kIx keep n j) < n + 1 ∧ keep (bif keep n && Nat.beq (kN keep n) j then n else kIx keep n j) = true
    cases hk : keep n
    · rw [kN_skip keep hk] at h
      have := kIx_lt keep (j := j) (n := n) h
      exact ⟨by show kIx keep n j < n + 1; omega, this.2⟩
    · rw [kN_step keep hk] at h
      cases q : Nat.beq (kN keep n) j
      · have ne : kN keep n ≠ j := fun e => by rw [e, Nat.beq_refl] at q; cases q
        have := kIx_lt keep (j := j) (n := n) (by omega)
        exact ⟨by show kIx keep n j < n + 1; omega, this.2⟩
      · exact ⟨by show n < n + 1; omega, hk⟩
/-- the objects that are kept -/
def filL (keep : Nat → Bool) (s : Shp) : Shp := lForm (kN keep (nuO s)) (fun j => adO s (kIx keep (nuO s) j)) (fun j => suO s (kIx keep (nuO s) j))
/-- a fold over what is kept -/
theorem fil_fold {α : Type} (keep : Nat → Bool) (g : Nat → α → α) (a : α) (n : Nat) : ∀ m, m ≤ n → foldN (fun j acc => g (kIx keep n j) acc) a (kN keep m) = foldN (fun i acc => bif keep i then g i acc else acc) a m
  | 0, _ => rfl
  | m + 1, h => by
    have ih := fil_fold keep g a n m (by omega)
    cases hk : keep m
    · rw [kN_skip keep hk, ih]
      show _ = (bif keep m then _ else _)
      rw [hk]; rfl
    · rw [kN_step keep hk]
      show g (kIx keep n (kN keep m)) (foldN _ a (kN keep m)) = (bif keep m then _ else _)
      rw [kIx_at keep hk (show m < n by omega), ih, hk]; rfl
theorem pClass_fil (keep : Nat → Bool) (s : Shp) (b : B4) : pClassC (filL keep s) b = foldN (fun i acc => bif keep i then foldF acc (figClassC (suO s i) b) (adO s i) else acc) 0 (nuO s) :=
  fil_fold keep (fun i acc => foldF acc (figClassC (suO s i) b) (adO s i)) 0 (nuO s) (nuO s) (Nat.le_refl _)
/-- whether there is a bar -/
def hbF : Shp → Bool
  | .nil => false
  | .mk k _ _ _ _ _ n _ sub => bif k == 4 then true else !((runN (fun i (_ : Unit) => (!(hbF (sub i)), ())) () n).1)
def rchK (s : Shp) (i : Nat) : Bool := (figBndC (suO s i)).2
def reachF (s : Shp) : Shp := filL (rchK s) s
def nearK (s : Shp) (b : B4) (i : Nat) : Bool := bif hbF (suO s i) then true else !(apart (figBndC (suO s i)).1 b)
def nearG (s : Shp) (b : B4) : Shp := filL (nearK s b) s
/-! ### the count of cells -/
structure ExR where
  lo : Int
  hi : Int
  e : Int
  a : Int
def exNo (e a : Int) : ExR := ⟨0, 0, e, a⟩
/-- the quarters of a box -/
def spB (b : B4) (i : Nat) : B4 := match i with
  | 0 => ⟨spl b 0 b.x0, spl b 0 b.y0, spl b 0 (midX b), spl b 0 (midY b)⟩
  | 1 => ⟨spl b 0 (midX b), spl b 0 b.y0, spl b 0 b.x1, spl b 0 (midY b)⟩
  | 2 => ⟨spl b 0 b.x0, spl b 0 (midY b), spl b 0 (midX b), spl b 0 b.y1⟩
  | _ => ⟨spl b 0 (midX b), spl b 0 (midY b), spl b 0 b.x1, spl b 0 b.y1⟩
/-- one quarter after the other -/
def exQ (f : B4 → Int → ExR) (b : B4) (a : Int) : ExR :=
  bif (f (spB b 0) a).e != 0 then exNo (f (spB b 0) a).e (f (spB b 0) a).a else
  bif (f (spB b 1) (f (spB b 0) a).a).e != 0 then exNo (f (spB b 1) (f (spB b 0) a).a).e (f (spB b 1) (f (spB b 0) a).a).a else
  bif (f (spB b 2) (f (spB b 1) (f (spB b 0) a).a).a).e != 0 then exNo (f (spB b 2) (f (spB b 1) (f (spB b 0) a).a).a).e (f (spB b 2) (f (spB b 1) (f (spB b 0) a).a).a).a else
  bif (f (spB b 3) (f (spB b 2) (f (spB b 1) (f (spB b 0) a).a).a).a).e != 0 then exNo (f (spB b 3) (f (spB b 2) (f (spB b 1) (f (spB b 0) a).a).a).a).e (f (spB b 3) (f (spB b 2) (f (spB b 1) (f (spB b 0) a).a).a).a).a else
  ⟨W (W (W (W (0 + (f (spB b 0) a).lo) + (f (spB b 1) (f (spB b 0) a).a).lo) + (f (spB b 2) (f (spB b 1) (f (spB b 0) a).a).a).lo) + (f (spB b 3) (f (spB b 2) (f (spB b 1) (f (spB b 0) a).a).a).a).lo),
   W (W (W (W (0 + (f (spB b 0) a).hi) + (f (spB b 1) (f (spB b 0) a).a).hi) + (f (spB b 2) (f (spB b 1) (f (spB b 0) a).a).a).hi) + (f (spB b 3) (f (spB b 2) (f (spB b 1) (f (spB b 0) a).a).a).a).hi),
   0, (f (spB b 3) (f (spB b 2) (f (spB b 1) (f (spB b 0) a).a).a).a).a⟩
/-- cells of a box -/
def cellsN (d : Nat) : Int := ((4 ^ d : Nat) : Int)
/-- a look at a box: c is its class; at what its quarters give, if it is to be split -/
def exT (most c : Int) (cells : Int) (m : Int → ExR) (a : Int) : ExR :=
  bif !(decide (W (a + 1) ≤ most)) then exNo 6 (W (a + 1)) else
  bif c == 0 then exNo 0 (W (a + 1)) else bif c == 2 then ⟨cells, cells, 0, W (a + 1)⟩ else m (W (a + 1))
def exF (most : Int) : Nat → Shp → B4 → Int → ExR
  | 0, s, b, a => exT most (pClassC s b) (cellsN 0) (fun a => ⟨0, 1, 0, a⟩) a
  | d + 1, s, b, a => exT most (pClassC s b) (cellsN (d + 1)) (exQ (fun q a => exF most d (nearG s q) q a) b) a
end Go.Proofs.YthnenjodighlmaaGreat

/-! ## Tue -/
namespace Go.Proofs.YthnenjodighlmaaGreat
open Go Go.RowKit Sym
set_option maxRecDepth 100000

def an (a b : Bool) : Bool := bif a then b else false
end Go.Proofs.YthnenjodighlmaaGreat

/-! ## Tuf -/
namespace Go.Proofs.YthnenjodighlmaaGreat
open Go Go.RowKit Sym
set_option maxRecDepth 100000

end Go.Proofs.YthnenjodighlmaaGreat

/-! ## Fir -/
namespace Go.Proofs.YthnenjodighlmaaGreat
open Go Go.RowKit Sym
set_option maxRecDepth 100000

def aroI (p q : P2) (r : Int) : B4 := ⟨imin p.x q.x - r, imin p.y q.y - r, imax p.x q.x + r, imax p.y q.y + r⟩
end Go.Proofs.YthnenjodighlmaaGreat

/-! ## Bnb -/
namespace Go.Proofs.YthnenjodighlmaaGreat
open Go Go.RowKit Sym
set_option maxRecDepth 100000

/-! ### the root, rounded up -/
theorem ru_sq {v : Int} (hv : v ≤ 4611686018427387904) : ∀ k, k ≤ ruN v → ruI (foldN (ruG v) ruA k) ∧ v ≤ (foldN (ruG v) ruA k).2 * (foldN (ruG v) ruA k).2 := fun k => by
  induction k with
  | zero => intro _; exact ⟨(⟨by decide, by decide, by decide⟩ : ruI ruA), by show v ≤ 2147483648 * 2147483648; omega⟩
  | succ k ih =>
    intro hk
    have q := ih (by omega)
    have lt := (ru_all v).1 k (by omega)
    have st := ru_step (v := v) q.1 lt
    refine ⟨st.1, ?_⟩
    have m := ruM_eq q.1
    show v ≤ (ruStep v (foldN (ruG v) ruA k)).2 * (ruStep v (foldN (ruG v) ruA k)).2
    generalize foldN (ruG v) ruA k = a at *
    obtain ⟨q1, q2, q3⟩ := q.1
    have bd : ruM a * ruM a ≤ 2147483648 * 2147483648 := Int.mul_le_mul (by omega) (by omega) (by omega) (by decide)
    have nn : 0 ≤ ruM a * ruM a := Int.mul_nonneg (by omega) (by omega)
    unfold ruStep
    rw [W_id (x := ruM a * ruM a) (by omega) (by omega)]
    by_cases h : ruM a * ruM a ≥ v
    · rw [decide_eq_true h]; exact h
    · rw [decide_eq_false h]; exact q.2
theorem rupF_sq {v : Int} (hv : v ≤ 4611686018427387904) : 0 ≤ rupF v ∧ rupF v ≤ 2147483648 ∧ v ≤ rupF v * rupF v := by
  have q := ru_sq hv (ruN v) (Nat.le_refl _)
  have e := (ru_all v).2
  obtain ⟨⟨q1, q2, q3⟩, q4⟩ := q
  have : (foldN (ruG v) ruA (ruN v)).1 = (foldN (ruG v) ruA (ruN v)).2 := by omega
  unfold rupF
  rw [this]
  rw [this] at q1
  exact ⟨q1, q3, q4⟩

/-! ### boxes around points -/
theorem sq_le_abs {e s : Int} (hs : 0 ≤ s) (h : e * e ≤ s * s) : -s ≤ e ∧ e ≤ s := by
  constructor
  · rcases Int.lt_or_le e (-s) with k | k
    · have := Int.mul_le_mul (show s + 1 ≤ -e by omega) (show s + 1 ≤ -e by omega) (by omega) (by omega)
      have e1 : -e * -e = e * e := by grind
      have e2 : (s + 1) * (s + 1) = s * s + 2 * s + 1 := by grind
      omega
    · exact k
  · rcases Int.lt_or_le s e with k | k
    · have := Int.mul_le_mul (show s + 1 ≤ e by omega) (show s + 1 ≤ e by omega) (by omega) (by omega)
      have e2 : (s + 1) * (s + 1) = s * s + 2 * s + 1 := by grind
      omega
    · exact k
theorem imin_le (x y : Int) : imin x y ≤ x ∧ imin x y ≤ y ∧ (imin x y = x ∨ imin x y = y) := by unfold imin; split <;> omega
theorem imax_ge (x y : Int) : x ≤ imax x y ∧ y ≤ imax x y ∧ (imax x y = x ∨ imax x y = y) := by unfold imax; split <;> omega
abbrev FF : Int := 536870912
theorem aro_cut {p q : P2} {r : Int} (hp : PB FF p) (hq : PB FF q) (h0 : 0 ≤ r) (h1 : r ≤ 8589934592) : aroundF p q r = ⟨imax (imin p.x q.x - r) (-FF), imax (imin p.y q.y - r) (-FF), imin (imax p.x q.x + r) FF, imin (imax p.y q.y + r) FF⟩ := by
  obtain ⟨⟨p1, p2⟩, p3, p4⟩ := hp
  obtain ⟨⟨q1, q2⟩, q3, q4⟩ := hq
  have e1 := imin_le p.x q.x
  have e2 := imin_le p.y q.y
  have e3 := imax_ge p.x q.x
  have e4 := imax_ge p.y q.y
  unfold aroundF
  generalize imin p.x q.x = a at *
  generalize imin p.y q.y = b at *
  generalize imax p.x q.x = c at *
  generalize imax p.y q.y = d at *
  unfold FF at *
  rw [W_id (x := a - r) (by omega) (by omega), W_id (x := b - r) (by omega) (by omega), W_id (x := c + r) (by omega) (by omega), W_id (x := d + r) (by omega) (by omega)]
theorem aro_has {p q z : P2} {r : Int} (hp : PB FF p) (hq : PB FF q) (h0 : 0 ≤ r) (h1 : r ≤ 8589934592) (hz : PB FF z) : hasI (aroundF p q r) z ↔ hasI (aroI p q r) z := by
  rw [aro_cut hp hq h0 h1]
  obtain ⟨⟨z1, z2⟩, z3, z4⟩ := hz
  unfold hasI aroI
  dsimp only
  generalize imin p.x q.x = a
  generalize imin p.y q.y = b
  generalize imax p.x q.x = c
  generalize imax p.y q.y = d
  have e1 := imax_ge (a - r) (-FF)
  have e2 := imax_ge (b - r) (-FF)
  have e3 := imin_le (c + r) FF
  have e4 := imin_le (d + r) FF
  unfold FF at *
  omega
theorem aro_fits {p q : P2} {r : Int} (hp : PB FF p) (hq : PB FF q) (h0 : 0 ≤ r) (h1 : r ≤ 8589934592) : Fits (aroundF p q r) := by
  rw [aro_cut hp hq h0 h1]
  obtain ⟨⟨p1, p2⟩, p3, p4⟩ := hp
  obtain ⟨⟨q1, q2⟩, q3, q4⟩ := hq
  have e1 := imin_le p.x q.x
  have e2 := imin_le p.y q.y
  have e3 := imax_ge p.x q.x
  have e4 := imax_ge p.y q.y
  generalize imin p.x q.x = a at *
  generalize imin p.y q.y = b at *
  generalize imax p.x q.x = c at *
  generalize imax p.y q.y = d at *
  have f1 := imax_ge (a - r) (-FF)
  have f2 := imax_ge (b - r) (-FF)
  have f3 := imin_le (c + r) FF
  have f4 := imin_le (d + r) FF
  unfold FF at *
  constructor <;> dsimp only <;> omega
/-- no point in common -/
def Off (U b : B4) : Prop := U.x1 < b.x0 ∨ b.x1 < U.x0 ∨ U.y1 < b.y0 ∨ b.y1 < U.y0
theorem aro_off {p q : P2} {b : B4} {r : Int} (hp : PB FF p) (hq : PB FF q) (h0 : 0 ≤ r) (h1 : r ≤ 8589934592) (hb : Fits b) (h : Off (aroundF p q r) b) : Off (aroI p q r) b := by
  rw [aro_cut hp hq h0 h1] at h
  obtain ⟨b1, b2, b3, b4, b5, b6⟩ := hb
  unfold Off aroI at *
  dsimp only at *
  generalize imin p.x q.x = a at *
  generalize imin p.y q.y = b' at *
  generalize imax p.x q.x = c at *
  generalize imax p.y q.y = d at *
  have f1 := imax_ge (a - r) (-FF)
  have f2 := imax_ge (b' - r) (-FF)
  have f3 := imin_le (c + r) FF
  have f4 := imin_le (d + r) FF
  unfold FF at *
  omega
theorem off_has {U b : B4} {z : P2} (h : Off U b) (hb : hasI b z) : ¬ hasI U z := by
  unfold Off hasI at *
  omega

/-! ### discs, strokes, bars -/
theorem dist_box {p c : P2} {r : Int} (h0 : 0 ≤ r) (h : distI p c ≤ r * r) : hasI (aroI c c r) p := by
  have s1 := sq_nn (p.x - c.x)
  have s2 := sq_nn (p.y - c.y)
  unfold distI at h
  have a1 := sq_le_abs (e := p.x - c.x) h0 (by omega)
  have a2 := sq_le_abs (e := p.y - c.y) h0 (by omega)
  have e1 := imin_le c.x c.x
  have e2 := imin_le c.y c.y
  have e3 := imax_ge c.x c.x
  have e4 := imax_ge c.y c.y
  unfold hasI aroI
  dsimp only
  omega
theorem seg_lo {n m px ax cx r lo : Int} (n0 : 0 < n) (m0 : 0 ≤ m) (mn : m ≤ n) (hr : 0 ≤ r) (he : (n * (px - ax) - m * (cx - ax)) * (n * (px - ax) - m * (cx - ax)) ≤ n * n * (r * r)) (h1 : lo ≤ ax) (h2 : lo ≤ cx) : lo - r ≤ px := by
  have e1 : n * n * (r * r) = (n * r) * (n * r) := by grind
  rw [e1] at he
  have a1 := (sq_le_abs (Int.mul_nonneg (by omega) hr) he).1
  have k1 : (n - m) * lo ≤ (n - m) * ax := Int.mul_le_mul_of_nonneg_left h1 (by omega)
  have k2 : m * lo ≤ m * cx := Int.mul_le_mul_of_nonneg_left h2 m0
  have e2 : n * (px - ax) - m * (cx - ax) = n * px - ((n - m) * ax + m * cx) := by grind
  have e3 : (n - m) * lo + m * lo = n * lo := by grind
  have e4 : n * (lo - r) = n * lo - n * r := by grind
  exact Int.le_of_mul_le_mul_left (show n * (lo - r) ≤ n * px by omega) n0
theorem seg_hi {n m px ax cx r hi : Int} (n0 : 0 < n) (m0 : 0 ≤ m) (mn : m ≤ n) (hr : 0 ≤ r) (he : (n * (px - ax) - m * (cx - ax)) * (n * (px - ax) - m * (cx - ax)) ≤ n * n * (r * r)) (h1 : ax ≤ hi) (h2 : cx ≤ hi) : px ≤ hi + r := by
  have := seg_lo (px := -px) (ax := -ax) (cx := -cx) (lo := -hi) n0 m0 mn hr (by
    have e : n * (-px - -ax) - m * (-cx - -ax) = -(n * (px - ax) - m * (cx - ax)) := by grind
    rw [e]
    have e2 : -(n * (px - ax) - m * (cx - ax)) * -(n * (px - ax) - m * (cx - ax)) = (n * (px - ax) - m * (cx - ax)) * (n * (px - ax) - m * (cx - ax)) := by grind
    rw [e2]; exact he) (by omega) (by omega)
  omega
theorem onS_box {p a c : P2} {r : Int} (h0 : 0 ≤ r) (h : OnS p a c (r * r)) : hasI (aroI a c r) p := by
  obtain ⟨m, n, n0, m0, mn, hd⟩ := h
  have s1 := sq_nn (n * (p.x - a.x) - m * (c.x - a.x))
  have s2 := sq_nn (n * (p.y - a.y) - m * (c.y - a.y))
  have e1 := imin_le a.x c.x
  have e2 := imin_le a.y c.y
  have e3 := imax_ge a.x c.x
  have e4 := imax_ge a.y c.y
  exact ⟨seg_lo n0 m0 mn h0 (by omega) e1.1 e1.2.1, seg_hi n0 m0 mn h0 (by omega) e3.1 e3.2.1, seg_lo n0 m0 mn h0 (by omega) e2.1 e2.2.1, seg_hi n0 m0 mn h0 (by omega) e4.1 e4.2.1⟩
theorem bar_line {p a c : P2} {r : Int} (h : barI p a c r = true) : lineI p a c r = true := by
  unfold barI at h
  simp only [Bool.and_eq_true, Bool.not_eq_true', decide_eq_true_eq, decide_eq_false_iff_not] at h
  obtain ⟨⟨⟨⟨hs, h1⟩, hc⟩, hd0⟩, hd1⟩ := h
  have hall : 0 < distI a c := by
    have := dist_nn a c
    have := (not_congr (dist_pos a c)).2 hs
    omega
  have l1 := lagrange a c p
  have l2 := lagrange2 a c p
  have hc' := hc
  unfold clear at hc
  rw [decide_eq_true_eq] at hc
  unfold lineI
  by_cases k : dotI a c p ≤ 0
  · rw [if_pos k, decide_eq_true_eq]
    have z : dotI a c p = 0 := by omega
    rw [z] at l1
    have e : r * r * distI a c = distI a c * (r * r) := by grind
    exact Int.le_of_mul_le_mul_left (show distI a c * distI p a ≤ distI a c * (r * r) by omega) hall
  · rw [if_neg k]
    by_cases k2 : dotI a c p ≥ distI a c
    · rw [if_pos k2, decide_eq_true_eq]
      have z : dotI a c p - distI a c = 0 := by omega
      rw [z] at l2
      have e : r * r * distI a c = distI a c * (r * r) := by grind
      exact Int.le_of_mul_le_mul_left (show distI a c * distI p c ≤ distI a c * (r * r) by omega) hall
    · rw [if_neg k2]; exact hc'
/-- the nearest point of a box that is off is off -/
theorem near_off {b : B4} {a c q : P2} {r : Int} (hx : b.x0 ≤ b.x1) (hy : b.y0 ≤ b.y1) (h0 : 0 ≤ r) (ho : Off (aroI a c r) b) (hq : q = a ∨ q = c) : r * r < nearI b q := by
  rcases Int.lt_or_le (r * r) (nearI b q) with k | k
  · exact k
  · rw [near_nearest hx hy] at k
    have hb : hasI b (nearest b q) := by
      unfold nearest hasI
      dsimp only
      omega
    have := dist_box h0 k
    refine absurd ?_ (off_has ho hb)
    have e1 := imin_le a.x c.x
    have e2 := imin_le a.y c.y
    have e3 := imax_ge a.x c.x
    have e4 := imax_ge a.y c.y
    have f1 := imin_le q.x q.x
    have f2 := imin_le q.y q.y
    have f3 := imax_ge q.x q.x
    have f4 := imax_ge q.y q.y
    unfold hasI aroI at *
    dsimp only at *
    rcases hq with rfl | rfl <;> omega
theorem line_off {b : B4} {a c : P2} {r : Int} (hx : b.x0 ≤ b.x1) (hy : b.y0 ≤ b.y1) (h0 : 0 ≤ r) (ho : Off (aroI a c r) b) : lineCl b a c r = 0 := by
  have none : ∀ k, isC b k → lineI k a c r = false := fun k hk => by
    cases h : lineI k a c r with
    | false => rfl
    | true => exact absurd (onS_box h0 (lineI_iff.1 h)) (off_has ho (isC_has hx hy hk))
  have c0 : lineI ⟨b.x0, b.y0⟩ a c r = false := none _ ⟨.inl rfl, .inl rfl⟩
  unfold lineCl
  have h4 : all4 (fun q => lineI q a c r) b = false := by
    unfold all4
    dsimp only
    rw [c0]; rfl
  have h5 : any4 (fun q => lineI q a c r) b = false := by
    rw [Bool.eq_false_iff]
    intro h
    obtain ⟨k, hk, h⟩ := any4_iff.1 h
    rw [none k hk] at h; cases h
  have h6 := near_off (q := a) hx hy h0 ho (.inl rfl)
  have h7 := near_off (q := c) hx hy h0 ho (.inr rfl)
  have h8 : meetsI b a c = false := by
    unfold meetsI sepI
    have e1 := imin_le a.x c.x
    have e2 := imin_le a.y c.y
    have e3 := imax_ge a.x c.x
    have e4 := imax_ge a.y c.y
    have : decide (max a.x c.x < b.x0) = true ∨ decide (min a.x c.x > b.x1) = true ∨ decide (max a.y c.y < b.y0) = true ∨ decide (min a.y c.y > b.y1) = true := by
      simp only [decide_eq_true_eq]
      unfold Off aroI at ho
      dsimp only at ho
      omega
    rcases this with h | h | h | h <;> rw [h] <;> simp
  rw [h4, h5, h8, decide_eq_false (by omega), decide_eq_false (by omega)]
  rfl
end Go.Proofs.YthnenjodighlmaaGreat

/-! ## Rio -/
namespace Go.Proofs.YthnenjodighlmaaGreat
open Go Go.RowKit Sym
set_option maxRecDepth 100000

/-- who is in the disc around a point of the circle is neither too near nor too far -/
theorem disc_ring {p c e : P2} {r : Int} (h : distI p e ≤ r * r) : outI (distI p c) (distI e c) r = true ∧ insI (distI p c) (distI e c) r = true := by
  have hp : ∃ px, px = p.x - c.x := ⟨_, rfl⟩
  have hp' : ∃ py, py = p.y - c.y := ⟨_, rfl⟩
  have hq : ∃ qx, qx = p.x - e.x := ⟨_, rfl⟩
  have hq' : ∃ qy, qy = p.y - e.y := ⟨_, rfl⟩
  obtain ⟨px, epx⟩ := hp; obtain ⟨py, epy⟩ := hp'; obtain ⟨qx, eqx⟩ := hq; obtain ⟨qy, eqy⟩ := hq'
  have d : distI p c = px * px + py * py := by unfold distI; rw [← epx, ← epy]
  have s : distI p e = qx * qx + qy * qy := by unfold distI; rw [← eqx, ← eqy]
  have rr : distI e c = (px - qx) * (px - qx) + (py - qy) * (py - qy) := by
    unfold distI
    have e1 : e.x - c.x = px - qx := by omega
    have e2 : e.y - c.y = py - qy := by omega
    rw [e1, e2]
  rw [s] at h
  rw [d, rr]
  clear d s rr epx epy eqx eqy
  have hs : 0 ≤ qx * qx + qy * qy := by have := sq_nn qx; have := sq_nn qy; omega
  -- the inequality of Cauchy
  have cs : ∀ u v : Int, (u * qx + v * qy) * (u * qx + v * qy) ≤ (u * u + v * v) * (r * r) := fun u v => by
    have a : (u * u + v * v) * (qx * qx + qy * qy) = (u * qx + v * qy) * (u * qx + v * qy) + (u * qy - v * qx) * (u * qy - v * qx) := by grind
    have b := sq_nn (u * qy - v * qx)
    have n : 0 ≤ u * u + v * v := by have := sq_nn u; have := sq_nn v; omega
    have m := Int.mul_le_mul_of_nonneg_left h n
    omega
  constructor
  · unfold outI; rw [decide_eq_true_eq]
    by_cases k : (px - qx) * (px - qx) + (py - qy) * (py - qy) - r * r - (px * px + py * py) ≤ 0
    · exact .inl k
    · refine .inr ?_
      have c1 := cs px py
      have l : (px - qx) * (px - qx) + (py - qy) * (py - qy) - r * r - (px * px + py * py) ≤ -2 * (px * qx + py * qy) := by
        have : (px - qx) * (px - qx) + (py - qy) * (py - qy) - (px * px + py * py) = -2 * (px * qx + py * qy) + (qx * qx + qy * qy) := by grind
        omega
      have q := sq_le (x := (px - qx) * (px - qx) + (py - qy) * (py - qy) - r * r - (px * px + py * py)) (y := -2 * (px * qx + py * qy)) (by omega) l
      have e1 : -2 * (px * qx + py * qy) * (-2 * (px * qx + py * qy)) = 4 * ((px * qx + py * qy) * (px * qx + py * qy)) := by grind
      have e2 : 4 * (px * px + py * py) * (r * r) = 4 * ((px * px + py * py) * (r * r)) := by grind
      omega
  · unfold insI; rw [decide_eq_true_eq]
    by_cases k : px * px + py * py - ((px - qx) * (px - qx) + (py - qy) * (py - qy)) - r * r ≤ 0
    · exact .inl k
    · refine .inr ?_
      have c1 := cs (px - qx) (py - qy)
      have l : px * px + py * py - ((px - qx) * (px - qx) + (py - qy) * (py - qy)) - r * r ≤ 2 * ((px - qx) * qx + (py - qy) * qy) := by
        have : px * px + py * py - ((px - qx) * (px - qx) + (py - qy) * (py - qy)) = 2 * ((px - qx) * qx + (py - qy) * qy) + (qx * qx + qy * qy) := by grind
        omega
      have q := sq_le (x := px * px + py * py - ((px - qx) * (px - qx) + (py - qy) * (py - qy)) - r * r) (y := 2 * ((px - qx) * qx + (py - qy) * qy)) (by omega) l
      have e1 : 2 * ((px - qx) * qx + (py - qy) * qy) * (2 * ((px - qx) * qx + (py - qy) * qy)) = 4 * (((px - qx) * qx + (py - qy) * qy) * ((px - qx) * qx + (py - qy) * qy)) := by grind
      have e2 : 4 * ((px - qx) * (px - qx) + (py - qy) * (py - qy)) * (r * r) = 4 * (((px - qx) * (px - qx) + (py - qy) * (py - qy)) * (r * r)) := by grind
      omega
end Go.Proofs.YthnenjodighlmaaGreat

/-! ## Bnc -/
namespace Go.Proofs.YthnenjodighlmaaGreat
open Go Go.RowKit Sym
set_option maxRecDepth 100000

/-! ### rings -/
theorem ins_le {d rr r R : Int} (hR : 0 ≤ R) (hr : 0 ≤ r) (h : rr ≤ R * R) (h0 : 0 ≤ rr) (k : insI d rr r = true) : d ≤ (R + r) * (R + r) := by
  unfold insI at k
  rw [decide_eq_true_eq] at k
  have e : (R + r) * (R + r) = R * R + 2 * (R * r) + r * r := by grind
  have n1 : 0 ≤ R * r := Int.mul_nonneg hR hr
  rcases k with k | k
  · omega
  · have m : 4 * rr * (r * r) ≤ (2 * (R * r)) * (2 * (R * r)) := by
      have e2 : (2 * (R * r)) * (2 * (R * r)) = 4 * (R * R) * (r * r) := by grind
      rw [e2]
      exact Int.mul_le_mul_of_nonneg_right (by omega) (Int.mul_nonneg hr hr)
    have := (sq_le_abs (e := d - rr - r * r) (s := 2 * (R * r)) (by omega) (by omega)).2
    omega
theorem ring_d {p c a e : P2} {r R : Int} (ok : okI c a e) (hR : 0 ≤ R) (hr : 0 ≤ r) (h : distI a c ≤ R * R) (k : ringI p c a e r = true) : distI p c ≤ (R + r) * (R + r) := by
  have h0 := dist_nn a c
  unfold ringI at k
  rw [Bool.or_eq_true, Bool.or_eq_true, decide_eq_true_eq, decide_eq_true_eq, Bool.and_eq_true] at k
  rcases k with (k | k) | k
  · exact ins_le hR hr h h0 (disc_ring k).2
  · exact ins_le hR hr h h0 (by rw [ok.2]; exact (disc_ring k).2)
  · exact ins_le hR hr h h0 k.2
theorem near_le2 {b : B4} {q c : P2} (hx : b.x0 ≤ b.x1) (hy : b.y0 ≤ b.y1) (h : hasI b q) : nearI b c ≤ distI q c := by
  obtain ⟨h1, h2, h3, h4⟩ := h
  have g : ∀ {v lo hi w : Int}, lo ≤ w → w ≤ hi → gapI v lo hi * gapI v lo hi ≤ (w - v) * (w - v) := fun {v lo hi w} a b => by
    unfold gapI
    split
    · exact Int.mul_le_mul (by omega) (by omega) (by omega) (by omega)
    · split
      · have e : (w - v) * (w - v) = (v - w) * (v - w) := by grind
        rw [e]
        exact Int.mul_le_mul (by omega) (by omega) (by omega) (by omega)
      · have := sq_nn (w - v); omega
  unfold nearI distI
  have := g (v := c.x) h1 h2
  have := g (v := c.y) h3 h4
  omega
theorem ring_off {b : B4} {c a e : P2} {r R : Int} (hx : b.x0 ≤ b.x1) (hy : b.y0 ≤ b.y1) (ok : okI c a e) (hR : 0 ≤ R) (hr : 0 ≤ r) (h : distI a c ≤ R * R) (ho : Off (aroI c c (R + r)) b) : ringCl b c a e r = 0 := by
  have h0 := dist_nn a c
  have far := near_off (q := c) hx hy (show 0 ≤ R + r by omega) ho (.inl rfl)
  have hm := near_most (b := b) (p := c) hx hy
  have i1 : insI (nearI b c) (distI a c) r = false := by
    cases k : insI (nearI b c) (distI a c) r with
    | false => rfl
    | true => have := ins_le hR hr h h0 k; omega
  have i2 : insI (mostI b c) (distI a c) r = false := by
    cases k : insI (mostI b c) (distI a c) r with
    | false => rfl
    | true => have := ins_le hR hr h h0 k; omega
  have n : ∀ q, distI q c = distI a c → r * r < nearI b q := fun q hq => by
    rcases Int.lt_or_le (r * r) (nearI b q) with k | k
    · exact k
    · rw [near_nearest hx hy] at k
      have hb : hasI b (nearest b q) := by
        unfold nearest hasI
        dsimp only
        omega
      have h1 := ins_le hR hr h h0 (hq ▸ (disc_ring k).2)
      have h2 := near_le2 (c := c) hx hy hb
      omega
  have n1 := n a rfl
  have n2 := n e ok.2.symm
  have m1 := near_most (b := b) (p := a) hx hy
  have m2 := near_most (b := b) (p := e) hx hy
  unfold ringCl
  rw [if_neg (by omega), i1, i2, if_neg (by simp), if_neg (by omega), if_pos (by simp)]

/-! ### contours -/
/-- all points of contours lie in a box -/
def InC (U : B4) (l : Ctr) : Prop := ∀ i, i < l.n → ∀ k, k < l.m i → hasI U (l.p i k)
theorem odd_none {l : Ctr} {p : P2} (h : ∀ i, i < l.n → ∀ k, k < l.m i → crossesI p (l.p i k) (l.p i (nxt (l.m i) k)) = false) : oddI p l = false := by
  unfold oddI
  rw [parN_congr (g := fun _ => false) fun i hi => ?_, parN_false]
  rw [parN_congr (f := edgeC l (crossesI p) i) (g := fun _ => false) fun k hk => h i hi k hk, parN_false]
theorem odd_ver {l : Ctr} {U : B4} {p : P2} (h : InC U l) (hp : p.y < U.y0 ∨ U.y1 ≤ p.y) : oddI p l = false := odd_none fun i hi k hk => by
  have a := h i hi k hk
  have e := h i hi _ (nxt_lt hk)
  unfold crossesI hasI at *
  rcases hp with hp | hp
  · rw [decide_eq_true (show (l.p i k).y > p.y by omega), decide_eq_true (show (l.p i (nxt (l.m i) k)).y > p.y by omega)]; rfl
  · rw [decide_eq_false (show ¬ (l.p i k).y > p.y by omega), decide_eq_false (show ¬ (l.p i (nxt (l.m i) k)).y > p.y by omega)]; rfl
theorem sep_off {b U : B4} {a e : P2} (h : Off U b) (ha : hasI U a) (he : hasI U e) : meetsI b a e = false := by
  unfold meetsI sepI
  have : decide (max a.x e.x < b.x0) = true ∨ decide (min a.x e.x > b.x1) = true ∨ decide (max a.y e.y < b.y0) = true ∨ decide (min a.y e.y > b.y1) = true := by
    simp only [decide_eq_true_eq]
    unfold Off hasI at *
    omega
  rcases this with h | h | h | h <;> rw [h] <;> simp
theorem touch_off {b U : B4} {l : Ctr} (h : Off U b) (hl : InC U l) : touchI b l = false := by
  rw [Bool.eq_false_iff]
  intro hq
  obtain ⟨i, hi, hq⟩ := anyN_iff.1 hq
  obtain ⟨k, hk, hq⟩ := anyN_iff.1 hq
  unfold edgeC at hq
  rw [sep_off h (hl i hi k hk) (hl i hi _ (nxt_lt hk))] at hq
  cases hq
theorem odd_off {l : Ctr} {U : B4} {p : P2} (h : InC U l) (hp : ¬ hasI U p) : oddI p l = false := by
  by_cases hy : p.y < U.y0 ∨ U.y1 ≤ p.y
  · exact odd_ver h hy
  · have hb : Off U ⟨p.x, p.y, p.x, U.y1⟩ := by
      unfold hasI at hp
      unfold Off
      dsimp only
      omega
    have e := odd_box (p := p) (q := ⟨p.x, U.y1⟩) (touch_off hb h) ⟨Int.le_refl _, Int.le_refl _, Int.le_refl _, by show p.y ≤ U.y1; omega⟩ ⟨Int.le_refl _, Int.le_refl _, by show p.y ≤ U.y1; omega, Int.le_refl _⟩
    rw [e]
    exact odd_ver h (.inr (Int.le_refl _))
theorem spot_off {U : B4} {p : P2} (hp : ¬ hasI U p) : Off U (spotB p) := by
  unfold Off spotB hasI at *
  dsimp only
  omega
theorem poly_has {l : Ctr} {U : B4} {p : P2} (hl : PRC l) (hp : PR p) (h : InC U l) (k : polyHasF p l = true) : hasI U p := by
  by_cases hn : hasI U p
  · exact hn
  · unfold polyHasF at k
    rw [touchF_eq (b := spotF p) ⟨hp.x, hp.y, hp.x, hp.y⟩ (Int.le_refl _) (Int.le_refl _) hl, oddF_eq hp hl, odd_off h hn, show touchI (spotF p) l = false from touch_off (spot_off hn) h] at k
    cases k
theorem poly_off {l : Ctr} {U b : B4} (hl : PRC l) (hb : BR b) (hx : b.x0 ≤ b.x1) (hy : b.y0 ≤ b.y1) (h : InC U l) (ho : Off U b) : polyClassF b l = 0 := by
  have hC : hasI b ⟨b.x0, b.y0⟩ := ⟨Int.le_refl _, hx, Int.le_refl _, hy⟩
  unfold polyClassF
  rw [touchF_eq hb hx hy hl, oddF_eq (PR_of_has hb hC) hl, touch_off ho h, odd_off h (off_has ho hC), (boxHas_eq b ⟨b.x0, b.y0⟩).2 hC]
  rfl
theorem poly_no {l : Ctr} {b : B4} (hl : PRC l) (hb : BR b) (hx : b.x0 ≤ b.x1) (hy : b.y0 ≤ b.y1) (h : ∀ i, i < l.n → l.m i = 0) : polyClassF b l = 0 :=
  poly_off (U := ⟨b.x1 + 1, b.y0, b.x1 + 1, b.y1⟩) hl hb hx hy (fun i hi k hk => by rw [h i hi] at hk; omega) (.inr (.inl (by dsimp only; omega)))

/-! ### bounds that are put together -/
structure In4 (a U : B4) : Prop where
  x0 : U.x0 ≤ a.x0
  y0 : U.y0 ≤ a.y0
  x1 : a.x1 ≤ U.x1
  y1 : a.y1 ≤ U.y1
theorem In4.has {a U : B4} {p : P2} (h : In4 a U) (k : hasI a p) : hasI U p := by
  obtain ⟨h1, h2, h3, h4⟩ := h
  unfold hasI at *
  omega
theorem tk_in (f : Bool) (a b : B4) : In4 b (tkF f a b) ∧ (f = true → In4 a (tkF f a b)) := by
  have e1 := imin_le a.x0 b.x0
  have e2 := imin_le a.y0 b.y0
  have e3 := imax_ge a.x1 b.x1
  have e4 := imax_ge a.y1 b.y1
  cases f with
  | false => exact ⟨⟨Int.le_refl _, Int.le_refl _, Int.le_refl _, Int.le_refl _⟩, fun h => by cases h⟩
  | true => exact ⟨⟨e1.2.1, e2.2.1, e3.2.1, e4.2.1⟩, fun _ => ⟨e1.1, e2.1, e3.1, e4.1⟩⟩
theorem tk_fits {f : Bool} {a b : B4} (hb : Fits b) (ha : f = true → Fits a) : Fits (tkF f a b) := by
  cases f with
  | false => exact ⟨hb.x0, hb.x, hb.x1, hb.y0, hb.y, hb.y1⟩
  | true =>
    obtain ⟨a1, a2, a3, a4, a5, a6⟩ := ha rfl
    obtain ⟨b1, b2, b3, b4, b5, b6⟩ := hb
    have e1 := imin_le a.x0 b.x0
    have e2 := imin_le a.y0 b.y0
    have e3 := imax_ge a.x1 b.x1
    have e4 := imax_ge a.y1 b.y1
    unfold tkF
    constructor <;> simp only [cond_true] <;> omega
/-- it has been told, and holds a box -/
def Cov (q : Bool × B4) (b : B4) : Prop := q.1 = true ∧ In4 b q.2
def Gd (q : Bool × B4) : Prop := q.1 = true → Fits q.2
theorem In4.trans {a b c : B4} (h : In4 a b) (k : In4 b c) : In4 a c := ⟨Int.le_trans k.x0 h.x0, Int.le_trans k.y0 h.y0, Int.le_trans h.x1 k.x1, Int.le_trans h.y1 k.y1⟩
theorem cov_tk {q : Bool × B4} (b : B4) : Cov (true, tkF q.1 q.2 b) b ∧ ∀ c, Cov q c → Cov (true, tkF q.1 q.2 b) c :=
  ⟨⟨rfl, (tk_in q.1 q.2 b).1⟩, fun c h => ⟨rfl, h.2.trans ((tk_in q.1 q.2 b).2 h.1)⟩⟩
theorem foldN_keep {g : Nat → Bool × B4 → Bool × B4} {n : Nat} (hg : ∀ i q c, i < n → Cov q c → Cov (g i q) c) {a : Bool × B4} {c : B4} (h : Cov a c) : Cov (foldN g a n) c := by
  induction n with
  | zero => exact h
  | succ n ih => exact hg n _ c (Nat.lt_succ_self n) (ih fun i q c hi => hg i q c (by omega))
theorem foldN_cov {g : Nat → Bool × B4 → Bool × B4} {n : Nat} (hg : ∀ i q c, i < n → Cov q c → Cov (g i q) c) {i : Nat} (hi : i < n) {b : B4} (h : ∀ q, Cov (g i q) b) (a : Bool × B4) : Cov (foldN g a n) b := by
  induction n with
  | zero => omega
  | succ n ih =>
    show Cov (g n (foldN g a n)) b
    by_cases e : i = n
    · subst e; exact h _
    · exact hg n _ b (Nat.lt_succ_self n) (ih (fun i q c hi => hg i q c (by omega)) (by omega))
theorem foldN_gd {g : Nat → Bool × B4 → Bool × B4} {n : Nat} (hg : ∀ i q, i < n → Gd q → Gd (g i q)) {a : Bool × B4} (h : Gd a) : Gd (foldN g a n) := by
  induction n with
  | zero => exact h
  | succ n ih => exact hg n _ (Nat.lt_succ_self n) (ih fun i q hi => hg i q (by omega))
theorem spot_aro {p : P2} (h : PB FF p) : hasI (aroundF p p 0) p := (aro_has h h (by omega) (by omega) h).2 (dist_box (by omega) (by unfold distI; grind))
end Go.Proofs.YthnenjodighlmaaGreat

/-! ## Bnd -/
namespace Go.Proofs.YthnenjodighlmaaGreat
open Go Go.RowKit Sym
set_option maxRecDepth 100000

theorem PB_F {B : Int} (hB : B ≤ FF) {p : P2} (h : PB B p) : PB FF p := by
  obtain ⟨⟨h1, h2⟩, h3, h4⟩ := h
  unfold FF at *
  exact ⟨⟨by omega, by omega⟩, by omega, by omega⟩
theorem PB_R {p : P2} (h : PB FF p) : PR p := near_PR (PB_near (Int.le_refl _) h)
theorem dist_far {a c : P2} (ha : PB FF a) (hc : PB FF c) : distI a c ≤ 2305843009213693952 := by
  obtain ⟨⟨a1, a2⟩, a3, a4⟩ := ha
  obtain ⟨⟨c1, c2⟩, c3, c4⟩ := hc
  unfold FF at *
  have g : ∀ x : Int, -1073741824 ≤ x → x ≤ 1073741824 → x * x ≤ 1152921504606846976 := fun x h1 h2 => by
    rcases Int.le_total 0 x with h | h
    · exact Int.mul_le_mul h2 h2 h (by decide)
    · have := Int.mul_le_mul (show -x ≤ 1073741824 by omega) (show -x ≤ 1073741824 by omega) (by omega) (by decide)
      have e : -x * -x = x * x := by grind
      omega
  have := g (a.x - c.x) (by omega) (by omega)
  have := g (a.y - c.y) (by omega) (by omega)
  unfold distI
  omega
theorem most_far2 {b : B4} {c : P2} (hb : Fits b) (hc : PB FF c) : mostI b c ≤ 4000000000000000000 := by
  rw [most_corner hb.x hb.y]
  obtain ⟨b1, b2, b3, b4, b5, b6⟩ := hb
  have g : ∀ q : P2, PB FF q → distI q c ≤ 2305843009213693952 := fun q hq => dist_far hq hc
  have k1 := g ⟨b.x0, b.y0⟩ ⟨⟨by unfold FF; dsimp only; omega, by unfold FF; dsimp only; omega⟩, by unfold FF; dsimp only; omega, by unfold FF; dsimp only; omega⟩
  have k2 := g ⟨b.x1, b.y0⟩ ⟨⟨by unfold FF; dsimp only; omega, by unfold FF; dsimp only; omega⟩, by unfold FF; dsimp only; omega, by unfold FF; dsimp only; omega⟩
  have k3 := g ⟨b.x0, b.y1⟩ ⟨⟨by unfold FF; dsimp only; omega, by unfold FF; dsimp only; omega⟩, by unfold FF; dsimp only; omega, by unfold FF; dsimp only; omega⟩
  have k4 := g ⟨b.x1, b.y1⟩ ⟨⟨by unfold FF; dsimp only; omega, by unfold FF; dsimp only; omega⟩, by unfold FF; dsimp only; omega, by unfold FF; dsimp only; omega⟩
  omega
theorem bdR_far {s : Sh} (ha : PB FF s.a) (hc : PB FF s.c) (hr : 1 ≤ s.r ∧ s.r ≤ FF) : bdR s = s.r + rupF (distI s.a s.c) := by
  have hd := dist_far ha hc
  have q := rupF_sq (v := distI s.a s.c) (by omega)
  obtain ⟨⟨a1, a2⟩, a3, a4⟩ := ha
  obtain ⟨⟨c1, c2⟩, c3, c4⟩ := hc
  unfold FF at *
  unfold bdR
  have s1 := sq_nn (s.a.x - s.c.x)
  have s2 := sq_nn (s.a.y - s.c.y)
  have e : (s.a.x - s.c.x) * (s.a.x - s.c.x) + (s.a.y - s.c.y) * (s.a.y - s.c.y) = distI s.a s.c := rfl
  rw [W_id (x := s.a.x - s.c.x) (by omega) (by omega), W_id (x := s.a.y - s.c.y) (by omega) (by omega), W_id (x := (s.a.x - s.c.x) * (s.a.x - s.c.x)) (by omega) (by omega), W_id (x := (s.a.y - s.c.y) * (s.a.y - s.c.y)) (by omega) (by omega), e, W_id (x := distI s.a s.c) (by omega) (by omega)]
  exact W_id (by omega) (by omega)
theorem hasN_true {g add : Nat → Bool} : ∀ {n : Nat}, foldN (hasN g add) false n = true → ∃ i, i < n ∧ g i = true ∧ add i = true
  | 0, h => by cases h
  | n + 1, h => by
    have h' : hasN g add n (foldN (hasN g add) false n) = true := h
    unfold hasN at h'
    cases hg : g n with
    | true => rw [hg] at h'; exact ⟨n, Nat.lt_succ_self n, hg, h'⟩
    | false =>
      rw [hg] at h'
      obtain ⟨i, hi, h1, h2⟩ := hasN_true (n := n) h'
      exact ⟨i, by omega, h1, h2⟩

/-! ### the points of contours, one box after the other -/
theorem ctr_keep {l : Ctr} {i : Nat} (q : Bool × B4) (c : B4) (h : Cov q c) : Cov (bdO l i q) c := foldN_keep (g := bdI l i) (fun k q c _ h => (cov_tk _).2 c h) h
theorem ctr_cov {l : Ctr} {P : P2 → Prop} (hP : ∀ p, P p → PB FF p) (h : FinC P l) : InC (foldN (bdO l) bdQ l.n).2 l ∧ ((∃ i k, i < l.n ∧ k < l.m i) → (foldN (bdO l) bdQ l.n).1 = true) := by
  have key : ∀ i k, i < l.n → k < l.m i → Cov (foldN (bdO l) bdQ l.n) (aroundF (l.p i k) (l.p i k) 0) := fun i k hi hk =>
    foldN_cov (g := bdO l) (fun i q c _ h => ctr_keep q c h) hi (fun q => foldN_cov (g := bdI l i) (fun k q c _ h => (cov_tk _).2 c h) hk (fun q => (cov_tk _).1) q) bdQ
  refine ⟨fun i hi k hk => (key i k hi hk).2.has (spot_aro (hP _ ((h.2 i hi).2 k hk))), fun ⟨i, k, hi, hk⟩ => (key i k hi hk).1⟩
theorem ctr_gd {l : Ctr} {P : P2 → Prop} (hP : ∀ p, P p → PB FF p) (h : FinC P l) : Gd (foldN (bdO l) bdQ l.n) :=
  foldN_gd (g := bdO l) (fun i q hi hq => foldN_gd (g := bdI l i) (fun k q hk hq _ => tk_fits (aro_fits (hP _ ((h.2 i hi).2 k hk)) (hP _ ((h.2 i hi).2 k hk)) (by omega) (by omega)) hq) hq) (fun h => by cases h)
theorem ctr_no {l : Ctr} {P : P2 → Prop} (hP : ∀ p, P p → PB FF p) (h : FinC P l) (k : (foldN (bdO l) bdQ l.n).1 = false) : ∀ i, i < l.n → l.m i = 0 := fun i hi => by
  rcases Nat.eq_zero_or_pos (l.m i) with z | z
  · exact z
  · rw [(ctr_cov hP h).2 ⟨i, 0, hi, z⟩] at k; cases k

theorem fine_bnd {B : Int} (hB : B ≤ FF) : ∀ (s : Shp) (d : Int), Fine (PB B) s d → (∀ p, PB FF p → hasF s p = true → (bndF s).2 = true ∧ hasI (bndF s).1 p) ∧ ((bndF s).2 = true → Fits (bndF s).1) := by
  intro s
  induction s with
  | nil => intro d h; exact h.elim
  | mk k a b c r l n add sub ih =>
    intro d h
    rcases h with ⟨rfl, rfl, rfl, rfl, rfl, ha, hr⟩ | ⟨rfl, rfl, rfl, rfl, ha, hb, hr⟩ | ⟨rfl, rfl, rfl, rfl, ha, hb, hr, hab⟩ | ⟨rfl, rfl, rfl, ha, hb, hc, hr, ok⟩ | ⟨rfl, rfl, rfl, rfl, rfl, rfl, hl⟩ | ⟨rfl, rfl, rfl, rfl, rfl, rfl, hd, hn, hs⟩
    · have ha := PB_F hB ha
      have hr := wid_bd hr
      refine ⟨fun p hp h => ⟨rfl, ?_⟩, fun _ => aro_fits ha ha (by omega) (by omega)⟩
      have h' : discHas p a r = true := h
      rw [discHas_eq (PB_R hp) (PB_R ha) hr.1 (by omega), decide_eq_true_eq] at h'
      exact (aro_has ha ha (by omega) (by omega) hp).2 (dist_box (by omega) h')
    · have ha := PB_F hB ha
      have hb := PB_F hB hb
      have hr := wid_bd hr
      refine ⟨fun p hp h => ⟨rfl, ?_⟩, fun _ => aro_fits ha hb (by omega) (by omega)⟩
      have h' : lineHas p a b r = true := h
      rw [lineHas_eq (PB_R hp) (PB_R ha) (PB_R hb) hr.1 (by omega)] at h'
      exact (aro_has ha hb (by omega) (by omega) hp).2 (onS_box (by omega) (lineI_iff.1 h'))
    · have ha := PB_F hB ha
      have hb := PB_F hB hb
      have hr := wid_bd hr
      refine ⟨fun p hp h => ⟨rfl, ?_⟩, fun _ => aro_fits ha hb (by omega) (by omega)⟩
      have h' : barHas p a b r = true := h
      rw [barHas_eq (PB_R hp) (PB_R ha) (PB_R hb) (by omega)] at h'
      exact (aro_has ha hb (by omega) (by omega) hp).2 (onS_box (by omega) (lineI_iff.1 (bar_line h')))
    · have ha := PB_F hB ha
      have hb := PB_F hB hb
      have hc := PB_F hB hc
      have hr := wid_bd hr
      have hd := dist_far ha hc
      have q := rupF_sq (v := distI a c) (by omega)
      have e : (bndF (.mk 5 a b c r zeC 0 add sub)).1 = aroundF c c (r + rupF (distI a c)) := by
        show aroundF c c (bdR ⟨5, a, b, c, r, zeC, 0, noF⟩) = _
        rw [bdR_far (s := ⟨5, a, b, c, r, zeC, 0, noF⟩) ha hc hr]
      rw [e]
      refine ⟨fun p hp h => ⟨rfl, ?_⟩, fun _ => aro_fits hc hc (by omega) (by omega)⟩
      have h' : ringHas p c a b r = true := h
      rw [ringHas_eq (PB_R hp) (PB_R hc) (PB_R ha) (PB_R hb) ok hr.1 (by omega) (by have := dist_far hp hc; omega) (by omega)] at h'
      have := ring_d ok q.1 (by omega) q.2.2 h'
      rw [Int.add_comm] at this
      exact (aro_has hc hc (by omega) (by omega) hp).2 (dist_box (by omega) this)
    · have hP : ∀ p, PB B p → PB FF p := fun p h => PB_F hB h
      have cv := ctr_cov hP hl
      refine ⟨fun p hp h => ?_, fun h => ctr_gd hP hl h⟩
      have h' : polyHasF p l = true := h
      have hC : PRC l := ⟨fun i hi k hk => PB_R (hP _ ((hl.2 i hi).2 k hk))⟩
      refine ⟨?_, poly_has hC (PB_R hp) cv.1 h'⟩
      show (foldN (bdO l) bdQ l.n).1 = true
      cases k : (foldN (bdO l) bdQ l.n).1 with
      | true => rfl
      | false =>
        have z := ctr_no hP hl k
        have := poly_has (U := ⟨p.x + 1, p.y, p.x, p.y⟩) hC (PB_R hp) (fun i hi k hk => by rw [z i hi] at hk; omega) h'
        unfold hasI at this
        dsimp only at this
        omega
    · have keep : ∀ (i : Nat) (q : Bool × B4) (c : B4), i < n → Cov q c → Cov (bif !(add i) then q else bif (bndF (sub i)).2 then (true, tkF q.1 q.2 (bndF (sub i)).1) else q) c := fun i q c _ h => by
        cases add i with
        | false => exact h
        | true =>
          cases (bndF (sub i)).2 with
          | false => exact h
          | true => exact (cov_tk _).2 c h
      refine ⟨fun p hp h => ?_, fun h => ?_⟩
      · have h' : (runN (fun t (_ : Bool) => bif hasF (sub (n - 1 - t)) p then (false, add (n - 1 - t)) else (true, false)) false n).2 = true := h
        rw [has_fold (fun i => hasF (sub i) p) add n] at h'
        obtain ⟨i, hi, h1, h2⟩ := hasN_true h'
        have hi' := (ih i (d + 1) (hs i hi)).1 p hp h1
        have cv := foldN_cov (g := fun i (q : Bool × B4) => bif !(add i) then q else bif (bndF (sub i)).2 then (true, tkF q.1 q.2 (bndF (sub i)).1) else q) keep hi (b := (bndF (sub i)).1) (fun q => by
          rw [h2, hi'.1]
          exact (cov_tk _).1) bdQ
        exact ⟨cv.1, cv.2.has hi'.2⟩
      · refine foldN_gd (g := fun i (q : Bool × B4) => bif !(add i) then q else bif (bndF (sub i)).2 then (true, tkF q.1 q.2 (bndF (sub i)).1) else q) (n := n) (a := bdQ) (fun i q hi hq => ?_) (fun h => by cases h) h
        cases add i with
        | false => exact hq
        | true =>
          cases hk : (bndF (sub i)).2 with
          | false => exact hq
          | true => exact fun _ => tk_fits ((ih i (d + 1) (hs i hi)).2 hk) hq

def kindS : Shp → Int
  | .nil => 0
  | .mk k _ _ _ _ _ _ _ _ => k
theorem Fits_BR {b : B4} (h : Fits b) : BR b := by
  obtain ⟨b1, b2, b3, b4, b5, b6⟩ := h
  exact ⟨⟨by omega, by omega⟩, ⟨by omega, by omega⟩, ⟨by omega, by omega⟩, ⟨by omega, by omega⟩⟩
theorem fine_off {B : Int} (hB : B ≤ FF) {b : B4} (hb : Fits b) : ∀ (s : Shp) (d : Int), Fine (PB B) s d → kindS s ≠ 4 → kindS s ≠ 6 → ((bndF s).2 = true → Off (bndF s).1 b) → classF s b = 0 := by
  intro s d h h4 h6 ho
  cases s with
  | nil => exact h.elim
  | mk k a b' c r l n add sub =>
    have R := Fits_BR hb
    rcases h with ⟨rfl, rfl, rfl, rfl, rfl, ha, hr⟩ | ⟨rfl, rfl, rfl, rfl, ha, hb', hr⟩ | ⟨rfl, rfl, rfl, rfl, ha, hb', hr, hab⟩ | ⟨rfl, rfl, rfl, ha, hb', hc, hr, ok⟩ | ⟨rfl, rfl, rfl, rfl, rfl, rfl, hl⟩ | ⟨rfl, rfl, rfl, rfl, rfl, rfl, hd, hn, hs⟩
    · have ha := PB_F hB ha
      have hr := wid_bd hr
      have o := aro_off ha ha (by omega) (by omega) hb (ho rfl)
      show discClass b a r = 0
      rw [discClass_eq R (PB_R ha) hb.x hb.y hr.1 (by omega), if_pos (near_off hb.x hb.y (by omega) o (.inl rfl))]
    · have ha := PB_F hB ha
      have hb' := PB_F hB hb'
      have hr := wid_bd hr
      have o := aro_off ha hb' (by omega) (by omega) hb (ho rfl)
      show lineClass b a b' r = 0
      rw [lineClass_eq R (PB_R ha) (PB_R hb') hb.x hb.y hr.1 (by omega)]
      exact line_off hb.x hb.y (by omega) o
    · exact absurd rfl h4
    · have ha := PB_F hB ha
      have hb' := PB_F hB hb'
      have hc := PB_F hB hc
      have hr := wid_bd hr
      have hd := dist_far ha hc
      have q := rupF_sq (v := distI a c) (by omega)
      have e : (bndF (.mk 5 a b' c r zeC 0 add sub)).1 = aroundF c c (r + rupF (distI a c)) := by
        show aroundF c c (bdR ⟨5, a, b', c, r, zeC, 0, noF⟩) = _
        rw [bdR_far (s := ⟨5, a, b', c, r, zeC, 0, noF⟩) ha hc hr]
      have ho' := ho rfl
      rw [e] at ho'
      have o := aro_off hc hc (by omega) (by omega) hb ho'
      rw [Int.add_comm] at o
      show ringClass b c a b' r = 0
      rw [ringClass_eq R (PB_R hc) (PB_R ha) (PB_R hb') ok hb.x hb.y hr.1 (by omega) (most_far2 hb hc) (by omega)]
      exact ring_off hb.x hb.y ok q.1 (by omega) q.2.2 o
    · have hP : ∀ p, PB B p → PB FF p := fun p h => PB_F hB h
      have cv := ctr_cov hP hl
      have hC : PRC l := ⟨fun i hi k hk => PB_R (hP _ ((hl.2 i hi).2 k hk))⟩
      show polyClassF b l = 0
      cases k : (foldN (bdO l) bdQ l.n).1 with
      | true => exact poly_off hC R hb.x hb.y cv.1 (ho k)
      | false => exact poly_no hC R hb.x hb.y (ctr_no hP hl k)
    · exact absurd rfl h6
end Go.Proofs.YthnenjodighlmaaGreat

/-! ## Pim -/
namespace Go.Proofs.YthnenjodighlmaaGreat
open Go Go.RowKit Sym
set_option maxRecDepth 100000

/-- q lies in b -/
structure Sb (q b : B4) : Prop where
  fa : b.x0 ≤ q.x0
  x : q.x0 ≤ q.x1
  fb : q.x1 ≤ b.x1
  fc : b.y0 ≤ q.y0
  y : q.y0 ≤ q.y1
  fd : q.y1 ≤ b.y1
theorem Sb.has {q b : B4} (h : Sb q b) {p : P2} (k : hasI q p) : hasI b p := by
  have := h.fa; have := h.fb; have := h.fc; have := h.fd
  obtain ⟨k1, k2, k3, k4⟩ := k
  exact ⟨by omega, by omega, by omega, by omega⟩
theorem Sb.cor {q b : B4} (h : Sb q b) {p : P2} (k : isC q p) : hasI b p := h.has (isC_has h.x h.y k)
theorem Sb.near {q b : B4} (h : Sb q b) (p : P2) : nearI b p ≤ nearI q p := by
  have := h.fa; have := h.fb; have := h.fc; have := h.fd; have := h.x; have := h.y
  have gx : 0 ≤ gapI p.x b.x0 b.x1 ∧ gapI p.x b.x0 b.x1 ≤ gapI p.x q.x0 q.x1 := by unfold gapI; repeat' split <;> omega
  have gy : 0 ≤ gapI p.y b.y0 b.y1 ∧ gapI p.y b.y0 b.y1 ≤ gapI p.y q.y0 q.y1 := by unfold gapI; repeat' split <;> omega
  have := Int.mul_le_mul gx.2 gx.2 gx.1 (by omega)
  have := Int.mul_le_mul gy.2 gy.2 gy.1 (by omega)
  unfold nearI
  omega
theorem Sb.most {q b : B4} (h : Sb q b) (p : P2) : mostI q p ≤ mostI b p := by
  have := h.fa; have := h.fb; have := h.fc; have := h.fd; have := h.x; have := h.y
  have gx : 0 ≤ reachI p.x q.x0 q.x1 ∧ reachI p.x q.x0 q.x1 ≤ reachI p.x b.x0 b.x1 := by unfold reachI; omega
  have gy : 0 ≤ reachI p.y q.y0 q.y1 ∧ reachI p.y q.y0 q.y1 ≤ reachI p.y b.y0 b.y1 := by unfold reachI; omega
  have := Int.mul_le_mul gx.2 gx.2 gx.1 (by omega)
  have := Int.mul_le_mul gy.2 gy.2 gy.1 (by omega)
  unfold mostI
  omega
theorem Sb.pos {q b : B4} (h : Sb q b) {a c : P2} (k : all4 (fun z => decide (crossI a c z > 0)) b = true) : all4 (fun z => decide (crossI a c z > 0)) q = true := by
  rw [all4_iff] at k ⊢
  intro z hz
  obtain ⟨w, hw, hl⟩ := cross_le a c (h.cor hz)
  have := k w hw
  rw [decide_eq_true_eq] at this ⊢; omega
theorem Sb.ge {q b : B4} (h : Sb q b) {a c : P2} (k : all4 (fun z => decide (crossI a c z ≥ 0)) b = true) : all4 (fun z => decide (crossI a c z ≥ 0)) q = true := by
  rw [all4_iff] at k ⊢
  intro z hz
  obtain ⟨w, hw, hl⟩ := cross_le a c (h.cor hz)
  have := k w hw
  rw [decide_eq_true_eq] at this ⊢; omega
theorem Sb.neg {q b : B4} (h : Sb q b) {a c : P2} (k : all4 (fun z => decide (crossI a c z < 0)) b = true) : all4 (fun z => decide (crossI a c z < 0)) q = true := by
  rw [all4_iff] at k ⊢
  intro z hz
  obtain ⟨w, hw, hl⟩ := cross_ge a c (h.cor hz)
  have := k w hw
  rw [decide_eq_true_eq] at this ⊢; omega
theorem Sb.ge2 {q b : B4} (h : Sb q b) {a c : P2} (k : all4 (fun z => decide (crossI a z c ≥ 0)) b = true) : all4 (fun z => decide (crossI a z c ≥ 0)) q = true := by
  rw [all4_iff] at k ⊢
  intro z hz
  obtain ⟨w, hw, hl⟩ := cross_ge a c (h.cor hz)
  have := k w hw
  rw [decide_eq_true_eq] at this ⊢
  have e1 := cross_sw a c z
  have e2 := cross_sw a c w
  omega
theorem Sb.neg2 {q b : B4} (h : Sb q b) {a c : P2} (k : all4 (fun z => decide (crossI a z c < 0)) b = true) : all4 (fun z => decide (crossI a z c < 0)) q = true := by
  rw [all4_iff] at k ⊢
  intro z hz
  obtain ⟨w, hw, hl⟩ := cross_le a c (h.cor hz)
  have := k w hw
  rw [decide_eq_true_eq] at this ⊢
  have e1 := cross_sw a c z
  have e2 := cross_sw a c w
  omega
theorem Sb.meets {q b : B4} (h : Sb q b) {a c : P2} (k : meetsI q a c = true) : meetsI b a c = true := by
  have := h.fa; have := h.fb; have := h.fc; have := h.fd; have := h.x; have := h.y
  unfold meetsI at k ⊢
  simp only [Bool.and_eq_true, Bool.not_eq_true'] at k ⊢
  obtain ⟨k1, k2, k3⟩ := k
  refine ⟨?_, ?_, ?_⟩
  · unfold sepI at k1 ⊢
    simp only [Bool.or_eq_false_iff, decide_eq_false_iff_not] at k1 ⊢
    omega
  · cases e : all4 (fun z => decide (crossI a c z > 0)) b
    · rfl
    · rw [h.pos e] at k2; cases k2
  · cases e : all4 (fun z => decide (crossI a c z < 0)) b
    · rfl
    · rw [h.neg e] at k3; cases k3
/-- a class, and that of a smaller box -/
structure Ref (k j : Int) : Prop where
  k0 : 0 ≤ k
  k2 : k ≤ 2
  j0 : 0 ≤ j
  j2 : j ≤ 2
  e : k ≠ 1 → j = k
theorem Ref.of {k j : Int} (hk : k = 0 ∨ k = 1 ∨ k = 2) (hj : j = 0 ∨ j = 1 ∨ j = 2) (h2 : k = 2 → j = 2) (h0 : k = 0 → j = 0) : Ref k j := ⟨by omega, by omega, by omega, by omega, fun h => by omega⟩
theorem Ref.fold {k j m n : Int} (h : Ref k j) (g : Ref m n) (add : Bool) : Ref (foldF k m add) (foldF j n add) := by
  obtain ⟨h1, h2, h3, h4, h5⟩ := h
  obtain ⟨g1, g2, g3, g4, g5⟩ := g
  have a : (k = 0 ∧ j = 0) ∨ (k = 2 ∧ j = 2) ∨ (k = 1 ∧ (j = 0 ∨ j = 1 ∨ j = 2)) := by omega
  have b : (m = 0 ∧ n = 0) ∨ (m = 2 ∧ n = 2) ∨ (m = 1 ∧ (n = 0 ∨ n = 1 ∨ n = 2)) := by omega
  rcases a with ⟨rfl, rfl⟩ | ⟨rfl, rfl⟩ | ⟨rfl, rfl | rfl | rfl⟩ <;> rcases b with ⟨rfl, rfl⟩ | ⟨rfl, rfl⟩ | ⟨rfl, rfl | rfl | rfl⟩ <;> cases add <;> exact ⟨by decide, by decide, by decide, by decide, by decide⟩
theorem ref_disc {q b : B4} (h : Sb q b) (hb : BR b) (hq : BR q) {c : P2} (hc : PR c) {r : Int} (h1 : 1 ≤ r) (h2 : r ≤ 2147483648) : Ref (discClass b c r) (discClass q c r) := by
  have := h.fa; have := h.fb; have := h.fc; have := h.fd; have := h.x; have := h.y
  rw [discClass_eq hb hc (by omega) (by omega) h1 h2, discClass_eq hq hc h.x h.y h1 h2]
  have n := h.near c
  have m := h.most c
  have nm := near_most (p := c) h.x h.y
  constructor <;> repeat' split <;> omega
theorem ref_line {q b : B4} (h : Sb q b) (hb : BR b) (hq : BR q) {a c : P2} (ha : PR a) (hc : PR c) {r : Int} (h1 : 1 ≤ r) (h2 : r ≤ 2147483648) : Ref (lineClass b a c r) (lineClass q a c r) := by
  have := h.fa; have := h.fb; have := h.fc; have := h.fd; have := h.x; have := h.y
  rw [lineClass_eq hb ha hc (by omega) (by omega) h1 h2, lineClass_eq hq ha hc h.x h.y h1 h2]
  refine Ref.of (lineCl_012 _ _ _ _) (lineCl_012 _ _ _ _) (fun k => ?_) (fun k => ?_)
  · rw [lineCl_two] at k ⊢
    rw [all4_iff]
    intro z hz
    exact line_in (h.cor hz) k
  · rcases lineCl_012 q a c r with e | e
    · exact e
    · exfalso
      have hit : lineCl q a c r ≠ 0 := by omega
      rw [lineCl_hit] at hit
      have nb : ¬ (any4 (fun z => lineI z a c r) b = true ∨ nearI b a ≤ r * r ∨ nearI b c ≤ r * r ∨ meetsI b a c = true) := fun x => (lineCl_hit.2 x) k
      rcases hit with x | x | x | x
      · obtain ⟨z, hz, hi⟩ := any4_iff.1 x
        exact hit_of (by omega) (by omega) (h.cor hz) hi k
      · exact nb (.inr (.inl (by have := h.near a; omega)))
      · exact nb (.inr (.inr (.inl (by have := h.near c; omega))))
      · exact nb (.inr (.inr (.inr (h.meets x))))
theorem ref_bar {q b : B4} (h : Sb q b) (hb : BR b) (hq : BR q) {a c : P2} (ha : PR a) (hc : PR c) {r : Int} (h2 : r ≤ 2147483648) : Ref (barClass b a c r) (barClass q a c r) := by
  have := h.fa; have := h.fb; have := h.fc; have := h.fd; have := h.x; have := h.y
  rw [barClass_eq hb ha hc (by omega) (by omega) h2, barClass_eq hq ha hc h.x h.y h2]
  refine Ref.of (barCl_012 _ _ _ _) (barCl_012 _ _ _ _) (fun k => ?_) (fun k => ?_)
  · rw [barCl_two] at k ⊢
    refine ⟨k.1, ?_⟩
    rw [all4_iff]
    intro z hz
    exact bar_in (h.cor hz) k.2
  · by_cases v : r < 1 ∨ same a c
    · unfold barCl; rw [if_pos v]
    · have out : ∀ z, isC q z → barI z a c r = false := fun z hz => bar_out (h.cor hz) k
      have n2 : all4 (fun z => barI z a c r) q = false := by
        cases e : all4 (fun z => barI z a c r) q
        · rfl
        · have := all4_iff.1 e ⟨q.x0, q.y0⟩ ⟨.inl rfl, .inl rfl⟩
          rw [out _ ⟨.inl rfl, .inl rfl⟩] at this; cases this
      unfold barCl at k ⊢
      rw [if_neg v] at k ⊢
      have k2 : all4 (fun z => barI z a c r) b = false := by
        cases e : all4 (fun z => barI z a c r) b
        · rfl
        · rw [if_pos e] at k; cases k
      rw [k2] at k
      simp only [Bool.false_eq_true, if_false] at k
      rw [n2]
      simp only [Bool.false_eq_true, if_false]
      have k3 : (all4 (rightI a c r) b || all4 (leftI a c r) b || all4 (fun z => decide (dotI a c z < 0)) b || all4 (fun z => decide (dotI a c z > distI a c)) b) = true := by
        cases e : (all4 (rightI a c r) b || all4 (leftI a c r) b || all4 (fun z => decide (dotI a c z < 0)) b || all4 (fun z => decide (dotI a c z > distI a c)) b)
        · rw [e] at k; cases k
        · rfl
      rw [if_pos]
      simp only [Bool.or_eq_true, all4_iff] at k3 ⊢
      rcases k3 with ((k3 | k3) | k3) | k3
      · refine .inl (.inl (.inl fun z hz => ?_))
        obtain ⟨w, hw, hl⟩ := cross_ge a c (h.cor hz)
        have e := k3 w hw
        unfold rightI clear at e ⊢
        simp only [Bool.and_eq_true, Bool.not_eq_true', decide_eq_false_iff_not] at e ⊢
        have t := sq_le (x := -crossI a c w) (y := -crossI a c z) (by omega) (by omega)
        have e1 : -crossI a c w * -crossI a c w = crossI a c w * crossI a c w := by grind
        have e2 : -crossI a c z * -crossI a c z = crossI a c z * crossI a c z := by grind
        omega
      · refine .inl (.inl (.inr fun z hz => ?_))
        obtain ⟨w, hw, hl⟩ := cross_le a c (h.cor hz)
        have e := k3 w hw
        unfold leftI clear at e ⊢
        simp only [Bool.and_eq_true, Bool.not_eq_true', decide_eq_false_iff_not, decide_eq_true_eq] at e ⊢
        have t := sq_le (x := crossI a c w) (y := crossI a c z) (by omega) (by omega)
        omega
      · refine .inl (.inr fun z hz => ?_)
        obtain ⟨w, hw, hl⟩ := dot_ge a c (h.cor hz)
        have e := k3 w hw
        simp only [decide_eq_true_eq] at e ⊢; omega
      · refine .inr fun z hz => ?_
        obtain ⟨w, hw, hl⟩ := dot_le a c (h.cor hz)
        have e := k3 w hw
        simp only [decide_eq_true_eq] at e ⊢; omega
theorem Sb.liIn {q b : B4} (h : Sb q b) {c a e : P2} (k : liIn b c a e = true) : liIn q c a e = true := by
  unfold Go.Proofs.YthnenjodighlmaaGreat.liIn at k ⊢
  cases s : decide (same a e)
  · rw [s] at k
    simp only [Bool.false_or] at k ⊢
    split at k
    · rename_i g
      rw [if_pos g]
      rw [Bool.or_eq_true] at k ⊢
      exact k.imp h.ge h.ge2
    · rename_i g
      rw [if_neg g]
      rw [Bool.and_eq_true] at k ⊢
      exact ⟨h.ge k.1, h.ge2 k.2⟩
  · rfl
theorem Sb.liOff {q b : B4} (h : Sb q b) {c a e : P2} (k : liOff b c a e = true) : liOff q c a e = true := by
  unfold Go.Proofs.YthnenjodighlmaaGreat.liOff at k ⊢
  rw [Bool.and_eq_true] at k ⊢
  refine ⟨k.1, ?_⟩
  have k := k.2
  split at k
  · rename_i g
    rw [if_pos g]
    rw [Bool.and_eq_true] at k ⊢
    exact ⟨h.neg k.1, h.neg2 k.2⟩
  · rename_i g
    rw [if_neg g]
    rw [Bool.or_eq_true] at k ⊢
    exact k.imp h.neg h.neg2
theorem ref_ring {q b : B4} (h : Sb q b) (hb : BR b) (hq : BR q) {c a e : P2} (hc : PR c) (ha : PR a) (he : PR e) (ok : okI c a e) {r : Int} (h4 : 1 ≤ r) (h5 : r ≤ 1073741824) (hd : mostI b c ≤ 4000000000000000000) (hr : distI a c ≤ 4000000000000000000) : Ref (ringClass b c a e r) (ringClass q c a e r) := by
  have := h.fa; have := h.fb; have := h.fc; have := h.fd; have := h.x; have := h.y
  have mc := h.most c
  have nc := h.near c
  have ma := h.most a
  have na := h.near a
  have me := h.most e
  have ne := h.near e
  have nm := near_most (p := c) h.x h.y
  have nma := near_most (p := a) h.x h.y
  have nme := near_most (p := e) h.x h.y
  rw [ringClass_eq hb hc ha he ok (by omega) (by omega) h4 h5 hd hr, ringClass_eq hq hc ha he ok h.x h.y h4 h5 (by omega) hr]
  have o1 : outI (nearI b c) (distI a c) r = true → outI (nearI q c) (distI a c) r = true := outI_mono nc
  have o2 : outI (mostI q c) (distI a c) r = true → outI (mostI b c) (distI a c) r = true := outI_mono mc
  have o3 : outI (nearI q c) (distI a c) r = true → outI (mostI q c) (distI a c) r = true := outI_mono nm
  have i1 : insI (mostI b c) (distI a c) r = true → insI (mostI q c) (distI a c) r = true := insI_mono mc
  have i2 : insI (nearI q c) (distI a c) r = true → insI (nearI b c) (distI a c) r = true := insI_mono nc
  have i3 : insI (mostI q c) (distI a c) r = true → insI (nearI q c) (distI a c) r = true := insI_mono nm
  have l1 : liIn b c a e = true → liIn q c a e = true := h.liIn
  have l2 : liOff b c a e = true → liOff q c a e = true := h.liOff
  have l3 : liOff q c a e = true → liIn q c a e = true → False := fun u v => by
    have k1 := liOff_has (q := ⟨q.x0, q.y0⟩) ⟨Int.le_refl _, h.x, Int.le_refl _, h.y⟩ u
    have k2 := liIn_has (q := ⟨q.x0, q.y0⟩) ⟨Int.le_refl _, h.x, Int.le_refl _, h.y⟩ v
    rw [k1] at k2; cases k2
  refine Ref.of (ringCl_012 _ _ _ _ _) (ringCl_012 _ _ _ _ _) (fun k => ?_) (fun k => ?_)
  · unfold ringCl at k ⊢
    by_cases m1 : mostI b a ≤ r * r ∨ mostI b e ≤ r * r
    · rw [if_pos (by omega)]
    · rw [if_neg m1] at k
      by_cases m2 : (liIn b c a e && outI (nearI b c) (distI a c) r && insI (mostI b c) (distI a c) r) = true
      · simp only [Bool.and_eq_true] at m2
        have q2 : (liIn q c a e && outI (nearI q c) (distI a c) r && insI (mostI q c) (distI a c) r) = true := by
          simp only [Bool.and_eq_true]
          exact ⟨⟨l1 m2.1.1, o1 m2.1.2⟩, i1 m2.2⟩
        rw [if_pos q2]
        split <;> rfl
      · rw [if_neg m2] at k
        split at k
        · cases k
        · split at k <;> cases k
  · unfold ringCl at k ⊢
    by_cases m1 : mostI b a ≤ r * r ∨ mostI b e ≤ r * r
    · rw [if_pos m1] at k; cases k
    · rw [if_neg m1] at k
      by_cases m2 : (liIn b c a e && outI (nearI b c) (distI a c) r && insI (mostI b c) (distI a c) r) = true
      · rw [if_pos m2] at k; cases k
      · rw [if_neg m2] at k
        by_cases m3 : nearI b a ≤ r * r ∨ nearI b e ≤ r * r
        · rw [if_pos m3] at k; cases k
        · rw [if_neg m3] at k
          by_cases m4 : (liOff b c a e || !(insI (nearI b c) (distI a c) r) || !(outI (mostI b c) (distI a c) r)) = true
          · simp only [Bool.or_eq_true, Bool.not_eq_true'] at m4
            rw [if_neg (by omega), if_neg, if_neg (by omega), if_pos]
            · simp only [Bool.or_eq_true, Bool.not_eq_true']
              rcases m4 with (m4 | m4) | m4
              · exact .inl (.inl (l2 m4))
              · refine .inl (.inr ?_)
                cases x : insI (nearI q c) (distI a c) r
                · rfl
                · rw [i2 x] at m4; cases m4
              · refine .inr ?_
                cases x : outI (mostI q c) (distI a c) r
                · rfl
                · rw [o2 x] at m4; cases m4
            · intro x
              simp only [Bool.and_eq_true] at x
              obtain ⟨⟨x1, x2⟩, x3⟩ := x
              rcases m4 with (m4 | m4) | m4
              · exact l3 (l2 m4) x1
              · rw [i2 (i3 x3)] at m4; cases m4
              · rw [o2 (o3 x2)] at m4; cases m4
          · rw [if_neg m4] at k; cases k
theorem ref_poly {q b : B4} (h : Sb q b) (hb : BR b) (hq : BR q) {l : Ctr} (hl : PRC l) : Ref (polyClassF b l) (polyClassF q l) := by
  have := h.fa; have := h.fb; have := h.fc; have := h.fd; have := h.x; have := h.y
  have hC : hasI q ⟨q.x0, q.y0⟩ := ⟨Int.le_refl _, h.x, Int.le_refl _, h.y⟩
  have tq : touchI q l = true → touchI b l = true := fun t => by
    unfold touchI at t ⊢
    rw [anyN_iff] at t ⊢
    obtain ⟨i, hi, t⟩ := t
    refine ⟨i, hi, ?_⟩
    rw [anyN_iff] at t ⊢
    obtain ⟨k, hk, t⟩ := t
    exact ⟨k, hk, h.meets t⟩
  have v : ∀ b : B4, polyClassF b l = 0 ∨ polyClassF b l = 1 ∨ polyClassF b l = 2 := fun b => by
    unfold polyClassF
    cases touchF b l
    · cases andB (boxHas b ⟨b.x0, b.y0⟩) (oddF ⟨b.x0, b.y0⟩ l) <;> simp
    · simp
  have s1 := polyClass_sure (q := ⟨q.x0, q.y0⟩) hb (by omega) (by omega) hl (h.has hC)
  have s2 := polyClass_sure (q := ⟨q.x0, q.y0⟩) hq h.x h.y hl hC
  have no : polyClassF b l ≠ 1 → polyClassF q l ≠ 1 := fun n1 n2 => by
    have e1 : touchI b l = false := by
      cases t : touchI b l
      · rfl
      · exfalso
        apply n1
        unfold polyClassF
        rw [touchF_eq hb (by omega) (by omega) hl, t]; rfl
    have e2 : touchI q l = true := by
      unfold polyClassF at n2
      rw [touchF_eq hq h.x h.y hl] at n2
      cases t : touchI q l
      · rw [t] at n2
        exfalso
        revert n2
        show ¬ (bif andB (boxHas q ⟨q.x0, q.y0⟩) (oddF ⟨q.x0, q.y0⟩ l) then (2 : Int) else 0) = 1
        cases andB (boxHas q ⟨q.x0, q.y0⟩) (oddF ⟨q.x0, q.y0⟩ l) <;> simp
      · rfl
    rw [tq e2] at e1; cases e1
  refine Ref.of (v b) (v q) (fun k => ?_) (fun k => ?_)
  · rcases s2 with ⟨e, f⟩ | e | ⟨e, f⟩
    · rcases s1 with ⟨e', f'⟩ | e' | ⟨e', f'⟩
      · omega
      · omega
      · rw [f] at f'; cases f'
    · exact absurd e (no (by omega))
    · exact e
  · rcases s2 with ⟨e, f⟩ | e | ⟨e, f⟩
    · exact e
    · exact absurd e (no (by omega))
    · rcases s1 with ⟨e', f'⟩ | e' | ⟨e', f'⟩
      · rw [f] at f'; cases f'
      · omega
      · omega
theorem fitsBR {b : B4} (hb : Fits b) : BR b := ⟨⟨by have := hb.x0; omega, by have := hb.x; have := hb.x1; omega⟩, ⟨by have := hb.y0; omega, by have := hb.y; have := hb.y1; omega⟩, ⟨by have := hb.x0; have := hb.x; omega, by have := hb.x1; omega⟩, ⟨by have := hb.y0; have := hb.y; omega, by have := hb.y1; omega⟩⟩
theorem ref_fold (c d : Nat → Int) (add : Nat → Bool) : ∀ n, (∀ i, i < n → Ref (c i) (d i)) → Ref (foldN (fun i acc => foldF acc (c i) (add i)) 0 n) (foldN (fun i acc => foldF acc (d i) (add i)) 0 n)
  | 0, _ => (⟨by decide, by decide, by decide, by decide, fun _ => rfl⟩ : Ref 0 0)
  | n + 1, h => (ref_fold c d add n fun i hi => h i (by omega)).fold (h n (by omega)) (add n)
theorem ref_shape (sm : Bool) {q b : B4} (h : Sb q b) (hb : Fits b) (hq : Fits q) : ∀ (s : Shp) (d : Int), Ref (classF (tameS s sm d) b) (classF (tameS s sm d) q) := by
  have bb : BR b := fitsBR hb
  have bq : BR q := fitsBR hq
  intro s
  induction s with
  | nil => intro d; exact (⟨by decide, by decide, by decide, by decide, fun _ => rfl⟩ : Ref 0 0)
  | mk k a b' c r l n add sub ih =>
    intro d
    have kk := tmKk_bd ⟨k, a, b', c, r, l, n, noF⟩ d
    have kb := tmB_ok ⟨k, a, b', c, r, l, n, noF⟩ sm
    have kr := wid_bd (tmR_ok ⟨k, a, b', c, r, l, n, noF⟩ sm)
    have ka := PB_PR (at_PB a sm)
    simp only [tameS]
    generalize tmKk ⟨k, a, b', c, r, l, n, noF⟩ d = K at *
    have : K = 1 ∨ K = 2 ∨ K = 3 ∨ K = 4 ∨ K = 5 ∨ K = 6 := by omega
    rcases this with rfl | rfl | rfl | rfl | rfl | rfl
    · exact ref_disc h bb bq ka kr.1 (by omega)
    · exact ref_poly h bb bq (tameC_r l sm)
    · exact ref_line h bb bq ka (PB_PR kb.1) kr.1 (by omega)
    · exact ref_bar h bb bq ka (PB_PR kb.1) (by omega)
    · obtain ⟨f1, f2, f3, f4⟩ := arc_facts c (band a.x 65535) b'.x sm
      obtain ⟨g1, g2, g3, g4⟩ := arc_facts c (band a.y 65535) b'.x sm
      have cr := arcC_r c sm
      exact ref_ring h bb bq ⟨⟨by omega, by omega⟩, ⟨by omega, by omega⟩⟩ f1 g1 (arc_okI c _ _ _ sm) kr.1 (by omega) (by have := most_far hb.x0 hb.x hb.x1 hb.y0 hb.y hb.y1 cr; omega) (by rw [f2]; omega)
    · exact ref_fold (fun i => classF (tameS (sub i) sm (W (d + 1))) b) (fun i => classF (tameS (sub i) sm (W (d + 1))) q) add _ fun i _ => ih i _
end Go.Proofs.YthnenjodighlmaaGreat

/-! ## Rpo -/
namespace Go.Proofs.YthnenjodighlmaaGreat
open Go Go.RowKit Sym
set_option maxRecDepth 100000

theorem Off.sub {a U b : B4} (h : In4 a U) (k : Off U b) : Off a b := by
  obtain ⟨h1, h2, h3, h4⟩ := h
  unfold Off at *
  omega
/-- a class -/
def R3 (x : Int) : Prop := 0 ≤ x ∧ x ≤ 2
theorem r0 : R3 0 := by unfold R3; omega
theorem r1 : R3 1 := by unfold R3; omega
theorem r2 : R3 2 := by unfold R3; omega
theorem b3 {c : Bool} {x y : Int} (hx : R3 x) (hy : R3 y) : R3 (bif c then x else y) := by
  cases c
  · exact hy
  · exact hx
theorem R3.cases {x : Int} (h : R3 x) : x = 0 ∨ x = 1 ∨ x = 2 := by unfold R3 at h; omega
theorem fold3 {was cls : Int} {add : Bool} (h : R3 was) : R3 (foldF was cls add) := b3 r1 (b3 h (b3 r2 (b3 r0 (b3 r2 (b3 r0 r1)))))
theorem folds3 (c : Nat → Int) (add : Nat → Bool) : ∀ n, R3 (foldN (fun i acc => foldF acc (c i) (add i)) 0 n)
  | 0 => r0
  | n + 1 => fold3 (folds3 c add n)
theorem disc3 (b : B4) (c : P2) (r : Int) : R3 (discClass b c r) := b3 r0 (b3 r0 (b3 r2 r1))
theorem line3 (b : B4) (a c : P2) (r : Int) : R3 (lineClass b a c r) := b3 r0 (b3 r2 (b3 r1 r0))
theorem bar3 (b : B4) (a c : P2) (r : Int) : R3 (barClass b a c r) := b3 r0 (b3 r2 (b3 r2 (b3 r0 r1)))
theorem ring3 (b : B4) (c a e : P2) (r : Int) : R3 (ringClass b c a e r) := b3 r0 (b3 r2 (b3 r2 (b3 r2 (b3 r1 (b3 r0 r1)))))
theorem poly3 (b : B4) (l : Ctr) : R3 (polyClassF b l) := b3 r1 (b3 r2 r0)
theorem cls3 (b : B4) (s : Shp) : R3 (classF s b) := by
  cases s with
  | nil => exact r0
  | mk k a b' c r l n add sub => exact b3 (disc3 _ _ _) (b3 (poly3 _ _) (b3 (line3 _ _ _ _) (b3 (bar3 _ _ _ _) (b3 (ring3 _ _ _ _ _) (folds3 _ _ _)))))
theorem foldF_0 {c : Int} (h : R3 c) (add : Bool) : foldF c 0 add = c := by rcases h.cases with rfl | rfl | rfl <;> cases add <;> rfl
theorem foldF_out {c : Int} (h : R3 c) : foldF 0 c false = 0 := by rcases h.cases with rfl | rfl | rfl <;> rfl
theorem cls_zero {n : Nat} {add : Nat → Bool} {c : Nat → Int} (hc : ∀ i, R3 (c i)) (h : ∀ i, i < n → add i = true → c i = 0) : foldN (fun i acc => foldF acc (c i) (add i)) 0 n = 0 := by
  induction n with
  | zero => rfl
  | succ n ih =>
    show foldF (foldN (fun i acc => foldF acc (c i) (add i)) 0 n) (c n) (add n) = 0
    rw [ih fun i hi => h i (by omega)]
    cases ha : add n with
    | false => exact foldF_out (hc n)
    | true => rw [h n (by omega) ha]; rfl
theorem hb6 {n : Nat} {a b c : P2} {r : Int} {l : Ctr} {add : Nat → Bool} {sub : Nat → Shp} (h : hbF (.mk 6 a b c r l n add sub) = false) : ∀ i, i < n → hbF (sub i) = false := fun i hi => by
  have h' : (!((runN (fun i (_ : Unit) => (!(hbF (sub i)), ())) () n).1)) = false := h
  have h2 : (runN (fun i (_ : Unit) => (!(hbF (sub i)), ())) () n).1 = true := by simpa using h'
  obtain ⟨_, _, k⟩ := runN_all h2 i hi
  simpa using k
def bnG (add : Nat → Bool) (sub : Nat → Shp) (i : Nat) (q : Bool × B4) : Bool × B4 := bif !(add i) then q else bif (bndF (sub i)).2 then (true, tkF q.1 q.2 (bndF (sub i)).1) else q
theorem bn6 (a b c : P2) (r : Int) (l : Ctr) (n : Nat) (add : Nat → Bool) (sub : Nat → Shp) : bndF (.mk 6 a b c r l n add sub) = ((foldN (bnG add sub) (foldN (bdO l) bdQ l.n) n).2, (foldN (bnG add sub) (foldN (bdO l) bdQ l.n) n).1) := rfl
theorem bn_cov {a b c : P2} {r : Int} {l : Ctr} {n : Nat} {add : Nat → Bool} {sub : Nat → Shp} {i : Nat} (hi : i < n) (ha : add i = true) (hb : (bndF (sub i)).2 = true) : (bndF (.mk 6 a b c r l n add sub)).2 = true ∧ In4 (bndF (sub i)).1 (bndF (.mk 6 a b c r l n add sub)).1 := by
  rw [bn6]
  exact foldN_cov (g := bnG add sub) (fun j q c' _ hc => by
    unfold bnG
    cases add j with
    | false => exact hc
    | true =>
      cases hk : (bndF (sub j)).2 with
      | false => exact hc
      | true => exact (cov_tk _).2 c' hc) hi (fun q => by
    unfold bnG
    rw [ha, hb]
    exact (cov_tk _).1) _
theorem fine6 {P : P2 → Prop} {a b c : P2} {r : Int} {l : Ctr} {n : Nat} {add : Nat → Bool} {sub : Nat → Shp} {d : Int} (h : Fine P (.mk 6 a b c r l n add sub) d) : ∀ i, i < n → Fine P (sub i) (d + 1) := by
  rcases h with ⟨h, _⟩ | ⟨h, _⟩ | ⟨h, _⟩ | ⟨h, _⟩ | ⟨h, _⟩ | ⟨_, _, _, _, _, _, _, _, hs⟩
  · cases h
  · cases h
  · cases h
  · cases h
  · cases h
  · exact hs
/-- without bars, off its bounds: Out -/
theorem free_off {B : Int} (hB : B ≤ FF) {b : B4} (hb : Fits b) : ∀ (s : Shp) (d : Int), Fine (PB B) s d → hbF s = false → ((bndF s).2 = true → Off (bndF s).1 b) → classF s b = 0 := by
  intro s
  induction s with
  | nil => intro d h; exact h.elim
  | mk k a b' c r l n add sub ih =>
    intro d h hh ho
    by_cases h4 : k = 4
    · subst h4; cases hh
    · by_cases h6 : k = 6
      · subst h6
        have hs := fine6 h
        have h6 := hb6 hh
        show foldN (fun i acc => foldF acc (classF (sub i) b) (add i)) 0 n = 0
        exact cls_zero (fun i => cls3 b (sub i)) fun i hi ha => ih i (d + 1) (hs i hi) (h6 i hi) fun h2 => by
          have := bn_cov (a := a) (b := b') (c := c) (r := r) (l := l) (n := n) hi ha h2
          exact (ho this.1).sub this.2
      · exact fine_off hB hb _ d h h4 h6 ho
/-- without bounds: Out everywhere -/
theorem none_off {B : Int} (hB : B ≤ FF) {b : B4} (hb : Fits b) : ∀ (s : Shp) (d : Int), Fine (PB B) s d → (bndF s).2 = false → classF s b = 0 := by
  intro s
  induction s with
  | nil => intro d h; exact h.elim
  | mk k a b' c r l n add sub ih =>
    intro d h ho
    by_cases h4 : k = 4
    · subst h4; cases ho
    · by_cases h6 : k = 6
      · subst h6
        have hs := fine6 h
        show foldN (fun i acc => foldF acc (classF (sub i) b) (add i)) 0 n = 0
        exact cls_zero (fun i => cls3 b (sub i)) fun i hi ha => ih i (d + 1) (hs i hi) (by
          cases h2 : (bndF (sub i)).2 with
          | false => rfl
          | true => rw [(bn_cov (a := a) (b := b') (c := c) (r := r) (l := l) (n := n) hi ha h2).1] at ho; cases ho)
      · exact fine_off hB hb _ d h h4 h6 fun h => by rw [h] at ho; cases ho
/-- objects such as may be -/
structure GoodO (s : Shp) : Prop where
  ref : ∀ i, i < nuO s → ∀ b q, Sb q b → Fits b → Fits q → Ref (figClassC (suO s i) b) (figClassC (suO s i) q)
  rch : ∀ i, i < nuO s → (figBndC (suO s i)).2 = false → ∀ b, Fits b → figClassC (suO s i) b = 0
  near : ∀ i, i < nuO s → hbF (suO s i) = false → ∀ b, Fits b → apart (figBndC (suO s i)).1 b = true → ∀ q, Sb q b → Fits q → figClassC (suO s i) q = 0
theorem GoodO.fil {s : Shp} (h : GoodO s) (keep : Nat → Bool) : GoodO (filL keep s) :=
  ⟨fun _ hi => h.ref _ (kIx_lt keep hi).1, fun _ hi => h.rch _ (kIx_lt keep hi).1, fun _ hi => h.near _ (kIx_lt keep hi).1⟩
theorem fold_drop {n : Nat} {keep add : Nat → Bool} {c : Nat → Int} (h : ∀ i, i < n → keep i = false → c i = 0) : foldN (fun i acc => bif keep i then foldF acc (c i) (add i) else acc) 0 n = foldN (fun i acc => foldF acc (c i) (add i)) 0 n := by
  induction n with
  | zero => rfl
  | succ n ih =>
    show (bif keep n then foldF (foldN (fun i acc => bif keep i then foldF acc (c i) (add i) else acc) 0 n) (c n) (add n) else foldN (fun i acc => bif keep i then foldF acc (c i) (add i) else acc) 0 n) = foldF (foldN (fun i acc => foldF acc (c i) (add i)) 0 n) (c n) (add n)
    rw [ih fun i hi => h i (by omega)]
    cases hk : keep n with
    | true => rfl
    | false => rw [h n (by omega) hk, foldF_0 (folds3 c add n)]; rfl
theorem reach_cls {s : Shp} (h : GoodO s) {b : B4} (hb : Fits b) : pClassC (reachF s) b = pClassC s b := by
  unfold reachF
  rw [pClass_fil]
  exact fold_drop fun i hi hk => h.rch i hi hk b hb
theorem near_cls {s : Shp} (h : GoodO s) {b q : B4} (hb : Fits b) (hq : Fits q) (hs : Sb q b) : pClassC (nearG s b) q = pClassC s q := by
  unfold nearG
  rw [pClass_fil]
  exact fold_drop fun i hi hk => by
    unfold nearK at hk
    cases hh : hbF (suO s i) with
    | true => rw [hh] at hk; cases hk
    | false =>
      rw [hh] at hk
      exact h.near i hi hh b hb (by simpa using hk) q hs hq
theorem apart_off {U b : B4} (hU : Fits U) (hb : Fits b) (h : apart U b = true) : Off U b := by
  have e1 : emptyBx U = false := by
    unfold emptyBx; rw [decide_eq_false (by have := hU.x; omega), decide_eq_false (by have := hU.y; omega)]; rfl
  have e2 : emptyBx b = false := by
    unfold emptyBx; rw [decide_eq_false (by have := hb.x; omega), decide_eq_false (by have := hb.y; omega)]; rfl
  unfold apart at h
  rw [e1, e2] at h
  unfold Off
  by_cases h1 : U.x1 < b.x0
  · exact .inl h1
  · by_cases h2 : b.x1 < U.x0
    · exact .inr (.inl h2)
    · by_cases h3 : U.y1 < b.y0
      · exact .inr (.inr (.inl h3))
      · by_cases h4 : b.y1 < U.y0
        · exact .inr (.inr (.inr h4))
        · rw [decide_eq_false h1, decide_eq_false h2, decide_eq_false h3, decide_eq_false h4] at h
          cases h
theorem Off.box {U b q : B4} (h : Sb q b) (k : Off U b) : Off U q := by
  obtain ⟨h1, h2, h3, h4, h5, h6⟩ := h
  unfold Off at *
  omega
theorem tame_good (s : Shp) (sm : Bool) (hB : ShB s) : GoodO (tame21 s sm) := by
  cases s with
  | nil => exact hB.elim
  | mk k a b c r l n add sub =>
    have hi' : ∀ i, i < min n 12 → i < n := fun i hi => by omega
    have ok : ∀ i, i < min n 12 → okS (tameS (sub i) sm 2) = true := fun i hi => by
      have e := tame2_ok sm (sub i) (hB.2.2 i (hi' i hi))
      rwa [okE_S] at e
    have fin : ∀ i, i < min n 12 → Fine (PB (tmX sm)) (tameS (sub i) sm 2) 2 := fun i hi => tame_fine sm (sub i) 2 (hB.2.2 i (hi' i hi)) (by decide) (by decide)
    have eC : ∀ i, i < min n 12 → ∀ b, figClassC (tameS (sub i) sm 2) b = classF (tameS (sub i) sm 2) b := fun i hi b => by unfold figClassC; rw [ok i hi]; rfl
    have eB : ∀ i, i < min n 12 → figBndC (tameS (sub i) sm 2) = bndF (tameS (sub i) sm 2) := fun i hi => by unfold figBndC; rw [ok i hi]; rfl
    refine ⟨fun i hi b q hs hb hq => ?_, fun i hi h0 b hb => ?_, fun i hi hh b hb ha q hs hq => ?_⟩
    · have hi : i < min n 12 := hi
      show Ref (figClassC (tameS (sub i) sm 2) b) (figClassC (tameS (sub i) sm 2) q)
      rw [eC i hi, eC i hi]
      exact ref_shape sm hs hb hq (sub i) 2
    · have hi : i < min n 12 := hi
      have h0 : (figBndC (tameS (sub i) sm 2)).2 = false := h0
      show figClassC (tameS (sub i) sm 2) b = 0
      rw [eB i hi] at h0
      rw [eC i hi]
      exact none_off (tmX_le sm) hb _ _ (fin i hi) h0
    · have hi : i < min n 12 := hi
      have hh : hbF (tameS (sub i) sm 2) = false := hh
      have ha : apart (figBndC (tameS (sub i) sm 2)).1 b = true := ha
      show figClassC (tameS (sub i) sm 2) q = 0
      rw [eB i hi] at ha
      rw [eC i hi]
      exact free_off (tmX_le sm) hq _ _ (fin i hi) hh fun h2 => Off.box hs (apart_off ((fine_bnd (tmX_le sm) _ _ (fin i hi)).2 h2) hb ha)
end Go.Proofs.YthnenjodighlmaaGreat

/-! ## Rpq -/
namespace Go.Proofs.YthnenjodighlmaaGreat
open Go Go.RowKit Sym
set_option maxRecDepth 100000

def add4 (f : Nat → Int × Int) : Int × Int := ((f 0).1 + (f 1).1 + (f 2).1 + (f 3).1, (f 0).2 + (f 1).2 + (f 2).2 + (f 3).2)
def cnN (C : B4 → Int) : Nat → B4 → Int × Int
  | 0, b => bif C b == 0 then (0, 0) else bif C b == 2 then (cellsN 0, cellsN 0) else (0, 1)
  | d + 1, b => bif C b == 0 then (0, 0) else bif C b == 2 then (cellsN (d + 1), cellsN (d + 1)) else add4 fun i => cnN C d (spB b i)
theorem cells_step (d : Nat) : cellsN (d + 1) = 4 * cellsN d := by
  unfold cellsN
  rw [Nat.pow_succ]; omega
theorem cells_pos : ∀ d, 1 ≤ cellsN d
  | 0 => by decide
  | d + 1 => by have := cells_pos d; rw [cells_step]; omega
theorem cn_bd (C : B4 → Int) : ∀ d b, 0 ≤ (cnN C d b).1 ∧ (cnN C d b).1 ≤ (cnN C d b).2 ∧ (cnN C d b).2 ≤ cellsN d
  | 0, b => by
    unfold cnN
    cases C b == 0 <;> cases C b == 2 <;> exact ⟨by decide, by decide, by decide⟩
  | d + 1, b => by
    have p := cells_pos (d + 1)
    have p0 := cells_pos d
    have e := cells_step d
    unfold cnN
    cases C b == 0
    · cases C b == 2
      · have h0 := cn_bd C d (spB b 0)
        have h1 := cn_bd C d (spB b 1)
        have h2 := cn_bd C d (spB b 2)
        have h3 := cn_bd C d (spB b 3)
        simp only [cond_false, add4]
        omega
      · show 0 ≤ cellsN (d + 1) ∧ cellsN (d + 1) ≤ cellsN (d + 1) ∧ cellsN (d + 1) ≤ cellsN (d + 1)
        omega
    · show 0 ≤ (0 : Int) ∧ (0 : Int) ≤ 0 ∧ (0 : Int) ≤ cellsN (d + 1)
      omega
/-- a box that may be split so often -/
def Dv (d : Nat) (b : B4) : Prop := Fits b ∧ ∃ w h : Int, 1 ≤ w ∧ 1 ≤ h ∧ b.x1 - b.x0 = w * ((2 ^ d : Nat) : Int) ∧ b.y1 - b.y0 = h * ((2 ^ d : Nat) : Int)
theorem two_step (d : Nat) (w : Int) : w * ((2 ^ (d + 1) : Nat) : Int) = 2 * (w * ((2 ^ d : Nat) : Int)) := by
  rw [Nat.pow_succ, Int.natCast_mul]
  show w * (((2 ^ d : Nat) : Int) * 2) = _
  rw [← Int.mul_assoc, Int.mul_comm]
theorem two_pos (d : Nat) {w : Int} (h : 1 ≤ w) : 1 ≤ w * ((2 ^ d : Nat) : Int) := by
  have : 1 ≤ ((2 ^ d : Nat) : Int) := by have := Nat.two_pow_pos d; omega
  have := Int.mul_le_mul h this (by omega) (by omega)
  omega
theorem Dv.ok {d : Nat} {b : B4} (h : Dv (d + 1) b) : splOk b = true := by
  obtain ⟨hf, w, k, hw, hk, e1, e2⟩ := h
  rw [two_step] at e1 e2
  have p1 := two_pos d hw
  have p2 := two_pos d hk
  generalize w * ((2 ^ d : Nat) : Int) = u at *
  generalize k * ((2 ^ d : Nat) : Int) = v at *
  have := hf.x0; have := hf.x1; have := hf.y0; have := hf.y1
  unfold splOk
  rw [(boxOk_iff b).2 hf, W_id (x := b.x1 - b.x0) (by omega) (by omega), W_id (x := b.y1 - b.y0) (by omega) (by omega), e1, e2]
  rw [show (2 * u == 0) = false by simp; omega, show (2 * v == 0) = false by simp; omega, show ((2 * u).tmod 2 != 0) = false by rw [Int.tmod_eq_emod_of_nonneg (by omega)]; simp, show ((2 * v).tmod 2 != 0) = false by rw [Int.tmod_eq_emod_of_nonneg (by omega)]; simp]
  rfl
theorem Dv.half {d : Nat} {b : B4} (h : Dv (d + 1) b) : ∃ mx my : Int, (b.x0 < mx ∧ 2 * mx = b.x0 + b.x1) ∧ (b.y0 < my ∧ 2 * my = b.y0 + b.y1) ∧ spB b 0 = ⟨b.x0, b.y0, mx, my⟩ ∧ spB b 1 = ⟨mx, b.y0, b.x1, my⟩ ∧ spB b 2 = ⟨b.x0, my, mx, b.y1⟩ ∧ ∀ i, spB b (i + 3) = ⟨mx, my, b.x1, b.y1⟩ := by
  obtain ⟨h1, h2, h3, h4, h5⟩ := spl_of h.1 h.ok
  refine ⟨midX b, midY b, ⟨h2, h4⟩, ⟨h3, h5⟩, ?_, ?_, ?_, fun i => ?_⟩
  · show (⟨spl b 0 b.x0, spl b 0 b.y0, spl b 0 (midX b), spl b 0 (midY b)⟩ : B4) = _
    simp only [h1]
  · show (⟨spl b 0 (midX b), spl b 0 b.y0, spl b 0 b.x1, spl b 0 (midY b)⟩ : B4) = _
    simp only [h1]
  · show (⟨spl b 0 b.x0, spl b 0 (midY b), spl b 0 (midX b), spl b 0 b.y1⟩ : B4) = _
    simp only [h1]
  · show (⟨spl b 0 (midX b), spl b 0 (midY b), spl b 0 b.x1, spl b 0 b.y1⟩ : B4) = _
    simp only [h1]
theorem Dv.sub {d : Nat} {b : B4} (h : Dv (d + 1) b) (i : Nat) : Dv d (spB b i) ∧ Sb (spB b i) b := by
  obtain ⟨mx, my, ⟨x1, x2⟩, ⟨y1, y2⟩, e0, e1, e2, e3⟩ := h.half
  obtain ⟨hf, w, k, hw, hk, g1, g2⟩ := h
  rw [two_step] at g1 g2
  have f1 := hf.x0; have f2 := hf.x; have f3 := hf.x1; have f4 := hf.y0; have f5 := hf.y; have f6 := hf.y1
  match i with
  | 0 => rw [e0]; exact ⟨⟨⟨f1, by dsimp only; omega, by dsimp only; omega, f4, by dsimp only; omega, by dsimp only; omega⟩, w, k, hw, hk, by dsimp only; omega, by dsimp only; omega⟩, ⟨by dsimp only; omega, by dsimp only; omega, by dsimp only; omega, by dsimp only; omega, by dsimp only; omega, by dsimp only; omega⟩⟩
  | 1 => rw [e1]; exact ⟨⟨⟨by dsimp only; omega, by dsimp only; omega, f3, f4, by dsimp only; omega, by dsimp only; omega⟩, w, k, hw, hk, by dsimp only; omega, by dsimp only; omega⟩, ⟨by dsimp only; omega, by dsimp only; omega, by dsimp only; omega, by dsimp only; omega, by dsimp only; omega, by dsimp only; omega⟩⟩
  | 2 => rw [e2]; exact ⟨⟨⟨f1, by dsimp only; omega, by dsimp only; omega, by dsimp only; omega, by dsimp only; omega, f6⟩, w, k, hw, hk, by dsimp only; omega, by dsimp only; omega⟩, ⟨by dsimp only; omega, by dsimp only; omega, by dsimp only; omega, by dsimp only; omega, by dsimp only; omega, by dsimp only; omega⟩⟩
  | i + 3 => rw [e3]; exact ⟨⟨⟨by dsimp only; omega, by dsimp only; omega, f3, by dsimp only; omega, by dsimp only; omega, f6⟩, w, k, hw, hk, by dsimp only; omega, by dsimp only; omega⟩, ⟨by dsimp only; omega, by dsimp only; omega, by dsimp only; omega, by dsimp only; omega, by dsimp only; omega, by dsimp only; omega⟩⟩
theorem Sb.trans {a b c : B4} (h : Sb a b) (k : Sb b c) : Sb a c := by
  obtain ⟨h1, h2, h3, h4, h5, h6⟩ := h
  obtain ⟨k1, k2, k3, k4, k5, k6⟩ := k
  exact ⟨by omega, h2, by omega, by omega, h5, by omega⟩
theorem Sb.self {b : B4} (h : Fits b) : Sb b b := ⟨Int.le_refl _, h.x, Int.le_refl _, Int.le_refl _, h.y, Int.le_refl _⟩
/-- classes of the same boxes, the same count -/
theorem cn_congr {C C' : B4 → Int} : ∀ d b, Dv d b → (∀ q, Sb q b → Fits q → C q = C' q) → cnN C d b = cnN C' d b
  | 0, b, h, hc => by
    unfold cnN
    rw [hc b (Sb.self h.1) h.1]
  | d + 1, b, h, hc => by
    have ih : ∀ i, cnN C d (spB b i) = cnN C' d (spB b i) := fun i => cn_congr d _ (h.sub i).1 fun q hq hf => hc q (hq.trans (h.sub i).2) hf
    unfold cnN
    rw [hc b (Sb.self h.1) h.1]
    simp only [ih]
def stN : Nat → Int
  | 0 => 1
  | d + 1 => 1 + 4 * stN d
theorem st_pos : ∀ d, 1 ≤ stN d
  | 0 => by decide
  | d + 1 => by have := st_pos d; unfold stN; omega
/-- a result of so many looks at most -/
structure ExOk (r : ExR) (c : Int × Int) (a n : Int) : Prop where
  lo : r.lo = c.1
  hi : r.hi = c.2
  e : r.e = 0
  a1 : a + 1 ≤ r.a
  a2 : r.a ≤ a + n
theorem exQ_ok {f : B4 → Int → ExR} {b : B4} {a n M : Int} {cs : Nat → Int × Int} (hn : 1 ≤ n) (h : ∀ i a', i < 4 → a ≤ a' → a' ≤ a + 3 * n → ExOk (f (spB b i) a') (cs i) a' n) (hb : ∀ i, 0 ≤ (cs i).1 ∧ (cs i).1 ≤ (cs i).2 ∧ (cs i).2 ≤ M) (hM : M ≤ 1000000000) : ExOk (exQ f b a) (add4 cs) a (4 * n) := by
  have h0 := h 0 a (by omega) (by omega) (by omega)
  have h1 := h 1 _ (by omega) (show a ≤ (f (spB b 0) a).a by have := h0.a1; omega) (by have := h0.a2; omega)
  have h2 := h 2 _ (by omega) (show a ≤ (f (spB b 1) (f (spB b 0) a).a).a by have := h0.a1; have := h1.a1; omega) (by have := h0.a2; have := h1.a2; omega)
  have h3 := h 3 _ (by omega) (show a ≤ (f (spB b 2) (f (spB b 1) (f (spB b 0) a).a).a).a by have := h0.a1; have := h1.a1; have := h2.a1; omega) (by have := h0.a2; have := h1.a2; have := h2.a2; omega)
  have b0 := hb 0; have b1 := hb 1; have b2 := hb 2; have b3 := hb 3
  unfold exQ
  rw [h0.e, h1.e, h2.e, h3.e, h0.lo, h1.lo, h2.lo, h3.lo, h0.hi, h1.hi, h2.hi, h3.hi]
  have g0 := h0.a1; have g1 := h1.a1; have g2 := h2.a1; have g3 := h3.a1
  have k0 := h0.a2; have k1 := h1.a2; have k2 := h2.a2; have k3 := h3.a2
  generalize (f (spB b 3) (f (spB b 2) (f (spB b 1) (f (spB b 0) a).a).a).a).a = a4 at *
  generalize (f (spB b 2) (f (spB b 1) (f (spB b 0) a).a).a).a = a3 at *
  generalize (f (spB b 1) (f (spB b 0) a).a).a = a2 at *
  generalize (f (spB b 0) a).a = a1 at *
  show ExOk ⟨W (W (W (W (0 + (cs 0).1) + (cs 1).1) + (cs 2).1) + (cs 3).1), W (W (W (W (0 + (cs 0).2) + (cs 1).2) + (cs 2).2) + (cs 3).2), 0, a4⟩ _ _ _
  rw [W_id (x := 0 + (cs 0).1) (by omega) (by omega), W_id (x := 0 + (cs 0).1 + (cs 1).1) (by omega) (by omega), W_id (x := 0 + (cs 0).1 + (cs 1).1 + (cs 2).1) (by omega) (by omega), W_id (x := 0 + (cs 0).1 + (cs 1).1 + (cs 2).1 + (cs 3).1) (by omega) (by omega),
    W_id (x := 0 + (cs 0).2) (by omega) (by omega), W_id (x := 0 + (cs 0).2 + (cs 1).2) (by omega) (by omega), W_id (x := 0 + (cs 0).2 + (cs 1).2 + (cs 2).2) (by omega) (by omega), W_id (x := 0 + (cs 0).2 + (cs 1).2 + (cs 2).2 + (cs 3).2) (by omega) (by omega)]
  unfold add4
  exact ⟨by dsimp only; omega, by dsimp only; omega, rfl, by dsimp only; omega, by dsimp only; omega⟩
theorem cells_le : ∀ d, d ≤ 14 → cellsN d ≤ 1000000000 := fun d hd => by
  unfold cellsN
  have : 4 ^ d ≤ 4 ^ 14 := Nat.pow_le_pow_right (by decide) hd
  have e : 4 ^ 14 = 268435456 := by decide
  omega
theorem exF_ok {most : Int} (h2 : most ≤ 100000000) : ∀ d, d ≤ 14 → ∀ s b a, GoodO s → Dv d b → 0 ≤ a → a + stN d ≤ most → ExOk (exF most d s b a) (cnN (pClassC s) d b) a (stN d)
  | 0, _, s, b, a, hg, hd, h0, h1 => by
    unfold stN at h1
    unfold exF cnN stN exT
    rw [W_id (x := a + 1) (by omega) (by omega), decide_eq_true (show a + 1 ≤ most by omega)]
    cases pClassC s b == 0
    · cases pClassC s b == 2
      · exact ⟨rfl, rfl, rfl, by show a + 1 ≤ a + 1; omega, by show a + 1 ≤ a + 1; omega⟩
      · exact ⟨rfl, rfl, rfl, by show a + 1 ≤ a + 1; omega, by show a + 1 ≤ a + 1; omega⟩
    · exact ⟨rfl, rfl, rfl, by show a + 1 ≤ a + 1; omega, by show a + 1 ≤ a + 1; omega⟩
  | d + 1, hd14, s, b, a, hg, hd, h0, h1 => by
    have sp := st_pos d
    have es : stN (d + 1) = 1 + 4 * stN d := rfl
    rw [es] at h1 ⊢
    have e : ∀ i, cnN (pClassC (nearG s (spB b i))) d (spB b i) = cnN (pClassC s) d (spB b i) := fun i =>
      cn_congr d _ (hd.sub i).1 fun q hq hf => near_cls hg (hd.sub i).1.1 hf hq
    have key : ExOk (exQ (fun q a => exF most d (nearG s q) q a) b (a + 1)) (add4 fun i => cnN (pClassC s) d (spB b i)) (a + 1) (4 * stN d) :=
      exQ_ok (M := cellsN d) (by omega) (fun i a' hi l1 l2 => by
        have := exF_ok h2 d (by omega) (nearG s (spB b i)) (spB b i) a' (hg.fil _) (hd.sub i).1 (by omega) (by omega)
        rwa [e i] at this) (fun i => cn_bd _ d _) (cells_le d (by omega))
    unfold exF cnN exT
    rw [W_id (x := a + 1) (by omega) (by omega), decide_eq_true (show a + 1 ≤ most by omega)]
    cases pClassC s b == 0
    · cases pClassC s b == 2
      · obtain ⟨k1, k2, k3, k4, k5⟩ := key
        refine ⟨k1, k2, k3, ?_, ?_⟩
        · show a + 1 ≤ (exQ (fun q a => exF most d (nearG s q) q a) b (a + 1)).a
          omega
        · show (exQ (fun q a => exF most d (nearG s q) q a) b (a + 1)).a ≤ a + (1 + 4 * stN d)
          omega
      · exact ⟨rfl, rfl, rfl, by show a + 1 ≤ a + 1; omega, by show a + 1 ≤ a + (1 + 4 * stN d); omega⟩
    · exact ⟨rfl, rfl, rfl, by show a + 1 ≤ a + 1; omega, by show a + 1 ≤ a + (1 + 4 * stN d); omega⟩
/-! ### finer cells -/
end Go.Proofs.YthnenjodighlmaaGreat

/-! ## Rsa -/
namespace Go.Proofs.YthnenjodighlmaaGreat
open Go Go.RowKit Sym
set_option maxRecDepth 100000

def pw2 (d : Nat) : Int := ((2 ^ d : Nat) : Int)
theorem pw2_step (d : Nat) : pw2 (d + 1) = 2 * pw2 d := by unfold pw2; rw [Nat.pow_succ]; omega
theorem pw2_pos (d : Nat) : 1 ≤ pw2 d := by unfold pw2; have := Nat.two_pow_pos d; omega
/-- over the cells (of side k) of a box that is split d times, its corner at (x, y) -/
def gsN (f : Int → Int → Nat) (k : Int) : Nat → Int → Int → Nat
  | 0, x, y => f x y
  | d + 1, x, y => gsN f k d x y + gsN f k d (x + k * pw2 d) y + gsN f k d x (y + k * pw2 d) + gsN f k d (x + k * pw2 d) (y + k * pw2 d)
def allF (H : P2 → Bool) (k x y : Int) : Bool := H ⟨x, y⟩ && H ⟨x + k, y⟩ && H ⟨x, y + k⟩ && H ⟨x + k, y + k⟩
def anyF (H : P2 → Bool) (k x y : Int) : Bool := H ⟨x, y⟩ || H ⟨x + k, y⟩ || H ⟨x, y + k⟩ || H ⟨x + k, y + k⟩
theorem gs_le {f : Int → Int → Nat} (h : ∀ x y, f x y ≤ 1) (k : Int) : ∀ d x y, ((gsN f k d x y : Nat) : Int) ≤ cellsN d
  | 0, x, y => by have := h x y; show ((f x y : Nat) : Int) ≤ 1; omega
  | d + 1, x, y => by
    have h1 := gs_le h k d x y
    have h2 := gs_le h k d (x + k * pw2 d) y
    have h3 := gs_le h k d x (y + k * pw2 d)
    have h4 := gs_le h k d (x + k * pw2 d) (y + k * pw2 d)
    have e := cells_step d
    unfold gsN; omega
/-- what is so of every cell -/
theorem gs_const {f : Int → Int → Nat} {v : Nat} {k : Int} (hk : 1 ≤ k) : ∀ d x y, (∀ a c, x ≤ a → a + k ≤ x + k * pw2 d → y ≤ c → c + k ≤ y + k * pw2 d → f a c = v) → ((gsN f k d x y : Nat) : Int) = v * cellsN d
  | 0, x, y, h => by
    have e : pw2 0 = 1 := rfl
    rw [show gsN f k 0 x y = v from h x y (by omega) (by rw [e]; omega) (by omega) (by rw [e]; omega)]
    show (v : Int) = v * 1; omega
  | d + 1, x, y, h => by
    rw [pw2_step, show k * (2 * pw2 d) = 2 * (k * pw2 d) by rw [← Int.mul_assoc, Int.mul_comm k 2, Int.mul_assoc]] at h
    have p : 1 * 1 ≤ k * pw2 d := Int.mul_le_mul hk (pw2_pos d) (by decide) (by omega)
    have e := cells_step d
    have e2 : (v : Int) * cellsN (d + 1) = 4 * (v * cellsN d) := by rw [e, ← Int.mul_assoc, Int.mul_comm (v : Int) 4, Int.mul_assoc]
    have h1 := gs_const (f := f) (v := v) hk d x y fun a c => by intro _ _ _ _; exact h a c (by omega) (by omega) (by omega) (by omega)
    have h2 := gs_const (f := f) (v := v) hk d (x + k * pw2 d) y fun a c => by intro _ _ _ _; exact h a c (by omega) (by omega) (by omega) (by omega)
    have h3 := gs_const (f := f) (v := v) hk d x (y + k * pw2 d) fun a c => by intro _ _ _ _; exact h a c (by omega) (by omega) (by omega) (by omega)
    have h4 := gs_const (f := f) (v := v) hk d (x + k * pw2 d) (y + k * pw2 d) fun a c => by intro _ _ _ _; exact h a c (by omega) (by omega) (by omega) (by omega)
    unfold gsN; omega
def oneAll (H : P2 → Bool) (k x y : Int) : Nat := oneN (allF H k x y)
def oneAny (H : P2 → Bool) (k x y : Int) : Nat := oneN (anyF H k x y)
theorem oneN_le (b : Bool) : oneN b ≤ 1 := by cases b <;> decide
def inB (b : B4) (p : P2) : Prop := (b.x0 ≤ p.x ∧ p.x ≤ b.x1) ∧ (b.y0 ≤ p.y ∧ p.y ≤ b.y1)
/-- the count of the classes lies between the counts of the corners -/
theorem cn_gs {C : B4 → Int} {H : P2 → Bool} {k : Int} (hk : 1 ≤ k) : ∀ d b, Dv d b → b.x1 - b.x0 = k * pw2 d → b.y1 - b.y0 = k * pw2 d → (∀ q, Sb q b → Fits q → (C q = 2 → ∀ p, inB q p → H p = true) ∧ (C q = 0 → ∀ p, inB q p → H p = false)) →
    (cnN C d b).1 ≤ (gsN (oneAll H k) k d b.x0 b.y0 : Nat) ∧ ((gsN (oneAny H k) k d b.x0 b.y0 : Nat) : Int) ≤ (cnN C d b).2 := by
  have cases3 : ∀ d b, Dv d b → b.x1 - b.x0 = k * pw2 d → b.y1 - b.y0 = k * pw2 d → (∀ q, Sb q b → Fits q → (C q = 2 → ∀ p, inB q p → H p = true) ∧ (C q = 0 → ∀ p, inB q p → H p = false)) →
      (C b = 2 → cellsN d ≤ (gsN (oneAll H k) k d b.x0 b.y0 : Nat)) ∧ (C b = 0 → ((gsN (oneAny H k) k d b.x0 b.y0 : Nat) : Int) ≤ 0) := fun d b hd hx hy hC => by
    obtain ⟨c1, c2⟩ := hC b (Sb.self hd.1) hd.1
    constructor
    · intro h
      have i : ∀ p, inB b p → H p = true := c1 h
      have := gs_const (f := oneAll H k) (v := 1) hk d b.x0 b.y0 fun a c _ _ _ _ => by
        unfold oneAll allF
        rw [i ⟨a, c⟩ ⟨⟨by dsimp only; omega, by dsimp only; omega⟩, by dsimp only; omega, by dsimp only; omega⟩, i ⟨a + k, c⟩ ⟨⟨by dsimp only; omega, by dsimp only; omega⟩, by dsimp only; omega, by dsimp only; omega⟩, i ⟨a, c + k⟩ ⟨⟨by dsimp only; omega, by dsimp only; omega⟩, by dsimp only; omega, by dsimp only; omega⟩, i ⟨a + k, c + k⟩ ⟨⟨by dsimp only; omega, by dsimp only; omega⟩, by dsimp only; omega, by dsimp only; omega⟩]
        rfl
      omega
    · intro h
      have i : ∀ p, inB b p → H p = false := c2 h
      have := gs_const (f := oneAny H k) (v := 0) hk d b.x0 b.y0 fun a c _ _ _ _ => by
        unfold oneAny anyF
        rw [i ⟨a, c⟩ ⟨⟨by dsimp only; omega, by dsimp only; omega⟩, by dsimp only; omega, by dsimp only; omega⟩, i ⟨a + k, c⟩ ⟨⟨by dsimp only; omega, by dsimp only; omega⟩, by dsimp only; omega, by dsimp only; omega⟩, i ⟨a, c + k⟩ ⟨⟨by dsimp only; omega, by dsimp only; omega⟩, by dsimp only; omega, by dsimp only; omega⟩, i ⟨a + k, c + k⟩ ⟨⟨by dsimp only; omega, by dsimp only; omega⟩, by dsimp only; omega, by dsimp only; omega⟩]
        rfl
      omega
  intro d
  induction d with
  | zero =>
    intro b hd hx hy hC
    obtain ⟨c2, c0⟩ := cases3 0 b hd hx hy hC
    have g1 := gs_le (f := oneAny H k) (fun x y => oneN_le _) k 0 b.x0 b.y0
    have c1 : cellsN 0 = 1 := rfl
    unfold cnN
    cases e0 : C b == 0
    · cases e2 : C b == 2
      · show (0 : Int) ≤ _ ∧ _ ≤ (1 : Int); omega
      · have := c2 (by simpa using e2)
        show cellsN 0 ≤ _ ∧ _ ≤ cellsN 0; omega
    · have := c0 (by simpa using e0)
      show (0 : Int) ≤ _ ∧ _ ≤ (0 : Int); omega
  | succ d ih =>
    intro b hd hx hy hC
    obtain ⟨c2, c0⟩ := cases3 (d + 1) b hd hx hy hC
    have g1 := gs_le (f := oneAny H k) (fun x y => oneN_le _) k (d + 1) b.x0 b.y0
    have ex : k * pw2 (d + 1) = 2 * (k * pw2 d) := by rw [pw2_step, ← Int.mul_assoc, Int.mul_comm k 2, Int.mul_assoc]
    rw [ex] at hx hy
    have sub : ∀ i, Dv d (spB b i) ∧ Sb (spB b i) b := fun i => hd.sub i
    obtain ⟨mx, my, ⟨x1, x2⟩, ⟨y1, y2⟩, e0, e1, e2, e3⟩ := hd.half
    have e3 := e3 0
    have emx : mx = b.x0 + k * pw2 d := by omega
    have emy : my = b.y0 + k * pw2 d := by omega
    have I : ∀ i, (spB b i).x1 - (spB b i).x0 = k * pw2 d → (spB b i).y1 - (spB b i).y0 = k * pw2 d → (cnN C d (spB b i)).1 ≤ (gsN (oneAll H k) k d (spB b i).x0 (spB b i).y0 : Nat) ∧ ((gsN (oneAny H k) k d (spB b i).x0 (spB b i).y0 : Nat) : Int) ≤ (cnN C d (spB b i)).2 := fun i h1 h2 =>
      ih _ (sub i).1 h1 h2 fun q hq hf => hC q (hq.trans (sub i).2) hf
    have i0 := I 0 (by rw [e0]; dsimp only; omega) (by rw [e0]; dsimp only; omega)
    have i1 := I 1 (by rw [e1]; dsimp only; omega) (by rw [e1]; dsimp only; omega)
    have i2 := I 2 (by rw [e2]; dsimp only; omega) (by rw [e2]; dsimp only; omega)
    have i3 := I 3 (by rw [e3]; dsimp only; omega) (by rw [e3]; dsimp only; omega)
    rw [show (spB b 0).x0 = b.x0 by rw [e0], show (spB b 0).y0 = b.y0 by rw [e0]] at i0
    rw [show (spB b 1).x0 = b.x0 + k * pw2 d by rw [e1]; exact emx, show (spB b 1).y0 = b.y0 by rw [e1]] at i1
    rw [show (spB b 2).x0 = b.x0 by rw [e2], show (spB b 2).y0 = b.y0 + k * pw2 d by rw [e2]; exact emy] at i2
    rw [show (spB b 3).x0 = b.x0 + k * pw2 d by rw [e3]; exact emx, show (spB b 3).y0 = b.y0 + k * pw2 d by rw [e3]; exact emy] at i3
    have n1 : gsN (oneAll H k) k (d + 1) b.x0 b.y0 = gsN (oneAll H k) k d b.x0 b.y0 + gsN (oneAll H k) k d (b.x0 + k * pw2 d) b.y0 + gsN (oneAll H k) k d b.x0 (b.y0 + k * pw2 d) + gsN (oneAll H k) k d (b.x0 + k * pw2 d) (b.y0 + k * pw2 d) := rfl
    have n2 : gsN (oneAny H k) k (d + 1) b.x0 b.y0 = gsN (oneAny H k) k d b.x0 b.y0 + gsN (oneAny H k) k d (b.x0 + k * pw2 d) b.y0 + gsN (oneAny H k) k d b.x0 (b.y0 + k * pw2 d) + gsN (oneAny H k) k d (b.x0 + k * pw2 d) (b.y0 + k * pw2 d) := rfl
    have n3 : cnN C (d + 1) b = bif C b == 0 then (0, 0) else bif C b == 2 then (cellsN (d + 1), cellsN (d + 1)) else add4 fun i => cnN C d (spB b i) := rfl
    rw [n3]
    cases q0 : C b == 0
    · cases q2 : C b == 2
      · simp only [cond_false, add4]
        omega
      · have := c2 (by simpa using q2)
        show cellsN (d + 1) ≤ _ ∧ _ ≤ cellsN (d + 1); omega
    · have := c0 (by simpa using q0)
      show (0 : Int) ≤ _ ∧ _ ≤ (0 : Int); omega
/-! ### the same, in rows, in one row -/
theorem sum_split (f : Nat → Nat) (m : Nat) : ∀ n, sumN f (m + n) = sumN f m + sumN (fun i => f (m + i)) n
  | 0 => rfl
  | n + 1 => by
    have := sum_split f m n
    show sumN f (m + n) + f (m + n) = sumN f m + (sumN (fun i => f (m + i)) n + f (m + n))
    omega
def rowsN (f : Int → Int → Nat) (k : Int) (n m : Nat) (x y : Int) : Nat := sumN (fun j => sumN (fun i => f (x + (i : Int) * k) (y + (j : Int) * k)) n) m
theorem rows_x (f : Int → Int → Nat) (k : Int) (a c m : Nat) (x y : Int) : rowsN f k (a + c) m x y = rowsN f k a m x y + rowsN f k c m (x + (a : Int) * k) y := by
  unfold rowsN
  rw [← sum_add]
  refine sum_congr fun j _ => ?_
  rw [sum_split]
  congr 1
  refine sum_congr fun i _ => ?_
  rw [show x + (a : Int) * k + (i : Int) * k = x + ((a + i : Nat) : Int) * k by rw [Int.natCast_add, Int.add_mul, Int.add_assoc]]
theorem rows_y (f : Int → Int → Nat) (k : Int) (n a c : Nat) (x y : Int) : rowsN f k n (a + c) x y = rowsN f k n a x y + rowsN f k n c x (y + (a : Int) * k) := by
  unfold rowsN
  rw [sum_split]
  congr 1
  refine sum_congr fun j _ => sum_congr fun i _ => ?_
  rw [show y + (a : Int) * k + (j : Int) * k = y + ((a + j : Nat) : Int) * k by rw [Int.natCast_add, Int.add_mul, Int.add_assoc]]
theorem gs_rows (f : Int → Int → Nat) (k : Int) : ∀ d x y, gsN f k d x y = rowsN f k (2 ^ d) (2 ^ d) x y
  | 0, x, y => by
    show f x y = 0 + (0 + f (x + (0 : Int) * k) (y + (0 : Int) * k))
    rw [Int.zero_mul, Int.add_zero, Int.add_zero]; omega
  | d + 1, x, y => by
    rw [show 2 ^ (d + 1) = 2 ^ d + 2 ^ d by rw [Nat.pow_succ]; omega, rows_y, rows_x, rows_x]
    unfold gsN
    rw [gs_rows f k d, gs_rows f k d, gs_rows f k d, gs_rows f k d]
    unfold pw2
    rw [Int.mul_comm k]
    omega
theorem sum_rows (f : Nat → Nat) (n : Nat) : ∀ m, sumN f (m * n) = sumN (fun j => sumN (fun i => f (j * n + i)) n) m
  | 0 => by rw [Nat.zero_mul]; rfl
  | m + 1 => by
    rw [Nat.succ_mul, sum_split, sum_rows f n m]; rfl
end Go.Proofs.YthnenjodighlmaaGreat

/-! ## Rga -/
namespace Go.Proofs.YthnenjodighlmaaGreat
open Go Go.RowKit Sym
set_option maxRecDepth 100000

/-! ### hasBar -/
def hbN (g : Sh → Bool) (sh : Nat → Sh) (i : Nat) (_ : Unit) : Bool × Unit := (!(g (sh i)), ())
def hbG (g : Sh → Bool) (sh : Nat → Sh) (s : Sh) : Bool := bif s.k == 4 then true else !((runN (hbN g sh) () s.n).1)
def HbOk (x : Sh) (g : Sh → Bool) : Prop := Dyn.CallD Tryz.prog 30 [dvS x] (rB (g x))
def tdHb (Pd : Sh → Prop) (g : Sh → Bool) : List Dyn.EntryD := [(30, en1D (qAnd qS Pd) fun x => rB (g x))]
def tabHb (Pd : Sh → Prop) (g : Sh → Bool) : Dyn.Tabs := Dyn.tabs tbF (tdHb Pd g) noD dtyS
theorem tabHb_ok {Pd : Sh → Prop} {g : Sh → Bool} (ih : ∀ x, Pd x → HbOk x g) : Dyn.TabsOk Tryz.prog (tabHb Pd g) :=
  Dyn.tabs_ok tbF_ok (List.forall_mem_cons.2 ⟨en1D_ok (qAnd_ok qS_ok) fun x h => ih x h.1, fun _ h => by cases h⟩)
def hbS (s : Sh) (i : Int) : Dyn.St := mkS 19 [(2, .k (vb false)), (9, sH 0 9 s.n), (10, sI s.n), (11, sI i)] [some (.deep (cS s))]
def hbR : Dyn.St := mkS 19 [(2, .k (vb true))] []
def hbK : List Nat := [2, 9, 10, 11]
def hbLp (g : Sh → Bool) (sh : Nat → Sh) (s : Sh) : Dyn.Lp := fun id st => match id with
  | 0 => some (.side [keepA 19 [0] [] hbK (2 ^ 11) st = hbS s 0] (.ite (runN (hbN g sh) () s.n).1 (.leaf .normal (hbS s s.n)) (.leaf .ret hbR)))
  | _ => none
def hbB (Pd : Sh → Prop) (g : Sh → Bool) (sh : Nat → Sh) (s : Sh) (i : Nat) : Dyn.Out :=
  .ite (decide ((i : Int) < s.n)) (.side [0 ≤ (i : Int) ∧ (i : Int) < s.n] (.side [Pd (sh i), ctrSelf (sh i).l] (.ite (g (sh i)) (.leaf .ret hbR) (.leaf .normal (hbS s (W (i + 1))))))) (.leaf (.exit 0) (hbS s i))
theorem hb_B (Pd : Sh → Prop) (g : Sh → Bool) (k : Int) (a b c : P2) (r : Int) (l : Ctr) (n : Nat) (add : Nat → Bool) (sh : Nat → Sh) (i : Nat) :
    (Dyn.lexec Tryz.prog (tabHb Pd g) (hbLp g sh (mkSh k a b c r l n add sh)) 3 (unloopD (blkD Tryz.f30.body 0)) .leaf (hbS (mkSh k a b c r l n add sh) i)).rl (keepR 19 [0] [] hbK [2]) = hbB Pd g sh (mkSh k a b c r l n add sh) i := by kernel_rfl
theorem hb_blocks : blocksL (bodyD Tryz.f30.body) = [(0, .loop (unloopD (blkD Tryz.f30.body 0))), (1, blkD Tryz.f30.body 1)] := by kernel_rfl
theorem hb_b0 : blocksL (unloopD (blkD Tryz.f30.body 0)) = [(1, blkD Tryz.f30.body 1)] := by kernel_rfl
theorem hb_loop {Pd : Sh → Prop} {g : Sh → Bool} (ih : ∀ x, Pd x → HbOk x g) (k : Int) (a b c : P2) (r : Int) (l : Ctr) (n : Nat) (add : Nat → Bool) (sh : Nat → Sh) (hn : n ≤ 1000000000) (hP : ∀ i, i < n → Pd (sh i)) (w0 : Dyn.Base Tryz.prog) (st : Dyn.St) (o : Dyn.Out) (h : hbLp g sh (mkSh k a b c r l n add sh) 0 st = some o) : Dyn.BlockSound Tryz.prog w0 0 (.loop (unloopD (blkD Tryz.f30.body 0))) st o := by
  simp only [hbLp, Option.some.injEq] at h
  subst h
  refine side_one fun hS => ?_
  refine run_block (fuel := 3) (tabHb_ok ih) mo (lp := hbLp g sh (mkSh k a b c r l n add sh)) (by rw [hb_b0]; exact lpOk_cons (fun s o h => by cases h) lpOk_nil) (fun i (_ : Unit) => hbS (mkSh k a b c r l n add sh) i) n (hbN g sh) () (fun _ => hbR) (keepR 19 [0] [] hbK [2]) (keepR_ent 19 _ _ _ _) (fun i _ => hbB Pd g sh (mkSh k a b c r l n add sh) i) (fun i _ => hb_B Pd g k a b c r l n add sh i) (fun i a hi ha => ?_) (fun a ha => ?_) (hS ▸ keepA_ent 19 _ _ _ _ st)
  · refine ⟨fun _ => ⟨⟨⟨by omega, by show (i : Int) < (n : Int); omega⟩, trivial⟩, ⟨hP i hi, ctrSelf_ok _, trivial⟩, fun hx => .inr ⟨rfl, ?_, Dyn.Fits.refl _⟩, fun hx => .inl ⟨rfl, ?_, ?_⟩⟩, fun hf => ?_⟩
    · simpa [hbN] using hx
    · simpa [hbN] using hx
    · rw [Wn1 hi hn]; exact Dyn.Fits.refl _
    · rw [decide_eq_false_iff_not] at hf
      exact absurd (show (i : Int) < (n : Int) by omega) hf
  · refine ⟨fun ht => ?_, fun _ => ⟨rfl, Dyn.Fits.refl _⟩⟩
    rw [decide_eq_true_eq] at ht
    exact absurd (show (n : Int) < (n : Int) from ht) (by omega)
def hbO (g : Sh → Bool) (sh : Nat → Sh) (s : Sh) : Dyn.RO :=
  .ite (s.k == 4) (.leaf (rB true)) (.side [hbS s 0 = hbS s 0] (.ite (runN (hbN g sh) () s.n).1 (.leaf (rB false)) (.leaf (rB true))))
theorem hb_O (Pd : Sh → Prop) (g : Sh → Bool) (sh : Nat → Sh) (s : Sh) : (Dyn.dfun Tryz.prog (tabHb Pd g) (hbLp g sh s) 3 Tryz.f30 [dvS s]).ro Tryz.prog Tryz.f30.results = hbO g sh s := by kernel_rfl
theorem hb_lvl {Pd : Sh → Prop} {g : Sh → Bool} (ih : ∀ x, Pd x → HbOk x g) (k : Int) (a b c : P2) (r : Int) (l : Ctr) (n : Nat) (add : Nat → Bool) (sh : Nat → Sh) (hn : n ≤ 1000000000) (hP : ∀ i, i < n → Pd (sh i)) : Dyn.CallD Tryz.prog 30 [dvS (mkSh k a b c r l n add sh)] (rB (hbG g sh (mkSh k a b c r l n add sh))) :=
  Dyn.dcontract (lp := hbLp g sh (mkSh k a b c r l n add sh)) (fuel := 3) (tabHb_ok ih) mo Tryz.func30 (by kernel_rfl) (c := bodyD Tryz.f30.body) (by kernel_rfl)
    (fun w0 => by rw [hb_blocks]; exact lpOk_cons (hb_loop ih k a b c r l n add sh hn hP w0) (lpOk_cons (fun s o h => by cases h) lpOk_nil))
    (by kernel_rfl) (hb_O Pd g sh _) (by
      unfold hbG
      refine ⟨fun h => ?_, fun h => ⟨⟨rfl, trivial⟩, fun h2 => ?_, fun h2 => ?_⟩⟩
      · rw [h]; exact ro_leaf rfl
      · rw [h, show (runN (hbN g sh) () (mkSh k a b c r l n add sh).n).1 = true from h2]; exact ro_leaf rfl
      · rw [h, show (runN (hbN g sh) () (mkSh k a b c r l n add sh).n).1 = false from h2]; exact ro_leaf rfl)
noncomputable def hbE (x : Sh) : Bool := hbF (ofSh x)
theorem hbE_eq (s : Shp) : hbE (toSh s) = hbF s := by unfold hbE; rw [ofSh_toSh]
theorem hbF_lvl (k : Int) (a b c : P2) (r : Int) (l : Ctr) (n : Nat) (add : Nat → Bool) (sub : Nat → Shp) : hbF (.mk k a b c r l n add sub) = hbG hbE (fun i => toSh (sub i)) (mkSh k a b c r l n add (fun i => toSh (sub i))) := by
  unfold hbG hbN
  simp only [hbE_eq]
  rfl
theorem hb_ok : ∀ s : Shp, ShB s → HbOk (toSh s) hbE := by
  intro s
  induction s with
  | nil => intro h; exact h.elim
  | mk k a b c r l n add sub ih =>
    intro h
    unfold HbOk
    rw [hbE_eq, hbF_lvl]
    exact hb_lvl (Pd := fun x => ∃ i, i < n ∧ x = toSh (sub i)) (fun x hx => by
      obtain ⟨i, hi, rfl⟩ := hx
      exact ih i (h.2.2 i hi)) k a b c r l n add (fun i => toSh (sub i)) h.2.1 (fun i hi => ⟨i, hi, rfl⟩)
theorem hb_all : ∀ x, PdS x → HbOk x hbE := fun x hx => by
  have k := hb_ok _ hx.1
  unfold HbOk at k
  rw [show hbE (toSh (ofSh x)) = hbE x by unfold hbE; rw [ofSh_toSh]] at k
  exact CallD_le (args := [dvS (toSh (ofSh x))]) ⟨SLe.dv hx.2, trivial⟩ k
/-! ### groups -/
structure Gr where
  n : Nat
  f : Nat → List Dyn.DC
  m : Nat
  h : Nat → List Dyn.DC
def dvG (x : Gr) : Dyn.DV := .agg [.row x.n x.f, .row x.m x.h]
def extC (b : B4) (q : Bool) : List Dyn.DC := [cI b.x0, cI b.y0, cI b.x1, cI b.y1, .p (vb q)]
def qG : Dec Gr
  | .agg [.row n f, .row m h] => some (⟨n, f, m, h⟩, [])
  | _ => none
theorem qG_ok : DecOk qG dvG (fun _ => True) := fun d x ps h hp => by
  unfold qG at h; split at h
  · simp only [Option.some.injEq, Prod.mk.injEq] at h
    obtain ⟨rfl, rfl⟩ := h
    exact ⟨⟨⟨rfl, fun _ _ => rfl⟩, ⟨rfl, fun _ _ => rfl⟩, trivial⟩, trivial⟩
  · cases h
/-- the objects of a group -/
noncomputable def ofG (x : Gr) : Shp := ofSh (obX x.n x.f)
def toG (s : Shp) : Gr := ⟨nuO s, fun i => partC (adO s i) (toSh (suO s i)), nuO s, fun i => extC (figBndC (suO s i)).1 (hbF (suO s i))⟩
def lst (s : Shp) : Shp := lForm (nuO s) (adO s) (suO s)
theorem ofG_toG (s : Shp) : ofG (toG s) = lst s := by
  show ofSh (toSh (lst s)) = lst s
  exact ofSh_toSh _
end Go.Proofs.YthnenjodighlmaaGreat

/-! ## Rgb -/
namespace Go.Proofs.YthnenjodighlmaaGreat
open Go Go.RowKit Sym
set_option maxRecDepth 100000

def dtyG (t : TypeId) : Bool := dtyO t || Nat.beq t 64 || Nat.beq t 82
def nilV : Value := .slice none 0 0
def slV (k n : Nat) : Value := .slice (some ⟨k, 0, some 0⟩) n 0
/-! ### reach -/
noncomputable def tdGc : List Dyn.EntryD := [(29, en1D (qAnd qS PdS) fun x => .tup [dvX (figBnd x).1, dvB (figBnd x).2]), (30, en1D (qAnd qS PdS) fun x => rB (hbE x))]
noncomputable def tabGc : Dyn.Tabs := Dyn.tabs tbF tdGc noD dtyG
theorem tabGc_ok : Dyn.TabsOk Tryz.prog tabGc := Dyn.tabs_ok tbF_ok (List.forall_mem_cons.2 ⟨en1D_ok (qAnd_ok qS_ok) fun x h => figBnd_ok x h.1, List.forall_mem_cons.2 ⟨en1D_ok (qAnd_ok qS_ok) fun x h => hb_all x h.1, fun _ h => by cases h⟩⟩)
noncomputable def gcKp (sh : Nat → Sh) (i : Nat) : Bool := (figBnd (sh i)).2
noncomputable def gcF (add : Nat → Bool) (sh : Nat → Sh) (n : Nat) (j : Nat) : List Dyn.DC := partC (add (kIx (gcKp sh) n j)) (sh (kIx (gcKp sh) n j))
noncomputable def gcH (sh : Nat → Sh) (n : Nat) (j : Nat) : List Dyn.DC := extC (figBnd (sh (kIx (gcKp sh) n j))).1 (hbE (sh (kIx (gcKp sh) n j)))
def gcS0 (s : Sh) (F H : Nat → List Dyn.DC) (c : Nat) (i : Int) : Dyn.St := mkS 39 [(2, sL 1), (3, sL 2), (8, sH 0 0 s.n), (9, sI s.n), (10, sI i)] [some (.deep [.row s.n s.f]), some (.cells 64 [nilV, nilV]), some (.cells 64 [slV 3 c, slV 4 c]), some (.own 47 c F), some (.own 82 c H)]
def gcK : List Nat := [2, 3, 8, 9, 10]
noncomputable def gcS (n : Nat) (add : Nat → Bool) (sh : Nat → Sh) (c : Nat) (i : Int) : Dyn.St := gcS0 (mkL n add sh) (gcF add sh n) (gcH sh n) c i
noncomputable def gcV (n : Nat) (add : Nat → Bool) (sh : Nat → Sh) (c i : Nat) : Dyn.St := gcS0 (mkL n add sh) (Dyn.appF c (gcF add sh n) (fun _ => partC (add i) (sh i))) (Dyn.appF c (gcH sh n) (fun _ => extC (figBnd (sh i)).1 (hbE (sh i)))) (c + 1) (W (i + 1))
noncomputable def gcLp (n : Nat) (add : Nat → Bool) (sh : Nat → Sh) : Dyn.Lp := fun id st => match id with
  | 0 => some (.side [Dyn.nilCell 2 1 82 (gcH sh n) (Dyn.nilCell 2 0 47 (gcF add sh n) (keepA 39 [0, 1, 2] [] gcK (2 ^ 10) st)) = gcS n add sh 0 0] (.leaf .normal (gcS n add sh (kN (gcKp sh) n) n)))
  | _ => none
noncomputable def gcB (n : Nat) (add : Nat → Bool) (sh : Nat → Sh) (c i : Nat) : Dyn.Out :=
  .ite (decide ((i : Int) < (n : Int))) (.side [0 ≤ (i : Int) ∧ (i : Int) < (n : Int)] (.side [PdS (sh i), ctrSelf (sh i).l] (.ite (figBnd (sh i)).2 (.side [szP 120 c] (.side [PdS (sh i), ctrSelf (sh i).l, szP 40 c] (.leaf .normal (gcV n add sh c i)))) (.leaf .normal (gcS n add sh c (W (i + 1))))))) (.leaf (.exit 0) (gcS n add sh c i))
theorem gc_B (n : Nat) (add : Nat → Bool) (sh : Nat → Sh) (c i : Nat) : (Dyn.lexec Tryz.prog tabGc (gcLp n add sh) 3 (unloopD (blkD Tryz.f17.body 0)) .leaf (gcS n add sh c i)).rl (keepCR 39 [0, 1, 2] [] [(2, 0), (2, 1)] gcK [] []) = gcB n add sh c i := by kernel_rfl
theorem gc_blocks : blocksL (bodyD Tryz.f17.body) = [(0, .loop (unloopD (blkD Tryz.f17.body 0))), (1, blkD Tryz.f17.body 1)] := by kernel_rfl
theorem gc_b0 : blocksL (unloopD (blkD Tryz.f17.body 0)) = [(1, blkD Tryz.f17.body 1)] := by kernel_rfl
theorem gc_loop (n : Nat) (add : Nat → Bool) (sh : Nat → Sh) (hn : n ≤ 1000000000) (hP : ∀ i, i < n → PdS (sh i)) (w0 : Dyn.Base Tryz.prog) (st : Dyn.St) (o : Dyn.Out) (h : gcLp n add sh 0 st = some o) : Dyn.BlockSound Tryz.prog w0 0 (.loop (unloopD (blkD Tryz.f17.body 0))) st o := by
  simp only [gcLp, Option.some.injEq] at h
  subst h
  refine side_one fun hS => ?_
  refine fold_block (fuel := 3) tabGc_ok mo (lp := gcLp n add sh) (by rw [gc_b0]; exact lpOk_cons (fun s o h => by cases h) lpOk_nil) (fun i (_ : Unit) => gcS n add sh (kN (gcKp sh) i) i) n (fun _ _ => ()) () (keepCR 39 [0, 1, 2] [] [(2, 0), (2, 1)] gcK [] []) (keepCR_ent 39 _ _ _ _ _ _) (fun i _ => gcB n add sh (kN (gcKp sh) i) i) (fun i _ => gc_B n add sh (kN (gcKp sh) i) i) (fun i hi => ?_) ?_ (hS ▸ ((keepA_ent 39 _ _ _ _ st).trans (Dyn.Ent.nilCell (P := Tryz.prog) (k := 10) (by kernel_rfl) _ _)).trans (Dyn.Ent.nilCell (P := Tryz.prog) (k := 4) (by kernel_rfl) _ _))
  · have hk := kN_le (gcKp sh) i
    refine ⟨fun _ => ⟨⟨⟨by omega, by omega⟩, trivial⟩, ⟨hP i hi, ctrSelf_ok _, trivial⟩, fun hx => ⟨⟨szP_ok (by decide) (by omega), trivial⟩, ⟨hP i hi, ctrSelf_ok _, szP_ok (by decide) (by omega), trivial⟩, rfl, ?_⟩, fun hx => ⟨rfl, ?_⟩⟩, fun hf => ?_⟩
    · unfold gcV
      rw [Wn1 hi hn, kN_step (gcKp sh) hx]
      have e := kIx_at (gcKp sh) hx hi
      exact ⟨rfl, Dyn.HeLe.refl _, Dyn.HeLe.refl _, Dyn.HeLe.refl _, le_app (by unfold gcF; rw [e]), le_app (by unfold gcH; rw [e]), trivial⟩
    · rw [Wn1 hi hn, kN_skip (gcKp sh) hx]; exact Dyn.Fits.refl _
    · rw [decide_eq_false_iff_not] at hf
      exact absurd (show (i : Int) < (n : Int) by omega) hf
  · refine ⟨fun ht => ?_, fun _ => ⟨rfl, Dyn.Fits.refl _⟩⟩
    rw [decide_eq_true_eq] at ht
    exact absurd (show (n : Int) < (n : Int) from ht) (by omega)
noncomputable def gcR (n : Nat) (add : Nat → Bool) (sh : Nat → Sh) : Dyn.RV := .val (dvG ⟨kN (gcKp sh) n, gcF add sh n, kN (gcKp sh) n, gcH sh n⟩)
theorem gc_O (n : Nat) (add : Nat → Bool) (sh : Nat → Sh) : (Dyn.dfun Tryz.prog tabGc (gcLp n add sh) 3 Tryz.f17 [dvL (mkL n add sh)]).ro Tryz.prog Tryz.f17.results = .side [gcS n add sh 0 0 = gcS n add sh 0 0] (.leaf (gcR n add sh)) := by kernel_rfl
theorem gc_lvl (n : Nat) (add : Nat → Bool) (sh : Nat → Sh) (hn : n ≤ 1000000000) (hP : ∀ i, i < n → PdS (sh i)) : Dyn.CallD Tryz.prog 17 [dvL (mkL n add sh)] (gcR n add sh) :=
  Dyn.dcontract (lp := gcLp n add sh) (fuel := 3) tabGc_ok mo Tryz.func17 (by kernel_rfl) (c := bodyD Tryz.f17.body) (by kernel_rfl)
    (fun w0 => by rw [gc_blocks]; exact lpOk_cons (gc_loop n add sh hn hP w0) (lpOk_cons (fun s o h => by cases h) lpOk_nil))
    (by kernel_rfl) (gc_O n add sh) ⟨⟨rfl, trivial⟩, ro_leaf rfl⟩
theorem greach_ok : ∀ s : Shp, ShB s → Dyn.CallD Tryz.prog 17 [dvL (toSh s)] (.val (dvG (toG (reachF s)))) := by
  intro s h
  cases s with
  | nil => exact h.elim
  | mk k a b c r l n add sub =>
    have q := gc_lvl n add (fun i => toSh (sub i)) h.2.1 fun i hi => PdS_mk (h.2.2 i hi)
    unfold gcR gcF gcH at q
    have e : gcKp (fun i => toSh (sub i)) = rchK (.mk k a b c r l n add sub) := funext fun i => by unfold gcKp rchK; rw [figBnd_C]; rfl
    rw [e] at q
    simp only [figBnd_C, hbE_eq] at q
    exact q
/-! ### near -/
def gnKp (B : Nat → B4) (q : Nat → Bool) (b : B4) (i : Nat) : Bool := bif q i then true else !(apart (B i) b)
def gnF0 (add : Nat → Bool) (sh : Nat → Sh) (i : Nat) : List Dyn.DC := partC (add i) (sh i)
def gnH0 (B : Nat → B4) (q : Nat → Bool) (i : Nat) : List Dyn.DC := extC (B i) (q i)
def gnF (add : Nat → Bool) (sh : Nat → Sh) (B : Nat → B4) (q : Nat → Bool) (b : B4) (n : Nat) (j : Nat) : List Dyn.DC := gnF0 add sh (kIx (gnKp B q b) n j)
def gnH (B : Nat → B4) (q : Nat → Bool) (b : B4) (n : Nat) (j : Nat) : List Dyn.DC := gnH0 B q (kIx (gnKp B q b) n j)
def tabGn : Dyn.Tabs := Dyn.tabs tbF [] noD dtyG
theorem tabGn_ok : Dyn.TabsOk Tryz.prog tabGn := Dyn.tabs_ok tbF_ok (fun _ h => by cases h)
def gnS0 (n : Nat) (f h : Nat → List Dyn.DC) (b : B4) (F H : Nat → List Dyn.DC) (c : Nat) (i : Int) : Dyn.St := mkS 43 [(2, sL 1), (3, sL 2), (4, sL 3), (5, sL 4), (9, sH 0 1 n), (10, sI n), (11, sI i)]
  [some (.deep [.row n f, .row n h]), some (.cells 64 [.slice (some ⟨0, 0, some 0⟩) n 0, .slice (some ⟨0, 1, some 0⟩) n 0]), some (.cells 27 (bxV b)), some (.cells 64 [nilV, nilV]), some (.cells 64 [slV 5 c, slV 6 c]), some (.own 47 c F), some (.own 82 c H)]
def gnK : List Nat := [2, 3, 4, 5, 9, 10, 11]
def gnS (n : Nat) (add : Nat → Bool) (sh : Nat → Sh) (B : Nat → B4) (q : Nat → Bool) (b : B4) (c : Nat) (i : Int) : Dyn.St := gnS0 n (gnF0 add sh) (gnH0 B q) b (gnF add sh B q b n) (gnH B q b n) c i
def gnV (n : Nat) (add : Nat → Bool) (sh : Nat → Sh) (B : Nat → B4) (q : Nat → Bool) (b : B4) (c i : Nat) : Dyn.St := gnS0 n (gnF0 add sh) (gnH0 B q) b (Dyn.appF c (gnF add sh B q b n) (fun _ => gnF0 add sh i)) (Dyn.appF c (gnH B q b n) (fun _ => gnH0 B q i)) (c + 1) (W (i + 1))
def gnLp (n : Nat) (add : Nat → Bool) (sh : Nat → Sh) (B : Nat → B4) (q : Nat → Bool) (b : B4) : Dyn.Lp := fun id st => match id with
  | 0 => some (.side [Dyn.nilCell 4 1 82 (gnH B q b n) (Dyn.nilCell 4 0 47 (gnF add sh B q b n) (keepA 43 [0, 1, 2, 3, 4] [] gnK (2 ^ 11) st)) = gnS n add sh B q b 0 0] (.leaf .normal (gnS n add sh B q b (kN (gnKp B q b) n) n)))
  | _ => none
def gnB (n : Nat) (add : Nat → Bool) (sh : Nat → Sh) (B : Nat → B4) (q : Nat → Bool) (b : B4) (c i : Nat) : Dyn.Out :=
  .ite (decide ((i : Int) < (n : Int))) (.side [0 ≤ (i : Int) ∧ (i : Int) < (n : Int)] (.ite (gnKp B q b i) (.side [0 ≤ (i : Int) ∧ (i : Int) < (n : Int), szP 120 c] (.side [szP 40 c] (.leaf .normal (gnV n add sh B q b c i)))) (.leaf .normal (gnS n add sh B q b c (W (i + 1)))))) (.leaf (.exit 0) (gnS n add sh B q b c i))
theorem gn_B (n : Nat) (add : Nat → Bool) (sh : Nat → Sh) (B : Nat → B4) (q : Nat → Bool) (b : B4) (c i : Nat) : (Dyn.lexec Tryz.prog tabGn (gnLp n add sh B q b) 3 (unloopD (blkD Tryz.f18.body 0)) .leaf (gnS n add sh B q b c i)).rl (keepCR 43 [0, 1, 2, 3, 4] [] [(4, 0), (4, 1)] gnK [] []) = gnB n add sh B q b c i := by kernel_rfl
theorem gn_blocks : blocksL (bodyD Tryz.f18.body) = [(0, .loop (unloopD (blkD Tryz.f18.body 0))), (1, blkD Tryz.f18.body 1)] := by kernel_rfl
theorem gn_b0 : blocksL (unloopD (blkD Tryz.f18.body 0)) = [(1, blkD Tryz.f18.body 1)] := by kernel_rfl
theorem gn_loop (n : Nat) (add : Nat → Bool) (sh : Nat → Sh) (B : Nat → B4) (q : Nat → Bool) (b : B4) (hn : n ≤ 1000000000) (w0 : Dyn.Base Tryz.prog) (st : Dyn.St) (o : Dyn.Out) (h : gnLp n add sh B q b 0 st = some o) : Dyn.BlockSound Tryz.prog w0 0 (.loop (unloopD (blkD Tryz.f18.body 0))) st o := by
  simp only [gnLp, Option.some.injEq] at h
  subst h
  refine side_one fun hS => ?_
  refine fold_block (fuel := 3) tabGn_ok mo (lp := gnLp n add sh B q b) (by rw [gn_b0]; exact lpOk_cons (fun s o h => by cases h) lpOk_nil) (fun i (_ : Unit) => gnS n add sh B q b (kN (gnKp B q b) i) i) n (fun _ _ => ()) () (keepCR 43 [0, 1, 2, 3, 4] [] [(4, 0), (4, 1)] gnK [] []) (keepCR_ent 43 _ _ _ _ _ _) (fun i _ => gnB n add sh B q b (kN (gnKp B q b) i) i) (fun i _ => gn_B n add sh B q b (kN (gnKp B q b) i) i) (fun i hi => ?_) ?_ (hS ▸ ((keepA_ent 43 _ _ _ _ st).trans (Dyn.Ent.nilCell (P := Tryz.prog) (k := 10) (by kernel_rfl) _ _)).trans (Dyn.Ent.nilCell (P := Tryz.prog) (k := 4) (by kernel_rfl) _ _))
  · have hk := kN_le (gnKp B q b) i
    refine ⟨fun _ => ⟨⟨⟨by omega, by omega⟩, trivial⟩, fun hx => ⟨⟨⟨by omega, by omega⟩, szP_ok (by decide) (by omega), trivial⟩, ⟨szP_ok (by decide) (by omega), trivial⟩, rfl, ?_⟩, fun hx => ⟨rfl, ?_⟩⟩, fun hf => ?_⟩
    · unfold gnV
      rw [Wn1 hi hn, kN_step (gnKp B q b) hx]
      have e := kIx_at (gnKp B q b) hx hi
      exact ⟨rfl, Dyn.HeLe.refl _, Dyn.HeLe.refl _, Dyn.HeLe.refl _, Dyn.HeLe.refl _, Dyn.HeLe.refl _, le_app (by unfold gnF; rw [e]), le_app (by unfold gnH; rw [e]), trivial⟩
    · rw [Wn1 hi hn, kN_skip (gnKp B q b) hx]; exact Dyn.Fits.refl _
    · rw [decide_eq_false_iff_not] at hf
      exact absurd (show (i : Int) < (n : Int) by omega) hf
  · refine ⟨fun ht => ?_, fun _ => ⟨rfl, Dyn.Fits.refl _⟩⟩
    rw [decide_eq_true_eq] at ht
    exact absurd (show (n : Int) < (n : Int) from ht) (by omega)
def gnR (n : Nat) (add : Nat → Bool) (sh : Nat → Sh) (B : Nat → B4) (q : Nat → Bool) (b : B4) : Dyn.RV := .val (dvG ⟨kN (gnKp B q b) n, gnF add sh B q b n, kN (gnKp B q b) n, gnH B q b n⟩)
theorem gn_O (n : Nat) (add : Nat → Bool) (sh : Nat → Sh) (B : Nat → B4) (q : Nat → Bool) (b : B4) : (Dyn.dfun Tryz.prog tabGn (gnLp n add sh B q b) 3 Tryz.f18 [dvG ⟨n, gnF0 add sh, n, gnH0 B q⟩, dvX b]).ro Tryz.prog Tryz.f18.results = .side [gnS n add sh B q b 0 0 = gnS n add sh B q b 0 0] (.leaf (gnR n add sh B q b)) := by kernel_rfl
theorem gn_lvl (n : Nat) (add : Nat → Bool) (sh : Nat → Sh) (B : Nat → B4) (q : Nat → Bool) (b : B4) (hn : n ≤ 1000000000) : Dyn.CallD Tryz.prog 18 [dvG ⟨n, gnF0 add sh, n, gnH0 B q⟩, dvX b] (gnR n add sh B q b) :=
  Dyn.dcontract (lp := gnLp n add sh B q b) (fuel := 3) tabGn_ok mo Tryz.func18 (by kernel_rfl) (c := bodyD Tryz.f18.body) (by kernel_rfl)
    (fun w0 => by rw [gn_blocks]; exact lpOk_cons (gn_loop n add sh B q b hn w0) (lpOk_cons (fun s o h => by cases h) lpOk_nil))
    (by kernel_rfl) (gn_O n add sh B q b) ⟨⟨rfl, trivial⟩, ro_leaf rfl⟩
theorem near_ok0 (s : Shp) (h : nuO s ≤ 1000000000) (b : B4) : Dyn.CallD Tryz.prog 18 [dvG (toG s), dvX b] (.val (dvG (toG (nearG s b)))) :=
  gn_lvl (nuO s) (adO s) (fun i => toSh (suO s i)) (fun i => (figBndC (suO s i)).1) (fun i => hbF (suO s i)) b h
/-! ### groups that show objects -/
def PdG (x : Gr) : Prop := PdS (obX x.n x.f) ∧ x.m = x.n ∧ ∀ i, i < x.n → x.h i = extC (figBndC (suO (ofG x) i)).1 (hbF (suO (ofG x) i))
theorem PdG_mk {s : Shp} (h : ShB (lst s)) : PdG (toG s) := by
  refine ⟨PdS_mk (s := lst s) h, rfl, fun i hi => ?_⟩
  rw [ofG_toG]; rfl
theorem obX_nu {n : Nat} {f : Nat → List Dyn.DC} (h : PdS (obX n f)) : nuO (ofSh (obX n f)) = n ∧ ∀ i, i < n → f i = partC (adO (ofSh (obX n f)) i) (toSh (suO (ofSh (obX n f)) i)) := by
  have k := h.2
  cases e : ofSh (obX n f) with
  | nil => have := h.1; rw [e] at this; exact this.elim
  | mk k' a b c r l m add sub =>
    rw [e] at k
    obtain ⟨_, _, _, _, _, _, k7, k8⟩ := k
    have k7 : n = m := k7
    exact ⟨k7.symm, fun i hi => k8 i hi⟩
theorem PdG.le {x : Gr} (h : PdG x) : Dyn.DVLe (dvG x) (dvG (toG (ofG x))) := by
  have k := obX_nu h.1
  exact ⟨⟨k.1.symm, k.2⟩, ⟨h.2.1.trans k.1.symm, fun i hi => h.2.2 i (by rw [← h.2.1]; exact hi)⟩, trivial⟩
theorem PdG.B {x : Gr} (h : PdG x) : ShB (ofG x) := h.1.1
theorem lst_B {s : Shp} (h : ShB s) : ShB (lst s) := by
  cases s with
  | nil => exact h.elim
  | mk k a b c r l n add sub => exact ⟨CtrB_ze, h.2.1, h.2.2⟩
theorem fil_B {s : Shp} (h : ShB s) (keep : Nat → Bool) : ShB (filL keep s) := by
  cases s with
  | nil => exact h.elim
  | mk k a b c r l n add sub =>
    refine ⟨CtrB_ze, Nat.le_trans (kN_le keep n) h.2.1, fun i hi => ?_⟩
    exact h.2.2 _ (kIx_lt keep hi).1
theorem ShB_nu {s : Shp} (h : ShB s) : nuO s ≤ 1000000000 := by
  cases s with
  | nil => exact h.elim
  | mk k a b c r l n add sub => exact h.2.1
noncomputable def nearE (x : Gr) (b : B4) : Gr := toG (nearG (ofG x) b)
theorem nearE_Pd {x : Gr} (h : PdG x) (b : B4) : PdG (nearE x b) := PdG_mk (lst_B (fil_B h.B _))
theorem gnear_all (x : Gr) (h : PdG x) (b : B4) : Dyn.CallD Tryz.prog 18 [dvG x, dvX b] (.val (dvG (nearE x b))) :=
  CallD_le (args := [dvG (toG (ofG x)), dvX b]) ⟨h.le, Dyn.DVLe.refl _, trivial⟩ (near_ok0 (ofG x) (ShB_nu h.B) b)
noncomputable def reachE (x : Sh) : Gr := toG (reachF (ofSh x))
theorem reachE_Pd {x : Sh} (h : PdS x) : PdG (reachE x) := PdG_mk (lst_B (fil_B h.1 _))
theorem greach_all (x : Sh) (h : PdS x) : Dyn.CallD Tryz.prog 17 [dvL x] (.val (dvG (reachE x))) :=
  CallD_le (args := [dvL (toSh (ofSh x))]) ⟨SLe.dvL h.2, trivial⟩ (greach_ok (ofSh x) h.1)
end Go.Proofs.YthnenjodighlmaaGreat

/-! ## Rgc -/
namespace Go.Proofs.YthnenjodighlmaaGreat
open Go Go.RowKit Sym
set_option maxRecDepth 100000

theorem run_enter {P : Program} {K : Nat} {fn : Func} (hf : P.funcs[K]? = some fn) (hn : (fn.name == "runtime.NumGoroutine") = false) (hb : fn.body.isSome = true) {us : Array Value} {w : World} : (callFunc K us).run P w = .ok (.enter K us) w := by
  obtain ⟨c, hc⟩ := Option.isSome_iff_exists.1 hb
  unfold callFunc
  simp only [Sem.run_bind, run_program, Result.andThen_ok, hf, hn, hc]
  simp
theorem callX_walk {P : Program} {K : Nat} {fn : Func} (hf : P.funcs[K]? = some fn) (hn : (fn.name == "runtime.NumGoroutine") = false) (hb : fn.body.isSome = true) {az : List Dyn.LA} {lent : Dyn.Lent} {u : Value} {out : List (List Value)}
    (h : ∀ (w : World) (F : Nat → Prop) (bs : List Nat) (us : List Value), Dyn.LentAt w bs lent → Dyn.DenLAs w F bs az us → Calls P K us.toArray w fun e w'' => e = .returned u ∧ Dyn.LentPost w w'' bs (Dyn.zipL lent out)) : Dyn.CallX P K az lent u out := by
  intro w F bs us hF hnd hdis hla hden
  rw [run_enter hf hn hb]
  exact ⟨rfl, h w F bs us hla hden⟩
/-- what a block of two cells shows -/
theorem cell0 {w : World} {b : Nat} {t : TypeId} {m a : Value} (h : w.heap[b]? = some (.cells [m, a].toArray t (0, 0))) : w.cell? ⟨b, 0, none⟩ = some m := by simp [World.cell?, h]
theorem cell1 {w : World} {b : Nat} {t : TypeId} {m a : Value} (h : w.heap[b]? = some (.cells [m, a].toArray t (0, 0))) : w.cell? ⟨b, 1, none⟩ = some a := by simp [World.cell?, h]
theorem froz1 {w : World} {b i : Nat} {t : TypeId} {m a : Value} (h : w.heap[b]? = some (.cells [m, a].toArray t (0, 0))) : w.frozen? ⟨b, i, none⟩ = false := by simp [World.frozen?, h]
theorem set1 {w : World} {b : Nat} {t : TypeId} {m a v : Value} (h : w.heap[b]? = some (.cells [m, a].toArray t (0, 0))) : (w.setCell ⟨b, 1, none⟩ v).heap[b]? = some (.cells [m, v].toArray t (0, 0)) := by
  simp [World.setCell, Array.getElem?_modify, h]
theorem setO {w : World} {b k i : Nat} {v : Value} (h : k ≠ b) : (w.setCell ⟨b, i, none⟩ v).heap[k]? = w.heap[k]? := by
  simp [World.setCell, Array.getElem?_modify, Ne.symm h]
theorem post_set {w w2 : World} {b : Nat} {t : TypeId} {m a v : Value} (h : w.heap[b]? = some (.cells [m, a].toArray t (0, 0))) (h1 : w2.heap = (w.setCell ⟨b, 1, none⟩ v).heap) (h2 : w2.os = w.os) (h3 : w2.tape = w.tape) (h4 : w2.output = w.output) : Dyn.LentPost w w2 [b] [(t, [m, v])] :=
  ⟨h2, h3, h4, by rw [h1, World.size_setCell]; exact Nat.le_refl _, fun k _ hk => by rw [h1]; exact setO (by simpa using hk), by rw [h1]; exact set1 h, trivial⟩
theorem lent1 {w : World} {F : Nat → Prop} {bs : List Nat} {us : List Value} {t : TypeId} {cs : List Value} {off : Nat} {l : List Dyn.LA} (hla : Dyn.LentAt w bs [(t, cs)]) (hden : Dyn.DenLAs w F bs (.lp 0 off :: l) us) : ∃ b vs, bs = [b] ∧ w.heap[b]? = some (.cells cs.toArray t (0, 0)) ∧ us = .pointer (some ⟨b, off, none⟩) :: vs ∧ Dyn.DenLAs w F [b] l vs := by
  match bs, hla with
  | [b], hla =>
    match us, hden with
    | u :: vs, hden =>
      obtain ⟨⟨b', h1, h2⟩, h3⟩ := hden
      simp only [List.getElem?_cons_zero, Option.some.injEq] at h1
      subst h1; subst h2
      exact ⟨b, vs, rfl, hla.1, rfl, h3⟩
def capM (x : Int) : Int := imax 0 (imin x 100000000)
theorem capM_1 {x : Int} (h : 100000000 < x) : capM x = 100000000 := by unfold capM imax imin; repeat' split <;> omega
theorem capM_2 {x : Int} (h : x ≤ 100000000) (h2 : 0 < x) : capM x = x := by unfold capM imax imin; repeat' split <;> omega
theorem capM_3 {x : Int} (h : x ≤ 0) : capM x = 0 := by unfold capM imax imin; repeat' split <;> omega
theorem heap_new (w : World) (o : Obj) : (w.alloc o).heap[w.heap.size]? = some o := by
  show (w.heap.push o)[w.heap.size]? = some o
  rw [Array.getElem?_push, if_pos rfl]
theorem newMeter_walk (x : Int) (w : World) : Calls Tryz.prog 8 #[vi x] w fun e w' => e = .returned (.pointer (some ⟨w.heap.size, 0, none⟩)) ∧ w' = w.alloc (.cells #[vi (capM x), vi 0] 59) := by
  go_enter Tryz.func8, Tryz.ntmps8
  go_wp2
  all_goals simp [bodyPost, results, Tryz.results8, go_sem]
  · rw [capM_1 h]
  · rename_i h2; rw [capM_2 h2 h]
  · rw [capM_3 h]
def nwM (K : Nat) : Option (Value → Option (TypeId × List Value)) := bif Nat.beq K 8 then some (fun v => match v with
  | .int .i64 x => some (59, [vi (capM x), vi 0])
  | _ => none) else none
theorem nwM_ok : ∀ K f, nwM K = some f → Dyn.NewP Tryz.prog K f := fun K f h u t cs hf w => by
  unfold nwM at h
  cases hk : Nat.beq K 8 with
  | false => rw [hk] at h; cases h
  | true =>
    rw [hk] at h
    have e := Nat.eq_of_beq_eq_true hk
    subst e
    simp only [cond_true, Option.some.injEq] at h
    subst h
    dsimp only at hf
    split at hf
    · rename_i x
      simp only [Option.some.injEq, Prod.mk.injEq] at hf
      obtain ⟨rfl, rfl⟩ := hf
      rw [run_enter Tryz.func8 (by kernel_rfl) (by kernel_rfl)]
      refine ⟨rfl, (newMeter_walk x w).mono ?_⟩
      rintro e w'' ⟨rfl, rfl⟩
      refine ⟨w.heap.size, rfl, heap_new w _, Nat.le_refl _, by rw [World.size_alloc]; omega, rfl, rfl, rfl, by rw [World.size_alloc]; omega, fun k hk => ?_⟩
      simp only [World.alloc, Array.getElem?_push]
      rw [if_neg (by omega)]
    · cases hf
theorem run_add {P : Program} (a d : Int) (w : World) : (Op.intArith .add .i64 a d).run P w = .ok (.int .i64 (W (a + d))) w := rfl
theorem add_walk (b : Nat) (m a d : Int) (t : TypeId) (w : World) (h : w.heap[b]? = some (.cells [vi m, vi a].toArray t (0, 0))) : Calls Tryz.prog 21 #[.pointer (some ⟨b, 1, none⟩), vi d] w fun e w' => e = .returned (vi (W (a + d))) ∧ w' = w.setCell ⟨b, 1, none⟩ (vi (W (a + d))) := by
  have hc : w.cell? ⟨b, 1, none⟩ = some (.int .i64 a) := cell1 h
  have hz : w.frozen? ⟨b, 1, none⟩ = false := froz1 h
  have hadd := run_call_add (P := Tryz.prog) Tryz.func36 (by kernel_rfl) (by kernel_rfl) (by kernel_rfl) .i64 (by kernel_rfl) (y := d) (s := W (a + d)) hc hz (run_add a d w)
  go_enter Tryz.func21, Tryz.ntmps21
  go_wp2
  simp [bodyPost, results, Tryz.results21, go_sem]
theorem load_walk (b off : Nat) (a : Int) (w : World) (hc : w.cell? ⟨b, off, none⟩ = some (.int .i64 a)) : Calls Tryz.prog 22 #[.pointer (some ⟨b, off, none⟩)] w fun e w' => e = .returned (vi a) ∧ w' = w := by
  have hl := run_call_load (P := Tryz.prog) Tryz.func37 (by kernel_rfl) (by kernel_rfl) (by kernel_rfl) .i64 (by kernel_rfl) hc
  go_enter Tryz.func22, Tryz.ntmps22
  go_wp2
  simp [bodyPost, results, Tryz.results22, go_sem]
set_option maxHeartbeats 4000000 in
theorem take_walk (b : Nat) (m a : Int) (t : TypeId) (w : World) (h : w.heap[b]? = some (.cells [vi m, vi a].toArray t (0, 0))) : Calls Tryz.prog 12 #[.pointer (some ⟨b, 0, none⟩)] w fun e w' => e = .returned (vb (decide (W (a + 1) ≤ m))) ∧ Dyn.LentPost w w' [b] [(t, [vi m, vi (W (a + 1))])] := by
  have c0 : w.cell? ⟨b, 0, none⟩ = some (.int .i64 m) := cell0 h
  have c1 : w.cell? ⟨b, 1, none⟩ = some (.int .i64 a) := cell1 h
  go_enter Tryz.func12, Tryz.ntmps12
  go_wp2
  have c0' : ∀ v : Value, (w.drew.setCell ⟨b, 1, none⟩ v).cell? ⟨b, 0, none⟩ = some (.int .i64 m) := fun v => by rw [World.cell?_setCell_other _ _ _ _ (by simp)]; exact c0
  go_region_with (go_at_call 21; refine (add_walk b m a 1 t w.drew h).mono ?_; rintro e w'' ⟨rfl, rfl⟩)
  all_goals go_wp2
  all_goals simp [bodyPost, results, Tryz.results12, go_sem]
  all_goals exact post_set h rfl rfl rfl rfl
theorem take_x (m a : Int) : Dyn.CallX Tryz.prog 12 [.lp 0 0] [(59, [vi m, vi a])] (vb (decide (W (a + 1) ≤ m))) [[vi m, vi (W (a + 1))]] :=
  callX_walk Tryz.func12 (by kernel_rfl) (by kernel_rfl) fun w F bs us hla hden => by
    obtain ⟨b, vs, rfl, hb, rfl, hd⟩ := lent1 hla hden
    cases vs with
    | nil => exact take_walk b m a _ w hb
    | cons v vs => exact hd.elim
theorem imin_l {a m : Int} (h : m < a) : m = imin a m := by unfold imin; split <;> omega
theorem imin_r {a m : Int} (h : a ≤ m) : a = imin a m := by unfold imin; split <;> omega
set_option maxHeartbeats 4000000 in
theorem used_walk (b off : Nat) (m a : Int) (w : World) (c0 : w.cell? ⟨b, off, none⟩ = some (.int .i64 m)) (c1 : w.cell? ⟨b, off + 1, none⟩ = some (.int .i64 a)) : Calls Tryz.prog 13 #[.pointer (some ⟨b, off, none⟩)] w fun e w' => e = .returned (vi (imin a m)) ∧ w' = w.drew := by
  go_enter Tryz.func13, Tryz.ntmps13
  go_wp2
  have c0' : w.drew.cell? ⟨b, off, none⟩ = some (.int .i64 m) := c0
  have c1' : w.drew.cell? ⟨b, off + 1, none⟩ = some (.int .i64 a) := c1
  go_region_with (go_at_call 22; refine (load_walk b (off + 1) a w.drew c1').mono ?_; rintro e w'' ⟨rfl, rfl⟩)
  all_goals go_wp2
  all_goals simp [bodyPost, results, Tryz.results13, go_sem]
  all_goals first | exact imin_l (by assumption) | exact imin_r (by assumption)
end Go.Proofs.YthnenjodighlmaaGreat

/-! ## Rgd -/
namespace Go.Proofs.YthnenjodighlmaaGreat
open Go Go.RowKit Sym
set_option maxRecDepth 100000

def mtL (most a : Int) : Dyn.Lent := [(59, [vi most, vi a])]
def mtO (most a : Int) : List (List Value) := [[vi most, vi a]]
def exV (lo hi e : Int) : Value := .tuple ⟨[.agg ⟨[vi lo, vi hi]⟩, vi e]⟩
theorem denP {w : World} {F : Nat → Prop} {x u : Value} (h : Dyn.DenC w F (.p x) u) : u = x := by cases h; rfl
theorem used_d (m a : Int) : Dyn.CallD Tryz.prog 13 [.one (.ptr [cI m, cI a])] (rI (imin a m)) := fun w F us hF hd => by
  match us, hd with
  | [u], hd =>
    have hd := hd.1
    cases hd with
    | ptr cs b off g hFb hc hg =>
      have g0 : g 0 = vi m := denP (hg 0 (show 0 < 2 by decide))
      have g1 : g 1 = vi a := denP (hg 1 (show 1 < 2 by decide))
      have c0 := hc 0 (show 0 < 2 by decide)
      have c1 := hc 1 (show 1 < 2 by decide)
      rw [g0] at c0; rw [g1] at c1
      rw [show [Value.pointer (some ⟨b, off, none⟩)].toArray = #[.pointer (some ⟨b, off, none⟩)] from rfl, run_enter Tryz.func13 (by kernel_rfl) (by kernel_rfl)]
      refine ⟨rfl, (used_walk b off m a w c0 c1).mono ?_⟩
      rintro e w'' ⟨rfl, rfl⟩
      exact ⟨_, rfl, .p _ rfl, rfl, rfl, rfl, Nat.le_refl _, fun _ _ => rfl⟩
def enUsed : List Dyn.DV → Option (Dyn.RV × List Prop)
  | [.one (.ptr [.p (.int .i64 m), .p (.int .i64 a)])] => some (rI (imin a m), [])
  | _ => none
theorem enUsed_ok : Dyn.EntryDOk Tryz.prog (13, enUsed) := fun args r ps h hp => by
  dsimp only at h
  unfold enUsed at h
  split at h
  · simp only [Option.some.injEq, Prod.mk.injEq] at h
    obtain ⟨rfl, rfl⟩ := h
    exact used_d _ _
  · cases h
def enTake : List Dyn.LA → Dyn.Lent → Option (Value × List (List Value) × List Prop)
  | [.lp 0 0], [(t, [.int .i64 most, .int .i64 a])] => match Nat.beq t 59 with
    | true => some (vb (decide (W (a + 1) ≤ most)), mtO most (W (a + 1)), [])
    | false => none
  | _, _ => none
theorem enTake_ok : Dyn.EntryXOk Tryz.prog (12, enTake) := fun az lent u out ps h hp => by
  dsimp only at h
  unfold enTake at h
  split at h
  · rename_i t most a
    split at h
    · rename_i ht
      have e1 := Nat.eq_of_beq_eq_true ht
      subst e1
      simp only [Option.some.injEq, Prod.mk.injEq] at h
      obtain ⟨rfl, rfl, rfl⟩ := h
      exact take_x most a
    · cases h
  · cases h
theorem CallX_le2 {P : Program} {K : Nat} {u u' v v' : Dyn.DV} {l : List Dyn.LA} {lent : Dyn.Lent} {r : Value} {o : List (List Value)} (h1 : Dyn.DVLe u u') (h2 : Dyn.DVLe v v') (k : Dyn.CallX P K (.d u' :: .d v' :: l) lent r o) : Dyn.CallX P K (.d u :: .d v :: l) lent r o := fun w F bs us hF hn hd hl hden => k w F bs us hF hn hd hl (by
  cases us with
  | nil => exact hden
  | cons x us =>
    cases us with
    | nil => exact ⟨Dyn.DenV_le h1 hden.1, hden.2⟩
    | cons y us => exact ⟨Dyn.DenV_le h1 hden.1, Dyn.DenV_le h2 hden.2.1, hden.2.2⟩)
abbrev ExF := Gr → B4 → Int → Int → ExR
def enExam (k : Int) (F : ExF) : List Dyn.LA → Dyn.Lent → Option (Value × List (List Value) × List Prop)
  | [.d g, .d u, .d (.one (.p (.int .i64 d))), .lp 0 0], [(t, [.int .i64 most, .int .i64 a])] => match qG g, aX u, decide (d = k), Nat.beq t 59 with
    | some (x, _), some b, true, true => some (exV (F x b most a).lo (F x b most a).hi (F x b most a).e, mtO most (F x b most a).a, [PdG x])
    | _, _, _, _ => none
  | _, _ => none
def ExamOk (k : Int) (F : ExF) : Prop := ∀ x, PdG x → ∀ b most a, Dyn.CallX Tryz.prog 19 [.d (dvG x), .d (dvX b), .d (dvI k), .lp 0 0] (mtL most a) (exV (F x b most a).lo (F x b most a).hi (F x b most a).e) (mtO most (F x b most a).a)
theorem enExam_ok {k : Int} {F : ExF} (ih : ExamOk k F) : Dyn.EntryXOk Tryz.prog (19, enExam k F) := fun az lent u out ps h hp => by
  dsimp only at h
  unfold enExam at h
  split at h
  · rename_i g u' d t most a
    split at h
    · rename_i x ps' b hg hb hd ht
      have e1 := Nat.eq_of_beq_eq_true ht
      subst e1
      have e2 := of_decide_eq_true hd
      subst e2
      simp only [Option.some.injEq, Prod.mk.injEq] at h
      obtain ⟨rfl, rfl, rfl⟩ := h
      have q := qG_ok _ _ _ hg (by
        unfold qG at hg; split at hg
        · simp only [Option.some.injEq, Prod.mk.injEq] at hg
          rw [← hg.2]; trivial
        · cases hg)
      exact CallX_le2 q.1 (aX_eq hb) (ih x hp.1 b most a)
    · cases h
  · cases h
noncomputable def tdEx : List Dyn.EntryD := [(32, en2D (qAnd qL PdS) qX fun x b => rI (pClass (ofSh x) b)), (18, en2D (qAnd qG PdG) qX fun x b => .val (dvG (nearE x b)))]
def drEx (K : Nat) : Bool := Nat.beq K 18 || Nat.beq K 19 || Nat.beq K 12
noncomputable def tabEx (k : Int) (F : ExF) : Dyn.Tabs := Dyn.tabsX tbF tdEx [(12, enTake), (19, enExam k F)] drEx dtyG false
theorem tabEx_ok {k : Int} {F : ExF} (ih : ExamOk k F) : Dyn.TabsOk Tryz.prog (tabEx k F) :=
  Dyn.tabsX_ok tbF_ok (List.forall_mem_cons.2 ⟨en2D_ok (qAnd_ok qL_ok) qX_ok fun x b h _ => pClass_all x h.1 b, List.forall_mem_cons.2 ⟨en2D_ok (qAnd_ok qG_ok) qX_ok fun x b h _ => gnear_all x h.1 b, fun _ h => by cases h⟩⟩) (List.forall_mem_cons.2 ⟨enTake_ok, List.forall_mem_cons.2 ⟨enExam_ok ih, fun _ h => by cases h⟩⟩)
noncomputable def clsE (x : Gr) (b : B4) : Int := pClass (ofSh (obX x.n x.f)) b
noncomputable def exC (F : ExF) (x : Gr) (b : B4) (most : Int) (i : Nat) (a : Int) : ExR := F (nearE x (spB b i)) (spB b i) most a
noncomputable def exS (x : Gr) (b : B4) (i : Nat) : List Prop := [PdG x, PdG (nearE x (spB b i))]
noncomputable def exQO (F : ExF) (x : Gr) (b : B4) (most a : Int) : Dyn.RX :=
  let r0 := exC F x b most 0 a
  let r1 := exC F x b most 1 r0.a
  let r2 := exC F x b most 2 r1.a
  let r3 := exC F x b most 3 r2.a
  .side (exS x b 0) (.ite (r0.e != 0) (.leaf (exV 0 0 r0.e) (mtO most r0.a))
  (.side (exS x b 1) (.ite (r1.e != 0) (.leaf (exV 0 0 r1.e) (mtO most r1.a))
  (.side (exS x b 2) (.ite (r2.e != 0) (.leaf (exV 0 0 r2.e) (mtO most r2.a))
  (.side (exS x b 3) (.ite (r3.e != 0) (.leaf (exV 0 0 r3.e) (mtO most r3.a))
    (.leaf (exV (W (W (W (W (0 + r0.lo) + r1.lo) + r2.lo) + r3.lo)) (W (W (W (W (0 + r0.hi) + r1.hi) + r2.hi) + r3.hi)) 0) (mtO most r3.a)))))))))
noncomputable def exO (d : Nat) (Q : Dyn.RX) (x : Gr) (b : B4) (most a : Int) : Dyn.RX :=
  .ite (!(decide (W (a + 1) ≤ most))) (.leaf (exV 0 0 6) (mtO most (W (a + 1))))
  (.side [PdS (obX x.n x.f)] (.ite (clsE x b == 0) (.leaf (exV 0 0 0) (mtO most (W (a + 1))))
  (.ite (clsE x b == 2) (.side [(0 : Int) ≤ W (2 * (d : Int))] (.leaf (exV (cellsN d) (cellsN d) 0) (mtO most (W (a + 1)))))
  (.ite ((d : Int) == 0) (.leaf (exV 0 1 0) (mtO most (W (a + 1)))) Q))))
noncomputable def tabE0 : Dyn.Tabs := Dyn.tabsX tbF tdEx [(12, enTake)] drEx dtyG false
theorem tabE0_ok : Dyn.TabsOk Tryz.prog tabE0 :=
  Dyn.tabsX_ok tbF_ok (List.forall_mem_cons.2 ⟨en2D_ok (qAnd_ok qL_ok) qX_ok fun x b h _ => pClass_all x h.1 b, List.forall_mem_cons.2 ⟨en2D_ok (qAnd_ok qG_ok) qX_ok fun x b h _ => gnear_all x h.1 b, fun _ h => by cases h⟩⟩) (List.forall_mem_cons.2 ⟨enTake_ok, fun _ h => by cases h⟩)
theorem ex_O0 (x : Gr) (b : B4) (most a : Int) : (Dyn.dfunX Tryz.prog tabE0 Dyn.noLp 8 Tryz.f19 (mtL most a) [.d (dvG x), .d (dvX b), .d (dvI 0), .lp 0 0]).rx Tryz.prog (mtL most a) Tryz.f19.results = exO 0 .fail x b most a := by kernel_rfl
theorem ex_O1 (F : ExF) (x : Gr) (b : B4) (most a : Int) : (Dyn.dfunX Tryz.prog (tabEx 0 F) Dyn.noLp 8 Tryz.f19 (mtL most a) [.d (dvG x), .d (dvX b), .d (dvI 1), .lp 0 0]).rx Tryz.prog (mtL most a) Tryz.f19.results = exO 1 (exQO F x b most (W (a + 1))) x b most a := by kernel_rfl
theorem ex_O2 (F : ExF) (x : Gr) (b : B4) (most a : Int) : (Dyn.dfunX Tryz.prog (tabEx 1 F) Dyn.noLp 8 Tryz.f19 (mtL most a) [.d (dvG x), .d (dvX b), .d (dvI 2), .lp 0 0]).rx Tryz.prog (mtL most a) Tryz.f19.results = exO 2 (exQO F x b most (W (a + 1))) x b most a := by kernel_rfl
theorem ex_O3 (F : ExF) (x : Gr) (b : B4) (most a : Int) : (Dyn.dfunX Tryz.prog (tabEx 2 F) Dyn.noLp 8 Tryz.f19 (mtL most a) [.d (dvG x), .d (dvX b), .d (dvI 3), .lp 0 0]).rx Tryz.prog (mtL most a) Tryz.f19.results = exO 3 (exQO F x b most (W (a + 1))) x b most a := by kernel_rfl
theorem ex_O4 (F : ExF) (x : Gr) (b : B4) (most a : Int) : (Dyn.dfunX Tryz.prog (tabEx 3 F) Dyn.noLp 8 Tryz.f19 (mtL most a) [.d (dvG x), .d (dvX b), .d (dvI 4), .lp 0 0]).rx Tryz.prog (mtL most a) Tryz.f19.results = exO 4 (exQO F x b most (W (a + 1))) x b most a := by kernel_rfl
theorem ex_O5 (F : ExF) (x : Gr) (b : B4) (most a : Int) : (Dyn.dfunX Tryz.prog (tabEx 4 F) Dyn.noLp 8 Tryz.f19 (mtL most a) [.d (dvG x), .d (dvX b), .d (dvI 5), .lp 0 0]).rx Tryz.prog (mtL most a) Tryz.f19.results = exO 5 (exQO F x b most (W (a + 1))) x b most a := by kernel_rfl
theorem ex_O6 (F : ExF) (x : Gr) (b : B4) (most a : Int) : (Dyn.dfunX Tryz.prog (tabEx 5 F) Dyn.noLp 8 Tryz.f19 (mtL most a) [.d (dvG x), .d (dvX b), .d (dvI 6), .lp 0 0]).rx Tryz.prog (mtL most a) Tryz.f19.results = exO 6 (exQO F x b most (W (a + 1))) x b most a := by kernel_rfl
noncomputable def exE (d : Nat) : ExF := fun x b most a => exF most d (ofG x) b a
theorem exE_z (x : Gr) (b : B4) (most a : Int) : exE 0 x b most a = exT most (clsE x b) (cellsN 0) (fun a => ⟨0, 1, 0, a⟩) a := by
  unfold exE clsE exF
  rw [← pClass_C]; rfl
theorem exF_lst (most : Int) (d : Nat) (s : Shp) : exF most d (lst s) = exF most d s := by cases d <;> rfl
theorem exE_s (d : Nat) (x : Gr) (b : B4) (most a : Int) : exE (d + 1) x b most a = exT most (clsE x b) (cellsN (d + 1)) (exQ (fun q a => exE d (nearE x q) q most a) b) a := by
  unfold exE clsE nearE
  simp only [ofG_toG, exF_lst]
  rw [show pClass (ofSh (obX x.n x.f)) b = pClassC (ofSh (obX x.n x.f)) b from pClass_C _ _]
  rfl
theorem exT_sat {d : Nat} {x : Gr} {b : B4} {most a : Int} {Q : Dyn.RX} {m : Int → ExR} (hx : PdG x) (h : (d : Int) = 0 → m (W (a + 1)) = ⟨0, 1, 0, W (a + 1)⟩) (hQ : (d : Int) ≠ 0 → Q.sat fun u os => u = exV (m (W (a + 1))).lo (m (W (a + 1))).hi (m (W (a + 1))).e ∧ os = mtO most (m (W (a + 1))).a) (hd : d ≤ 7) :
    (exO d Q x b most a).sat fun u os => u = exV (exT most (clsE x b) (cellsN d) m a).lo (exT most (clsE x b) (cellsN d) m a).hi (exT most (clsE x b) (cellsN d) m a).e ∧ os = mtO most (exT most (clsE x b) (cellsN d) m a).a := by
  unfold exT
  refine ⟨fun h1 => ?_, fun h1 => ⟨⟨hx.1, trivial⟩, fun h2 => ?_, fun h2 => ⟨fun h3 => ⟨⟨?_, trivial⟩, ?_⟩, fun h3 => ⟨fun h4 => ?_, fun h4 => ?_⟩⟩⟩⟩
  · rw [h1]; exact ⟨rfl, rfl⟩
  · rw [h1, h2]; exact ⟨rfl, rfl⟩
  · rw [W_id (by omega) (by omega)]; omega
  · rw [h1, h2, h3]; exact ⟨rfl, rfl⟩
  · rw [h1, h2, h3]
    have := h (by simpa using h4)
    simp only [cond_false]
    rw [this]; exact ⟨rfl, rfl⟩
  · rw [h1, h2, h3]
    exact hQ (by simpa using h4)
theorem exQ_sat (F : ExF) {x : Gr} (hx : PdG x) (b : B4) (most a : Int) : (exQO F x b most a).sat fun u os => u = exV (exQ (fun q a => F (nearE x q) q most a) b a).lo (exQ (fun q a => F (nearE x q) q most a) b a).hi (exQ (fun q a => F (nearE x q) q most a) b a).e ∧ os = mtO most (exQ (fun q a => F (nearE x q) q most a) b a).a := by
  have pd : ∀ i, Sym.allP (exS x b i) := fun i => ⟨hx, nearE_Pd hx _, trivial⟩
  unfold exQ
  refine ⟨pd 0, fun h0 => ?_, fun h0 => ⟨pd 1, fun h1 => ?_, fun h1 => ⟨pd 2, fun h2 => ?_, fun h2 => ⟨pd 3, fun h3 => ?_, fun h3 => ?_⟩⟩⟩⟩
  all_goals unfold exC at *
  · rw [h0]; exact ⟨rfl, rfl⟩
  · rw [h0, h1]; exact ⟨rfl, rfl⟩
  · rw [h0, h1, h2]; exact ⟨rfl, rfl⟩
  · rw [h0, h1, h2, h3]; exact ⟨rfl, rfl⟩
  · rw [h0, h1, h2, h3]; exact ⟨rfl, rfl⟩
theorem exam0 : ExamOk 0 (exE 0) := fun x hx b most a => by
  rw [exE_z]
  exact Dyn.xcontract (lp := Dyn.noLp) (fuel := 8) tabE0_ok mo Tryz.func19 (by kernel_rfl) (c := bodyD Tryz.f19.body) (by kernel_rfl) (fun w0 => Dyn.noLp_ok _ w0) (by kernel_rfl) (by kernel_rfl) (by kernel_rfl) (ex_O0 x b most a) (exT_sat (d := 0) hx (fun _ => rfl) (fun h => absurd rfl h) (by decide))
theorem exam1 : ExamOk 1 (exE 1) := fun x hx b most a => by
  rw [exE_s]
  exact Dyn.xcontract (lp := Dyn.noLp) (fuel := 8) (tabEx_ok exam0) mo Tryz.func19 (by kernel_rfl) (c := bodyD Tryz.f19.body) (by kernel_rfl) (fun w0 => Dyn.noLp_ok _ w0) (by kernel_rfl) (by kernel_rfl) (by kernel_rfl) (ex_O1 (exE 0) x b most a) (exT_sat (d := 1) hx (fun h => absurd h (by decide)) (fun _ => exQ_sat (exE 0) hx b most _) (by decide))
theorem exam2 : ExamOk 2 (exE 2) := fun x hx b most a => by
  rw [exE_s]
  exact Dyn.xcontract (lp := Dyn.noLp) (fuel := 8) (tabEx_ok exam1) mo Tryz.func19 (by kernel_rfl) (c := bodyD Tryz.f19.body) (by kernel_rfl) (fun w0 => Dyn.noLp_ok _ w0) (by kernel_rfl) (by kernel_rfl) (by kernel_rfl) (ex_O2 (exE 1) x b most a) (exT_sat (d := 2) hx (fun h => absurd h (by decide)) (fun _ => exQ_sat (exE 1) hx b most _) (by decide))
theorem exam3 : ExamOk 3 (exE 3) := fun x hx b most a => by
  rw [exE_s]
  exact Dyn.xcontract (lp := Dyn.noLp) (fuel := 8) (tabEx_ok exam2) mo Tryz.func19 (by kernel_rfl) (c := bodyD Tryz.f19.body) (by kernel_rfl) (fun w0 => Dyn.noLp_ok _ w0) (by kernel_rfl) (by kernel_rfl) (by kernel_rfl) (ex_O3 (exE 2) x b most a) (exT_sat (d := 3) hx (fun h => absurd h (by decide)) (fun _ => exQ_sat (exE 2) hx b most _) (by decide))
theorem exam4 : ExamOk 4 (exE 4) := fun x hx b most a => by
  rw [exE_s]
  exact Dyn.xcontract (lp := Dyn.noLp) (fuel := 8) (tabEx_ok exam3) mo Tryz.func19 (by kernel_rfl) (c := bodyD Tryz.f19.body) (by kernel_rfl) (fun w0 => Dyn.noLp_ok _ w0) (by kernel_rfl) (by kernel_rfl) (by kernel_rfl) (ex_O4 (exE 3) x b most a) (exT_sat (d := 4) hx (fun h => absurd h (by decide)) (fun _ => exQ_sat (exE 3) hx b most _) (by decide))
theorem exam5 : ExamOk 5 (exE 5) := fun x hx b most a => by
  rw [exE_s]
  exact Dyn.xcontract (lp := Dyn.noLp) (fuel := 8) (tabEx_ok exam4) mo Tryz.func19 (by kernel_rfl) (c := bodyD Tryz.f19.body) (by kernel_rfl) (fun w0 => Dyn.noLp_ok _ w0) (by kernel_rfl) (by kernel_rfl) (by kernel_rfl) (ex_O5 (exE 4) x b most a) (exT_sat (d := 5) hx (fun h => absurd h (by decide)) (fun _ => exQ_sat (exE 4) hx b most _) (by decide))
theorem exam6 : ExamOk 6 (exE 6) := fun x hx b most a => by
  rw [exE_s]
  exact Dyn.xcontract (lp := Dyn.noLp) (fuel := 8) (tabEx_ok exam5) mo Tryz.func19 (by kernel_rfl) (c := bodyD Tryz.f19.body) (by kernel_rfl) (fun w0 => Dyn.noLp_ok _ w0) (by kernel_rfl) (by kernel_rfl) (by kernel_rfl) (ex_O6 (exE 5) x b most a) (exT_sat (d := 6) hx (fun h => absurd h (by decide)) (fun _ => exQ_sat (exE 5) hx b most _) (by decide))
end Go.Proofs.YthnenjodighlmaaGreat
