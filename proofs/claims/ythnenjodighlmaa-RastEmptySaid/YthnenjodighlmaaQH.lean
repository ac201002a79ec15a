/-
  OWN WORK. Joined by merge.py: Pib Pic Fin Fio Poi Pos Pou Fis Pid Ctt Fip Fiq Fit Dla Dle Awt Cnt Pie Pif Rgd Rge Pim Pin Rgf Rgh Tue Tuf Fir Bnb Rio Bnc Bnd Rpo Rpq Rgk Rgj.
-/
import Derived.Test.YthnenjodighlmaaQE
import Derived.RangeFuncNested
import Derived.RangeFuncBound
import Derived.RangeFuncCalls
import Derived.RangeFuncLeaves
import Derived.RangeFuncBox
import Derived.Shelf.Abstract
import Derived.Shelf.RegionOpen
import Derived.WalkKit
import Derived.OwnWalkIn
import Derived.TacticsInMore
import Derived.LoopNIn
import Derived.LoopIn
import Derived.Deep.WholeRow
import Derived.Test.YthnenjodighlmaaQF
import Derived.Test.YthnenjodighlmaaQG
/-! ## Pib -/
namespace Go.Proofs.Ythnenjodighlmaa
open Go Go.RowKit Go.Shelf
set_option maxRecDepth 100000

attribute [local go_sem] Oper.semAt_some

/-- the value of a row of objects, its cells in a block below n₀ -/
def Objs (n₀ : Nat) (W : World) (oa : Option Addr) (len : Nat) (g : Nat → Nat → Value) : Prop :=
  len = 0 ∨ ∃ b off, oa = some ⟨b, off, none⟩ ∧ b < n₀ ∧ ∀ i, i < len → ∀ j, j < 11 → W.cell? ⟨b, off + i * 11 + j, none⟩ = some (g i j)
theorem Objs.below {n₀ : Nat} {A B : World} (h : Below n₀ A B) {oa : Option Addr} {len : Nat} {g : Nat → Nat → Value} : Objs n₀ A oa len g → Objs n₀ B oa len g
  | .inl e => .inl e
  | .inr ⟨b, off, e, hb, hc⟩ => .inr ⟨b, off, e, hb, fun i hi j hj => (h.cell (p := ⟨b, off + i * 11 + j, none⟩) hb).trans (hc i hi j hj)⟩
theorem Objs.up {n₀ n₁ : Nat} (h : n₀ ≤ n₁) {W : World} {oa : Option Addr} {len : Nat} {g : Nat → Nat → Value} : Objs n₀ W oa len g → Objs n₁ W oa len g
  | .inl e => .inl e
  | .inr ⟨b, off, e, hb, hc⟩ => .inr ⟨b, off, e, by omega, hc⟩
end Go.Proofs.Ythnenjodighlmaa

/-! ## Pic -/
namespace Go.Proofs.Ythnenjodighlmaa
open Go Go.RowKit Go.Shelf
set_option maxRecDepth 100000

attribute [local go_sem] Oper.semAt_some

def PilRes (len : Nat) (hasV addV : Nat → Bool) (r : Bool) : Prop := (r = false ∧ ∀ j, j < len → hasV j = false) ∨ ∃ k, k < len ∧ r = addV (len - 1 - k) ∧ hasV (len - 1 - k) = true ∧ ∀ j, j < k → hasV (len - 1 - j) = false
end Go.Proofs.Ythnenjodighlmaa

/-! ## Fin -/
namespace Go.Proofs.Ythnenjodighlmaa
open Go Go.RowKit Sym
set_option maxRecDepth 100000

/-! ### fine shapes -/
def FinC (P : P2 → Prop) (l : Ctr) : Prop := l.n ≤ 4 ∧ ∀ i, i < l.n → l.m i ≤ 12 ∧ ∀ k, k < l.m i → P (l.p i k)
def Fine (P : P2 → Prop) : Shp → Int → Prop
  | .nil, _ => False
  | .mk k a b c r l n _ sub, d =>
    (k = 1 ∧ b = ze ∧ c = ze ∧ l = zeC ∧ n = 0 ∧ P a ∧ widF r = true) ∨
    (k = 3 ∧ c = ze ∧ l = zeC ∧ n = 0 ∧ P a ∧ P b ∧ widF r = true) ∨
    (k = 4 ∧ c = ze ∧ l = zeC ∧ n = 0 ∧ P a ∧ P b ∧ widF r = true ∧ a ≠ b) ∨
    (k = 5 ∧ l = zeC ∧ n = 0 ∧ P a ∧ P b ∧ P c ∧ widF r = true ∧ okI c a b) ∨
    (k = 2 ∧ a = ze ∧ b = ze ∧ c = ze ∧ r = 0 ∧ n = 0 ∧ FinC P l) ∨
    (k = 6 ∧ a = ze ∧ b = ze ∧ c = ze ∧ r = 0 ∧ l = zeC ∧ d ≤ 5 ∧ ((n : Int) ≤ 4 - d ∨ n ≤ 1) ∧ ∀ i, i < n → Fine P (sub i) (d + 1))
theorem near_PR {p : P2} (h : nearF p = true) : PR p := by
  unfold nearF at h
  rw [andB_eq, andB_eq, andB_eq, Bool.and_eq_true, Bool.and_eq_true, Bool.and_eq_true, decide_eq_true_eq, decide_eq_true_eq, decide_eq_true_eq, decide_eq_true_eq] at h
  exact ⟨⟨by omega, by omega⟩, ⟨by omega, by omega⟩⟩
theorem eqP_iff {a b : P2} : (bif a.x == b.x then bif a.y == b.y then true else false else false) = true ↔ a = b := by
  obtain ⟨x, y⟩ := a
  obtain ⟨x', y'⟩ := b
  by_cases h : x = x'
  · by_cases k : y = y'
    · subst h; subst k; simp
    · simp [h, k]
  · simp [h]
end Go.Proofs.Ythnenjodighlmaa

/-! ## Fio -/
namespace Go.Proofs.Ythnenjodighlmaa
open Go Go.RowKit Sym
set_option maxRecDepth 100000

/-- no farther out than B -/
def PB (B : Int) (p : P2) : Prop := (-B ≤ p.x ∧ p.x ≤ B) ∧ (-B ≤ p.y ∧ p.y ≤ B)
theorem PB_near {B : Int} (h : B ≤ 536870912) {p : P2} (k : PB B p) : nearF p = true := by
  unfold nearF
  rw [decide_eq_true (show p.x ≥ -536870912 by have := k.1; omega), decide_eq_true (show p.x ≤ 536870912 by have := k.1; omega), decide_eq_true (show p.y ≥ -536870912 by have := k.2; omega), decide_eq_true (show p.y ≤ 536870912 by have := k.2; omega)]
  rfl
/-- how far out a tame shape goes -/
def tmX (sm : Bool) : Int := bif sm then 40 else 536870912
theorem at_PB (p : P2) (sm : Bool) : PB (tmX sm) (atP p sm) := by
  cases sm
  · exact lPt_r p
  · have h := lClose_r p (n := 20) (by decide) (by decide)
    exact ⟨⟨by show (-40 : Int) ≤ (lClose p 20).x; omega, by show (lClose p 20).x ≤ (40 : Int); omega⟩, ⟨by show (-40 : Int) ≤ (lClose p 20).y; omega, by show (lClose p 20).y ≤ (40 : Int); omega⟩⟩
theorem at_PB0 (p : P2) (sm : Bool) : (-536870912 ≤ (atP p sm).x ∧ (atP p sm).x ≤ 536870912) := by
  have h := at_PB p sm
  cases sm
  · exact h.1
  · have := h.1; unfold tmX at this; simp only [cond_true] at this; omega
theorem tmB_ok (s : Sh) (sm : Bool) : PB (tmX sm) (tmB s sm) ∧ atP s.a sm ≠ tmB s sm := by
  have hb := at_PB s.b sm
  have h0 := at_PB0 s.b sm
  have hx : 40 ≤ tmX sm := by cases sm <;> decide
  unfold tmB
  cases e : eqP (atP s.a sm) (atP s.b sm)
  · refine ⟨hb, fun q => ?_⟩
    rw [Bool.eq_false_iff] at e
    exact e (eqP_iff.2 q)
  · have ea : atP s.a sm = atP s.b sm := eqP_iff.1 e
    cases g : decide ((atP s.b sm).x > 0)
    · rw [decide_eq_false_iff_not] at g
      have w : W ((atP s.b sm).x + 1) = (atP s.b sm).x + 1 := W_id (by omega) (by omega)
      refine ⟨⟨⟨by show _ ≤ W ((atP s.b sm).x + 1); rw [w]; have := hb.1; omega, by show W ((atP s.b sm).x + 1) ≤ _; rw [w]; omega⟩, hb.2⟩, fun q => ?_⟩
      have : (atP s.a sm).x = W ((atP s.b sm).x + 1) := congrArg P2.x q
      rw [ea, w] at this; omega
    · rw [decide_eq_true_eq] at g
      have w : W ((atP s.b sm).x - 1) = (atP s.b sm).x - 1 := W_id (by omega) (by omega)
      refine ⟨⟨⟨by show _ ≤ W ((atP s.b sm).x - 1); rw [w]; omega, by show W ((atP s.b sm).x - 1) ≤ _; rw [w]; have := hb.1; omega⟩, hb.2⟩, fun q => ?_⟩
      have : (atP s.a sm).x = W ((atP s.b sm).x - 1) := congrArg P2.x q
      rw [ea, w] at this; omega
theorem tmR_ok (s : Sh) (sm : Bool) : widF (tmR s sm) = true := by
  have h := lR_bd s.r
  unfold widF
  cases sm
  · show andB (decide (lR s.r ≥ 1)) (decide (lR s.r ≤ 536870912)) = true
    rw [decide_eq_true (show lR s.r ≥ 1 by omega), decide_eq_true h.2]; rfl
  · have h1 := Int.tmod_nonneg (a := lR s.r) 15 (by omega)
    have h2 := (tmod_bd (lR s.r) (n := 15) (by decide)).2
    show andB (decide (W ((lR s.r).tmod 15 + 1) ≥ 1)) (decide (W ((lR s.r).tmod 15 + 1) ≤ 536870912)) = true
    rw [W_id (by omega) (by omega), decide_eq_true (show (lR s.r).tmod 15 + 1 ≥ 1 by omega), decide_eq_true (show (lR s.r).tmod 15 + 1 ≤ 536870912 by omega)]; rfl
theorem arcC_PB (c : P2) (sm : Bool) : PB (tmX sm) (arcC c sm) := by
  cases sm
  · have h := arcC_r c false
    exact ⟨⟨by show (-536870912 : Int) ≤ _; omega, by show _ ≤ (536870912 : Int); omega⟩, ⟨by show (-536870912 : Int) ≤ _; omega, by show _ ≤ (536870912 : Int); omega⟩⟩
  · have h := arcC_s c
    exact ⟨⟨by show (-40 : Int) ≤ _; omega, by show _ ≤ (40 : Int); omega⟩, ⟨by show (-40 : Int) ≤ _; omega, by show _ ≤ (40 : Int); omega⟩⟩
theorem arcAt_PB (c : P2) (f s : Int) (sm : Bool) : PB (tmX sm) (arcAt c f s sm) := by
  rw [arcAt_eq]
  have h := circ_ok f
  cases sm
  · have hc := arcC_r c false
    have kk := arcK_bd s false
    have x := mul_bd (A := 20000000) (B := 5) (x := arcK s false) (y := (circ f).x) (by omega) (by omega) h.x.1 h.x.2
    have y := mul_bd (A := 20000000) (B := 5) (x := arcK s false) (y := (circ f).y) (by omega) (by omega) h.y.1 h.y.2
    exact ⟨⟨by show (-536870912 : Int) ≤ (arcC c false).x + _; omega, by show (arcC c false).x + _ ≤ (536870912 : Int); omega⟩, ⟨by show (-536870912 : Int) ≤ (arcC c false).y + _; omega, by show (arcC c false).y + _ ≤ (536870912 : Int); omega⟩⟩
  · have hc := arcC_s c
    have kk := arcK1_bd s
    have x := mul_bd (A := 4) (B := 5) (x := arcK1 s) (y := (circ f).x) (by omega) (by omega) h.x.1 h.x.2
    have y := mul_bd (A := 4) (B := 5) (x := arcK1 s) (y := (circ f).y) (by omega) (by omega) h.y.1 h.y.2
    exact ⟨⟨by show (-40 : Int) ≤ (arcC c true).x + arcK1 s * (circ f).x; omega, by show (arcC c true).x + arcK1 s * (circ f).x ≤ (40 : Int); omega⟩, ⟨by show (-40 : Int) ≤ (arcC c true).y + arcK1 s * (circ f).y; omega, by show (arcC c true).y + arcK1 s * (circ f).y ≤ (40 : Int); omega⟩⟩
theorem arc_okJ (c : P2) (f t s : Int) (sm : Bool) : okI (arcC c sm) (arcAt c f s sm) (arcAt c t s sm) := by
  have kk := arcK_bd s sm
  have a := (onC_r (arcC_r c sm) kk (circ_ok f)).2
  have b := (onC_r (arcC_r c sm) kk (circ_ok t)).2
  rw [arcAt_eq, arcAt_eq]
  have p : 1 ≤ arcK s sm * arcK s sm := Int.le_trans (show (1 : Int) ≤ 1 * 1 by decide) (Int.mul_le_mul kk.1 kk.1 (by decide) (by omega))
  exact ⟨by rw [a]; omega, by rw [a, b]⟩
theorem tameC_Fin (l : Ctr) (sm : Bool) : FinC (PB (tmX sm)) (tameC l sm) := by
  refine ⟨by show min l.n 4 ≤ 4; omega, fun i _ => ⟨by show min (l.m i) 12 ≤ 12; omega, fun k _ => ?_⟩⟩
  cases sm
  · exact lPt_r (l.p i k)
  · have h := lClose_r (lPt (l.p i k)) (n := 20) (by decide) (by decide)
    exact ⟨⟨by show (-40 : Int) ≤ (lClose (lPt (l.p i k)) 20).x; omega, by show (lClose (lPt (l.p i k)) 20).x ≤ (40 : Int); omega⟩, ⟨by show (-40 : Int) ≤ (lClose (lPt (l.p i k)) 20).y; omega, by show (lClose (lPt (l.p i k)) 20).y ≤ (40 : Int); omega⟩⟩
theorem tmK0_bd (s : Sh) : 1 ≤ tmK0 s ∧ tmK0 s ≤ 6 := by
  have a := tmod_bd s.k (n := 6) (by decide)
  have w : W (s.k.tmod 6 + 6) = s.k.tmod 6 + 6 := W_id (by omega) (by omega)
  have b := Int.tmod_nonneg (a := s.k.tmod 6 + 6) 6 (by omega)
  have c := (tmod_bd (s.k.tmod 6 + 6) (n := 6) (by decide)).2
  unfold tmK0
  rw [w, W_id (by omega) (by omega)]; omega
theorem tmKk_bd (s : Sh) (d : Int) : (1 ≤ tmKk s d ∧ tmKk s d ≤ 6) ∧ (tmKk s d = 6 → d ≤ 5) := by
  have a := tmK0_bd s
  unfold tmKk
  by_cases h : d > 5
  · rw [decide_eq_true h]
    cases g : tmK0 s == 6
    · refine ⟨a, fun e => ?_⟩
      have e : tmK0 s = 6 := e
      rw [e] at g; cases g
    · exact ⟨by show (1 : Int) ≤ 1 ∧ (1 : Int) ≤ 6; omega, fun e => by cases e⟩
  · rw [decide_eq_false h]
    exact ⟨a, fun _ => by omega⟩
theorem tame_fine (sm : Bool) : ∀ (s : Shp) (d : Int), ShB s → 0 ≤ d → d ≤ 6 → Fine (PB (tmX sm)) (tameS s sm d) d := by
  intro s
  induction s with
  | nil => intro d h; exact h.elim
  | mk k a b c r l n add sub ih =>
    intro d h h0 h6
    have kk := tmKk_bd ⟨k, a, b, c, r, l, n, noF⟩ d
    have kb := tmB_ok ⟨k, a, b, c, r, l, n, noF⟩ sm
    have kr := tmR_ok ⟨k, a, b, c, r, l, n, noF⟩ sm
    simp only [tameS]
    generalize tmKk ⟨k, a, b, c, r, l, n, noF⟩ d = K at *
    have : K = 1 ∨ K = 2 ∨ K = 3 ∨ K = 4 ∨ K = 5 ∨ K = 6 := by omega
    rcases this with rfl | rfl | rfl | rfl | rfl | rfl
    · exact .inl ⟨rfl, rfl, rfl, rfl, rfl, at_PB a sm, kr⟩
    · exact .inr (.inr (.inr (.inr (.inl ⟨rfl, rfl, rfl, rfl, rfl, rfl, tameC_Fin l sm⟩))))
    · exact .inr (.inl ⟨rfl, rfl, rfl, rfl, at_PB a sm, kb.1, kr⟩)
    · exact .inr (.inr (.inl ⟨rfl, rfl, rfl, rfl, at_PB a sm, kb.1, kr, kb.2⟩))
    · exact .inr (.inr (.inr (.inl ⟨rfl, rfl, rfl, arcAt_PB _ _ _ _, arcAt_PB _ _ _ _, arcC_PB _ _, kr, arc_okJ _ _ _ _ _⟩)))
    · have h5 := kk.2 rfl
      have w : W (4 - d) = 4 - d := W_id (by omega) (by omega)
      have wd : W (d + 1) = d + 1 := W_id (by omega) (by omega)
      have hn : tmN ⟨k, a, b, c, r, l, n, noF⟩ d = min n (imax (4 - d) 1).toNat := by unfold tmN; rw [w]
      refine .inr (.inr (.inr (.inr (.inr ⟨rfl, rfl, rfl, rfl, rfl, rfl, h5, ?_, fun i hi => ?_⟩))))
      · rw [hn]; unfold imax; split <;> omega
      · rw [wd]
        exact ih i (d + 1) (h.2.2 i (by rw [hn] at hi; omega)) (by omega) (by omega)
end Go.Proofs.Ythnenjodighlmaa

/-! ## Poi -/
namespace Go.Proofs.Ythnenjodighlmaa
open Go Go.RowKit Sym

/-! ### rectangles -/
end Go.Proofs.Ythnenjodighlmaa

/-! ## Pos -/
namespace Go.Proofs.Ythnenjodighlmaa
open Go Go.RowKit Sym

/-! ### contours -/
structure PRC (l : Ctr) : Prop where
  p : ∀ i, i < l.n → ∀ k, k < l.m i → PR (l.p i k)
end Go.Proofs.Ythnenjodighlmaa

/-! ## Pou -/
namespace Go.Proofs.Ythnenjodighlmaa
open Go Go.RowKit Sym
set_option maxRecDepth 100000

end Go.Proofs.Ythnenjodighlmaa

/-! ## Fis -/
namespace Go.Proofs.Ythnenjodighlmaa
open Go Go.RowKit Sym
set_option maxRecDepth 100000

/-- a class, and whether a point of the box is in it -/
structure Sure (i : Bool) (k : Int) : Prop where
  lo : 0 ≤ k
  hi : k ≤ 2
  i1 : k = 2 → i = true
  i0 : k = 0 → i = false
theorem Sure.of {i : Bool} {k : Int} (h : andB (andB (andB (andB (orB (k != 2) i) (orB (k != 0) (!i))) (decide (k ≥ 0))) (decide (k ≤ 2))) true = true) : Sure i k := by
  simp only [andB_eq, orB_eq, Bool.and_eq_true, Bool.or_eq_true, bne_iff_ne, decide_eq_true_eq, Bool.not_eq_true'] at h
  obtain ⟨⟨⟨⟨h1, h2⟩, h3⟩, h4⟩, _⟩ := h
  exact ⟨h3, h4, fun e => h1.resolve_left fun q => q e, fun e => h2.resolve_left fun q => q e⟩
theorem Sure.fold {i h : Bool} {was cls : Int} (a : Sure h was) (c : Sure i cls) (add : Bool) : Sure (bif i then add else h) (foldF was cls add) := by
  obtain ⟨a1, a2, a3, a4⟩ := a
  obtain ⟨c1, c2, c3, c4⟩ := c
  have w : was = 0 ∨ was = 1 ∨ was = 2 := by omega
  have k : cls = 0 ∨ cls = 1 ∨ cls = 2 := by omega
  rcases w with rfl | rfl | rfl <;> rcases k with rfl | rfl | rfl <;> cases add <;> cases i <;> cases h <;> simp at a3 a4 c3 c4 <;> exact ⟨by decide, by decide, by decide, by decide⟩
/-- from the first part to the last -/
def hasN (g : Nat → Bool) (add : Nat → Bool) (i : Nat) (h : Bool) : Bool := bif g i then add i else h
end Go.Proofs.Ythnenjodighlmaa

/-! ## Pid -/
namespace Go.Proofs.Ythnenjodighlmaa
open Go Go.RowKit Sym
set_option maxRecDepth 100000

theorem fold_top (g add : Nat → Bool) (n : Nat) : ∀ k, k ≤ n → (∀ j, j < k → g (n - 1 - j) = false) → foldN (hasN g add) false n = foldN (hasN g add) false (n - k)
  | 0, _, _ => rfl
  | k + 1, hk, h => by
    rw [fold_top g add n k (by omega) fun j hj => h j (by omega)]
    have e : n - k = (n - (k + 1)) + 1 := by omega
    rw [e]
    show hasN g add (n - (k + 1)) _ = _
    unfold hasN
    rw [show n - (k + 1) = n - 1 - k by omega, h k (by omega)]; rfl
theorem PilRes.eq {n : Nat} {g add : Nat → Bool} {r : Bool} (h : PilRes n g add r) : r = foldN (hasN g add) false n := by
  rcases h with ⟨rfl, h⟩ | ⟨k, hk, rfl, h1, h2⟩
  · rw [fold_top g add n n (Nat.le_refl _) fun j hj => h _ (by omega), Nat.sub_self]; rfl
  · rw [fold_top g add n k (by omega) h2, show n - k = (n - 1 - k) + 1 by omega]
    show _ = hasN g add (n - 1 - k) _
    unfold hasN
    rw [h1]; rfl
end Go.Proofs.Ythnenjodighlmaa

/-! ## Ctt -/
namespace Go.Proofs.Ythnenjodighlmaa
open Go Go.RowKit Sym

inductive Pln where
  | lf
  | it (p q : Pln)
  | tt (p : Pln)
  | ff (p : Pln)
end Go.Proofs.Ythnenjodighlmaa

/-! ## Fip -/
namespace Go.Proofs.Ythnenjodighlmaa
open Go Go.RowKit Sym
set_option maxRecDepth 100000

theorem P2.ext' {p q : P2} (h : p.x = q.x) (k : p.y = q.y) : p = q := by cases p; cases q; cases h; cases k; rfl
end Go.Proofs.Ythnenjodighlmaa

/-! ## Fiq -/
namespace Go.Proofs.Ythnenjodighlmaa
open Go Go.RowKit Sym
set_option maxRecDepth 100000

/-! ### the same -/
/-! ### moved -/
theorem fine_B {P : P2 → Prop} : ∀ (s : Shp) (d : Int), Fine P s d → 0 ≤ d → ShB s := by
  intro s
  induction s with
  | nil => intro d h; exact h.elim
  | mk k a b' c r l n add sub ih =>
    intro d h h0
    have z : ∀ i, i < 0 → ShB (sub i) := fun i hi => absurd hi (Nat.not_lt_zero i)
    rcases h with ⟨rfl, rfl, rfl, rfl, rfl, ha, hr⟩ | ⟨rfl, rfl, rfl, rfl, ha, hb, hr⟩ | ⟨rfl, rfl, rfl, rfl, ha, hb, hr, hn⟩ | ⟨rfl, rfl, rfl, ha, hb, hc, hr, ho⟩ | ⟨rfl, rfl, rfl, rfl, rfl, rfl, hc⟩ | ⟨rfl, rfl, rfl, rfl, rfl, rfl, h5, hm, hs⟩
    · exact ⟨CtrB_ze, by decide, z⟩
    · exact ⟨CtrB_ze, by decide, z⟩
    · exact ⟨CtrB_ze, by decide, z⟩
    · exact ⟨CtrB_ze, by decide, z⟩
    · exact ⟨⟨by have := hc.1; omega, fun i hi => by have := (hc.2 i hi).1; omega⟩, by decide, z⟩
    · exact ⟨CtrB_ze, by omega, fun i hi => ih i (d + 1) (hs i hi) (by omega)⟩
end Go.Proofs.Ythnenjodighlmaa

/-! ## Fit -/
namespace Go.Proofs.Ythnenjodighlmaa
open Go Go.RowKit Sym
set_option maxRecDepth 100000

end Go.Proofs.Ythnenjodighlmaa

/-! ## Dla -/
namespace Go.Proofs.Ythnenjodighlmaa
open Go Go.RowKit Sym
set_option maxRecDepth 100000

inductive DLe : Dyn.DC → Dyn.DC → Prop where
  | refl (c : Dyn.DC) : DLe c c
  | row (n : Nat) (f g : Nat → List Dyn.DC) : (∀ i, i < n → (f i).length = (g i).length) → (∀ i j, i < n → j < (f i).length → DLe ((f i).getD j default) ((g i).getD j default)) → DLe (.row n f) (.row n g)
theorem DLe.den {w : World} {F : Nat → Prop} {c d : Dyn.DC} (h : DLe c d) : ∀ {u : Value}, Dyn.DenC w F c u → Dyn.DenC w F d u := by
  induction h with
  | refl c => exact fun h => h
  | row n f g hl _ ih =>
    intro u k
    cases k with
    | nil _ oa cap => exact .nil g oa cap
    | row _ _ b off cap size V hk hF hc hd =>
      refine .row n g b off cap size V hk hF (fun i hi => ⟨(hl i hi) ▸ (hc i hi).1, (hc i hi).2⟩) (fun i j hi hj => ih i j hi ?_ (hd i j hi hj))
      rw [(hc i hi).1]; exact hj
def DLL : List Dyn.DC → List Dyn.DC → Prop
  | [], [] => True
  | c :: cs, d :: ds => DLe c d ∧ DLL cs ds
  | _, _ => False
theorem DLL.refl : ∀ cs, DLL cs cs
  | [] => trivial
  | c :: cs => ⟨.refl c, DLL.refl cs⟩
theorem DLL.den {w : World} {F : Nat → Prop} : ∀ {cs ds : List Dyn.DC} {us : List Value}, DLL cs ds → Dyn.DenL w F cs us → Dyn.DenL w F ds us
  | [], [], [], _, h => h
  | [], [], _ :: _, _, h => h
  | [], _ :: _, _, h, _ => h.elim
  | _ :: _, [], _, h, _ => h.elim
  | c :: cs, d :: ds, [], _, k => k.elim
  | c :: cs, d :: ds, u :: us, h, k => ⟨h.1.den k.1, DLL.den h.2 k.2⟩
theorem DLL.get : ∀ {cs ds : List Dyn.DC}, DLL cs ds → cs.length = ds.length ∧ ∀ j, DLe (cs.getD j default) (ds.getD j default)
  | [], [], _ => ⟨rfl, fun j => .refl _⟩
  | [], _ :: _, h => h.elim
  | _ :: _, [], h => h.elim
  | c :: cs, d :: ds, h => by
    have k := DLL.get h.2
    exact ⟨congrArg Nat.succ k.1, fun j => match j with
      | 0 => h.1
      | j + 1 => k.2 j⟩
theorem DLe.rowL {n : Nat} {f g : Nat → List Dyn.DC} (h : ∀ i, i < n → DLL (f i) (g i)) : DLe (.row n f) (.row n g) := .row n f g (fun i hi => (h i hi).get.1) (fun i j hi _ => (h i hi).get.2 j)
def DVd : Dyn.DV → Dyn.DV → Prop
  | .one c, .one d => DLe c d
  | .agg cs, .agg ds => DLL cs ds
  | _, _ => False
theorem DVd.refl : ∀ v, DVd v v
  | .one c => DLe.refl c
  | .agg cs => DLL.refl cs
theorem DVd.den {w : World} {F : Nat → Prop} : ∀ {c d : Dyn.DV} {u : Value}, DVd c d → Dyn.DenV w F c u → Dyn.DenV w F d u
  | .one _, .one _, _, h, k => DLe.den h k
  | .agg _, .agg _, _, h, ⟨us, e, k⟩ => ⟨us, e, DLL.den h k⟩
  | .one _, .agg _, _, h, _ => h.elim
  | .agg _, .one _, _, h, _ => h.elim
/-- a contract, told of a first argument that shows the same -/
theorem CallD_d1 {P : Program} {K : Nat} {v v' : Dyn.DV} {l : List Dyn.DV} {r : Dyn.RV} (h : DVd v v') (k : Dyn.CallD P K (v' :: l) r) : Dyn.CallD P K (v :: l) r := fun w F us hF hd => k w F us hF (by
  cases us with
  | nil => exact hd
  | cons u us => exact ⟨DVd.den h hd.1, hd.2⟩)
end Go.Proofs.Ythnenjodighlmaa

/-! ## Dle -/
namespace Go.Proofs.Ythnenjodighlmaa
open Go Go.RowKit Sym
set_option maxRecDepth 100000

end Go.Proofs.Ythnenjodighlmaa

/-! ## Awt -/
namespace Go.Proofs.Ythnenjodighlmaa
open Go Go.RowKit Sym
set_option maxRecDepth 100000

end Go.Proofs.Ythnenjodighlmaa

/-! ## Cnt -/
namespace Go.Proofs.Ythnenjodighlmaa
open Go Go.RowKit Sym
set_option maxRecDepth 100000

end Go.Proofs.Ythnenjodighlmaa

/-! ## Pie -/
namespace Go.Proofs.Ythnenjodighlmaa
open Go Go.RowKit Sym
set_option maxRecDepth 100000

/-! ### a disc around (0, 0), as it is written -/
def dC (r : Int) : List Dyn.DC := [cI 1, cI 0, cI 0, cI 0, cI 0, cI 0, cI 0, cI r, .row 0 noF, .row 0 noF]
def discS (r : Int) : Shp := leafS 1 ze ze ze r zeC
theorem dC_le (r : Int) : DLL (dC r) (cS (toSh (discS r))) := ⟨.refl _, .refl _, .refl _, .refl _, .refl _, .refl _, .refl _, .refl _, DLe.rowL fun i hi => absurd hi (Nat.not_lt_zero i), DLe.rowL fun i hi => absurd hi (Nat.not_lt_zero i), trivial⟩
/-! ### the lists of the document -/
def fL2 : Nat → List Dyn.DC := Dyn.pickL 0 [cB true :: dC 9, cB false :: dC 2]
def E1 : Prop := (1 : Int) = 1 ∧ (0 : Int) = 0 ∧ (0 : Int) = 0 ∧ (0 : Int) = 0 ∧ (0 : Int) = 0 ∧ (0 : Int) = 0 ∧ (0 : Int) = 0 ∧ 0 = 0 ∧ 0 = 0
def L2 : Shp := lForm 2 (fun i => Nat.beq i 0) (fun i => discS (bif Nat.beq i 0 then 9 else 2))
def L0 : Shp := lForm 0 (fun _ => false) (fun _ => .nil)
def LN (n : Nat) : Shp := bif Nat.beq n 0 then L0 else L2
theorem L2_e0 : fL2 0 = cB true :: dC 9 := by kernel_rfl
theorem L2_e1 : fL2 1 = cB false :: dC 2 := by kernel_rfl
theorem L2_le : DVd (.one (.row 2 fL2)) (dvL (toSh L2)) := DLe.rowL fun i hi => by
  have : i = 0 ∨ i = 1 := by omega
  rcases this with rfl | rfl
  · rw [L2_e0]; exact ⟨.refl _, dC_le 9⟩
  · rw [L2_e1]; exact ⟨.refl _, dC_le 2⟩
def RkL (n : Nat) (f : Nat → List Dyn.DC) : Prop := n = 0 ∨ (n = 2 ∧ DLe (.row n f) (.row 2 fL2))
theorem RkL.call {P : Program} {K n : Nat} {f : Nat → List Dyn.DC} {l : List Dyn.DV} {r : Dyn.RV} (h : RkL n f) (k : Dyn.CallD P K (dvL (toSh (LN n)) :: l) r) : Dyn.CallD P K (.one (.row n f) :: l) r := by
  rcases h with rfl | ⟨rfl, h⟩
  · exact CallD_d1 (v' := dvL (toSh L0)) (DLe.rowL fun i hi => absurd hi (Nat.not_lt_zero i)) k
  · exact CallD_d1 (show DVd (.one (.row 2 f)) (.one (.row 2 fL2)) from h) (CallD_d1 L2_le k)
end Go.Proofs.Ythnenjodighlmaa

/-! ## Pif -/
namespace Go.Proofs.Ythnenjodighlmaa
open Go Go.RowKit Sym
set_option maxRecDepth 100000

theorem small21_all (x : Sh) (h : PdW x) : Dyn.CallD Try.prog 17 [dvL x] (rB (small21 (ofSh x))) := CallD_le (args := [dvL (toSh (ofSh x))]) ⟨SLe.dvL h.2, trivial⟩ (small21_ok _ h.1)
theorem tame21_all (x : Sh) (h : PdS x) (sm : Bool) : Dyn.CallD Try.prog 19 [dvL x, dvB sm] (.val (dvL (toSh (tame21 (ofSh x) sm)))) := CallD_le (args := [dvL (toSh (ofSh x)), dvB sm]) ⟨SLe.dvL h.2, Dyn.DVLe.refl _, trivial⟩ (tame21_ok _ h.1 sm)
theorem pClass_all (x : Sh) (h : PdS x) (b : B4) : Dyn.CallD Try.prog 22 [dvL x, dvX b] (rI (pClass (ofSh x) b)) := CallD_le (args := [dvL (toSh (ofSh x)), dvX b]) ⟨SLe.dvL h.2, Dyn.DVLe.refl _, trivial⟩ (pClass_ok _ h.1 b)
/-- what of it is tame -/
theorem lf_B {n : Nat} {add : Nat → Bool} {sub : Nat → Shp} (h : small21 (lForm n add sub) = true) : ShB (lForm n add sub) := by
  unfold small21 at h
  by_cases hn : ((n : Nat) : Int) > 20
  · rw [show decide ((nuO (lForm n add sub) : Int) > 20) = true from decide_eq_true hn] at h; cases h
  · rw [show decide ((nuO (lForm n add sub) : Int) > 20) = false from decide_eq_false hn] at h
    refine ⟨⟨by decide, fun i hi => absurd hi (Nat.not_lt_zero i)⟩, by omega, fun i hi => ?_⟩
    obtain ⟨u, _, k2⟩ := runN_all h i hi
    exact small_B _ 0 k2
end Go.Proofs.Ythnenjodighlmaa

/-! ## Rgd -/
namespace Go.Proofs.Ythnenjodighlmaa
open Go Go.RowKit Sym
set_option maxRecDepth 100000

def mtL (most a : Int) : Dyn.Lent := [(97, [vi most, vi a])]
def mtO (most a : Int) : List (List Value) := [[vi most, vi a]]
def exV (lo hi e : Int) : Value := .tuple ⟨[.agg ⟨[vi lo, vi hi]⟩, vi e]⟩
theorem denP {w : World} {F : Nat → Prop} {x u : Value} (h : Dyn.DenC w F (.p x) u) : u = x := by cases h; rfl
theorem used_d (m a : Int) : Dyn.CallD Try.prog 28 [.one (.ptr [cI m, cI a])] (rI (imin a m)) := fun w F us hF hd => by
  match us, hd with
  | [u], hd =>
    have hd := hd.1
    cases hd with
    | ptr cs b off g hFb hc hg =>
      have g0 : g 0 = vi m := denP (hg 0 (show 0 < 2 by decide))
      have g1 : g 1 = vi a := denP (hg 1 (show 1 < 2 by decide))
      have c0 := hc 0 (show 0 < 2 by decide)
      have c1 := hc 1 (show 1 < 2 by decide)
      rw [g0] at c0; rw [g1] at c1
      rw [show [Value.pointer (some ⟨b, off, none⟩)].toArray = #[.pointer (some ⟨b, off, none⟩)] from rfl, run_enter Try.func28 (by kernel_rfl) (by kernel_rfl)]
      refine ⟨rfl, (used_walk b off m a w c0 c1).mono ?_⟩
      rintro e w'' ⟨rfl, rfl⟩
      exact ⟨_, rfl, .p _ rfl, rfl, rfl, rfl, Nat.le_refl _, fun _ _ => rfl⟩
def enUsed : List Dyn.DV → Option (Dyn.RV × List Prop)
  | [.one (.ptr [.p (.int .i64 m), .p (.int .i64 a)])] => some (rI (imin a m), [])
  | _ => none
theorem enUsed_ok : Dyn.EntryDOk Try.prog (28, enUsed) := fun args r ps h hp => by
  dsimp only at h
  unfold enUsed at h
  split at h
  · simp only [Option.some.injEq, Prod.mk.injEq] at h
    obtain ⟨rfl, rfl⟩ := h
    exact used_d _ _
  · cases h
def enTake : List Dyn.LA → Dyn.Lent → Option (Value × List (List Value) × List Prop)
  | [.lp 0 0], [(t, [.int .i64 most, .int .i64 a])] => match Nat.beq t 97 with
    | true => some (vb (decide (W (a + 1) ≤ most)), mtO most (W (a + 1)), [])
    | false => none
  | _, _ => none
theorem enTake_ok : Dyn.EntryXOk Try.prog (27, enTake) := fun az lent u out ps h hp => by
  dsimp only at h
  unfold enTake at h
  split at h
  · rename_i t most a
    split at h
    · rename_i ht
      have e1 := Nat.eq_of_beq_eq_true ht
      subst e1
      simp only [Option.some.injEq, Prod.mk.injEq] at h
      obtain ⟨rfl, rfl, rfl⟩ := h
      exact take_x most a
    · cases h
  · cases h
theorem CallX_le2 {P : Program} {K : Nat} {u u' v v' : Dyn.DV} {l : List Dyn.LA} {lent : Dyn.Lent} {r : Value} {o : List (List Value)} (h1 : Dyn.DVLe u u') (h2 : Dyn.DVLe v v') (k : Dyn.CallX P K (.d u' :: .d v' :: l) lent r o) : Dyn.CallX P K (.d u :: .d v :: l) lent r o := fun w F bs us hF hn hd hl hden => k w F bs us hF hn hd hl (by
  cases us with
  | nil => exact hden
  | cons x us =>
    cases us with
    | nil => exact ⟨Dyn.DenV_le h1 hden.1, hden.2⟩
    | cons y us => exact ⟨Dyn.DenV_le h1 hden.1, Dyn.DenV_le h2 hden.2.1, hden.2.2⟩)
abbrev ExF := Gr → B4 → Int → Int → ExR
def enExam (k : Int) (F : ExF) : List Dyn.LA → Dyn.Lent → Option (Value × List (List Value) × List Prop)
  | [.d g, .d u, .d (.one (.p (.int .i64 d))), .lp 0 0], [(t, [.int .i64 most, .int .i64 a])] => match qG g, aX u, decide (d = k), Nat.beq t 97 with
    | some (x, _), some b, true, true => some (exV (F x b most a).lo (F x b most a).hi (F x b most a).e, mtO most (F x b most a).a, [PdG x])
    | _, _, _, _ => none
  | _, _ => none
def ExamOk (k : Int) (F : ExF) : Prop := ∀ x, PdG x → ∀ b most a, Dyn.CallX Try.prog 54 [.d (dvG x), .d (dvX b), .d (dvI k), .lp 0 0] (mtL most a) (exV (F x b most a).lo (F x b most a).hi (F x b most a).e) (mtO most (F x b most a).a)
theorem enExam_ok {k : Int} {F : ExF} (ih : ExamOk k F) : Dyn.EntryXOk Try.prog (54, enExam k F) := fun az lent u out ps h hp => by
  dsimp only at h
  unfold enExam at h
  split at h
  · rename_i g u' d t most a
    split at h
    · rename_i x ps' b hg hb hd ht
      have e1 := Nat.eq_of_beq_eq_true ht
      subst e1
      have e2 := of_decide_eq_true hd
      subst e2
      simp only [Option.some.injEq, Prod.mk.injEq] at h
      obtain ⟨rfl, rfl, rfl⟩ := h
      have q := qG_ok _ _ _ hg (by
        unfold qG at hg; split at hg
        · simp only [Option.some.injEq, Prod.mk.injEq] at hg
          rw [← hg.2]; trivial
        · cases hg)
      exact CallX_le2 q.1 (aX_eq hb) (ih x hp.1 b most a)
    · cases h
  · cases h
noncomputable def tdEx : List Dyn.EntryD := [(22, en2D (qAnd qL PdS) qX fun x b => rI (pClass (ofSh x) b)), (53, en2D (qAnd qG PdG) qX fun x b => .val (dvG (nearE x b)))]
def drEx (K : Nat) : Bool := Nat.beq K 53 || Nat.beq K 54 || Nat.beq K 27
noncomputable def tabEx (k : Int) (F : ExF) : Dyn.Tabs := Dyn.tabsX tbF tdEx [(27, enTake), (54, enExam k F)] drEx dtyG false
theorem tabEx_ok {k : Int} {F : ExF} (ih : ExamOk k F) : Dyn.TabsOk Try.prog (tabEx k F) :=
  Dyn.tabsX_ok tbF_ok (List.forall_mem_cons.2 ⟨en2D_ok (qAnd_ok qL_ok) qX_ok fun x b h _ => pClass_all x h.1 b, List.forall_mem_cons.2 ⟨en2D_ok (qAnd_ok qG_ok) qX_ok fun x b h _ => gnear_all x h.1 b, fun _ h => by cases h⟩⟩) (List.forall_mem_cons.2 ⟨enTake_ok, List.forall_mem_cons.2 ⟨enExam_ok ih, fun _ h => by cases h⟩⟩)
noncomputable def clsE (x : Gr) (b : B4) : Int := pClass (ofSh (obX x.n x.f)) b
noncomputable def exC (F : ExF) (x : Gr) (b : B4) (most : Int) (i : Nat) (a : Int) : ExR := F (nearE x (spB b i)) (spB b i) most a
noncomputable def exS (x : Gr) (b : B4) (i : Nat) : List Prop := [PdG x, PdG (nearE x (spB b i))]
noncomputable def exQO (F : ExF) (x : Gr) (b : B4) (most a : Int) : Dyn.RX :=
  let r0 := exC F x b most 0 a
  let r1 := exC F x b most 1 r0.a
  let r2 := exC F x b most 2 r1.a
  let r3 := exC F x b most 3 r2.a
  .side (exS x b 0) (.ite (r0.e != 0) (.leaf (exV 0 0 r0.e) (mtO most r0.a))
  (.side (exS x b 1) (.ite (r1.e != 0) (.leaf (exV 0 0 r1.e) (mtO most r1.a))
  (.side (exS x b 2) (.ite (r2.e != 0) (.leaf (exV 0 0 r2.e) (mtO most r2.a))
  (.side (exS x b 3) (.ite (r3.e != 0) (.leaf (exV 0 0 r3.e) (mtO most r3.a))
    (.leaf (exV (W (W (W (W (0 + r0.lo) + r1.lo) + r2.lo) + r3.lo)) (W (W (W (W (0 + r0.hi) + r1.hi) + r2.hi) + r3.hi)) 0) (mtO most r3.a)))))))))
noncomputable def exO (d : Nat) (Q : Dyn.RX) (x : Gr) (b : B4) (most a : Int) : Dyn.RX :=
  .ite (!(decide (W (a + 1) ≤ most))) (.leaf (exV 0 0 6) (mtO most (W (a + 1))))
  (.side [PdS (obX x.n x.f)] (.ite (clsE x b == 0) (.leaf (exV 0 0 0) (mtO most (W (a + 1))))
  (.ite (clsE x b == 2) (.side [(0 : Int) ≤ W (2 * (d : Int))] (.leaf (exV (cellsN d) (cellsN d) 0) (mtO most (W (a + 1)))))
  (.ite ((d : Int) == 0) (.leaf (exV 0 1 0) (mtO most (W (a + 1)))) Q))))
noncomputable def tabE0 : Dyn.Tabs := Dyn.tabsX tbF tdEx [(27, enTake)] drEx dtyG false
theorem tabE0_ok : Dyn.TabsOk Try.prog tabE0 :=
  Dyn.tabsX_ok tbF_ok (List.forall_mem_cons.2 ⟨en2D_ok (qAnd_ok qL_ok) qX_ok fun x b h _ => pClass_all x h.1 b, List.forall_mem_cons.2 ⟨en2D_ok (qAnd_ok qG_ok) qX_ok fun x b h _ => gnear_all x h.1 b, fun _ h => by cases h⟩⟩) (List.forall_mem_cons.2 ⟨enTake_ok, fun _ h => by cases h⟩)
theorem ex_O0 (x : Gr) (b : B4) (most a : Int) : (Dyn.dfunX Try.prog tabE0 Dyn.noLp 8 Try.f54 (mtL most a) [.d (dvG x), .d (dvX b), .d (dvI 0), .lp 0 0]).rx Try.prog (mtL most a) Try.f54.results = exO 0 .fail x b most a := by kernel_rfl
theorem ex_O1 (F : ExF) (x : Gr) (b : B4) (most a : Int) : (Dyn.dfunX Try.prog (tabEx 0 F) Dyn.noLp 8 Try.f54 (mtL most a) [.d (dvG x), .d (dvX b), .d (dvI 1), .lp 0 0]).rx Try.prog (mtL most a) Try.f54.results = exO 1 (exQO F x b most (W (a + 1))) x b most a := by kernel_rfl
theorem ex_O2 (F : ExF) (x : Gr) (b : B4) (most a : Int) : (Dyn.dfunX Try.prog (tabEx 1 F) Dyn.noLp 8 Try.f54 (mtL most a) [.d (dvG x), .d (dvX b), .d (dvI 2), .lp 0 0]).rx Try.prog (mtL most a) Try.f54.results = exO 2 (exQO F x b most (W (a + 1))) x b most a := by kernel_rfl
theorem ex_O3 (F : ExF) (x : Gr) (b : B4) (most a : Int) : (Dyn.dfunX Try.prog (tabEx 2 F) Dyn.noLp 8 Try.f54 (mtL most a) [.d (dvG x), .d (dvX b), .d (dvI 3), .lp 0 0]).rx Try.prog (mtL most a) Try.f54.results = exO 3 (exQO F x b most (W (a + 1))) x b most a := by kernel_rfl
theorem ex_O4 (F : ExF) (x : Gr) (b : B4) (most a : Int) : (Dyn.dfunX Try.prog (tabEx 3 F) Dyn.noLp 8 Try.f54 (mtL most a) [.d (dvG x), .d (dvX b), .d (dvI 4), .lp 0 0]).rx Try.prog (mtL most a) Try.f54.results = exO 4 (exQO F x b most (W (a + 1))) x b most a := by kernel_rfl
theorem ex_O5 (F : ExF) (x : Gr) (b : B4) (most a : Int) : (Dyn.dfunX Try.prog (tabEx 4 F) Dyn.noLp 8 Try.f54 (mtL most a) [.d (dvG x), .d (dvX b), .d (dvI 5), .lp 0 0]).rx Try.prog (mtL most a) Try.f54.results = exO 5 (exQO F x b most (W (a + 1))) x b most a := by kernel_rfl
theorem ex_O6 (F : ExF) (x : Gr) (b : B4) (most a : Int) : (Dyn.dfunX Try.prog (tabEx 5 F) Dyn.noLp 8 Try.f54 (mtL most a) [.d (dvG x), .d (dvX b), .d (dvI 6), .lp 0 0]).rx Try.prog (mtL most a) Try.f54.results = exO 6 (exQO F x b most (W (a + 1))) x b most a := by kernel_rfl
noncomputable def exE (d : Nat) : ExF := fun x b most a => exF most d (ofG x) b a
theorem exE_z (x : Gr) (b : B4) (most a : Int) : exE 0 x b most a = exT most (clsE x b) (cellsN 0) (fun a => ⟨0, 1, 0, a⟩) a := by
  unfold exE clsE exF
  rw [← pClass_C]; rfl
theorem exF_lst (most : Int) (d : Nat) (s : Shp) : exF most d (lst s) = exF most d s := by cases d <;> rfl
theorem exE_s (d : Nat) (x : Gr) (b : B4) (most a : Int) : exE (d + 1) x b most a = exT most (clsE x b) (cellsN (d + 1)) (exQ (fun q a => exE d (nearE x q) q most a) b) a := by
  unfold exE clsE nearE
  simp only [ofG_toG, exF_lst]
  rw [show pClass (ofSh (obX x.n x.f)) b = pClassC (ofSh (obX x.n x.f)) b from pClass_C _ _]
  rfl
theorem exT_sat {d : Nat} {x : Gr} {b : B4} {most a : Int} {Q : Dyn.RX} {m : Int → ExR} (hx : PdG x) (h : (d : Int) = 0 → m (W (a + 1)) = ⟨0, 1, 0, W (a + 1)⟩) (hQ : (d : Int) ≠ 0 → Q.sat fun u os => u = exV (m (W (a + 1))).lo (m (W (a + 1))).hi (m (W (a + 1))).e ∧ os = mtO most (m (W (a + 1))).a) (hd : d ≤ 7) :
    (exO d Q x b most a).sat fun u os => u = exV (exT most (clsE x b) (cellsN d) m a).lo (exT most (clsE x b) (cellsN d) m a).hi (exT most (clsE x b) (cellsN d) m a).e ∧ os = mtO most (exT most (clsE x b) (cellsN d) m a).a := by
  unfold exT
  refine ⟨fun h1 => ?_, fun h1 => ⟨⟨hx.1, trivial⟩, fun h2 => ?_, fun h2 => ⟨fun h3 => ⟨⟨?_, trivial⟩, ?_⟩, fun h3 => ⟨fun h4 => ?_, fun h4 => ?_⟩⟩⟩⟩
  · rw [h1]; exact ⟨rfl, rfl⟩
  · rw [h1, h2]; exact ⟨rfl, rfl⟩
  · rw [W_id (by omega) (by omega)]; omega
  · rw [h1, h2, h3]; exact ⟨rfl, rfl⟩
  · rw [h1, h2, h3]
    have := h (by simpa using h4)
    simp only [cond_false]
    rw [this]; exact ⟨rfl, rfl⟩
  · rw [h1, h2, h3]
    exact hQ (by simpa using h4)
theorem exQ_sat (F : ExF) {x : Gr} (hx : PdG x) (b : B4) (most a : Int) : (exQO F x b most a).sat fun u os => u = exV (exQ (fun q a => F (nearE x q) q most a) b a).lo (exQ (fun q a => F (nearE x q) q most a) b a).hi (exQ (fun q a => F (nearE x q) q most a) b a).e ∧ os = mtO most (exQ (fun q a => F (nearE x q) q most a) b a).a := by
  have pd : ∀ i, Sym.allP (exS x b i) := fun i => ⟨hx, nearE_Pd hx _, trivial⟩
  unfold exQ
  refine ⟨pd 0, fun h0 => ?_, fun h0 => ⟨pd 1, fun h1 => ?_, fun h1 => ⟨pd 2, fun h2 => ?_, fun h2 => ⟨pd 3, fun h3 => ?_, fun h3 => ?_⟩⟩⟩⟩
  all_goals unfold exC at *
  · rw [h0]; exact ⟨rfl, rfl⟩
  · rw [h0, h1]; exact ⟨rfl, rfl⟩
  · rw [h0, h1, h2]; exact ⟨rfl, rfl⟩
  · rw [h0, h1, h2, h3]; exact ⟨rfl, rfl⟩
  · rw [h0, h1, h2, h3]; exact ⟨rfl, rfl⟩
theorem exam0 : ExamOk 0 (exE 0) := fun x hx b most a => by
  rw [exE_z]
  exact Dyn.xcontract (lp := Dyn.noLp) (fuel := 8) tabE0_ok mo Try.func54 (by kernel_rfl) (c := bodyD Try.f54.body) (by kernel_rfl) (fun w0 => Dyn.noLp_ok _ w0) (by kernel_rfl) (by kernel_rfl) (by kernel_rfl) (ex_O0 x b most a) (exT_sat (d := 0) hx (fun _ => rfl) (fun h => absurd rfl h) (by decide))
theorem exam1 : ExamOk 1 (exE 1) := fun x hx b most a => by
  rw [exE_s]
  exact Dyn.xcontract (lp := Dyn.noLp) (fuel := 8) (tabEx_ok exam0) mo Try.func54 (by kernel_rfl) (c := bodyD Try.f54.body) (by kernel_rfl) (fun w0 => Dyn.noLp_ok _ w0) (by kernel_rfl) (by kernel_rfl) (by kernel_rfl) (ex_O1 (exE 0) x b most a) (exT_sat (d := 1) hx (fun h => absurd h (by decide)) (fun _ => exQ_sat (exE 0) hx b most _) (by decide))
theorem exam2 : ExamOk 2 (exE 2) := fun x hx b most a => by
  rw [exE_s]
  exact Dyn.xcontract (lp := Dyn.noLp) (fuel := 8) (tabEx_ok exam1) mo Try.func54 (by kernel_rfl) (c := bodyD Try.f54.body) (by kernel_rfl) (fun w0 => Dyn.noLp_ok _ w0) (by kernel_rfl) (by kernel_rfl) (by kernel_rfl) (ex_O2 (exE 1) x b most a) (exT_sat (d := 2) hx (fun h => absurd h (by decide)) (fun _ => exQ_sat (exE 1) hx b most _) (by decide))
theorem exam3 : ExamOk 3 (exE 3) := fun x hx b most a => by
  rw [exE_s]
  exact Dyn.xcontract (lp := Dyn.noLp) (fuel := 8) (tabEx_ok exam2) mo Try.func54 (by kernel_rfl) (c := bodyD Try.f54.body) (by kernel_rfl) (fun w0 => Dyn.noLp_ok _ w0) (by kernel_rfl) (by kernel_rfl) (by kernel_rfl) (ex_O3 (exE 2) x b most a) (exT_sat (d := 3) hx (fun h => absurd h (by decide)) (fun _ => exQ_sat (exE 2) hx b most _) (by decide))
theorem exam4 : ExamOk 4 (exE 4) := fun x hx b most a => by
  rw [exE_s]
  exact Dyn.xcontract (lp := Dyn.noLp) (fuel := 8) (tabEx_ok exam3) mo Try.func54 (by kernel_rfl) (c := bodyD Try.f54.body) (by kernel_rfl) (fun w0 => Dyn.noLp_ok _ w0) (by kernel_rfl) (by kernel_rfl) (by kernel_rfl) (ex_O4 (exE 3) x b most a) (exT_sat (d := 4) hx (fun h => absurd h (by decide)) (fun _ => exQ_sat (exE 3) hx b most _) (by decide))
theorem exam5 : ExamOk 5 (exE 5) := fun x hx b most a => by
  rw [exE_s]
  exact Dyn.xcontract (lp := Dyn.noLp) (fuel := 8) (tabEx_ok exam4) mo Try.func54 (by kernel_rfl) (c := bodyD Try.f54.body) (by kernel_rfl) (fun w0 => Dyn.noLp_ok _ w0) (by kernel_rfl) (by kernel_rfl) (by kernel_rfl) (ex_O5 (exE 4) x b most a) (exT_sat (d := 5) hx (fun h => absurd h (by decide)) (fun _ => exQ_sat (exE 4) hx b most _) (by decide))
theorem exam6 : ExamOk 6 (exE 6) := fun x hx b most a => by
  rw [exE_s]
  exact Dyn.xcontract (lp := Dyn.noLp) (fuel := 8) (tabEx_ok exam5) mo Try.func54 (by kernel_rfl) (c := bodyD Try.f54.body) (by kernel_rfl) (fun w0 => Dyn.noLp_ok _ w0) (by kernel_rfl) (by kernel_rfl) (by kernel_rfl) (ex_O6 (exE 5) x b most a) (exT_sat (d := 6) hx (fun h => absurd h (by decide)) (fun _ => exQ_sat (exE 5) hx b most _) (by decide))
end Go.Proofs.Ythnenjodighlmaa

/-! ## Rge -/
namespace Go.Proofs.Ythnenjodighlmaa
open Go Go.RowKit Sym
set_option maxRecDepth 100000

noncomputable def tdCv : List Dyn.EntryD := [(52, en1D (qAnd qL PdS) fun x => .val (dvG (reachE x))), (53, en2D (qAnd qG PdG) qX fun x b => .val (dvG (nearE x b)))]
def drCv (K : Nat) : Bool := Nat.beq K 53 || Nat.beq K 52 || Nat.beq K 54
noncomputable def tabCv (k : Int) (F : ExF) : Dyn.Tabs := Dyn.tabsX tbF tdCv [(54, enExam k F)] drCv dtyG false
theorem tabCv_ok {k : Int} {F : ExF} (ih : ExamOk k F) : Dyn.TabsOk Try.prog (tabCv k F) :=
  Dyn.tabsX_ok tbF_ok (List.forall_mem_cons.2 ⟨en1D_ok (qAnd_ok qL_ok) fun x h => greach_all x h.1, List.forall_mem_cons.2 ⟨en2D_ok (qAnd_ok qG_ok) qX_ok fun x b h _ => gnear_all x h.1 b, fun _ h => by cases h⟩⟩) (List.forall_mem_cons.2 ⟨enExam_ok ih, fun _ h => by cases h⟩)
def gdF (g : Bool) (ps : List Prop) : Prop := some g = some false ∧ True → Sym.allP ps
theorem gdF_ok {g : Bool} {ps : List Prop} (h : Sym.allP ps) : gdF g ps := fun _ => h
def cvM (d : Int) : Int := W (1 * 2 ^ min d.toNat IntKind.i64.bits)
def cvBad (d u : Int) : Bool := bif W u == 0 then true else (W u).tmod (cvM d) != 0
def cvErr (most a : Int) : Dyn.RX := .leaf (exV 0 0 1) (mtO most a)
def cvG (d u : Int) : List Prop := [gdF (W u == 0) [0 ≤ d], gdF (W u == 0) [cvM d ≠ 0]]
def cvArg (d : Int) (b : B4) : Bool := bif bif decide (d < 0) then true else decide (d > 6) then true else !(boxOk b)
noncomputable def cvO (d : Int) (F : ExF) (x : Sh) (b : B4) (most a : Int) : Dyn.RX :=
  .ite (cvArg d b) (cvErr most a)
  (.side (cvG d (b.x1 - b.x0)) (.ite (cvBad d (b.x1 - b.x0)) (cvErr most a)
  (.side (cvG d (b.y1 - b.y0)) (.ite (cvBad d (b.y1 - b.y0)) (cvErr most a)
  (.side [PdS x, PdG (reachE x), PdG (nearE (reachE x) b)] (.leaf (exV (F (nearE (reachE x) b) b most a).lo (F (nearE (reachE x) b) b most a).hi (F (nearE (reachE x) b) b most a).e) (mtO most (F (nearE (reachE x) b) b most a).a)))))))
/-- what Cover gives -/
def coverF (most d : Int) (s : Shp) (b : B4) (a : Int) : ExR :=
  bif cvArg d b then exNo 1 a else bif cvBad d (b.x1 - b.x0) then exNo 1 a else bif cvBad d (b.y1 - b.y0) then exNo 1 a else exF most d.toNat (nearG (reachF s) b) b a
noncomputable def coverE (d : Int) (x : Sh) (b : B4) (most a : Int) : ExR := coverF most d (ofSh x) b a
theorem cv_sat {d : Nat} {x : Sh} (hx : PdS x) (hd : d ≤ 6) (b : B4) (most a : Int) : (cvO d (exE d) x b most a).sat fun u os => u = exV (coverE d x b most a).lo (coverE d x b most a).hi (coverE d x b most a).e ∧ os = mtO most (coverE d x b most a).a := by
  have hG : ∀ u, Sym.allP (cvG d u) := fun u => by
    have e : d = 0 ∨ d = 1 ∨ d = 2 ∨ d = 3 ∨ d = 4 ∨ d = 5 ∨ d = 6 := by omega
    exact ⟨gdF_ok ⟨by omega, trivial⟩, gdF_ok ⟨by rcases e with rfl | rfl | rfl | rfl | rfl | rfl | rfl <;> decide, trivial⟩, trivial⟩
  have er : exE d (nearE (reachE x) b) b most a = exF most d (nearG (reachF (ofSh x)) b) b a := by
    unfold exE nearE reachE
    rw [ofG_toG, ofG_toG, exF_lst]; rfl
  unfold coverE coverF
  refine ⟨fun h1 => ?_, fun h1 => ⟨hG _, fun h2 => ?_, fun h2 => ⟨hG _, fun h3 => ?_, fun h3 => ⟨⟨hx, reachE_Pd hx, nearE_Pd (reachE_Pd hx) b, trivial⟩, ?_⟩⟩⟩⟩
  · rw [h1]; exact ⟨rfl, rfl⟩
  · rw [h1, h2]; exact ⟨rfl, rfl⟩
  · rw [h1, h2, h3]; exact ⟨rfl, rfl⟩
  · rw [h1, h2, h3, er]; exact ⟨rfl, rfl⟩
theorem cv_O0 (F : ExF) (n : Nat) (f : Nat → List Dyn.DC) (b : B4) (most a : Int) : (Dyn.dfunX Try.prog (tabCv 0 F) Dyn.noLp 8 Try.f31 (mtL most a) [.d (dvL (obX n f)), .d (dvX b), .d (dvI 0), .lp 0 0]).rx Try.prog (mtL most a) Try.f31.results = cvO 0 F (obX n f) b most a := by kernel_rfl
theorem cover0 (n : Nat) (f : Nat → List Dyn.DC) (hx : PdS (obX n f)) (b : B4) (most a : Int) : Dyn.CallX Try.prog 31 [.d (dvL (obX n f)), .d (dvX b), .d (dvI 0), .lp 0 0] (mtL most a) (exV (coverE 0 (obX n f) b most a).lo (coverE 0 (obX n f) b most a).hi (coverE 0 (obX n f) b most a).e) (mtO most (coverE 0 (obX n f) b most a).a) :=
  Dyn.xcontract (lp := Dyn.noLp) (fuel := 8) (tabCv_ok exam0) mo Try.func31 (by kernel_rfl) (c := bodyD Try.f31.body) (by kernel_rfl) (fun w0 => Dyn.noLp_ok _ w0) (by kernel_rfl) (by kernel_rfl) (by kernel_rfl) (cv_O0 (exE 0) n f b most a) (cv_sat (d := 0) hx (by decide) b most a)
theorem cv_O1 (F : ExF) (n : Nat) (f : Nat → List Dyn.DC) (b : B4) (most a : Int) : (Dyn.dfunX Try.prog (tabCv 1 F) Dyn.noLp 8 Try.f31 (mtL most a) [.d (dvL (obX n f)), .d (dvX b), .d (dvI 1), .lp 0 0]).rx Try.prog (mtL most a) Try.f31.results = cvO 1 F (obX n f) b most a := by kernel_rfl
theorem cover1 (n : Nat) (f : Nat → List Dyn.DC) (hx : PdS (obX n f)) (b : B4) (most a : Int) : Dyn.CallX Try.prog 31 [.d (dvL (obX n f)), .d (dvX b), .d (dvI 1), .lp 0 0] (mtL most a) (exV (coverE 1 (obX n f) b most a).lo (coverE 1 (obX n f) b most a).hi (coverE 1 (obX n f) b most a).e) (mtO most (coverE 1 (obX n f) b most a).a) :=
  Dyn.xcontract (lp := Dyn.noLp) (fuel := 8) (tabCv_ok exam1) mo Try.func31 (by kernel_rfl) (c := bodyD Try.f31.body) (by kernel_rfl) (fun w0 => Dyn.noLp_ok _ w0) (by kernel_rfl) (by kernel_rfl) (by kernel_rfl) (cv_O1 (exE 1) n f b most a) (cv_sat (d := 1) hx (by decide) b most a)
theorem cv_O2 (F : ExF) (n : Nat) (f : Nat → List Dyn.DC) (b : B4) (most a : Int) : (Dyn.dfunX Try.prog (tabCv 2 F) Dyn.noLp 8 Try.f31 (mtL most a) [.d (dvL (obX n f)), .d (dvX b), .d (dvI 2), .lp 0 0]).rx Try.prog (mtL most a) Try.f31.results = cvO 2 F (obX n f) b most a := by kernel_rfl
theorem cover2 (n : Nat) (f : Nat → List Dyn.DC) (hx : PdS (obX n f)) (b : B4) (most a : Int) : Dyn.CallX Try.prog 31 [.d (dvL (obX n f)), .d (dvX b), .d (dvI 2), .lp 0 0] (mtL most a) (exV (coverE 2 (obX n f) b most a).lo (coverE 2 (obX n f) b most a).hi (coverE 2 (obX n f) b most a).e) (mtO most (coverE 2 (obX n f) b most a).a) :=
  Dyn.xcontract (lp := Dyn.noLp) (fuel := 8) (tabCv_ok exam2) mo Try.func31 (by kernel_rfl) (c := bodyD Try.f31.body) (by kernel_rfl) (fun w0 => Dyn.noLp_ok _ w0) (by kernel_rfl) (by kernel_rfl) (by kernel_rfl) (cv_O2 (exE 2) n f b most a) (cv_sat (d := 2) hx (by decide) b most a)
theorem cv_O3 (F : ExF) (n : Nat) (f : Nat → List Dyn.DC) (b : B4) (most a : Int) : (Dyn.dfunX Try.prog (tabCv 3 F) Dyn.noLp 8 Try.f31 (mtL most a) [.d (dvL (obX n f)), .d (dvX b), .d (dvI 3), .lp 0 0]).rx Try.prog (mtL most a) Try.f31.results = cvO 3 F (obX n f) b most a := by kernel_rfl
theorem cover3 (n : Nat) (f : Nat → List Dyn.DC) (hx : PdS (obX n f)) (b : B4) (most a : Int) : Dyn.CallX Try.prog 31 [.d (dvL (obX n f)), .d (dvX b), .d (dvI 3), .lp 0 0] (mtL most a) (exV (coverE 3 (obX n f) b most a).lo (coverE 3 (obX n f) b most a).hi (coverE 3 (obX n f) b most a).e) (mtO most (coverE 3 (obX n f) b most a).a) :=
  Dyn.xcontract (lp := Dyn.noLp) (fuel := 8) (tabCv_ok exam3) mo Try.func31 (by kernel_rfl) (c := bodyD Try.f31.body) (by kernel_rfl) (fun w0 => Dyn.noLp_ok _ w0) (by kernel_rfl) (by kernel_rfl) (by kernel_rfl) (cv_O3 (exE 3) n f b most a) (cv_sat (d := 3) hx (by decide) b most a)
theorem cv_O4 (F : ExF) (n : Nat) (f : Nat → List Dyn.DC) (b : B4) (most a : Int) : (Dyn.dfunX Try.prog (tabCv 4 F) Dyn.noLp 8 Try.f31 (mtL most a) [.d (dvL (obX n f)), .d (dvX b), .d (dvI 4), .lp 0 0]).rx Try.prog (mtL most a) Try.f31.results = cvO 4 F (obX n f) b most a := by kernel_rfl
theorem cover4 (n : Nat) (f : Nat → List Dyn.DC) (hx : PdS (obX n f)) (b : B4) (most a : Int) : Dyn.CallX Try.prog 31 [.d (dvL (obX n f)), .d (dvX b), .d (dvI 4), .lp 0 0] (mtL most a) (exV (coverE 4 (obX n f) b most a).lo (coverE 4 (obX n f) b most a).hi (coverE 4 (obX n f) b most a).e) (mtO most (coverE 4 (obX n f) b most a).a) :=
  Dyn.xcontract (lp := Dyn.noLp) (fuel := 8) (tabCv_ok exam4) mo Try.func31 (by kernel_rfl) (c := bodyD Try.f31.body) (by kernel_rfl) (fun w0 => Dyn.noLp_ok _ w0) (by kernel_rfl) (by kernel_rfl) (by kernel_rfl) (cv_O4 (exE 4) n f b most a) (cv_sat (d := 4) hx (by decide) b most a)
theorem cv_O5 (F : ExF) (n : Nat) (f : Nat → List Dyn.DC) (b : B4) (most a : Int) : (Dyn.dfunX Try.prog (tabCv 5 F) Dyn.noLp 8 Try.f31 (mtL most a) [.d (dvL (obX n f)), .d (dvX b), .d (dvI 5), .lp 0 0]).rx Try.prog (mtL most a) Try.f31.results = cvO 5 F (obX n f) b most a := by kernel_rfl
theorem cover5 (n : Nat) (f : Nat → List Dyn.DC) (hx : PdS (obX n f)) (b : B4) (most a : Int) : Dyn.CallX Try.prog 31 [.d (dvL (obX n f)), .d (dvX b), .d (dvI 5), .lp 0 0] (mtL most a) (exV (coverE 5 (obX n f) b most a).lo (coverE 5 (obX n f) b most a).hi (coverE 5 (obX n f) b most a).e) (mtO most (coverE 5 (obX n f) b most a).a) :=
  Dyn.xcontract (lp := Dyn.noLp) (fuel := 8) (tabCv_ok exam5) mo Try.func31 (by kernel_rfl) (c := bodyD Try.f31.body) (by kernel_rfl) (fun w0 => Dyn.noLp_ok _ w0) (by kernel_rfl) (by kernel_rfl) (by kernel_rfl) (cv_O5 (exE 5) n f b most a) (cv_sat (d := 5) hx (by decide) b most a)
theorem cv_O6 (F : ExF) (n : Nat) (f : Nat → List Dyn.DC) (b : B4) (most a : Int) : (Dyn.dfunX Try.prog (tabCv 6 F) Dyn.noLp 8 Try.f31 (mtL most a) [.d (dvL (obX n f)), .d (dvX b), .d (dvI 6), .lp 0 0]).rx Try.prog (mtL most a) Try.f31.results = cvO 6 F (obX n f) b most a := by kernel_rfl
theorem cover6 (n : Nat) (f : Nat → List Dyn.DC) (hx : PdS (obX n f)) (b : B4) (most a : Int) : Dyn.CallX Try.prog 31 [.d (dvL (obX n f)), .d (dvX b), .d (dvI 6), .lp 0 0] (mtL most a) (exV (coverE 6 (obX n f) b most a).lo (coverE 6 (obX n f) b most a).hi (coverE 6 (obX n f) b most a).e) (mtO most (coverE 6 (obX n f) b most a).a) :=
  Dyn.xcontract (lp := Dyn.noLp) (fuel := 8) (tabCv_ok exam6) mo Try.func31 (by kernel_rfl) (c := bodyD Try.f31.body) (by kernel_rfl) (fun w0 => Dyn.noLp_ok _ w0) (by kernel_rfl) (by kernel_rfl) (by kernel_rfl) (cv_O6 (exE 6) n f b most a) (cv_sat (d := 6) hx (by decide) b most a)
theorem cover_ok {d : Int} (h0 : 0 ≤ d) (h6 : d ≤ 6) (n : Nat) (f : Nat → List Dyn.DC) (hx : PdS (obX n f)) (b : B4) (most a : Int) : Dyn.CallX Try.prog 31 [.d (dvL (obX n f)), .d (dvX b), .d (dvI d), .lp 0 0] (mtL most a) (exV (coverE d (obX n f) b most a).lo (coverE d (obX n f) b most a).hi (coverE d (obX n f) b most a).e) (mtO most (coverE d (obX n f) b most a).a) := by
  have e : d = 0 ∨ d = 1 ∨ d = 2 ∨ d = 3 ∨ d = 4 ∨ d = 5 ∨ d = 6 := by omega
  rcases e with rfl | rfl | rfl | rfl | rfl | rfl | rfl
  · exact cover0 n f hx b most a
  · exact cover1 n f hx b most a
  · exact cover2 n f hx b most a
  · exact cover3 n f hx b most a
  · exact cover4 n f hx b most a
  · exact cover5 n f hx b most a
  · exact cover6 n f hx b most a
end Go.Proofs.Ythnenjodighlmaa

/-! ## Pim -/
namespace Go.Proofs.Ythnenjodighlmaa
open Go Go.RowKit Sym
set_option maxRecDepth 100000

/-- q lies in b -/
structure Sb (q b : B4) : Prop where
  fa : b.x0 ≤ q.x0
  x : q.x0 ≤ q.x1
  fb : q.x1 ≤ b.x1
  fc : b.y0 ≤ q.y0
  y : q.y0 ≤ q.y1
  fd : q.y1 ≤ b.y1
theorem Sb.has {q b : B4} (h : Sb q b) {p : P2} (k : hasI q p) : hasI b p := by
  have := h.fa; have := h.fb; have := h.fc; have := h.fd
  obtain ⟨k1, k2, k3, k4⟩ := k
  exact ⟨by omega, by omega, by omega, by omega⟩
theorem Sb.cor {q b : B4} (h : Sb q b) {p : P2} (k : isC q p) : hasI b p := h.has (isC_has h.x h.y k)
theorem Sb.near {q b : B4} (h : Sb q b) (p : P2) : nearI b p ≤ nearI q p := by
  have := h.fa; have := h.fb; have := h.fc; have := h.fd; have := h.x; have := h.y
  have gx : 0 ≤ gapI p.x b.x0 b.x1 ∧ gapI p.x b.x0 b.x1 ≤ gapI p.x q.x0 q.x1 := by unfold gapI; repeat' split <;> omega
  have gy : 0 ≤ gapI p.y b.y0 b.y1 ∧ gapI p.y b.y0 b.y1 ≤ gapI p.y q.y0 q.y1 := by unfold gapI; repeat' split <;> omega
  have := Int.mul_le_mul gx.2 gx.2 gx.1 (by omega)
  have := Int.mul_le_mul gy.2 gy.2 gy.1 (by omega)
  unfold nearI
  omega
theorem Sb.most {q b : B4} (h : Sb q b) (p : P2) : mostI q p ≤ mostI b p := by
  have := h.fa; have := h.fb; have := h.fc; have := h.fd; have := h.x; have := h.y
  have gx : 0 ≤ reachI p.x q.x0 q.x1 ∧ reachI p.x q.x0 q.x1 ≤ reachI p.x b.x0 b.x1 := by unfold reachI; omega
  have gy : 0 ≤ reachI p.y q.y0 q.y1 ∧ reachI p.y q.y0 q.y1 ≤ reachI p.y b.y0 b.y1 := by unfold reachI; omega
  have := Int.mul_le_mul gx.2 gx.2 gx.1 (by omega)
  have := Int.mul_le_mul gy.2 gy.2 gy.1 (by omega)
  unfold mostI
  omega
theorem Sb.pos {q b : B4} (h : Sb q b) {a c : P2} (k : all4 (fun z => decide (crossI a c z > 0)) b = true) : all4 (fun z => decide (crossI a c z > 0)) q = true := by
  rw [all4_iff] at k ⊢
  intro z hz
  obtain ⟨w, hw, hl⟩ := cross_le a c (h.cor hz)
  have := k w hw
  rw [decide_eq_true_eq] at this ⊢; omega
theorem Sb.neg {q b : B4} (h : Sb q b) {a c : P2} (k : all4 (fun z => decide (crossI a c z < 0)) b = true) : all4 (fun z => decide (crossI a c z < 0)) q = true := by
  rw [all4_iff] at k ⊢
  intro z hz
  obtain ⟨w, hw, hl⟩ := cross_ge a c (h.cor hz)
  have := k w hw
  rw [decide_eq_true_eq] at this ⊢; omega
theorem Sb.meets {q b : B4} (h : Sb q b) {a c : P2} (k : meetsI q a c = true) : meetsI b a c = true := by
  have := h.fa; have := h.fb; have := h.fc; have := h.fd; have := h.x; have := h.y
  unfold meetsI at k ⊢
  simp only [Bool.and_eq_true, Bool.not_eq_true'] at k ⊢
  obtain ⟨k1, k2, k3⟩ := k
  refine ⟨?_, ?_, ?_⟩
  · unfold sepI at k1 ⊢
    simp only [Bool.or_eq_false_iff, decide_eq_false_iff_not] at k1 ⊢
    omega
  · cases e : all4 (fun z => decide (crossI a c z > 0)) b
    · rfl
    · rw [h.pos e] at k2; cases k2
  · cases e : all4 (fun z => decide (crossI a c z < 0)) b
    · rfl
    · rw [h.neg e] at k3; cases k3
/-- a class, and that of a smaller box -/
structure Ref (k j : Int) : Prop where
  k0 : 0 ≤ k
  k2 : k ≤ 2
  j0 : 0 ≤ j
  j2 : j ≤ 2
  e : k ≠ 1 → j = k
theorem Ref.of {k j : Int} (hk : k = 0 ∨ k = 1 ∨ k = 2) (hj : j = 0 ∨ j = 1 ∨ j = 2) (h2 : k = 2 → j = 2) (h0 : k = 0 → j = 0) : Ref k j := ⟨by omega, by omega, by omega, by omega, fun h => by omega⟩
theorem Ref.fold {k j m n : Int} (h : Ref k j) (g : Ref m n) (add : Bool) : Ref (foldF k m add) (foldF j n add) := by
  obtain ⟨h1, h2, h3, h4, h5⟩ := h
  obtain ⟨g1, g2, g3, g4, g5⟩ := g
  have a : (k = 0 ∧ j = 0) ∨ (k = 2 ∧ j = 2) ∨ (k = 1 ∧ (j = 0 ∨ j = 1 ∨ j = 2)) := by omega
  have b : (m = 0 ∧ n = 0) ∨ (m = 2 ∧ n = 2) ∨ (m = 1 ∧ (n = 0 ∨ n = 1 ∨ n = 2)) := by omega
  rcases a with ⟨rfl, rfl⟩ | ⟨rfl, rfl⟩ | ⟨rfl, rfl | rfl | rfl⟩ <;> rcases b with ⟨rfl, rfl⟩ | ⟨rfl, rfl⟩ | ⟨rfl, rfl | rfl | rfl⟩ <;> cases add <;> exact ⟨by decide, by decide, by decide, by decide, by decide⟩
theorem fitsBR {b : B4} (hb : Fits b) : BR b := ⟨⟨by have := hb.x0; omega, by have := hb.x; have := hb.x1; omega⟩, ⟨by have := hb.y0; omega, by have := hb.y; have := hb.y1; omega⟩, ⟨by have := hb.x0; have := hb.x; omega, by have := hb.x1; omega⟩, ⟨by have := hb.y0; have := hb.y; omega, by have := hb.y1; omega⟩⟩
end Go.Proofs.Ythnenjodighlmaa

/-! ## Pin -/
namespace Go.Proofs.Ythnenjodighlmaa
open Go Go.RowKit Sym
set_option maxRecDepth 100000

theorem bandLe (x : Int) (m : Nat) (hm : m < 2 ^ 62) : 0 ≤ band x (m : Int) ∧ band x (m : Int) ≤ m := by
  have h : (BitVec.ofInt 64 x &&& BitVec.ofInt 64 (m : Int)).toNat ≤ m := by
    rw [BitVec.toNat_and]
    refine Nat.le_trans Nat.and_le_right ?_
    simp only [BitVec.toNat_ofInt]
    omega
  unfold band
  rw [W_id (by omega) (by omega)]
  omega
end Go.Proofs.Ythnenjodighlmaa

/-! ## Rgf -/
namespace Go.Proofs.Ythnenjodighlmaa
open Go Go.RowKit Sym
set_option maxRecDepth 100000

/-- a shift to the left -/
def shlI (v d : Int) : Int := W (v * 2 ^ min (IntKind.u64.wrap d).toNat 64)
def sdK (w d : Int) (s : Bool) : Int := bif s then shlI (W (band w 3 + 1)) d else shlI (W (W ((IntKind.u64.wrap w).tmod 1000000) + 1)) d
def sdP (x y : Int) (s : Bool) : P2 := bif s then lClose (lClose ⟨x, y⟩ 400000000) 25 else lClose ⟨x, y⟩ 400000000
def sideF (x y w d : Int) (s : Bool) : B4 := ⟨(sdP x y s).x, (sdP x y s).y, W ((sdP x y s).x + sdK w d s), W ((sdP x y s).y + sdK w d s)⟩
def tabSd : Dyn.Tabs := Dyn.tabs tbF [] noD noD
theorem tabSd_ok : Dyn.TabsOk Try.prog tabSd := Dyn.tabs_ok tbF_ok (fun _ h => by cases h)
def sdO (x y w d : Int) (s : Bool) : Dyn.RO :=
  .side [0 ≤ IntKind.u64.wrap d] (.side [W (400000000 + 1) ≠ 0] (.ite s (.side [0 ≤ IntKind.u64.wrap d, W (25 + 1) ≠ 0] (.leaf (.val (dvX (sideF x y w d true))))) (.leaf (.val (dvX (sideF x y w d false))))))
theorem sd_O (x y w d : Int) (s : Bool) : (Dyn.dfun Try.prog tabSd Dyn.noLp 3 Try.f30 [dvI x, dvI y, dvI w, dvI d, dvB s]).ro Try.prog Try.f30.results = sdO x y w d s := by kernel_rfl
theorem u64_pos (d : Int) : 0 ≤ IntKind.u64.wrap d := by
  show 0 ≤ d % 18446744073709551616
  omega
theorem side_ok (x y w d : Int) (s : Bool) : Dyn.CallD Try.prog 30 [dvI x, dvI y, dvI w, dvI d, dvB s] (.val (dvX (sideF x y w d s))) :=
  Dyn.dcontract (lp := Dyn.noLp) (fuel := 3) tabSd_ok mo Try.func30 (by kernel_rfl) (c := bodyD Try.f30.body) (by kernel_rfl) (fun w0 => Dyn.noLp_ok _ w0) (by kernel_rfl) (sd_O x y w d s) (by
    refine ⟨⟨u64_pos d, trivial⟩, ⟨by decide, trivial⟩, fun h => ⟨⟨u64_pos d, by decide, trivial⟩, ?_⟩, fun h => ?_⟩
    · subst h; exact ro_leaf rfl
    · subst h; exact ro_leaf rfl)
end Go.Proofs.Ythnenjodighlmaa

/-! ## Rgh -/
namespace Go.Proofs.Ythnenjodighlmaa
open Go Go.RowKit Sym
set_option maxRecDepth 100000

theorem CallX_d1 {P : Program} {K : Nat} {u u' v v' : Dyn.DV} {l : List Dyn.LA} {lent : Dyn.Lent} {r : Value} {o : List (List Value)} (h1 : DVd u u') (h2 : Dyn.DVLe v v') (k : Dyn.CallX P K (.d u' :: .d v' :: l) lent r o) : Dyn.CallX P K (.d u :: .d v :: l) lent r o := fun w F bs us hF hn hd hl hden => k w F bs us hF hn hd hl (by
  cases us with
  | nil => exact hden
  | cons x us =>
    cases us with
    | nil => exact ⟨DVd.den h1 hden.1, hden.2⟩
    | cons y us => exact ⟨DVd.den h1 hden.1, Dyn.DenV_le h2 hden.2.1, hden.2.2⟩)
/-! ### a polygon of four points, as a program writes it -/
def p4X (a b c d : P2) : Nat → List Dyn.DC := Dyn.pickL 0 [[cI a.x, cI a.y], [cI b.x, cI b.y], [cI c.x, cI c.y], [cI d.x, cI d.y]]
def p4C (a b c d : P2) : Ctr := ⟨1, fun _ => 4, fun _ k => match k with
  | 0 => a
  | 1 => b
  | 2 => c
  | _ => d⟩
def p4S (a b c d : P2) : Shp := leafS 2 ze ze ze 0 (p4C a b c d)
def p4L (a b c d : P2) : Shp := lForm 1 (fun _ => true) (fun _ => p4S a b c d)
def p4R (a b c d : P2) : Nat → List Dyn.DC := fun _ => [.p (vb true), cI 2, cI 0, cI 0, cI 0, cI 0, cI 0, cI 0, cI 0, .row 1 fun _ => [.row 4 (p4X a b c d)], .row 0 noF]
theorem p4_le (a b c d : P2) : DLe (.row 1 (p4R a b c d)) (.row 1 fun _ => partC true (toSh (p4S a b c d))) :=
  DLe.rowL fun i _ => ⟨.refl _, .refl _, .refl _, .refl _, .refl _, .refl _, .refl _, .refl _, .refl _, DLe.rowL fun i _ => ⟨DLe.rowL fun i hi => by
    rcases (show i = 0 ∨ i = 1 ∨ i = 2 ∨ i = 3 by omega) with rfl | rfl | rfl | rfl <;> exact ⟨.refl _, .refl _, trivial⟩, trivial⟩, DLe.rowL fun i hi => absurd hi (Nat.not_lt_zero i), trivial⟩
theorem p4_B (a b c d : P2) : ShB (p4L a b c d) := ⟨CtrB_ze, by decide, fun i _ => ⟨⟨show 1 ≤ 1000000000 by decide, fun i _ => show 4 ≤ 1000000000 by decide⟩, by decide, fun i hi => absurd hi (Nat.not_lt_zero i)⟩⟩
/-- an entry for Cover of such a list -/
def p4Of (f : Nat → List Dyn.DC) : P2 × P2 × P2 × P2 :=
  match f 0 with
  | [_, _, _, _, _, _, _, _, _, .row _ g, _] => match g 0 with
    | [.row _ p] => match p 0, p 1, p 2, p 3 with
      | [.p (.int _ a), .p (.int _ b)], [.p (.int _ c), .p (.int _ d)], [.p (.int _ e), .p (.int _ f)], [.p (.int _ g), .p (.int _ h)] => (⟨a, b⟩, ⟨c, d⟩, ⟨e, f⟩, ⟨g, h⟩)
      | _, _, _, _ => (ze, ze, ze, ze)
    | _ => (ze, ze, ze, ze)
  | _ => (ze, ze, ze, ze)
def enCovP : List Dyn.LA → Dyn.Lent → Option (Value × List (List Value) × List Prop)
  | [.d (.one (.row n f)), .d u, .d (.one (.p (.int .i64 d))), .lp 0 0], [(t, [.int .i64 most, .int .i64 a])] => match aX u, Nat.beq t 97 with
    | some b, true =>
      let q := p4Of f
      let L := p4L q.1 q.2.1 q.2.2.1 q.2.2.2
      some (exV (coverF most d L b a).lo (coverF most d L b a).hi (coverF most d L b a).e, mtO most (coverF most d L b a).a, [0 ≤ d ∧ d ≤ 6, DLe (.row n f) (.row 1 (p4R q.1 q.2.1 q.2.2.1 q.2.2.2))])
    | _, _ => none
  | _, _ => none
theorem DLe.tr {c d : Dyn.DC} {P : Program} {K : Nat} {v' : Dyn.DV} {l : List Dyn.LA} {lent : Dyn.Lent} {r : Value} {o : List (List Value)} (h : DLe c d) (k : Dyn.CallX P K (.d (.one d) :: .d v' :: l) lent r o) : Dyn.CallX P K (.d (.one c) :: .d v' :: l) lent r o := CallX_d1 (show DVd (.one c) (.one d) from h) (Dyn.DVLe.refl _) k
theorem enCovP_ok : Dyn.EntryXOk Try.prog (31, enCovP) := fun az lent u out ps h hp => by
  dsimp only at h
  unfold enCovP at h
  split at h
  · rename_i n f u' d t most a
    split at h
    · rename_i b hb ht
      have e1 := Nat.eq_of_beq_eq_true ht
      subst e1
      dsimp only at h
      generalize p4Of f = q at h
      simp only [Option.some.injEq, Prod.mk.injEq] at h
      obtain ⟨rfl, rfl, rfl⟩ := h
      have k := cover_ok hp.1.1 hp.1.2 1 (fun _ => partC true (toSh (p4S q.1 q.2.1 q.2.2.1 q.2.2.2))) (PdS_mk (p4_B q.1 q.2.1 q.2.2.1 q.2.2.2)) b most a
      unfold coverE at k
      rw [show ofSh (obX 1 fun _ => partC true (toSh (p4S q.1 q.2.1 q.2.2.1 q.2.2.2))) = p4L q.1 q.2.1 q.2.2.1 q.2.2.2 from ofSh_toSh (p4L q.1 q.2.1 q.2.2.1 q.2.2.2)] at k
      exact DLe.tr hp.2.1 (DLe.tr (p4_le _ _ _ _) (CallX_le2 (Dyn.DVLe.refl _) (aX_eq hb) k))
    · cases h
  · cases h
def drMt (K : Nat) : Bool := Nat.beq K 27 || Nat.beq K 31 || Nat.beq K 26
def tabA23 : Dyn.Tabs := Dyn.nwT (Dyn.tabsX tbF [(28, enUsed)] [(27, enTake), (31, enCovP)] drMt dtyG false) nwM
theorem tabA23_ok : Dyn.TabsOk Try.prog tabA23 := Dyn.nwT_ok (Dyn.tabsX_ok tbF_ok (List.forall_mem_cons.2 ⟨enUsed_ok, fun _ h => by cases h⟩) (List.forall_mem_cons.2 ⟨enTake_ok, List.forall_mem_cons.2 ⟨enCovP_ok, fun _ h => by cases h⟩⟩)) nwM_ok
def gaL : Shp := p4L ⟨-9, -9⟩ ⟨3, -9⟩ ⟨3, 9⟩ ⟨-9, 9⟩
def awR1 : ExR := coverF (capM 100) 1 gaL ⟨0, 0, 4, 4⟩ 0
def awR2 : ExR := coverF (capM 100) 1 gaL ⟨0, 0, 3, 4⟩ awR1.a
theorem awR1_eq : awR1 = ⟨2, 4, 0, 5⟩ := by kernel_rfl
theorem awR2_eq : awR2 = ⟨0, 0, 1, 5⟩ := by unfold awR2; rw [awR1_eq]; kernel_rfl
def gaV (r1 r2 : ExR) : Bool :=
  bif bif bif bif bif bif (bif r1.lo == 2 then bif r1.hi == 4 then true else false else false) then r1.e == 0 else false then r2.e == 1 else false then imin r2.a (capM 100) == 5 else false then decide (W (0 + 1) ≤ capM 1) else false then !(decide (W (W (0 + 1) + 1) ≤ capM 1)) else false then imin (W (W (0 + 1) + 1)) (capM 1) == 1 else false
def gaD : Dyn.DC := .row 1 (p4R ⟨-9, -9⟩ ⟨3, -9⟩ ⟨3, 9⟩ ⟨-9, 9⟩)
def gaO : Dyn.RO := .side [(0 : Int) ≤ 1 ∧ (1 : Int) ≤ 6, DLe gaD gaD] (.side [(0 : Int) ≤ 1 ∧ (1 : Int) ≤ 6, DLe gaD gaD] (.leaf (rB (gaV awR1 awR2))))
theorem ga_O : (Dyn.dfun Try.prog tabA23 Dyn.noLp 8 Try.f29 []).ro Try.prog Try.f29.results = gaO := by kernel_rfl
theorem awake23 : Dyn.CallD Try.prog 29 [] (rB true) :=
  Dyn.dcontract (lp := Dyn.noLp) (fuel := 8) tabA23_ok mo Try.func29 (by kernel_rfl) (c := bodyD Try.f29.body) (by kernel_rfl) (fun w0 => Dyn.noLp_ok _ w0) (by kernel_rfl) ga_O (by
    refine ⟨⟨by decide, .refl _, trivial⟩, ⟨by decide, .refl _, trivial⟩, ?_⟩
    rw [awR1_eq, awR2_eq, show gaV ⟨2, 4, 0, 5⟩ ⟨0, 0, 1, 5⟩ = true by kernel_rfl]
    exact ro_leaf rfl)
end Go.Proofs.Ythnenjodighlmaa

/-! ## Tue -/
namespace Go.Proofs.Ythnenjodighlmaa
open Go Go.RowKit Sym
set_option maxRecDepth 100000

end Go.Proofs.Ythnenjodighlmaa

/-! ## Tuf -/
namespace Go.Proofs.Ythnenjodighlmaa
open Go Go.RowKit Sym
set_option maxRecDepth 100000

end Go.Proofs.Ythnenjodighlmaa

/-! ## Fir -/
namespace Go.Proofs.Ythnenjodighlmaa
open Go Go.RowKit Sym
set_option maxRecDepth 100000

end Go.Proofs.Ythnenjodighlmaa

/-! ## Bnb -/
namespace Go.Proofs.Ythnenjodighlmaa
open Go Go.RowKit Sym
set_option maxRecDepth 100000

/-! ### the root, rounded up -/
/-! ### boxes around points -/
abbrev FF : Int := 536870912
/-- no point in common -/
def Off (U b : B4) : Prop := U.x1 < b.x0 ∨ b.x1 < U.x0 ∨ U.y1 < b.y0 ∨ b.y1 < U.y0
/-! ### discs, strokes, bars -/
end Go.Proofs.Ythnenjodighlmaa

/-! ## Rio -/
namespace Go.Proofs.Ythnenjodighlmaa
open Go Go.RowKit Sym
set_option maxRecDepth 100000

end Go.Proofs.Ythnenjodighlmaa

/-! ## Bnc -/
namespace Go.Proofs.Ythnenjodighlmaa
open Go Go.RowKit Sym
set_option maxRecDepth 100000

/-! ### rings -/
/-! ### contours -/
/-! ### bounds that are put together -/
structure In4 (a U : B4) : Prop where
  x0 : U.x0 ≤ a.x0
  y0 : U.y0 ≤ a.y0
  x1 : a.x1 ≤ U.x1
  y1 : a.y1 ≤ U.y1
theorem In4.has {a U : B4} {p : P2} (h : In4 a U) (k : hasI a p) : hasI U p := by
  obtain ⟨h1, h2, h3, h4⟩ := h
  unfold hasI at *
  omega
theorem In4.trans {a b c : B4} (h : In4 a b) (k : In4 b c) : In4 a c := ⟨Int.le_trans k.x0 h.x0, Int.le_trans k.y0 h.y0, Int.le_trans h.x1 k.x1, Int.le_trans h.y1 k.y1⟩
end Go.Proofs.Ythnenjodighlmaa

/-! ## Bnd -/
namespace Go.Proofs.Ythnenjodighlmaa
open Go Go.RowKit Sym
set_option maxRecDepth 100000

theorem PB_R {p : P2} (h : PB FF p) : PR p := near_PR (PB_near (Int.le_refl _) h)
/-! ### the points of contours, one box after the other -/
end Go.Proofs.Ythnenjodighlmaa

/-! ## Rpo -/
namespace Go.Proofs.Ythnenjodighlmaa
open Go Go.RowKit Sym
set_option maxRecDepth 100000

theorem Off.sub {a U b : B4} (h : In4 a U) (k : Off U b) : Off a b := by
  obtain ⟨h1, h2, h3, h4⟩ := h
  unfold Off at *
  omega
/-- a class -/
def R3 (x : Int) : Prop := 0 ≤ x ∧ x ≤ 2
theorem r0 : R3 0 := by unfold R3; omega
theorem r1 : R3 1 := by unfold R3; omega
theorem r2 : R3 2 := by unfold R3; omega
theorem b3 {c : Bool} {x y : Int} (hx : R3 x) (hy : R3 y) : R3 (bif c then x else y) := by
  cases c
  · exact hy
  · exact hx
theorem R3.cases {x : Int} (h : R3 x) : x = 0 ∨ x = 1 ∨ x = 2 := by unfold R3 at h; omega
theorem fold3 {was cls : Int} {add : Bool} (h : R3 was) : R3 (foldF was cls add) := b3 r1 (b3 h (b3 r2 (b3 r0 (b3 r2 (b3 r0 r1)))))
theorem folds3 (c : Nat → Int) (add : Nat → Bool) : ∀ n, R3 (foldN (fun i acc => foldF acc (c i) (add i)) 0 n)
  | 0 => r0
  | n + 1 => fold3 (folds3 c add n)
theorem disc3 (b : B4) (c : P2) (r : Int) : R3 (discClass b c r) := b3 r0 (b3 r0 (b3 r2 r1))
theorem line3 (b : B4) (a c : P2) (r : Int) : R3 (lineClass b a c r) := b3 r0 (b3 r2 (b3 r1 r0))
theorem bar3 (b : B4) (a c : P2) (r : Int) : R3 (barClass b a c r) := b3 r0 (b3 r2 (b3 r2 (b3 r0 r1)))
theorem ring3 (b : B4) (c a e : P2) (r : Int) : R3 (ringClass b c a e r) := b3 r0 (b3 r2 (b3 r2 (b3 r2 (b3 r1 (b3 r0 r1)))))
theorem poly3 (b : B4) (l : Ctr) : R3 (polyClassF b l) := b3 r1 (b3 r2 r0)
theorem cls3 (b : B4) (s : Shp) : R3 (classF s b) := by
  cases s with
  | nil => exact r0
  | mk k a b' c r l n add sub => exact b3 (disc3 _ _ _) (b3 (poly3 _ _) (b3 (line3 _ _ _ _) (b3 (bar3 _ _ _ _) (b3 (ring3 _ _ _ _ _) (folds3 _ _ _)))))
theorem fig3 (s : Shp) (b : B4) : R3 (figClassC s b) := b3 r0 (cls3 b s)
theorem foldF_out {c : Int} (h : R3 c) : foldF 0 c false = 0 := by rcases h.cases with rfl | rfl | rfl <;> rfl
theorem cls_zero {n : Nat} {add : Nat → Bool} {c : Nat → Int} (hc : ∀ i, R3 (c i)) (h : ∀ i, i < n → add i = true → c i = 0) : foldN (fun i acc => foldF acc (c i) (add i)) 0 n = 0 := by
  induction n with
  | zero => rfl
  | succ n ih =>
    show foldF (foldN (fun i acc => foldF acc (c i) (add i)) 0 n) (c n) (add n) = 0
    rw [ih fun i hi => h i (by omega)]
    cases ha : add n with
    | false => exact foldF_out (hc n)
    | true => rw [h n (by omega) ha]; rfl
/-- objects such as may be -/
structure GoodO (s : Shp) : Prop where
  ref : ∀ i, i < nuO s → ∀ b q, Sb q b → Fits b → Fits q → Ref (figClassC (suO s i) b) (figClassC (suO s i) q)
  rch : ∀ i, i < nuO s → (figBndC (suO s i)).2 = false → ∀ b, Fits b → figClassC (suO s i) b = 0
  near : ∀ i, i < nuO s → hbF (suO s i) = false → ∀ b, Fits b → apart (figBndC (suO s i)).1 b = true → ∀ q, Sb q b → Fits q → figClassC (suO s i) q = 0
theorem Off.box {U b q : B4} (h : Sb q b) (k : Off U b) : Off U q := by
  obtain ⟨h1, h2, h3, h4, h5, h6⟩ := h
  unfold Off at *
  omega
end Go.Proofs.Ythnenjodighlmaa

/-! ## Rpq -/
namespace Go.Proofs.Ythnenjodighlmaa
open Go Go.RowKit Sym
set_option maxRecDepth 100000

/-- a box that may be split so often -/
def Dv (d : Nat) (b : B4) : Prop := Fits b ∧ ∃ w h : Int, 1 ≤ w ∧ 1 ≤ h ∧ b.x1 - b.x0 = w * ((2 ^ d : Nat) : Int) ∧ b.y1 - b.y0 = h * ((2 ^ d : Nat) : Int)
theorem two_step (d : Nat) (w : Int) : w * ((2 ^ (d + 1) : Nat) : Int) = 2 * (w * ((2 ^ d : Nat) : Int)) := by
  rw [Nat.pow_succ, Int.natCast_mul]
  show w * (((2 ^ d : Nat) : Int) * 2) = _
  rw [← Int.mul_assoc, Int.mul_comm]
theorem two_pos (d : Nat) {w : Int} (h : 1 ≤ w) : 1 ≤ w * ((2 ^ d : Nat) : Int) := by
  have : 1 ≤ ((2 ^ d : Nat) : Int) := by have := Nat.two_pow_pos d; omega
  have := Int.mul_le_mul h this (by omega) (by omega)
  omega
theorem Dv.ok {d : Nat} {b : B4} (h : Dv (d + 1) b) : splOk b = true := by
  obtain ⟨hf, w, k, hw, hk, e1, e2⟩ := h
  rw [two_step] at e1 e2
  have p1 := two_pos d hw
  have p2 := two_pos d hk
  generalize w * ((2 ^ d : Nat) : Int) = u at *
  generalize k * ((2 ^ d : Nat) : Int) = v at *
  have := hf.x0; have := hf.x1; have := hf.y0; have := hf.y1
  unfold splOk
  rw [(boxOk_iff b).2 hf, W_id (x := b.x1 - b.x0) (by omega) (by omega), W_id (x := b.y1 - b.y0) (by omega) (by omega), e1, e2]
  rw [show (2 * u == 0) = false by simp; omega, show (2 * v == 0) = false by simp; omega, show ((2 * u).tmod 2 != 0) = false by rw [Int.tmod_eq_emod_of_nonneg (by omega)]; simp, show ((2 * v).tmod 2 != 0) = false by rw [Int.tmod_eq_emod_of_nonneg (by omega)]; simp]
  rfl
theorem Dv.half {d : Nat} {b : B4} (h : Dv (d + 1) b) : ∃ mx my : Int, (b.x0 < mx ∧ 2 * mx = b.x0 + b.x1) ∧ (b.y0 < my ∧ 2 * my = b.y0 + b.y1) ∧ spB b 0 = ⟨b.x0, b.y0, mx, my⟩ ∧ spB b 1 = ⟨mx, b.y0, b.x1, my⟩ ∧ spB b 2 = ⟨b.x0, my, mx, b.y1⟩ ∧ ∀ i, spB b (i + 3) = ⟨mx, my, b.x1, b.y1⟩ := by
  obtain ⟨h1, h2, h3, h4, h5⟩ := spl_of h.1 h.ok
  refine ⟨midX b, midY b, ⟨h2, h4⟩, ⟨h3, h5⟩, ?_, ?_, ?_, fun i => ?_⟩
  · show (⟨spl b 0 b.x0, spl b 0 b.y0, spl b 0 (midX b), spl b 0 (midY b)⟩ : B4) = _
    simp only [h1]
  · show (⟨spl b 0 (midX b), spl b 0 b.y0, spl b 0 b.x1, spl b 0 (midY b)⟩ : B4) = _
    simp only [h1]
  · show (⟨spl b 0 b.x0, spl b 0 (midY b), spl b 0 (midX b), spl b 0 b.y1⟩ : B4) = _
    simp only [h1]
  · show (⟨spl b 0 (midX b), spl b 0 (midY b), spl b 0 b.x1, spl b 0 b.y1⟩ : B4) = _
    simp only [h1]
theorem Dv.sub {d : Nat} {b : B4} (h : Dv (d + 1) b) (i : Nat) : Dv d (spB b i) ∧ Sb (spB b i) b := by
  obtain ⟨mx, my, ⟨x1, x2⟩, ⟨y1, y2⟩, e0, e1, e2, e3⟩ := h.half
  obtain ⟨hf, w, k, hw, hk, g1, g2⟩ := h
  rw [two_step] at g1 g2
  have f1 := hf.x0; have f2 := hf.x; have f3 := hf.x1; have f4 := hf.y0; have f5 := hf.y; have f6 := hf.y1
  match i with
  | 0 => rw [e0]; exact ⟨⟨⟨f1, by dsimp only; omega, by dsimp only; omega, f4, by dsimp only; omega, by dsimp only; omega⟩, w, k, hw, hk, by dsimp only; omega, by dsimp only; omega⟩, ⟨by dsimp only; omega, by dsimp only; omega, by dsimp only; omega, by dsimp only; omega, by dsimp only; omega, by dsimp only; omega⟩⟩
  | 1 => rw [e1]; exact ⟨⟨⟨by dsimp only; omega, by dsimp only; omega, f3, f4, by dsimp only; omega, by dsimp only; omega⟩, w, k, hw, hk, by dsimp only; omega, by dsimp only; omega⟩, ⟨by dsimp only; omega, by dsimp only; omega, by dsimp only; omega, by dsimp only; omega, by dsimp only; omega, by dsimp only; omega⟩⟩
  | 2 => rw [e2]; exact ⟨⟨⟨f1, by dsimp only; omega, by dsimp only; omega, by dsimp only; omega, by dsimp only; omega, f6⟩, w, k, hw, hk, by dsimp only; omega, by dsimp only; omega⟩, ⟨by dsimp only; omega, by dsimp only; omega, by dsimp only; omega, by dsimp only; omega, by dsimp only; omega, by dsimp only; omega⟩⟩
  | i + 3 => rw [e3]; exact ⟨⟨⟨by dsimp only; omega, by dsimp only; omega, f3, by dsimp only; omega, by dsimp only; omega, f6⟩, w, k, hw, hk, by dsimp only; omega, by dsimp only; omega⟩, ⟨by dsimp only; omega, by dsimp only; omega, by dsimp only; omega, by dsimp only; omega, by dsimp only; omega, by dsimp only; omega⟩⟩
theorem Sb.trans {a b c : B4} (h : Sb a b) (k : Sb b c) : Sb a c := by
  obtain ⟨h1, h2, h3, h4, h5, h6⟩ := h
  obtain ⟨k1, k2, k3, k4, k5, k6⟩ := k
  exact ⟨by omega, h2, by omega, by omega, h5, by omega⟩
theorem Sb.self {b : B4} (h : Fits b) : Sb b b := ⟨Int.le_refl _, h.x, Int.le_refl _, Int.le_refl _, h.y, Int.le_refl _⟩
/-- a result of so many looks at most -/
structure ExOk (r : ExR) (c : Int × Int) (a n : Int) : Prop where
  lo : r.lo = c.1
  hi : r.hi = c.2
  e : r.e = 0
  a1 : a + 1 ≤ r.a
  a2 : r.a ≤ a + n
/-! ### finer cells -/
end Go.Proofs.Ythnenjodighlmaa

/-! ## Rgk -/
namespace Go.Proofs.Ythnenjodighlmaa
open Go Go.RowKit Sym
set_option maxRecDepth 100000

theorem shl_eq {v : Int} {D : Nat} (hD : D ≤ 6) (h0 : 0 ≤ v) (h1 : v ≤ 1000000) : shlI v (D : Int) = v * ((2 ^ D : Nat) : Int) := by
  unfold shlI
  have e1 : IntKind.u64.wrap (D : Int) = (D : Int) := by
    show (D : Int) % 18446744073709551616 = D
    omega
  rw [e1, show min (D : Int).toNat 64 = D by omega]
  have e : D = 0 ∨ D = 1 ∨ D = 2 ∨ D = 3 ∨ D = 4 ∨ D = 5 ∨ D = 6 := by omega
  rcases e with rfl | rfl | rfl | rfl | rfl | rfl | rfl <;> (simp only [Int.reducePow, Nat.reducePow, Int.cast_ofNat_Int, Int.natCast_one]; rw [W_id (by omega) (by omega)]; try omega)
theorem sdK_eq (w : Int) {D : Nat} (hD : D ≤ 6) (s : Bool) : ∃ k : Int, 1 ≤ k ∧ k ≤ 1000000 ∧ (s = true → k ≤ 4) ∧ sdK w D s = k * ((2 ^ D : Nat) : Int) := by
  unfold sdK
  cases s with
  | true =>
    have hb : 0 ≤ band w 3 ∧ band w 3 ≤ 3 := bandLe w 3 (by decide)
    have e : W (band w 3 + 1) = band w 3 + 1 := W_id (by omega) (by omega)
    refine ⟨band w 3 + 1, by omega, by omega, fun _ => by omega, ?_⟩
    show shlI (W (band w 3 + 1)) D = _
    rw [e]
    exact shl_eq hD (by omega) (by omega)
  | false =>
    have h0 := u64_pos w
    have h1 : 0 ≤ (IntKind.u64.wrap w).tmod 1000000 ∧ (IntKind.u64.wrap w).tmod 1000000 < 1000000 := by
      rw [Int.tmod_eq_emod_of_nonneg h0]; omega
    refine ⟨(IntKind.u64.wrap w).tmod 1000000 + 1, by omega, by omega, fun h => (by cases h), ?_⟩
    show shlI (W (W ((IntKind.u64.wrap w).tmod 1000000) + 1)) D = _
    rw [W_id (x := (IntKind.u64.wrap w).tmod 1000000) (by omega) (by omega), W_id (x := (IntKind.u64.wrap w).tmod 1000000 + 1) (by omega) (by omega)]
    exact shl_eq hD (by omega) (by omega)
theorem pow_bd {D : Nat} (hD : D ≤ 6) : 1 ≤ ((2 ^ D : Nat) : Int) ∧ ((2 ^ D : Nat) : Int) ≤ 64 := by
  have e : D = 0 ∨ D = 1 ∨ D = 2 ∨ D = 3 ∨ D = 4 ∨ D = 5 ∨ D = 6 := by omega
  rcases e with rfl | rfl | rfl | rfl | rfl | rfl | rfl <;> decide
theorem mulB {k q m : Int} (h0 : 1 ≤ k) (h1 : k ≤ m) (hq0 : 1 ≤ q) (hq : q ≤ 64) : 1 ≤ k * q ∧ k * q ≤ m * 64 := by
  constructor
  · have := Int.mul_le_mul h0 hq0 (by omega) (by omega); omega
  · exact Int.mul_le_mul h1 hq (by omega) (by omega)
/-- what side gives -/
theorem side_dv (x y w : Int) {D : Nat} (hD : D ≤ 6) (s : Bool) : Dv D (sideF x y w D s) ∧ (s = true → (-25 ≤ (sideF x y w D s).x0 ∧ (sideF x y w D s).x1 ≤ 281) ∧ (-25 ≤ (sideF x y w D s).y0 ∧ (sideF x y w D s).y1 ≤ 281)) := by
  obtain ⟨k, k1, k2, k3, ek⟩ := sdK_eq w hD s
  have pw := pow_bd hD
  have mb := mulB k1 k2 pw.1 pw.2
  have hp : (-400000000 ≤ (sdP x y s).x ∧ (sdP x y s).x ≤ 400000000) ∧ (-400000000 ≤ (sdP x y s).y ∧ (sdP x y s).y ≤ 400000000) := by
    cases s with
    | true =>
      have h := lClose_r (lClose ⟨x, y⟩ 400000000) (n := 25) (by decide) (by decide)
      have h' : (-25 ≤ (sdP x y true).x ∧ (sdP x y true).x ≤ 25) ∧ (-25 ≤ (sdP x y true).y ∧ (sdP x y true).y ≤ 25) := h
      omega
    | false => exact lClose_r ⟨x, y⟩ (n := 400000000) (by decide) (by decide)
  have e : sideF x y w D s = ⟨(sdP x y s).x, (sdP x y s).y, (sdP x y s).x + k * ((2 ^ D : Nat) : Int), (sdP x y s).y + k * ((2 ^ D : Nat) : Int)⟩ := by
    unfold sideF
    rw [ek, W_id (x := (sdP x y s).x + k * ((2 ^ D : Nat) : Int)) (by omega) (by omega), W_id (x := (sdP x y s).y + k * ((2 ^ D : Nat) : Int)) (by omega) (by omega)]
  rw [e]
  refine ⟨⟨⟨by dsimp only; omega, by dsimp only; omega, by dsimp only; omega, by dsimp only; omega, by dsimp only; omega, by dsimp only; omega⟩, k, k, k1, k1, by dsimp only; omega, by dsimp only; omega⟩, fun hs => ?_⟩
  subst hs
  have mb4 := mulB k1 (k3 rfl) pw.1 pw.2
  have h := lClose_r (lClose ⟨x, y⟩ 400000000) (n := 25) (by decide) (by decide)
  have h' : (-25 ≤ (sdP x y true).x ∧ (sdP x y true).x ≤ 25) ∧ (-25 ≤ (sdP x y true).y ∧ (sdP x y true).y ≤ 25) := h
  dsimp only
  omega
/-- a box that may be split so often is taken by Cover -/
theorem cvM_eq {D : Nat} (hD : D ≤ 6) : cvM D = ((2 ^ D : Nat) : Int) := by
  have e : D = 0 ∨ D = 1 ∨ D = 2 ∨ D = 3 ∨ D = 4 ∨ D = 5 ∨ D = 6 := by omega
  rcases e with rfl | rfl | rfl | rfl | rfl | rfl | rfl <;> decide
theorem cv_no {D : Nat} (hD : D ≤ 6) {u w : Int} (h0 : 1 ≤ w) (hu : u = w * ((2 ^ D : Nat) : Int)) (hb : u ≤ 2000000000) : cvBad D u = false := by
  have pw := pow_bd hD
  have := two_pos D h0
  unfold cvBad
  rw [W_id (by omega) (by omega), cvM_eq hD, hu, Int.mul_tmod_left]
  rw [show (w * ((2 ^ D : Nat) : Int) == 0) = false by rw [beq_eq_false_iff_ne]; omega]
  rfl
theorem coverF_dv {most : Int} {D : Nat} (hD : D ≤ 6) {s : Shp} {b : B4} (h : Dv D b) (a : Int) : coverF most D s b a = exF most D (nearG (reachF s) b) b a := by
  obtain ⟨hf, w, k, hw, hk, e1, e2⟩ := h
  have := hf.x0; have := hf.x1; have := hf.y0; have := hf.y1
  unfold coverF
  rw [cv_no hD hw e1 (by omega), cv_no hD hk e2 (by omega)]
  rw [show cvArg D b = false by
    unfold cvArg
    rw [(boxOk_iff b).2 hf, decide_eq_false (by omega), decide_eq_false (by omega)]; rfl]
  rfl
end Go.Proofs.Ythnenjodighlmaa

/-! ## Rgj -/
namespace Go.Proofs.Ythnenjodighlmaa
open Go Go.RowKit Sym
set_option maxRecDepth 100000

/-! ### a disc around (0, 0), as a program writes it -/
def d1S (r : Int) : Shp := leafS 1 ze ze ze r zeC
def d1L (r : Int) : Shp := lForm 1 (fun _ => true) (fun _ => d1S r)
def d1R (r : Int) : Nat → List Dyn.DC := fun _ => [.p (vb true), cI 1, cI 0, cI 0, cI 0, cI 0, cI 0, cI 0, cI r, .row 0 noF, .row 0 noF]
theorem d1_le (r : Int) : DLe (.row 1 (d1R r)) (.row 1 fun _ => partC true (toSh (d1S r))) :=
  DLe.rowL fun i _ => ⟨.refl _, .refl _, .refl _, .refl _, .refl _, .refl _, .refl _, .refl _, .refl _, DLe.rowL fun i hi => absurd hi (Nat.not_lt_zero i), DLe.rowL fun i hi => absurd hi (Nat.not_lt_zero i), trivial⟩
theorem d1_B (r : Int) : ShB (d1L r) := ⟨CtrB_ze, by decide, fun i _ => ⟨CtrB_ze, by decide, fun i hi => absurd hi (Nat.not_lt_zero i)⟩⟩
def noL : Shp := lForm 0 (fun _ => false) (fun _ => .nil)
theorem no_B : ShB noL := ⟨CtrB_ze, by decide, fun i hi => absurd hi (Nat.not_lt_zero i)⟩
def headB : List Dyn.DC → Nat
  | [] => 0
  | .p (.bool true) :: _ => 1
  | _ => 2
/-- an entry for Cover: no objects; a disc; others -/
noncomputable def enCovE : List Dyn.LA → Dyn.Lent → Option (Value × List (List Value) × List Prop)
  | [.d (.one (.row n f)), .d u, .d (.one (.p (.int .i64 d))), .lp 0 0], [(t, [.int .i64 most, .int .i64 a])] => match aX u, Nat.beq t 97, headB (f 0) with
    | some b, true, 0 => some (exV (coverF most d noL b a).lo (coverF most d noL b a).hi (coverF most d noL b a).e, mtO most (coverF most d noL b a).a, [0 ≤ d ∧ d ≤ 6, n = 0])
    | some b, true, 1 => some (exV (coverF most d (d1L 100000) b a).lo (coverF most d (d1L 100000) b a).hi (coverF most d (d1L 100000) b a).e, mtO most (coverF most d (d1L 100000) b a).a, [0 ≤ d ∧ d ≤ 6, DLe (.row n f) (.row 1 (d1R 100000))])
    | some b, true, 2 => some (exV (coverE d (obX n f) b most a).lo (coverE d (obX n f) b most a).hi (coverE d (obX n f) b most a).e, mtO most (coverE d (obX n f) b most a).a, [0 ≤ d ∧ d ≤ 6, PdS (obX n f)])
    | _, _, _ => none
  | _, _ => none
theorem cover_L {d : Int} (h0 : 0 ≤ d) (h6 : d ≤ 6) {n : Nat} {add : Nat → Bool} {sub : Nat → Shp} (hB : ShB (lForm n add sub)) (b : B4) (most a : Int) : Dyn.CallX Try.prog 31 [.d (.one (.row n fun i => partC (add i) (toSh (sub i)))), .d (dvX b), .d (dvI d), .lp 0 0] (mtL most a) (exV (coverF most d (lForm n add sub) b a).lo (coverF most d (lForm n add sub) b a).hi (coverF most d (lForm n add sub) b a).e) (mtO most (coverF most d (lForm n add sub) b a).a) := by
  have k := cover_ok h0 h6 n (fun i => partC (add i) (toSh (sub i))) (PdS_mk hB) b most a
  unfold coverE at k
  rw [show ofSh (obX n fun i => partC (add i) (toSh (sub i))) = lForm n add sub from ofSh_toSh (lForm n add sub)] at k
  exact k
theorem enCovE_ok : Dyn.EntryXOk Try.prog (31, enCovE) := fun az lent u out ps h hp => by
  dsimp only at h
  unfold enCovE at h
  split at h
  · rename_i n f u' d t most a
    split at h
    · rename_i b hb ht _
      have e1 := Nat.eq_of_beq_eq_true ht
      subst e1
      simp only [Option.some.injEq, Prod.mk.injEq] at h
      obtain ⟨rfl, rfl, rfl⟩ := h
      obtain ⟨h1, rfl, _⟩ := hp
      exact CallX_le2 (u' := .one (.row 0 fun i => partC false (toSh .nil))) ⟨rfl, fun i hi => absurd hi (Nat.not_lt_zero i)⟩ (aX_eq hb) (cover_L h1.1 h1.2 no_B b most a)
    · rename_i b hb ht _
      have e1 := Nat.eq_of_beq_eq_true ht
      subst e1
      simp only [Option.some.injEq, Prod.mk.injEq] at h
      obtain ⟨rfl, rfl, rfl⟩ := h
      exact DLe.tr hp.2.1 (DLe.tr (d1_le _) (CallX_le2 (Dyn.DVLe.refl _) (aX_eq hb) (cover_L hp.1.1 hp.1.2 (d1_B 100000) b most a)))
    · rename_i b hb ht _
      have e1 := Nat.eq_of_beq_eq_true ht
      subst e1
      simp only [Option.some.injEq, Prod.mk.injEq] at h
      obtain ⟨rfl, rfl, rfl⟩ := h
      exact CallX_le2 (Dyn.DVLe.refl _) (aX_eq hb) (cover_ok hp.1.1 hp.1.2 n f hp.2.1 b most a)
    · cases h
  · cases h
def enSide : List Dyn.DV → Option (Dyn.RV × List Prop)
  | [.one (.p (.int .i64 x)), .one (.p (.int .i64 y)), .one (.p (.int .i64 w)), .one (.p (.int .i64 d)), .one (.p (.bool s))] => some (.val (dvX (sideF x y w d s)), [])
  | _ => none
theorem enSide_ok : Dyn.EntryDOk Try.prog (30, enSide) := fun args r ps h hp => by
  dsimp only at h
  unfold enSide at h
  split at h
  · simp only [Option.some.injEq, Prod.mk.injEq] at h
    obtain ⟨rfl, rfl⟩ := h
    exact side_ok _ _ _ _ _
  · cases h
noncomputable def tdRe : List Dyn.EntryD := [(28, enUsed), (29, en0R (rB true)), (17, en1D (qAnd qL PdW) fun x => rB (small21 (ofSh x))), (19, en2D (qAnd qL PdS) qB fun x q => .val (dvL (toSh (tame21 (ofSh x) q)))), (30, enSide)]
theorem tdRe_ok : ∀ e ∈ tdRe, Dyn.EntryDOk Try.prog e := List.forall_mem_cons.2 ⟨enUsed_ok, List.forall_mem_cons.2 ⟨en0R_ok awake23, List.forall_mem_cons.2 ⟨en1D_ok (qAnd_ok qL_ok) fun x h => small21_all x h.1, List.forall_mem_cons.2 ⟨en2D_ok (qAnd_ok qL_ok) qB_ok fun x q h _ => tame21_all x h.1 q, List.forall_mem_cons.2 ⟨enSide_ok, fun _ h => by cases h⟩⟩⟩⟩⟩
def drRe (K : Nat) : Bool := Nat.beq K 19 || Nat.beq K 31 || Nat.beq K 26
noncomputable def tabRe : Dyn.Tabs := Dyn.nwT (Dyn.tabsX tbF tdRe [(31, enCovE)] drRe dtyG false) nwM
theorem tabRe_ok : Dyn.TabsOk Try.prog tabRe := Dyn.nwT_ok (Dyn.tabsX_ok tbF_ok tdRe_ok (List.forall_mem_cons.2 ⟨enCovE_ok, fun _ h => by cases h⟩)) nwM_ok
noncomputable def reF (L : Shp) (i : Nat) : List Dyn.DC := partC false (toSh (tameS (suO L i) true 2))
def reS (n : Nat) (f : Nat → List Dyn.DC) (F : Nat → List Dyn.DC) (d : Int) (b : B4) (m : Int) (c : Nat) (i : Int) : Dyn.St := mkS 101 [(0, sH 0 0 n), (4, sI d), (11, sL 1), (12, sI m), (13, sH 2 0 c), (14, sI i)] [some (.deep [.row n f]), some (.cells 40 (bxV b)), some (.own 62 c F)]
def reK : List Nat := [0, 4, 11, 12, 13, 14]
def reD (d : Int) : Int := (band d 255).tmod 7
def reM (d : Int) : Int := shlI 1 (W (2 * d))
noncomputable def reLp (n : Nat) (f : Nat → List Dyn.DC) (L : Shp) (d : Int) (b : B4) (m : Int) : Dyn.Lp := fun id st => match id with
  | 0 => some (.side [Dyn.nilSlot 13 62 (reF L) (keepA 101 [0, 6] [] reK (2 ^ 14) st) = reS n f (reF L) d b m 0 0, n ≤ 1000000000 ∧ PdS (obX n f)] (.leaf .normal (reS n f (reF L) d b m (min n 6) (min n 6 : Nat))))
  | _ => none
noncomputable def reB (n : Nat) (f : Nat → List Dyn.DC) (d : Int) (b : B4) (m : Int) (i : Nat) : Dyn.Out :=
  .ite (bif decide ((i : Int) < n) then decide ((i : Int) < 6) else false)
    (.side [PdS (obX n f), 0 ≤ (i : Int) ∧ (i : Int) < (toSh (tame21 (ofSh (obX n f)) true)).n, szP 120 i] (.leaf .normal (reS n f (Dyn.appF i (reF (ofSh (obX n f))) (fun _ => reF (ofSh (obX n f)) i)) d b m (i + 1) (W (i + 1)))))
    (.leaf (.exit 0) (reS n f (reF (ofSh (obX n f))) d b m i i))
theorem re_B (n : Nat) (f : Nat → List Dyn.DC) (d : Int) (b : B4) (m : Int) (i : Nat) : (Dyn.lexec Try.prog tabRe (reLp n f (ofSh (obX n f)) d b m) 3 (unloopD (blkD Try.f7.body 0)) .leaf (reS n f (reF (ofSh (obX n f))) d b m i i)).rl (fun _ s => keepA 101 [0, 1] [13] reK 0 s) = reB n f d b m i := by kernel_rfl
theorem re_blocks : blocksL (bodyD Try.f7.body) = [(0, .loop (unloopD (blkD Try.f7.body 0))), (1, blkD Try.f7.body 1), (2, blkD Try.f7.body 2), (3, blkD Try.f7.body 3)] := by kernel_rfl
theorem re_b0 : blocksL (unloopD (blkD Try.f7.body 0)) = [(1, blkD Try.f7.body 1)] := by kernel_rfl
theorem re_loop (n : Nat) (f : Nat → List Dyn.DC) (d : Int) (b : B4) (m : Int) (w0 : Dyn.Base Try.prog) (st : Dyn.St) (o : Dyn.Out) (h : reLp n f (ofSh (obX n f)) d b m 0 st = some o) : Dyn.BlockSound Try.prog w0 0 (.loop (unloopD (blkD Try.f7.body 0))) st o := by
  simp only [reLp, Option.some.injEq] at h
  subst h
  refine side_two fun hS hh => ?_
  obtain ⟨hn, hP⟩ := hh
  have hnu := (obX_nu hP).1
  refine fold_block (fuel := 3) tabRe_ok mo (lp := reLp n f (ofSh (obX n f)) d b m) (by rw [re_b0]; exact lpOk_cons (fun s o h => by cases h) lpOk_nil) (fun i (_ : Unit) => reS n f (reF (ofSh (obX n f))) d b m i i) (min n 6) (fun _ _ => ()) () (fun _ s => keepA 101 [0, 1] [13] reK 0 s) (fun _ s => keepA_ent 101 _ _ _ 0 s) (fun i _ => reB n f d b m i) (fun i _ => re_B n f d b m i) (fun i hi => ?_) ?_ (hS ▸ (keepA_ent 101 _ _ _ _ st).trans (Dyn.Ent.nilSlot (P := Try.prog) (k := 10) (by kernel_rfl) _ _))
  · have hi' : i < n := by omega
    have hle : (i : Int) < (toSh (tame21 (ofSh (obX n f)) true)).n := by
      show (i : Int) < ((min (nuO (ofSh (obX n f))) 12 : Nat) : Int)
      rw [hnu]; omega
    refine ⟨fun _ => ⟨⟨hP, ⟨by omega, hle⟩, szP_ok (by decide) (by omega), trivial⟩, rfl, ?_⟩, fun hf => ?_⟩
    · rw [Wn1 hi' hn]
      exact ⟨rfl, Dyn.HeLe.refl _, Dyn.HeLe.refl _, le_app rfl, trivial⟩
    · rw [Bool.eq_false_iff] at hf
      exact absurd (and_iff.2 ⟨show (i : Int) < (n : Int) by omega, by omega⟩) hf
  · refine ⟨fun ht => ?_, fun _ => ⟨rfl, Dyn.Fits.refl _⟩⟩
    have ht := and_iff.1 ht
    have h1 : ((min n 6 : Nat) : Int) < (n : Int) := ht.1
    have h2 : ((min n 6 : Nat) : Int) < 6 := ht.2
    omega
def reBad (r : ExR) (lo hi : Int) : Bool := bif bif r.e != 0 then true else !(bif r.lo == lo then bif r.hi == hi then true else false else false) then true else imin r.a (capM 1) != 1
noncomputable def reO2 (n : Nat) (L : Shp) (D : Int) (b : B4) : Dyn.RO :=
  .side [(0 : Int) ≤ 2 ∧ (2 : Int) < 3] (.side [0 ≤ D ∧ D ≤ 6, PdS (obX (min n 6) (reF L))] (.ite (reBad (coverE D (obX (min n 6) (reF L)) b (capM 1) 0) 0 0) (.leaf (rB false)) (.leaf (rB true))))
noncomputable def reO1 (n : Nat) (L : Shp) (D : Int) (b : B4) : Dyn.RO :=
  .side [(0 : Int) ≤ 0 ∧ (0 : Int) < 3] (.side [0 ≤ D ∧ D ≤ 6, (0 : Nat) = 0] (.ite (reBad (coverF (capM 1) D noL b 0) 0 0) (.leaf (rB false))
  (.side [(0 : Int) ≤ 1 ∧ (1 : Int) < 3] (.side [0 ≤ D ∧ D ≤ 6, DLe (.row 1 (d1R 100000)) (.row 1 (d1R 100000))] (.ite (reBad (coverF (capM 1) D (d1L 100000) b 0) (reM D) (reM D)) (.leaf (rB false)) (reO2 n L D b))))))
noncomputable def reO (n : Nat) (f : Nat → List Dyn.DC) (L : Shp) (x y w D : Int) : Dyn.RO :=
  .side [PdW (obX n f)] (.ite (!(small21 L)) (.leaf (rB true))
  (.side [0 ≤ IntKind.u64.wrap (W (2 * D))] (.side [reS n f (reF L) D (sideF x y w D true) (reM D) 0 0 = reS n f (reF L) D (sideF x y w D true) (reM D) 0 0, n ≤ 1000000000 ∧ PdS (obX n f)] (reO1 n L D (sideF x y w D true)))))
theorem re_O (n : Nat) (f : Nat → List Dyn.DC) (x y w d : Int) : (Dyn.dfun Try.prog tabRe (reLp n f (ofSh (obX n f)) (reD d) (sideF x y w (reD d) true) (reM (reD d))) 6 Try.f7 [dvL (obX n f), dvI x, dvI y, dvI w, dvI d]).ro Try.prog Try.f7.results = reO n f (ofSh (obX n f)) x y w (reD d) := by kernel_rfl
/-! ### plain -/
theorem exF_top {most : Int} (h1 : 1 ≤ most) {s : Shp} {b : B4} : ∀ D : Nat, (pClassC s b = 0 → exF most D s b 0 = ⟨0, 0, 0, 1⟩) ∧ (pClassC s b = 2 → exF most D s b 0 = ⟨cellsN D, cellsN D, 0, 1⟩)
  | 0 => by
    constructor <;> intro h <;> unfold exF exT <;> rw [show W (0 + 1) = 1 by decide, decide_eq_true h1, h] <;> rfl
  | D + 1 => by
    constructor <;> intro h <;> unfold exF exT <;> rw [show W (0 + 1) = 1 by decide, decide_eq_true h1, h] <;> rfl
theorem clear_cls {s : Shp} {b : B4} (h : ∀ i, i < nuO s → adO s i = false) : pClassC s b = 0 :=
  cls_zero (c := fun i => figClassC (suO s i) b) (add := adO s) (fun i => fig3 _ b) fun i hi ha => by rw [h i hi] at ha; cases ha
theorem fil_clear {s : Shp} (h : ∀ i, i < nuO s → adO s i = false) (keep : Nat → Bool) : ∀ i, i < nuO (filL keep s) → adO (filL keep s) i = false := fun i hi => h _ (kIx_lt keep hi).1
theorem cover_clear {most : Int} (h1 : 1 ≤ most) {D : Nat} (hD : D ≤ 6) {s : Shp} {b : B4} (hb : Dv D b) (h : ∀ i, i < nuO s → adO s i = false) : coverF most D s b 0 = ⟨0, 0, 0, 1⟩ := by
  rw [coverF_dv hD hb]
  exact (exF_top h1 D).1 (clear_cls (fil_clear (fil_clear h _) _))
theorem reSqr {v m : Int} (h0 : 0 ≤ v) (h : v ≤ m) : v * v ≤ m * m := Int.mul_le_mul h h h0 (by omega)
theorem d1_cls {b : B4} (hb : Fits b) (h : (-25 ≤ b.x0 ∧ b.x1 ≤ 281) ∧ (-25 ≤ b.y0 ∧ b.y1 ≤ 281)) : figClassC (d1S 100000) b = 2 := by
  have e : figClassC (d1S 100000) b = discClass b ze 100000 := by
    unfold figClassC
    rw [show okS (d1S 100000) = true by kernel_rfl]; rfl
  have fx := hb.x
  have fy := hb.y
  rw [e, discClass_eq (fitsBR hb) (PB_R (by unfold PB ze FF; decide)) fx fy (by decide) (by decide)]
  have g1 : 0 ≤ gapI 0 b.x0 b.x1 ∧ gapI 0 b.x0 b.x1 ≤ 306 := by unfold gapI; repeat' split <;> omega
  have g2 : 0 ≤ gapI 0 b.y0 b.y1 ∧ gapI 0 b.y0 b.y1 ≤ 306 := by unfold gapI; repeat' split <;> omega
  have r1 : 0 ≤ reachI 0 b.x0 b.x1 ∧ reachI 0 b.x0 b.x1 ≤ 306 := by unfold reachI; omega
  have r2 : 0 ≤ reachI 0 b.y0 b.y1 ∧ reachI 0 b.y0 b.y1 ≤ 306 := by unfold reachI; omega
  have q1 := reSqr g1.1 g1.2
  have q2 := reSqr g2.1 g2.2
  have q3 := reSqr r1.1 r1.2
  have q4 := reSqr r2.1 r2.2
  have n1 : nearI b ze ≤ 187272 := by
    show gapI 0 b.x0 b.x1 * gapI 0 b.x0 b.x1 + gapI 0 b.y0 b.y1 * gapI 0 b.y0 b.y1 ≤ 187272
    omega
  have n2 : mostI b ze ≤ 187272 := by
    show reachI 0 b.x0 b.x1 * reachI 0 b.x0 b.x1 + reachI 0 b.y0 b.y1 * reachI 0 b.y0 b.y1 ≤ 187272
    omega
  rw [if_neg (by omega), if_pos (by omega)]
theorem d1_near {b : B4} (hb : Fits b) (h : (-25 ≤ b.x0 ∧ b.x1 ≤ 281) ∧ (-25 ≤ b.y0 ∧ b.y1 ≤ 281)) (i : Nat) : nearK (reachF (d1L 100000)) b i = true := by
  show (bif hbF (d1S 100000) then true else !(apart (figBndC (d1S 100000)).1 b)) = true
  rw [show hbF (d1S 100000) = false from rfl, show (figBndC (d1S 100000)).1 = ⟨-100000, -100000, 100000, 100000⟩ by kernel_rfl]
  have fx := hb.x
  have fy := hb.y
  unfold apart emptyBx
  rw [decide_eq_false (show ¬ b.x0 > b.x1 by omega), decide_eq_false (show ¬ b.y0 > b.y1 by omega)]
  dsimp only
  rw [decide_eq_false (show ¬ (100000 : Int) < b.x0 by omega), decide_eq_false (show ¬ b.x1 < (-100000 : Int) by omega), decide_eq_false (show ¬ (100000 : Int) < b.y0 by omega), decide_eq_false (show ¬ b.y1 < (-100000 : Int) by omega)]
  rfl
theorem d1_all {b : B4} (hb : Fits b) (h : (-25 ≤ b.x0 ∧ b.x1 ≤ 281) ∧ (-25 ≤ b.y0 ∧ b.y1 ≤ 281)) : pClassC (nearG (reachF (d1L 100000)) b) b = 2 := by
  unfold nearG
  rw [pClass_fil, show nuO (reachF (d1L 100000)) = 1 by kernel_rfl]
  show (bif nearK (reachF (d1L 100000)) b 0 then foldF 0 (figClassC (d1S 100000) b) true else 0) = 2
  rw [d1_near hb h, d1_cls hb h]; rfl
theorem cover_d1 {most : Int} (h1 : 1 ≤ most) {D : Nat} (hD : D ≤ 6) {b : B4} (hb : Dv D b) (h : (-25 ≤ b.x0 ∧ b.x1 ≤ 281) ∧ (-25 ≤ b.y0 ∧ b.y1 ≤ 281)) : coverF most D (d1L 100000) b 0 = ⟨cellsN D, cellsN D, 0, 1⟩ := by
  rw [coverF_dv hD hb]
  exact (exF_top h1 D).2 (d1_all hb.1 h)
theorem reM_eq {D : Nat} (hD : D ≤ 6) : reM D = cellsN D := by
  have e : D = 0 ∨ D = 1 ∨ D = 2 ∨ D = 3 ∨ D = 4 ∨ D = 5 ∨ D = 6 := by omega
  rcases e with rfl | rfl | rfl | rfl | rfl | rfl | rfl <;> decide +kernel
theorem reBad_no {r : ExR} {v : Int} (h : r = ⟨v, v, 0, 1⟩) : reBad r v v = false := by
  subst h
  unfold reBad
  simp only [beq_self_eq_true, cond_true, bne_self_eq_false, cond_false, Bool.not_true]
  decide
theorem reD_bd (d : Int) : ∃ D : Nat, D ≤ 6 ∧ reD d = (D : Int) := by
  have hb : 0 ≤ band d 255 ∧ band d 255 ≤ 255 := bandLe d 255 (by decide)
  have e : reD d = band d 255 % 7 := by unfold reD; rw [Int.tmod_eq_emod_of_nonneg hb.1]
  exact ⟨(reD d).toNat, by omega, by omega⟩
theorem re_sat (n : Nat) (add : Nat → Bool) (sub : Nat → Shp) (hw : ShW (lForm n add sub)) (x y w d : Int) : (reO n (fun i => partC (add i) (toSh (sub i))) (lForm n add sub) x y w (reD d)).sat fun r => Dyn.RVLe r (rB true) := by
  obtain ⟨D, hD, eD⟩ := reD_bd d
  rw [eD]
  obtain ⟨hb, hs⟩ := side_dv x y w hD true
  have h0 : (0 : Int) ≤ D ∧ (D : Int) ≤ 6 := by omega
  refine ⟨⟨PdW_mk hw, trivial⟩, fun _ => ro_leaf rfl, fun h => ⟨⟨u64_pos _, trivial⟩, ⟨rfl, ⟨ShB_nu (s := lForm n add sub) (lf_B (by simpa using h)), PdS_mk (s := lForm n add sub) (lf_B (by simpa using h))⟩, trivial⟩, ?_⟩⟩
  have hB : ShB (lForm n add sub) := lf_B (by simpa using h)
  have tB : ShB (lForm (min n 6) (fun _ => false) (fun i => tameS (sub i) true 2)) := ⟨CtrB_ze, by show min n 6 ≤ _; omega, fun i hi => by
    have hi' : i < min n 6 := hi
    exact fine_B _ 2 (tame_fine true (sub i) 2 (hB.2.2 i (by omega)) (by decide) (by decide)) (by decide)⟩
  have eL : coverE D (obX (min n 6) (reF (lForm n add sub))) (sideF x y w D true) (capM 1) 0 = coverF (capM 1) D (lForm (min n 6) (fun _ => false) (fun i => tameS (sub i) true 2)) (sideF x y w D true) 0 := by
    unfold coverE
    rw [show ofSh (obX (min n 6) (reF (lForm n add sub))) = lForm (min n 6) (fun _ => false) (fun i => tameS (sub i) true 2) from ofSh_toSh (lForm (min n 6) (fun _ => false) (fun i => tameS (sub i) true 2))]
  have c1 : 1 ≤ capM 1 := by decide
  refine ⟨⟨by decide, trivial⟩, ⟨h0, rfl, trivial⟩, fun k => ?_, fun _ => ⟨⟨by decide, trivial⟩, ⟨h0, .refl _, trivial⟩, fun k => ?_, fun _ => ⟨⟨by decide, trivial⟩, ⟨h0, PdS_mk tB, trivial⟩, fun k => ?_, fun _ => ro_leaf rfl⟩⟩⟩
  · rw [reBad_no (cover_clear (s := noL) c1 hD hb fun i hi => absurd hi (Nat.not_lt_zero i))] at k; cases k
  · rw [reM_eq hD, reBad_no (cover_d1 c1 hD hb (hs rfl))] at k; cases k
  · rw [eL, reBad_no (cover_clear c1 hD hb fun _ _ => rfl)] at k; cases k
theorem rastEmpty_ok (s : Shp) (hs : ShW s) (x y w d : Int) : Dyn.CallD Try.prog 7 [dvL (toSh s), dvI x, dvI y, dvI w, dvI d] (rB true) := by
  cases s with
  | nil => exact hs.elim
  | mk k a b' c r l n add sub =>
    have hw : ShW (lForm n add sub) := hs
    have e : ofSh (obX n fun i => partC (add i) (toSh (sub i))) = lForm n add sub := ofSh_toSh (lForm n add sub)
    have hO := re_O n (fun i => partC (add i) (toSh (sub i))) x y w d
    exact Dyn.dcontract (fuel := 6) tabRe_ok mo Try.func7 (by kernel_rfl) (c := bodyD Try.f7.body) (by kernel_rfl)
      (fun w0 => by rw [re_blocks]; exact lpOk_cons (re_loop n _ _ _ _ w0) (lpOk_cons (fun s o h => by cases h) (lpOk_cons (fun s o h => by cases h) (lpOk_cons (fun s o h => by cases h) lpOk_nil))))
      (by kernel_rfl) hO (by rw [e]; exact re_sat n add sub hw x y w d)
end Go.Proofs.Ythnenjodighlmaa
