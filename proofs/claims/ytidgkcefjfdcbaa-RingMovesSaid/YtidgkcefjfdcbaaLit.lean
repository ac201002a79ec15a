/-
  OWN WORK. The law LineStraight.
-/
import Derived.Test.YtidgkcefjfdcbaaLis
namespace Go.Proofs.Ytidgkcefjfdcbaa
open Go Go.RowKit Sym

def lineStr0 (long r : Int) (p c q : P2) : Bool :=
  andB (lineHas p ⟨0, 0⟩ c r == orB (orB (andB (andB (andB (decide (q.x ≥ 0)) (decide (q.x ≤ long))) (decide (q.y ≥ W (0 - r)))) (decide (q.y ≤ r))) (discHas p ⟨0, 0⟩ r)) (discHas p c r)) true
def lineStraight (long0 r0 : Int) (p0 : P2) (up_ : Bool) : Bool :=
  let long := lMod long0 50
  let r := lSmR (lR r0) 12
  let p := lClose p0 70
  bif up_ then lineStr0 long r p ⟨0, long⟩ ⟨p.y, p.x⟩ else lineStr0 long r p ⟨long, 0⟩ p
theorem straightI {l r : Int} (p : P2) (hl : 0 ≤ l) (hr : 1 ≤ r) : lineI p ⟨0, 0⟩ ⟨l, 0⟩ r = true ↔ ((0 ≤ p.x ∧ p.x ≤ l ∧ -r ≤ p.y ∧ p.y ≤ r) ∨ distI p ⟨0, 0⟩ ≤ r * r ∨ distI p ⟨l, 0⟩ ≤ r * r) := by
  have hd : dotI ⟨0, 0⟩ ⟨l, 0⟩ p = l * p.x := by unfold dotI; dsimp only; grind
  have hk : crossI ⟨0, 0⟩ ⟨l, 0⟩ p = l * p.y := by unfold crossI; dsimp only; grind
  have hL : distI ⟨0, 0⟩ ⟨l, 0⟩ = l * l := by unfold distI; dsimp only; grind
  have h0 : distI p ⟨0, 0⟩ = p.x * p.x + p.y * p.y := by unfold distI; dsimp only; grind
  have h1 : distI p ⟨l, 0⟩ = (p.x - l) * (p.x - l) + p.y * p.y := by unfold distI; dsimp only; grind
  have nx := sq_nn p.x; have nxl := sq_nn (p.x - l); have ny := sq_nn p.y
  have yy : (-r ≤ p.y ∧ p.y ≤ r) ↔ p.y * p.y ≤ r * r := by
    constructor
    · exact fun k => sq_le k.1 k.2
    · intro k
      rcases Int.lt_or_le r p.y with g | g
      · have := sq_lt (x := r) (y := p.y) (by omega) g; omega
      · refine ⟨?_, g⟩
        rcases Int.lt_or_le p.y (-r) with g' | g'
        · have := sq_lt (x := r) (y := -p.y) (by omega) (by omega)
          have e : -p.y * -p.y = p.y * p.y := by grind
          omega
        · exact g'
  unfold lineI clear
  rw [hd, hk, hL, h0, h1, yy]
  by_cases k : l * p.x ≤ 0
  · rw [if_pos k, decide_eq_true_eq]
    constructor
    · exact fun z => .inr (.inl z)
    · rintro (z | z | z)
      · -- 0 ≤ x and l * x ≤ 0
        have : p.x = 0 := by
          rcases Int.lt_or_le 0 p.x with g | g
          · rcases Int.lt_or_le 0 l with g' | g'
            · have := Int.mul_pos g' g; omega
            · omega
          · omega
        rw [this]; simpa using z.2.2
      · exact z
      · have : p.x * p.x ≤ (p.x - l) * (p.x - l) := by
          have e : (p.x - l) * (p.x - l) = p.x * p.x - 2 * (l * p.x) + l * l := by grind
          have := sq_nn l
          omega
        omega
  · rw [if_neg k]
    have lp : 0 < l := by
      rcases Int.lt_or_le 0 l with g | g
      · exact g
      · have : l = 0 := by omega
        rw [this] at k; simp at k
    have xp : 0 < p.x := by
      rcases Int.lt_or_le 0 p.x with g | g
      · exact g
      · have := Int.mul_nonneg hl (show 0 ≤ -p.x by omega)
        have e : l * -p.x = -(l * p.x) := by grind
        omega
    by_cases k' : l * p.x ≥ l * l
    · rw [if_pos k', decide_eq_true_eq]
      have xl : l ≤ p.x := Int.le_of_mul_le_mul_left k' lp
      constructor
      · exact fun z => .inr (.inr z)
      · rintro (z | z | z)
        · have : p.x = l := by omega
          rw [this]; simpa using z.2.2
        · have := sq_le (x := p.x - l) (y := p.x) (by omega) (by omega)
          omega
        · exact z
    · rw [if_neg k', decide_eq_true_eq]
      have xl : p.x < l := by
        rcases Int.lt_or_le p.x l with g | g
        · exact g
        · have := Int.mul_le_mul_of_nonneg_left g hl; omega
      have e1 : l * p.y * (l * p.y) = l * l * (p.y * p.y) := by grind
      have e2 : r * r * (l * l) = l * l * (r * r) := by grind
      rw [e1, e2, Int.mul_le_mul_left (Int.mul_pos lp lp)]
      constructor
      · exact fun z => .inl ⟨by omega, by omega, z⟩
      · rintro (z | z | z)
        · exact z.2.2
        · omega
        · omega
theorem lineStr0_true {l r : Int} {p : P2} (hl : 0 ≤ l ∧ l ≤ 50) (hr : 1 ≤ r ∧ r ≤ 12) (hp : (-70 ≤ p.x ∧ p.x ≤ 70) ∧ (-70 ≤ p.y ∧ p.y ≤ 70)) : lineStr0 l r p ⟨l, 0⟩ p = true ∧ lineStr0 l r p ⟨0, l⟩ ⟨p.y, p.x⟩ = true := by
  have hP : PR p := PR_of hp (by decide)
  have z : PR ⟨0, 0⟩ := ⟨⟨by decide, by decide⟩, ⟨by decide, by decide⟩⟩
  have zl : PR ⟨l, 0⟩ := ⟨⟨by dsimp only; omega, by dsimp only; omega⟩, ⟨by dsimp only; omega, by dsimp only; omega⟩⟩
  have lz : PR ⟨0, l⟩ := ⟨⟨by dsimp only; omega, by dsimp only; omega⟩, ⟨by dsimp only; omega, by dsimp only; omega⟩⟩
  unfold lineStr0
  rw [W_id (x := 0 - r) (by omega) (by omega)]
  rw [lineHas_eq hP z zl hr.1 (by omega), lineHas_eq hP z lz hr.1 (by omega), discHas_eq hP z hr.1 (by omega), discHas_eq hP zl hr.1 (by omega), discHas_eq hP lz hr.1 (by omega)]
  simp only [orB_eq, andB_eq, Bool.and_true, beq_iff_eq]
  constructor
  · rw [Bool.eq_iff_iff, straightI p hl.1 hr.1]
    simp only [Bool.or_eq_true, Bool.and_eq_true, decide_eq_true_eq, or_assoc, and_assoc, ge_iff_le, Int.zero_sub]
  · have s := straightI ⟨p.y, p.x⟩ hl.1 hr.1
    have e1 : lineI p ⟨0, 0⟩ ⟨0, l⟩ r = true ↔ lineI ⟨p.y, p.x⟩ ⟨0, 0⟩ ⟨l, 0⟩ r = true := by
      rw [lineI_iff, lineI_iff]
      exact ⟨onS_sw, onS_sw⟩
    have e2 : distI ⟨p.y, p.x⟩ ⟨0, 0⟩ = distI p ⟨0, 0⟩ := by unfold distI; dsimp only; omega
    have e3 : distI ⟨p.y, p.x⟩ ⟨l, 0⟩ = distI p ⟨0, l⟩ := by unfold distI; dsimp only; omega
    rw [e2, e3] at s
    dsimp only at s
    rw [Bool.eq_iff_iff, e1, s]
    simp only [Bool.or_eq_true, Bool.and_eq_true, decide_eq_true_eq, or_assoc, and_assoc, ge_iff_le, Int.zero_sub]
theorem lineStraight_true (long r : Int) (p : P2) (up_ : Bool) : lineStraight long r p up_ = true := by
  have hl := lMod_bd long (n := 50) (by decide) (by decide)
  have hr := lR_bd r
  have hh := lSmR_bd (r := lR r) (m := 12) (by omega) (by decide) (by decide)
  have hp := lClose_r p (n := 70) (by decide) (by decide)
  have h := lineStr0_true (l := lMod long 50) (r := lSmR (lR r) 12) (p := lClose p 70) ⟨hl.1, by omega⟩ hh hp
  unfold lineStraight
  cases up_
  · exact h.1
  · exact h.2
theorem n71 : W (70 + 1) ≠ 0 := by decide
theorem lineStraight_ok (long r : Int) (p : P2) (up_ : Bool) : CallOk Try.prog 8 [vi long, vi r, pt p, vb up_] (vb true) := by
  rw [← lineStraight_true long r p up_]
  exact fnOkS (fuel := 16) (tbOf_ok tbA7_ok) mo Try.func8 (by kernel_rfl) (by kernel_rfl) (by kernel_rfl) (show _ = [W (70 + 1) ≠ 0] by kernel_rfl) ⟨n71, trivial⟩
end Go.Proofs.Ytidgkcefjfdcbaa
