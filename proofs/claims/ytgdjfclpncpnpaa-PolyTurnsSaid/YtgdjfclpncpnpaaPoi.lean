/-
  OWN WORK. Contours in plain arithmetic.
-/
import Derived.Test.YtgdjfclpncpnpaaPol
import Derived.Test.YtgdjfclpncpnpaaBox
namespace Go.Proofs.Ytgdjfclpncpnpaa
open Go Go.RowKit Sym

def crossesI (p a e : P2) : Bool := (decide (a.y > p.y) != decide (e.y > p.y)) && (if e.y > a.y then decide (crossI a e p > 0) else decide (crossI a e p < 0))
theorem crossesF_eq {p a e : P2} (hp : PR p) (ha : PR a) (he : PR e) : crossesF p a e = crossesI p a e := by
  unfold crossesF crossesI
  rw [(cross_eq ha he hp).1]
  by_cases k : e.y > a.y
  · simp only [k, decide_true, if_true]
    cases decide (a.y > p.y) <;> cases decide (e.y > p.y) <;> rfl
  · simp only [k, decide_false, if_false]
    cases decide (a.y > p.y) <;> cases decide (e.y > p.y) <;> rfl
def spotB (p : P2) : B4 := ⟨p.x, p.y, p.x, p.y⟩
/-- a point lies on an edge -/
def onI (p a e : P2) : Bool := decide (min a.x e.x ≤ p.x ∧ p.x ≤ max a.x e.x ∧ min a.y e.y ≤ p.y ∧ p.y ≤ max a.y e.y ∧ crossI a e p = 0)
theorem spot_meets (p a e : P2) : meetsI (spotB p) a e = onI p a e := by
  have h : ∀ f : P2 → Bool, all4 f (spotB p) = f p := fun f => by unfold all4 spotB; dsimp only; cases f ⟨p.x, p.y⟩ <;> rfl
  unfold meetsI
  rw [h, h]
  rw [Bool.eq_iff_iff]
  unfold sepI onI spotB
  simp only [Bool.and_eq_true, Bool.not_eq_true', Bool.or_eq_false_iff, decide_eq_false_iff_not, decide_eq_true_eq]
  omega
/-! ### rectangles -/
theorem onI_h {p : P2} {x0 x1 y : Int} : onI p ⟨x0, y⟩ ⟨x1, y⟩ = decide (min x0 x1 ≤ p.x ∧ p.x ≤ max x0 x1 ∧ p.y = y) := by
  unfold onI crossI
  dsimp only
  refine decide_eq_decide.2 ⟨fun ⟨h1, h2, h3, h4, _⟩ => ⟨h1, h2, by omega⟩, fun ⟨h1, h2, h3⟩ => ⟨h1, h2, by omega, by omega, by rw [h3, Int.sub_self, Int.mul_zero, Int.zero_mul]; rfl⟩⟩
theorem onI_v {p : P2} {x y0 y1 : Int} : onI p ⟨x, y0⟩ ⟨x, y1⟩ = decide (p.x = x ∧ min y0 y1 ≤ p.y ∧ p.y ≤ max y0 y1) := by
  unfold onI crossI
  dsimp only
  refine decide_eq_decide.2 ⟨fun ⟨h1, h2, h3, h4, _⟩ => ⟨by omega, h3, h4⟩, fun ⟨h1, h2, h3⟩ => ⟨by omega, by omega, h2, h3, by rw [h1, Int.sub_self, Int.mul_zero, Int.zero_mul]; rfl⟩⟩
theorem crossesI_h {p : P2} {x0 x1 y : Int} : crossesI p ⟨x0, y⟩ ⟨x1, y⟩ = false := by
  unfold crossesI; simp
theorem crossesI_v {p : P2} {x y0 y1 : Int} : crossesI p ⟨x, y0⟩ ⟨x, y1⟩ = decide (min y0 y1 ≤ p.y ∧ p.y < max y0 y1 ∧ p.x < x) := by
  have e : crossI ⟨x, y0⟩ ⟨x, y1⟩ p = (y1 - y0) * (x - p.x) := by unfold crossI; dsimp only; grind
  unfold crossesI
  dsimp only
  rw [e, Bool.eq_iff_iff]
  by_cases k : y1 > y0
  · have s : (y1 - y0) * (x - p.x) > 0 ↔ p.x < x := by
      constructor
      · intro h
        rcases (show p.x < x ∨ x ≤ p.x by omega) with g | g
        · exact g
        · have := Int.mul_nonneg (show 0 ≤ y1 - y0 by omega) (show 0 ≤ p.x - x by omega)
          have e : (y1 - y0) * (p.x - x) = -((y1 - y0) * (x - p.x)) := by grind
          omega
      · intro h; exact Int.mul_pos (by omega) (by omega)
    simp only [k, if_true, Bool.and_eq_true, bne_iff_ne, ne_eq, decide_eq_decide, decide_eq_true_eq, s]
    omega
  · by_cases k' : y0 > y1
    · have s : (y1 - y0) * (x - p.x) < 0 ↔ p.x < x := by
        have e : (y1 - y0) * (x - p.x) = -((y0 - y1) * (x - p.x)) := by grind
        rw [e]
        constructor
        · intro h
          rcases (show p.x < x ∨ x ≤ p.x by omega) with g | g
          · exact g
          · have := Int.mul_nonneg (show 0 ≤ y0 - y1 by omega) (show 0 ≤ p.x - x by omega)
            have e : (y0 - y1) * (p.x - x) = -((y0 - y1) * (x - p.x)) := by grind
            omega
        · intro h
          have := Int.mul_pos (show 0 < y0 - y1 by omega) (show 0 < x - p.x by omega)
          omega
      simp only [k, if_false, Bool.and_eq_true, bne_iff_ne, ne_eq, decide_eq_decide, decide_eq_true_eq, s]
      omega
    · have : y0 = y1 := by omega
      subst this
      simp
      omega
theorem xor_dc {a b : Prop} [Decidable a] [Decidable b] : xor (decide a) (decide b) = decide ((a ∧ ¬ b) ∨ (¬ a ∧ b)) := by
  by_cases h : a <;> by_cases k : b <;> simp [h, k]
end Go.Proofs.Ytgdjfclpncpnpaa
