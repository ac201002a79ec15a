/-
  OWN WORK. Strokes in plain arithmetic.
-/
import Derived.Test.YtgdjfclpncpnpaaBox
namespace Go.Proofs.Ytgdjfclpncpnpaa
open Go Go.RowKit Sym

/-- p is in the stroke -/
def lineI (p a c : P2) (r : Int) : Bool :=
  if dotI a c p ≤ 0 then decide (distI p a ≤ r * r) else if dotI a c p ≥ distI a c then decide (distI p c ≤ r * r) else clear p a c r
theorem lineHas_eq {p a c : P2} {r : Int} (hp : PR p) (ha : PR a) (hc : PR c) (h1 : 1 ≤ r) (h2 : r ≤ 2147483648) : lineHas p a c r = lineI p a c r := by
  unfold lineHas lineI
  rw [decide_eq_false (show ¬ r < 1 by omega), bif_f]
  dsimp only
  rw [along_eq hp ha hc, dist2_eq ha hc]
  have e := clear_eq hp ha hc (r := r) (by omega) h2
  rw [dist2_eq ha hc] at e
  rw [e, square_eq (by omega) h2]
  have n1 := near_eq (b := ⟨a.x, a.y, a.x, a.y⟩) ⟨ha.x, ha.y, ha.x, ha.y⟩ hp
  have n2 := near_eq (b := ⟨c.x, c.y, c.x, c.y⟩) ⟨hc.x, hc.y, hc.x, hc.y⟩ hp
  rw [n1.1, n2.1, dist_near, dist_near]
  by_cases k : dotI a c p ≤ 0
  · simp [k]
  · by_cases k' : dotI a c p ≥ distI a c
    · simp [k, k']
    · simp [k, k']
theorem rLineHas_eq {p a c : P2} {r : Int} (hp : PR p) (ha : PR a) (hc : PR c) (h1 : 1 ≤ r) (h2 : r ≤ 2147483648) : rLineHas p a c r = lineI p a c r := by
  unfold rLineHas lineI
  rw [decide_eq_false (show ¬ r < 1 by omega), bif_f]
  rw [rWithin_eq hp ha hc (by omega) h2, (rDot_eq ha hc hp).1, (rDist_eq2 ha hc).1, (rDist_eq2 hp ha).1, (rDist_eq2 hp hc).1, (rsq (r := r) (by omega) h2).1]
  by_cases k : dotI a c p ≤ 0
  · simp [k]
  · by_cases k' : dotI a c p ≥ distI a c
    · simp [k, k']
    · simp [k, k']
def any4 (f : P2 → Bool) (b : B4) : Bool := f ⟨b.x0, b.y0⟩ || f ⟨b.x1, b.y0⟩ || f ⟨b.x0, b.y1⟩ || f ⟨b.x1, b.y1⟩
theorem cnt4_any (f : P2 → Bool) (b : B4) : decide (cnt4 f b > 0) = any4 f b := by
  rw [cnt4_sum]; unfold any4
  cases f ⟨b.x0, b.y0⟩ <;> cases f ⟨b.x1, b.y0⟩ <;> cases f ⟨b.x0, b.y1⟩ <;> cases f ⟨b.x1, b.y1⟩ <;> rfl
theorem cnt4_none (f : P2 → Bool) (b : B4) : (cnt4 f b == 0) = !(any4 f b) := by
  rw [cnt4_sum]; unfold any4
  cases f ⟨b.x0, b.y0⟩ <;> cases f ⟨b.x1, b.y0⟩ <;> cases f ⟨b.x0, b.y1⟩ <;> cases f ⟨b.x1, b.y1⟩ <;> rfl
theorem any4_congr {f g : P2 → Bool} {b : B4} (hb : BR b) (h : ∀ q, PR q → f q = g q) : any4 f b = any4 g b := by
  unfold any4
  rw [h _ ⟨hb.x0, hb.y0⟩, h _ ⟨hb.x1, hb.y0⟩, h _ ⟨hb.x0, hb.y1⟩, h _ ⟨hb.x1, hb.y1⟩]
def lineCl (b : B4) (a c : P2) (r : Int) : Int :=
  if all4 (fun q => lineI q a c r) b then 2 else
  if any4 (fun q => lineI q a c r) b || decide (nearI b a ≤ r * r) || decide (nearI b c ≤ r * r) || meetsI b a c then 1 else 0
theorem lineClass_lt {b : B4} {a c : P2} {r : Int} (h : r < 1) : lineClass b a c r = 0 := by unfold lineClass; rw [decide_eq_true h]; rfl
theorem lineHas_lt {p a c : P2} {r : Int} (h : r < 1) : lineHas p a c r = false := by unfold lineHas; rw [decide_eq_true h]; rfl
theorem lineClass_eq {b : B4} {a c : P2} {r : Int} (hb : BR b) (ha : PR a) (hc : PR c) (hx : b.x0 ≤ b.x1) (hy : b.y0 ≤ b.y1) (h1 : 1 ≤ r) (h2 : r ≤ 2147483648) : lineClass b a c r = lineCl b a c r := by
  unfold lineClass lineCl
  have hh : boxHas b ⟨b.x0, b.y0⟩ = true := (boxHas_eq _ _).2 ⟨by simp, hx, by simp, hy⟩
  rw [hh, decide_eq_false (show ¬ r < 1 by omega)]
  have e1 : all4 (fun p => lineHas p a c r) b = all4 (fun p => lineI p a c r) b := all4_congr hb fun q hq => lineHas_eq hq ha hc h1 h2
  have e2 : any4 (fun p => lineHas p a c r) b = any4 (fun p => lineI p a c r) b := any4_congr hb fun q hq => lineHas_eq hq ha hc h1 h2
  dsimp only
  rw [cnt4_all, cnt4_any, e1, e2, square_eq (by omega) h2, (near_eq hb ha).1, (near_eq hb hc).1, meets_eq hb ha hc hx hy]
  simp only [orB_eq, Bool.not_true, Bool.or_false, bif_f]
  cases all4 (fun p => lineI p a c r) b
  · cases (any4 (fun p => lineI p a c r) b || decide (nearI b a ≤ r * r) || decide (nearI b c ≤ r * r) || meetsI b a c) <;> rfl
  · rfl
theorem clamp_dist {b : B4} {p : P2} (hx : b.x0 ≤ b.x1) (hy : b.y0 ≤ b.y1) : distI p ⟨imin (imax p.x b.x0) b.x1, imin (imax p.y b.y0) b.y1⟩ = nearI b p := by
  have e : ∀ u lo hi : Int, lo ≤ hi → (u - min (max u lo) hi) * (u - min (max u lo) hi) = gapI u lo hi * gapI u lo hi := fun u lo hi h => by
    have : gapI u lo hi = u - min (max u lo) hi ∨ gapI u lo hi = -(u - min (max u lo) hi) := by unfold gapI; split <;> omega
    rcases this with h | h <;> rw [h]
    grind
  unfold distI nearI
  simp only [imin_eq, imax_eq]
  rw [e _ _ _ hx, e _ _ _ hy]
theorem rNear_eq2 {b : B4} {p : P2} (hb : BR b) (hp : PR p) (hx : b.x0 ≤ b.x1) (hy : b.y0 ≤ b.y1) : rNear b p = nearI b p := by
  obtain ⟨⟨a1, a2⟩, ⟨a3, a4⟩, ⟨a5, a6⟩, a7, a8⟩ := hb
  unfold rNear
  rw [(rDist_eq2 hp (q := ⟨imin (imax p.x b.x0) b.x1, imin (imax p.y b.y0) b.y1⟩) ⟨⟨by dsimp only; simp only [imin_eq, imax_eq]; omega, by dsimp only; simp only [imin_eq, imax_eq]; omega⟩, ⟨by dsimp only; simp only [imin_eq, imax_eq]; omega, by dsimp only; simp only [imin_eq, imax_eq]; omega⟩⟩).1, clamp_dist hx hy]
theorem rLine_eq {b : B4} {a c : P2} {r : Int} (hb : BR b) (ha : PR a) (hc : PR c) (hx : b.x0 ≤ b.x1) (hy : b.y0 ≤ b.y1) (h1 : 1 ≤ r) (h2 : r ≤ 2147483648) : rLine b a c r = lineCl b a c r := by
  unfold rLine lineCl
  rw [decide_eq_false (show ¬ r < 1 by omega), bif_f]
  have e1 : all4 (fun p => rLineHas p a c r) b = all4 (fun p => lineI p a c r) b := all4_congr hb fun q hq => rLineHas_eq hq ha hc h1 h2
  have e2 : any4 (fun p => rLineHas p a c r) b = any4 (fun p => lineI p a c r) b := any4_congr hb fun q hq => rLineHas_eq hq ha hc h1 h2
  dsimp only
  rw [cnt4_all, cnt4_any, e1, e2, (rsq (r := r) (by omega) h2).1, rNear_eq2 hb ha hx hy, rNear_eq2 hb hc hx hy, rMeets_eq hb ha hc]
  simp only [orB_eq]
  cases all4 (fun p => lineI p a c r) b <;> cases any4 (fun p => lineI p a c r) b <;> cases decide (nearI b a ≤ r * r) <;> cases decide (nearI b c ≤ r * r) <;> cases meetsI b a c <;> rfl

/-! ### corners say all of what is linear -/
def isC (b : B4) (c : P2) : Prop := (c.x = b.x0 ∨ c.x = b.x1) ∧ (c.y = b.y0 ∨ c.y = b.y1)
theorem all4_iff {f : P2 → Bool} {b : B4} : all4 f b = true ↔ ∀ c, isC b c → f c = true := by
  unfold all4
  simp only [Bool.and_eq_true]
  constructor
  · rintro ⟨⟨⟨h1, h2⟩, h3⟩, h4⟩ ⟨x, y⟩ ⟨hx, hy⟩
    dsimp only at hx hy
    rcases hx with rfl | rfl <;> rcases hy with rfl | rfl <;> assumption
  · intro h
    exact ⟨⟨⟨h _ ⟨.inl rfl, .inl rfl⟩, h _ ⟨.inr rfl, .inl rfl⟩⟩, h _ ⟨.inl rfl, .inr rfl⟩⟩, h _ ⟨.inr rfl, .inr rfl⟩⟩
theorem any4_iff {f : P2 → Bool} {b : B4} : any4 f b = true ↔ ∃ c, isC b c ∧ f c = true := by
  unfold any4
  simp only [Bool.or_eq_true]
  constructor
  · rintro (((h | h) | h) | h)
    · exact ⟨_, ⟨.inl rfl, .inl rfl⟩, h⟩
    · exact ⟨_, ⟨.inr rfl, .inl rfl⟩, h⟩
    · exact ⟨_, ⟨.inl rfl, .inr rfl⟩, h⟩
    · exact ⟨_, ⟨.inr rfl, .inr rfl⟩, h⟩
  · rintro ⟨⟨x, y⟩, ⟨hx, hy⟩, h⟩
    dsimp only at hx hy
    rcases hx with rfl | rfl <;> rcases hy with rfl | rfl <;> simp [h]
theorem isC_has {b : B4} {c : P2} (hx : b.x0 ≤ b.x1) (hy : b.y0 ≤ b.y1) (h : isC b c) : hasI b c := by
  obtain ⟨h1, h2⟩ := h
  exact ⟨by omega, by omega, by omega, by omega⟩
/-- some corner has at least so much of a linear form -/
theorem corner_ge {b : B4} {q : P2} (u v : Int) (h : hasI b q) : ∃ c, isC b c ∧ u * q.x + v * q.y ≤ u * c.x + v * c.y := by
  obtain ⟨h1, h2, h3, h4⟩ := h
  have one : ∀ u x lo hi : Int, lo ≤ x → x ≤ hi → u * x ≤ u * lo ∨ u * x ≤ u * hi := fun u x lo hi a c => by
    rcases Int.le_total 0 u with k | k
    · right; exact Int.mul_le_mul_of_nonneg_left c k
    · left
      have := Int.mul_nonneg (show 0 ≤ -u by omega) (show 0 ≤ x - lo by omega)
      have e : -u * (x - lo) = u * lo - u * x := by grind
      omega
  rcases one u q.x b.x0 b.x1 h1 h2 with k | k <;> rcases one v q.y b.y0 b.y1 h3 h4 with k' | k'
  · exact ⟨⟨b.x0, b.y0⟩, ⟨.inl rfl, .inl rfl⟩, by dsimp only; omega⟩
  · exact ⟨⟨b.x0, b.y1⟩, ⟨.inl rfl, .inr rfl⟩, by dsimp only; omega⟩
  · exact ⟨⟨b.x1, b.y0⟩, ⟨.inr rfl, .inl rfl⟩, by dsimp only; omega⟩
  · exact ⟨⟨b.x1, b.y1⟩, ⟨.inr rfl, .inr rfl⟩, by dsimp only; omega⟩
theorem cross_lin (a c p : P2) : crossI a c p = -(c.y - a.y) * p.x + (c.x - a.x) * p.y + ((c.y - a.y) * a.x - (c.x - a.x) * a.y) := by unfold crossI; grind
theorem dot_lin (a c p : P2) : dotI a c p = (c.x - a.x) * p.x + (c.y - a.y) * p.y - ((c.x - a.x) * a.x + (c.y - a.y) * a.y) := by unfold dotI; grind
theorem cross_ge {b : B4} {q : P2} (a c : P2) (h : hasI b q) : ∃ k, isC b k ∧ crossI a c q ≤ crossI a c k := by
  obtain ⟨k, hk, hl⟩ := corner_ge (-(c.y - a.y)) (c.x - a.x) h
  exact ⟨k, hk, by rw [cross_lin, cross_lin]; omega⟩
theorem cross_le {b : B4} {q : P2} (a c : P2) (h : hasI b q) : ∃ k, isC b k ∧ crossI a c k ≤ crossI a c q := by
  obtain ⟨k, hk, hl⟩ := corner_ge (c.y - a.y) (-(c.x - a.x)) h
  refine ⟨k, hk, ?_⟩
  rw [cross_lin, cross_lin a c q]
  have e1 : -(c.y - a.y) * q.x = -((c.y - a.y) * q.x) := by grind
  have e2 : -(c.x - a.x) * q.y = -((c.x - a.x) * q.y) := by grind
  have e3 : -(c.y - a.y) * k.x = -((c.y - a.y) * k.x) := by grind
  have e4 : -(c.x - a.x) * k.y = -((c.x - a.x) * k.y) := by grind
  rw [e1, e3]; rw [e2, e4] at hl; omega
theorem dot_ge {b : B4} {q : P2} (a c : P2) (h : hasI b q) : ∃ k, isC b k ∧ dotI a c q ≤ dotI a c k := by
  obtain ⟨k, hk, hl⟩ := corner_ge (c.x - a.x) (c.y - a.y) h
  exact ⟨k, hk, by rw [dot_lin, dot_lin]; omega⟩
theorem dot_le {b : B4} {q : P2} (a c : P2) (h : hasI b q) : ∃ k, isC b k ∧ dotI a c k ≤ dotI a c q := by
  obtain ⟨k, hk, hl⟩ := corner_ge (-(c.x - a.x)) (-(c.y - a.y)) h
  refine ⟨k, hk, ?_⟩
  rw [dot_lin, dot_lin a c q]
  have e1 : -(c.y - a.y) * q.y = -((c.y - a.y) * q.y) := by grind
  have e2 : -(c.x - a.x) * q.x = -((c.x - a.x) * q.x) := by grind
  have e3 : -(c.y - a.y) * k.y = -((c.y - a.y) * k.y) := by grind
  have e4 : -(c.x - a.x) * k.x = -((c.x - a.x) * k.x) := by grind
  rw [e1, e2, e3, e4] at hl; omega
/-- what is clear at the corners is clear within -/
theorem clear_in {b : B4} {q a c : P2} {r : Int} (h : hasI b q) (hk : ∀ k, isC b k → clear k a c r = true) : clear q a c r = true := by
  unfold clear at *
  simp only [decide_eq_true_eq] at *
  rcases Int.le_total 0 (crossI a c q) with s | s
  · obtain ⟨k, hc, hl⟩ := cross_ge a c h
    have := hk k hc
    have := sq_le (x := crossI a c q) (y := crossI a c k) (by omega) hl
    omega
  · obtain ⟨k, hc, hl⟩ := cross_le a c h
    have := hk k hc
    have t := sq_le (x := crossI a c q) (y := -crossI a c k) (by omega) (by omega)
    have e : -crossI a c k * -crossI a c k = crossI a c k * crossI a c k := by grind
    omega
/-- the product of lengths is told by both products -/
theorem lagrange (a c p : P2) : distI a c * distI p a = dotI a c p * dotI a c p + crossI a c p * crossI a c p := by
  unfold distI dotI crossI; grind
theorem lagrange2 (a c p : P2) : distI a c * distI p c = (dotI a c p - distI a c) * (dotI a c p - distI a c) + crossI a c p * crossI a c p := by
  unfold distI dotI crossI; grind
end Go.Proofs.Ytgdjfclpncpnpaa
