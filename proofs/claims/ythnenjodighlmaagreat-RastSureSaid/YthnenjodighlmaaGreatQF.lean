/-
  OWN WORK. Joined by merge.py: Box Lin Disc Bas Disd Bat Lio Bau Lis Lit Rin Tam Sam San Tua Tub Roe Pia Rof Rsc Rsd Rse Rsf.
-/
import Derived.Test.YthnenjodighlmaaGreatQE
import Derived.Test.YthnenjodighlmaaGreatQD
/-! ## Box -/
namespace Go.Proofs.YthnenjodighlmaaGreat
open Go Go.RowKit Sym
set_option maxRecDepth 100000

theorem cnt4_lt (f : P2 → Bool) (b : B4) : decide (cnt4 f b < 4) = !(all4 f b) := by
  rw [cnt4_sum]; unfold all4
  cases f ⟨b.x0, b.y0⟩ <;> cases f ⟨b.x1, b.y0⟩ <;> cases f ⟨b.x0, b.y1⟩ <;> cases f ⟨b.x1, b.y1⟩ <;> rfl
/-- the segment's own box has no point of b -/
def sepI (b : B4) (p q : P2) : Bool := decide (max p.x q.x < b.x0) || decide (min p.x q.x > b.x1) || decide (max p.y q.y < b.y0) || decide (min p.y q.y > b.y1)
def meetsI (b : B4) (p q : P2) : Bool := !(sepI b p q) && (!(all4 (fun c => decide (crossI p q c > 0)) b) && !(all4 (fun c => decide (crossI p q c < 0)) b))
theorem meets_eq {b : B4} {p q : P2} (hb : BR b) (hp : PR p) (hq : PR q) (hx : b.x0 ≤ b.x1) (hy : b.y0 ≤ b.y1) : meets b p q = meetsI b p q := by
  have e1 : all4 (fun c => decide (cross p q c > 0)) b = all4 (fun c => decide (crossI p q c > 0)) b := all4_congr hb fun c hc => by rw [(cross_eq hp hq hc).1]
  have e2 : all4 (fun c => decide (cross p q c < 0)) b = all4 (fun c => decide (crossI p q c < 0)) b := all4_congr hb fun c hc => by rw [(cross_eq hp hq hc).1]
  have e3 : emptyBx b = false := by
    unfold emptyBx; rw [orB_eq, decide_eq_false (show ¬ b.x0 > b.x1 by omega), decide_eq_false (show ¬ b.y0 > b.y1 by omega)]; rfl
  unfold meets meetsI sepI
  rw [cnt4_lt, cnt4_lt, e1, e2, e3]
  simp only [orB_eq, andB_eq, imax_eq, imin_eq, Bool.false_or]
  cases (decide (max p.x q.x < b.x0) || decide (min p.x q.x > b.x1) || decide (max p.y q.y < b.y0) || decide (min p.y q.y > b.y1)) <;> rfl
theorem rMeets_eq {b : B4} {p q : P2} (hb : BR b) (hp : PR p) (hq : PR q) : rMeets b p q = meetsI b p q := by
  have e1 : all4 (fun c => decide (cross p q c > 0)) b = all4 (fun c => decide (crossI p q c > 0)) b := all4_congr hb fun c hc => by rw [(cross_eq hp hq hc).1]
  have e2 : all4 (fun c => decide (cross p q c < 0)) b = all4 (fun c => decide (crossI p q c < 0)) b := all4_congr hb fun c hc => by rw [(cross_eq hp hq hc).1]
  unfold rMeets meetsI sepI rApart
  rw [cnt4_lt, cnt4_lt, e1, e2]
  simp only [orB_eq, andB_eq, imax_eq, imin_eq]
  have e4 : (decide (b.x1 < min p.x q.x) || decide (max p.x q.x < b.x0) || decide (b.y1 < min p.y q.y) || decide (max p.y q.y < b.y0)) = (decide (max p.x q.x < b.x0) || decide (min p.x q.x > b.x1) || decide (max p.y q.y < b.y0) || decide (min p.y q.y > b.y1)) := by
    rw [Bool.or_comm (decide (b.x1 < min p.x q.x)), Bool.or_assoc, Bool.or_assoc, Bool.or_assoc, Bool.or_assoc, Bool.or_comm (decide (b.y1 < min p.y q.y))]
  rw [e4]
  cases (decide (max p.x q.x < b.x0) || decide (min p.x q.x > b.x1) || decide (max p.y q.y < b.y0) || decide (min p.y q.y > b.y1)) <;> rfl
/-! ### quarters -/
def q0 (b : B4) : B4 := ⟨spl b 0 b.x0, spl b 0 b.y0, spl b 0 (midX b), spl b 0 (midY b)⟩
def q1 (b : B4) : B4 := ⟨spl b 0 (midX b), spl b 0 b.y0, spl b 0 b.x1, spl b 0 (midY b)⟩
def q2 (b : B4) : B4 := ⟨spl b 0 b.x0, spl b 0 (midY b), spl b 0 (midX b), spl b 0 b.y1⟩
def q3 (b : B4) : B4 := ⟨spl b 0 (midX b), spl b 0 (midY b), spl b 0 b.x1, spl b 0 b.y1⟩
structure Fits (b : B4) : Prop where
  x0 : -536870912 ≤ b.x0
  x : b.x0 ≤ b.x1
  x1 : b.x1 ≤ 536870912
  y0 : -536870912 ≤ b.y0
  y : b.y0 ≤ b.y1
  y1 : b.y1 ≤ 536870912
theorem boxOk_iff (b : B4) : boxOk b = true ↔ Fits b := by
  unfold boxOk within
  simp only [andB_eq, Bool.and_eq_true, decide_eq_true_eq]
  constructor
  · rintro ⟨⟨⟨⟨⟨a, c⟩, d, e⟩, f, g⟩, h, i⟩, j, k⟩; exact ⟨d, a, i, f, c, k⟩
  · rintro ⟨a, c, d, e, f, g⟩; exact ⟨⟨⟨⟨⟨c, f⟩, by omega, by omega⟩, by omega, by omega⟩, by omega, by omega⟩, by omega, by omega⟩
theorem spl_of {b : B4} (hb : Fits b) (h : splOk b = true) : (∀ v, spl b 0 v = v) ∧ b.x0 < midX b ∧ b.y0 < midY b ∧ 2 * midX b = b.x0 + b.x1 ∧ 2 * midY b = b.y0 + b.y1 := by
  obtain ⟨a1, a2, a3, a4, a5, a6⟩ := hb
  have k : ∀ v, spl b 0 v = v := fun v => by
    unfold splOk at h; unfold spl
    cases hq : boxOk b
    · rw [hq] at h; cases h
    · rw [hq] at h
      simp only [Bool.not_true, bif_f] at h ⊢
      cases ho : orB (orB (orB (W (b.x1 - b.x0) == 0) (W (b.y1 - b.y0) == 0)) ((W (b.x1 - b.x0)).tmod 2 != 0)) ((W (b.y1 - b.y0)).tmod 2 != 0)
      · rfl
      · rw [ho] at h; cases h
  refine ⟨k, ?_⟩
  unfold splOk at h
  rw [(boxOk_iff b).2 ⟨a1, a2, a3, a4, a5, a6⟩] at h
  rw [W_id (x := b.x1 - b.x0) (by omega) (by omega), W_id (x := b.y1 - b.y0) (by omega) (by omega)] at h
  simp only [Bool.not_true, bif_f, orB_eq] at h
  have h' : ¬ (((b.x1 - b.x0 = 0 ∨ b.y1 - b.y0 = 0) ∨ (b.x1 - b.x0).tmod 2 ≠ 0) ∨ (b.y1 - b.y0).tmod 2 ≠ 0) := by
    intro q
    have : (b.x1 - b.x0 == 0 || b.y1 - b.y0 == 0 || (b.x1 - b.x0).tmod 2 != 0 || (b.y1 - b.y0).tmod 2 != 0) = true := by
      simp only [Bool.or_eq_true, beq_iff_eq, bne_iff_ne]; exact q
    rw [this] at h; cases h
  rw [Int.tmod_eq_emod_of_nonneg (by omega), Int.tmod_eq_emod_of_nonneg (by omega)] at h'
  unfold midX midY
  rw [W_id (x := b.x1 - b.x0) (by omega) (by omega), W_id (x := b.y1 - b.y0) (by omega) (by omega), Int.tdiv_eq_ediv_of_nonneg (by omega), Int.tdiv_eq_ediv_of_nonneg (by omega),
    W_id (x := (b.x1 - b.x0) / 2) (by omega) (by omega), W_id (x := (b.y1 - b.y0) / 2) (by omega) (by omega), W_id (by omega) (by omega), W_id (by omega) (by omega)]
  omega
end Go.Proofs.YthnenjodighlmaaGreat

/-! ## Lin -/
namespace Go.Proofs.YthnenjodighlmaaGreat
open Go Go.RowKit Sym
set_option maxRecDepth 100000

/-- p is in the stroke -/
def lineI (p a c : P2) (r : Int) : Bool :=
  if dotI a c p ≤ 0 then decide (distI p a ≤ r * r) else if dotI a c p ≥ distI a c then decide (distI p c ≤ r * r) else clear p a c r
theorem lineHas_eq {p a c : P2} {r : Int} (hp : PR p) (ha : PR a) (hc : PR c) (h1 : 1 ≤ r) (h2 : r ≤ 2147483648) : lineHas p a c r = lineI p a c r := by
  unfold lineHas lineI
  rw [decide_eq_false (show ¬ r < 1 by omega), bif_f]
  dsimp only
  rw [along_eq hp ha hc, dist2_eq ha hc]
  have e := clear_eq hp ha hc (r := r) (by omega) h2
  rw [dist2_eq ha hc] at e
  rw [e, square_eq (by omega) h2]
  have n1 := near_eq (b := ⟨a.x, a.y, a.x, a.y⟩) ⟨ha.x, ha.y, ha.x, ha.y⟩ hp
  have n2 := near_eq (b := ⟨c.x, c.y, c.x, c.y⟩) ⟨hc.x, hc.y, hc.x, hc.y⟩ hp
  rw [n1.1, n2.1, dist_near, dist_near]
  by_cases k : dotI a c p ≤ 0
  · simp [k]
  · by_cases k' : dotI a c p ≥ distI a c
    · simp [k, k']
    · simp [k, k']
theorem rLineHas_eq {p a c : P2} {r : Int} (hp : PR p) (ha : PR a) (hc : PR c) (h1 : 1 ≤ r) (h2 : r ≤ 2147483648) : rLineHas p a c r = lineI p a c r := by
  unfold rLineHas lineI
  rw [decide_eq_false (show ¬ r < 1 by omega), bif_f]
  rw [rWithin_eq hp ha hc (by omega) h2, (rDot_eq ha hc hp).1, (rDist_eq2 ha hc).1, (rDist_eq2 hp ha).1, (rDist_eq2 hp hc).1, (rsq (r := r) (by omega) h2).1]
  by_cases k : dotI a c p ≤ 0
  · simp [k]
  · by_cases k' : dotI a c p ≥ distI a c
    · simp [k, k']
    · simp [k, k']
def any4 (f : P2 → Bool) (b : B4) : Bool := f ⟨b.x0, b.y0⟩ || f ⟨b.x1, b.y0⟩ || f ⟨b.x0, b.y1⟩ || f ⟨b.x1, b.y1⟩
theorem cnt4_any (f : P2 → Bool) (b : B4) : decide (cnt4 f b > 0) = any4 f b := by
  rw [cnt4_sum]; unfold any4
  cases f ⟨b.x0, b.y0⟩ <;> cases f ⟨b.x1, b.y0⟩ <;> cases f ⟨b.x0, b.y1⟩ <;> cases f ⟨b.x1, b.y1⟩ <;> rfl
theorem cnt4_none (f : P2 → Bool) (b : B4) : (cnt4 f b == 0) = !(any4 f b) := by
  rw [cnt4_sum]; unfold any4
  cases f ⟨b.x0, b.y0⟩ <;> cases f ⟨b.x1, b.y0⟩ <;> cases f ⟨b.x0, b.y1⟩ <;> cases f ⟨b.x1, b.y1⟩ <;> rfl
theorem any4_congr {f g : P2 → Bool} {b : B4} (hb : BR b) (h : ∀ q, PR q → f q = g q) : any4 f b = any4 g b := by
  unfold any4
  rw [h _ ⟨hb.x0, hb.y0⟩, h _ ⟨hb.x1, hb.y0⟩, h _ ⟨hb.x0, hb.y1⟩, h _ ⟨hb.x1, hb.y1⟩]
def lineCl (b : B4) (a c : P2) (r : Int) : Int :=
  if all4 (fun q => lineI q a c r) b then 2 else
  if any4 (fun q => lineI q a c r) b || decide (nearI b a ≤ r * r) || decide (nearI b c ≤ r * r) || meetsI b a c then 1 else 0
theorem lineClass_eq {b : B4} {a c : P2} {r : Int} (hb : BR b) (ha : PR a) (hc : PR c) (hx : b.x0 ≤ b.x1) (hy : b.y0 ≤ b.y1) (h1 : 1 ≤ r) (h2 : r ≤ 2147483648) : lineClass b a c r = lineCl b a c r := by
  unfold lineClass lineCl
  have hh : boxHas b ⟨b.x0, b.y0⟩ = true := (boxHas_eq _ _).2 ⟨by simp, hx, by simp, hy⟩
  rw [hh, decide_eq_false (show ¬ r < 1 by omega)]
  have e1 : all4 (fun p => lineHas p a c r) b = all4 (fun p => lineI p a c r) b := all4_congr hb fun q hq => lineHas_eq hq ha hc h1 h2
  have e2 : any4 (fun p => lineHas p a c r) b = any4 (fun p => lineI p a c r) b := any4_congr hb fun q hq => lineHas_eq hq ha hc h1 h2
  dsimp only
  rw [cnt4_all, cnt4_any, e1, e2, square_eq (by omega) h2, (near_eq hb ha).1, (near_eq hb hc).1, meets_eq hb ha hc hx hy]
  simp only [orB_eq, Bool.not_true, Bool.or_false, bif_f]
  cases all4 (fun p => lineI p a c r) b
  · cases (any4 (fun p => lineI p a c r) b || decide (nearI b a ≤ r * r) || decide (nearI b c ≤ r * r) || meetsI b a c) <;> rfl
  · rfl
/-! ### corners say all of what is linear -/
def isC (b : B4) (c : P2) : Prop := (c.x = b.x0 ∨ c.x = b.x1) ∧ (c.y = b.y0 ∨ c.y = b.y1)
theorem all4_iff {f : P2 → Bool} {b : B4} : all4 f b = true ↔ ∀ c, isC b c → f c = true := by
  unfold all4
  simp only [Bool.and_eq_true]
  constructor
  · rintro ⟨⟨⟨h1, h2⟩, h3⟩, h4⟩ ⟨x, y⟩ ⟨hx, hy⟩
    dsimp only at hx hy
    rcases hx with rfl | rfl <;> rcases hy with rfl | rfl <;> assumption
  · intro h
    exact ⟨⟨⟨h _ ⟨.inl rfl, .inl rfl⟩, h _ ⟨.inr rfl, .inl rfl⟩⟩, h _ ⟨.inl rfl, .inr rfl⟩⟩, h _ ⟨.inr rfl, .inr rfl⟩⟩
theorem any4_iff {f : P2 → Bool} {b : B4} : any4 f b = true ↔ ∃ c, isC b c ∧ f c = true := by
  unfold any4
  simp only [Bool.or_eq_true]
  constructor
  · rintro (((h | h) | h) | h)
    · exact ⟨_, ⟨.inl rfl, .inl rfl⟩, h⟩
    · exact ⟨_, ⟨.inr rfl, .inl rfl⟩, h⟩
    · exact ⟨_, ⟨.inl rfl, .inr rfl⟩, h⟩
    · exact ⟨_, ⟨.inr rfl, .inr rfl⟩, h⟩
  · rintro ⟨⟨x, y⟩, ⟨hx, hy⟩, h⟩
    dsimp only at hx hy
    rcases hx with rfl | rfl <;> rcases hy with rfl | rfl <;> simp [h]
theorem isC_has {b : B4} {c : P2} (hx : b.x0 ≤ b.x1) (hy : b.y0 ≤ b.y1) (h : isC b c) : hasI b c := by
  obtain ⟨h1, h2⟩ := h
  exact ⟨by omega, by omega, by omega, by omega⟩
/-- some corner has at least so much of a linear form -/
theorem corner_ge {b : B4} {q : P2} (u v : Int) (h : hasI b q) : ∃ c, isC b c ∧ u * q.x + v * q.y ≤ u * c.x + v * c.y := by
  obtain ⟨h1, h2, h3, h4⟩ := h
  have one : ∀ u x lo hi : Int, lo ≤ x → x ≤ hi → u * x ≤ u * lo ∨ u * x ≤ u * hi := fun u x lo hi a c => by
    rcases Int.le_total 0 u with k | k
    · right; exact Int.mul_le_mul_of_nonneg_left c k
    · left
      have := Int.mul_nonneg (show 0 ≤ -u by omega) (show 0 ≤ x - lo by omega)
      have e : -u * (x - lo) = u * lo - u * x := by grind
      omega
  rcases one u q.x b.x0 b.x1 h1 h2 with k | k <;> rcases one v q.y b.y0 b.y1 h3 h4 with k' | k'
  · exact ⟨⟨b.x0, b.y0⟩, ⟨.inl rfl, .inl rfl⟩, by dsimp only; omega⟩
  · exact ⟨⟨b.x0, b.y1⟩, ⟨.inl rfl, .inr rfl⟩, by dsimp only; omega⟩
  · exact ⟨⟨b.x1, b.y0⟩, ⟨.inr rfl, .inl rfl⟩, by dsimp only; omega⟩
  · exact ⟨⟨b.x1, b.y1⟩, ⟨.inr rfl, .inr rfl⟩, by dsimp only; omega⟩
theorem cross_lin (a c p : P2) : crossI a c p = -(c.y - a.y) * p.x + (c.x - a.x) * p.y + ((c.y - a.y) * a.x - (c.x - a.x) * a.y) := by unfold crossI; grind
theorem dot_lin (a c p : P2) : dotI a c p = (c.x - a.x) * p.x + (c.y - a.y) * p.y - ((c.x - a.x) * a.x + (c.y - a.y) * a.y) := by unfold dotI; grind
theorem cross_ge {b : B4} {q : P2} (a c : P2) (h : hasI b q) : ∃ k, isC b k ∧ crossI a c q ≤ crossI a c k := by
  obtain ⟨k, hk, hl⟩ := corner_ge (-(c.y - a.y)) (c.x - a.x) h
  exact ⟨k, hk, by rw [cross_lin, cross_lin]; omega⟩
theorem cross_le {b : B4} {q : P2} (a c : P2) (h : hasI b q) : ∃ k, isC b k ∧ crossI a c k ≤ crossI a c q := by
  obtain ⟨k, hk, hl⟩ := corner_ge (c.y - a.y) (-(c.x - a.x)) h
  refine ⟨k, hk, ?_⟩
  rw [cross_lin, cross_lin a c q]
  have e1 : -(c.y - a.y) * q.x = -((c.y - a.y) * q.x) := by grind
  have e2 : -(c.x - a.x) * q.y = -((c.x - a.x) * q.y) := by grind
  have e3 : -(c.y - a.y) * k.x = -((c.y - a.y) * k.x) := by grind
  have e4 : -(c.x - a.x) * k.y = -((c.x - a.x) * k.y) := by grind
  rw [e1, e3]; rw [e2, e4] at hl; omega
theorem dot_ge {b : B4} {q : P2} (a c : P2) (h : hasI b q) : ∃ k, isC b k ∧ dotI a c q ≤ dotI a c k := by
  obtain ⟨k, hk, hl⟩ := corner_ge (c.x - a.x) (c.y - a.y) h
  exact ⟨k, hk, by rw [dot_lin, dot_lin]; omega⟩
theorem dot_le {b : B4} {q : P2} (a c : P2) (h : hasI b q) : ∃ k, isC b k ∧ dotI a c k ≤ dotI a c q := by
  obtain ⟨k, hk, hl⟩ := corner_ge (-(c.x - a.x)) (-(c.y - a.y)) h
  refine ⟨k, hk, ?_⟩
  rw [dot_lin, dot_lin a c q]
  have e1 : -(c.y - a.y) * q.y = -((c.y - a.y) * q.y) := by grind
  have e2 : -(c.x - a.x) * q.x = -((c.x - a.x) * q.x) := by grind
  have e3 : -(c.y - a.y) * k.y = -((c.y - a.y) * k.y) := by grind
  have e4 : -(c.x - a.x) * k.x = -((c.x - a.x) * k.x) := by grind
  rw [e1, e2, e3, e4] at hl; omega
/-- what is clear at the corners is clear within -/
theorem clear_in {b : B4} {q a c : P2} {r : Int} (h : hasI b q) (hk : ∀ k, isC b k → clear k a c r = true) : clear q a c r = true := by
  unfold clear at *
  simp only [decide_eq_true_eq] at *
  rcases Int.le_total 0 (crossI a c q) with s | s
  · obtain ⟨k, hc, hl⟩ := cross_ge a c h
    have := hk k hc
    have := sq_le (x := crossI a c q) (y := crossI a c k) (by omega) hl
    omega
  · obtain ⟨k, hc, hl⟩ := cross_le a c h
    have := hk k hc
    have t := sq_le (x := crossI a c q) (y := -crossI a c k) (by omega) (by omega)
    have e : -crossI a c k * -crossI a c k = crossI a c k * crossI a c k := by grind
    omega
/-- the product of lengths is told by both products -/
theorem lagrange (a c p : P2) : distI a c * distI p a = dotI a c p * dotI a c p + crossI a c p * crossI a c p := by
  unfold distI dotI crossI; grind
theorem lagrange2 (a c p : P2) : distI a c * distI p c = (dotI a c p - distI a c) * (dotI a c p - distI a c) + crossI a c p * crossI a c p := by
  unfold distI dotI crossI; grind
end Go.Proofs.YthnenjodighlmaaGreat

/-! ## Disc -/
namespace Go.Proofs.YthnenjodighlmaaGreat
open Go Go.RowKit Sym
set_option maxRecDepth 100000

theorem pt_BR {p : P2} (h : PR p) : BR ⟨p.x, p.y, p.x, p.y⟩ := ⟨h.x, h.y, h.x, h.y⟩
theorem discHas_eq {p c : P2} {r : Int} (hp : PR p) (hc : PR c) (h1 : 1 ≤ r) (h2 : r ≤ 2147483648) : discHas p c r = decide (distI p c ≤ r * r) := by
  unfold discHas
  rw [decide_eq_false (show ¬ r < 1 by omega), bif_f, (near_eq (pt_BR hc) hp).1, dist_near, square_eq (by omega) h2]
theorem discClass_eq {b : B4} {c : P2} {r : Int} (hb : BR b) (hc : PR c) (hx : b.x0 ≤ b.x1) (hy : b.y0 ≤ b.y1) (h1 : 1 ≤ r) (h2 : r ≤ 2147483648) :
    discClass b c r = if nearI b c > r * r then 0 else if mostI b c ≤ r * r then 2 else 1 := by
  unfold discClass
  have hh : boxHas b ⟨b.x0, b.y0⟩ = true := (boxHas_eq _ _).2 ⟨by simp, hx, by simp, hy⟩
  rw [decide_eq_false (show ¬ r < 1 by omega), hh, (near_eq hb hc).1, (most_eq hb hc).1, square_eq (by omega) h2]
  show (bif decide (nearI b c > r * r) then 0 else bif decide (mostI b c ≤ r * r) then 2 else 1) = _
  by_cases k : nearI b c > r * r
  · rw [decide_eq_true k, if_pos k]; rfl
  · rw [decide_eq_false k, if_neg k, bif_f]
    by_cases k' : mostI b c ≤ r * r
    · rw [decide_eq_true k', if_pos k']; rfl
    · rw [decide_eq_false k', if_neg k']; rfl

/-! ### the reference -/
theorem rDist_eq {p q : P2} (hp : PR p) (hq : PR q) : rDist p q = distI p q := by
  obtain ⟨⟨a, b⟩, c, d⟩ := hp; obtain ⟨⟨e, f⟩, g, h⟩ := hq
  unfold rDist distI
  rw [W_id (x := p.x - q.x) (by omega) (by omega), W_id (x := p.y - q.y) (by omega) (by omega)]
  have k := sq_bd (A := 2147483646) (x := p.x - q.x) (by omega) (by omega)
  have l := sq_bd (A := 2147483646) (x := p.y - q.y) (by omega) (by omega)
  have m : (2147483646 : Int) * 2147483646 = 4611686009837453316 := by decide
  rw [m] at k l
  rw [W_id (x := (p.x - q.x) * (p.x - q.x)) (by omega) (by omega), W_id (x := (p.y - q.y) * (p.y - q.y)) (by omega) (by omega), W_id (by omega) (by omega)]
theorem rDiscHas_eq {p c : P2} {r : Int} (hp : PR p) (hc : PR c) (h1 : 1 ≤ r) (h2 : r ≤ 2147483648) : rDiscHas p c r = decide (distI p c ≤ r * r) := by
  have a := sq_bd (A := 2147483648) (x := r) (by omega) h2
  unfold rDiscHas
  rw [decide_eq_true (show r ≥ 1 by omega), rDist_eq hp hc, W_id (by omega) (by omega)]; rfl
/-! ### DiscFar -/
/-! ### DiscTells -/
end Go.Proofs.YthnenjodighlmaaGreat

/-! ## Bas -/
namespace Go.Proofs.YthnenjodighlmaaGreat
open Go Go.RowKit Sym
set_option maxRecDepth 100000

theorem n10 : W (9 + 1) ≠ 0 := by decide
/-! ### BarParts -/
theorem PR_of {p : P2} {n : Int} (h : (-n ≤ p.x ∧ p.x ≤ n) ∧ (-n ≤ p.y ∧ p.y ≤ n)) (hn : n ≤ 1073741823) : PR p := ⟨⟨by omega, by omega⟩, ⟨by omega, by omega⟩⟩
theorem barCl_two {b : B4} {a c : P2} {h : Int} : barCl b a c h = 2 ↔ (¬ (h < 1 ∨ same a c) ∧ all4 (fun q => barI q a c h) b = true) := by
  unfold barCl
  by_cases k : h < 1 ∨ same a c
  · rw [if_pos k]; simp [k]
  · rw [if_neg k]
    cases all4 (fun q => barI q a c h) b
    · simp [k]; split <;> decide
    · simp [k]
end Go.Proofs.YthnenjodighlmaaGreat

/-! ## Disd -/
namespace Go.Proofs.YthnenjodighlmaaGreat
open Go Go.RowKit Sym
set_option maxRecDepth 100000

/-- four answers, counted -/
theorem cnt4_eq (f : P2 → Bool) (b : B4) : cnt4 f b = (if f ⟨b.x0, b.y0⟩ then 1 else 0) + (if f ⟨b.x1, b.y0⟩ then 1 else 0) + (if f ⟨b.x0, b.y1⟩ then 1 else 0) + (if f ⟨b.x1, b.y1⟩ then 1 else 0) := by
  unfold cnt4
  generalize f ⟨b.x0, b.y0⟩ = p; generalize f ⟨b.x1, b.y0⟩ = q; generalize f ⟨b.x0, b.y1⟩ = r; generalize f ⟨b.x1, b.y1⟩ = s
  cases p <;> cases q <;> cases r <;> cases s <;> decide
theorem cnt4_four (f : P2 → Bool) (b : B4) : cnt4 f b = 4 ↔ (f ⟨b.x0, b.y0⟩ = true ∧ f ⟨b.x1, b.y0⟩ = true ∧ f ⟨b.x0, b.y1⟩ = true ∧ f ⟨b.x1, b.y1⟩ = true) := by
  rw [cnt4_eq]
  generalize f ⟨b.x0, b.y0⟩ = p; generalize f ⟨b.x1, b.y0⟩ = q; generalize f ⟨b.x0, b.y1⟩ = r; generalize f ⟨b.x1, b.y1⟩ = s
  cases p <;> cases q <;> cases r <;> cases s <;> decide
/-- the farthest point of a box is a corner -/
theorem most_corner {b : B4} {p : P2} (hx : b.x0 ≤ b.x1) (hy : b.y0 ≤ b.y1) : mostI b p = max (max (distI ⟨b.x0, b.y0⟩ p) (distI ⟨b.x1, b.y0⟩ p)) (max (distI ⟨b.x0, b.y1⟩ p) (distI ⟨b.x1, b.y1⟩ p)) := by
  have e : ∀ u lo hi : Int, lo ≤ hi → reachI u lo hi * reachI u lo hi = max ((lo - u) * (lo - u)) ((hi - u) * (hi - u)) := fun u lo hi h => by
    have h5 : (reachI u lo hi = -(lo - u) ∧ hi - u ≤ -(lo - u) ∧ lo - u ≤ hi - u) ∨ (reachI u lo hi = hi - u ∧ -(hi - u) ≤ lo - u ∧ lo - u ≤ hi - u) := by unfold reachI; omega
    rcases h5 with ⟨h6, h7, h8⟩ | ⟨h6, h7, h8⟩
    · have := sq_le (x := hi - u) (y := -(lo - u)) (by omega) h7
      have e : -(lo - u) * -(lo - u) = (lo - u) * (lo - u) := by grind
      rw [h6, e]; rw [e] at this; omega
    · have := sq_le h7 h8
      rw [h6]; omega
  unfold distI mostI
  dsimp only
  rw [e _ _ _ hx, e _ _ _ hy]
  omega
/-- the nearest point of a box -/
def nearest (b : B4) (p : P2) : P2 := ⟨min (max p.x b.x0) b.x1, min (max p.y b.y0) b.y1⟩
theorem near_nearest {b : B4} {p : P2} (hx : b.x0 ≤ b.x1) (hy : b.y0 ≤ b.y1) : nearI b p = distI (nearest b p) p := by
  have e : ∀ u lo hi : Int, lo ≤ hi → gapI u lo hi * gapI u lo hi = (min (max u lo) hi - u) * (min (max u lo) hi - u) := fun u lo hi h => by
    have : gapI u lo hi = min (max u lo) hi - u ∨ gapI u lo hi = -(min (max u lo) hi - u) := by unfold gapI; split <;> omega
    rcases this with h | h <;> rw [h]
    grind
  unfold distI nearI nearest
  dsimp only
  rw [e _ _ _ hx, e _ _ _ hy]
theorem distI_comm (p q : P2) : distI p q = distI q p := by unfold distI; grind

/-! ### DiscSure -/
def discSure0 (b : B4) (c : P2) (r x y : Int) : Bool :=
  let p := lIn b x y
  let k := discClass b c r
  let n := cnt4 (fun q => discHas q c r) b
  let z : P2 := ⟨imin (imax c.x b.x0) b.x1, imin (imax c.y b.y0) b.y1⟩
  bif orB (!((k == 2) == (n == 4))) ((k == 0) == discHas z c r) then false else
  andB (andB (andB (andB (orB (k != 2) (discHas p c r)) (orB (k != 0) (!(discHas p c r)))) (decide (k ≥ 0))) (decide (k ≤ 2))) true
theorem PR_of_has {b : B4} {p : P2} (hb : BR b) (h : hasI b p) : PR p := by
  obtain ⟨⟨a1, a2⟩, ⟨a3, a4⟩, ⟨a5, a6⟩, a7, a8⟩ := hb
  obtain ⟨h1, h2, h3, h4⟩ := h
  exact ⟨⟨by omega, by omega⟩, ⟨by omega, by omega⟩⟩
theorem discSure0_true {b : B4} {c : P2} {r : Int} (x y : Int) (hb : BR b) (hc : PR c) (hx : b.x0 ≤ b.x1) (hy : b.y0 ≤ b.y1) (h1 : 1 ≤ r) (h2 : r ≤ 2147483648) : discSure0 b c r x y = true := by
  have hp := (lIn_has x y hb hx hy).1
  have hz : hasI b (nearest b c) := by unfold nearest hasI; dsimp only; omega
  have ez : (⟨imin (imax c.x b.x0) b.x1, imin (imax c.y b.y0) b.y1⟩ : P2) = nearest b c := by simp only [imin_eq, imax_eq]; rfl
  have q1 : hasI b ⟨b.x0, b.y0⟩ := ⟨by simp, hx, by simp, hy⟩
  have q2 : hasI b ⟨b.x1, b.y0⟩ := ⟨hx, by simp, by simp, hy⟩
  have q3 : hasI b ⟨b.x0, b.y1⟩ := ⟨by simp, hx, hy, by simp⟩
  have q4 : hasI b ⟨b.x1, b.y1⟩ := ⟨hx, by simp, hy, by simp⟩
  have hn := cnt4_four (fun q => discHas q c r) b
  try dsimp only at hn
  rw [discHas_eq (PR_of_has hb q1) hc h1 h2, discHas_eq (PR_of_has hb q2) hc h1 h2, discHas_eq (PR_of_has hb q3) hc h1 h2, discHas_eq (PR_of_has hb q4) hc h1 h2] at hn
  simp only [decide_eq_true_eq] at hn
  have hm := most_corner (b := b) (p := c) hx hy
  have hnr := near_nearest (b := b) (p := c) hx hy
  have hpn := near_le (p := c) hp
  have hpm := most_ge (p := c) hp
  rw [distI_comm] at hpn hpm
  have nm := near_le (p := c) q1
  have nm2 := most_ge (p := c) q1
  unfold discSure0
  try dsimp only
  rw [ez, discHas_eq (PR_of_has hb hz) hc h1 h2, discHas_eq (PR_of_has hb hp) hc h1 h2, discClass_eq hb hc hx hy h1 h2]
  generalize cnt4 (fun q => discHas q c r) b = n at hn
  generalize r * r = R at *
  rw [← hnr]
  generalize nearI b c = N at *
  generalize mostI b c = MM at *
  generalize distI (lIn b x y) c = D at *
  by_cases k : N > R
  · have e4 : ¬ n = 4 := fun h => by have := hn.1 h; omega
    have k1 : ¬ N ≤ R := by omega
    have k2 : ¬ D ≤ R := by omega
    simp [k, k1, k2, e4, orB, andB]
  · by_cases k' : MM ≤ R
    · have e4 : n = 4 := hn.2 (by omega)
      have k1 : N ≤ R := by omega
      have k2 : D ≤ R := by omega
      simp [k, k', k1, k2, e4, orB, andB]
    · have e4 : ¬ n = 4 := fun h => by have := hn.1 h; omega
      have k1 : N ≤ R := by omega
      simp [k, k', k1, e4, orB, andB]
/-! ### DiscMoves -/
def mvP (p by_ : P2) : P2 := ⟨W (p.x + by_.x), W (p.y + by_.y)⟩
theorem gapI_neg (v lo hi : Int) (h : lo ≤ hi) : gapI (-v) (-hi) (-lo) = gapI v lo hi := by
  unfold gapI; split
  · split
    · omega
    · split <;> omega
  · split
    · split <;> omega
    · split <;> (try split) <;> omega
end Go.Proofs.YthnenjodighlmaaGreat

/-! ## Bat -/
namespace Go.Proofs.YthnenjodighlmaaGreat
open Go Go.RowKit Sym
set_option maxRecDepth 100000

def barSure0 (b : B4) (a c : P2) (h x y : Int) : Bool :=
  let k := barClass b a c h
  let i := barHas (lIn b x y) a c h
  let n := cnt4 (fun q => barHas q a c h) b
  andB (andB (andB (andB (andB ((k == 2) == (n == 4)) (orB (k != 2) i)) (orB (k != 0) (andB (!i) (n == 0)))) (decide (k ≥ 0))) (decide (k ≤ 2))) true
theorem PR_has {b : B4} {p : P2} (hb : BR b) (h : hasI b p) : PR p := by
  obtain ⟨⟨a1, a2⟩, ⟨a3, a4⟩, ⟨a5, a6⟩, a7, a8⟩ := hb
  obtain ⟨h1, h2, h3, h4⟩ := h
  exact ⟨⟨by omega, by omega⟩, ⟨by omega, by omega⟩⟩
theorem barI_iff {p a c : P2} {h : Int} : barI p a c h = true ↔ ¬ same a c ∧ 1 ≤ h ∧ clear p a c h = true ∧ 0 ≤ dotI a c p ∧ dotI a c p ≤ distI a c := by
  unfold barI
  simp only [Bool.and_eq_true, decide_eq_true_eq, Bool.not_eq_true', decide_eq_false_iff_not, and_assoc]
theorem bar_in {b : B4} {q a c : P2} {h : Int} (hq : hasI b q) (hk : all4 (fun q => barI q a c h) b = true) : barI q a c h = true := by
  rw [all4_iff] at hk
  simp only [barI_iff] at hk ⊢
  obtain ⟨k0, hc0, -⟩ := dot_le a c hq
  have h0 := hk k0 hc0
  refine ⟨h0.1, h0.2.1, clear_in hq fun k hc => (hk k hc).2.2.1, ?_, ?_⟩
  · obtain ⟨k, hc, hl⟩ := dot_le a c hq
    have := (hk k hc).2.2.2.1; omega
  · obtain ⟨k, hc, hl⟩ := dot_ge a c hq
    have := (hk k hc).2.2.2.2; omega
theorem bar_out {b : B4} {q a c : P2} {h : Int} (hq : hasI b q) (hk : barCl b a c h = 0) : barI q a c h = false := by
  cases hi : barI q a c h
  · rfl
  · exfalso
    rw [barI_iff] at hi
    obtain ⟨s, h1, cl, d0, d1⟩ := hi
    unfold barCl at hk
    rw [if_neg (by rintro (x | x); omega; exact s x)] at hk
    cases k2 : all4 (fun q => barI q a c h) b
    · rw [k2] at hk
      simp only [Bool.false_eq_true, if_false] at hk
      have k3 : (all4 (rightI a c h) b || all4 (leftI a c h) b || all4 (fun q => decide (dotI a c q < 0)) b || all4 (fun q => decide (dotI a c q > distI a c)) b) = true := by
        cases e : (all4 (rightI a c h) b || all4 (leftI a c h) b || all4 (fun q => decide (dotI a c q < 0)) b || all4 (fun q => decide (dotI a c q > distI a c)) b)
        · rw [e] at hk; cases hk
        · rfl
      simp only [Bool.or_eq_true, all4_iff] at k3
      unfold clear at cl
      rw [decide_eq_true_eq] at cl
      rcases k3 with ((k3 | k3) | k3) | k3
      · obtain ⟨k, hc, hl⟩ := cross_ge a c hq
        have e := k3 k hc
        unfold rightI clear at e
        simp only [Bool.and_eq_true, Bool.not_eq_true', decide_eq_false_iff_not] at e
        have t := sq_le (x := -crossI a c k) (y := -crossI a c q) (by omega) (by omega)
        have e1 : -crossI a c k * -crossI a c k = crossI a c k * crossI a c k := by grind
        have e2 : -crossI a c q * -crossI a c q = crossI a c q * crossI a c q := by grind
        omega
      · obtain ⟨k, hc, hl⟩ := cross_le a c hq
        have e := k3 k hc
        unfold leftI clear at e
        simp only [Bool.and_eq_true, Bool.not_eq_true', decide_eq_false_iff_not, decide_eq_true_eq] at e
        have t := sq_le (x := crossI a c k) (y := crossI a c q) (by omega) (by omega)
        omega
      · obtain ⟨k, hc, hl⟩ := dot_ge a c hq
        have e := k3 k hc
        simp only [decide_eq_true_eq] at e; omega
      · obtain ⟨k, hc, hl⟩ := dot_le a c hq
        have e := k3 k hc
        simp only [decide_eq_true_eq] at e; omega
    · rw [k2] at hk; simp at hk
theorem barCl_012 (b : B4) (a c : P2) (h : Int) : barCl b a c h = 0 ∨ barCl b a c h = 1 ∨ barCl b a c h = 2 := by
  unfold barCl
  by_cases k : h < 1 ∨ same a c
  · rw [if_pos k]; simp
  · rw [if_neg k]; split
    · simp
    · split <;> simp
theorem barSure0_true {b : B4} {a c : P2} {h : Int} (x y : Int) (hb : BR b) (ha : PR a) (hc : PR c) (hx : b.x0 ≤ b.x1) (hy : b.y0 ≤ b.y1) (h1 : 1 ≤ h) (h2 : h ≤ 2147483648) : barSure0 b a c h x y = true := by
  have hq := (lIn_has x y hb hx hy).1
  have hQ := PR_has hb hq
  unfold barSure0
  dsimp only
  have e1 : all4 (fun q => barHas q a c h) b = all4 (fun q => barI q a c h) b := all4_congr hb fun q hq => barHas_eq hq ha hc h2
  have e2 : any4 (fun q => barHas q a c h) b = any4 (fun q => barI q a c h) b := any4_congr hb fun q hq => barHas_eq hq ha hc h2
  rw [barClass_eq hb ha hc hx hy h2, barHas_eq hQ ha hc h2, cnt4_all, cnt4_none, e1, e2]
  have f1 : (barCl b a c h == 2) = all4 (fun q => barI q a c h) b := by
    rw [Bool.eq_iff_iff, beq_iff_eq, barCl_two]
    constructor
    · exact fun k => k.2
    · intro k
      refine ⟨?_, k⟩
      have := bar_in hq k
      rw [barI_iff] at this
      rintro (z | z)
      · omega
      · exact this.1 z
  have f2 : barCl b a c h = 2 → barI (lIn b x y) a c h = true := fun k => bar_in hq (barCl_two.1 k).2
  have f3 : barCl b a c h = 0 → barI (lIn b x y) a c h = false ∧ any4 (fun q => barI q a c h) b = false := fun k => by
    refine ⟨bar_out hq k, ?_⟩
    cases e : any4 (fun q => barI q a c h) b
    · rfl
    · obtain ⟨q, hqc, hqi⟩ := any4_iff.1 e
      rw [bar_out (isC_has hx hy hqc) k] at hqi; cases hqi
  rw [f1]
  simp only [beq_self_eq_true, andB_eq, orB_eq, Bool.true_and, Bool.and_true]
  rcases barCl_012 b a c h with k | k | k
  · rw [k, (f3 k).1, (f3 k).2]; rfl
  · rw [k]; rfl
  · rw [k, f2 k]; rfl
/-! ### BarLine -/
theorem lineI_bar {p a c : P2} {h : Int} (hs : ¬ same a c) (d0 : 0 ≤ dotI a c p) (d1 : dotI a c p ≤ distI a c) : lineI p a c h = clear p a c h := by
  have n := dist_nn a c
  have nz : distI a c ≠ 0 := fun x => hs ((dist_pos a c).1 x)
  have l1 := lagrange a c p; have l2 := lagrange2 a c p
  unfold lineI clear
  have mono : ∀ u v : Int, (distI a c * u ≤ v * distI a c) ↔ u ≤ v := fun u v => by
    rw [Int.mul_comm v]
    exact Int.mul_le_mul_left (by omega)
  by_cases k : dotI a c p ≤ 0
  · rw [if_pos k]
    have : dotI a c p = 0 := by omega
    rw [this] at l1
    refine decide_eq_decide.2 ?_
    rw [← mono, l1]; simp
  · rw [if_neg k]
    by_cases k' : dotI a c p ≥ distI a c
    · rw [if_pos k']
      have : dotI a c p - distI a c = 0 := by omega
      rw [this] at l2
      refine decide_eq_decide.2 ?_
      rw [← mono, l2]; simp
    · rw [if_neg k']
theorem flips (a c p : P2) : crossI c a p = -crossI a c p ∧ dotI c a p = distI a c - dotI a c p ∧ distI c a = distI a c := by
  unfold crossI dotI distI; refine ⟨?_, ?_, ?_⟩ <;> grind
end Go.Proofs.YthnenjodighlmaaGreat

/-! ## Lio -/
namespace Go.Proofs.YthnenjodighlmaaGreat
open Go Go.RowKit Sym
set_option maxRecDepth 100000

/-- the point at m / n of the segment is near p: the square of the distance is at most R -/
structure Seg (p a c : P2) (R m n : Int) : Prop where
  n0 : 0 < n
  m0 : 0 ≤ m
  mn : m ≤ n
  d : (n * (p.x - a.x) - m * (c.x - a.x)) * (n * (p.x - a.x) - m * (c.x - a.x)) + (n * (p.y - a.y) - m * (c.y - a.y)) * (n * (p.y - a.y) - m * (c.y - a.y)) ≤ n * n * R
def OnS (p a c : P2) (R : Int) : Prop := ∃ m n, Seg p a c R m n
theorem sq_pos {n : Int} (h : 0 < n) : 0 < n * n := Int.mul_pos h h
theorem seg_norm (p a c : P2) (m n : Int) : (n * (p.x - a.x) - m * (c.x - a.x)) * (n * (p.x - a.x) - m * (c.x - a.x)) + (n * (p.y - a.y) - m * (c.y - a.y)) * (n * (p.y - a.y) - m * (c.y - a.y))
    = n * n * distI p a - 2 * (n * m * dotI a c p) + m * m * distI a c := by unfold distI dotI; grind
theorem lineI_iff {p a c : P2} {r : Int} : lineI p a c r = true ↔ OnS p a c (r * r) := by
  have hL := dist_nn a c
  have l1 := lagrange a c p
  have l2 := lagrange2 a c p
  generalize hR : r * r = R
  have hRn : 0 ≤ R := hR ▸ sq_nn r
  unfold lineI clear
  rw [hR]
  constructor
  · intro h
    by_cases k : dotI a c p ≤ 0
    · rw [if_pos k, decide_eq_true_eq] at h
      exact ⟨0, 1, by decide, by decide, by decide, by rw [seg_norm]; omega⟩
    · rw [if_neg k] at h
      by_cases k' : dotI a c p ≥ distI a c
      · rw [if_pos k', decide_eq_true_eq] at h
        refine ⟨1, 1, by decide, by decide, by decide, ?_⟩
        have : (1 * (p.x - a.x) - 1 * (c.x - a.x)) * (1 * (p.x - a.x) - 1 * (c.x - a.x)) + (1 * (p.y - a.y) - 1 * (c.y - a.y)) * (1 * (p.y - a.y) - 1 * (c.y - a.y)) = distI p c := by unfold distI; grind
        omega
      · rw [if_neg k', decide_eq_true_eq] at h
        refine ⟨dotI a c p, distI a c, by omega, by omega, by omega, ?_⟩
        rw [seg_norm]
        have g := Int.mul_le_mul_of_nonneg_left h hL
        clear l2 k k' h
        generalize dotI a c p = T at *
        generalize distI a c = L at *
        generalize crossI a c p = K at *
        generalize distI p a = A at *
        have e1 : L * L * A = L * (T * T + K * K) := by rw [← l1]; grind
        have e2 : L * (T * T + K * K) - 2 * (L * T * T) + T * T * L = L * (K * K) := by grind
        have e3 : L * L * R = L * (R * L) := by grind
        rw [e1, e2, e3]; exact g
  · rintro ⟨m, n, n0, m0, mn, h⟩
    rw [seg_norm] at h
    have hn := sq_pos n0
    by_cases k : dotI a c p ≤ 0
    · rw [if_pos k, decide_eq_true_eq]
      have e1 := Int.mul_nonneg (Int.mul_nonneg (show 0 ≤ n by omega) m0) (show 0 ≤ -dotI a c p by omega)
      have e2 := Int.mul_nonneg (Int.mul_nonneg m0 m0) hL
      have e3 : n * m * -dotI a c p = -(n * m * dotI a c p) := by grind
      exact Int.le_of_mul_le_mul_left (a := n * n) (by omega) hn
    · rw [if_neg k]
      by_cases k' : dotI a c p ≥ distI a c
      · rw [if_pos k', decide_eq_true_eq]
        have e0 : distI p c = distI p a - 2 * dotI a c p + distI a c := by unfold distI dotI; grind
        have e1 := Int.mul_nonneg (Int.mul_nonneg (show 0 ≤ n by omega) (show 0 ≤ n - m by omega)) (show 0 ≤ dotI a c p - distI a c by omega)
        have e2 := Int.mul_nonneg (Int.mul_nonneg (show 0 ≤ n - m by omega) (show 0 ≤ n - m by omega)) hL
        refine Int.le_of_mul_le_mul_left (a := n * n) ?_ hn
        rw [e0]
        generalize distI p a = A at *
        generalize dotI a c p = T at *
        generalize distI a c = L at *
        grind
      · rw [if_neg k', decide_eq_true_eq]
        have e1 := Int.mul_le_mul_of_nonneg_left h hL
        have e2 := sq_nn (n * dotI a c p - m * distI a c)
        refine Int.le_of_mul_le_mul_left (a := n * n) ?_ hn
        generalize dotI a c p = T at *
        generalize distI a c = L at *
        generalize crossI a c p = K at *
        generalize distI p a = A at *
        have e3 : L * (n * n * A - 2 * (n * m * T) + m * m * L) = n * n * (L * A) - 2 * (n * m * (T * L)) + m * m * (L * L) := by grind
        rw [e3, l1] at e1
        have e4 : n * n * (T * T + K * K) - 2 * (n * m * (T * L)) + m * m * (L * L) = (n * T - m * L) * (n * T - m * L) + n * n * (K * K) := by grind
        have e5 : L * (n * n * R) = n * n * (R * L) := by grind
        rw [e4, e5] at e1
        omega

/-! ### strokes are convex -/
theorem conv2 {x1 y1 x2 y2 u v S : Int} (h1 : x1 * x1 + y1 * y1 ≤ S) (h2 : x2 * x2 + y2 * y2 ≤ S) (hu : 0 ≤ u) (hv : 0 ≤ v) :
    (u * x1 + v * x2) * (u * x1 + v * x2) + (u * y1 + v * y2) * (u * y1 + v * y2) ≤ (u + v) * (u + v) * S := by
  have a := Int.mul_le_mul_of_nonneg_left h1 (Int.mul_nonneg hu hu)
  have b := Int.mul_le_mul_of_nonneg_left h2 (Int.mul_nonneg hv hv)
  have c1 := sq_nn (x1 - x2); have c2 := sq_nn (y1 - y2)
  have c : 2 * (x1 * x2 + y1 * y2) ≤ 2 * S := by grind
  have d := Int.mul_le_mul_of_nonneg_left c (Int.mul_nonneg hu hv)
  grind
theorem onS_mix {p q s a c : P2} {R u v : Int} (hp : OnS p a c R) (hq : OnS q a c R) (hu : 0 ≤ u) (hv : 0 ≤ v) (huv : 0 < u + v) (hx : (u + v) * s.x = u * p.x + v * q.x) (hy : (u + v) * s.y = u * p.y + v * q.y) : OnS s a c R := by
  obtain ⟨m1, n1, n10, m10, mn1, d1⟩ := hp
  obtain ⟨m2, n2, n20, m20, mn2, d2⟩ := hq
  refine ⟨u * (n2 * m1) + v * (n1 * m2), n1 * n2 * (u + v), Int.mul_pos (Int.mul_pos n10 n20) huv, ?_, ?_, ?_⟩
  · have := Int.mul_nonneg hu (Int.mul_nonneg (Int.le_of_lt n20) m10)
    have := Int.mul_nonneg hv (Int.mul_nonneg (Int.le_of_lt n10) m20)
    omega
  · have a1 := Int.mul_le_mul_of_nonneg_left (Int.mul_le_mul_of_nonneg_left mn1 (Int.le_of_lt n20)) hu
    have a2 := Int.mul_le_mul_of_nonneg_left (Int.mul_le_mul_of_nonneg_left mn2 (Int.le_of_lt n10)) hv
    have e : n1 * n2 * (u + v) = u * (n2 * n1) + v * (n1 * n2) := by grind
    omega
  · have k1 := Int.mul_le_mul_of_nonneg_left d1 (Int.le_of_lt (sq_pos n20))
    have k2 := Int.mul_le_mul_of_nonneg_left d2 (Int.le_of_lt (sq_pos n10))
    have cv := conv2 (x1 := n2 * (n1 * (p.x - a.x) - m1 * (c.x - a.x))) (y1 := n2 * (n1 * (p.y - a.y) - m1 * (c.y - a.y))) (x2 := n1 * (n2 * (q.x - a.x) - m2 * (c.x - a.x))) (y2 := n1 * (n2 * (q.y - a.y) - m2 * (c.y - a.y))) (S := n1 * n1 * (n2 * n2) * R) (u := u) (v := v) (by grind) (by grind) hu hv
    have ex : n1 * n2 * (u + v) * (s.x - a.x) - (u * (n2 * m1) + v * (n1 * m2)) * (c.x - a.x) = u * (n2 * (n1 * (p.x - a.x) - m1 * (c.x - a.x))) + v * (n1 * (n2 * (q.x - a.x) - m2 * (c.x - a.x))) := by
      have : n1 * n2 * (u + v) * (s.x - a.x) = n1 * n2 * ((u + v) * s.x) - n1 * n2 * (u + v) * a.x := by grind
      rw [this, hx]; grind
    have ey : n1 * n2 * (u + v) * (s.y - a.y) - (u * (n2 * m1) + v * (n1 * m2)) * (c.y - a.y) = u * (n2 * (n1 * (p.y - a.y) - m1 * (c.y - a.y))) + v * (n1 * (n2 * (q.y - a.y) - m2 * (c.y - a.y))) := by
      have : n1 * n2 * (u + v) * (s.y - a.y) = n1 * n2 * ((u + v) * s.y) - n1 * n2 * (u + v) * a.y := by grind
      rw [this, hy]; grind
    rw [ex, ey]
    have er : n1 * n2 * (u + v) * (n1 * n2 * (u + v)) * R = (u + v) * (u + v) * (n1 * n1 * (n2 * n2) * R) := by grind
    rw [er]; exact cv
theorem onS_row {x0 x1 x y : Int} {a c : P2} {R : Int} (h0 : OnS ⟨x0, y⟩ a c R) (h1 : OnS ⟨x1, y⟩ a c R) (hl : x0 ≤ x) (hr : x ≤ x1) : OnS ⟨x, y⟩ a c R := by
  by_cases k : x0 = x1
  · have : x = x0 := by omega
    rw [this]; exact h0
  · exact onS_mix (u := x1 - x) (v := x - x0) h0 h1 (by omega) (by omega) (by omega) (by dsimp only; grind) (by dsimp only; grind)
theorem onS_col {y0 y1 x y : Int} {a c : P2} {R : Int} (h0 : OnS ⟨x, y0⟩ a c R) (h1 : OnS ⟨x, y1⟩ a c R) (hl : y0 ≤ y) (hr : y ≤ y1) : OnS ⟨x, y⟩ a c R := by
  by_cases k : y0 = y1
  · have : y = y0 := by omega
    rw [this]; exact h0
  · exact onS_mix (u := y1 - y) (v := y - y0) h0 h1 (by omega) (by omega) (by omega) (by dsimp only; grind) (by dsimp only; grind)
theorem onS_in {b : B4} {q a c : P2} {R : Int} (hq : hasI b q) (h : ∀ k, isC b k → OnS k a c R) : OnS q a c R := by
  obtain ⟨h1, h2, h3, h4⟩ := hq
  exact onS_col (onS_row (h ⟨b.x0, b.y0⟩ ⟨.inl rfl, .inl rfl⟩) (h ⟨b.x1, b.y0⟩ ⟨.inr rfl, .inl rfl⟩) h1 h2) (onS_row (h ⟨b.x0, b.y1⟩ ⟨.inl rfl, .inr rfl⟩) (h ⟨b.x1, b.y1⟩ ⟨.inr rfl, .inr rfl⟩) h1 h2) h3 h4
theorem line_in {b : B4} {q a c : P2} {r : Int} (hq : hasI b q) (h : all4 (fun q => lineI q a c r) b = true) : lineI q a c r = true := by
  rw [lineI_iff]
  exact onS_in hq fun k hk => lineI_iff.1 (all4_iff.1 h k hk)
theorem onS_flip {p a c : P2} {R : Int} (h : OnS p a c R) : OnS p c a R := by
  obtain ⟨m, n, n0, m0, mn, d⟩ := h
  refine ⟨n - m, n, n0, by omega, by omega, ?_⟩
  have e1 : n * (p.x - c.x) - (n - m) * (a.x - c.x) = n * (p.x - a.x) - m * (c.x - a.x) := by grind
  have e2 : n * (p.y - c.y) - (n - m) * (a.y - c.y) = n * (p.y - a.y) - m * (c.y - a.y) := by grind
  rw [e1, e2]; exact d
theorem lineI_flip (p a c : P2) (r : Int) : lineI p c a r = lineI p a c r := by
  rw [Bool.eq_iff_iff, lineI_iff, lineI_iff]
  exact ⟨onS_flip, onS_flip⟩
/-! ### outside -/
/-- two points of a box, weighed, are no nearer than the box -/
theorem near_mix {b : B4} {p q k : P2} {u v : Int} (hq : hasI b q) (hk : hasI b k) (hu : 0 ≤ u) (hv : 0 ≤ v) :
    (u + v) * (u + v) * nearI b p ≤ (u * (q.x - p.x) + v * (k.x - p.x)) * (u * (q.x - p.x) + v * (k.x - p.x)) + (u * (q.y - p.y) + v * (k.y - p.y)) * (u * (q.y - p.y) + v * (k.y - p.y)) := by
  have one : ∀ w lo hi x y : Int, lo ≤ x → x ≤ hi → lo ≤ y → y ≤ hi → (u + v) * gapI w lo hi * ((u + v) * gapI w lo hi) ≤ (u * (x - w) + v * (y - w)) * (u * (x - w) + v * (y - w)) := fun w lo hi x y a1 a2 a3 a4 => by
    unfold gapI; split
    · rename_i g
      have e1 := Int.mul_le_mul_of_nonneg_left (show lo - w ≤ x - w by omega) hu
      have e2 := Int.mul_le_mul_of_nonneg_left (show lo - w ≤ y - w by omega) hv
      have e3 : (u + v) * (lo - w) = u * (lo - w) + v * (lo - w) := by grind
      have e4 := Int.mul_nonneg (show 0 ≤ u + v by omega) (show 0 ≤ lo - w by omega)
      exact sq_le (by omega) (by omega)
    · split
      · rename_i g
        have e1 := Int.mul_le_mul_of_nonneg_left (show w - hi ≤ w - x by omega) hu
        have e2 := Int.mul_le_mul_of_nonneg_left (show w - hi ≤ w - y by omega) hv
        have e3 : (u + v) * (w - hi) = u * (w - hi) + v * (w - hi) := by grind
        have e4 := Int.mul_nonneg (show 0 ≤ u + v by omega) (show 0 ≤ w - hi by omega)
        have e5 : (u * (x - w) + v * (y - w)) * (u * (x - w) + v * (y - w)) = (u * (w - x) + v * (w - y)) * (u * (w - x) + v * (w - y)) := by grind
        rw [e5]
        exact sq_le (by omega) (by omega)
      · have := sq_nn (u * (x - w) + v * (y - w))
        simpa using this
  obtain ⟨q1, q2, q3, q4⟩ := hq
  obtain ⟨k1, k2, k3, k4⟩ := hk
  have a := one p.x b.x0 b.x1 q.x k.x q1 q2 k1 k2
  have c := one p.y b.y0 b.y1 q.y k.y q3 q4 k3 k4
  unfold nearI
  generalize gapI p.x b.x0 b.x1 = G at *
  generalize gapI p.y b.y0 b.y1 = H at *
  have e : (u + v) * (u + v) * (G * G + H * H) = (u + v) * G * ((u + v) * G) + (u + v) * H * ((u + v) * H) := by grind
  omega
/-- what a box says when a point of it is in the stroke -/
def Told (b : B4) (a c : P2) (R : Int) : Prop := (∃ k, isC b k ∧ OnS k a c R) ∨ nearI b a ≤ R ∨ nearI b c ≤ R
/-- on the one side of the line -/
theorem told_side {b : B4} {q a c : P2} {r : Int} (hx : b.x0 ≤ b.x1) (hy : b.y0 ≤ b.y1) (hq : hasI b q) (hi : lineI q a c r = true) (hs : ∀ k, isC b k → crossI a c k > 0) : Told b a c (r * r) := by
  obtain ⟨k, hk, hl⟩ := cross_le a c hq
  have hk0 := hs k hk
  have hkb := isC_has hx hy hk
  have hL := dist_nn a c
  unfold lineI at hi
  by_cases k1 : dotI a c q ≤ 0
  · rw [if_pos k1, decide_eq_true_eq, distI_comm] at hi
    exact .inr (.inl (Int.le_trans (near_le hq) hi))
  · rw [if_neg k1] at hi
    by_cases k2 : dotI a c q ≥ distI a c
    · rw [if_pos k2, decide_eq_true_eq, distI_comm] at hi
      exact .inr (.inr (Int.le_trans (near_le hq) hi))
    · rw [if_neg k2] at hi
      unfold clear at hi
      rw [decide_eq_true_eq] at hi
      have s : ¬ same a c := fun x => by have := (dist_pos a c).2 x; omega
      have hLp : 0 < distI a c := by omega
      have mix : ∀ (o : P2) (u v : Int), 0 ≤ u → 0 ≤ v → 0 < u + v → (u * (q.x - o.x) + v * (k.x - o.x)) * (c.x - a.x) + (u * (q.y - o.y) + v * (k.y - o.y)) * (c.y - a.y) = 0 →
          (c.x - a.x) * (u * (q.y - o.y) + v * (k.y - o.y)) - (c.y - a.y) * (u * (q.x - o.x) + v * (k.x - o.x)) = u * crossI a c q + v * crossI a c k → nearI b o ≤ r * r := fun o u v hu hv huv hz hc => by
        have n := near_mix (p := o) hq hkb hu hv
        generalize u * (q.x - o.x) + v * (k.x - o.x) = X at *
        generalize u * (q.y - o.y) + v * (k.y - o.y) = Y at *
        have g1 : distI a c * (X * X + Y * Y) = (X * (c.x - a.x) + Y * (c.y - a.y)) * (X * (c.x - a.x) + Y * (c.y - a.y)) + ((c.x - a.x) * Y - (c.y - a.y) * X) * ((c.x - a.x) * Y - (c.y - a.y) * X) := by unfold distI; grind
        rw [hz, hc] at g1
        have g2 : u * crossI a c q + v * crossI a c k ≤ (u + v) * crossI a c q := by
          have := Int.mul_le_mul_of_nonneg_left hl hv
          have e : (u + v) * crossI a c q = u * crossI a c q + v * crossI a c q := by grind
          omega
        have g3 : 0 ≤ u * crossI a c q + v * crossI a c k := by
          have := Int.mul_nonneg hu (show 0 ≤ crossI a c q by omega)
          have := Int.mul_nonneg hv (show 0 ≤ crossI a c k by omega)
          omega
        have g4 := sq_le (x := u * crossI a c q + v * crossI a c k) (y := (u + v) * crossI a c q) (by omega) g2
        have g5 := Int.mul_le_mul_of_nonneg_left hi (Int.le_of_lt (sq_pos huv))
        have g6 : distI a c * (X * X + Y * Y) ≤ distI a c * ((u + v) * (u + v) * (r * r)) := by
          have e1 : (u + v) * crossI a c q * ((u + v) * crossI a c q) = (u + v) * (u + v) * (crossI a c q * crossI a c q) := by grind
          have e2 : (u + v) * (u + v) * (r * r * distI a c) = distI a c * ((u + v) * (u + v) * (r * r)) := by grind
          omega
        have g7 := Int.le_of_mul_le_mul_left g6 hLp
        exact Int.le_of_mul_le_mul_left (a := (u + v) * (u + v)) (by omega) (sq_pos huv)
      by_cases k3 : dotI a c k < 0
      · refine .inr (.inl (mix a (-dotI a c k) (dotI a c q) (by omega) (by omega) (by omega) ?_ ?_))
        · unfold dotI; grind
        · unfold crossI; grind
      · by_cases k4 : dotI a c k > distI a c
        · refine .inr (.inr (mix c (dotI a c k - distI a c) (distI a c - dotI a c q) (by omega) (by omega) (by omega) ?_ ?_))
          · unfold dotI distI; grind
          · unfold crossI; grind
        · refine .inl ⟨k, hk, lineI_iff.1 ?_⟩
          rw [lineI_bar s (by omega) (by omega)]
          unfold clear
          rw [decide_eq_true_eq]
          have := sq_le (x := crossI a c k) (y := crossI a c q) (by omega) hl
          omega
/-- the segment is left of the box, its right end is above it -/
theorem sep_core {ax ay vx vy qx qy X0 Y1 m n R : Int} (hv : 0 ≤ vx) (h1 : ax + vx < X0) (h2 : X0 ≤ qx) (h3 : qy ≤ Y1) (h4 : Y1 < ay + vy) (n0 : 0 < n) (m0 : 0 ≤ m) (mn : m ≤ n)
    (d : (n * (qx - ax) - m * vx) * (n * (qx - ax) - m * vx) + (n * (qy - ay) - m * vy) * (n * (qy - ay) - m * vy) ≤ n * n * R) :
    ∃ m' n', 0 < n' ∧ 0 ≤ m' ∧ m' ≤ n' ∧ (n' * (X0 - ax) - m' * vx) * (n' * (X0 - ax) - m' * vx) + (n' * (Y1 - ay) - m' * vy) * (n' * (Y1 - ay) - m' * vy) ≤ n' * n' * R := by
  have mv : m * vx ≤ n * vx := Int.mul_le_mul_of_nonneg_right mn hv
  have x1 : n * (ax + vx) < n * X0 := Int.mul_lt_mul_of_pos_left h1 n0
  have x2 : n * X0 ≤ n * qx := Int.mul_le_mul_of_nonneg_left h2 (by omega)
  have y2 : n * qy ≤ n * Y1 := Int.mul_le_mul_of_nonneg_left h3 (by omega)
  have ea : n * (ax + vx) = n * ax + n * vx := by grind
  have eb : n * (X0 - ax) = n * X0 - n * ax := by grind
  have ec : n * (qx - ax) = n * qx - n * ax := by grind
  have ed : n * (Y1 - ay) = n * Y1 - n * ay := by grind
  have ee : n * (qy - ay) = n * qy - n * ay := by grind
  have hX0 : 0 ≤ n * (X0 - ax) - m * vx := by omega
  have hX : n * (X0 - ax) - m * vx ≤ n * (qx - ax) - m * vx := by omega
  by_cases k : n * Y1 ≤ n * ay + m * vy
  · refine ⟨m, n, n0, m0, mn, ?_⟩
    have s1 := sq_le (x := n * (X0 - ax) - m * vx) (y := n * (qx - ax) - m * vx) (by omega) hX
    have s2 := sq_le (x := -(n * (Y1 - ay) - m * vy)) (y := -(n * (qy - ay) - m * vy)) (by omega) (by omega)
    have e1 : -(n * (Y1 - ay) - m * vy) * -(n * (Y1 - ay) - m * vy) = (n * (Y1 - ay) - m * vy) * (n * (Y1 - ay) - m * vy) := by grind
    have e2 : -(n * (qy - ay) - m * vy) * -(n * (qy - ay) - m * vy) = (n * (qy - ay) - m * vy) * (n * (qy - ay) - m * vy) := by grind
    omega
  · have y1 : n * Y1 < n * (ay + vy) := Int.mul_lt_mul_of_pos_left h4 n0
    have ef : n * (ay + vy) = n * ay + n * vy := by grind
    have hnm : 0 < (n - m) * vy := by
      have : (n - m) * vy = n * vy - m * vy := by grind
      omega
    have hvy : 0 < vy := by
      rcases Int.lt_or_le 0 vy with g | g
      · exact g
      · have := Int.mul_nonneg (show 0 ≤ n - m by omega) (show 0 ≤ -vy by omega)
        have e : (n - m) * -vy = -((n - m) * vy) := by grind
        omega
    have hmy : 0 ≤ m * vy := Int.mul_nonneg m0 (by omega)
    have hay : ay ≤ Y1 := by
      have : n * ay ≤ n * Y1 := by omega
      exact Int.le_of_mul_le_mul_left this n0
    refine ⟨Y1 - ay, vy, hvy, by omega, by omega, ?_⟩
    have z : vy * (Y1 - ay) - (Y1 - ay) * vy = 0 := by grind
    rw [z]
    have w0 : 0 ≤ vy * (X0 - ax) - (Y1 - ay) * vx := by
      have t1 := Int.mul_le_mul_of_nonneg_right (show Y1 - ay ≤ vy by omega) hv
      have t2 := Int.mul_nonneg (show 0 ≤ vy by omega) (show 0 ≤ X0 - ax - vx by omega)
      have e : vy * (X0 - ax - vx) = vy * (X0 - ax) - vy * vx := by grind
      omega
    have w1 : n * (vy * (X0 - ax) - (Y1 - ay) * vx) ≤ vy * (n * (qx - ax) - m * vx) := by
      have t1 := Int.mul_le_mul_of_nonneg_right (show m * vy ≤ n * (Y1 - ay) by omega) hv
      have t2 := Int.mul_le_mul_of_nonneg_left hX (show 0 ≤ vy by omega)
      have e1 : n * (vy * (X0 - ax) - (Y1 - ay) * vx) = vy * (n * (X0 - ax)) - n * (Y1 - ay) * vx := by grind
      have e2 : vy * (n * (X0 - ax) - m * vx) = vy * (n * (X0 - ax)) - m * vy * vx := by grind
      omega
    have w2 := sq_le (x := n * (vy * (X0 - ax) - (Y1 - ay) * vx)) (y := vy * (n * (qx - ax) - m * vx)) (by have := Int.mul_nonneg (show 0 ≤ n by omega) w0; omega) w1
    have w3 := sq_nn (n * (qy - ay) - m * vy)
    have w4 := Int.mul_le_mul_of_nonneg_left (show (n * (qx - ax) - m * vx) * (n * (qx - ax) - m * vx) ≤ n * n * R by omega) (Int.le_of_lt (sq_pos hvy))
    refine Int.le_of_mul_le_mul_left (a := n * n) ?_ (sq_pos n0)
    generalize vy * (X0 - ax) - (Y1 - ay) * vx = F at *
    generalize n * (qx - ax) - m * vx = G at *
    have e1 : n * F * (n * F) = n * n * (F * F) := by grind
    have e2 : vy * G * (vy * G) = vy * vy * (G * G) := by grind
    have e3 : n * n * (vy * vy * R) = vy * vy * (n * n * R) := by grind
    simp only [Int.mul_zero, Int.add_zero]
    omega
theorem told_left0 {b : B4} {q a c : P2} {R : Int} (hx : b.x0 ≤ b.x1) (hq : hasI b q) (hi : OnS q a c R) (hac : a.x ≤ c.x) (h : c.x < b.x0) : Told b a c R := by
  obtain ⟨m, n, n0, m0, mn, d⟩ := hi
  obtain ⟨q1, q2, q3, q4⟩ := hq
  by_cases k1 : b.y1 < c.y
  · obtain ⟨m', n', a1, a2, a3, a4⟩ := sep_core (vx := c.x - a.x) (vy := c.y - a.y) (X0 := b.x0) (Y1 := b.y1) (by omega) (by omega) q1 q4 (by omega) n0 m0 mn d
    exact .inl ⟨⟨b.x0, b.y1⟩, ⟨.inl rfl, .inr rfl⟩, m', n', a1, a2, a3, a4⟩
  · by_cases k2 : c.y < b.y0
    · have d' : (n * (q.x - a.x) - m * (c.x - a.x)) * (n * (q.x - a.x) - m * (c.x - a.x)) + (n * (-q.y - -a.y) - m * (-(c.y - a.y))) * (n * (-q.y - -a.y) - m * (-(c.y - a.y))) ≤ n * n * R := by
        have e : n * (-q.y - -a.y) - m * (-(c.y - a.y)) = -(n * (q.y - a.y) - m * (c.y - a.y)) := by grind
        rw [e, Int.neg_mul_neg]; exact d
      obtain ⟨m', n', a1, a2, a3, a4⟩ := sep_core (vx := c.x - a.x) (vy := -(c.y - a.y)) (X0 := b.x0) (Y1 := -b.y0) (by omega) (by omega) q1 (by omega) (by omega) n0 m0 mn d'
      refine .inl ⟨⟨b.x0, b.y0⟩, ⟨.inl rfl, .inl rfl⟩, m', n', a1, a2, a3, ?_⟩
      have e : n' * (-b.y0 - -a.y) - m' * (-(c.y - a.y)) = -(n' * (b.y0 - a.y) - m' * (c.y - a.y)) := by grind
      rw [e, Int.neg_mul_neg] at a4
      exact a4
    · refine .inr (.inr ?_)
      have e1 : gapI c.x b.x0 b.x1 = b.x0 - c.x := by unfold gapI; rw [if_pos h]
      have e2 : gapI c.y b.y0 b.y1 = 0 := by unfold gapI; rw [if_neg (by omega), if_neg (by omega)]
      unfold nearI
      rw [e1, e2]
      have t1 := Int.mul_le_mul_of_nonneg_right mn (show 0 ≤ c.x - a.x by omega)
      have t2 := Int.mul_le_mul_of_nonneg_left q1 (show 0 ≤ n by omega)
      have ea : n * (q.x - a.x) = n * q.x - n * a.x := by grind
      have eb : n * (c.x - a.x) = n * c.x - n * a.x := by grind
      have ec : n * (b.x0 - c.x) = n * b.x0 - n * c.x := by grind
      have s := sq_le (x := n * (b.x0 - c.x)) (y := n * (q.x - a.x) - m * (c.x - a.x)) (by have := Int.mul_nonneg (show 0 ≤ n by omega) (show 0 ≤ b.x0 - c.x by omega); omega) (by omega)
      have w := sq_nn (n * (q.y - a.y) - m * (c.y - a.y))
      refine Int.le_of_mul_le_mul_left (a := n * n) ?_ (sq_pos n0)
      have e3 : n * (b.x0 - c.x) * (n * (b.x0 - c.x)) = n * n * ((b.x0 - c.x) * (b.x0 - c.x) + 0 * 0) := by grind
      omega
theorem told_flip {b : B4} {a c : P2} {R : Int} (h : Told b c a R) : Told b a c R := by
  rcases h with ⟨k, hk, hs⟩ | h | h
  · exact .inl ⟨k, hk, onS_flip hs⟩
  · exact .inr (.inr h)
  · exact .inr (.inl h)
theorem told_left {b : B4} {q a c : P2} {R : Int} (hx : b.x0 ≤ b.x1) (hq : hasI b q) (hi : OnS q a c R) (h1 : a.x < b.x0) (h2 : c.x < b.x0) : Told b a c R := by
  rcases Int.le_total a.x c.x with k | k
  · exact told_left0 hx hq hi k h2
  · exact told_flip (told_left0 hx hq (onS_flip hi) k h1)
def ngX (p : P2) : P2 := ⟨-p.x, p.y⟩
def ngB (b : B4) : B4 := ⟨-b.x1, b.y0, -b.x0, b.y1⟩
def swP (p : P2) : P2 := ⟨p.y, p.x⟩
def swB (b : B4) : B4 := ⟨b.y0, b.x0, b.y1, b.x1⟩
theorem onS_ng {p a c : P2} {R : Int} (h : OnS p a c R) : OnS (ngX p) (ngX a) (ngX c) R := by
  obtain ⟨m, n, n0, m0, mn, d⟩ := h
  refine ⟨m, n, n0, m0, mn, ?_⟩
  unfold ngX; dsimp only
  have e : n * (-p.x - -a.x) - m * (-c.x - -a.x) = -(n * (p.x - a.x) - m * (c.x - a.x)) := by grind
  rw [e, Int.neg_mul_neg]; exact d
theorem onS_sw {p a c : P2} {R : Int} (h : OnS p a c R) : OnS (swP p) (swP a) (swP c) R := by
  obtain ⟨m, n, n0, m0, mn, d⟩ := h
  refine ⟨m, n, n0, m0, mn, ?_⟩
  unfold swP; dsimp only; omega
theorem told_ng {b : B4} {a c : P2} {R : Int} (hx : b.x0 ≤ b.x1) (h : Told (ngB b) (ngX a) (ngX c) R) : Told b a c R := by
  have e : ∀ p, nearI (ngB b) (ngX p) = nearI b p := fun p => by unfold nearI ngB ngX; dsimp only; rw [gapI_neg _ _ _ hx]
  rcases h with ⟨k, ⟨h1, h2⟩, hs⟩ | h | h
  · refine .inl ⟨ngX k, ⟨?_, h2⟩, ?_⟩
    · unfold ngX; unfold ngB at h1; dsimp only at *; omega
    · have := onS_ng hs
      unfold ngX at this ⊢; simpa using this
  · rw [e] at h; exact .inr (.inl h)
  · rw [e] at h; exact .inr (.inr h)
theorem told_sw {b : B4} {a c : P2} {R : Int} (h : Told (swB b) (swP a) (swP c) R) : Told b a c R := by
  have e : ∀ p, nearI (swB b) (swP p) = nearI b p := fun p => by unfold nearI swB swP; dsimp only; omega
  rcases h with ⟨k, ⟨h1, h2⟩, hs⟩ | h | h
  · exact .inl ⟨swP k, ⟨h2, h1⟩, onS_sw hs⟩
  · rw [e] at h; exact .inr (.inl h)
  · rw [e] at h; exact .inr (.inr h)
theorem has_ng {b : B4} {q : P2} (h : hasI b q) : hasI (ngB b) (ngX q) := by
  obtain ⟨h1, h2, h3, h4⟩ := h
  exact ⟨by unfold ngB ngX; dsimp only; omega, by unfold ngB ngX; dsimp only; omega, h3, h4⟩
theorem has_sw {b : B4} {q : P2} (h : hasI b q) : hasI (swB b) (swP q) := by
  obtain ⟨h1, h2, h3, h4⟩ := h
  exact ⟨h3, h4, h1, h2⟩
theorem told_right {b : B4} {q a c : P2} {R : Int} (hx : b.x0 ≤ b.x1) (hq : hasI b q) (hi : OnS q a c R) (h1 : b.x1 < a.x) (h2 : b.x1 < c.x) : Told b a c R :=
  told_ng hx (told_left (b := ngB b) (a := ngX a) (c := ngX c) (by unfold ngB; dsimp only; omega) (has_ng hq) (onS_ng hi) (by unfold ngB ngX; dsimp only; omega) (by unfold ngB ngX; dsimp only; omega))
/-- a box of which a point is in the stroke says so -/
theorem told_of {b : B4} {q a c : P2} {r : Int} (hx : b.x0 ≤ b.x1) (hy : b.y0 ≤ b.y1) (hq : hasI b q) (hi : lineI q a c r = true) (hm : meetsI b a c = false) : Told b a c (r * r) := by
  have ho := lineI_iff.1 hi
  unfold meetsI at hm
  cases hs : sepI b a c
  · rw [hs] at hm
    simp only [Bool.not_false, Bool.true_and, Bool.and_eq_false_iff, Bool.not_eq_false'] at hm
    rcases hm with hm | hm
    · exact told_side hx hy hq hi fun k hk => by have := all4_iff.1 hm k hk; simpa using this
    · refine told_flip (told_side hx hy hq (by rw [lineI_flip]; exact hi) fun k hk => ?_)
      have := all4_iff.1 hm k hk
      simp only [decide_eq_true_eq] at this
      rw [(flips a c k).1]; omega
  · unfold sepI at hs
    simp only [Bool.or_eq_true, decide_eq_true_eq] at hs
    rcases hs with ((hs | hs) | hs) | hs
    · exact told_left hx hq ho (by omega) (by omega)
    · exact told_right hx hq ho (by omega) (by omega)
    · exact told_sw (told_left (b := swB b) (a := swP a) (c := swP c) hy (has_sw hq) (onS_sw ho) (by unfold swB swP; dsimp only; omega) (by unfold swB swP; dsimp only; omega))
    · exact told_sw (told_right (b := swB b) (a := swP a) (c := swP c) hy (has_sw hq) (onS_sw ho) (by unfold swB swP; dsimp only; omega) (by unfold swB swP; dsimp only; omega))
theorem line_out {b : B4} {q a c : P2} {r : Int} (hx : b.x0 ≤ b.x1) (hy : b.y0 ≤ b.y1) (hq : hasI b q) (hk : lineCl b a c r = 0) : lineI q a c r = false := by
  cases hi : lineI q a c r
  · rfl
  · exfalso
    unfold lineCl at hk
    cases h4 : all4 (fun q => lineI q a c r) b
    · rw [h4] at hk
      simp only [Bool.false_eq_true, if_false] at hk
      cases hc : (any4 (fun q => lineI q a c r) b || decide (nearI b a ≤ r * r) || decide (nearI b c ≤ r * r) || meetsI b a c)
      · simp only [Bool.or_eq_false_iff, decide_eq_false_iff_not] at hc
        obtain ⟨⟨⟨c1, c2⟩, c3⟩, c4⟩ := hc
        rcases told_of hx hy hq hi c4 with ⟨k, hk, hs⟩ | h | h
        · have : any4 (fun q => lineI q a c r) b = true := any4_iff.2 ⟨k, hk, lineI_iff.2 hs⟩
          rw [this] at c1; cases c1
        · exact c2 h
        · exact c3 h
      · rw [hc] at hk; simp at hk
    · rw [h4] at hk; simp at hk
end Go.Proofs.YthnenjodighlmaaGreat

/-! ## Bau -/
namespace Go.Proofs.YthnenjodighlmaaGreat
open Go Go.RowKit Sym
set_option maxRecDepth 100000

end Go.Proofs.YthnenjodighlmaaGreat

/-! ## Lis -/
namespace Go.Proofs.YthnenjodighlmaaGreat
open Go Go.RowKit Sym
set_option maxRecDepth 100000

theorem all_any {f : P2 → Bool} {b : B4} (h : all4 f b = true) : any4 f b = true := any4_iff.2 ⟨⟨b.x0, b.y0⟩, ⟨.inl rfl, .inl rfl⟩, all4_iff.1 h _ ⟨.inl rfl, .inl rfl⟩⟩
theorem lineCl_012 (b : B4) (a c : P2) (r : Int) : lineCl b a c r = 0 ∨ lineCl b a c r = 1 ∨ lineCl b a c r = 2 := by
  unfold lineCl; split
  · simp
  · split <;> simp
theorem lineCl_two {b : B4} {a c : P2} {r : Int} : lineCl b a c r = 2 ↔ all4 (fun q => lineI q a c r) b = true := by
  unfold lineCl; split
  · simp_all
  · split <;> simp_all
theorem lineCl_hit {b : B4} {a c : P2} {r : Int} : lineCl b a c r ≠ 0 ↔ (any4 (fun q => lineI q a c r) b = true ∨ nearI b a ≤ r * r ∨ nearI b c ≤ r * r ∨ meetsI b a c = true) := by
  unfold lineCl
  split
  · rename_i h
    exact ⟨fun _ => .inl (all_any h), fun _ => by decide⟩
  · split
    · rename_i h
      simp only [Bool.or_eq_true, decide_eq_true_eq, or_assoc] at h
      exact ⟨fun _ => h, fun _ => by decide⟩
    · rename_i h
      simp only [Bool.or_eq_true, decide_eq_true_eq, or_assoc] at h
      exact ⟨fun k => absurd rfl k, fun k => absurd k h⟩
theorem hit_of {b : B4} {q a c : P2} {r : Int} (hx : b.x0 ≤ b.x1) (hy : b.y0 ≤ b.y1) (hq : hasI b q) (hi : lineI q a c r = true) : lineCl b a c r ≠ 0 := fun k => by
  rw [line_out hx hy hq k] at hi; cases hi
/-! ### LineTells -/
/-! ### LineSure -/
def lineSure0 (b : B4) (a c : P2) (h x y : Int) : Bool :=
  let k := lineClass b a c h
  let i := lineHas (lIn b x y) a c h
  let n := cnt4 (fun q => lineHas q a c h) b
  andB (andB (andB (andB (andB ((k == 2) == (n == 4)) (orB (k != 2) i)) (orB (k != 0) (andB (andB (!i) (n == 0)) (!(rMeets b a c))))) (decide (k ≥ 0))) (decide (k ≤ 2))) true
theorem lineSure0_true {b : B4} {a c : P2} {h : Int} (x y : Int) (hb : BR b) (ha : PR a) (hc : PR c) (hx : b.x0 ≤ b.x1) (hy : b.y0 ≤ b.y1) (h1 : 1 ≤ h) (h2 : h ≤ 2147483648) : lineSure0 b a c h x y = true := by
  have hq := (lIn_has x y hb hx hy).1
  have hQ := PR_has hb hq
  unfold lineSure0
  dsimp only
  have e1 : all4 (fun q => lineHas q a c h) b = all4 (fun q => lineI q a c h) b := all4_congr hb fun q hq => lineHas_eq hq ha hc h1 h2
  have e2 : any4 (fun q => lineHas q a c h) b = any4 (fun q => lineI q a c h) b := any4_congr hb fun q hq => lineHas_eq hq ha hc h1 h2
  rw [lineClass_eq hb ha hc hx hy h1 h2, lineHas_eq hQ ha hc h1 h2, cnt4_all, cnt4_none, e1, e2, rMeets_eq hb ha hc]
  have f1 : (lineCl b a c h == 2) = all4 (fun q => lineI q a c h) b := by rw [Bool.eq_iff_iff, beq_iff_eq, lineCl_two]
  have f2 : lineCl b a c h = 2 → lineI (lIn b x y) a c h = true := fun k => line_in hq (lineCl_two.1 k)
  have f3 : lineCl b a c h = 0 → lineI (lIn b x y) a c h = false ∧ any4 (fun q => lineI q a c h) b = false ∧ meetsI b a c = false := fun k => by
    refine ⟨line_out hx hy hq k, ?_, ?_⟩
    · rw [Bool.eq_false_iff]; exact fun e => lineCl_hit.2 (.inl e) k
    · rw [Bool.eq_false_iff]; exact fun e => lineCl_hit.2 (.inr (.inr (.inr e))) k
  rw [f1]
  simp only [beq_self_eq_true, andB_eq, orB_eq, Bool.true_and, Bool.and_true]
  rcases lineCl_012 b a c h with k | k | k
  · rw [k, (f3 k).1, (f3 k).2.1, (f3 k).2.2]; rfl
  · rw [k]; rfl
  · rw [k, f2 k]; rfl
/-! ### LineMeans -/
/-! ### LineThick -/
end Go.Proofs.YthnenjodighlmaaGreat

/-! ## Lit -/
namespace Go.Proofs.YthnenjodighlmaaGreat
open Go Go.RowKit Sym
set_option maxRecDepth 100000

end Go.Proofs.YthnenjodighlmaaGreat

/-! ## Rin -/
namespace Go.Proofs.YthnenjodighlmaaGreat
open Go Go.RowKit Sym
set_option maxRecDepth 100000

/-! ### arcs of the laws -/
def circX (i : Int) : Int :=
  bif decide (i = ((0 : Nat) : Int)) then 5 else bif decide (i = ((1 : Nat) : Int)) then 4 else bif decide (i = ((2 : Nat) : Int)) then 3 else bif decide (i = ((3 : Nat) : Int)) then 0 else bif decide (i = ((4 : Nat) : Int)) then -3 else bif decide (i = ((5 : Nat) : Int)) then -4 else
  bif decide (i = ((6 : Nat) : Int)) then -5 else bif decide (i = ((7 : Nat) : Int)) then -4 else bif decide (i = ((8 : Nat) : Int)) then -3 else bif decide (i = ((9 : Nat) : Int)) then 0 else bif decide (i = ((10 : Nat) : Int)) then 3 else 4
def circY (i : Int) : Int :=
  bif decide (i = ((0 : Nat) : Int)) then 0 else bif decide (i = ((1 : Nat) : Int)) then 3 else bif decide (i = ((2 : Nat) : Int)) then 4 else bif decide (i = ((3 : Nat) : Int)) then 5 else bif decide (i = ((4 : Nat) : Int)) then 4 else bif decide (i = ((5 : Nat) : Int)) then 3 else
  bif decide (i = ((6 : Nat) : Int)) then 0 else bif decide (i = ((7 : Nat) : Int)) then -3 else bif decide (i = ((8 : Nat) : Int)) then -4 else bif decide (i = ((9 : Nat) : Int)) then -5 else bif decide (i = ((10 : Nat) : Int)) then -4 else -3
def arcI (f : Int) : Int := (band f 255).tmod 12
def arcK0 (s : Int) : Int := W (W ((U s).tmod 20000000) + 1)
def arcK1 (s : Int) : Int := W (band (arcK0 s) 3 + 1)
def arcC0 (c : P2) : P2 := lClose c 400000000
def arcC1 (c : P2) : P2 := lClose (arcC0 c) 15
def arcC (c : P2) (sm : Bool) : P2 := ⟨bif sm then (arcC1 c).x else (arcC0 c).x, bif sm then (arcC1 c).y else (arcC0 c).y⟩
def arcAt (c : P2) (f s : Int) (sm : Bool) : P2 :=
  ⟨bif sm then W ((arcC1 c).x + W (arcK1 s * circX (arcI f))) else W ((arcC0 c).x + W (arcK0 s * circX (arcI f))), bif sm then W ((arcC1 c).y + W (arcK1 s * circY (arcI f))) else W ((arcC0 c).y + W (arcK0 s * circY (arcI f)))⟩
theorem band255 (x : Int) : 0 ≤ band x 255 ∧ band x 255 ≤ 255 := by
  have h : (BitVec.ofInt 64 x &&& BitVec.ofInt 64 255).toNat ≤ 255 := by
    rw [BitVec.toNat_and]
    exact Nat.le_trans Nat.and_le_right (by decide)
  unfold band
  rw [W_id (by omega) (by omega)]
  omega
theorem arcI_bd (f : Int) : 0 ≤ arcI f ∧ arcI f < 12 := by
  have a := band255 f
  have b := Int.tmod_nonneg (a := band f 255) 12 a.1
  have c := (tmod_bd (band f 255) (n := 12) (by decide)).2
  unfold arcI; omega
def arcIx (f : Int) : Prop := 0 ≤ arcI f ∧ arcI f < ((12 : Nat) : Int)
theorem n16 : W (15 + 1) ≠ 0 := by decide
theorem n4e8 : W (400000000 + 1) ≠ 0 := by decide
theorem arc_ok (c : P2) (f t s : Int) (sm : Bool) : CallOk Tryz.prog 26 [pt c, vi f, vi t, vi s, vb sm] (.tuple ⟨[pt (arcC c sm), pt (arcAt c f s sm), pt (arcAt c t s sm)]⟩) :=
  fnOkS (fuel := 16) (tbOf_ok tbA_ok) mo Tryz.func26 (by kernel_rfl) (by kernel_rfl) (by kernel_rfl)
    (show _ = [arcIx f, arcIx t, W (400000000 + 1) ≠ 0, sm = true → W (15 + 1) ≠ 0] by kernel_rfl) ⟨arcI_bd f, arcI_bd t, n4e8, fun _ => n16, trivial⟩
/-- what an arc is: a centre, k times two of the points of the circle of 5 -/
structure Circ (u : P2) : Prop where
  x : -5 ≤ u.x ∧ u.x ≤ 5
  y : -5 ≤ u.y ∧ u.y ≤ 5
  n : u.x * u.x + u.y * u.y = 25
def circ (f : Int) : P2 := ⟨circX (arcI f), circY (arcI f)⟩
theorem circ_ok (f : Int) : Circ (circ f) := by
  have h := arcI_bd f
  have : arcI f = 0 ∨ arcI f = 1 ∨ arcI f = 2 ∨ arcI f = 3 ∨ arcI f = 4 ∨ arcI f = 5 ∨ arcI f = 6 ∨ arcI f = 7 ∨ arcI f = 8 ∨ arcI f = 9 ∨ arcI f = 10 ∨ arcI f = 11 := by omega
  unfold circ
  rcases this with h | h | h | h | h | h | h | h | h | h | h | h <;> rw [h] <;> exact ⟨by decide, by decide, by decide⟩
theorem arcK0_bd (s : Int) : 1 ≤ arcK0 s ∧ arcK0 s ≤ 20000000 := by
  have h0 : 0 ≤ U s := by rw [U_eq]; omega
  have a := Int.tmod_nonneg (a := U s) 20000000 h0
  have b := (tmod_bd (U s) (n := 20000000) (by decide)).2
  unfold arcK0
  rw [W_id (x := (U s).tmod 20000000) (by omega) (by omega), W_id (by omega) (by omega)]; omega
theorem arcK1_bd (s : Int) : 1 ≤ arcK1 s ∧ arcK1 s ≤ 4 := by
  have a := band3 (arcK0 s)
  unfold arcK1; rw [W_id (by omega) (by omega)]; omega
def arcK (s : Int) (sm : Bool) : Int := bif sm then arcK1 s else arcK0 s
theorem arcK_bd (s : Int) (sm : Bool) : 1 ≤ arcK s sm ∧ arcK s sm ≤ 20000000 := by
  have a := arcK0_bd s; have b := arcK1_bd s
  cases sm
  · exact a
  · exact ⟨b.1, by show arcK1 s ≤ _; omega⟩
theorem arcC_r (c : P2) (sm : Bool) : (-400000000 ≤ (arcC c sm).x ∧ (arcC c sm).x ≤ 400000000) ∧ (-400000000 ≤ (arcC c sm).y ∧ (arcC c sm).y ≤ 400000000) := by
  have a := lClose_r c (n := 400000000) (by decide) (by decide)
  have b := lClose_r (arcC0 c) (n := 15) (by decide) (by decide)
  cases sm
  · exact a
  · show (_ ≤ (arcC1 c).x ∧ (arcC1 c).x ≤ _) ∧ (_ ≤ (arcC1 c).y ∧ (arcC1 c).y ≤ _)
    unfold arcC1; omega
theorem arcC_s (c : P2) : (-15 ≤ (arcC c true).x ∧ (arcC c true).x ≤ 15) ∧ (-15 ≤ (arcC c true).y ∧ (arcC c true).y ≤ 15) := lClose_r (arcC0 c) (n := 15) (by decide) (by decide)
/-- the point of the arc, without wraps -/
def onC (c : P2) (k : Int) (u : P2) : P2 := ⟨c.x + k * u.x, c.y + k * u.y⟩
theorem arcAt_eq (c : P2) (f s : Int) (sm : Bool) : arcAt c f s sm = onC (arcC c sm) (arcK s sm) (circ f) := by
  have h := circ_ok f
  have kk := arcK_bd s sm
  have cc := arcC_r c sm
  have x := mul_bd (A := 20000000) (B := 5) (x := arcK s sm) (y := (circ f).x) (by omega) (by omega) h.x.1 h.x.2
  have y := mul_bd (A := 20000000) (B := 5) (x := arcK s sm) (y := (circ f).y) (by omega) (by omega) h.y.1 h.y.2
  have e : arcAt c f s sm = ⟨W ((arcC c sm).x + W (arcK s sm * (circ f).x)), W ((arcC c sm).y + W (arcK s sm * (circ f).y))⟩ := by cases sm <;> rfl
  rw [e, W_id (x := arcK s sm * (circ f).x) (by omega) (by omega), W_id (x := arcK s sm * (circ f).y) (by omega) (by omega), W_id (by omega) (by omega), W_id (by omega) (by omega)]
  rfl
theorem onC_r {c : P2} {k : Int} {u : P2} (hc : (-400000000 ≤ c.x ∧ c.x ≤ 400000000) ∧ (-400000000 ≤ c.y ∧ c.y ≤ 400000000)) (hk : 1 ≤ k ∧ k ≤ 20000000) (hu : Circ u) : PR (onC c k u) ∧ distI (onC c k u) c = 25 * (k * k) := by
  have x := mul_bd (A := 20000000) (B := 5) (x := k) (y := u.x) (by omega) (by omega) hu.x.1 hu.x.2
  have y := mul_bd (A := 20000000) (B := 5) (x := k) (y := u.y) (by omega) (by omega) hu.y.1 hu.y.2
  refine ⟨⟨⟨by unfold onC; dsimp only; omega, by unfold onC; dsimp only; omega⟩, ⟨by unfold onC; dsimp only; omega, by unfold onC; dsimp only; omega⟩⟩, ?_⟩
  have e : distI (onC c k u) c = k * k * (u.x * u.x + u.y * u.y) := by unfold distI onC; dsimp only; grind
  rw [e, hu.n]; omega

/-! ### rings -/
def outI (d rr r : Int) : Bool := decide (rr - r * r - d ≤ 0 ∨ (rr - r * r - d) * (rr - r * r - d) ≤ 4 * d * (r * r))
def insI (d rr r : Int) : Bool := decide (d - rr - r * r ≤ 0 ∨ (d - rr - r * r) * (d - rr - r * r) ≤ 4 * rr * (r * r))
theorem outside_eq {d rr r : Int} (h0 : 0 ≤ d) (h1 : d ≤ 4000000000000000000) (h2 : 0 ≤ rr) (h3 : rr ≤ 4000000000000000000) (h4 : 1 ≤ r) (h5 : r ≤ 1073741824) : outside d rr r = outI d rr r := by
  have s := sq_bd (A := 1073741824) (x := r) (by omega) h5
  unfold outside outI
  rw [square_eq (by omega) (by omega), W_id (x := rr - r * r) (by omega) (by omega), W_id (x := rr - r * r - d) (by omega) (by omega), U_id (x := d) (by omega) (by omega), U_id (x := 4 * d) (by omega) (by omega), U_id (x := r * r) (by omega) (by omega)]
  dsimp only
  rw [wle (by omega) (by omega) ⟨by omega, by omega⟩ ⟨by omega, by omega⟩, orB_eq, ← Bool.decide_or]
theorem inside_eq {d rr r : Int} (h0 : 0 ≤ d) (h1 : d ≤ 4000000000000000000) (h2 : 0 ≤ rr) (h3 : rr ≤ 4000000000000000000) (h4 : 1 ≤ r) (h5 : r ≤ 1073741824) : inside d rr r = insI d rr r := by
  have s := sq_bd (A := 1073741824) (x := r) (by omega) h5
  unfold inside insI
  rw [square_eq (by omega) (by omega), W_id (x := d - rr) (by omega) (by omega), W_id (x := d - rr - r * r) (by omega) (by omega), U_id (x := rr) (by omega) (by omega), U_id (x := 4 * rr) (by omega) (by omega), U_id (x := r * r) (by omega) (by omega)]
  dsimp only
  rw [wle (by omega) (by omega) ⟨by omega, by omega⟩ ⟨by omega, by omega⟩, orB_eq, ← Bool.decide_or]
theorem outI_mono {d d' rr r : Int} (h : d ≤ d') (k : outI d rr r = true) : outI d' rr r = true := by
  unfold outI at *
  rw [decide_eq_true_eq] at *
  by_cases z : rr - r * r - d' ≤ 0
  · exact .inl z
  · refine .inr ?_
    rcases k with k | k
    · omega
    · have a := sq_le (x := rr - r * r - d') (y := rr - r * r - d) (by omega) (by omega)
      have b := Int.mul_le_mul_of_nonneg_right (show 4 * d ≤ 4 * d' by omega) (sq_nn r)
      omega
theorem insI_mono {d d' rr r : Int} (h : d' ≤ d) (k : insI d rr r = true) : insI d' rr r = true := by
  unfold insI at *
  rw [decide_eq_true_eq] at *
  by_cases z : d' - rr - r * r ≤ 0
  · exact .inl z
  · refine .inr ?_
    rcases k with k | k
    · omega
    · have a := sq_le (x := d' - rr - r * r) (y := d - rr - r * r) (by omega) (by omega)
      omega
def sectI (p c a e : P2) : Bool :=
  decide (same a e) || (if crossI c a e < 0 then decide (crossI c a p ≥ 0) || decide (crossI c p e ≥ 0) else decide (crossI c a p ≥ 0) && decide (crossI c p e ≥ 0))
theorem sector_eq {p c a e : P2} (hp : PR p) (hc : PR c) (ha : PR a) (he : PR e) : sector p c a e = sectI p c a e := by
  unfold sector sectI ringGreat
  rw [ptEq_eq, (cross_eq hc ha he).1, (cross_eq hc ha hp).1, (cross_eq hc hp he).1, orB_eq, andB_eq]
  by_cases s : same a e
  · simp [s]
  · by_cases k : crossI c a e < 0 <;> simp [s, k]
def okI (c a e : P2) : Prop := distI a c ≠ 0 ∧ distI a c = distI e c
theorem ringOk_eq {c a e : P2} (hc : PR c) (ha : PR a) (he : PR e) : ringOk c a e = true ↔ okI c a e := by
  have e1 := near_eq (b := ⟨c.x, c.y, c.x, c.y⟩) ⟨hc.x, hc.y, hc.x, hc.y⟩ ha
  have e2 := near_eq (b := ⟨c.x, c.y, c.x, c.y⟩) ⟨hc.x, hc.y, hc.x, hc.y⟩ he
  unfold ringOk ringApart okI
  rw [e1.1, e2.1, dist_near, dist_near, andB_eq]
  simp
def ringI (p c a e : P2) (r : Int) : Bool := decide (distI p a ≤ r * r) || decide (distI p e ≤ r * r) || (sectI p c a e && outI (distI p c) (distI a c) r && insI (distI p c) (distI a c) r)
theorem ringHas_eq {p c a e : P2} {r : Int} (hp : PR p) (hc : PR c) (ha : PR a) (he : PR e) (ok : okI c a e) (h4 : 1 ≤ r) (h5 : r ≤ 1073741824) (hd : distI p c ≤ 4000000000000000000) (hr : distI a c ≤ 4000000000000000000) : ringHas p c a e r = ringI p c a e r := by
  have e1 := near_eq (b := ⟨c.x, c.y, c.x, c.y⟩) ⟨hc.x, hc.y, hc.x, hc.y⟩ hp
  have e2 := near_eq (b := ⟨c.x, c.y, c.x, c.y⟩) ⟨hc.x, hc.y, hc.x, hc.y⟩ ha
  unfold ringHas ringI
  rw [(ringOk_eq hc ha he).2 ok, decide_eq_false (show ¬ r < 1 by omega)]
  unfold ringApart
  rw [e1.1, e2.1, dist_near, dist_near, discHas_eq hp ha h4 (by omega), discHas_eq hp he h4 (by omega), sector_eq hp hc ha he, outside_eq (dist_nn _ _) hd (dist_nn _ _) hr h4 h5, inside_eq (dist_nn _ _) hd (dist_nn _ _) hr h4 h5]
  simp only [orB_eq, andB_eq, Bool.not_true, Bool.or_false, bif_f]
  cases (decide (distI p a ≤ r * r) || decide (distI p e ≤ r * r)) <;> rfl
/-- within the sector, off it -/
def liIn (b : B4) (c a e : P2) : Bool := decide (same a e) || (if crossI c a e < 0 then all4 (fun q => decide (crossI c a q ≥ 0)) b || all4 (fun q => decide (crossI c q e ≥ 0)) b else all4 (fun q => decide (crossI c a q ≥ 0)) b && all4 (fun q => decide (crossI c q e ≥ 0)) b)
def liOff (b : B4) (c a e : P2) : Bool := !(decide (same a e)) && (if crossI c a e < 0 then all4 (fun q => decide (crossI c a q < 0)) b && all4 (fun q => decide (crossI c q e < 0)) b else all4 (fun q => decide (crossI c a q < 0)) b || all4 (fun q => decide (crossI c q e < 0)) b)
theorem not_any (f : P2 → Bool) (b : B4) : (!(any4 f b)) = all4 (fun q => !(f q)) b := by
  unfold any4 all4
  dsimp only
  cases f ⟨b.x0, b.y0⟩ <;> cases f ⟨b.x1, b.y0⟩ <;> cases f ⟨b.x0, b.y1⟩ <;> cases f ⟨b.x1, b.y1⟩ <;> rfl
theorem lies_eq {b : B4} {c a e : P2} (hb : BR b) (hc : PR c) (ha : PR a) (he : PR e) : liesIn b c a e = liIn b c a e ∧ liesOff b c a e = liOff b c a e := by
  have u0 : all4 (fun q => !(decide (cross c a q < 0))) b = all4 (fun q => decide (crossI c a q ≥ 0)) b := all4_congr hb fun q hq => by rw [(cross_eq hc ha hq).1, ← decide_not]; exact decide_eq_decide.2 (by omega)
  have v0 : all4 (fun q => !(decide (cross c q e < 0))) b = all4 (fun q => decide (crossI c q e ≥ 0)) b := all4_congr hb fun q hq => by rw [(cross_eq hc hq he).1, ← decide_not]; exact decide_eq_decide.2 (by omega)
  have u4 : all4 (fun q => decide (cross c a q < 0)) b = all4 (fun q => decide (crossI c a q < 0)) b := all4_congr hb fun q hq => by rw [(cross_eq hc ha hq).1]
  have v4 : all4 (fun q => decide (cross c q e < 0)) b = all4 (fun q => decide (crossI c q e < 0)) b := all4_congr hb fun q hq => by rw [(cross_eq hc hq he).1]
  unfold liesIn liesOff liIn liOff ringGreat
  dsimp only
  rw [cnt4_none, cnt4_none, cnt4_all, cnt4_all, not_any, not_any, u0, v0, u4, v4, ptEq_eq, (cross_eq hc ha he).1]
  simp only [orB_eq, andB_eq]
  by_cases s : same a e
  · simp [s]
  · by_cases k : crossI c a e < 0 <;> simp [s, k]
def ringCl (b : B4) (c a e : P2) (r : Int) : Int :=
  if mostI b a ≤ r * r ∨ mostI b e ≤ r * r then 2 else
  if liIn b c a e && outI (nearI b c) (distI a c) r && insI (mostI b c) (distI a c) r then 2 else
  if nearI b a ≤ r * r ∨ nearI b e ≤ r * r then 1 else
  if liOff b c a e || !(insI (nearI b c) (distI a c) r) || !(outI (mostI b c) (distI a c) r) then 0 else 1
theorem near_most {b : B4} {p : P2} (hx : b.x0 ≤ b.x1) (hy : b.y0 ≤ b.y1) : nearI b p ≤ mostI b p := by
  have q1 : hasI b ⟨b.x0, b.y0⟩ := ⟨by simp, hx, by simp, hy⟩
  have := near_le (p := p) q1; have := most_ge (p := p) q1; omega
theorem ringClass_eq {b : B4} {c a e : P2} {r : Int} (hb : BR b) (hc : PR c) (ha : PR a) (he : PR e) (ok : okI c a e) (hx : b.x0 ≤ b.x1) (hy : b.y0 ≤ b.y1) (h4 : 1 ≤ r) (h5 : r ≤ 1073741824) (hd : mostI b c ≤ 4000000000000000000) (hr : distI a c ≤ 4000000000000000000) : ringClass b c a e r = ringCl b c a e r := by
  have e2 := near_eq (b := ⟨c.x, c.y, c.x, c.y⟩) ⟨hc.x, hc.y, hc.x, hc.y⟩ ha
  have hn := near_eq hb hc
  have hm := most_eq hb hc
  have nm := near_most (p := c) hx hy
  have na := near_most (p := a) hx hy
  have ne_ := near_most (p := e) hx hy
  have hh : boxHas b ⟨b.x0, b.y0⟩ = true := (boxHas_eq _ _).2 ⟨by simp, hx, by simp, hy⟩
  unfold ringClass ringCl
  rw [(ringOk_eq hc ha he).2 ok, decide_eq_false (show ¬ r < 1 by omega), hh]
  unfold ringApart
  rw [e2.1, dist_near, hn.1, hm.1, discClass_eq hb ha hx hy h4 (by omega), discClass_eq hb he hx hy h4 (by omega), (lies_eq hb hc ha he).1, (lies_eq hb hc ha he).2,
    outside_eq hn.2.1 (by omega) (dist_nn _ _) hr h4 h5, outside_eq hm.2.1 hd (dist_nn _ _) hr h4 h5, inside_eq hn.2.1 (by omega) (dist_nn _ _) hr h4 h5, inside_eq hm.2.1 hd (dist_nn _ _) hr h4 h5]
  simp only [orB_eq, andB_eq, Bool.not_true, Bool.or_false, bif_f]
  generalize nearI b a = NA at *
  generalize nearI b e = NE at *
  generalize mostI b a = MA at *
  generalize mostI b e = ME at *
  generalize r * r = R at *
  have f1 : ((if NA > R then 0 else if MA ≤ R then 2 else 1 : Int) == 2 || (if NE > R then 0 else if ME ≤ R then 2 else 1 : Int) == 2) = decide (MA ≤ R ∨ ME ≤ R) := by
    rw [Bool.eq_iff_iff]
    simp only [Bool.or_eq_true, beq_iff_eq, decide_eq_true_eq]
    constructor
    · rintro (k | k)
      · split at k
        · cases k
        · split at k
          · left; assumption
          · cases k
      · split at k
        · cases k
        · split at k
          · right; assumption
          · cases k
    · rintro (k | k)
      · left; rw [if_neg (by omega), if_pos k]
      · right; rw [if_neg (by omega), if_pos k]
  have f2 : ((if NA > R then 0 else if MA ≤ R then 2 else 1 : Int) != 0 || (if NE > R then 0 else if ME ≤ R then 2 else 1 : Int) != 0) = decide (NA ≤ R ∨ NE ≤ R) := by
    rw [Bool.eq_iff_iff]
    simp only [Bool.or_eq_true, bne_iff_ne, decide_eq_true_eq]
    constructor
    · rintro (k | k)
      · left; split at k
        · exact absurd rfl k
        · omega
      · right; split at k
        · exact absurd rfl k
        · omega
    · rintro (k | k)
      · left; rw [if_neg (by omega)]; split <;> decide
      · right; rw [if_neg (by omega)]; split <;> decide
  rw [f1, f2]
  by_cases k1 : MA ≤ R ∨ ME ≤ R
  · rw [decide_eq_true k1, if_pos k1]; rfl
  · rw [decide_eq_false k1, if_neg k1, bif_f]
    cases k2 : (liIn b c a e && outI (nearI b c) (distI a c) r && insI (mostI b c) (distI a c) r)
    · simp only [bif_f, Bool.false_eq_true, if_false]
      by_cases k3 : NA ≤ R ∨ NE ≤ R
      · rw [decide_eq_true k3, if_pos k3]; rfl
      · rw [decide_eq_false k3, if_neg k3, bif_f]
        cases (liOff b c a e || !insI (nearI b c) (distI a c) r || !outI (mostI b c) (distI a c) r) <;> rfl
    · rfl
theorem cross_sw (c a q : P2) : crossI c a q = -crossI c q a := by unfold crossI; grind
theorem liIn_has {b : B4} {q c a e : P2} (hq : hasI b q) (h : liIn b c a e = true) : sectI q c a e = true := by
  have u : all4 (fun q => decide (crossI c a q ≥ 0)) b = true → crossI c a q ≥ 0 := fun k => by
    obtain ⟨k', hc, hl⟩ := cross_le c a hq
    have := all4_iff.1 k k' hc
    simp only [decide_eq_true_eq] at this; omega
  have v : all4 (fun q => decide (crossI c q e ≥ 0)) b = true → crossI c q e ≥ 0 := fun k => by
    obtain ⟨k', hc, hl⟩ := cross_ge c e hq
    have := all4_iff.1 k k' hc
    simp only [decide_eq_true_eq] at this
    rw [cross_sw c k' e] at this; rw [cross_sw c q e]; omega
  unfold liIn at h; unfold sectI
  by_cases s : same a e
  · simp [s]
  · by_cases w : crossI c a e < 0
    · simp only [s, w, decide_false, Bool.false_or, if_true, Bool.or_eq_true, decide_eq_true_eq] at *
      rcases h with h | h
      · exact .inl (u h)
      · exact .inr (v h)
    · simp only [s, w, decide_false, Bool.false_or, if_false, Bool.and_eq_true, decide_eq_true_eq] at *
      exact ⟨u h.1, v h.2⟩
theorem liOff_has {b : B4} {q c a e : P2} (hq : hasI b q) (h : liOff b c a e = true) : sectI q c a e = false := by
  have u : all4 (fun q => decide (crossI c a q < 0)) b = true → ¬ crossI c a q ≥ 0 := fun k => by
    obtain ⟨k', hc, hl⟩ := cross_ge c a hq
    have := all4_iff.1 k k' hc
    simp only [decide_eq_true_eq] at this; omega
  have v : all4 (fun q => decide (crossI c q e < 0)) b = true → ¬ crossI c q e ≥ 0 := fun k => by
    obtain ⟨k', hc, hl⟩ := cross_le c e hq
    have := all4_iff.1 k k' hc
    simp only [decide_eq_true_eq] at this
    rw [cross_sw c k' e] at this; rw [cross_sw c q e]; omega
  unfold liOff at h; unfold sectI
  by_cases s : same a e
  · simp [s] at h
  · by_cases w : crossI c a e < 0
    · simp only [s, w, decide_false, Bool.not_false, Bool.true_and, Bool.false_or, if_true, Bool.and_eq_true, Bool.or_eq_false_iff, decide_eq_false_iff_not] at *
      exact ⟨u h.1, v h.2⟩
    · simp only [s, w, decide_false, Bool.not_false, Bool.true_and, Bool.false_or, if_false, Bool.or_eq_true, Bool.and_eq_false_iff, decide_eq_false_iff_not] at *
      rcases h with h | h
      · exact .inl (u h)
      · exact .inr (v h)
theorem ring_in {b : B4} {q c a e : P2} {r : Int} (hq : hasI b q) (h : ringCl b c a e r = 2) : ringI q c a e r = true := by
  have n := near_le (p := c) hq; have m := most_ge (p := c) hq
  have ma := most_ge (p := a) hq; have me := most_ge (p := e) hq
  rw [distI_comm] at n m ma me
  unfold ringCl at h; unfold ringI
  split at h
  · rename_i k
    rcases k with k | k
    · rw [decide_eq_true (show distI q a ≤ r * r by omega)]; rfl
    · rw [decide_eq_true (show distI q e ≤ r * r by omega)]; simp
  · split at h
    · rename_i k
      simp only [Bool.and_eq_true] at k
      rw [liIn_has hq k.1.1, outI_mono n k.1.2, insI_mono m k.2]; simp
    · split at h
      · cases h
      · split at h <;> cases h
theorem ring_out {b : B4} {q c a e : P2} {r : Int} (hq : hasI b q) (h : ringCl b c a e r = 0) : ringI q c a e r = false := by
  have n := near_le (p := c) hq; have m := most_ge (p := c) hq
  have na := near_le (p := a) hq; have ne_ := near_le (p := e) hq
  rw [distI_comm] at n m na ne_
  unfold ringCl at h; unfold ringI
  split at h
  · cases h
  · split at h
    · cases h
    · split at h
      · cases h
      · rename_i k
        split at h
        · rename_i z
          rw [decide_eq_false (show ¬ distI q a ≤ r * r by omega), decide_eq_false (show ¬ distI q e ≤ r * r by omega)]
          simp only [Bool.or_eq_true, Bool.not_eq_true'] at z
          simp only [Bool.false_or, Bool.and_eq_false_iff]
          rcases z with (z | z) | z
          · exact .inl (.inl (liOff_has hq z))
          · refine .inr ?_
            rw [Bool.eq_false_iff] at z ⊢
            exact fun y => z (insI_mono n y)
          · refine .inl (.inr ?_)
            rw [Bool.eq_false_iff] at z ⊢
            exact fun y => z (outI_mono m y)
        · cases h
theorem ringCl_012 (b : B4) (c a e : P2) (r : Int) : ringCl b c a e r = 0 ∨ ringCl b c a e r = 1 ∨ ringCl b c a e r = 2 := by
  unfold ringCl; split
  · simp
  · split
    · simp
    · split
      · simp
      · split <;> simp
def ringSure0 (b : B4) (c a e : P2) (r x y : Int) : Bool :=
  let k := ringClass b c a e r
  let i := ringHas (lIn b x y) c a e r
  andB (andB (andB (andB (orB (k != 2) i) (orB (k != 0) (!i))) (decide (k ≥ 0))) (decide (k ≤ 2))) true
theorem most_far {b : B4} {c : P2} (hx0 : -536870912 ≤ b.x0) (hx : b.x0 ≤ b.x1) (hx1 : b.x1 ≤ 536870912) (hy0 : -536870912 ≤ b.y0) (hy : b.y0 ≤ b.y1) (hy1 : b.y1 ≤ 536870912) (hc : (-400000000 ≤ c.x ∧ c.x ≤ 400000000) ∧ (-400000000 ≤ c.y ∧ c.y ≤ 400000000)) : mostI b c ≤ 4000000000000000000 := by
  have e : ∀ v lo hi : Int, -400000000 ≤ v → v ≤ 400000000 → -536870912 ≤ lo → lo ≤ hi → hi ≤ 536870912 → reachI v lo hi * reachI v lo hi ≤ 1000000000 * 1000000000 := fun v lo hi a b c d f =>
    (sq_bd (A := 1000000000) (by unfold reachI; omega) (by unfold reachI; omega)).2
  have a1 := e c.x b.x0 b.x1 hc.1.1 hc.1.2 hx0 hx hx1
  have a2 := e c.y b.y0 b.y1 hc.2.1 hc.2.2 hy0 hy hy1
  unfold mostI; omega
theorem arc_facts (c : P2) (f s : Int) (sm : Bool) : PR (arcAt c f s sm) ∧ distI (arcAt c f s sm) (arcC c sm) = 25 * (arcK s sm * arcK s sm) ∧ 1 ≤ arcK s sm * arcK s sm ∧ arcK s sm * arcK s sm ≤ 400000000000000 := by
  rw [arcAt_eq]
  have k := arcK_bd s sm
  have o := onC_r (arcC_r c sm) k (circ_ok f)
  have q := sq_bd (A := 20000000) (x := arcK s sm) (by omega) k.2
  have p := Int.mul_pos (show 0 < arcK s sm by omega) (show 0 < arcK s sm by omega)
  exact ⟨o.1, o.2, by omega, by omega⟩
theorem arc_okI (c : P2) (f t s : Int) (sm : Bool) : okI (arcC c sm) (arcAt c f s sm) (arcAt c t s sm) := by
  have a := arc_facts c f s sm; have b := arc_facts c t s sm
  unfold okI; omega
theorem ringSure0_true {b : B4} (c : P2) (f t s : Int) (sm : Bool) {r : Int} (x y : Int) (hb : Fits b) (h4 : 1 ≤ r) (h5 : r ≤ 1073741824) : ringSure0 b (arcC c sm) (arcAt c f s sm) (arcAt c t s sm) r x y = true := by
  have hB : BR b := ⟨⟨by have := hb.x0; omega, by have := hb.x; have := hb.x1; omega⟩, ⟨by have := hb.y0; omega, by have := hb.y; have := hb.y1; omega⟩, ⟨by have := hb.x0; have := hb.x; omega, by have := hb.x1; omega⟩, ⟨by have := hb.y0; have := hb.y; omega, by have := hb.y1; omega⟩⟩
  have hq := (lIn_has x y hB hb.x hb.y).1
  have hQ := PR_has hB hq
  have hc := arcC_r c sm
  have hC : PR (arcC c sm) := PR_of hc (by decide)
  have a := arc_facts c f s sm; have e := arc_facts c t s sm
  have ok := arc_okI c f t s sm
  have mf := most_far hb.x0 hb.x hb.x1 hb.y0 hb.y hb.y1 hc
  have hd := most_ge (p := arcC c sm) hq
  rw [distI_comm] at hd
  unfold ringSure0
  dsimp only
  rw [ringClass_eq hB hC a.1 e.1 ok hb.x hb.y h4 h5 mf (by omega), ringHas_eq hQ hC a.1 e.1 ok h4 h5 (by omega) (by omega)]
  have f2 : ringCl b (arcC c sm) (arcAt c f s sm) (arcAt c t s sm) r = 2 → ringI (lIn b x y) (arcC c sm) (arcAt c f s sm) (arcAt c t s sm) r = true := ring_in hq
  have f0 : ringCl b (arcC c sm) (arcAt c f s sm) (arcAt c t s sm) r = 0 → ringI (lIn b x y) (arcC c sm) (arcAt c f s sm) (arcAt c t s sm) r = false := ring_out hq
  rcases ringCl_012 b (arcC c sm) (arcAt c f s sm) (arcAt c t s sm) r with k | k | k
  · rw [k, f0 k]; rfl
  · rw [k]; rfl
  · rw [k, f2 k]; rfl
end Go.Proofs.YthnenjodighlmaaGreat

/-! ## Tam -/
namespace Go.Proofs.YthnenjodighlmaaGreat
open Go Go.RowKit Sym
set_option maxRecDepth 100000

def tbT : List Entry := (26, en5 dP dI dI dI dB (fun c f t s sm => .tuple ⟨[pt (arcC c sm), pt (arcAt c f s sm), pt (arcAt c t s sm)]⟩)) :: tbF
theorem tbT_ok : ∀ e ∈ tbT, EntryOk Tryz.prog e := List.forall_mem_cons.2 ⟨en5_ok dP_eq dI_eq dI_eq dI_eq dB_eq arc_ok, tbF_ok⟩
def atP (p : P2) (sm : Bool) : P2 := ⟨bif sm then (lClose p 20).x else (lPt p).x, bif sm then (lClose p 20).y else (lPt p).y⟩
def dptB (q : Bool) : Dyn.DV := .one (.ptr [.p (vb q)])
def enPb (F : P2 → Bool → Dyn.RV) : List Dyn.DV → Option (Dyn.RV × List Prop)
  | [.agg [.p (.int .i64 x), .p (.int .i64 y)], .one (.ptr [.p (.bool q)])] => some (F ⟨x, y⟩ q, [])
  | _ => none
theorem enPb_ok {P : Program} {K : Nat} {F : P2 → Bool → Dyn.RV} (h : ∀ x u, Dyn.CallD P K [dvP x, dptB u] (F x u)) : Dyn.EntryDOk P (K, enPb F) := fun args r ps hr hp => by
  dsimp only at hr
  unfold enPb at hr
  split at hr
  · simp only [Option.some.injEq, Prod.mk.injEq] at hr
    obtain ⟨rfl, rfl⟩ := hr
    rename_i x y u
    exact h ⟨x, y⟩ u
  · cases hr
def RV.pt (p : P2) : Dyn.RV := .val (dvP p)
def tabA1 : Dyn.Tabs := Dyn.tabs tbT [] noD noD
theorem tabA1_ok : Dyn.TabsOk Tryz.prog tabA1 := Dyn.tabs_ok tbT_ok (fun _ h => by cases h)
theorem at_O (p : P2) (sm : Bool) : (Dyn.dfun Tryz.prog tabA1 Dyn.noLp 3 Tryz.f24 [dvP p, dptB sm]).ro Tryz.prog Tryz.f24.results = .ite sm (.side [W (20 + 1) ≠ 0] (.leaf (RV.pt (lClose p 20)))) (.leaf (RV.pt (lPt p))) := by kernel_rfl
theorem at_ok (p : P2) (sm : Bool) : Dyn.CallD Tryz.prog 24 [dvP p, dptB sm] (RV.pt (atP p sm)) :=
  Dyn.dcontract (lp := Dyn.noLp) (fuel := 3) (X := tabA1) tabA1_ok mo Tryz.func24 (by kernel_rfl) (c := bodyD Tryz.f24.body) (by kernel_rfl) (fun w0 => Dyn.noLp_ok _ w0)
    (by kernel_rfl) (at_O p sm) ⟨fun h => by subst h; exact ⟨⟨by decide, trivial⟩, ro_leaf rfl⟩, fun h => by subst h; exact ro_leaf rfl⟩
def tdTm (Pd : Sh → Prop) (g : Sh → Bool → Int → Sh) : List Dyn.EntryD := [(24, enPb fun p q => RV.pt (atP p q)), (27, en2D qC qB fun l q => .val (dvC (tameC l q))), (14, en3D (qAnd qS Pd) qB qI fun x q d => .val (dvS (g x q d)))]
def drTm (K : Nat) : Bool := Nat.beq K 14 || Nat.beq K 27
def tabTm (Pd : Sh → Prop) (g : Sh → Bool → Int → Sh) : Dyn.Tabs := Dyn.tabs tbT (tdTm Pd g) drTm dtyS
theorem tabTm_ok {Pd : Sh → Prop} {g : Sh → Bool → Int → Sh} (ih : ∀ x, Pd x → ∀ sm d, Dyn.CallD Tryz.prog 14 [dvS x, dvB sm, dvI d] (.val (dvS (g x sm d)))) : Dyn.TabsOk Tryz.prog (tabTm Pd g) :=
  Dyn.tabs_ok tbT_ok (List.forall_mem_cons.2 ⟨enPb_ok at_ok, List.forall_mem_cons.2 ⟨en2D_ok qC_ok qB_ok fun l q _ _ => tame_ok l q, List.forall_mem_cons.2 ⟨en3D_ok (qAnd_ok qS_ok) qB_ok qI_ok fun x q d h _ _ => ih x h.1 q d, fun _ h => by cases h⟩⟩⟩)
/-! ### what it makes -/
def tmK0 (s : Sh) : Int := W ((W (s.k.tmod 6 + 6)).tmod 6 + 1)
def tmKk (s : Sh) (d : Int) : Int := bif bif decide (d > 5) then tmK0 s == 6 else false then 1 else tmK0 s
def tmR (s : Sh) (sm : Bool) : Int := bif sm then W ((lR s.r).tmod 15 + 1) else lR s.r
def eqP (a b : P2) : Bool := bif a.x == b.x then bif a.y == b.y then true else false else false
def tmB (s : Sh) (sm : Bool) : P2 :=
  bif bif eqP (atP s.a sm) (atP s.b sm) then decide ((atP s.b sm).x > 0) else false then ⟨W ((atP s.b sm).x - 1), (atP s.b sm).y⟩ else bif eqP (atP s.a sm) (atP s.b sm) then ⟨W ((atP s.b sm).x + 1), (atP s.b sm).y⟩ else atP s.b sm
def ze : P2 := ⟨0, 0⟩
def zeC : Ctr := ⟨0, fun _ => 0, fun _ _ => ⟨0, 0⟩⟩
def noF (_ : Nat) : List Dyn.DC := []
def tmN (s : Sh) (d : Int) : Nat := min s.n (imax (W (4 - d)) 1).toNat
def tmF (g : Sh → Bool → Int → Sh) (sh : Nat → Sh) (add : Nat → Bool) (sm : Bool) (d : Int) (i : Nat) : List Dyn.DC := partC (add i) (g (sh i) sm (W (d + 1)))
/-- Tame, by what it makes of parts -/
def tameG (g : Sh → Bool → Int → Sh) (sh : Nat → Sh) (add : Nat → Bool) (s : Sh) (sm : Bool) (d : Int) : Sh :=
  bif tmKk s d == 1 then ⟨tmKk s d, atP s.a sm, ze, ze, tmR s sm, zeC, 0, noF⟩
  else bif bif tmKk s d == 3 then tmKk s d == 3 else tmKk s d == 4 then ⟨tmKk s d, atP s.a sm, tmB s sm, ze, tmR s sm, zeC, 0, noF⟩
  else bif tmKk s d == 5 then ⟨tmKk s d, arcAt s.c (band s.a.x 65535) s.b.x sm, arcAt s.c (band s.a.y 65535) s.b.x sm, arcC s.c sm, tmR s sm, zeC, 0, noF⟩
  else bif tmKk s d == 2 then ⟨tmKk s d, ze, ze, ze, 0, tameC s.l sm, 0, noF⟩
  else ⟨tmKk s d, ze, ze, ze, 0, zeC, tmN s d, tmF g sh add sm d⟩
def tmZ : List Value := [vi 0, vi 0, vi 0, vi 0, vi 0, vi 0, vi 0, vi 0, .slice none 0 0, .slice none 0 0]
def tmO10 (k : Int) (nm n : Nat) : List Value := [vi k, vi 0, vi 0, vi 0, vi 0, vi 0, vi 0, vi 0, .slice none 0 0, .slice (some ⟨nm, 0, some 0⟩) n 0]
def tmS (s : Sh) (sm : Bool) (d i : Int) (n : Nat) (f : Nat → List Dyn.DC) : Dyn.St := mkS 154 [(2, sI d), (3, sL 1), (4, sL 2), (6, sL 3), (8, sL 4), (10, sI i)]
  [some (.deep (cS s)), some (.cells 45 (shV 0 8 s)), some (.cells 4 [vb sm]), some (.cells 45 tmZ), some (.cells 45 (tmO10 (tmKk s d) 5 n)), some (.own 70 n f)]
def tmK : List Nat := [2, 3, 4, 6, 8, 10]
def tmLp (g : Sh → Bool → Int → Sh) (sh : Nat → Sh) (add : Nat → Bool) (s : Sh) (sm : Bool) (d : Int) : Dyn.Lp := fun id st => match id with
  | 1 => some (.side [Dyn.nilCell 4 9 70 (tmF g sh add sm d) (keepA 154 [0, 1, 2] [6, 8] tmK (2 ^ 10) st) = tmS s sm d 0 0 (tmF g sh add sm d)] (.leaf .normal (tmS s sm d (tmN s d : Nat) (tmN s d) (tmF g sh add sm d))))
  | _ => none
def tmBd (Pd : Sh → Prop) (g : Sh → Bool → Int → Sh) (sh : Nat → Sh) (add : Nat → Bool) (s : Sh) (sm : Bool) (d : Int) (i : Nat) : Dyn.Out :=
  .ite (bif decide ((i : Int) < s.n) then decide ((i : Int) < imax (W (4 - d)) 1) else false)
    (.side [0 ≤ (i : Int) ∧ (i : Int) < s.n, 0 ≤ (i : Int) ∧ (i : Int) < s.n, Pd (sh i), ctrSelf (sh i).l, szP 120 i] (.leaf .normal (tmS s sm d (W (i + 1)) (i + 1) (Dyn.appF i (tmF g sh add sm d) (fun _ => tmF g sh add sm d i)))))
    (.leaf (.exit 1) (tmS s sm d i i (tmF g sh add sm d)))
theorem tm_Bd (Pd : Sh → Prop) (g : Sh → Bool → Int → Sh) (k : Int) (a b c : P2) (r : Int) (l : Ctr) (n : Nat) (add : Nat → Bool) (sh : Nat → Sh) (sm : Bool) (d : Int) (i : Nat) :
    (Dyn.lexec Tryz.prog (tabTm Pd g) (tmLp g sh add (mkSh k a b c r l n add sh) sm d) 3 (unloopD (blkD Tryz.f14.body 1)) .leaf (tmS (mkSh k a b c r l n add sh) sm d i i (tmF g sh add sm d))).rl (keepCR 154 [0, 1, 2, 3, 4] [] [(4, 9)] tmK [] []) = tmBd Pd g sh add (mkSh k a b c r l n add sh) sm d i := by kernel_rfl
theorem tm_blocks : blocksL (bodyD Tryz.f14.body) = [(0, blkD Tryz.f14.body 0), (1, .loop (unloopD (blkD Tryz.f14.body 1))), (2, blkD Tryz.f14.body 2)] := by kernel_rfl
theorem tm_b1 : blocksL (unloopD (blkD Tryz.f14.body 1)) = [(2, blkD Tryz.f14.body 2)] := by kernel_rfl
theorem tm_loop {Pd : Sh → Prop} {g : Sh → Bool → Int → Sh} (ih : ∀ x, Pd x → ∀ sm d, Dyn.CallD Tryz.prog 14 [dvS x, dvB sm, dvI d] (.val (dvS (g x sm d)))) (k : Int) (a b c : P2) (r : Int) (l : Ctr) (n : Nat) (add : Nat → Bool) (sh : Nat → Sh) (hn : n ≤ 1000000000) (hP : ∀ i, i < n → Pd (sh i)) (sm : Bool) (d : Int) (w0 : Dyn.Base Tryz.prog) (st : Dyn.St) (o : Dyn.Out)
    (h : tmLp g sh add (mkSh k a b c r l n add sh) sm d 1 st = some o) : Dyn.BlockSound Tryz.prog w0 1 (.loop (unloopD (blkD Tryz.f14.body 1))) st o := by
  simp only [tmLp, Option.some.injEq] at h
  subst h
  refine side_one fun hS => ?_
  have hN : tmN (mkSh k a b c r l n add sh) d = min n (imax (W (4 - d)) 1).toNat := rfl
  have hM : 1 ≤ imax (W (4 - d)) 1 := by unfold imax; split <;> omega
  refine fold_block (fuel := 3) (tabTm_ok ih) mo (lp := tmLp g sh add (mkSh k a b c r l n add sh) sm d) (by rw [tm_b1]; exact lpOk_cons (fun s o h => by cases h) lpOk_nil) (fun i (_ : Unit) => tmS (mkSh k a b c r l n add sh) sm d i i (tmF g sh add sm d)) (tmN (mkSh k a b c r l n add sh) d) (fun _ _ => ()) () (keepCR 154 [0, 1, 2, 3, 4] [] [(4, 9)] tmK [] []) (keepCR_ent 154 _ _ _ _ _ _) (fun i _ => tmBd Pd g sh add (mkSh k a b c r l n add sh) sm d i) (fun i _ => tm_Bd Pd g k a b c r l n add sh sm d i) (fun i hi => ?_) ?_ (hS ▸ (keepA_ent 154 _ _ _ _ st).trans (Dyn.Ent.nilCell (P := Tryz.prog) (k := 10) (by kernel_rfl) _ _))
  · rw [hN] at hi
    refine ⟨fun _ => ⟨⟨⟨by omega, by show (i : Int) < (n : Int); omega⟩, ⟨by omega, by show (i : Int) < (n : Int); omega⟩, hP i (by omega), ctrSelf_ok _, szP_ok (by decide) (by omega), trivial⟩, rfl, ?_⟩, fun hf => ?_⟩
    · rw [Wn1 (show i < n by omega) hn]
      exact ⟨rfl, Dyn.HeLe.refl _, Dyn.HeLe.refl _, Dyn.HeLe.refl _, Dyn.HeLe.refl _, Dyn.HeLe.refl _, le_app rfl, trivial⟩
    · rw [Bool.eq_false_iff] at hf
      exact absurd (and_iff.2 ⟨show (i : Int) < (n : Int) by omega, by omega⟩) hf
  · refine ⟨fun ht => ?_, fun _ => ⟨rfl, Dyn.Fits.refl _⟩⟩
    have ht := and_iff.1 ht
    have h1 : ((tmN (mkSh k a b c r l n add sh) d : Nat) : Int) < (n : Int) := ht.1
    have h2 := ht.2
    rw [hN] at h1 h2
    omega
def rvT (k : Int) (a b c : P2) (r : Int) (L : Dyn.DC) (n : Nat) (f : Nat → List Dyn.DC) : Dyn.RV := .val (.agg [cI k, cI a.x, cI a.y, cI b.x, cI b.y, cI c.x, cI c.y, cI r, L, .row n f])
def nilR : Dyn.DC := .row 0 noF
def tmRk (g : Sh → Bool → Int → Sh) (sh : Nat → Sh) (add : Nat → Bool) (s : Sh) (sm : Bool) (d r : Int) : Dyn.RO :=
  .ite (tmKk s d == 1) (.leaf (rvT (tmKk s d) (atP s.a sm) ze ze r nilR 0 noF))
  (.ite (bif tmKk s d == 3 then tmKk s d == 3 else tmKk s d == 4)
    (.ite (bif eqP (atP s.a sm) (atP s.b sm) then decide ((atP s.b sm).x > 0) else false) (.leaf (rvT (tmKk s d) (atP s.a sm) ⟨W ((atP s.b sm).x - 1), (atP s.b sm).y⟩ ze r nilR 0 noF))
      (.ite (eqP (atP s.a sm) (atP s.b sm)) (.leaf (rvT (tmKk s d) (atP s.a sm) ⟨W ((atP s.b sm).x + 1), (atP s.b sm).y⟩ ze r nilR 0 noF)) (.leaf (rvT (tmKk s d) (atP s.a sm) (atP s.b sm) ze r nilR 0 noF))))
  (.ite (tmKk s d == 5) (.leaf (rvT (tmKk s d) (arcAt s.c (band s.a.x 65535) s.b.x sm) (arcAt s.c (band s.a.y 65535) s.b.x sm) (arcC s.c sm) r nilR 0 noF))
  (.ite (tmKk s d == 2) (.side [ctrSelf s.l] (.leaf (rvT (tmKk s d) ze ze ze 0 (cCtr (tameC s.l sm)) 0 noF)))
  (.side [tmS s sm d 0 0 (tmF g sh add sm d) = tmS s sm d 0 0 (tmF g sh add sm d)] (.leaf (rvT (tmKk s d) ze ze ze 0 nilR (tmN s d) (tmF g sh add sm d)))))))
theorem tm_O (Pd : Sh → Prop) (g : Sh → Bool → Int → Sh) (sh : Nat → Sh) (add : Nat → Bool) (s : Sh) (sm : Bool) (d : Int) : (Dyn.dfun Tryz.prog (tabTm Pd g) (tmLp g sh add s sm d) 3 Tryz.f14 [dvS s, dvB sm, dvI d]).ro Tryz.prog Tryz.f14.results = .ite sm (tmRk g sh add s sm d (W ((lR s.r).tmod 15 + 1))) (tmRk g sh add s sm d (lR s.r)) := by kernel_rfl
theorem rvT_le {k : Int} {a b c : P2} {r : Int} {L : Dyn.DC} {n : Nat} {f : Nat → List Dyn.DC} {x : Sh} (hk : x.k = k) (ha : x.a = a) (hb : x.b = b) (hc : x.c = c) (hr : x.r = r) (hL : Dyn.DCLe L (cCtr x.l)) (hn : n = x.n) (hf : ∀ i, i < n → f i = x.f i) : (Dyn.RO.leaf (rvT k a b c r L n f)).sat fun q => Dyn.RVLe q (.val (dvS x)) := by
  subst hk; subst ha; subst hb; subst hc; subst hr
  exact ⟨rfl, rfl, rfl, rfl, rfl, rfl, rfl, rfl, hL, ⟨hn, hf⟩, trivial⟩
theorem nilR_le : Dyn.DCLe nilR (cCtr zeC) := ⟨rfl, fun i hi => by omega⟩
theorem tm_satk (g : Sh → Bool → Int → Sh) (sh : Nat → Sh) (add : Nat → Bool) (s : Sh) (sm : Bool) (d : Int) : (tmRk g sh add s sm d (tmR s sm)).sat fun r => Dyn.RVLe r (.val (dvS (tameG g sh add s sm d))) := by
  unfold tameG
  refine ⟨fun h => ?_, fun h => ⟨fun h2 => ⟨fun h3 => ?_, fun h3 => ⟨fun h4 => ?_, fun h4 => ?_⟩⟩, fun h2 => ⟨fun h3 => ?_, fun h3 => ⟨fun h4 => ⟨⟨ctrSelf_ok _, trivial⟩, ?_⟩, fun h4 => ⟨⟨rfl, trivial⟩, ?_⟩⟩⟩⟩⟩
  · rw [h]; exact rvT_le rfl rfl rfl rfl rfl nilR_le rfl fun _ _ => rfl
  · rw [h, h2]; exact rvT_le rfl rfl (by show tmB s sm = _; unfold tmB; rw [h3]; rfl) rfl rfl nilR_le rfl fun _ _ => rfl
  · rw [h, h2]; exact rvT_le rfl rfl (by show tmB s sm = _; unfold tmB; rw [h3, h4]; rfl) rfl rfl nilR_le rfl fun _ _ => rfl
  · rw [h, h2]; exact rvT_le rfl rfl (by show tmB s sm = _; unfold tmB; rw [h3, h4]; rfl) rfl rfl nilR_le rfl fun _ _ => rfl
  · rw [h, h2, h3]; exact rvT_le rfl rfl rfl rfl rfl nilR_le rfl fun _ _ => rfl
  · rw [h, h2, h3, h4]; exact rvT_le rfl rfl rfl rfl rfl (Dyn.DCLe.refl _) rfl fun _ _ => rfl
  · rw [h, h2, h3, h4]; exact rvT_le rfl rfl rfl rfl rfl nilR_le rfl fun _ _ => rfl
theorem tame_lvl {Pd : Sh → Prop} {g : Sh → Bool → Int → Sh} (ih : ∀ x, Pd x → ∀ sm d, Dyn.CallD Tryz.prog 14 [dvS x, dvB sm, dvI d] (.val (dvS (g x sm d)))) (k : Int) (a b c : P2) (r : Int) (l : Ctr) (n : Nat) (add : Nat → Bool) (sh : Nat → Sh) (hn : n ≤ 1000000000) (hP : ∀ i, i < n → Pd (sh i)) (sm : Bool) (d : Int) :
    Dyn.CallD Tryz.prog 14 [dvS (mkSh k a b c r l n add sh), dvB sm, dvI d] (.val (dvS (tameG g sh add (mkSh k a b c r l n add sh) sm d))) :=
  Dyn.dcontract (lp := tmLp g sh add (mkSh k a b c r l n add sh) sm d) (fuel := 3) (tabTm_ok ih) mo Tryz.func14 (by kernel_rfl) (c := bodyD Tryz.f14.body) (by kernel_rfl)
    (fun w0 => by rw [tm_blocks]; exact lpOk_cons (fun s o h => by cases h) (lpOk_cons (tm_loop ih k a b c r l n add sh hn hP sm d w0) (lpOk_cons (fun s o h => by cases h) lpOk_nil)))
    (by kernel_rfl) (tm_O Pd g sh add _ sm d) (by
      cases sm
      · exact ⟨fun h => (by cases h), fun _ => tm_satk g sh add _ false d⟩
      · exact ⟨fun _ => tm_satk g sh add _ true d, fun h => (by cases h)⟩)
theorem CallD_rle {P : Program} {K : Nat} {args : List Dyn.DV} {r r' : Dyn.RV} (h : Dyn.RVLe r r') (k : Dyn.CallD P K args r) : Dyn.CallD P K args r' := fun w F us hF hd => by
  have := k w F us hF hd
  split at this
  · rename_i u w' hr
    exact ⟨Dyn.DenR_le h this.1, this.2⟩
  · rename_i f as' w' hr
    refine ⟨this.1, this.2.mono fun e w'' he => ?_⟩
    obtain ⟨u, h1, h2, h3⟩ := he
    exact ⟨u, h1, Dyn.DenR_le h h2, h3⟩
  · exact this.elim
/-- a shape without parts -/
def leafS (k : Int) (a b c : P2) (r : Int) (l : Ctr) : Shp := .mk k a b c r l 0 (fun _ => false) (fun _ => .nil)
def tameS : Shp → Bool → Int → Shp
  | .nil, _, _ => .nil
  | .mk k a b c r l n add sub, sm, d =>
    let s : Sh := ⟨k, a, b, c, r, l, n, noF⟩
    bif tmKk s d == 1 then leafS (tmKk s d) (atP a sm) ze ze (tmR s sm) zeC
    else bif bif tmKk s d == 3 then tmKk s d == 3 else tmKk s d == 4 then leafS (tmKk s d) (atP a sm) (tmB s sm) ze (tmR s sm) zeC
    else bif tmKk s d == 5 then leafS (tmKk s d) (arcAt c (band a.x 65535) b.x sm) (arcAt c (band a.y 65535) b.x sm) (arcC c sm) (tmR s sm) zeC
    else bif tmKk s d == 2 then leafS (tmKk s d) ze ze ze 0 (tameC l sm)
    else .mk (tmKk s d) ze ze ze 0 zeC (tmN s d) add (fun i => tameS (sub i) sm (W (d + 1)))
noncomputable def tameE (x : Sh) (sm : Bool) (d : Int) : Sh := toSh (tameS (ofSh x) sm d)
theorem tameE_eq (s : Shp) (sm : Bool) (d : Int) : tameE (toSh s) sm d = toSh (tameS s sm d) := by unfold tameE; rw [ofSh_toSh]
theorem dvS_leaf (k : Int) (a b c : P2) (r : Int) (l : Ctr) : Dyn.DVLe (dvS ⟨k, a, b, c, r, l, 0, noF⟩) (dvS (toSh (leafS k a b c r l))) := ⟨rfl, rfl, rfl, rfl, rfl, rfl, rfl, rfl, Dyn.DCLe.refl _, ⟨rfl, fun i hi => absurd hi (Nat.not_lt_zero _)⟩, trivial⟩
theorem tm_pick {K : Int} (D1 D2 D3 D4 D5 : Sh) (E1 E2 E3 E4 E5 : Shp) (h1 : Dyn.DVLe (dvS D1) (dvS (toSh E1))) (h2 : Dyn.DVLe (dvS D2) (dvS (toSh E2))) (h3 : Dyn.DVLe (dvS D3) (dvS (toSh E3))) (h4 : Dyn.DVLe (dvS D4) (dvS (toSh E4))) (h5 : Dyn.DVLe (dvS D5) (dvS (toSh E5))) :
    Dyn.DVLe (dvS (bif K == 1 then D1 else bif bif K == 3 then K == 3 else K == 4 then D2 else bif K == 5 then D3 else bif K == 2 then D4 else D5)) (dvS (toSh (bif K == 1 then E1 else bif bif K == 3 then K == 3 else K == 4 then E2 else bif K == 5 then E3 else bif K == 2 then E4 else E5))) := by
  cases K == 1
  · cases (bif K == 3 then K == 3 else K == 4)
    · cases K == 5
      · cases K == 2
        · exact h5
        · exact h4
      · exact h3
    · exact h2
  · exact h1
theorem tameS_lvl (k : Int) (a b c : P2) (r : Int) (l : Ctr) (n : Nat) (add : Nat → Bool) (sub : Nat → Shp) (sm : Bool) (d : Int) :
    Dyn.DVLe (dvS (tameG tameE (fun i => toSh (sub i)) add (mkSh k a b c r l n add (fun i => toSh (sub i))) sm d)) (dvS (toSh (tameS (.mk k a b c r l n add sub) sm d))) := by
  refine tm_pick (K := tmKk ⟨k, a, b, c, r, l, n, noF⟩ d) _ _ _ _ _ _ _ _ _ _ (dvS_leaf _ _ _ _ _ _) (dvS_leaf _ _ _ _ _ _) (dvS_leaf _ _ _ _ _ _) (dvS_leaf _ _ _ _ _ _) ?_
  refine ⟨rfl, rfl, rfl, rfl, rfl, rfl, rfl, rfl, Dyn.DCLe.refl _, ⟨rfl, fun i hi => ?_⟩, trivial⟩
  show partC (add i) (tameE (toSh (sub i)) sm (W (d + 1))) = partC (add i) (toSh (tameS (sub i) sm (W (d + 1))))
  rw [tameE_eq]
theorem tameE_ok : ∀ s : Shp, ShB s → ∀ sm d, Dyn.CallD Tryz.prog 14 [dvS (toSh s), dvB sm, dvI d] (.val (dvS (tameE (toSh s) sm d))) := by
  intro s
  induction s with
  | nil => intro h; exact h.elim
  | mk k a b c r l n add sub ih =>
    intro h sm d
    rw [tameE_eq]
    refine CallD_rle (r := .val (dvS (tameG tameE (fun i => toSh (sub i)) add (mkSh k a b c r l n add (fun i => toSh (sub i))) sm d))) (tameS_lvl k a b c r l n add sub sm d) ?_
    exact tame_lvl (Pd := fun x => ∃ i, i < n ∧ x = toSh (sub i)) (fun x hx => by
      obtain ⟨i, hi, rfl⟩ := hx
      exact ih i (h.2.2 i hi)) k a b c r l n add (fun i => toSh (sub i)) h.2.1 (fun i hi => ⟨i, hi, rfl⟩) sm d
theorem tame_all : ∀ x, PdS x → ∀ sm d, Dyn.CallD Tryz.prog 14 [dvS x, dvB sm, dvI d] (.val (dvS (tameE x sm d))) := fun x hx sm d => by
  have k := tameE_ok _ hx.1 sm d
  rw [show tameE (toSh (ofSh x)) sm d = tameE x sm d by unfold tameE; rw [ofSh_toSh]] at k
  exact CallD_le (args := dvS (toSh (ofSh x)) :: [dvB sm, dvI d]) ⟨SLe.dv hx.2, Dyn.DVLe.refl _, Dyn.DVLe.refl _, trivial⟩ k
end Go.Proofs.YthnenjodighlmaaGreat

/-! ## Sam -/
namespace Go.Proofs.YthnenjodighlmaaGreat
open Go Go.RowKit Sym
set_option maxRecDepth 100000

end Go.Proofs.YthnenjodighlmaaGreat

/-! ## San -/
namespace Go.Proofs.YthnenjodighlmaaGreat
open Go Go.RowKit Sym
set_option maxRecDepth 100000

end Go.Proofs.YthnenjodighlmaaGreat

/-! ## Tua -/
namespace Go.Proofs.YthnenjodighlmaaGreat
open Go Go.RowKit Sym
set_option maxRecDepth 100000

def zl (b : Bool) : List Dyn.DC → List Dyn.DC → List Dyn.DC
  | a :: us, z :: zs => (bif b then a else z) :: zl b us zs
  | _, _ => []
/-- a row being filled: i of its elements are made -/
def fil (F : Nat → List Dyn.DC) (z : List Dyn.DC) (i : Nat) : Nat → List Dyn.DC := fun j => zl (Nat.blt j i) (F j) z
end Go.Proofs.YthnenjodighlmaaGreat

/-! ## Tub -/
namespace Go.Proofs.YthnenjodighlmaaGreat
open Go Go.RowKit Sym
set_option maxRecDepth 100000

theorem CtrB_ze : CtrB zeC := ⟨by decide, fun i hi => absurd hi (Nat.not_lt_zero i)⟩
/-- no shape -/
def noS : Shp := leafS 0 ze ze ze 0 zeC
def zeroRV : Dyn.RV := .tup [.agg [cI 0, cI 0, cI 0, cI 0, cI 0, cI 0, cI 0, cI 0, nilR, nilR], dvB false]
theorem zero_le : Dyn.RVLe zeroRV (.tup [dvS (toSh noS), dvB false]) := ⟨⟨rfl, rfl, rfl, rfl, rfl, rfl, rfl, rfl, nilR_le, ⟨rfl, fun i hi => absurd hi (Nat.not_lt_zero _)⟩, trivial⟩, rfl, trivial⟩
end Go.Proofs.YthnenjodighlmaaGreat

/-! ## Roe -/
namespace Go.Proofs.YthnenjodighlmaaGreat
open Go Go.ChangeShapes Go.WideShapes Go.ChangeAt Go.RowKit Go.Joins Go.Deep
set_option maxRecDepth 100000

section
variable {H : Type} {enc : TypeId × Value → H} {P : Program} {w : World} {base : Nat} {spare : Nat → Bool} {held : Bool}
theorem ctr_den {fuel : Nat} {x : DataW H × List MemPlace} {t e2 e : TypeId} {f0 f1 : Field} {v : Value} (ht : P.underlying t = some (.slice e2)) (hc2 : P.cellsOf e2 = 1) (ht2 : P.underlying e2 = some (.slice e)) (he : P.underlying e = some (.struct #[f0, f1]))
    (ce : P.cellsOf e = 2) (o0 : f0.offset = 0) (o1 : f1.offset = 1) (c0 : P.cellsOf f0.type = 1) (c1 : P.cellsOf f1.type = 1) (k0 : P.underlying f0.type = some (.int .i64)) (k1 : P.underlying f1.type = some (.int .i64))
    (hf : DataW.trod enc P w base spare held fuel t [v] = some x) : ∃ l : Ctr, Dyn.DenC w (fun b => b < w.heap.size) (cCtr l) v := by
  rcases open_slice1 ht hc2 hf with ⟨h, _⟩ | ⟨a', len', cap', m, n, V, D, Pl, h, hb, hl, hcap, hm, hx, hall⟩
  · simp only [List.cons.injEq, and_true] at h
    rw [h]
    exact ⟨⟨0, fun _ => 0, fun _ _ => ⟨0, 0⟩⟩, .nil _ none 0⟩
  · simp only [List.cons.injEq, and_true] at h
    rw [h]
    have hlm : len' ≤ m := by rw [hm]; split <;> omega
    by_cases hz : len' = 0
    · subst hz
      exact ⟨⟨0, fun _ => 0, fun _ _ => ⟨0, 0⟩⟩, .nil _ (some a') cap'⟩
    · have h0 := (hall 0 (by omega)).1
      obtain ⟨hlt, hsp⟩ := addr_cell h0
      have hsp := hsp rfl
      obtain ⟨b, off, sp⟩ := a'
      dsimp only at hsp
      subst hsp
      simp only [addr_add] at hall hlt
      haveI : Inhabited (Nat × (Nat → P2)) := ⟨0, fun _ => ⟨0, 0⟩⟩
      obtain ⟨g, hg⟩ := choose_lt (α := Nat × (Nat → P2)) (n := len') (p := fun i q => Dyn.DenC w (fun b => b < w.heap.size) (cRow q.1 q.2) (V i)) (fun i hi => by
        obtain ⟨q, p, hq⟩ := row_P ht2 he ce o0 o1 c0 c1 k0 k1 (hall i (by omega)).2
        exact ⟨(q, p), hq⟩)
      refine ⟨⟨len', fun i => (g i).1, fun i => (g i).2⟩, .row len' _ b off cap' 1 (fun i _ => V i) hl hlt (fun i hi => ⟨rfl, fun j hj => ?_⟩) (fun i j hi hj => ?_)⟩
      · obtain rfl : j = 0 := by omega
        rw [Nat.mul_one, Nat.add_zero]; exact (hall i (by omega)).1
      · obtain rfl : j = 0 := by omega
        exact hg i hi
theorem pt_den {F : Nat → Prop} {fuel : Nat} {x : DataW H × List MemPlace} {t : TypeId} {f0 f1 : Field} {u v : Value} (ht : P.underlying t = some (.struct #[f0, f1])) (o0 : f0.offset = 0) (o1 : f1.offset = 1) (c0 : P.cellsOf f0.type = 1) (c1 : P.cellsOf f1.type = 1) (k0 : P.underlying f0.type = some (.int .i64)) (k1 : P.underlying f1.type = some (.int .i64))
    (hf : DataW.trod enc P w base spare held fuel t [u, v] = some x) : ∃ p : P2, u = vi p.x ∧ v = vi p.y ∧ Dyn.DenC w F (cI p.x) u ∧ Dyn.DenC w F (cI p.y) v := by
  obtain ⟨y0, y1, n, _, _, h0, h1⟩ := trod_struct2 ht hf
  rw [o0, c0] at h0
  rw [o1, c1] at h1
  obtain ⟨x0, e0, _⟩ := DataW.trod_int k0 h0
  obtain ⟨x1, e1, _⟩ := DataW.trod_int k1 h1
  simp only [List.drop_zero, List.take_succ_cons, List.take_zero, List.cons.injEq, and_true, List.drop_succ_cons] at e0 e1
  subst e0; subst e1
  exact ⟨⟨x0, x1⟩, rfl, rfl, .p _ rfl, .p _ rfl⟩
theorem DenL_get {F : Nat → Prop} : ∀ {ds : List Dyn.DC} {us : List Value} {j : Nat}, Dyn.DenL w F ds us → j < us.length → Dyn.DenC w F (ds.getD j default) (us.getD j default)
  | [], [], _, _, h => absurd h (Nat.not_lt_zero _)
  | d :: ds, u :: us, 0, h, _ => h.1
  | d :: ds, u :: us, j + 1, h, hj => DenL_get (ds := ds) (us := us) (j := j) h.2 (Nat.lt_of_succ_lt_succ hj)
/-- what the types of a shape are -/
structure ShT (P : Program) (tS tK tP tR tL tL1 tQ tE tB tI : TypeId) : Prop where
  s : ∃ f0 f1 f2 f3 f4 f5 f6 : Field, P.underlying tS = some (.struct #[f0, f1, f2, f3, f4, f5, f6]) ∧ (f0.type = tK ∧ f1.type = tP ∧ f2.type = tP ∧ f3.type = tP ∧ f4.type = tR ∧ f5.type = tL ∧ f6.type = tQ) ∧ f0.offset = 0 ∧ f1.offset = 1 ∧ f2.offset = 3 ∧ f3.offset = 5 ∧ f4.offset = 7 ∧ f5.offset = 8 ∧ f6.offset = 9
  sc : P.cellsOf tS = 10
  kc : P.cellsOf tK = 1
  pc : P.cellsOf tP = 2
  rc : P.cellsOf tR = 1
  lc : P.cellsOf tL = 1
  qc : P.cellsOf tQ = 1
  k : P.underlying tK = some (.int .i64)
  r : P.underlying tR = some (.int .i64)
  p : ∃ g0 g1 : Field, P.underlying tP = some (.struct #[g0, g1]) ∧ g0.offset = 0 ∧ g1.offset = 1 ∧ g0.type = tI ∧ g1.type = tI
  ic : P.cellsOf tI = 1
  i : P.underlying tI = some (.int .i64)
  l : P.underlying tL = some (.slice tL1)
  l1c : P.cellsOf tL1 = 1
  l1 : P.underlying tL1 = some (.slice tP)
  q : P.underlying tQ = some (.slice tE)
  ec : P.cellsOf tE = 11
  e : ∃ h0 h1 : Field, P.underlying tE = some (.struct #[h0, h1]) ∧ h0.offset = 0 ∧ h1.offset = 1 ∧ h0.type = tB ∧ h1.type = tS
  bc : P.cellsOf tB = 1
  b : P.underlying tB = some .bool
theorem shape_den {tS tK tP tR tL tL1 tQ tE tB tI : TypeId} (T : ShT P tS tK tP tR tL tL1 tQ tE tB tI) : ∀ (fuel : Nat) (cs : List Value) (x : DataW H × List MemPlace), DataW.trod enc P w base spare held fuel tS cs = some x →
    ∃ s : Shp, ShW s ∧ Dyn.DenL w (fun b => b < w.heap.size) (cS (toSh s)) cs := by
  intro fuel
  induction fuel using Nat.strongRecOn with
  | _ fuel ih =>
    intro cs x hx
    obtain ⟨f0, f1, f2, f3, f4, f5, f6, hs, ⟨t0, t1, t2, t3, t4, t5, t6⟩, o0, o1, o2, o3, o4, o5, o6⟩ := T.s
    obtain ⟨g0, g1, hp, p0, p1, q0, q1⟩ := T.p
    obtain ⟨h0, h1, he, a0, a1, b0, b1⟩ := T.e
    obtain ⟨xs, n, rfl, _, hl, hlen, hf⟩ := DataW.trod_struct hs hx
    rw [T.sc] at hl
    obtain ⟨v0, v1, v2, v3, v4, v5, v6, v7, v8, v9, rfl⟩ : ∃ v0 v1 v2 v3 v4 v5 v6 v7 v8 v9 : Value, cs = [v0, v1, v2, v3, v4, v5, v6, v7, v8, v9] := by
      match cs, hl with
      | [v0, v1, v2, v3, v4, v5, v6, v7, v8, v9], _ => exact ⟨v0, v1, v2, v3, v4, v5, v6, v7, v8, v9, rfl⟩
    have hxl : xs.length = 7 := hlen
    have get : ∀ i, i < 7 → ∃ y, xs[i]? = some y := fun i hi => ⟨xs[i], List.getElem?_eq_getElem (by omega)⟩
    obtain ⟨y0, e0⟩ := get 0 (by decide)
    obtain ⟨y1, e1⟩ := get 1 (by decide)
    obtain ⟨y2, e2⟩ := get 2 (by decide)
    obtain ⟨y3, e3⟩ := get 3 (by decide)
    obtain ⟨y4, e4⟩ := get 4 (by decide)
    obtain ⟨y5, e5⟩ := get 5 (by decide)
    obtain ⟨y6, e6⟩ := get 6 (by decide)
    have k0 := hf 0 f0 rfl
    have k1 := hf 1 f1 rfl
    have k2 := hf 2 f2 rfl
    have k3 := hf 3 f3 rfl
    have k4 := hf 4 f4 rfl
    have k5 := hf 5 f5 rfl
    have k6 := hf 6 f6 rfl
    rw [e0, t0, o0, T.kc] at k0
    rw [e1, t1, o1, T.pc] at k1
    rw [e2, t2, o2, T.pc] at k2
    rw [e3, t3, o3, T.pc] at k3
    rw [e4, t4, o4, T.rc] at k4
    rw [e5, t5, o5, T.lc] at k5
    rw [e6, t6, o6, T.qc] at k6
    simp only [List.drop_zero, List.take_succ_cons, List.take_zero, List.drop_succ_cons] at k0 k1 k2 k3 k4 k5 k6
    obtain ⟨z0, r0, _⟩ := DataW.trod_int T.k k0
    obtain ⟨z4, r4, _⟩ := DataW.trod_int T.r k4
    simp only [List.cons.injEq, and_true] at r0 r4
    subst r0; subst r4
    obtain ⟨pa, _, _, a1', a2'⟩ := pt_den (F := fun b => b < w.heap.size) hp p0 p1 (by rw [q0]; exact T.ic) (by rw [q1]; exact T.ic) (by rw [q0]; exact T.i) (by rw [q1]; exact T.i) k1
    obtain ⟨pb, _, _, b1', b2'⟩ := pt_den (F := fun b => b < w.heap.size) hp p0 p1 (by rw [q0]; exact T.ic) (by rw [q1]; exact T.ic) (by rw [q0]; exact T.i) (by rw [q1]; exact T.i) k2
    obtain ⟨pc, _, _, c1', c2'⟩ := pt_den (F := fun b => b < w.heap.size) hp p0 p1 (by rw [q0]; exact T.ic) (by rw [q1]; exact T.ic) (by rw [q0]; exact T.i) (by rw [q1]; exact T.i) k3
    obtain ⟨l, hL⟩ := ctr_den T.l T.l1c T.l1 hp T.pc p0 p1 (by rw [q0]; exact T.ic) (by rw [q1]; exact T.ic) (by rw [q0]; exact T.i) (by rw [q1]; exact T.i) k5
    have parts : ∃ (m : Nat) (add : Nat → Bool) (sub : Nat → Shp), (∀ i, i < m → ShW (sub i)) ∧ Dyn.DenC w (fun b => b < w.heap.size) (.row m fun i => partC (add i) (toSh (sub i))) v9 := by
      rcases DataW.trod_slice T.q k6 with ⟨hv, _⟩ | ⟨a, len, cap, elems, rest, m, rfl, hv, _, hb, hle, _, hel, hall, _⟩
      · simp only [List.cons.injEq, and_true] at hv
        subst hv
        exact ⟨0, fun _ => false, fun _ => .nil, fun i hi => absurd hi (Nat.not_lt_zero i), .nil _ none 0⟩
      · simp only [List.cons.injEq, and_true] at hv
        subst hv
        have part : ∀ i, i < len → ∃ q : (Bool × Shp) × (Nat → Value), ShW q.1.2 ∧ (∀ j, j < 11 → w.cell? ((a.add (i * 11)).add j) = some (q.2 j)) ∧ (∀ j, j < 11 → Dyn.DenC w (fun b => b < w.heap.size) ((partC q.1.1 (toSh q.1.2)).getD j default) (q.2 j)) := fun i hi => by
          have key := hall i hi
          rw [T.ec, List.getElem?_eq_getElem (by omega)] at key
          obtain ⟨cs', h1', h2'⟩ := Option.bind_eq_some_iff.1 key
          obtain ⟨_, hlen', hcell⟩ := World.cells?_some h1'
          obtain ⟨ys, n', rfl, _, _, hyl, hfy⟩ := DataW.trod_struct he h2'
          have hyl : ys.length = 2 := hyl
          have m0 := hfy 0 h0 rfl
          have m1 := hfy 1 h1 rfl
          rw [List.getElem?_eq_getElem (by omega), b0, a0, T.bc] at m0
          rw [List.getElem?_eq_getElem (by omega), b1, a1, T.sc] at m1
          obtain ⟨c, cs'', rfl⟩ : ∃ c cs'', cs' = c :: cs'' := by
            match cs', hlen' with
            | c :: cs'', _ => exact ⟨c, cs'', rfl⟩
          simp only [List.drop_zero, List.take_succ_cons, List.take_zero, List.drop_succ_cons] at m0 m1
          rw [List.take_of_length_le (by simp only [List.length_cons] at hlen'; omega)] at m1
          obtain ⟨q, hq, _⟩ := DataW.trod_bool T.b m0
          simp only [List.cons.injEq, and_true] at hq
          subst hq
          obtain ⟨s', hW', hD'⟩ := ih n' (by omega) _ _ m1
          refine ⟨((q, s'), fun j => ((.bool q : Value) :: cs'').getD j default), hW', fun j hj => ?_, fun j hj => ?_⟩
          · rw [hcell j hj]
            show _ = some ((Value.bool q :: cs'').getD j default)
            rw [List.getD_eq_getElem?_getD, List.getElem?_eq_getElem (by omega)]; rfl
          · exact DenL_get (ds := partC q (toSh s')) (us := .bool q :: cs'') ⟨.p _ rfl, hD'⟩ (by omega)
        by_cases hz : len = 0
        · subst hz
          exact ⟨0, fun _ => false, fun _ => .nil, fun i hi => absurd hi (Nat.not_lt_zero i), .nil _ (some a) cap⟩
        · haveI : Inhabited ((Bool × Shp) × (Nat → Value)) := ⟨((false, .nil), fun _ => default)⟩
          obtain ⟨g, hg⟩ := choose_lt part
          have z0 := (hg 0 (by omega)).2.1 0 (by decide)
          have za : (a.add (0 * 11)).add 0 = a.add 0 := rfl
          rw [za] at z0
          obtain ⟨hlt, hsp⟩ := addr_cell z0
          have hsp := hsp rfl
          obtain ⟨b, off, sp⟩ := a
          dsimp only at hsp
          subst hsp
          simp only [addr_add] at hg hlt
          exact ⟨len, fun i => (g i).1.1, fun i => (g i).1.2, fun i hi => (hg i hi).1, .row len _ b off cap 11 (fun i j => (g i).2 j) hle hlt (fun i hi => ⟨rfl, fun j hj => (hg i hi).2.1 j hj⟩) (fun i j hi hj => (hg i hi).2.2 j hj)⟩
    obtain ⟨m, add, sub, hW, hQ⟩ := parts
    exact ⟨.mk z0 pa pb pc z4 l m add sub, hW, .p _ rfl, a1', a2', b1', b2', c1', c2', .p _ rfl, hL, hQ, trivial⟩
end
theorem shT : ShT Tryz.prog 45 3 38 2 42 48 43 70 4 2 where
  s := ⟨_, _, _, _, _, _, _, Tryz.underlying45, ⟨rfl, rfl, rfl, rfl, rfl, rfl, rfl⟩, rfl, rfl, rfl, rfl, rfl, rfl, rfl⟩
  sc := by kernel_rfl
  kc := by kernel_rfl
  pc := by kernel_rfl
  rc := by kernel_rfl
  lc := by kernel_rfl
  qc := by kernel_rfl
  k := Tryz.underlying3
  r := Tryz.underlying2
  p := ⟨_, _, Tryz.underlying38, rfl, rfl, rfl, rfl⟩
  ic := by kernel_rfl
  i := Tryz.underlying2
  l := Tryz.underlying42
  l1c := by kernel_rfl
  l1 := Tryz.underlying48
  q := Tryz.underlying43
  ec := by kernel_rfl
  e := ⟨_, _, Tryz.underlying70, rfl, rfl, rfl, rfl⟩
  bc := by kernel_rfl
  b := Tryz.underlying4
end Go.Proofs.YthnenjodighlmaaGreat

/-! ## Pia -/
namespace Go.Proofs.YthnenjodighlmaaGreat
open Go Go.RowKit Sym
set_option maxRecDepth 100000

/-! ### a list of objects, as the parts of a form -/
def dvL (x : Sh) : Dyn.DV := .one (.row x.n x.f)
def obX (n : Nat) (f : Nat → List Dyn.DC) : Sh := ⟨6, ze, ze, ze, 0, zeC, n, f⟩
def mkL (n : Nat) (add : Nat → Bool) (sh : Nat → Sh) : Sh := mkSh 6 ze ze ze 0 zeC n add sh
def qL : Dec Sh
  | .one (.row n f) => some (obX n f, [])
  | _ => none
theorem qL_ok : DecOk qL dvL (fun _ => True) := fun d x ps h hp => by
  unfold qL at h; split at h
  · simp only [Option.some.injEq, Prod.mk.injEq] at h
    obtain ⟨rfl, rfl⟩ := h
    exact ⟨⟨rfl, fun _ _ => rfl⟩, trivial⟩
  · cases h
theorem SLe.dvL {x y : Sh} (h : SLe x y) : Dyn.DVLe (dvL x) (dvL y) := ⟨h.2.2.2.2.2.2.1, h.2.2.2.2.2.2.2⟩
def dtyO (t : TypeId) : Bool := dtyS t || Nat.beq t 47 || Nat.beq t 22
def lForm (n : Nat) (add : Nat → Bool) (sub : Nat → Shp) : Shp := .mk 6 ze ze ze 0 zeC n add sub
def nuO : Shp → Nat
  | .nil => 0
  | .mk _ _ _ _ _ _ n _ _ => n
def adO : Shp → Nat → Bool
  | .nil, _ => false
  | .mk _ _ _ _ _ _ _ add _, i => add i
def suO : Shp → Nat → Shp
  | .nil, _ => .nil
  | .mk _ _ _ _ _ _ _ _ sub, i => sub i

/-! ### Small -/
noncomputable def sbG (sh : Nat → Sh) (i : Nat) (_ : Unit) : Bool × Unit := (smallE (sh i) 0, ())
noncomputable def small21 (s : Shp) : Bool := bif decide ((nuO s : Int) > 20) then false else (runN (fun i (_ : Unit) => (smallF (suO s i) 0, ())) () (nuO s)).1
noncomputable def tdSb : List Dyn.EntryD := [(11, en2D (qAnd qS PdW) qI fun x d => rB (smallE x d))]
noncomputable def tabSb : Dyn.Tabs := Dyn.tabs tbF tdSb noD dtyO
theorem tabSb_ok : Dyn.TabsOk Tryz.prog tabSb := Dyn.tabs_ok tbF_ok (List.forall_mem_cons.2 ⟨en2D_ok (qAnd_ok qS_ok) qI_ok fun x d h _ => small_all x h.1 d, fun _ h => by cases h⟩)
def sbS (s : Sh) (i : Int) : Dyn.St := mkS 20 [(0, sH 0 0 s.n), (2, .k (vb false)), (3, sI i)] [some (.deep [.row s.n s.f])]
def sbR : Dyn.St := mkS 20 [(2, .k (vb false))] []
def sbK : List Nat := [0, 2, 3]
noncomputable def sbLp (sh : Nat → Sh) (s : Sh) : Dyn.Lp := fun id st => match id with
  | 0 => some (.side [keepA 20 [0] [] sbK (2 ^ 3) st = sbS s 0, s.n ≤ 20] (.ite (runN (sbG sh) () s.n).1 (.leaf .normal (sbS s s.n)) (.leaf .ret sbR)))
  | _ => none
noncomputable def sbB (sh : Nat → Sh) (s : Sh) (i : Nat) : Dyn.Out :=
  .ite (decide ((i : Int) < s.n)) (.side [0 ≤ (i : Int) ∧ (i : Int) < s.n, PdW (sh i), ctrSelf (sh i).l] (.ite (!(smallE (sh i) 0)) (.leaf .ret sbR) (.leaf .normal (sbS s (W (i + 1)))))) (.leaf (.exit 0) (sbS s i))
theorem sb_B (n : Nat) (add : Nat → Bool) (sh : Nat → Sh) (i : Nat) : (Dyn.lexec Tryz.prog tabSb (sbLp sh (mkL n add sh)) 3 (unloopD (blkD Tryz.f4.body 0)) .leaf (sbS (mkL n add sh) i)).rl (keepR 20 [0] [] sbK [2]) = sbB sh (mkL n add sh) i := by kernel_rfl
theorem sb_blocks : blocksL (bodyD Tryz.f4.body) = [(0, .loop (unloopD (blkD Tryz.f4.body 0))), (1, blkD Tryz.f4.body 1)] := by kernel_rfl
theorem sb_b0 : blocksL (unloopD (blkD Tryz.f4.body 0)) = [(1, blkD Tryz.f4.body 1)] := by kernel_rfl
theorem sb_loop (n : Nat) (add : Nat → Bool) (sh : Nat → Sh) (hP : ∀ i, i < n → PdW (sh i)) (w0 : Dyn.Base Tryz.prog) (st : Dyn.St) (o : Dyn.Out) (h : sbLp sh (mkL n add sh) 0 st = some o) : Dyn.BlockSound Tryz.prog w0 0 (.loop (unloopD (blkD Tryz.f4.body 0))) st o := by
  simp only [sbLp, Option.some.injEq] at h
  subst h
  refine side_two fun hS hn => ?_
  have hn' : n ≤ 20 := hn
  refine run_block (fuel := 3) tabSb_ok mo (lp := sbLp sh (mkL n add sh)) (by rw [sb_b0]; exact lpOk_cons (fun s o h => by cases h) lpOk_nil) (fun i (_ : Unit) => sbS (mkL n add sh) i) n (sbG sh) () (fun _ => sbR) (keepR 20 [0] [] sbK [2]) (keepR_ent 20 _ _ _ _) (fun i _ => sbB sh (mkL n add sh) i) (fun i _ => sb_B n add sh i) (fun i a hi ha => ?_) (fun a ha => ?_) (hS ▸ keepA_ent 20 _ _ _ _ st)
  · refine ⟨fun _ => ⟨⟨⟨by omega, by show (i : Int) < (n : Int); omega⟩, hP i hi, ctrSelf_ok _, trivial⟩, fun hx => .inr ⟨rfl, ?_, Dyn.Fits.refl _⟩, fun hx => .inl ⟨rfl, ?_, ?_⟩⟩, fun hf => ?_⟩
    · simpa [sbG] using hx
    · simpa [sbG] using hx
    · rw [Wn1 hi (by omega)]; exact Dyn.Fits.refl _
    · rw [decide_eq_false_iff_not] at hf
      exact absurd (show (i : Int) < (n : Int) by omega) hf
  · refine ⟨fun ht => ?_, fun _ => ⟨rfl, Dyn.Fits.refl _⟩⟩
    rw [decide_eq_true_eq] at ht
    exact absurd (show (n : Int) < (n : Int) from ht) (by omega)
noncomputable def sbO (sh : Nat → Sh) (s : Sh) : Dyn.RO :=
  .ite (decide ((s.n : Int) > 20)) (.leaf (rB false)) (.side [sbS s 0 = sbS s 0, s.n ≤ 20] (.ite (runN (sbG sh) () s.n).1 (.leaf (rB true)) (.leaf (rB false))))
theorem sb_O (sh : Nat → Sh) (s : Sh) : (Dyn.dfun Tryz.prog tabSb (sbLp sh s) 3 Tryz.f4 [dvL s]).ro Tryz.prog Tryz.f4.results = sbO sh s := by kernel_rfl
theorem sb_lvl (n : Nat) (add : Nat → Bool) (sh : Nat → Sh) (hP : ∀ i, i < n → PdW (sh i)) : Dyn.CallD Tryz.prog 4 [dvL (mkL n add sh)] (rB (bif decide ((n : Int) > 20) then false else (runN (sbG sh) () n).1)) :=
  Dyn.dcontract (lp := sbLp sh (mkL n add sh)) (fuel := 3) tabSb_ok mo Tryz.func4 (by kernel_rfl) (c := bodyD Tryz.f4.body) (by kernel_rfl)
    (fun w0 => by rw [sb_blocks]; exact lpOk_cons (sb_loop n add sh hP w0) (lpOk_cons (fun s o h => by cases h) lpOk_nil))
    (by kernel_rfl) (sb_O sh _) (by
      refine ⟨fun h => ?_, fun h => ⟨⟨rfl, ?_, trivial⟩, fun h2 => ?_, fun h2 => ?_⟩⟩
      · rw [show decide ((n : Int) > 20) = true from h]; exact ro_leaf rfl
      · have : ¬ (n : Int) > 20 := of_decide_eq_false h
        show n ≤ 20
        omega
      · rw [show decide ((n : Int) > 20) = false from h, show (runN (sbG sh) () n).1 = true from h2]; exact ro_leaf rfl
      · rw [show decide ((n : Int) > 20) = false from h, show (runN (sbG sh) () n).1 = false from h2]; exact ro_leaf rfl)
theorem small21_ok : ∀ s : Shp, ShW s → Dyn.CallD Tryz.prog 4 [dvL (toSh s)] (rB (small21 s)) := by
  intro s h
  cases s with
  | nil => exact h.elim
  | mk k a b c r l n add sub =>
    have q := sb_lvl n add (fun i => toSh (sub i)) fun i hi => PdW_mk (h i hi)
    unfold sbG at q
    simp only [smallE_eq] at q
    exact q
/-! ### Tame -/
noncomputable def tame21 (s : Shp) (sm : Bool) : Shp := .mk 6 ze ze ze 0 zeC (min (nuO s) 12) (adO s) (fun i => tameS (suO s i) sm 2)
noncomputable def tdTl : List Dyn.EntryD := [(14, en3D (qAnd qS PdS) qB qI fun x q d => .val (dvS (tameE x q d)))]
def drTl (K : Nat) : Bool := Nat.beq K 14
noncomputable def tabTl : Dyn.Tabs := Dyn.tabs tbF tdTl drTl dtyO
theorem tabTl_ok : Dyn.TabsOk Tryz.prog tabTl := Dyn.tabs_ok tbF_ok (List.forall_mem_cons.2 ⟨en3D_ok (qAnd_ok qS_ok) qB_ok qI_ok fun x q d h _ _ => tame_all x h.1 q d, fun _ h => by cases h⟩)
noncomputable def tlF (add : Nat → Bool) (sh : Nat → Sh) (sm : Bool) (i : Nat) : List Dyn.DC := partC (add i) (tameE (sh i) sm 2)
noncomputable def tlS (s : Sh) (add : Nat → Bool) (sh : Nat → Sh) (sm : Bool) (t : Int) (i : Nat) : Dyn.St := mkS 34 [(0, sH 0 0 s.n), (1, sB sm), (4, .k (.slice none 0 0)), (5, sH 1 0 i), (6, sI t)] [some (.deep [.row s.n s.f]), some (.own 47 i (tlF add sh sm))]
def tlK : List Nat := [0, 1, 4, 5, 6]
noncomputable def tlLp (add : Nat → Bool) (sh : Nat → Sh) (s : Sh) (sm : Bool) : Dyn.Lp := fun id st => match id with
  | 0 => some (.side [Dyn.nilSlot 5 47 (tlF add sh sm) (keepS 34 [0] tlK (2 ^ 6) st) = tlS s add sh sm 0 0] (.leaf .normal (tlS s add sh sm (min s.n 12 : Nat) (min s.n 12))))
  | _ => none
noncomputable def tlV (s : Sh) (add : Nat → Bool) (sh : Nat → Sh) (sm : Bool) (i : Nat) : Dyn.St := mkS 34 [(0, sH 0 0 s.n), (1, sB sm), (4, .k (.slice none 0 0)), (5, sH 1 0 (i + 1)), (6, sI (W (i + 1)))] [some (.deep [.row s.n s.f]), some (.own 47 (i + 1) (Dyn.appF i (tlF add sh sm) (fun _ => tlF add sh sm i)))]
noncomputable def tlB (s : Sh) (add : Nat → Bool) (sh : Nat → Sh) (sm : Bool) (i : Nat) : Dyn.Out :=
  .ite (bif decide ((i : Int) < s.n) then decide ((i : Int) < 12) else false)
    (.side [0 ≤ (i : Int) ∧ (i : Int) < s.n, 0 ≤ (i : Int) ∧ (i : Int) < s.n, PdS (sh i), ctrSelf (sh i).l, szP 120 i] (.leaf .normal (tlV s add sh sm i)))
    (.leaf (.exit 0) (tlS s add sh sm i i))
theorem tl_B (n : Nat) (add : Nat → Bool) (sh : Nat → Sh) (sm : Bool) (i : Nat) : (Dyn.lexec Tryz.prog tabTl (tlLp add sh (mkL n add sh) sm) 3 (unloopD (blkD Tryz.f6.body 0)) .leaf (tlS (mkL n add sh) add sh sm i i)).rl (fun _ s => keepA 34 [0] [5] tlK 0 s) = tlB (mkL n add sh) add sh sm i := by kernel_rfl
theorem tl_blocks : blocksL (bodyD Tryz.f6.body) = [(0, .loop (unloopD (blkD Tryz.f6.body 0))), (1, blkD Tryz.f6.body 1)] := by kernel_rfl
theorem tl_b0 : blocksL (unloopD (blkD Tryz.f6.body 0)) = [(1, blkD Tryz.f6.body 1)] := by kernel_rfl
theorem tl_loop (n : Nat) (add : Nat → Bool) (sh : Nat → Sh) (sm : Bool) (hn : n ≤ 1000000000) (hP : ∀ i, i < n → PdS (sh i)) (w0 : Dyn.Base Tryz.prog) (st : Dyn.St) (o : Dyn.Out) (h : tlLp add sh (mkL n add sh) sm 0 st = some o) : Dyn.BlockSound Tryz.prog w0 0 (.loop (unloopD (blkD Tryz.f6.body 0))) st o := by
  simp only [tlLp, Option.some.injEq] at h
  subst h
  refine side_one fun hS => ?_
  refine fold_block (fuel := 3) tabTl_ok mo (lp := tlLp add sh (mkL n add sh) sm) (by rw [tl_b0]; exact lpOk_cons (fun s o h => by cases h) lpOk_nil) (fun i (_ : Unit) => tlS (mkL n add sh) add sh sm i i) (min n 12) (fun _ _ => ()) () (fun _ s => keepA 34 [0] [5] tlK 0 s) (fun _ s => keepA_ent 34 _ _ _ 0 s) (fun i _ => tlB (mkL n add sh) add sh sm i) (fun i _ => tl_B n add sh sm i) (fun i hi => ?_) ?_ (hS ▸ (keepS_ent 34 (by decide) _ _ st).trans (Dyn.Ent.nilSlot (P := Tryz.prog) (k := 10) (by kernel_rfl) _ _))
  · have hi' : i < n := by omega
    refine ⟨fun _ => ⟨⟨⟨by omega, by show (i : Int) < (n : Int); omega⟩, ⟨by omega, by show (i : Int) < (n : Int); omega⟩, hP i hi', ctrSelf_ok _, szP_ok (by decide) (by omega), trivial⟩, rfl, ?_⟩, fun hf => ?_⟩
    · unfold tlV
      rw [Wn1 hi' hn]
      exact ⟨rfl, Dyn.HeLe.refl _, le_app rfl, trivial⟩
    · rw [Bool.eq_false_iff] at hf
      exact absurd (and_iff.2 ⟨show (i : Int) < (n : Int) by omega, by omega⟩) hf
  · refine ⟨fun ht => ?_, fun _ => ⟨rfl, Dyn.Fits.refl _⟩⟩
    have ht := and_iff.1 ht
    have h1 : ((min n 12 : Nat) : Int) < (n : Int) := ht.1
    have h2 : ((min n 12 : Nat) : Int) < 12 := ht.2
    omega
theorem tl_O (add : Nat → Bool) (sh : Nat → Sh) (s : Sh) (sm : Bool) : (Dyn.dfun Tryz.prog tabTl (tlLp add sh s sm) 3 Tryz.f6 [dvL s, dvB sm]).ro Tryz.prog Tryz.f6.results = .side [tlS s add sh sm 0 0 = tlS s add sh sm 0 0] (.leaf (.val (.one (.row (min s.n 12) (tlF add sh sm))))) := by kernel_rfl
theorem tl_lvl (n : Nat) (add : Nat → Bool) (sh : Nat → Sh) (sm : Bool) (hn : n ≤ 1000000000) (hP : ∀ i, i < n → PdS (sh i)) : Dyn.CallD Tryz.prog 6 [dvL (mkL n add sh), dvB sm] (.val (.one (.row (min n 12) (tlF add sh sm)))) :=
  Dyn.dcontract (lp := tlLp add sh (mkL n add sh) sm) (fuel := 3) tabTl_ok mo Tryz.func6 (by kernel_rfl) (c := bodyD Tryz.f6.body) (by kernel_rfl)
    (fun w0 => by rw [tl_blocks]; exact lpOk_cons (tl_loop n add sh sm hn hP w0) (lpOk_cons (fun s o h => by cases h) lpOk_nil))
    (by kernel_rfl) (tl_O add sh _ sm) ⟨⟨rfl, trivial⟩, rfl, fun _ _ => rfl⟩
theorem tame21_ok : ∀ s : Shp, ShB s → ∀ sm, Dyn.CallD Tryz.prog 6 [dvL (toSh s), dvB sm] (.val (dvL (toSh (tame21 s sm)))) := by
  intro s h sm
  cases s with
  | nil => exact h.elim
  | mk k a b c r l n add sub =>
    have q := tl_lvl n add (fun i => toSh (sub i)) sm h.2.1 fun i hi => PdS_mk (h.2.2 i hi)
    unfold tlF at q
    simp only [tameE_eq] at q
    exact q
/-! ### Class -/
noncomputable def figClassS (s : Shp) (b : B4) : Int := bif !(okE (toSh s)) then 0 else classF s b
noncomputable def pClass (s : Shp) (b : B4) : Int := foldN (fun i acc => foldF acc (figClassS (suO s i) b) (adO s i)) 0 (nuO s)
theorem figClassE_eq (s : Shp) (b : B4) : figClassE (toSh s) b = figClassS s b := by unfold figClassE figClassS; rw [classE_eq]
noncomputable def tdPc : List Dyn.EntryD := [(42, en2D (qAnd qS PdS) qX fun x b => rI (figClassE x b))]
noncomputable def tabPc : Dyn.Tabs := Dyn.tabs tbF tdPc noD dtyO
theorem tabPc_ok : Dyn.TabsOk Tryz.prog tabPc := Dyn.tabs_ok tbF_ok (List.forall_mem_cons.2 ⟨en2D_ok (qAnd_ok qS_ok) qX_ok fun x b h _ => figClass_ok x h.1 b, fun _ h => by cases h⟩)
noncomputable def pcG (sh : Nat → Sh) (add : Nat → Bool) (b : B4) (i : Nat) (acc : Int) : Int := foldF acc (figClassE (sh i) b) (add i)
def pcS (s : Sh) (b : B4) (acc i : Int) : Dyn.St := mkS 24 [(3, sL 1), (4, .k (vi 0)), (5, sI acc), (8, sH 0 0 s.n), (9, sI s.n), (10, sI i)] [some (.deep [.row s.n s.f]), some (.cells 27 [vi b.x0, vi b.y0, vi b.x1, vi b.y1])]
def pcK : List Nat := [3, 4, 5, 8, 9, 10]
noncomputable def pcLp (sh : Nat → Sh) (add : Nat → Bool) (s : Sh) (b : B4) : Dyn.Lp := fun id st => match id with
  | 0 => some (.side [keepA 24 [0, 1] [] pcK (2 ^ 5 + 2 ^ 10) st = pcS s b 0 0] (.leaf .normal (pcS s b (foldN (pcG sh add b) 0 s.n) s.n)))
  | _ => none
noncomputable def pcB (sh : Nat → Sh) (add : Nat → Bool) (s : Sh) (b : B4) (i : Nat) (acc : Int) : Dyn.Out :=
  .ite (decide ((i : Int) < s.n)) (.side [0 ≤ (i : Int) ∧ (i : Int) < s.n] (.side [PdS (sh i), ctrSelf (sh i).l] (.leaf .normal (pcS s b (foldF acc (figClassE (sh i) b) (add i)) (W (i + 1)))))) (.leaf (.exit 0) (pcS s b acc i))
theorem pc_B (n : Nat) (add : Nat → Bool) (sh : Nat → Sh) (b : B4) (i : Nat) (acc : Int) : (Dyn.lexec Tryz.prog tabPc (pcLp sh add (mkL n add sh) b) 3 (unloopD (blkD Tryz.f32.body 0)) .leaf (pcS (mkL n add sh) b acc i)).rl (keepR 24 [0, 1] [] pcK []) = pcB sh add (mkL n add sh) b i acc := by kernel_rfl
theorem pc_blocks : blocksL (bodyD Tryz.f32.body) = [(0, .loop (unloopD (blkD Tryz.f32.body 0))), (1, blkD Tryz.f32.body 1)] := by kernel_rfl
theorem pc_b0 : blocksL (unloopD (blkD Tryz.f32.body 0)) = [(1, blkD Tryz.f32.body 1)] := by kernel_rfl
theorem pc_loop (n : Nat) (add : Nat → Bool) (sh : Nat → Sh) (hn : n ≤ 1000000000) (hP : ∀ i, i < n → PdS (sh i)) (b : B4) (w0 : Dyn.Base Tryz.prog) (s : Dyn.St) (o : Dyn.Out) (h : pcLp sh add (mkL n add sh) b 0 s = some o) : Dyn.BlockSound Tryz.prog w0 0 (.loop (unloopD (blkD Tryz.f32.body 0))) s o := by
  simp only [pcLp, Option.some.injEq] at h
  subst h
  refine side_one fun hS => ?_
  refine fold_block (fuel := 3) tabPc_ok mo (lp := pcLp sh add (mkL n add sh) b) (by rw [pc_b0]; exact lpOk_cons (fun s o h => by cases h) lpOk_nil) (fun i acc => pcS (mkL n add sh) b acc i) n (pcG sh add b) 0 (keepR 24 [0, 1] [] pcK []) (keepR_ent 24 _ _ _ _) (fun i acc => pcB sh add (mkL n add sh) b i acc) (fun i acc => pc_B n add sh b i acc) (fun i hi => ?_) ?_ (hS ▸ keepA_ent 24 _ _ _ _ s)
  · refine ⟨fun _ => ⟨⟨⟨by omega, by show (i : Int) < (n : Int); omega⟩, trivial⟩, ⟨hP i hi, ctrSelf_ok _, trivial⟩, rfl, ?_⟩, fun hf => ?_⟩
    · rw [Wn1 hi hn]; exact Dyn.Fits.refl _
    · rw [decide_eq_false_iff_not] at hf
      exact absurd (show (i : Int) < (n : Int) by omega) hf
  · refine ⟨fun ht => ?_, fun _ => ⟨rfl, Dyn.Fits.refl _⟩⟩
    rw [decide_eq_true_eq] at ht
    exact absurd (show (n : Int) < (n : Int) from ht) (by omega)
theorem pc_O (sh : Nat → Sh) (add : Nat → Bool) (s : Sh) (b : B4) : (Dyn.dfun Tryz.prog tabPc (pcLp sh add s b) 3 Tryz.f32 [dvL s, dvX b]).ro Tryz.prog Tryz.f32.results = .side [pcS s b 0 0 = pcS s b 0 0] (.leaf (rI (foldN (pcG sh add b) 0 s.n))) := by kernel_rfl
theorem pc_lvl (n : Nat) (add : Nat → Bool) (sh : Nat → Sh) (hn : n ≤ 1000000000) (hP : ∀ i, i < n → PdS (sh i)) (b : B4) : Dyn.CallD Tryz.prog 32 [dvL (mkL n add sh), dvX b] (rI (foldN (pcG sh add b) 0 n)) :=
  Dyn.dcontract (lp := pcLp sh add (mkL n add sh) b) (fuel := 3) tabPc_ok mo Tryz.func32 (by kernel_rfl) (c := bodyD Tryz.f32.body) (by kernel_rfl)
    (fun w0 => by rw [pc_blocks]; exact lpOk_cons (pc_loop n add sh hn hP b w0) (lpOk_cons (fun s o h => by cases h) lpOk_nil))
    (by kernel_rfl) (pc_O sh add _ b) ⟨⟨rfl, trivial⟩, ro_leaf rfl⟩
theorem pClass_ok : ∀ s : Shp, ShB s → ∀ b, Dyn.CallD Tryz.prog 32 [dvL (toSh s), dvX b] (rI (pClass s b)) := by
  intro s h b
  cases s with
  | nil => exact h.elim
  | mk k a b' c r l n add sub =>
    have q := pc_lvl n add (fun i => toSh (sub i)) h.2.1 (fun i hi => PdS_mk (h.2.2 i hi)) b
    unfold pcG at q
    simp only [figClassE_eq] at q
    exact q
end Go.Proofs.YthnenjodighlmaaGreat

/-! ## Rof -/
namespace Go.Proofs.YthnenjodighlmaaGreat
open Go Go.ChangeShapes Go.WideShapes Go.ChangeAt Go.RowKit Go.Joins Go.Deep
set_option maxRecDepth 100000

section
variable {H : Type} {enc : TypeId × Value → H} {P : Program} {w : World} {base : Nat} {spare : Nat → Bool} {held : Bool}
theorem objs_den {tS tK tP tR tL tL1 tQ tE tB tI tQ' tE' : TypeId} (T : ShT P tS tK tP tR tL tL1 tQ tE tB tI) (q : P.underlying tQ' = some (.slice tE')) (ec : P.cellsOf tE' = 11)
    (he : ∃ h0 h1 : Field, P.underlying tE' = some (.struct #[h0, h1]) ∧ h0.offset = 0 ∧ h1.offset = 1 ∧ h0.type = tB ∧ h1.type = tS) {fuel : Nat} {v9 : Value} {y : DataW H × List MemPlace} (k6 : DataW.trod enc P w base spare held fuel tQ' [v9] = some y) :
    ∃ (m : Nat) (add : Nat → Bool) (sub : Nat → Shp), (∀ i, i < m → ShW (sub i)) ∧ Dyn.DenC w (fun b => b < w.heap.size) (.row m fun i => partC (add i) (toSh (sub i))) v9 := by
  obtain ⟨h0, h1, he, a0, a1, b0, b1⟩ := he
  rcases DataW.trod_slice q k6 with ⟨hv, _⟩ | ⟨a, len, cap, elems, rest, m, rfl, hv, _, hb, hle, _, hel, hall, _⟩
  · simp only [List.cons.injEq, and_true] at hv
    subst hv
    exact ⟨0, fun _ => false, fun _ => .nil, fun i hi => absurd hi (Nat.not_lt_zero i), .nil _ none 0⟩
  · simp only [List.cons.injEq, and_true] at hv
    subst hv
    have part : ∀ i, i < len → ∃ q : (Bool × Shp) × (Nat → Value), ShW q.1.2 ∧ (∀ j, j < 11 → w.cell? ((a.add (i * 11)).add j) = some (q.2 j)) ∧ (∀ j, j < 11 → Dyn.DenC w (fun b => b < w.heap.size) ((partC q.1.1 (toSh q.1.2)).getD j default) (q.2 j)) := fun i hi => by
      have key := hall i hi
      rw [ec, List.getElem?_eq_getElem (by omega)] at key
      obtain ⟨cs', h1', h2'⟩ := Option.bind_eq_some_iff.1 key
      obtain ⟨_, hlen', hcell⟩ := World.cells?_some h1'
      obtain ⟨ys, n', rfl, _, _, hyl, hfy⟩ := DataW.trod_struct he h2'
      have hyl : ys.length = 2 := hyl
      have m0 := hfy 0 h0 rfl
      have m1 := hfy 1 h1 rfl
      rw [List.getElem?_eq_getElem (by omega), b0, a0, T.bc] at m0
      rw [List.getElem?_eq_getElem (by omega), b1, a1, T.sc] at m1
      obtain ⟨c, cs'', rfl⟩ : ∃ c cs'', cs' = c :: cs'' := by
        match cs', hlen' with
        | c :: cs'', _ => exact ⟨c, cs'', rfl⟩
      simp only [List.drop_zero, List.take_succ_cons, List.take_zero, List.drop_succ_cons] at m0 m1
      rw [List.take_of_length_le (by simp only [List.length_cons] at hlen'; omega)] at m1
      obtain ⟨q, hq, _⟩ := DataW.trod_bool T.b m0
      simp only [List.cons.injEq, and_true] at hq
      subst hq
      obtain ⟨s', hW', hD'⟩ := shape_den T n' _ _ m1
      refine ⟨((q, s'), fun j => ((.bool q : Value) :: cs'').getD j default), hW', fun j hj => ?_, fun j hj => ?_⟩
      · rw [hcell j hj]
        show _ = some ((Value.bool q :: cs'').getD j default)
        rw [List.getD_eq_getElem?_getD, List.getElem?_eq_getElem (by omega)]; rfl
      · exact DenL_get (ds := partC q (toSh s')) (us := .bool q :: cs'') ⟨.p _ rfl, hD'⟩ (by omega)
    by_cases hz : len = 0
    · subst hz
      exact ⟨0, fun _ => false, fun _ => .nil, fun i hi => absurd hi (Nat.not_lt_zero i), .nil _ (some a) cap⟩
    · haveI : Inhabited ((Bool × Shp) × (Nat → Value)) := ⟨((false, .nil), fun _ => default)⟩
      obtain ⟨g, hg⟩ := choose_lt part
      have z0 := (hg 0 (by omega)).2.1 0 (by decide)
      have za : (a.add (0 * 11)).add 0 = a.add 0 := rfl
      rw [za] at z0
      obtain ⟨hlt, hsp⟩ := addr_cell z0
      have hsp := hsp rfl
      obtain ⟨b, off, sp⟩ := a
      dsimp only at hsp
      subst hsp
      simp only [addr_add] at hg hlt
      exact ⟨len, fun i => (g i).1.1, fun i => (g i).1.2, fun i hi => (hg i hi).1, .row len _ b off cap 11 (fun i j => (g i).2 j) hle hlt (fun i hi => ⟨rfl, fun j hj => (hg i hi).2.1 j hj⟩) (fun i j hi hj => (hg i hi).2.2 j hj)⟩
theorem open_O {tS tK tP tR tL tL1 tQ tE tB tI tQ' tE' : TypeId} (T : ShT P tS tK tP tR tL tL1 tQ tE tB tI) (q : P.underlying tQ' = some (.slice tE')) (ec : P.cellsOf tE' = 11)
    (he : ∃ h0 h1 : Field, P.underlying tE' = some (.struct #[h0, h1]) ∧ h0.offset = 0 ∧ h1.offset = 1 ∧ h0.type = tB ∧ h1.type = tS) {r : Reach} {b0 : Nat} {v : Value} {d : DataW H} {ps : List MemPlace} (hval : Value.okWide P w r b0 tQ' v) (hd : DataW.Trod enc P w base spare held tQ' v d ps) :
    ∃ s : Shp, ShW s ∧ Dyn.DenV w (fun b => b < w.heap.size) (dvL (toSh s)) v := by
  obtain ⟨a, len, cap, rfl⟩ := okWide_slice q hval
  obtain ⟨fuel, hf⟩ := hd
  obtain ⟨m, add, sub, hW, hD⟩ := objs_den T q ec he hf
  exact ⟨lForm m add sub, hW, hD⟩
end
end Go.Proofs.YthnenjodighlmaaGreat

/-! ## Rsc -/
namespace Go.Proofs.YthnenjodighlmaaGreat
open Go Go.RowKit Sym
set_option maxRecDepth 100000


def rRingOk (c a e : P2) : Bool := andB (rDist c a == rDist c e) (decide (rDist c a > 0))
def rSector (p c a e : P2) : Bool :=
  bif ptEq a e then true else
  bif decide (cross c a e < 0) then orB (decide (cross c a p ≥ 0)) (decide (cross c p e ≥ 0)) else andB (decide (cross c a p ≥ 0)) (decide (cross c p e ≥ 0))
def rAtMost (d big r : Int) : Bool :=
  let q := W (W (d - big) - W (r * r))
  orB (decide (q ≤ 0)) (decide (rCmp (rSq q) (rMul (U (W (W (4 * r) * r))) (U big)) ≤ 0))
def rAtLeast (d big r : Int) : Bool :=
  let q := W (W (big + W (r * r)) - d)
  orB (orB (decide (W (r * r) ≥ big)) (decide (q ≤ 0))) (decide (rCmp (rSq q) (rMul (U (W (W (4 * r) * r))) (U big)) ≤ 0))
def rRingHas (p c a e : P2) (r : Int) : Bool :=
  bif orB (decide (r < 1)) (!(rRingOk c a e)) then false else
  orB (orB (rDiscHas p a r) (rDiscHas p e r)) (andB (andB (rSector p c a e) (rAtLeast (rDist p c) (rDist a c) r)) (rAtMost (rDist p c) (rDist a c) r))
theorem rNear1_ok (a : P2) : CallOk Tryz.prog 55 [pt a] (vb (nearF a)) := fnOk (fuel := 16) (tbOf_ok tbF_ok) mo Tryz.func55 (by kernel_rfl) (by kernel_rfl) (by kernel_rfl) (by kernel_rfl)
theorem rRingOk_ok (c a e : P2) : CallOk Tryz.prog 57 [pt c, pt a, pt e] (vb (rRingOk c a e)) := fnOk (fuel := 16) (tbOf_ok tbF_ok) mo Tryz.func57 (by kernel_rfl) (by kernel_rfl) (by kernel_rfl) (by kernel_rfl)
theorem rSector_ok (p c a e : P2) : CallOk Tryz.prog 62 [pt p, pt c, pt a, pt e] (vb (rSector p c a e)) := fnOk (fuel := 16) (tbOf_ok tbF_ok) mo Tryz.func62 (by kernel_rfl) (by kernel_rfl) (by kernel_rfl) (by kernel_rfl)
theorem rAtMost_ok (a b c : Int) : CallOk Tryz.prog 64 [vi a, vi b, vi c] (vb (rAtMost a b c)) := fnOk (fuel := 16) (tbOf_ok tbF_ok) mo Tryz.func64 (by kernel_rfl) (by kernel_rfl) (by kernel_rfl) (by kernel_rfl)
theorem rAtLeast_ok (a b c : Int) : CallOk Tryz.prog 63 [vi a, vi b, vi c] (vb (rAtLeast a b c)) := fnOk (fuel := 16) (tbOf_ok tbF_ok) mo Tryz.func63 (by kernel_rfl) (by kernel_rfl) (by kernel_rfl) (by kernel_rfl)
def tbR0 : List Entry := (55, en1 dP fun a => vb (nearF a)) :: (57, en3 dP dP dP fun c a e => vb (rRingOk c a e)) :: (62, en4 dP dP dP dP fun p c a e => vb (rSector p c a e)) :: (64, en3 dI dI dI fun a b c => vb (rAtMost a b c)) :: (63, en3 dI dI dI fun a b c => vb (rAtLeast a b c)) :: tbF
theorem tbR0_ok : ∀ e ∈ tbR0, EntryOk Tryz.prog e := List.forall_mem_cons.2 ⟨en1_ok dP_eq rNear1_ok, List.forall_mem_cons.2 ⟨en3_ok dP_eq dP_eq dP_eq rRingOk_ok, List.forall_mem_cons.2 ⟨en4_ok dP_eq dP_eq dP_eq dP_eq rSector_ok, List.forall_mem_cons.2 ⟨en3_ok dI_eq dI_eq dI_eq rAtMost_ok, List.forall_mem_cons.2 ⟨en3_ok dI_eq dI_eq dI_eq rAtLeast_ok, tbF_ok⟩⟩⟩⟩⟩
theorem rRingHas_ok (p c a e : P2) (r : Int) : CallOk Tryz.prog 49 [pt p, pt c, pt a, pt e, vi r] (vb (rRingHas p c a e r)) := fnOk (fuel := 16) (tbOf_ok tbR0_ok) mo Tryz.func49 (by kernel_rfl) (by kernel_rfl) (by kernel_rfl) (by kernel_rfl)
def tbR : List Entry := (49, en5 dP dP dP dP dI fun p c a e r => vb (rRingHas p c a e r)) :: tbR0
theorem tbR_ok : ∀ e ∈ tbR, EntryOk Tryz.prog e := List.forall_mem_cons.2 ⟨en5_ok dP_eq dP_eq dP_eq dP_eq dI_eq rRingHas_ok, tbR0_ok⟩
end Go.Proofs.YthnenjodighlmaaGreat

/-! ## Rsd -/
namespace Go.Proofs.YthnenjodighlmaaGreat
open Go Go.RowKit Sym
set_option maxRecDepth 100000

/-- a point is on an edge -/
def phE (p a b : P2) : Bool := andB (andB (andB (andB (cross a b p == 0) (decide (p.x ≥ imin a.x b.x))) (decide (p.x ≤ imax a.x b.x))) (decide (p.y ≥ imin a.y b.y))) (decide (p.y ≤ imax a.y b.y))
/-- an edge crosses a point's level to its left -/
def phX (p a b : P2) : Bool := orB (andB (andB (decide (a.y ≤ p.y)) (decide (b.y > p.y))) (decide (cross a b p > 0))) (andB (andB (decide (b.y ≤ p.y)) (decide (a.y > p.y))) (decide (cross a b p < 0)))
def phI (p : P2) (l : Ctr) (i k : Nat) (q : Bool) : Bool × Bool := bif edgeC l (phE p) i k then (false, q) else (true, bif edgeC l (phX p) i k then !q else q)
def phO (p : P2) (l : Ctr) (i : Nat) (q : Bool) : Bool × Bool := runN (phI p l i) q (l.m i)
def rPolyHas (p : P2) (l : Ctr) : Bool := bif (runN (phO p l) false l.n).1 then (runN (phO p l) false l.n).2 else true
def tabPh : Dyn.Tabs := Dyn.tabs tbR [] noD dtyP
theorem tabPh_ok : Dyn.TabsOk Tryz.prog tabPh := Dyn.tabs_ok tbR_ok (fun _ h => by cases h)
def phH (p : P2) (l : Ctr) : List (Option Dyn.HE) := [some (.deep [cCtr l]), some (.cells 38 [vi p.x, vi p.y])]
def phS (p : P2) (l : Ctr) (i : Int) (q : Bool) : Dyn.St := mkS 134 [(1, sH 0 0 l.n), (2, sL 1), (4, .k (vb false)), (5, sB q), (6, sI i)] (phH p l)
def phT (p : P2) (l : Ctr) (i k : Int) (q : Bool) : Dyn.St := mkS 134 [(1, sH 0 0 l.n), (2, sL 1), (4, .k (vb false)), (5, sB q), (6, sI i), (7, sI k)] (phH p l)
def phR (_ : Bool) : Dyn.St := mkS 134 [(4, .k (vb true))] []
def phK : List Nat := [1, 2, 4, 5, 6]
def phKi : List Nat := [1, 2, 4, 5, 6, 7]
def phLp (p : P2) (l : Ctr) : Dyn.Lp := fun id s => match id with
  | 0 => some (.side [keepA 134 [0, 1] [] phK (2 ^ 5 + 2 ^ 6) s = phS p l 0 false] (.ite (runN (phO p l) false l.n).1 (.leaf .normal (phS p l l.n (runN (phO p l) false l.n).2)) (.leaf .ret (phR true))))
  | 2 =>
    let i := intD (s.slots.getD 6 .junk)
    let q := boolD (s.slots.getD 5 .junk)
    some (.side [keepA 134 [0, 1] [] phKi (2 ^ 7) s = phT p l i 0 q, 0 ≤ i ∧ i < l.n] (.ite (phO p l i.toNat q).1 (.leaf .normal (phT p l i (l.m i.toNat) (phO p l i.toNat q).2)) (.leaf .ret (phR true))))
  | _ => none
def phBi (p : P2) (l : Ctr) (i : Int) (k : Nat) (q : Bool) : Dyn.Out :=
  let m : Int := l.m i.toNat
  let r : Int := (W ((k : Int) + 1)).tmod m
  .side [0 ≤ i ∧ i < l.n] (.ite (decide ((k : Int) < m)) (.side [0 ≤ i ∧ i < l.n, 0 ≤ (k : Int) ∧ (k : Int) < m, 0 ≤ i ∧ i < l.n, 0 ≤ i ∧ i < l.n, m ≠ 0, 0 ≤ r ∧ r < m]
    (.ite (phE p (l.p i.toNat k) (l.p i.toNat r.toNat)) (.leaf .ret (phR true)) (.leaf .normal (phT p l i (W ((k : Int) + 1)) (bif phX p (l.p i.toNat k) (l.p i.toNat r.toNat) then !q else q))))) (.leaf (.exit 2) (phT p l i k q)))
def phBo (p : P2) (l : Ctr) (i : Nat) (q : Bool) : Dyn.Out :=
  .ite (decide ((i : Int) < l.n)) (.side [phT p l i 0 q = phT p l i 0 q, 0 ≤ (i : Int) ∧ (i : Int) < l.n] (.ite (phO p l i q).1 (.leaf .normal (phS p l (W ((i : Int) + 1)) (phO p l i q).2)) (.leaf .ret (phR true)))) (.leaf (.exit 0) (phS p l i q))
theorem ph_Bi (p : P2) (l : Ctr) (i : Int) (k : Nat) (q : Bool) : (Dyn.lexec Tryz.prog tabPh (phLp p l) 3 (unloopD (blkD Tryz.f46.body 2)) .leaf (phT p l i k q)).rl (keepR 134 [0, 1] [] phKi [4]) = phBi p l i k q := by kernel_rfl
theorem ph_Bo (p : P2) (l : Ctr) (i : Nat) (q : Bool) : (Dyn.lexec Tryz.prog tabPh (phLp p l) 3 (unloopD (blkD Tryz.f46.body 0)) .leaf (phS p l i q)).rl (keepR 134 [0, 1] [] phK [4]) = phBo p l i q := by kernel_rfl
theorem ph_blocks : blocksL (bodyD Tryz.f46.body) = [(0, .loop (unloopD (blkD Tryz.f46.body 0))), (1, blkD Tryz.f46.body 1), (2, .loop (unloopD (blkD Tryz.f46.body 2))), (3, blkD Tryz.f46.body 3)] := by kernel_rfl
theorem ph_b0 : blocksL (unloopD (blkD Tryz.f46.body 0)) = [(1, blkD Tryz.f46.body 1), (2, .loop (unloopD (blkD Tryz.f46.body 2))), (3, blkD Tryz.f46.body 3)] := by kernel_rfl
theorem ph_b2 : blocksL (unloopD (blkD Tryz.f46.body 2)) = [(3, blkD Tryz.f46.body 3)] := by kernel_rfl
theorem ph_inner (p : P2) (l : Ctr) (hl : CtrB l) (w0 : Dyn.Base Tryz.prog) (s : Dyn.St) (o : Dyn.Out) (h : phLp p l 2 s = some o) : Dyn.BlockSound Tryz.prog w0 2 (.loop (unloopD (blkD Tryz.f46.body 2))) s o := by
  simp only [phLp, Option.some.injEq] at h
  subst h
  refine side_two fun hS hi => ?_
  revert hS hi
  generalize intD (s.slots.getD 6 .junk) = i
  generalize boolD (s.slots.getD 5 .junk) = q
  intro hS hi
  have hm : l.m i.toNat ≤ 1000000000 := hl.2 _ (by omega)
  refine run_block (fuel := 3) tabPh_ok mo (lp := phLp p l) (by rw [ph_b2]; exact lpOk_cons (fun s o h => by cases h) lpOk_nil) (fun k q => phT p l i k q) (l.m i.toNat) (phI p l i.toNat) q phR (keepR 134 [0, 1] [] phKi [4]) (keepR_ent 134 _ _ _ _) (fun k q => phBi p l i k q) (fun k q => ph_Bi p l i k q) (fun k q hk ha => ?_) (fun q ha => ?_) (hS ▸ keepA_ent 134 _ _ _ _ s)
  · obtain ⟨e1, e2, e3, e4⟩ := nxt_wrap hk hm
    have hE : edgeC l (phE p) i.toNat k = phE p (l.p i.toNat k) (l.p i.toNat ((W ((k : Int) + 1)).tmod (l.m i.toNat : Int)).toNat) := by unfold edgeC; rw [e4]
    have hX : edgeC l (phX p) i.toNat k = phX p (l.p i.toNat k) (l.p i.toNat ((W ((k : Int) + 1)).tmod (l.m i.toNat : Int)).toNat) := by unfold edgeC; rw [e4]
    unfold phBi phI
    rw [hE, hX]
    refine ⟨⟨hi, trivial⟩, fun _ => ⟨⟨hi, ⟨by omega, by omega⟩, hi, hi, e2, e3, trivial⟩, fun ht => .inr ⟨rfl, ?_, Dyn.Fits.refl _⟩, fun hf => .inl ⟨rfl, ?_, ?_⟩⟩, fun hf => ?_⟩
    · rw [ht]; rfl
    · rw [hf]; rfl
    · rw [hf, e1]; exact Dyn.Fits.refl _
    · rw [decide_eq_false_iff_not] at hf; omega
  · refine ⟨⟨hi, trivial⟩, fun ht => ?_, fun _ => ⟨rfl, Dyn.Fits.refl _⟩⟩
    rw [decide_eq_true_eq] at ht; omega
theorem ph_outer (p : P2) (l : Ctr) (hl : CtrB l) (w0 : Dyn.Base Tryz.prog) (s : Dyn.St) (o : Dyn.Out) (h : phLp p l 0 s = some o) : Dyn.BlockSound Tryz.prog w0 0 (.loop (unloopD (blkD Tryz.f46.body 0))) s o := by
  simp only [phLp, Option.some.injEq] at h
  subst h
  refine side_one fun hS => ?_
  have hn := hl.1
  refine run_block (fuel := 3) tabPh_ok mo (lp := phLp p l) (by rw [ph_b0]; exact lpOk_cons (fun s o h => by cases h) (lpOk_cons (ph_inner p l hl w0) (lpOk_cons (fun s o h => by cases h) lpOk_nil))) (fun k q => phS p l k q) l.n (phO p l) false phR (keepR 134 [0, 1] [] phK [4]) (keepR_ent 134 _ _ _ _) (fun k q => phBo p l k q) (fun k q => ph_Bo p l k q) (fun k q hk ha => ?_) (fun q ha => ?_) (hS ▸ keepA_ent 134 _ _ _ _ s)
  · have e1 : W ((k : Int) + 1) = ((k + 1 : Nat) : Int) := by rw [W_id (by omega) (by omega)]; omega
    unfold phBo
    refine ⟨fun _ => ⟨⟨rfl, ⟨by omega, by omega⟩, trivial⟩, fun ht => .inl ⟨rfl, ht, ?_⟩, fun hf => .inr ⟨rfl, hf, Dyn.Fits.refl _⟩⟩, fun hf => ?_⟩
    · rw [e1]; exact Dyn.Fits.refl _
    · rw [decide_eq_false_iff_not] at hf; omega
  · refine ⟨fun ht => ?_, fun _ => ⟨rfl, Dyn.Fits.refl _⟩⟩
    rw [decide_eq_true_eq] at ht; omega
theorem rPolyHas_ok (p : P2) (l : Ctr) (hl : CtrB l) : Dyn.CallD Tryz.prog 46 [dvP p, dvC l] (rB (rPolyHas p l)) :=
  Dyn.dcontract (lp := phLp p l) (fuel := 3) tabPh_ok mo Tryz.func46 (by kernel_rfl) (c := bodyD Tryz.f46.body) (by kernel_rfl)
    (fun w0 => by rw [ph_blocks]; exact lpOk_cons (ph_outer p l hl w0) (lpOk_cons (fun s o h => by cases h) (lpOk_cons (ph_inner p l hl w0) (lpOk_cons (fun s o h => by cases h) lpOk_nil))))
    (by kernel_rfl) (O := .side [phS p l 0 false = phS p l 0 false] (.ite (runN (phO p l) false l.n).1 (.leaf (rB (runN (phO p l) false l.n).2)) (.leaf (rB true)))) (by kernel_rfl) (by
      unfold rPolyHas
      refine ⟨⟨rfl, trivial⟩, fun h => ?_, fun h => ?_⟩
      · rw [h]; exact ro_leaf rfl
      · rw [h]; exact ro_leaf rfl)
end Go.Proofs.YthnenjodighlmaaGreat

/-! ## Rse -/
namespace Go.Proofs.YthnenjodighlmaaGreat
open Go Go.RowKit Sym
set_option maxRecDepth 100000

def rHasG (g : Sh → P2 → Bool) (sh : Nat → Sh) (add : Nat → Bool) (s : Sh) (p : P2) : Bool :=
  bif s.k == 1 then rDiscHas p s.a s.r else bif s.k == 2 then rPolyHas p s.l else bif s.k == 3 then rLineHas p s.a s.b s.r else bif s.k == 4 then rBarHas p s.a s.b s.r else bif s.k == 5 then rRingHas p s.c s.a s.b s.r else
  (runN (hsG g sh add s.n p) false s.n).2
def RHasOk (x : Sh) (g : Sh → P2 → Bool) : Prop := ∀ p, Dyn.CallD Tryz.prog 35 [dvS x, dvP p] (rB (g x p))
def tdRh (Pd : Sh → Prop) (g : Sh → P2 → Bool) : List Dyn.EntryD := [(46, en2D qP (qAnd qC CtrB) fun p l => rB (rPolyHas p l)), (35, en2D (qAnd qS Pd) qP fun x p => rB (g x p))]
def tabRh (Pd : Sh → Prop) (g : Sh → P2 → Bool) : Dyn.Tabs := Dyn.tabs tbR (tdRh Pd g) noD dtyS
theorem tabRh_ok {Pd : Sh → Prop} {g : Sh → P2 → Bool} (ih : ∀ x, Pd x → RHasOk x g) : Dyn.TabsOk Tryz.prog (tabRh Pd g) :=
  Dyn.tabs_ok tbR_ok (List.forall_mem_cons.2 ⟨en2D_ok qP_ok (qAnd_ok qC_ok) fun p l _ h => rPolyHas_ok p l h.1, List.forall_mem_cons.2 ⟨en2D_ok (qAnd_ok qS_ok) qP_ok fun x p h _ => ih x h.1 p, fun _ h => by cases h⟩⟩)
def rhS (s : Sh) (p : P2) (i : Int) : Dyn.St := mkS 76 [(2, sL 1), (3, sL 2), (4, .k (vb false)), (5, sI i)] [some (.deep (cS s)), some (.cells 45 (shV 0 8 s)), some (.cells 38 [vi p.x, vi p.y])]
def rhR (q : Bool) : Dyn.St := mkS 76 [(4, sB q)] []
def rhK : List Nat := [2, 3, 4, 5]
def rhLp (g : Sh → P2 → Bool) (sh : Nat → Sh) (add : Nat → Bool) (s : Sh) (p : P2) : Dyn.Lp := fun id st => match id with
  | 1 => some (.side [keepA 76 [0, 1, 2] [] rhK 0 st = rhS s p (W ((s.n : Int) - 1))] (.ite (runN (hsG g sh add s.n p) false s.n).1 (.leaf .normal (rhS s p ((s.n : Int) - 1 - (s.n : Nat)))) (.leaf .ret (rhR (runN (hsG g sh add s.n p) false s.n).2))))
  | _ => none
def rhB (Pd : Sh → Prop) (g : Sh → P2 → Bool) (sh : Nat → Sh) (add : Nat → Bool) (s : Sh) (p : P2) (i : Int) : Dyn.Out :=
  .ite (decide (i ≥ 0)) (.side [0 ≤ i ∧ i < s.n, Pd (sh i.toNat), ctrSelf (sh i.toNat).l] (.ite (g (sh i.toNat) p) (.side [0 ≤ i ∧ i < s.n] (.leaf .ret (rhR (add i.toNat)))) (.leaf .normal (rhS s p (W (i - 1)))))) (.leaf (.exit 1) (rhS s p i))
theorem rh_B (Pd : Sh → Prop) (g : Sh → P2 → Bool) (k : Int) (a b c : P2) (r : Int) (l : Ctr) (n : Nat) (add : Nat → Bool) (sh : Nat → Sh) (p : P2) (i : Int) :
    (Dyn.lexec Tryz.prog (tabRh Pd g) (rhLp g sh add (mkSh k a b c r l n add sh) p) 3 (unloopD (blkD Tryz.f35.body 1)) .leaf (rhS (mkSh k a b c r l n add sh) p i)).rl (keepR 76 [0, 1, 2] [] rhK [4]) = rhB Pd g sh add (mkSh k a b c r l n add sh) p i := by kernel_rfl
theorem rh_blocks : blocksL (bodyD Tryz.f35.body) = [(0, blkD Tryz.f35.body 0), (1, .loop (unloopD (blkD Tryz.f35.body 1))), (2, blkD Tryz.f35.body 2)] := by kernel_rfl
theorem rh_b1 : blocksL (unloopD (blkD Tryz.f35.body 1)) = [(2, blkD Tryz.f35.body 2)] := by kernel_rfl
theorem rh_loop {Pd : Sh → Prop} {g : Sh → P2 → Bool} (ih : ∀ x, Pd x → RHasOk x g) (k : Int) (a b c : P2) (r : Int) (l : Ctr) (n : Nat) (add : Nat → Bool) (sh : Nat → Sh) (hn : n ≤ 1000000000) (hP : ∀ i, i < n → Pd (sh i)) (p : P2) (w0 : Dyn.Base Tryz.prog) (s : Dyn.St) (o : Dyn.Out)
    (h : rhLp g sh add (mkSh k a b c r l n add sh) p 1 s = some o) : Dyn.BlockSound Tryz.prog w0 1 (.loop (unloopD (blkD Tryz.f35.body 1))) s o := by
  simp only [rhLp, Option.some.injEq] at h
  subst h
  refine side_one fun hS => ?_
  have e0 : W ((n : Int) - 1) = (n : Int) - 1 - ((0 : Nat) : Int) := by rw [W_id (by omega) (by omega)]; omega
  refine run_block (fuel := 3) (tabRh_ok ih) mo (lp := rhLp g sh add (mkSh k a b c r l n add sh) p) (by rw [rh_b1]; exact lpOk_cons (fun s o h => by cases h) lpOk_nil) (fun t (_ : Bool) => rhS (mkSh k a b c r l n add sh) p ((n : Int) - 1 - (t : Nat))) n (hsG g sh add n p) false rhR (keepR 76 [0, 1, 2] [] rhK [4]) (keepR_ent 76 _ _ _ _) (fun t _ => rhB Pd g sh add (mkSh k a b c r l n add sh) p ((n : Int) - 1 - (t : Nat))) (fun t _ => rh_B Pd g k a b c r l n add sh p _) (fun t q ht ha => ?_) (fun q ha => ?_) ?_
  · have ei : ((n : Int) - 1 - (t : Nat)).toNat = n - 1 - t := by omega
    unfold hsG rhB
    rw [ei]
    refine ⟨fun _ => ⟨⟨⟨by omega, by show (n : Int) - 1 - (t : Nat) < (n : Int); omega⟩, hP _ (by omega), ctrSelf_ok _, trivial⟩, fun hx => ⟨⟨⟨by omega, by show (n : Int) - 1 - (t : Nat) < (n : Int); omega⟩, trivial⟩, .inr ⟨rfl, ?_, ?_⟩⟩, fun hx => .inl ⟨rfl, ?_, ?_⟩⟩, fun hf => ?_⟩
    · rw [hx]; rfl
    · rw [hx]; exact Dyn.Fits.refl _
    · rw [hx]; rfl
    · rw [W_id (by omega) (by omega), show (n : Int) - 1 - (t : Int) - 1 = (n : Int) - 1 - ((t + 1 : Nat) : Int) by omega]; exact Dyn.Fits.refl _
    · rw [decide_eq_false_iff_not] at hf; omega
  · refine ⟨fun ht => ?_, fun _ => ⟨rfl, Dyn.Fits.refl _⟩⟩
    rw [decide_eq_true_eq] at ht; omega
  · have hS' : keepA 76 [0, 1, 2] [] rhK 0 s = rhS (mkSh k a b c r l n add sh) p ((n : Int) - 1 - ((0 : Nat) : Int)) := by rw [hS]; show rhS _ p (W ((n : Int) - 1)) = _; rw [e0]
    exact hS' ▸ keepA_ent 76 _ _ _ _ s
def rhO (g : Sh → P2 → Bool) (sh : Nat → Sh) (add : Nat → Bool) (s : Sh) (p : P2) : Dyn.RO :=
  .ite (s.k == 1) (.leaf (rB (rDiscHas p s.a s.r)))
  (.ite (s.k == 2) (.side [CtrB s.l, ctrSelf s.l] (.leaf (rB (rPolyHas p s.l))))
  (.ite (s.k == 3) (.leaf (rB (rLineHas p s.a s.b s.r)))
  (.ite (s.k == 4) (.leaf (rB (rBarHas p s.a s.b s.r)))
  (.ite (s.k == 5) (.leaf (rB (rRingHas p s.c s.a s.b s.r)))
  (.side [rhS s p (W ((s.n : Int) - 1)) = rhS s p (W ((s.n : Int) - 1))] (.ite (runN (hsG g sh add s.n p) false s.n).1 (.leaf (rB false)) (.leaf (rB (runN (hsG g sh add s.n p) false s.n).2))))))))
theorem rh_O (Pd : Sh → Prop) (g : Sh → P2 → Bool) (sh : Nat → Sh) (add : Nat → Bool) (s : Sh) (p : P2) : (Dyn.dfun Tryz.prog (tabRh Pd g) (rhLp g sh add s p) 3 Tryz.f35 [dvS s, dvP p]).ro Tryz.prog Tryz.f35.results = rhO g sh add s p := by kernel_rfl
theorem rhRun_false (g : Sh → P2 → Bool) (sh : Nat → Sh) (add : Nat → Bool) (n : Nat) (p : P2) : ∀ t, (runN (hsG g sh add n p) false t).1 = true → (runN (hsG g sh add n p) false t).2 = false
  | 0, _ => rfl
  | t + 1, h => by
    simp only [runN] at h ⊢
    split at h
    · rename_i b hb
      unfold hsG at h ⊢
      cases hg : g (sh (n - 1 - t)) p with
      | true => rw [hg] at h; cases h
      | false => rfl
    · cases h
theorem rh_sat (g : Sh → P2 → Bool) (sh : Nat → Sh) (add : Nat → Bool) (s : Sh) (hl : CtrB s.l) (p : P2) : (rhO g sh add s p).sat fun r => Dyn.RVLe r (rB (rHasG g sh add s p)) := by
  unfold rHasG
  refine ⟨fun h => ?_, fun h => ⟨fun h2 => ⟨⟨hl, ctrSelf_ok _, trivial⟩, ?_⟩, fun h2 => ⟨fun h3 => ?_, fun h3 => ⟨fun h4 => ?_, fun h4 => ⟨fun h5 => ?_, fun h5 => ⟨⟨rfl, trivial⟩, fun h6 => ?_, fun h6 => ?_⟩⟩⟩⟩⟩⟩
  · rw [h]; exact ro_leaf rfl
  · rw [h, h2]; exact ro_leaf rfl
  · rw [h, h2, h3]; exact ro_leaf rfl
  · rw [h, h2, h3, h4]; exact ro_leaf rfl
  · rw [h, h2, h3, h4, h5]; exact ro_leaf rfl
  · rw [h, h2, h3, h4, h5]
    exact ro_leaf (congrArg rB (rhRun_false g sh add s.n p s.n h6).symm)
  · rw [h, h2, h3, h4, h5]; exact ro_leaf rfl
theorem rHas_lvl {Pd : Sh → Prop} {g : Sh → P2 → Bool} (ih : ∀ x, Pd x → RHasOk x g) (k : Int) (a b c : P2) (r : Int) (l : Ctr) (n : Nat) (add : Nat → Bool) (sh : Nat → Sh) (hl : CtrB l) (hn : n ≤ 1000000000) (hP : ∀ i, i < n → Pd (sh i)) (p : P2) :
    Dyn.CallD Tryz.prog 35 [dvS (mkSh k a b c r l n add sh), dvP p] (rB (rHasG g sh add (mkSh k a b c r l n add sh) p)) :=
  Dyn.dcontract (lp := rhLp g sh add (mkSh k a b c r l n add sh) p) (fuel := 3) (tabRh_ok ih) mo Tryz.func35 (by kernel_rfl) (c := bodyD Tryz.f35.body) (by kernel_rfl)
    (fun w0 => by rw [rh_blocks]; exact lpOk_cons (fun s o h => by cases h) (lpOk_cons (rh_loop ih k a b c r l n add sh hn hP p w0) (lpOk_cons (fun s o h => by cases h) lpOk_nil)))
    (by kernel_rfl) (rh_O Pd g sh add _ p) (rh_sat g sh add _ hl p)
def rHasF : Shp → P2 → Bool
  | .nil, _ => false
  | .mk k a b c r l n add sub, p => bif k == 1 then rDiscHas p a r else bif k == 2 then rPolyHas p l else bif k == 3 then rLineHas p a b r else bif k == 4 then rBarHas p a b r else bif k == 5 then rRingHas p c a b r else
    (runN (fun t (_ : Bool) => bif rHasF (sub (n - 1 - t)) p then (false, add (n - 1 - t)) else (true, false)) false n).2
noncomputable def rHasE (x : Sh) (p : P2) : Bool := rHasF (ofSh x) p
theorem rHasE_eq (s : Shp) (p : P2) : rHasE (toSh s) p = rHasF s p := by unfold rHasE; rw [ofSh_toSh]
theorem rHasF_lvl (k : Int) (a b c : P2) (r : Int) (l : Ctr) (n : Nat) (add : Nat → Bool) (sub : Nat → Shp) (p : P2) : rHasF (.mk k a b c r l n add sub) p = rHasG rHasE (fun i => toSh (sub i)) add (toSh (.mk k a b c r l n add sub)) p := by
  unfold rHasG hsG
  simp only [rHasE_eq]
  rfl
theorem rHas_ok : ∀ s : Shp, ShB s → RHasOk (toSh s) rHasE := by
  intro s
  induction s with
  | nil => intro h; exact h.elim
  | mk k a b c r l n add sub ih =>
    intro h p
    rw [rHasE_eq, rHasF_lvl]
    exact rHas_lvl (Pd := fun x => ∃ i, i < n ∧ x = toSh (sub i)) (fun x hx => by
      obtain ⟨i, hi, rfl⟩ := hx
      exact ih i (h.2.2 i hi)) k a b c r l n add (fun i => toSh (sub i)) h.1 h.2.1 (fun i hi => ⟨i, hi, rfl⟩) p
theorem rHas_all : ∀ x, PdS x → RHasOk x rHasE := fun x hx p => by
  have k := rHas_ok _ hx.1 p
  rw [show rHasE (toSh (ofSh x)) p = rHasE x p by unfold rHasE; rw [ofSh_toSh]] at k
  exact CallD_le (args := dvS (toSh (ofSh x)) :: [dvP p]) ⟨SLe.dv hx.2, Dyn.DVLe.refl _, trivial⟩ k
end Go.Proofs.YthnenjodighlmaaGreat

/-! ## Rsf -/
namespace Go.Proofs.YthnenjodighlmaaGreat
open Go Go.RowKit Sym
set_option maxRecDepth 100000

def rpI (l : Ctr) (i k : Nat) (a : Int) : Bool × Int := bif !(nearF (l.p i k)) then (false, a) else (true, W (a + 1))
def rpO (l : Ctr) (i : Nat) (a : Int) : Bool × Int := runN (rpI l i) a (l.m i)
def rPoints (l : Ctr) : Int := bif (runN (rpO l) 0 l.n).1 then (runN (rpO l) 0 l.n).2 else -1
def rpH (l : Ctr) : List (Option Dyn.HE) := [some (.deep [cCtr l])]
def rpS (l : Ctr) (i a : Int) : Dyn.St := mkS 33 [(0, sH 0 0 l.n), (2, .k (vi 0)), (3, sI a), (4, sI i)] (rpH l)
def rpT (l : Ctr) (i k a : Int) : Dyn.St := mkS 33 [(0, sH 0 0 l.n), (2, .k (vi 0)), (3, sI a), (4, sI i), (5, sI k)] (rpH l)
def rpR (_ : Int) : Dyn.St := mkS 33 [(2, .k (vi (-1)))] []
def rpK : List Nat := [0, 2, 3, 4]
def rpKi : List Nat := [0, 2, 3, 4, 5]
def rpLp (l : Ctr) : Dyn.Lp := fun id s => match id with
  | 0 => some (.side [keepA 33 [0] [] rpK (2 ^ 3 + 2 ^ 4) s = rpS l 0 0] (.ite (runN (rpO l) 0 l.n).1 (.leaf .normal (rpS l l.n (runN (rpO l) 0 l.n).2)) (.leaf .ret (rpR 0))))
  | 2 =>
    let i := intD (s.slots.getD 4 .junk)
    let a := intD (s.slots.getD 3 .junk)
    some (.side [keepA 33 [0] [] rpKi (2 ^ 5) s = rpT l i 0 a, 0 ≤ i ∧ i < l.n] (.ite (rpO l i.toNat a).1 (.leaf .normal (rpT l i (l.m i.toNat) (rpO l i.toNat a).2)) (.leaf .ret (rpR 0))))
  | _ => none
def rpBi (l : Ctr) (i : Int) (k : Nat) (a : Int) : Dyn.Out :=
  let m : Int := l.m i.toNat
  .side [0 ≤ i ∧ i < l.n] (.ite (decide ((k : Int) < m)) (.side [0 ≤ i ∧ i < l.n, 0 ≤ (k : Int) ∧ (k : Int) < m]
    (.ite (!(nearF (l.p i.toNat k))) (.leaf .ret (rpR 0)) (.leaf .normal (rpT l i (W ((k : Int) + 1)) (W (a + 1)))))) (.leaf (.exit 2) (rpT l i k a)))
def rpBo (l : Ctr) (i : Nat) (a : Int) : Dyn.Out :=
  .ite (decide ((i : Int) < l.n)) (.side [rpT l i 0 a = rpT l i 0 a, 0 ≤ (i : Int) ∧ (i : Int) < l.n] (.ite (rpO l i a).1 (.leaf .normal (rpS l (W ((i : Int) + 1)) (rpO l i a).2)) (.leaf .ret (rpR 0)))) (.leaf (.exit 0) (rpS l i a))
theorem rp_Bi (l : Ctr) (i : Int) (k : Nat) (a : Int) : (Dyn.lexec Tryz.prog tabPh (rpLp l) 3 (unloopD (blkD Tryz.f56.body 2)) .leaf (rpT l i k a)).rl (keepR 33 [0] [] rpKi [2]) = rpBi l i k a := by kernel_rfl
theorem rp_Bo (l : Ctr) (i : Nat) (a : Int) : (Dyn.lexec Tryz.prog tabPh (rpLp l) 3 (unloopD (blkD Tryz.f56.body 0)) .leaf (rpS l i a)).rl (keepR 33 [0] [] rpK [2]) = rpBo l i a := by kernel_rfl
theorem rp_blocks : blocksL (bodyD Tryz.f56.body) = [(0, .loop (unloopD (blkD Tryz.f56.body 0))), (1, blkD Tryz.f56.body 1), (2, .loop (unloopD (blkD Tryz.f56.body 2))), (3, blkD Tryz.f56.body 3)] := by kernel_rfl
theorem rp_b0 : blocksL (unloopD (blkD Tryz.f56.body 0)) = [(1, blkD Tryz.f56.body 1), (2, .loop (unloopD (blkD Tryz.f56.body 2))), (3, blkD Tryz.f56.body 3)] := by kernel_rfl
theorem rp_b2 : blocksL (unloopD (blkD Tryz.f56.body 2)) = [(3, blkD Tryz.f56.body 3)] := by kernel_rfl
theorem rp_inner (l : Ctr) (hl : CtrB l) (w0 : Dyn.Base Tryz.prog) (s : Dyn.St) (o : Dyn.Out) (h : rpLp l 2 s = some o) : Dyn.BlockSound Tryz.prog w0 2 (.loop (unloopD (blkD Tryz.f56.body 2))) s o := by
  simp only [rpLp, Option.some.injEq] at h
  subst h
  refine side_two fun hS hi => ?_
  revert hS hi
  generalize intD (s.slots.getD 4 .junk) = i
  generalize intD (s.slots.getD 3 .junk) = a
  intro hS hi
  have hm : l.m i.toNat ≤ 1000000000 := hl.2 _ (by omega)
  refine run_block (fuel := 3) tabPh_ok mo (lp := rpLp l) (by rw [rp_b2]; exact lpOk_cons (fun s o h => by cases h) lpOk_nil) (fun k a => rpT l i k a) (l.m i.toNat) (rpI l i.toNat) a rpR (keepR 33 [0] [] rpKi [2]) (keepR_ent 33 _ _ _ _) (fun k a => rpBi l i k a) (fun k a => rp_Bi l i k a) (fun k a hk ha => ?_) (fun a ha => ?_) (hS ▸ keepA_ent 33 _ _ _ _ s)
  · have e1 : W ((k : Int) + 1) = ((k + 1 : Nat) : Int) := by rw [W_id (by omega) (by omega)]; omega
    unfold rpBi rpI
    refine ⟨⟨hi, trivial⟩, fun _ => ⟨⟨hi, ⟨by omega, by omega⟩, trivial⟩, fun ht => .inr ⟨rfl, ?_, Dyn.Fits.refl _⟩, fun hf => .inl ⟨rfl, ?_, ?_⟩⟩, fun hf => ?_⟩
    · rw [ht]; rfl
    · rw [hf]; rfl
    · rw [hf, e1]; exact Dyn.Fits.refl _
    · rw [decide_eq_false_iff_not] at hf; omega
  · refine ⟨⟨hi, trivial⟩, fun ht => ?_, fun _ => ⟨rfl, Dyn.Fits.refl _⟩⟩
    rw [decide_eq_true_eq] at ht; omega
theorem rp_outer (l : Ctr) (hl : CtrB l) (w0 : Dyn.Base Tryz.prog) (s : Dyn.St) (o : Dyn.Out) (h : rpLp l 0 s = some o) : Dyn.BlockSound Tryz.prog w0 0 (.loop (unloopD (blkD Tryz.f56.body 0))) s o := by
  simp only [rpLp, Option.some.injEq] at h
  subst h
  refine side_one fun hS => ?_
  have hn := hl.1
  refine run_block (fuel := 3) tabPh_ok mo (lp := rpLp l) (by rw [rp_b0]; exact lpOk_cons (fun s o h => by cases h) (lpOk_cons (rp_inner l hl w0) (lpOk_cons (fun s o h => by cases h) lpOk_nil))) (fun k a => rpS l k a) l.n (rpO l) 0 rpR (keepR 33 [0] [] rpK [2]) (keepR_ent 33 _ _ _ _) (fun k a => rpBo l k a) (fun k a => rp_Bo l k a) (fun k a hk ha => ?_) (fun a ha => ?_) (hS ▸ keepA_ent 33 _ _ _ _ s)
  · have e1 : W ((k : Int) + 1) = ((k + 1 : Nat) : Int) := by rw [W_id (by omega) (by omega)]; omega
    unfold rpBo
    refine ⟨fun _ => ⟨⟨rfl, ⟨by omega, by omega⟩, trivial⟩, fun ht => .inl ⟨rfl, ht, ?_⟩, fun hf => .inr ⟨rfl, hf, Dyn.Fits.refl _⟩⟩, fun hf => ?_⟩
    · rw [e1]; exact Dyn.Fits.refl _
    · rw [decide_eq_false_iff_not] at hf; omega
  · refine ⟨fun ht => ?_, fun _ => ⟨rfl, Dyn.Fits.refl _⟩⟩
    rw [decide_eq_true_eq] at ht; omega
theorem rPoints_ok (l : Ctr) (hl : CtrB l) : Dyn.CallD Tryz.prog 56 [dvC l] (rI (rPoints l)) :=
  Dyn.dcontract (lp := rpLp l) (fuel := 3) tabPh_ok mo Tryz.func56 (by kernel_rfl) (c := bodyD Tryz.f56.body) (by kernel_rfl)
    (fun w0 => by rw [rp_blocks]; exact lpOk_cons (rp_outer l hl w0) (lpOk_cons (fun s o h => by cases h) (lpOk_cons (rp_inner l hl w0) (lpOk_cons (fun s o h => by cases h) lpOk_nil))))
    (by kernel_rfl) (O := .side [rpS l 0 0 = rpS l 0 0] (.ite (runN (rpO l) 0 l.n).1 (.leaf (rI (runN (rpO l) 0 l.n).2)) (.leaf (rI (-1))))) (by kernel_rfl) (by
      unfold rPoints
      refine ⟨⟨rfl, trivial⟩, fun h => ?_, fun h => ?_⟩
      · rw [h]; exact ro_leaf rfl
      · rw [h]; exact ro_leaf rfl)
/-! ### Count -/
def rcG (g : Sh → Int) (sh : Nat → Sh) (i : Nat) (a : Int) : Int := W (a + g (sh i))
def RCntOk (x : Sh) (g : Sh → Int) : Prop := Dyn.CallD Tryz.prog 44 [dvS x] (rI (g x))
def tdRc1 (Pd : Sh → Prop) (g : Sh → Int) : List Dyn.EntryD := [(44, en1D (qAnd qS Pd) fun x => rI (g x))]
def tabRc1 (Pd : Sh → Prop) (g : Sh → Int) : Dyn.Tabs := Dyn.tabs tbR (tdRc1 Pd g) noD dtyS
theorem tabRc1_ok {Pd : Sh → Prop} {g : Sh → Int} (ih : ∀ x, Pd x → RCntOk x g) : Dyn.TabsOk Tryz.prog (tabRc1 Pd g) :=
  Dyn.tabs_ok tbR_ok (List.forall_mem_cons.2 ⟨en1D_ok (qAnd_ok qS_ok) fun x h => ih x h.1, fun _ h => by cases h⟩)
def rcS1 (s : Sh) (i a : Int) : Dyn.St := mkS 22 [(1, sL 1), (2, .k (vi 0)), (3, sI a), (4, sI i)] [some (.deep (cS s)), some (.cells 45 (shV 0 8 s))]
def rcK1 : List Nat := [1, 2, 3, 4]
def rcLp1 (g : Sh → Int) (sh : Nat → Sh) (s : Sh) : Dyn.Lp := fun id st => match id with
  | 0 => some (.side [keepA 22 [0, 1] [] rcK1 (2 ^ 3 + 2 ^ 4) st = rcS1 s 0 1] (.leaf .normal (rcS1 s s.n (foldN (rcG g sh) 1 s.n))))
  | _ => none
def rcB1 (Pd : Sh → Prop) (g : Sh → Int) (sh : Nat → Sh) (s : Sh) (i : Nat) (a : Int) : Dyn.Out :=
  .ite (decide ((i : Int) < s.n)) (.side [0 ≤ (i : Int) ∧ (i : Int) < s.n, Pd (sh i), ctrSelf (sh i).l] (.leaf .normal (rcS1 s (W ((i : Int) + 1)) (rcG g sh i a)))) (.leaf (.exit 0) (rcS1 s i a))
theorem rc_B1 (Pd : Sh → Prop) (g : Sh → Int) (k : Int) (a0 b c : P2) (r : Int) (l : Ctr) (n : Nat) (add : Nat → Bool) (sh : Nat → Sh) (i : Nat) (a : Int) :
    (Dyn.lexec Tryz.prog (tabRc1 Pd g) (rcLp1 g sh (mkSh k a0 b c r l n add sh)) 3 (unloopD (blkD Tryz.f44.body 0)) .leaf (rcS1 (mkSh k a0 b c r l n add sh) i a)).rl (fun _ s => keepA 22 [0, 1] [] rcK1 0 s) = rcB1 Pd g sh (mkSh k a0 b c r l n add sh) i a := by kernel_rfl
theorem rc_blocks1 : blocksL (bodyD Tryz.f44.body) = [(0, .loop (unloopD (blkD Tryz.f44.body 0))), (1, blkD Tryz.f44.body 1)] := by kernel_rfl
theorem rc_b01 : blocksL (unloopD (blkD Tryz.f44.body 0)) = [(1, blkD Tryz.f44.body 1)] := by kernel_rfl
theorem rc_loop1 {Pd : Sh → Prop} {g : Sh → Int} (ih : ∀ x, Pd x → RCntOk x g) (k : Int) (a0 b c : P2) (r : Int) (l : Ctr) (n : Nat) (add : Nat → Bool) (sh : Nat → Sh) (hn : n ≤ 1000000000) (hP : ∀ i, i < n → Pd (sh i)) (w0 : Dyn.Base Tryz.prog) (s : Dyn.St) (o : Dyn.Out)
    (h : rcLp1 g sh (mkSh k a0 b c r l n add sh) 0 s = some o) : Dyn.BlockSound Tryz.prog w0 0 (.loop (unloopD (blkD Tryz.f44.body 0))) s o := by
  simp only [rcLp1, Option.some.injEq] at h
  subst h
  refine side_one fun hS => ?_
  refine fold_block (fuel := 3) (tabRc1_ok ih) mo (lp := rcLp1 g sh (mkSh k a0 b c r l n add sh)) (by rw [rc_b01]; exact lpOk_cons (fun s o h => by cases h) lpOk_nil) (fun i a => rcS1 (mkSh k a0 b c r l n add sh) i a) n (rcG g sh) 1 (fun _ s => keepA 22 [0, 1] [] rcK1 0 s) (fun _ s => keepA_ent 22 _ _ _ 0 s) (fun i a => rcB1 Pd g sh (mkSh k a0 b c r l n add sh) i a) (fun i a => rc_B1 Pd g k a0 b c r l n add sh i a) (fun i hi => ?_) ?_ (hS ▸ keepA_ent 22 _ _ _ _ s)
  · have e1 : W ((i : Int) + 1) = ((i + 1 : Nat) : Int) := by rw [W_id (by omega) (by omega)]; omega
    unfold rcB1
    refine ⟨fun _ => ⟨⟨⟨by omega, by show (i : Int) < (n : Int); omega⟩, hP _ hi, ctrSelf_ok _, trivial⟩, rfl, ?_⟩, fun hf => ?_⟩
    · rw [e1]; exact Dyn.Fits.refl _
    · rw [decide_eq_false_iff_not] at hf; exact absurd (show (i : Int) < (n : Int) by omega) hf
  · refine ⟨fun ht => ?_, fun _ => ⟨rfl, Dyn.Fits.refl _⟩⟩
    rw [decide_eq_true_eq] at ht; exact absurd (show (n : Int) < (n : Int) from ht) (by omega)
theorem rCnt_lvl {Pd : Sh → Prop} {g : Sh → Int} (ih : ∀ x, Pd x → RCntOk x g) (k : Int) (a0 b c : P2) (r : Int) (l : Ctr) (n : Nat) (add : Nat → Bool) (sh : Nat → Sh) (hn : n ≤ 1000000000) (hP : ∀ i, i < n → Pd (sh i)) :
    Dyn.CallD Tryz.prog 44 [dvS (mkSh k a0 b c r l n add sh)] (rI (foldN (rcG g sh) 1 n)) :=
  Dyn.dcontract (lp := rcLp1 g sh (mkSh k a0 b c r l n add sh)) (fuel := 3) (tabRc1_ok ih) mo Tryz.func44 (by kernel_rfl) (c := bodyD Tryz.f44.body) (by kernel_rfl)
    (fun w0 => by rw [rc_blocks1]; exact lpOk_cons (rc_loop1 ih k a0 b c r l n add sh hn hP w0) (lpOk_cons (fun s o h => by cases h) lpOk_nil))
    (by kernel_rfl) (O := .side [rcS1 (mkSh k a0 b c r l n add sh) 0 1 = rcS1 (mkSh k a0 b c r l n add sh) 0 1] (.leaf (rI (foldN (rcG g sh) 1 n)))) (by kernel_rfl) ⟨⟨rfl, trivial⟩, ro_leaf rfl⟩
def rCnt : Shp → Int
  | .nil => 0
  | .mk _ _ _ _ _ _ n _ sub => foldN (fun i a => W (a + rCnt (sub i))) 1 n
noncomputable def rCntE (x : Sh) : Int := rCnt (ofSh x)
theorem rCntE_eq (s : Shp) : rCntE (toSh s) = rCnt s := by unfold rCntE; rw [ofSh_toSh]
theorem rCnt_ok : ∀ s : Shp, ShB s → RCntOk (toSh s) rCntE := by
  intro s
  induction s with
  | nil => intro h; exact h.elim
  | mk k a b c r l n add sub ih =>
    intro h
    show Dyn.CallD Tryz.prog 44 _ (rI (rCntE (toSh (.mk k a b c r l n add sub))))
    rw [rCntE_eq, show rCnt (.mk k a b c r l n add sub) = foldN (rcG rCntE fun i => toSh (sub i)) 1 n by
      unfold rcG
      simp only [rCntE_eq]
      rfl]
    exact rCnt_lvl (Pd := fun x => ∃ i, i < n ∧ x = toSh (sub i)) (fun x hx => by
      obtain ⟨i, hi, rfl⟩ := hx
      exact ih i (h.2.2 i hi)) k a b c r l n add (fun i => toSh (sub i)) h.2.1 (fun i hi => ⟨i, hi, rfl⟩)
theorem rCnt_all : ∀ x, PdS x → RCntOk x rCntE := fun x hx => by
  have k := rCnt_ok _ hx.1
  unfold RCntOk at k ⊢
  rw [show rCntE (toSh (ofSh x)) = rCntE x by unfold rCntE; rw [ofSh_toSh]] at k
  exact CallD_le (args := [dvS (toSh (ofSh x))]) ⟨SLe.dv hx.2, trivial⟩ k
end Go.Proofs.YthnenjodighlmaaGreat
