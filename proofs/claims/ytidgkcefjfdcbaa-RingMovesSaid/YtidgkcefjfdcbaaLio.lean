/-
  OWN WORK. Strokes: a point is in one just if some point of the segment is near enough; so a box is within if its corners are, and outside if corners, ends and the segment say so.
-/
import Derived.Test.YtidgkcefjfdcbaaBat
namespace Go.Proofs.Ytidgkcefjfdcbaa
open Go Go.RowKit Sym

/-- the point at m / n of the segment is near p: the square of the distance is at most R -/
structure Seg (p a c : P2) (R m n : Int) : Prop where
  n0 : 0 < n
  m0 : 0 ≤ m
  mn : m ≤ n
  d : (n * (p.x - a.x) - m * (c.x - a.x)) * (n * (p.x - a.x) - m * (c.x - a.x)) + (n * (p.y - a.y) - m * (c.y - a.y)) * (n * (p.y - a.y) - m * (c.y - a.y)) ≤ n * n * R
def OnS (p a c : P2) (R : Int) : Prop := ∃ m n, Seg p a c R m n
theorem sq_pos {n : Int} (h : 0 < n) : 0 < n * n := Int.mul_pos h h
theorem seg_norm (p a c : P2) (m n : Int) : (n * (p.x - a.x) - m * (c.x - a.x)) * (n * (p.x - a.x) - m * (c.x - a.x)) + (n * (p.y - a.y) - m * (c.y - a.y)) * (n * (p.y - a.y) - m * (c.y - a.y))
    = n * n * distI p a - 2 * (n * m * dotI a c p) + m * m * distI a c := by unfold distI dotI; grind
theorem lineI_iff {p a c : P2} {r : Int} : lineI p a c r = true ↔ OnS p a c (r * r) := by
  have hL := dist_nn a c
  have l1 := lagrange a c p
  have l2 := lagrange2 a c p
  generalize hR : r * r = R
  have hRn : 0 ≤ R := hR ▸ sq_nn r
  unfold lineI clear
  rw [hR]
  constructor
  · intro h
    by_cases k : dotI a c p ≤ 0
    · rw [if_pos k, decide_eq_true_eq] at h
      exact ⟨0, 1, by decide, by decide, by decide, by rw [seg_norm]; omega⟩
    · rw [if_neg k] at h
      by_cases k' : dotI a c p ≥ distI a c
      · rw [if_pos k', decide_eq_true_eq] at h
        refine ⟨1, 1, by decide, by decide, by decide, ?_⟩
        have : (1 * (p.x - a.x) - 1 * (c.x - a.x)) * (1 * (p.x - a.x) - 1 * (c.x - a.x)) + (1 * (p.y - a.y) - 1 * (c.y - a.y)) * (1 * (p.y - a.y) - 1 * (c.y - a.y)) = distI p c := by unfold distI; grind
        omega
      · rw [if_neg k', decide_eq_true_eq] at h
        refine ⟨dotI a c p, distI a c, by omega, by omega, by omega, ?_⟩
        rw [seg_norm]
        have g := Int.mul_le_mul_of_nonneg_left h hL
        clear l2 k k' h
        generalize dotI a c p = T at *
        generalize distI a c = L at *
        generalize crossI a c p = K at *
        generalize distI p a = A at *
        have e1 : L * L * A = L * (T * T + K * K) := by rw [← l1]; grind
        have e2 : L * (T * T + K * K) - 2 * (L * T * T) + T * T * L = L * (K * K) := by grind
        have e3 : L * L * R = L * (R * L) := by grind
        rw [e1, e2, e3]; exact g
  · rintro ⟨m, n, n0, m0, mn, h⟩
    rw [seg_norm] at h
    have hn := sq_pos n0
    by_cases k : dotI a c p ≤ 0
    · rw [if_pos k, decide_eq_true_eq]
      have e1 := Int.mul_nonneg (Int.mul_nonneg (show 0 ≤ n by omega) m0) (show 0 ≤ -dotI a c p by omega)
      have e2 := Int.mul_nonneg (Int.mul_nonneg m0 m0) hL
      have e3 : n * m * -dotI a c p = -(n * m * dotI a c p) := by grind
      exact Int.le_of_mul_le_mul_left (a := n * n) (by omega) hn
    · rw [if_neg k]
      by_cases k' : dotI a c p ≥ distI a c
      · rw [if_pos k', decide_eq_true_eq]
        have e0 : distI p c = distI p a - 2 * dotI a c p + distI a c := by unfold distI dotI; grind
        have e1 := Int.mul_nonneg (Int.mul_nonneg (show 0 ≤ n by omega) (show 0 ≤ n - m by omega)) (show 0 ≤ dotI a c p - distI a c by omega)
        have e2 := Int.mul_nonneg (Int.mul_nonneg (show 0 ≤ n - m by omega) (show 0 ≤ n - m by omega)) hL
        refine Int.le_of_mul_le_mul_left (a := n * n) ?_ hn
        rw [e0]
        generalize distI p a = A at *
        generalize dotI a c p = T at *
        generalize distI a c = L at *
        grind
      · rw [if_neg k', decide_eq_true_eq]
        have e1 := Int.mul_le_mul_of_nonneg_left h hL
        have e2 := sq_nn (n * dotI a c p - m * distI a c)
        refine Int.le_of_mul_le_mul_left (a := n * n) ?_ hn
        generalize dotI a c p = T at *
        generalize distI a c = L at *
        generalize crossI a c p = K at *
        generalize distI p a = A at *
        have e3 : L * (n * n * A - 2 * (n * m * T) + m * m * L) = n * n * (L * A) - 2 * (n * m * (T * L)) + m * m * (L * L) := by grind
        rw [e3, l1] at e1
        have e4 : n * n * (T * T + K * K) - 2 * (n * m * (T * L)) + m * m * (L * L) = (n * T - m * L) * (n * T - m * L) + n * n * (K * K) := by grind
        have e5 : L * (n * n * R) = n * n * (R * L) := by grind
        rw [e4, e5] at e1
        omega

/-! ### strokes are convex -/
theorem conv2 {x1 y1 x2 y2 u v S : Int} (h1 : x1 * x1 + y1 * y1 ≤ S) (h2 : x2 * x2 + y2 * y2 ≤ S) (hu : 0 ≤ u) (hv : 0 ≤ v) :
    (u * x1 + v * x2) * (u * x1 + v * x2) + (u * y1 + v * y2) * (u * y1 + v * y2) ≤ (u + v) * (u + v) * S := by
  have a := Int.mul_le_mul_of_nonneg_left h1 (Int.mul_nonneg hu hu)
  have b := Int.mul_le_mul_of_nonneg_left h2 (Int.mul_nonneg hv hv)
  have c1 := sq_nn (x1 - x2); have c2 := sq_nn (y1 - y2)
  have c : 2 * (x1 * x2 + y1 * y2) ≤ 2 * S := by grind
  have d := Int.mul_le_mul_of_nonneg_left c (Int.mul_nonneg hu hv)
  grind
theorem onS_mix {p q s a c : P2} {R u v : Int} (hp : OnS p a c R) (hq : OnS q a c R) (hu : 0 ≤ u) (hv : 0 ≤ v) (huv : 0 < u + v) (hx : (u + v) * s.x = u * p.x + v * q.x) (hy : (u + v) * s.y = u * p.y + v * q.y) : OnS s a c R := by
  obtain ⟨m1, n1, n10, m10, mn1, d1⟩ := hp
  obtain ⟨m2, n2, n20, m20, mn2, d2⟩ := hq
  refine ⟨u * (n2 * m1) + v * (n1 * m2), n1 * n2 * (u + v), Int.mul_pos (Int.mul_pos n10 n20) huv, ?_, ?_, ?_⟩
  · have := Int.mul_nonneg hu (Int.mul_nonneg (Int.le_of_lt n20) m10)
    have := Int.mul_nonneg hv (Int.mul_nonneg (Int.le_of_lt n10) m20)
    omega
  · have a1 := Int.mul_le_mul_of_nonneg_left (Int.mul_le_mul_of_nonneg_left mn1 (Int.le_of_lt n20)) hu
    have a2 := Int.mul_le_mul_of_nonneg_left (Int.mul_le_mul_of_nonneg_left mn2 (Int.le_of_lt n10)) hv
    have e : n1 * n2 * (u + v) = u * (n2 * n1) + v * (n1 * n2) := by grind
    omega
  · have k1 := Int.mul_le_mul_of_nonneg_left d1 (Int.le_of_lt (sq_pos n20))
    have k2 := Int.mul_le_mul_of_nonneg_left d2 (Int.le_of_lt (sq_pos n10))
    have cv := conv2 (x1 := n2 * (n1 * (p.x - a.x) - m1 * (c.x - a.x))) (y1 := n2 * (n1 * (p.y - a.y) - m1 * (c.y - a.y))) (x2 := n1 * (n2 * (q.x - a.x) - m2 * (c.x - a.x))) (y2 := n1 * (n2 * (q.y - a.y) - m2 * (c.y - a.y))) (S := n1 * n1 * (n2 * n2) * R) (u := u) (v := v) (by grind) (by grind) hu hv
    have ex : n1 * n2 * (u + v) * (s.x - a.x) - (u * (n2 * m1) + v * (n1 * m2)) * (c.x - a.x) = u * (n2 * (n1 * (p.x - a.x) - m1 * (c.x - a.x))) + v * (n1 * (n2 * (q.x - a.x) - m2 * (c.x - a.x))) := by
      have : n1 * n2 * (u + v) * (s.x - a.x) = n1 * n2 * ((u + v) * s.x) - n1 * n2 * (u + v) * a.x := by grind
      rw [this, hx]; grind
    have ey : n1 * n2 * (u + v) * (s.y - a.y) - (u * (n2 * m1) + v * (n1 * m2)) * (c.y - a.y) = u * (n2 * (n1 * (p.y - a.y) - m1 * (c.y - a.y))) + v * (n1 * (n2 * (q.y - a.y) - m2 * (c.y - a.y))) := by
      have : n1 * n2 * (u + v) * (s.y - a.y) = n1 * n2 * ((u + v) * s.y) - n1 * n2 * (u + v) * a.y := by grind
      rw [this, hy]; grind
    rw [ex, ey]
    have er : n1 * n2 * (u + v) * (n1 * n2 * (u + v)) * R = (u + v) * (u + v) * (n1 * n1 * (n2 * n2) * R) := by grind
    rw [er]; exact cv
theorem onS_row {x0 x1 x y : Int} {a c : P2} {R : Int} (h0 : OnS ⟨x0, y⟩ a c R) (h1 : OnS ⟨x1, y⟩ a c R) (hl : x0 ≤ x) (hr : x ≤ x1) : OnS ⟨x, y⟩ a c R := by
  by_cases k : x0 = x1
  · have : x = x0 := by omega
    rw [this]; exact h0
  · exact onS_mix (u := x1 - x) (v := x - x0) h0 h1 (by omega) (by omega) (by omega) (by dsimp only; grind) (by dsimp only; grind)
theorem onS_col {y0 y1 x y : Int} {a c : P2} {R : Int} (h0 : OnS ⟨x, y0⟩ a c R) (h1 : OnS ⟨x, y1⟩ a c R) (hl : y0 ≤ y) (hr : y ≤ y1) : OnS ⟨x, y⟩ a c R := by
  by_cases k : y0 = y1
  · have : y = y0 := by omega
    rw [this]; exact h0
  · exact onS_mix (u := y1 - y) (v := y - y0) h0 h1 (by omega) (by omega) (by omega) (by dsimp only; grind) (by dsimp only; grind)
theorem onS_in {b : B4} {q a c : P2} {R : Int} (hq : hasI b q) (h : ∀ k, isC b k → OnS k a c R) : OnS q a c R := by
  obtain ⟨h1, h2, h3, h4⟩ := hq
  exact onS_col (onS_row (h ⟨b.x0, b.y0⟩ ⟨.inl rfl, .inl rfl⟩) (h ⟨b.x1, b.y0⟩ ⟨.inr rfl, .inl rfl⟩) h1 h2) (onS_row (h ⟨b.x0, b.y1⟩ ⟨.inl rfl, .inr rfl⟩) (h ⟨b.x1, b.y1⟩ ⟨.inr rfl, .inr rfl⟩) h1 h2) h3 h4
theorem line_in {b : B4} {q a c : P2} {r : Int} (hq : hasI b q) (h : all4 (fun q => lineI q a c r) b = true) : lineI q a c r = true := by
  rw [lineI_iff]
  exact onS_in hq fun k hk => lineI_iff.1 (all4_iff.1 h k hk)
theorem onS_flip {p a c : P2} {R : Int} (h : OnS p a c R) : OnS p c a R := by
  obtain ⟨m, n, n0, m0, mn, d⟩ := h
  refine ⟨n - m, n, n0, by omega, by omega, ?_⟩
  have e1 : n * (p.x - c.x) - (n - m) * (a.x - c.x) = n * (p.x - a.x) - m * (c.x - a.x) := by grind
  have e2 : n * (p.y - c.y) - (n - m) * (a.y - c.y) = n * (p.y - a.y) - m * (c.y - a.y) := by grind
  rw [e1, e2]; exact d
theorem lineI_flip (p a c : P2) (r : Int) : lineI p c a r = lineI p a c r := by
  rw [Bool.eq_iff_iff, lineI_iff, lineI_iff]
  exact ⟨onS_flip, onS_flip⟩
theorem onS_mono {p a c : P2} {R S : Int} (h : R ≤ S) (k : OnS p a c R) : OnS p a c S := by
  obtain ⟨m, n, n0, m0, mn, d⟩ := k
  exact ⟨m, n, n0, m0, mn, Int.le_trans d (Int.mul_le_mul_of_nonneg_left h (Int.le_of_lt (sq_pos n0)))⟩

/-! ### outside -/
/-- two points of a box, weighed, are no nearer than the box -/
theorem near_mix {b : B4} {p q k : P2} {u v : Int} (hq : hasI b q) (hk : hasI b k) (hu : 0 ≤ u) (hv : 0 ≤ v) :
    (u + v) * (u + v) * nearI b p ≤ (u * (q.x - p.x) + v * (k.x - p.x)) * (u * (q.x - p.x) + v * (k.x - p.x)) + (u * (q.y - p.y) + v * (k.y - p.y)) * (u * (q.y - p.y) + v * (k.y - p.y)) := by
  have one : ∀ w lo hi x y : Int, lo ≤ x → x ≤ hi → lo ≤ y → y ≤ hi → (u + v) * gapI w lo hi * ((u + v) * gapI w lo hi) ≤ (u * (x - w) + v * (y - w)) * (u * (x - w) + v * (y - w)) := fun w lo hi x y a1 a2 a3 a4 => by
    unfold gapI; split
    · rename_i g
      have e1 := Int.mul_le_mul_of_nonneg_left (show lo - w ≤ x - w by omega) hu
      have e2 := Int.mul_le_mul_of_nonneg_left (show lo - w ≤ y - w by omega) hv
      have e3 : (u + v) * (lo - w) = u * (lo - w) + v * (lo - w) := by grind
      have e4 := Int.mul_nonneg (show 0 ≤ u + v by omega) (show 0 ≤ lo - w by omega)
      exact sq_le (by omega) (by omega)
    · split
      · rename_i g
        have e1 := Int.mul_le_mul_of_nonneg_left (show w - hi ≤ w - x by omega) hu
        have e2 := Int.mul_le_mul_of_nonneg_left (show w - hi ≤ w - y by omega) hv
        have e3 : (u + v) * (w - hi) = u * (w - hi) + v * (w - hi) := by grind
        have e4 := Int.mul_nonneg (show 0 ≤ u + v by omega) (show 0 ≤ w - hi by omega)
        have e5 : (u * (x - w) + v * (y - w)) * (u * (x - w) + v * (y - w)) = (u * (w - x) + v * (w - y)) * (u * (w - x) + v * (w - y)) := by grind
        rw [e5]
        exact sq_le (by omega) (by omega)
      · have := sq_nn (u * (x - w) + v * (y - w))
        simpa using this
  obtain ⟨q1, q2, q3, q4⟩ := hq
  obtain ⟨k1, k2, k3, k4⟩ := hk
  have a := one p.x b.x0 b.x1 q.x k.x q1 q2 k1 k2
  have c := one p.y b.y0 b.y1 q.y k.y q3 q4 k3 k4
  unfold nearI
  generalize gapI p.x b.x0 b.x1 = G at *
  generalize gapI p.y b.y0 b.y1 = H at *
  have e : (u + v) * (u + v) * (G * G + H * H) = (u + v) * G * ((u + v) * G) + (u + v) * H * ((u + v) * H) := by grind
  omega
/-- what a box says when a point of it is in the stroke -/
def Told (b : B4) (a c : P2) (R : Int) : Prop := (∃ k, isC b k ∧ OnS k a c R) ∨ nearI b a ≤ R ∨ nearI b c ≤ R
/-- on the one side of the line -/
theorem told_side {b : B4} {q a c : P2} {r : Int} (hx : b.x0 ≤ b.x1) (hy : b.y0 ≤ b.y1) (hq : hasI b q) (hi : lineI q a c r = true) (hs : ∀ k, isC b k → crossI a c k > 0) : Told b a c (r * r) := by
  obtain ⟨k, hk, hl⟩ := cross_le a c hq
  have hk0 := hs k hk
  have hkb := isC_has hx hy hk
  have hL := dist_nn a c
  unfold lineI at hi
  by_cases k1 : dotI a c q ≤ 0
  · rw [if_pos k1, decide_eq_true_eq, distI_comm] at hi
    exact .inr (.inl (Int.le_trans (near_le hq) hi))
  · rw [if_neg k1] at hi
    by_cases k2 : dotI a c q ≥ distI a c
    · rw [if_pos k2, decide_eq_true_eq, distI_comm] at hi
      exact .inr (.inr (Int.le_trans (near_le hq) hi))
    · rw [if_neg k2] at hi
      unfold clear at hi
      rw [decide_eq_true_eq] at hi
      have s : ¬ same a c := fun x => by have := (dist_pos a c).2 x; omega
      have hLp : 0 < distI a c := by omega
      have mix : ∀ (o : P2) (u v : Int), 0 ≤ u → 0 ≤ v → 0 < u + v → (u * (q.x - o.x) + v * (k.x - o.x)) * (c.x - a.x) + (u * (q.y - o.y) + v * (k.y - o.y)) * (c.y - a.y) = 0 →
          (c.x - a.x) * (u * (q.y - o.y) + v * (k.y - o.y)) - (c.y - a.y) * (u * (q.x - o.x) + v * (k.x - o.x)) = u * crossI a c q + v * crossI a c k → nearI b o ≤ r * r := fun o u v hu hv huv hz hc => by
        have n := near_mix (p := o) hq hkb hu hv
        generalize u * (q.x - o.x) + v * (k.x - o.x) = X at *
        generalize u * (q.y - o.y) + v * (k.y - o.y) = Y at *
        have g1 : distI a c * (X * X + Y * Y) = (X * (c.x - a.x) + Y * (c.y - a.y)) * (X * (c.x - a.x) + Y * (c.y - a.y)) + ((c.x - a.x) * Y - (c.y - a.y) * X) * ((c.x - a.x) * Y - (c.y - a.y) * X) := by unfold distI; grind
        rw [hz, hc] at g1
        have g2 : u * crossI a c q + v * crossI a c k ≤ (u + v) * crossI a c q := by
          have := Int.mul_le_mul_of_nonneg_left hl hv
          have e : (u + v) * crossI a c q = u * crossI a c q + v * crossI a c q := by grind
          omega
        have g3 : 0 ≤ u * crossI a c q + v * crossI a c k := by
          have := Int.mul_nonneg hu (show 0 ≤ crossI a c q by omega)
          have := Int.mul_nonneg hv (show 0 ≤ crossI a c k by omega)
          omega
        have g4 := sq_le (x := u * crossI a c q + v * crossI a c k) (y := (u + v) * crossI a c q) (by omega) g2
        have g5 := Int.mul_le_mul_of_nonneg_left hi (Int.le_of_lt (sq_pos huv))
        have g6 : distI a c * (X * X + Y * Y) ≤ distI a c * ((u + v) * (u + v) * (r * r)) := by
          have e1 : (u + v) * crossI a c q * ((u + v) * crossI a c q) = (u + v) * (u + v) * (crossI a c q * crossI a c q) := by grind
          have e2 : (u + v) * (u + v) * (r * r * distI a c) = distI a c * ((u + v) * (u + v) * (r * r)) := by grind
          omega
        have g7 := Int.le_of_mul_le_mul_left g6 hLp
        exact Int.le_of_mul_le_mul_left (a := (u + v) * (u + v)) (by omega) (sq_pos huv)
      by_cases k3 : dotI a c k < 0
      · refine .inr (.inl (mix a (-dotI a c k) (dotI a c q) (by omega) (by omega) (by omega) ?_ ?_))
        · unfold dotI; grind
        · unfold crossI; grind
      · by_cases k4 : dotI a c k > distI a c
        · refine .inr (.inr (mix c (dotI a c k - distI a c) (distI a c - dotI a c q) (by omega) (by omega) (by omega) ?_ ?_))
          · unfold dotI distI; grind
          · unfold crossI; grind
        · refine .inl ⟨k, hk, lineI_iff.1 ?_⟩
          rw [lineI_bar s (by omega) (by omega)]
          unfold clear
          rw [decide_eq_true_eq]
          have := sq_le (x := crossI a c k) (y := crossI a c q) (by omega) hl
          omega
/-- the segment is left of the box, its right end is above it -/
theorem sep_core {ax ay vx vy qx qy X0 Y1 m n R : Int} (hv : 0 ≤ vx) (h1 : ax + vx < X0) (h2 : X0 ≤ qx) (h3 : qy ≤ Y1) (h4 : Y1 < ay + vy) (n0 : 0 < n) (m0 : 0 ≤ m) (mn : m ≤ n)
    (d : (n * (qx - ax) - m * vx) * (n * (qx - ax) - m * vx) + (n * (qy - ay) - m * vy) * (n * (qy - ay) - m * vy) ≤ n * n * R) :
    ∃ m' n', 0 < n' ∧ 0 ≤ m' ∧ m' ≤ n' ∧ (n' * (X0 - ax) - m' * vx) * (n' * (X0 - ax) - m' * vx) + (n' * (Y1 - ay) - m' * vy) * (n' * (Y1 - ay) - m' * vy) ≤ n' * n' * R := by
  have mv : m * vx ≤ n * vx := Int.mul_le_mul_of_nonneg_right mn hv
  have x1 : n * (ax + vx) < n * X0 := Int.mul_lt_mul_of_pos_left h1 n0
  have x2 : n * X0 ≤ n * qx := Int.mul_le_mul_of_nonneg_left h2 (by omega)
  have y2 : n * qy ≤ n * Y1 := Int.mul_le_mul_of_nonneg_left h3 (by omega)
  have ea : n * (ax + vx) = n * ax + n * vx := by grind
  have eb : n * (X0 - ax) = n * X0 - n * ax := by grind
  have ec : n * (qx - ax) = n * qx - n * ax := by grind
  have ed : n * (Y1 - ay) = n * Y1 - n * ay := by grind
  have ee : n * (qy - ay) = n * qy - n * ay := by grind
  have hX0 : 0 ≤ n * (X0 - ax) - m * vx := by omega
  have hX : n * (X0 - ax) - m * vx ≤ n * (qx - ax) - m * vx := by omega
  by_cases k : n * Y1 ≤ n * ay + m * vy
  · refine ⟨m, n, n0, m0, mn, ?_⟩
    have s1 := sq_le (x := n * (X0 - ax) - m * vx) (y := n * (qx - ax) - m * vx) (by omega) hX
    have s2 := sq_le (x := -(n * (Y1 - ay) - m * vy)) (y := -(n * (qy - ay) - m * vy)) (by omega) (by omega)
    have e1 : -(n * (Y1 - ay) - m * vy) * -(n * (Y1 - ay) - m * vy) = (n * (Y1 - ay) - m * vy) * (n * (Y1 - ay) - m * vy) := by grind
    have e2 : -(n * (qy - ay) - m * vy) * -(n * (qy - ay) - m * vy) = (n * (qy - ay) - m * vy) * (n * (qy - ay) - m * vy) := by grind
    omega
  · have y1 : n * Y1 < n * (ay + vy) := Int.mul_lt_mul_of_pos_left h4 n0
    have ef : n * (ay + vy) = n * ay + n * vy := by grind
    have hnm : 0 < (n - m) * vy := by
      have : (n - m) * vy = n * vy - m * vy := by grind
      omega
    have hvy : 0 < vy := by
      rcases Int.lt_or_le 0 vy with g | g
      · exact g
      · have := Int.mul_nonneg (show 0 ≤ n - m by omega) (show 0 ≤ -vy by omega)
        have e : (n - m) * -vy = -((n - m) * vy) := by grind
        omega
    have hmy : 0 ≤ m * vy := Int.mul_nonneg m0 (by omega)
    have hay : ay ≤ Y1 := by
      have : n * ay ≤ n * Y1 := by omega
      exact Int.le_of_mul_le_mul_left this n0
    refine ⟨Y1 - ay, vy, hvy, by omega, by omega, ?_⟩
    have z : vy * (Y1 - ay) - (Y1 - ay) * vy = 0 := by grind
    rw [z]
    have w0 : 0 ≤ vy * (X0 - ax) - (Y1 - ay) * vx := by
      have t1 := Int.mul_le_mul_of_nonneg_right (show Y1 - ay ≤ vy by omega) hv
      have t2 := Int.mul_nonneg (show 0 ≤ vy by omega) (show 0 ≤ X0 - ax - vx by omega)
      have e : vy * (X0 - ax - vx) = vy * (X0 - ax) - vy * vx := by grind
      omega
    have w1 : n * (vy * (X0 - ax) - (Y1 - ay) * vx) ≤ vy * (n * (qx - ax) - m * vx) := by
      have t1 := Int.mul_le_mul_of_nonneg_right (show m * vy ≤ n * (Y1 - ay) by omega) hv
      have t2 := Int.mul_le_mul_of_nonneg_left hX (show 0 ≤ vy by omega)
      have e1 : n * (vy * (X0 - ax) - (Y1 - ay) * vx) = vy * (n * (X0 - ax)) - n * (Y1 - ay) * vx := by grind
      have e2 : vy * (n * (X0 - ax) - m * vx) = vy * (n * (X0 - ax)) - m * vy * vx := by grind
      omega
    have w2 := sq_le (x := n * (vy * (X0 - ax) - (Y1 - ay) * vx)) (y := vy * (n * (qx - ax) - m * vx)) (by have := Int.mul_nonneg (show 0 ≤ n by omega) w0; omega) w1
    have w3 := sq_nn (n * (qy - ay) - m * vy)
    have w4 := Int.mul_le_mul_of_nonneg_left (show (n * (qx - ax) - m * vx) * (n * (qx - ax) - m * vx) ≤ n * n * R by omega) (Int.le_of_lt (sq_pos hvy))
    refine Int.le_of_mul_le_mul_left (a := n * n) ?_ (sq_pos n0)
    generalize vy * (X0 - ax) - (Y1 - ay) * vx = F at *
    generalize n * (qx - ax) - m * vx = G at *
    have e1 : n * F * (n * F) = n * n * (F * F) := by grind
    have e2 : vy * G * (vy * G) = vy * vy * (G * G) := by grind
    have e3 : n * n * (vy * vy * R) = vy * vy * (n * n * R) := by grind
    simp only [Int.mul_zero, Int.add_zero]
    omega
theorem told_left0 {b : B4} {q a c : P2} {R : Int} (hx : b.x0 ≤ b.x1) (hq : hasI b q) (hi : OnS q a c R) (hac : a.x ≤ c.x) (h : c.x < b.x0) : Told b a c R := by
  obtain ⟨m, n, n0, m0, mn, d⟩ := hi
  obtain ⟨q1, q2, q3, q4⟩ := hq
  by_cases k1 : b.y1 < c.y
  · obtain ⟨m', n', a1, a2, a3, a4⟩ := sep_core (vx := c.x - a.x) (vy := c.y - a.y) (X0 := b.x0) (Y1 := b.y1) (by omega) (by omega) q1 q4 (by omega) n0 m0 mn d
    exact .inl ⟨⟨b.x0, b.y1⟩, ⟨.inl rfl, .inr rfl⟩, m', n', a1, a2, a3, a4⟩
  · by_cases k2 : c.y < b.y0
    · have d' : (n * (q.x - a.x) - m * (c.x - a.x)) * (n * (q.x - a.x) - m * (c.x - a.x)) + (n * (-q.y - -a.y) - m * (-(c.y - a.y))) * (n * (-q.y - -a.y) - m * (-(c.y - a.y))) ≤ n * n * R := by
        have e : n * (-q.y - -a.y) - m * (-(c.y - a.y)) = -(n * (q.y - a.y) - m * (c.y - a.y)) := by grind
        rw [e, Int.neg_mul_neg]; exact d
      obtain ⟨m', n', a1, a2, a3, a4⟩ := sep_core (vx := c.x - a.x) (vy := -(c.y - a.y)) (X0 := b.x0) (Y1 := -b.y0) (by omega) (by omega) q1 (by omega) (by omega) n0 m0 mn d'
      refine .inl ⟨⟨b.x0, b.y0⟩, ⟨.inl rfl, .inl rfl⟩, m', n', a1, a2, a3, ?_⟩
      have e : n' * (-b.y0 - -a.y) - m' * (-(c.y - a.y)) = -(n' * (b.y0 - a.y) - m' * (c.y - a.y)) := by grind
      rw [e, Int.neg_mul_neg] at a4
      exact a4
    · refine .inr (.inr ?_)
      have e1 : gapI c.x b.x0 b.x1 = b.x0 - c.x := by unfold gapI; rw [if_pos h]
      have e2 : gapI c.y b.y0 b.y1 = 0 := by unfold gapI; rw [if_neg (by omega), if_neg (by omega)]
      unfold nearI
      rw [e1, e2]
      have t1 := Int.mul_le_mul_of_nonneg_right mn (show 0 ≤ c.x - a.x by omega)
      have t2 := Int.mul_le_mul_of_nonneg_left q1 (show 0 ≤ n by omega)
      have ea : n * (q.x - a.x) = n * q.x - n * a.x := by grind
      have eb : n * (c.x - a.x) = n * c.x - n * a.x := by grind
      have ec : n * (b.x0 - c.x) = n * b.x0 - n * c.x := by grind
      have s := sq_le (x := n * (b.x0 - c.x)) (y := n * (q.x - a.x) - m * (c.x - a.x)) (by have := Int.mul_nonneg (show 0 ≤ n by omega) (show 0 ≤ b.x0 - c.x by omega); omega) (by omega)
      have w := sq_nn (n * (q.y - a.y) - m * (c.y - a.y))
      refine Int.le_of_mul_le_mul_left (a := n * n) ?_ (sq_pos n0)
      have e3 : n * (b.x0 - c.x) * (n * (b.x0 - c.x)) = n * n * ((b.x0 - c.x) * (b.x0 - c.x) + 0 * 0) := by grind
      omega
theorem told_flip {b : B4} {a c : P2} {R : Int} (h : Told b c a R) : Told b a c R := by
  rcases h with ⟨k, hk, hs⟩ | h | h
  · exact .inl ⟨k, hk, onS_flip hs⟩
  · exact .inr (.inr h)
  · exact .inr (.inl h)
theorem told_left {b : B4} {q a c : P2} {R : Int} (hx : b.x0 ≤ b.x1) (hq : hasI b q) (hi : OnS q a c R) (h1 : a.x < b.x0) (h2 : c.x < b.x0) : Told b a c R := by
  rcases Int.le_total a.x c.x with k | k
  · exact told_left0 hx hq hi k h2
  · exact told_flip (told_left0 hx hq (onS_flip hi) k h1)
def ngX (p : P2) : P2 := ⟨-p.x, p.y⟩
def ngB (b : B4) : B4 := ⟨-b.x1, b.y0, -b.x0, b.y1⟩
def swP (p : P2) : P2 := ⟨p.y, p.x⟩
def swB (b : B4) : B4 := ⟨b.y0, b.x0, b.y1, b.x1⟩
theorem onS_ng {p a c : P2} {R : Int} (h : OnS p a c R) : OnS (ngX p) (ngX a) (ngX c) R := by
  obtain ⟨m, n, n0, m0, mn, d⟩ := h
  refine ⟨m, n, n0, m0, mn, ?_⟩
  unfold ngX; dsimp only
  have e : n * (-p.x - -a.x) - m * (-c.x - -a.x) = -(n * (p.x - a.x) - m * (c.x - a.x)) := by grind
  rw [e, Int.neg_mul_neg]; exact d
theorem onS_sw {p a c : P2} {R : Int} (h : OnS p a c R) : OnS (swP p) (swP a) (swP c) R := by
  obtain ⟨m, n, n0, m0, mn, d⟩ := h
  refine ⟨m, n, n0, m0, mn, ?_⟩
  unfold swP; dsimp only; omega
theorem told_ng {b : B4} {a c : P2} {R : Int} (hx : b.x0 ≤ b.x1) (h : Told (ngB b) (ngX a) (ngX c) R) : Told b a c R := by
  have e : ∀ p, nearI (ngB b) (ngX p) = nearI b p := fun p => by unfold nearI ngB ngX; dsimp only; rw [gapI_neg _ _ _ hx]
  rcases h with ⟨k, ⟨h1, h2⟩, hs⟩ | h | h
  · refine .inl ⟨ngX k, ⟨?_, h2⟩, ?_⟩
    · unfold ngX; unfold ngB at h1; dsimp only at *; omega
    · have := onS_ng hs
      unfold ngX at this ⊢; simpa using this
  · rw [e] at h; exact .inr (.inl h)
  · rw [e] at h; exact .inr (.inr h)
theorem told_sw {b : B4} {a c : P2} {R : Int} (h : Told (swB b) (swP a) (swP c) R) : Told b a c R := by
  have e : ∀ p, nearI (swB b) (swP p) = nearI b p := fun p => by unfold nearI swB swP; dsimp only; omega
  rcases h with ⟨k, ⟨h1, h2⟩, hs⟩ | h | h
  · exact .inl ⟨swP k, ⟨h2, h1⟩, onS_sw hs⟩
  · rw [e] at h; exact .inr (.inl h)
  · rw [e] at h; exact .inr (.inr h)
theorem has_ng {b : B4} {q : P2} (h : hasI b q) : hasI (ngB b) (ngX q) := by
  obtain ⟨h1, h2, h3, h4⟩ := h
  exact ⟨by unfold ngB ngX; dsimp only; omega, by unfold ngB ngX; dsimp only; omega, h3, h4⟩
theorem has_sw {b : B4} {q : P2} (h : hasI b q) : hasI (swB b) (swP q) := by
  obtain ⟨h1, h2, h3, h4⟩ := h
  exact ⟨h3, h4, h1, h2⟩
theorem told_right {b : B4} {q a c : P2} {R : Int} (hx : b.x0 ≤ b.x1) (hq : hasI b q) (hi : OnS q a c R) (h1 : b.x1 < a.x) (h2 : b.x1 < c.x) : Told b a c R :=
  told_ng hx (told_left (b := ngB b) (a := ngX a) (c := ngX c) (by unfold ngB; dsimp only; omega) (has_ng hq) (onS_ng hi) (by unfold ngB ngX; dsimp only; omega) (by unfold ngB ngX; dsimp only; omega))
/-- a box of which a point is in the stroke says so -/
theorem told_of {b : B4} {q a c : P2} {r : Int} (hx : b.x0 ≤ b.x1) (hy : b.y0 ≤ b.y1) (hq : hasI b q) (hi : lineI q a c r = true) (hm : meetsI b a c = false) : Told b a c (r * r) := by
  have ho := lineI_iff.1 hi
  unfold meetsI at hm
  cases hs : sepI b a c
  · rw [hs] at hm
    simp only [Bool.not_false, Bool.true_and, Bool.and_eq_false_iff, Bool.not_eq_false'] at hm
    rcases hm with hm | hm
    · exact told_side hx hy hq hi fun k hk => by have := all4_iff.1 hm k hk; simpa using this
    · refine told_flip (told_side hx hy hq (by rw [lineI_flip]; exact hi) fun k hk => ?_)
      have := all4_iff.1 hm k hk
      simp only [decide_eq_true_eq] at this
      rw [(flips a c k).1]; omega
  · unfold sepI at hs
    simp only [Bool.or_eq_true, decide_eq_true_eq] at hs
    rcases hs with ((hs | hs) | hs) | hs
    · exact told_left hx hq ho (by omega) (by omega)
    · exact told_right hx hq ho (by omega) (by omega)
    · exact told_sw (told_left (b := swB b) (a := swP a) (c := swP c) hy (has_sw hq) (onS_sw ho) (by unfold swB swP; dsimp only; omega) (by unfold swB swP; dsimp only; omega))
    · exact told_sw (told_right (b := swB b) (a := swP a) (c := swP c) hy (has_sw hq) (onS_sw ho) (by unfold swB swP; dsimp only; omega) (by unfold swB swP; dsimp only; omega))
theorem line_out {b : B4} {q a c : P2} {r : Int} (hx : b.x0 ≤ b.x1) (hy : b.y0 ≤ b.y1) (hq : hasI b q) (hk : lineCl b a c r = 0) : lineI q a c r = false := by
  cases hi : lineI q a c r
  · rfl
  · exfalso
    unfold lineCl at hk
    cases h4 : all4 (fun q => lineI q a c r) b
    · rw [h4] at hk
      simp only [Bool.false_eq_true, if_false] at hk
      cases hc : (any4 (fun q => lineI q a c r) b || decide (nearI b a ≤ r * r) || decide (nearI b c ≤ r * r) || meetsI b a c)
      · simp only [Bool.or_eq_false_iff, decide_eq_false_iff_not] at hc
        obtain ⟨⟨⟨c1, c2⟩, c3⟩, c4⟩ := hc
        rcases told_of hx hy hq hi c4 with ⟨k, hk, hs⟩ | h | h
        · have : any4 (fun q => lineI q a c r) b = true := any4_iff.2 ⟨k, hk, lineI_iff.2 hs⟩
          rw [this] at c1; cases c1
        · exact c2 h
        · exact c3 h
      · rw [hc] at hk; simp at hk
    · rw [h4] at hk; simp at hk
end Go.Proofs.Ytidgkcefjfdcbaa
