/-
  OWN WORK. Joined by merge.py: Bnb Rio Bnc Bnd Fit Dle Awt.
-/
import Derived.Test.YtfooaikpcbnchaaQH
import Derived.Test.YtfooaikpcbnchaaQG
/-! ## Bnb -/
namespace Go.Proofs.Ytfooaikpcbnchaa
open Go Go.RowKit Sym
set_option maxRecDepth 100000

/-! ### the root, rounded up -/
theorem ru_sq {v : Int} (hv : v ≤ 4611686018427387904) : ∀ k, k ≤ ruN v → ruI (foldN (ruG v) ruA k) ∧ v ≤ (foldN (ruG v) ruA k).2 * (foldN (ruG v) ruA k).2 := fun k => by
  induction k with
  | zero => intro _; exact ⟨(⟨by decide, by decide, by decide⟩ : ruI ruA), by show v ≤ 2147483648 * 2147483648; omega⟩
  | succ k ih =>
    intro hk
    have q := ih (by omega)
    have lt := (ru_all v).1 k (by omega)
    have st := ru_step (v := v) q.1 lt
    refine ⟨st.1, ?_⟩
    have m := ruM_eq q.1
    show v ≤ (ruStep v (foldN (ruG v) ruA k)).2 * (ruStep v (foldN (ruG v) ruA k)).2
    generalize foldN (ruG v) ruA k = a at *
    obtain ⟨q1, q2, q3⟩ := q.1
    have bd : ruM a * ruM a ≤ 2147483648 * 2147483648 := Int.mul_le_mul (by omega) (by omega) (by omega) (by decide)
    have nn : 0 ≤ ruM a * ruM a := Int.mul_nonneg (by omega) (by omega)
    unfold ruStep
    rw [W_id (x := ruM a * ruM a) (by omega) (by omega)]
    by_cases h : ruM a * ruM a ≥ v
    · rw [decide_eq_true h]; exact h
    · rw [decide_eq_false h]; exact q.2
theorem rupF_sq {v : Int} (hv : v ≤ 4611686018427387904) : 0 ≤ rupF v ∧ rupF v ≤ 2147483648 ∧ v ≤ rupF v * rupF v := by
  have q := ru_sq hv (ruN v) (Nat.le_refl _)
  have e := (ru_all v).2
  obtain ⟨⟨q1, q2, q3⟩, q4⟩ := q
  have : (foldN (ruG v) ruA (ruN v)).1 = (foldN (ruG v) ruA (ruN v)).2 := by omega
  unfold rupF
  rw [this]
  rw [this] at q1
  exact ⟨q1, q3, q4⟩

/-! ### boxes around points -/
theorem sq_le_abs {e s : Int} (hs : 0 ≤ s) (h : e * e ≤ s * s) : -s ≤ e ∧ e ≤ s := by
  constructor
  · rcases Int.lt_or_le e (-s) with k | k
    · have := Int.mul_le_mul (show s + 1 ≤ -e by omega) (show s + 1 ≤ -e by omega) (by omega) (by omega)
      have e1 : -e * -e = e * e := by grind
      have e2 : (s + 1) * (s + 1) = s * s + 2 * s + 1 := by grind
      omega
    · exact k
  · rcases Int.lt_or_le s e with k | k
    · have := Int.mul_le_mul (show s + 1 ≤ e by omega) (show s + 1 ≤ e by omega) (by omega) (by omega)
      have e2 : (s + 1) * (s + 1) = s * s + 2 * s + 1 := by grind
      omega
    · exact k
theorem imin_le (x y : Int) : imin x y ≤ x ∧ imin x y ≤ y ∧ (imin x y = x ∨ imin x y = y) := by unfold imin; split <;> omega
theorem imax_ge (x y : Int) : x ≤ imax x y ∧ y ≤ imax x y ∧ (imax x y = x ∨ imax x y = y) := by unfold imax; split <;> omega
abbrev FF : Int := 536870912
theorem aro_cut {p q : P2} {r : Int} (hp : PB FF p) (hq : PB FF q) (h0 : 0 ≤ r) (h1 : r ≤ 8589934592) : aroundF p q r = ⟨imax (imin p.x q.x - r) (-FF), imax (imin p.y q.y - r) (-FF), imin (imax p.x q.x + r) FF, imin (imax p.y q.y + r) FF⟩ := by
  obtain ⟨⟨p1, p2⟩, p3, p4⟩ := hp
  obtain ⟨⟨q1, q2⟩, q3, q4⟩ := hq
  have e1 := imin_le p.x q.x
  have e2 := imin_le p.y q.y
  have e3 := imax_ge p.x q.x
  have e4 := imax_ge p.y q.y
  unfold aroundF
  generalize imin p.x q.x = a at *
  generalize imin p.y q.y = b at *
  generalize imax p.x q.x = c at *
  generalize imax p.y q.y = d at *
  unfold FF at *
  rw [W_id (x := a - r) (by omega) (by omega), W_id (x := b - r) (by omega) (by omega), W_id (x := c + r) (by omega) (by omega), W_id (x := d + r) (by omega) (by omega)]
theorem aro_has {p q z : P2} {r : Int} (hp : PB FF p) (hq : PB FF q) (h0 : 0 ≤ r) (h1 : r ≤ 8589934592) (hz : PB FF z) : hasI (aroundF p q r) z ↔ hasI (aroI p q r) z := by
  rw [aro_cut hp hq h0 h1]
  obtain ⟨⟨z1, z2⟩, z3, z4⟩ := hz
  unfold hasI aroI
  dsimp only
  generalize imin p.x q.x = a
  generalize imin p.y q.y = b
  generalize imax p.x q.x = c
  generalize imax p.y q.y = d
  have e1 := imax_ge (a - r) (-FF)
  have e2 := imax_ge (b - r) (-FF)
  have e3 := imin_le (c + r) FF
  have e4 := imin_le (d + r) FF
  unfold FF at *
  omega
theorem aro_fits {p q : P2} {r : Int} (hp : PB FF p) (hq : PB FF q) (h0 : 0 ≤ r) (h1 : r ≤ 8589934592) : Fits (aroundF p q r) := by
  rw [aro_cut hp hq h0 h1]
  obtain ⟨⟨p1, p2⟩, p3, p4⟩ := hp
  obtain ⟨⟨q1, q2⟩, q3, q4⟩ := hq
  have e1 := imin_le p.x q.x
  have e2 := imin_le p.y q.y
  have e3 := imax_ge p.x q.x
  have e4 := imax_ge p.y q.y
  generalize imin p.x q.x = a at *
  generalize imin p.y q.y = b at *
  generalize imax p.x q.x = c at *
  generalize imax p.y q.y = d at *
  have f1 := imax_ge (a - r) (-FF)
  have f2 := imax_ge (b - r) (-FF)
  have f3 := imin_le (c + r) FF
  have f4 := imin_le (d + r) FF
  unfold FF at *
  constructor <;> dsimp only <;> omega
/-- no point in common -/
def Off (U b : B4) : Prop := U.x1 < b.x0 ∨ b.x1 < U.x0 ∨ U.y1 < b.y0 ∨ b.y1 < U.y0
theorem aro_off {p q : P2} {b : B4} {r : Int} (hp : PB FF p) (hq : PB FF q) (h0 : 0 ≤ r) (h1 : r ≤ 8589934592) (hb : Fits b) (h : Off (aroundF p q r) b) : Off (aroI p q r) b := by
  rw [aro_cut hp hq h0 h1] at h
  obtain ⟨b1, b2, b3, b4, b5, b6⟩ := hb
  unfold Off aroI at *
  dsimp only at *
  generalize imin p.x q.x = a at *
  generalize imin p.y q.y = b' at *
  generalize imax p.x q.x = c at *
  generalize imax p.y q.y = d at *
  have f1 := imax_ge (a - r) (-FF)
  have f2 := imax_ge (b' - r) (-FF)
  have f3 := imin_le (c + r) FF
  have f4 := imin_le (d + r) FF
  unfold FF at *
  omega
theorem off_has {U b : B4} {z : P2} (h : Off U b) (hb : hasI b z) : ¬ hasI U z := by
  unfold Off hasI at *
  omega

/-! ### discs, strokes, bars -/
theorem dist_box {p c : P2} {r : Int} (h0 : 0 ≤ r) (h : distI p c ≤ r * r) : hasI (aroI c c r) p := by
  have s1 := sq_nn (p.x - c.x)
  have s2 := sq_nn (p.y - c.y)
  unfold distI at h
  have a1 := sq_le_abs (e := p.x - c.x) h0 (by omega)
  have a2 := sq_le_abs (e := p.y - c.y) h0 (by omega)
  have e1 := imin_le c.x c.x
  have e2 := imin_le c.y c.y
  have e3 := imax_ge c.x c.x
  have e4 := imax_ge c.y c.y
  unfold hasI aroI
  dsimp only
  omega
theorem seg_lo {n m px ax cx r lo : Int} (n0 : 0 < n) (m0 : 0 ≤ m) (mn : m ≤ n) (hr : 0 ≤ r) (he : (n * (px - ax) - m * (cx - ax)) * (n * (px - ax) - m * (cx - ax)) ≤ n * n * (r * r)) (h1 : lo ≤ ax) (h2 : lo ≤ cx) : lo - r ≤ px := by
  have e1 : n * n * (r * r) = (n * r) * (n * r) := by grind
  rw [e1] at he
  have a1 := (sq_le_abs (Int.mul_nonneg (by omega) hr) he).1
  have k1 : (n - m) * lo ≤ (n - m) * ax := Int.mul_le_mul_of_nonneg_left h1 (by omega)
  have k2 : m * lo ≤ m * cx := Int.mul_le_mul_of_nonneg_left h2 m0
  have e2 : n * (px - ax) - m * (cx - ax) = n * px - ((n - m) * ax + m * cx) := by grind
  have e3 : (n - m) * lo + m * lo = n * lo := by grind
  have e4 : n * (lo - r) = n * lo - n * r := by grind
  exact Int.le_of_mul_le_mul_left (show n * (lo - r) ≤ n * px by omega) n0
theorem seg_hi {n m px ax cx r hi : Int} (n0 : 0 < n) (m0 : 0 ≤ m) (mn : m ≤ n) (hr : 0 ≤ r) (he : (n * (px - ax) - m * (cx - ax)) * (n * (px - ax) - m * (cx - ax)) ≤ n * n * (r * r)) (h1 : ax ≤ hi) (h2 : cx ≤ hi) : px ≤ hi + r := by
  have := seg_lo (px := -px) (ax := -ax) (cx := -cx) (lo := -hi) n0 m0 mn hr (by
    have e : n * (-px - -ax) - m * (-cx - -ax) = -(n * (px - ax) - m * (cx - ax)) := by grind
    rw [e]
    have e2 : -(n * (px - ax) - m * (cx - ax)) * -(n * (px - ax) - m * (cx - ax)) = (n * (px - ax) - m * (cx - ax)) * (n * (px - ax) - m * (cx - ax)) := by grind
    rw [e2]; exact he) (by omega) (by omega)
  omega
theorem onS_box {p a c : P2} {r : Int} (h0 : 0 ≤ r) (h : OnS p a c (r * r)) : hasI (aroI a c r) p := by
  obtain ⟨m, n, n0, m0, mn, hd⟩ := h
  have s1 := sq_nn (n * (p.x - a.x) - m * (c.x - a.x))
  have s2 := sq_nn (n * (p.y - a.y) - m * (c.y - a.y))
  have e1 := imin_le a.x c.x
  have e2 := imin_le a.y c.y
  have e3 := imax_ge a.x c.x
  have e4 := imax_ge a.y c.y
  exact ⟨seg_lo n0 m0 mn h0 (by omega) e1.1 e1.2.1, seg_hi n0 m0 mn h0 (by omega) e3.1 e3.2.1, seg_lo n0 m0 mn h0 (by omega) e2.1 e2.2.1, seg_hi n0 m0 mn h0 (by omega) e4.1 e4.2.1⟩
theorem bar_line {p a c : P2} {r : Int} (h : barI p a c r = true) : lineI p a c r = true := by
  unfold barI at h
  simp only [Bool.and_eq_true, Bool.not_eq_true', decide_eq_true_eq, decide_eq_false_iff_not] at h
  obtain ⟨⟨⟨⟨hs, h1⟩, hc⟩, hd0⟩, hd1⟩ := h
  have hall : 0 < distI a c := by
    have := dist_nn a c
    have := (not_congr (dist_pos a c)).2 hs
    omega
  have l1 := lagrange a c p
  have l2 := lagrange2 a c p
  have hc' := hc
  unfold clear at hc
  rw [decide_eq_true_eq] at hc
  unfold lineI
  by_cases k : dotI a c p ≤ 0
  · rw [if_pos k, decide_eq_true_eq]
    have z : dotI a c p = 0 := by omega
    rw [z] at l1
    have e : r * r * distI a c = distI a c * (r * r) := by grind
    exact Int.le_of_mul_le_mul_left (show distI a c * distI p a ≤ distI a c * (r * r) by omega) hall
  · rw [if_neg k]
    by_cases k2 : dotI a c p ≥ distI a c
    · rw [if_pos k2, decide_eq_true_eq]
      have z : dotI a c p - distI a c = 0 := by omega
      rw [z] at l2
      have e : r * r * distI a c = distI a c * (r * r) := by grind
      exact Int.le_of_mul_le_mul_left (show distI a c * distI p c ≤ distI a c * (r * r) by omega) hall
    · rw [if_neg k2]; exact hc'
/-- the nearest point of a box that is off is off -/
theorem near_off {b : B4} {a c q : P2} {r : Int} (hx : b.x0 ≤ b.x1) (hy : b.y0 ≤ b.y1) (h0 : 0 ≤ r) (ho : Off (aroI a c r) b) (hq : q = a ∨ q = c) : r * r < nearI b q := by
  rcases Int.lt_or_le (r * r) (nearI b q) with k | k
  · exact k
  · rw [near_nearest hx hy] at k
    have hb : hasI b (nearest b q) := by
      unfold nearest hasI
      dsimp only
      omega
    have := dist_box h0 k
    refine absurd ?_ (off_has ho hb)
    have e1 := imin_le a.x c.x
    have e2 := imin_le a.y c.y
    have e3 := imax_ge a.x c.x
    have e4 := imax_ge a.y c.y
    have f1 := imin_le q.x q.x
    have f2 := imin_le q.y q.y
    have f3 := imax_ge q.x q.x
    have f4 := imax_ge q.y q.y
    unfold hasI aroI at *
    dsimp only at *
    rcases hq with rfl | rfl <;> omega
theorem line_off {b : B4} {a c : P2} {r : Int} (hx : b.x0 ≤ b.x1) (hy : b.y0 ≤ b.y1) (h0 : 0 ≤ r) (ho : Off (aroI a c r) b) : lineCl b a c r = 0 := by
  have none : ∀ k, isC b k → lineI k a c r = false := fun k hk => by
    cases h : lineI k a c r with
    | false => rfl
    | true => exact absurd (onS_box h0 (lineI_iff.1 h)) (off_has ho (isC_has hx hy hk))
  have c0 : lineI ⟨b.x0, b.y0⟩ a c r = false := none _ ⟨.inl rfl, .inl rfl⟩
  unfold lineCl
  have h4 : all4 (fun q => lineI q a c r) b = false := by
    unfold all4
    dsimp only
    rw [c0]; rfl
  have h5 : any4 (fun q => lineI q a c r) b = false := by
    rw [Bool.eq_false_iff]
    intro h
    obtain ⟨k, hk, h⟩ := any4_iff.1 h
    rw [none k hk] at h; cases h
  have h6 := near_off (q := a) hx hy h0 ho (.inl rfl)
  have h7 := near_off (q := c) hx hy h0 ho (.inr rfl)
  have h8 : meetsI b a c = false := by
    unfold meetsI sepI
    have e1 := imin_le a.x c.x
    have e2 := imin_le a.y c.y
    have e3 := imax_ge a.x c.x
    have e4 := imax_ge a.y c.y
    have : decide (max a.x c.x < b.x0) = true ∨ decide (min a.x c.x > b.x1) = true ∨ decide (max a.y c.y < b.y0) = true ∨ decide (min a.y c.y > b.y1) = true := by
      simp only [decide_eq_true_eq]
      unfold Off aroI at ho
      dsimp only at ho
      omega
    rcases this with h | h | h | h <;> rw [h] <;> simp
  rw [h4, h5, h8, decide_eq_false (by omega), decide_eq_false (by omega)]
  rfl
end Go.Proofs.Ytfooaikpcbnchaa

/-! ## Rio -/
namespace Go.Proofs.Ytfooaikpcbnchaa
open Go Go.RowKit Sym
set_option maxRecDepth 100000

/-- who is in the disc around a point of the circle is neither too near nor too far -/
theorem disc_ring {p c e : P2} {r : Int} (h : distI p e ≤ r * r) : outI (distI p c) (distI e c) r = true ∧ insI (distI p c) (distI e c) r = true := by
  have hp : ∃ px, px = p.x - c.x := ⟨_, rfl⟩
  have hp' : ∃ py, py = p.y - c.y := ⟨_, rfl⟩
  have hq : ∃ qx, qx = p.x - e.x := ⟨_, rfl⟩
  have hq' : ∃ qy, qy = p.y - e.y := ⟨_, rfl⟩
  obtain ⟨px, epx⟩ := hp; obtain ⟨py, epy⟩ := hp'; obtain ⟨qx, eqx⟩ := hq; obtain ⟨qy, eqy⟩ := hq'
  have d : distI p c = px * px + py * py := by unfold distI; rw [← epx, ← epy]
  have s : distI p e = qx * qx + qy * qy := by unfold distI; rw [← eqx, ← eqy]
  have rr : distI e c = (px - qx) * (px - qx) + (py - qy) * (py - qy) := by
    unfold distI
    have e1 : e.x - c.x = px - qx := by omega
    have e2 : e.y - c.y = py - qy := by omega
    rw [e1, e2]
  rw [s] at h
  rw [d, rr]
  clear d s rr epx epy eqx eqy
  have hs : 0 ≤ qx * qx + qy * qy := by have := sq_nn qx; have := sq_nn qy; omega
  -- the inequality of Cauchy
  have cs : ∀ u v : Int, (u * qx + v * qy) * (u * qx + v * qy) ≤ (u * u + v * v) * (r * r) := fun u v => by
    have a : (u * u + v * v) * (qx * qx + qy * qy) = (u * qx + v * qy) * (u * qx + v * qy) + (u * qy - v * qx) * (u * qy - v * qx) := by grind
    have b := sq_nn (u * qy - v * qx)
    have n : 0 ≤ u * u + v * v := by have := sq_nn u; have := sq_nn v; omega
    have m := Int.mul_le_mul_of_nonneg_left h n
    omega
  constructor
  · unfold outI; rw [decide_eq_true_eq]
    by_cases k : (px - qx) * (px - qx) + (py - qy) * (py - qy) - r * r - (px * px + py * py) ≤ 0
    · exact .inl k
    · refine .inr ?_
      have c1 := cs px py
      have l : (px - qx) * (px - qx) + (py - qy) * (py - qy) - r * r - (px * px + py * py) ≤ -2 * (px * qx + py * qy) := by
        have : (px - qx) * (px - qx) + (py - qy) * (py - qy) - (px * px + py * py) = -2 * (px * qx + py * qy) + (qx * qx + qy * qy) := by grind
        omega
      have q := sq_le (x := (px - qx) * (px - qx) + (py - qy) * (py - qy) - r * r - (px * px + py * py)) (y := -2 * (px * qx + py * qy)) (by omega) l
      have e1 : -2 * (px * qx + py * qy) * (-2 * (px * qx + py * qy)) = 4 * ((px * qx + py * qy) * (px * qx + py * qy)) := by grind
      have e2 : 4 * (px * px + py * py) * (r * r) = 4 * ((px * px + py * py) * (r * r)) := by grind
      omega
  · unfold insI; rw [decide_eq_true_eq]
    by_cases k : px * px + py * py - ((px - qx) * (px - qx) + (py - qy) * (py - qy)) - r * r ≤ 0
    · exact .inl k
    · refine .inr ?_
      have c1 := cs (px - qx) (py - qy)
      have l : px * px + py * py - ((px - qx) * (px - qx) + (py - qy) * (py - qy)) - r * r ≤ 2 * ((px - qx) * qx + (py - qy) * qy) := by
        have : px * px + py * py - ((px - qx) * (px - qx) + (py - qy) * (py - qy)) = 2 * ((px - qx) * qx + (py - qy) * qy) + (qx * qx + qy * qy) := by grind
        omega
      have q := sq_le (x := px * px + py * py - ((px - qx) * (px - qx) + (py - qy) * (py - qy)) - r * r) (y := 2 * ((px - qx) * qx + (py - qy) * qy)) (by omega) l
      have e1 : 2 * ((px - qx) * qx + (py - qy) * qy) * (2 * ((px - qx) * qx + (py - qy) * qy)) = 4 * (((px - qx) * qx + (py - qy) * qy) * ((px - qx) * qx + (py - qy) * qy)) := by grind
      have e2 : 4 * ((px - qx) * (px - qx) + (py - qy) * (py - qy)) * (r * r) = 4 * (((px - qx) * (px - qx) + (py - qy) * (py - qy)) * (r * r)) := by grind
      omega
/-- two points of a circle on one line with the centre are one or are over against one another -/
theorem circ_line {c a e : P2} (ok : okI c a e) (w : crossI c a e = 0) : same a e ∨ (a.x - c.x = -(e.x - c.x) ∧ a.y - c.y = -(e.y - c.y)) := by
  obtain ⟨k0, k⟩ := ok
  have l := lagrange c a e
  have ea : distI c a = distI a c := distI_comm c a
  rw [ea, w] at l
  have hd : ∃ t, t = dotI c a e := ⟨_, rfl⟩
  obtain ⟨t, et⟩ := hd
  rw [← et, ← k] at l
  have hn := dist_nn a c
  have f : (distI a c - t) * (distI a c + t) = 0 := by
    generalize distI a c = N at *
    have : (N - t) * (N + t) = N * N - t * t := by grind
    omega
  rcases Int.mul_eq_zero.1 f with z | z
  · left
    rw [← dist_pos]
    have : distI a e = distI a c + distI e c - 2 * dotI c a e := by unfold distI dotI; grind
    omega
  · right
    have h0 : (a.x - c.x + (e.x - c.x)) * (a.x - c.x + (e.x - c.x)) + (a.y - c.y + (e.y - c.y)) * (a.y - c.y + (e.y - c.y)) = distI a c + distI e c + 2 * dotI c a e := by unfold distI dotI; grind
    have h1 := sq_nn (a.x - c.x + (e.x - c.x)); have h2 := sq_nn (a.y - c.y + (e.y - c.y))
    have x0 : (a.x - c.x + (e.x - c.x)) * (a.x - c.x + (e.x - c.x)) = 0 := by omega
    have y0 : (a.y - c.y + (e.y - c.y)) * (a.y - c.y + (e.y - c.y)) = 0 := by omega
    have := Int.mul_eq_zero.1 x0; have := Int.mul_eq_zero.1 y0
    omega
theorem sect_two {p c a e : P2} (ok : okI c a e) : (sectI p c a e || sectI p c e a) = true := by
  unfold sectI
  by_cases s : same a e
  · simp [s]
  · have s' : ¬ same e a := fun h => s ⟨h.1.symm, h.2.symm⟩
    rw [cross_sw c e a, cross_sw c e p, cross_sw c p a]
    simp only [s, s', decide_false, Bool.false_or]
    by_cases w : crossI c a e = 0
    · rcases circ_line ok w with h | h
      · exact absurd h s
      · have uv : crossI c a p = crossI c p e := by
          unfold crossI; rw [h.1, h.2]; grind
        rw [w, uv]
        simp only [Int.neg_zero, Int.lt_irrefl, if_false]
        by_cases z : crossI c p e ≥ 0
        · simp [z]
        · have : -crossI c p e ≥ 0 := by omega
          simp [this]; omega
    · by_cases wn : crossI c a e < 0
      · have : ¬ -crossI c a e < 0 := by omega
        simp only [wn, this, if_true, if_false]
        rw [Bool.or_eq_true, Bool.or_eq_true, Bool.and_eq_true]
        simp only [decide_eq_true_eq]; omega
      · have : -crossI c a e < 0 := by omega
        simp only [wn, this, if_true, if_false]
        rw [Bool.or_eq_true, Bool.or_eq_true, Bool.and_eq_true]
        simp only [decide_eq_true_eq]; omega
theorem sect_same (p c a : P2) : sectI p c a a = true := by
  unfold sectI; rw [decide_eq_true (show same a a from ⟨rfl, rfl⟩)]; rfl
theorem cross_self (c a : P2) : crossI c a a = 0 := by unfold crossI; grind
theorem sect_ends (c a e : P2) : sectI a c a e = true ∧ sectI e c a e = true ∧ sectI c c a e = true := by
  have z1 : crossI c a c = 0 := by unfold crossI; grind
  have z2 : crossI c c e = 0 := by unfold crossI; grind
  unfold sectI
  rw [cross_self, cross_self, z1, z2]
  by_cases w : crossI c a e < 0
  · simp [w]
  · have : crossI c a e ≥ 0 := by omega
    simp [w, this]
def ringCloses (c0 : P2) (r0 f t s : Int) (p0 : P2) : Bool :=
  let c := arcC c0 true
  let a := arcAt c0 f s true
  let e := arcAt c0 t s true
  let r := lSmR (lR r0) 30
  let p := lClose p0 40
  let one := ringHas p c a e r
  let two := ringHas p c e a r
  let all := ringHas p c a a r
  andB (andB (andB (andB (andB (andB (orB one two == all) (orB (sector p c a e) (sector p c e a))) (sector p c a a)) (sector a c a e)) (sector e c a e)) (sector c c a e)) true
theorem near_small {p c : P2} (hp : (-100 ≤ p.x ∧ p.x ≤ 100) ∧ (-100 ≤ p.y ∧ p.y ≤ 100)) (hc : (-100 ≤ c.x ∧ c.x ≤ 100) ∧ (-100 ≤ c.y ∧ c.y ≤ 100)) : distI p c ≤ 80000 := by
  have a := sq_bd (A := 200) (x := p.x - c.x) (by omega) (by omega)
  have b := sq_bd (A := 200) (x := p.y - c.y) (by omega) (by omega)
  unfold distI; omega
theorem ringCloses_true (c : P2) (r f t s : Int) (p : P2) : ringCloses c r f t s p = true := by
  have hc := arcC_s c
  have hC : PR (arcC c true) := PR_of hc (by decide)
  have a := arc_facts c f s true; have e := arc_facts c t s true
  have ok := arc_okI c f t s true
  have ok1 := arc_okI c t f s true
  have ok2 := arc_okI c f f s true
  have hr := lR_bd r
  have hh := lSmR_bd (r := lR r) (m := 30) (by omega) (by decide) (by decide)
  have hp := lClose_r p (n := 40) (by decide) (by decide)
  have hP := PR_of hp (by decide)
  have hd := near_small (p := lClose p 40) (c := arcC c true) (by omega) (by omega)
  unfold ringCloses
  dsimp only
  rw [ringHas_eq hP hC a.1 e.1 ok hh.1 (by omega) (by omega) (by omega), ringHas_eq hP hC e.1 a.1 ok1 hh.1 (by omega) (by omega) (by omega), ringHas_eq hP hC a.1 a.1 ok2 hh.1 (by omega) (by omega) (by omega),
    sector_eq hP hC a.1 e.1, sector_eq hP hC e.1 a.1, sector_eq hP hC a.1 a.1, sector_eq a.1 hC a.1 e.1, sector_eq e.1 hC a.1 e.1, sector_eq hC hC a.1 e.1]
  generalize lClose p 40 = P at *
  generalize arcC c true = C at *
  generalize arcAt c f s true = A at *
  generalize arcAt c t s true = E at *
  generalize lSmR (lR r) 30 = R at *
  have s1 := sect_two (p := P) ok
  have s2 := sect_same P C A
  have s3 := sect_ends C A E
  have da := disc_ring (p := P) (c := C) (e := A) (r := R)
  have de := disc_ring (p := P) (c := C) (e := E) (r := R)
  rw [← ok.2] at de
  simp only [orB_eq, andB_eq, s2, s3.1, s3.2.1, s3.2.2, s1, Bool.and_true]
  unfold ringI
  rw [s2, ← ok.2]
  by_cases k1 : distI P A ≤ R * R
  · rw [decide_eq_true k1]; rfl
  · rw [decide_eq_false k1]
    by_cases k2 : distI P E ≤ R * R
    · rw [decide_eq_true k2, (de k2).1, (de k2).2]; rfl
    · rw [decide_eq_false k2]
      revert s1
      cases sectI P C A E <;> cases sectI P C E A <;> cases outI (distI P C) (distI A C) R <;> cases insI (distI P C) (distI A C) R <;> decide
end Go.Proofs.Ytfooaikpcbnchaa

/-! ## Bnc -/
namespace Go.Proofs.Ytfooaikpcbnchaa
open Go Go.RowKit Sym
set_option maxRecDepth 100000

/-! ### rings -/
theorem ins_le {d rr r R : Int} (hR : 0 ≤ R) (hr : 0 ≤ r) (h : rr ≤ R * R) (h0 : 0 ≤ rr) (k : insI d rr r = true) : d ≤ (R + r) * (R + r) := by
  unfold insI at k
  rw [decide_eq_true_eq] at k
  have e : (R + r) * (R + r) = R * R + 2 * (R * r) + r * r := by grind
  have n1 : 0 ≤ R * r := Int.mul_nonneg hR hr
  rcases k with k | k
  · omega
  · have m : 4 * rr * (r * r) ≤ (2 * (R * r)) * (2 * (R * r)) := by
      have e2 : (2 * (R * r)) * (2 * (R * r)) = 4 * (R * R) * (r * r) := by grind
      rw [e2]
      exact Int.mul_le_mul_of_nonneg_right (by omega) (Int.mul_nonneg hr hr)
    have := (sq_le_abs (e := d - rr - r * r) (s := 2 * (R * r)) (by omega) (by omega)).2
    omega
theorem ring_d {p c a e : P2} {r R : Int} (ok : okI c a e) (hR : 0 ≤ R) (hr : 0 ≤ r) (h : distI a c ≤ R * R) (k : ringI p c a e r = true) : distI p c ≤ (R + r) * (R + r) := by
  have h0 := dist_nn a c
  unfold ringI at k
  rw [Bool.or_eq_true, Bool.or_eq_true, decide_eq_true_eq, decide_eq_true_eq, Bool.and_eq_true] at k
  rcases k with (k | k) | k
  · exact ins_le hR hr h h0 (disc_ring k).2
  · exact ins_le hR hr h h0 (by rw [ok.2]; exact (disc_ring k).2)
  · exact ins_le hR hr h h0 k.2
theorem near_le2 {b : B4} {q c : P2} (hx : b.x0 ≤ b.x1) (hy : b.y0 ≤ b.y1) (h : hasI b q) : nearI b c ≤ distI q c := by
  obtain ⟨h1, h2, h3, h4⟩ := h
  have g : ∀ {v lo hi w : Int}, lo ≤ w → w ≤ hi → gapI v lo hi * gapI v lo hi ≤ (w - v) * (w - v) := fun {v lo hi w} a b => by
    unfold gapI
    split
    · exact Int.mul_le_mul (by omega) (by omega) (by omega) (by omega)
    · split
      · have e : (w - v) * (w - v) = (v - w) * (v - w) := by grind
        rw [e]
        exact Int.mul_le_mul (by omega) (by omega) (by omega) (by omega)
      · have := sq_nn (w - v); omega
  unfold nearI distI
  have := g (v := c.x) h1 h2
  have := g (v := c.y) h3 h4
  omega
theorem ring_off {b : B4} {c a e : P2} {r R : Int} (hx : b.x0 ≤ b.x1) (hy : b.y0 ≤ b.y1) (ok : okI c a e) (hR : 0 ≤ R) (hr : 0 ≤ r) (h : distI a c ≤ R * R) (ho : Off (aroI c c (R + r)) b) : ringCl b c a e r = 0 := by
  have h0 := dist_nn a c
  have far := near_off (q := c) hx hy (show 0 ≤ R + r by omega) ho (.inl rfl)
  have hm := near_most (b := b) (p := c) hx hy
  have i1 : insI (nearI b c) (distI a c) r = false := by
    cases k : insI (nearI b c) (distI a c) r with
    | false => rfl
    | true => have := ins_le hR hr h h0 k; omega
  have i2 : insI (mostI b c) (distI a c) r = false := by
    cases k : insI (mostI b c) (distI a c) r with
    | false => rfl
    | true => have := ins_le hR hr h h0 k; omega
  have n : ∀ q, distI q c = distI a c → r * r < nearI b q := fun q hq => by
    rcases Int.lt_or_le (r * r) (nearI b q) with k | k
    · exact k
    · rw [near_nearest hx hy] at k
      have hb : hasI b (nearest b q) := by
        unfold nearest hasI
        dsimp only
        omega
      have h1 := ins_le hR hr h h0 (hq ▸ (disc_ring k).2)
      have h2 := near_le2 (c := c) hx hy hb
      omega
  have n1 := n a rfl
  have n2 := n e ok.2.symm
  have m1 := near_most (b := b) (p := a) hx hy
  have m2 := near_most (b := b) (p := e) hx hy
  unfold ringCl
  rw [if_neg (by omega), i1, i2, if_neg (by simp), if_neg (by omega), if_pos (by simp)]

/-! ### contours -/
/-- all points of contours lie in a box -/
def InC (U : B4) (l : Ctr) : Prop := ∀ i, i < l.n → ∀ k, k < l.m i → hasI U (l.p i k)
theorem odd_none {l : Ctr} {p : P2} (h : ∀ i, i < l.n → ∀ k, k < l.m i → crossesI p (l.p i k) (l.p i (nxt (l.m i) k)) = false) : oddI p l = false := by
  unfold oddI
  rw [parN_congr (g := fun _ => false) fun i hi => ?_, parN_false]
  rw [parN_congr (f := edgeC l (crossesI p) i) (g := fun _ => false) fun k hk => h i hi k hk, parN_false]
theorem odd_ver {l : Ctr} {U : B4} {p : P2} (h : InC U l) (hp : p.y < U.y0 ∨ U.y1 ≤ p.y) : oddI p l = false := odd_none fun i hi k hk => by
  have a := h i hi k hk
  have e := h i hi _ (nxt_lt hk)
  unfold crossesI hasI at *
  rcases hp with hp | hp
  · rw [decide_eq_true (show (l.p i k).y > p.y by omega), decide_eq_true (show (l.p i (nxt (l.m i) k)).y > p.y by omega)]; rfl
  · rw [decide_eq_false (show ¬ (l.p i k).y > p.y by omega), decide_eq_false (show ¬ (l.p i (nxt (l.m i) k)).y > p.y by omega)]; rfl
theorem sep_off {b U : B4} {a e : P2} (h : Off U b) (ha : hasI U a) (he : hasI U e) : meetsI b a e = false := by
  unfold meetsI sepI
  have : decide (max a.x e.x < b.x0) = true ∨ decide (min a.x e.x > b.x1) = true ∨ decide (max a.y e.y < b.y0) = true ∨ decide (min a.y e.y > b.y1) = true := by
    simp only [decide_eq_true_eq]
    unfold Off hasI at *
    omega
  rcases this with h | h | h | h <;> rw [h] <;> simp
theorem touch_off {b U : B4} {l : Ctr} (h : Off U b) (hl : InC U l) : touchI b l = false := by
  rw [Bool.eq_false_iff]
  intro hq
  obtain ⟨i, hi, hq⟩ := anyN_iff.1 hq
  obtain ⟨k, hk, hq⟩ := anyN_iff.1 hq
  unfold edgeC at hq
  rw [sep_off h (hl i hi k hk) (hl i hi _ (nxt_lt hk))] at hq
  cases hq
theorem odd_off {l : Ctr} {U : B4} {p : P2} (h : InC U l) (hp : ¬ hasI U p) : oddI p l = false := by
  by_cases hy : p.y < U.y0 ∨ U.y1 ≤ p.y
  · exact odd_ver h hy
  · have hb : Off U ⟨p.x, p.y, p.x, U.y1⟩ := by
      unfold hasI at hp
      unfold Off
      dsimp only
      omega
    have e := odd_box (p := p) (q := ⟨p.x, U.y1⟩) (touch_off hb h) ⟨Int.le_refl _, Int.le_refl _, Int.le_refl _, by show p.y ≤ U.y1; omega⟩ ⟨Int.le_refl _, Int.le_refl _, by show p.y ≤ U.y1; omega, Int.le_refl _⟩
    rw [e]
    exact odd_ver h (.inr (Int.le_refl _))
theorem spot_off {U : B4} {p : P2} (hp : ¬ hasI U p) : Off U (spotB p) := by
  unfold Off spotB hasI at *
  dsimp only
  omega
theorem poly_has {l : Ctr} {U : B4} {p : P2} (hl : PRC l) (hp : PR p) (h : InC U l) (k : polyHasF p l = true) : hasI U p := by
  by_cases hn : hasI U p
  · exact hn
  · unfold polyHasF at k
    rw [touchF_eq (b := spotF p) ⟨hp.x, hp.y, hp.x, hp.y⟩ (Int.le_refl _) (Int.le_refl _) hl, oddF_eq hp hl, odd_off h hn, show touchI (spotF p) l = false from touch_off (spot_off hn) h] at k
    cases k
theorem poly_off {l : Ctr} {U b : B4} (hl : PRC l) (hb : BR b) (hx : b.x0 ≤ b.x1) (hy : b.y0 ≤ b.y1) (h : InC U l) (ho : Off U b) : polyClassF b l = 0 := by
  have hC : hasI b ⟨b.x0, b.y0⟩ := ⟨Int.le_refl _, hx, Int.le_refl _, hy⟩
  unfold polyClassF
  rw [touchF_eq hb hx hy hl, oddF_eq (PR_of_has hb hC) hl, touch_off ho h, odd_off h (off_has ho hC), (boxHas_eq b ⟨b.x0, b.y0⟩).2 hC]
  rfl
theorem poly_no {l : Ctr} {b : B4} (hl : PRC l) (hb : BR b) (hx : b.x0 ≤ b.x1) (hy : b.y0 ≤ b.y1) (h : ∀ i, i < l.n → l.m i = 0) : polyClassF b l = 0 :=
  poly_off (U := ⟨b.x1 + 1, b.y0, b.x1 + 1, b.y1⟩) hl hb hx hy (fun i hi k hk => by rw [h i hi] at hk; omega) (.inr (.inl (by dsimp only; omega)))

/-! ### bounds that are put together -/
structure In4 (a U : B4) : Prop where
  x0 : U.x0 ≤ a.x0
  y0 : U.y0 ≤ a.y0
  x1 : a.x1 ≤ U.x1
  y1 : a.y1 ≤ U.y1
theorem In4.has {a U : B4} {p : P2} (h : In4 a U) (k : hasI a p) : hasI U p := by
  obtain ⟨h1, h2, h3, h4⟩ := h
  unfold hasI at *
  omega
theorem tk_in (f : Bool) (a b : B4) : In4 b (tkF f a b) ∧ (f = true → In4 a (tkF f a b)) := by
  have e1 := imin_le a.x0 b.x0
  have e2 := imin_le a.y0 b.y0
  have e3 := imax_ge a.x1 b.x1
  have e4 := imax_ge a.y1 b.y1
  cases f with
  | false => exact ⟨⟨Int.le_refl _, Int.le_refl _, Int.le_refl _, Int.le_refl _⟩, fun h => by cases h⟩
  | true => exact ⟨⟨e1.2.1, e2.2.1, e3.2.1, e4.2.1⟩, fun _ => ⟨e1.1, e2.1, e3.1, e4.1⟩⟩
theorem tk_fits {f : Bool} {a b : B4} (hb : Fits b) (ha : f = true → Fits a) : Fits (tkF f a b) := by
  cases f with
  | false => exact ⟨hb.x0, hb.x, hb.x1, hb.y0, hb.y, hb.y1⟩
  | true =>
    obtain ⟨a1, a2, a3, a4, a5, a6⟩ := ha rfl
    obtain ⟨b1, b2, b3, b4, b5, b6⟩ := hb
    have e1 := imin_le a.x0 b.x0
    have e2 := imin_le a.y0 b.y0
    have e3 := imax_ge a.x1 b.x1
    have e4 := imax_ge a.y1 b.y1
    unfold tkF
    constructor <;> simp only [cond_true] <;> omega
/-- it has been told, and holds a box -/
def Cov (q : Bool × B4) (b : B4) : Prop := q.1 = true ∧ In4 b q.2
def Gd (q : Bool × B4) : Prop := q.1 = true → Fits q.2
theorem In4.trans {a b c : B4} (h : In4 a b) (k : In4 b c) : In4 a c := ⟨Int.le_trans k.x0 h.x0, Int.le_trans k.y0 h.y0, Int.le_trans h.x1 k.x1, Int.le_trans h.y1 k.y1⟩
theorem cov_tk {q : Bool × B4} (b : B4) : Cov (true, tkF q.1 q.2 b) b ∧ ∀ c, Cov q c → Cov (true, tkF q.1 q.2 b) c :=
  ⟨⟨rfl, (tk_in q.1 q.2 b).1⟩, fun c h => ⟨rfl, h.2.trans ((tk_in q.1 q.2 b).2 h.1)⟩⟩
theorem foldN_keep {g : Nat → Bool × B4 → Bool × B4} {n : Nat} (hg : ∀ i q c, i < n → Cov q c → Cov (g i q) c) {a : Bool × B4} {c : B4} (h : Cov a c) : Cov (foldN g a n) c := by
  induction n with
  | zero => exact h
  | succ n ih => exact hg n _ c (Nat.lt_succ_self n) (ih fun i q c hi => hg i q c (by omega))
theorem foldN_cov {g : Nat → Bool × B4 → Bool × B4} {n : Nat} (hg : ∀ i q c, i < n → Cov q c → Cov (g i q) c) {i : Nat} (hi : i < n) {b : B4} (h : ∀ q, Cov (g i q) b) (a : Bool × B4) : Cov (foldN g a n) b := by
  induction n with
  | zero => omega
  | succ n ih =>
    show Cov (g n (foldN g a n)) b
    by_cases e : i = n
    · subst e; exact h _
    · exact hg n _ b (Nat.lt_succ_self n) (ih (fun i q c hi => hg i q c (by omega)) (by omega))
theorem foldN_gd {g : Nat → Bool × B4 → Bool × B4} {n : Nat} (hg : ∀ i q, i < n → Gd q → Gd (g i q)) {a : Bool × B4} (h : Gd a) : Gd (foldN g a n) := by
  induction n with
  | zero => exact h
  | succ n ih => exact hg n _ (Nat.lt_succ_self n) (ih fun i q hi => hg i q (by omega))
theorem foldN_same {α : Type} {g : Nat → α → α} {n : Nat} (hg : ∀ i q, i < n → g i q = q) (a : α) : foldN g a n = a := by
  induction n with
  | zero => rfl
  | succ n ih =>
    show g n (foldN g a n) = a
    rw [hg n _ (Nat.lt_succ_self n), ih fun i q hi => hg i q (by omega)]
theorem spot_aro {p : P2} (h : PB FF p) : hasI (aroundF p p 0) p := (aro_has h h (by omega) (by omega) h).2 (dist_box (by omega) (by unfold distI; grind))
end Go.Proofs.Ytfooaikpcbnchaa

/-! ## Bnd -/
namespace Go.Proofs.Ytfooaikpcbnchaa
open Go Go.RowKit Sym
set_option maxRecDepth 100000

theorem PB_F {B : Int} (hB : B ≤ FF) {p : P2} (h : PB B p) : PB FF p := by
  obtain ⟨⟨h1, h2⟩, h3, h4⟩ := h
  unfold FF at *
  exact ⟨⟨by omega, by omega⟩, by omega, by omega⟩
theorem PB_R {p : P2} (h : PB FF p) : PR p := near_PR (PB_near (Int.le_refl _) h)
theorem dist_far {a c : P2} (ha : PB FF a) (hc : PB FF c) : distI a c ≤ 2305843009213693952 := by
  obtain ⟨⟨a1, a2⟩, a3, a4⟩ := ha
  obtain ⟨⟨c1, c2⟩, c3, c4⟩ := hc
  unfold FF at *
  have g : ∀ x : Int, -1073741824 ≤ x → x ≤ 1073741824 → x * x ≤ 1152921504606846976 := fun x h1 h2 => by
    rcases Int.le_total 0 x with h | h
    · exact Int.mul_le_mul h2 h2 h (by decide)
    · have := Int.mul_le_mul (show -x ≤ 1073741824 by omega) (show -x ≤ 1073741824 by omega) (by omega) (by decide)
      have e : -x * -x = x * x := by grind
      omega
  have := g (a.x - c.x) (by omega) (by omega)
  have := g (a.y - c.y) (by omega) (by omega)
  unfold distI
  omega
theorem most_far2 {b : B4} {c : P2} (hb : Fits b) (hc : PB FF c) : mostI b c ≤ 4000000000000000000 := by
  rw [most_corner hb.x hb.y]
  obtain ⟨b1, b2, b3, b4, b5, b6⟩ := hb
  have g : ∀ q : P2, PB FF q → distI q c ≤ 2305843009213693952 := fun q hq => dist_far hq hc
  have k1 := g ⟨b.x0, b.y0⟩ ⟨⟨by unfold FF; dsimp only; omega, by unfold FF; dsimp only; omega⟩, by unfold FF; dsimp only; omega, by unfold FF; dsimp only; omega⟩
  have k2 := g ⟨b.x1, b.y0⟩ ⟨⟨by unfold FF; dsimp only; omega, by unfold FF; dsimp only; omega⟩, by unfold FF; dsimp only; omega, by unfold FF; dsimp only; omega⟩
  have k3 := g ⟨b.x0, b.y1⟩ ⟨⟨by unfold FF; dsimp only; omega, by unfold FF; dsimp only; omega⟩, by unfold FF; dsimp only; omega, by unfold FF; dsimp only; omega⟩
  have k4 := g ⟨b.x1, b.y1⟩ ⟨⟨by unfold FF; dsimp only; omega, by unfold FF; dsimp only; omega⟩, by unfold FF; dsimp only; omega, by unfold FF; dsimp only; omega⟩
  omega
theorem bdR_far {s : Sh} (ha : PB FF s.a) (hc : PB FF s.c) (hr : 1 ≤ s.r ∧ s.r ≤ FF) : bdR s = s.r + rupF (distI s.a s.c) := by
  have hd := dist_far ha hc
  have q := rupF_sq (v := distI s.a s.c) (by omega)
  obtain ⟨⟨a1, a2⟩, a3, a4⟩ := ha
  obtain ⟨⟨c1, c2⟩, c3, c4⟩ := hc
  unfold FF at *
  unfold bdR
  have s1 := sq_nn (s.a.x - s.c.x)
  have s2 := sq_nn (s.a.y - s.c.y)
  have e : (s.a.x - s.c.x) * (s.a.x - s.c.x) + (s.a.y - s.c.y) * (s.a.y - s.c.y) = distI s.a s.c := rfl
  rw [W_id (x := s.a.x - s.c.x) (by omega) (by omega), W_id (x := s.a.y - s.c.y) (by omega) (by omega), W_id (x := (s.a.x - s.c.x) * (s.a.x - s.c.x)) (by omega) (by omega), W_id (x := (s.a.y - s.c.y) * (s.a.y - s.c.y)) (by omega) (by omega), e, W_id (x := distI s.a s.c) (by omega) (by omega)]
  exact W_id (by omega) (by omega)
theorem hasN_true {g add : Nat → Bool} : ∀ {n : Nat}, foldN (hasN g add) false n = true → ∃ i, i < n ∧ g i = true ∧ add i = true
  | 0, h => by cases h
  | n + 1, h => by
    have h' : hasN g add n (foldN (hasN g add) false n) = true := h
    unfold hasN at h'
    cases hg : g n with
    | true => rw [hg] at h'; exact ⟨n, Nat.lt_succ_self n, hg, h'⟩
    | false =>
      rw [hg] at h'
      obtain ⟨i, hi, h1, h2⟩ := hasN_true (n := n) h'
      exact ⟨i, by omega, h1, h2⟩

/-! ### the points of contours, one box after the other -/
theorem ctr_keep {l : Ctr} {i : Nat} (q : Bool × B4) (c : B4) (h : Cov q c) : Cov (bdO l i q) c := foldN_keep (g := bdI l i) (fun k q c _ h => (cov_tk _).2 c h) h
theorem ctr_cov {l : Ctr} {P : P2 → Prop} (hP : ∀ p, P p → PB FF p) (h : FinC P l) : InC (foldN (bdO l) bdQ l.n).2 l ∧ ((∃ i k, i < l.n ∧ k < l.m i) → (foldN (bdO l) bdQ l.n).1 = true) := by
  have key : ∀ i k, i < l.n → k < l.m i → Cov (foldN (bdO l) bdQ l.n) (aroundF (l.p i k) (l.p i k) 0) := fun i k hi hk =>
    foldN_cov (g := bdO l) (fun i q c _ h => ctr_keep q c h) hi (fun q => foldN_cov (g := bdI l i) (fun k q c _ h => (cov_tk _).2 c h) hk (fun q => (cov_tk _).1) q) bdQ
  refine ⟨fun i hi k hk => (key i k hi hk).2.has (spot_aro (hP _ ((h.2 i hi).2 k hk))), fun ⟨i, k, hi, hk⟩ => (key i k hi hk).1⟩
theorem ctr_gd {l : Ctr} {P : P2 → Prop} (hP : ∀ p, P p → PB FF p) (h : FinC P l) : Gd (foldN (bdO l) bdQ l.n) :=
  foldN_gd (g := bdO l) (fun i q hi hq => foldN_gd (g := bdI l i) (fun k q hk hq _ => tk_fits (aro_fits (hP _ ((h.2 i hi).2 k hk)) (hP _ ((h.2 i hi).2 k hk)) (by omega) (by omega)) hq) hq) (fun h => by cases h)
theorem ctr_no {l : Ctr} {P : P2 → Prop} (hP : ∀ p, P p → PB FF p) (h : FinC P l) (k : (foldN (bdO l) bdQ l.n).1 = false) : ∀ i, i < l.n → l.m i = 0 := fun i hi => by
  rcases Nat.eq_zero_or_pos (l.m i) with z | z
  · exact z
  · rw [(ctr_cov hP h).2 ⟨i, 0, hi, z⟩] at k; cases k

theorem fine_bnd {B : Int} (hB : B ≤ FF) : ∀ (s : Shp) (d : Int), Fine (PB B) s d → (∀ p, PB FF p → hasF s p = true → (bndF s).2 = true ∧ hasI (bndF s).1 p) ∧ ((bndF s).2 = true → Fits (bndF s).1) := by
  intro s
  induction s with
  | nil => intro d h; exact h.elim
  | mk k a b c r l n add sub ih =>
    intro d h
    rcases h with ⟨rfl, rfl, rfl, rfl, rfl, ha, hr⟩ | ⟨rfl, rfl, rfl, rfl, ha, hb, hr⟩ | ⟨rfl, rfl, rfl, rfl, ha, hb, hr, hab⟩ | ⟨rfl, rfl, rfl, ha, hb, hc, hr, ok⟩ | ⟨rfl, rfl, rfl, rfl, rfl, rfl, hl⟩ | ⟨rfl, rfl, rfl, rfl, rfl, rfl, hd, hn, hs⟩
    · have ha := PB_F hB ha
      have hr := wid_bd hr
      refine ⟨fun p hp h => ⟨rfl, ?_⟩, fun _ => aro_fits ha ha (by omega) (by omega)⟩
      have h' : discHas p a r = true := h
      rw [discHas_eq (PB_R hp) (PB_R ha) hr.1 (by omega), decide_eq_true_eq] at h'
      exact (aro_has ha ha (by omega) (by omega) hp).2 (dist_box (by omega) h')
    · have ha := PB_F hB ha
      have hb := PB_F hB hb
      have hr := wid_bd hr
      refine ⟨fun p hp h => ⟨rfl, ?_⟩, fun _ => aro_fits ha hb (by omega) (by omega)⟩
      have h' : lineHas p a b r = true := h
      rw [lineHas_eq (PB_R hp) (PB_R ha) (PB_R hb) hr.1 (by omega)] at h'
      exact (aro_has ha hb (by omega) (by omega) hp).2 (onS_box (by omega) (lineI_iff.1 h'))
    · have ha := PB_F hB ha
      have hb := PB_F hB hb
      have hr := wid_bd hr
      refine ⟨fun p hp h => ⟨rfl, ?_⟩, fun _ => aro_fits ha hb (by omega) (by omega)⟩
      have h' : barHas p a b r = true := h
      rw [barHas_eq (PB_R hp) (PB_R ha) (PB_R hb) (by omega)] at h'
      exact (aro_has ha hb (by omega) (by omega) hp).2 (onS_box (by omega) (lineI_iff.1 (bar_line h')))
    · have ha := PB_F hB ha
      have hb := PB_F hB hb
      have hc := PB_F hB hc
      have hr := wid_bd hr
      have hd := dist_far ha hc
      have q := rupF_sq (v := distI a c) (by omega)
      have e : (bndF (.mk 5 a b c r zeC 0 add sub)).1 = aroundF c c (r + rupF (distI a c)) := by
        show aroundF c c (bdR ⟨5, a, b, c, r, zeC, 0, noF⟩) = _
        rw [bdR_far (s := ⟨5, a, b, c, r, zeC, 0, noF⟩) ha hc hr]
      rw [e]
      refine ⟨fun p hp h => ⟨rfl, ?_⟩, fun _ => aro_fits hc hc (by omega) (by omega)⟩
      have h' : ringHas p c a b r = true := h
      rw [ringHas_eq (PB_R hp) (PB_R hc) (PB_R ha) (PB_R hb) ok hr.1 (by omega) (by have := dist_far hp hc; omega) (by omega)] at h'
      have := ring_d ok q.1 (by omega) q.2.2 h'
      rw [Int.add_comm] at this
      exact (aro_has hc hc (by omega) (by omega) hp).2 (dist_box (by omega) this)
    · have hP : ∀ p, PB B p → PB FF p := fun p h => PB_F hB h
      have cv := ctr_cov hP hl
      refine ⟨fun p hp h => ?_, fun h => ctr_gd hP hl h⟩
      have h' : polyHasF p l = true := h
      have hC : PRC l := ⟨fun i hi k hk => PB_R (hP _ ((hl.2 i hi).2 k hk))⟩
      refine ⟨?_, poly_has hC (PB_R hp) cv.1 h'⟩
      show (foldN (bdO l) bdQ l.n).1 = true
      cases k : (foldN (bdO l) bdQ l.n).1 with
      | true => rfl
      | false =>
        have z := ctr_no hP hl k
        have := poly_has (U := ⟨p.x + 1, p.y, p.x, p.y⟩) hC (PB_R hp) (fun i hi k hk => by rw [z i hi] at hk; omega) h'
        unfold hasI at this
        dsimp only at this
        omega
    · have keep : ∀ (i : Nat) (q : Bool × B4) (c : B4), i < n → Cov q c → Cov (bif !(add i) then q else bif (bndF (sub i)).2 then (true, tkF q.1 q.2 (bndF (sub i)).1) else q) c := fun i q c _ h => by
        cases add i with
        | false => exact h
        | true =>
          cases (bndF (sub i)).2 with
          | false => exact h
          | true => exact (cov_tk _).2 c h
      refine ⟨fun p hp h => ?_, fun h => ?_⟩
      · have h' : (runN (fun t (_ : Bool) => bif hasF (sub (n - 1 - t)) p then (false, add (n - 1 - t)) else (true, false)) false n).2 = true := h
        rw [has_fold (fun i => hasF (sub i) p) add n] at h'
        obtain ⟨i, hi, h1, h2⟩ := hasN_true h'
        have hi' := (ih i (d + 1) (hs i hi)).1 p hp h1
        have cv := foldN_cov (g := fun i (q : Bool × B4) => bif !(add i) then q else bif (bndF (sub i)).2 then (true, tkF q.1 q.2 (bndF (sub i)).1) else q) keep hi (b := (bndF (sub i)).1) (fun q => by
          rw [h2, hi'.1]
          exact (cov_tk _).1) bdQ
        exact ⟨cv.1, cv.2.has hi'.2⟩
      · refine foldN_gd (g := fun i (q : Bool × B4) => bif !(add i) then q else bif (bndF (sub i)).2 then (true, tkF q.1 q.2 (bndF (sub i)).1) else q) (n := n) (a := bdQ) (fun i q hi hq => ?_) (fun h => by cases h) h
        cases add i with
        | false => exact hq
        | true =>
          cases hk : (bndF (sub i)).2 with
          | false => exact hq
          | true => exact fun _ => tk_fits ((ih i (d + 1) (hs i hi)).2 hk) hq

def kindS : Shp → Int
  | .nil => 0
  | .mk k _ _ _ _ _ _ _ _ => k
theorem Fits_BR {b : B4} (h : Fits b) : BR b := by
  obtain ⟨b1, b2, b3, b4, b5, b6⟩ := h
  exact ⟨⟨by omega, by omega⟩, ⟨by omega, by omega⟩, ⟨by omega, by omega⟩, ⟨by omega, by omega⟩⟩
theorem fine_off {B : Int} (hB : B ≤ FF) {b : B4} (hb : Fits b) : ∀ (s : Shp) (d : Int), Fine (PB B) s d → kindS s ≠ 4 → kindS s ≠ 6 → ((bndF s).2 = true → Off (bndF s).1 b) → classF s b = 0 := by
  intro s d h h4 h6 ho
  cases s with
  | nil => exact h.elim
  | mk k a b' c r l n add sub =>
    have R := Fits_BR hb
    rcases h with ⟨rfl, rfl, rfl, rfl, rfl, ha, hr⟩ | ⟨rfl, rfl, rfl, rfl, ha, hb', hr⟩ | ⟨rfl, rfl, rfl, rfl, ha, hb', hr, hab⟩ | ⟨rfl, rfl, rfl, ha, hb', hc, hr, ok⟩ | ⟨rfl, rfl, rfl, rfl, rfl, rfl, hl⟩ | ⟨rfl, rfl, rfl, rfl, rfl, rfl, hd, hn, hs⟩
    · have ha := PB_F hB ha
      have hr := wid_bd hr
      have o := aro_off ha ha (by omega) (by omega) hb (ho rfl)
      show discClass b a r = 0
      rw [discClass_eq R (PB_R ha) hb.x hb.y hr.1 (by omega), if_pos (near_off hb.x hb.y (by omega) o (.inl rfl))]
    · have ha := PB_F hB ha
      have hb' := PB_F hB hb'
      have hr := wid_bd hr
      have o := aro_off ha hb' (by omega) (by omega) hb (ho rfl)
      show lineClass b a b' r = 0
      rw [lineClass_eq R (PB_R ha) (PB_R hb') hb.x hb.y hr.1 (by omega)]
      exact line_off hb.x hb.y (by omega) o
    · exact absurd rfl h4
    · have ha := PB_F hB ha
      have hb' := PB_F hB hb'
      have hc := PB_F hB hc
      have hr := wid_bd hr
      have hd := dist_far ha hc
      have q := rupF_sq (v := distI a c) (by omega)
      have e : (bndF (.mk 5 a b' c r zeC 0 add sub)).1 = aroundF c c (r + rupF (distI a c)) := by
        show aroundF c c (bdR ⟨5, a, b', c, r, zeC, 0, noF⟩) = _
        rw [bdR_far (s := ⟨5, a, b', c, r, zeC, 0, noF⟩) ha hc hr]
      have ho' := ho rfl
      rw [e] at ho'
      have o := aro_off hc hc (by omega) (by omega) hb ho'
      rw [Int.add_comm] at o
      show ringClass b c a b' r = 0
      rw [ringClass_eq R (PB_R hc) (PB_R ha) (PB_R hb') ok hb.x hb.y hr.1 (by omega) (most_far2 hb hc) (by omega)]
      exact ring_off hb.x hb.y ok q.1 (by omega) q.2.2 o
    · have hP : ∀ p, PB B p → PB FF p := fun p h => PB_F hB h
      have cv := ctr_cov hP hl
      have hC : PRC l := ⟨fun i hi k hk => PB_R (hP _ ((hl.2 i hi).2 k hk))⟩
      show polyClassF b l = 0
      cases k : (foldN (bdO l) bdQ l.n).1 with
      | true => exact poly_off hC R hb.x hb.y cv.1 (ho k)
      | false => exact poly_no hC R hb.x hb.y (ctr_no hP hl k)
    · exact absurd rfl h6
end Go.Proofs.Ytfooaikpcbnchaa

/-! ## Fit -/
namespace Go.Proofs.Ytfooaikpcbnchaa
open Go Go.RowKit Sym
set_option maxRecDepth 100000

def Awake10 : Prop := Dyn.CallD Try.prog 26 [] (rB true)
noncomputable def tdFs : List Dyn.EntryD := [(26, en0R (rB true)), (14, en2D (qAnd qS PdW) qI fun x d => rB (smallE x d)), (18, en3D (qAnd qS PdS) qB qI fun x q d => .val (dvS (tameE x q d))), (30, en2D (qAnd qS PdS) qP fun x p => rB (figHasE x p)), (29, en2D (qAnd qS PdS) qX fun x b => rI (figClassE x b))]
def drFs (K : Nat) : Bool := Nat.beq K 18
noncomputable def tabFs : Dyn.Tabs := Dyn.tabs tbF tdFs drFs dtyS
theorem tabFs_ok (ha : Awake10) : Dyn.TabsOk Try.prog tabFs := Dyn.tabs_ok tbF_ok (List.forall_mem_cons.2 ⟨en0R_ok ha, List.forall_mem_cons.2 ⟨en2D_ok (qAnd_ok qS_ok) qI_ok fun x d h _ => small_all x h.1 d, List.forall_mem_cons.2 ⟨en3D_ok (qAnd_ok qS_ok) qB_ok qI_ok fun x q d h _ _ => tame_all x h.1 q d, List.forall_mem_cons.2 ⟨en2D_ok (qAnd_ok qS_ok) qP_ok fun x p h _ => figHas_ok x h.1 p, List.forall_mem_cons.2 ⟨en2D_ok (qAnd_ok qS_ok) qX_ok fun x b h _ => figClass_ok x h.1 b, fun _ h => by cases h⟩⟩⟩⟩⟩)
def fsV (i : Bool) (k : Int) : Bool :=
  bif bif bif bif bif k != 2 then true else i then bif k != 0 then true else !i else false then decide (k ≥ 0) else false then decide (k ≤ 2) else false then true else false
noncomputable def fsO0 (S : Sh) (b : B4) (x y : Int) : Dyn.RO := .side [PdS S, ctrSelf S.l] (.side [lInOk b, PdS S, ctrSelf S.l] (.leaf (rB (fsV (figHasE S (lIn b x y)) (figClassE S b)))))
noncomputable def fsO (s : Sh) (b : B4) (x y : Int) (sm : Bool) : Dyn.RO :=
  .side [PdW s, ctrSelf s.l] (.ite (!(smallE s 0)) (.leaf (rB true)) (.side [PdS s, ctrSelf s.l] (.ite sm (fsO0 (tameE s sm 0) (lSmall (lBox b)) x y) (fsO0 (tameE s sm 0) (lBox b) x y))))
theorem fs_O (s : Sh) (b : B4) (x y : Int) (sm : Bool) : (Dyn.dfun Try.prog tabFs Dyn.noLp 3 Try.f6 [dvS s, dvX b, dvI x, dvI y, dvB sm]).ro Try.prog Try.f6.results = fsO s b x y sm := by kernel_rfl
theorem fsV_true {i : Bool} {k : Int} (h : Sure i k) : fsV i k = true := by
  obtain ⟨h1, h2, h3, h4⟩ := h
  unfold fsV
  have : k = 0 ∨ k = 1 ∨ k = 2 := by omega
  rcases this with rfl | rfl | rfl
  · rw [h4 rfl]; rfl
  · cases i <;> rfl
  · rw [h3 rfl]; rfl
theorem figSure_ok' (ha : Awake10) (s : Sh) (hs : PdW s) (b : B4) (x y : Int) (sm : Bool) : Dyn.CallD Try.prog 6 [dvS s, dvX b, dvI x, dvI y, dvB sm] (rB true) := by
  refine Dyn.dcontract (lp := Dyn.noLp) (fuel := 3) (tabFs_ok ha) mo Try.func6 (by kernel_rfl) (c := bodyD Try.f6.body) (by kernel_rfl) (fun w0 => Dyn.noLp_ok _ w0) (by kernel_rfl) (fs_O s b x y sm) ?_
  refine ⟨⟨hs, ctrSelf_ok _, trivial⟩, fun h => ro_leaf rfl, fun h => ?_⟩
  have hB : ShB (ofSh s) := small_B _ 0 (by simpa [smallE] using h)
  have f := tame_fine sm (ofSh s) 0 hB (by decide) (by decide)
  have pT : PdS (tameE s sm 0) := PdS_mk (fine_B _ 0 f (by decide))
  have ok : okE (tameE s sm 0) = true := fine_ok (fun p hp => PB_near (tmX_le sm) hp) f
  have key : ∀ b', BR b' → Fits b' → b'.x0 ≤ b'.x1 → b'.y0 ≤ b'.y1 → (fsO0 (tameE s sm 0) b' x y).sat fun r => Dyn.RVLe r (rB true) := fun b' hb hf hx hy => by
    have e1 : figHasE (tameE s sm 0) (lIn b' x y) = hasF (tameS (ofSh s) sm 0) (lIn b' x y) := by
      unfold figHasE; rw [ok]
      show hasE (toSh (tameS (ofSh s) sm 0)) _ = _
      rw [hasE_eq]
    have e2 : figClassE (tameE s sm 0) b' = classF (tameS (ofSh s) sm 0) b' := by
      unfold figClassE; rw [ok]
      show classE (toSh (tameS (ofSh s) sm 0)) _ = _
      rw [classE_eq]
    refine ⟨⟨pT, ctrSelf_ok _, trivial⟩, ⟨(lIn_has x y hb hx hy).2, pT, ctrSelf_ok _, trivial⟩, ?_⟩
    rw [e1, e2, fsV_true (shape_sure sm hb hf hx hy x y (ofSh s) 0)]
    exact ro_leaf rfl
  refine ⟨⟨⟨hB, hs.2⟩, ctrSelf_ok _, trivial⟩, fun _ => ?_, fun _ => ?_⟩
  · have h := lSmall_r (lBox b)
    exact key _ (lSmall_R (lBox b)) ⟨by omega, by omega, by omega, by omega, by omega, by omega⟩ (by omega) (by omega)
  · have h := lBox_r b
    exact key _ (lBox_R b) (lBox_fits b) (by omega) (by omega)
end Go.Proofs.Ytfooaikpcbnchaa

/-! ## Dle -/
namespace Go.Proofs.Ytfooaikpcbnchaa
open Go Go.RowKit Sym
set_option maxRecDepth 100000

inductive DLe : Dyn.DC → Dyn.DC → Prop where
  | refl (c : Dyn.DC) : DLe c c
  | row (n : Nat) (f g : Nat → List Dyn.DC) : (∀ i, i < n → (f i).length = (g i).length) → (∀ i j, i < n → j < (f i).length → DLe ((f i).getD j default) ((g i).getD j default)) → DLe (.row n f) (.row n g)
theorem DLe.den {w : World} {F : Nat → Prop} {c d : Dyn.DC} (h : DLe c d) : ∀ {u : Value}, Dyn.DenC w F c u → Dyn.DenC w F d u := by
  induction h with
  | refl c => exact fun h => h
  | row n f g hl _ ih =>
    intro u k
    cases k with
    | nil _ oa cap => exact .nil g oa cap
    | row _ _ b off cap size V hF hc hd =>
      refine .row n g b off cap size V hF (fun i hi => ⟨(hl i hi) ▸ (hc i hi).1, (hc i hi).2⟩) (fun i j hi hj => ih i j hi ?_ (hd i j hi hj))
      rw [(hc i hi).1]; exact hj
def DLL : List Dyn.DC → List Dyn.DC → Prop
  | [], [] => True
  | c :: cs, d :: ds => DLe c d ∧ DLL cs ds
  | _, _ => False
theorem DLL.refl : ∀ cs, DLL cs cs
  | [] => trivial
  | c :: cs => ⟨.refl c, DLL.refl cs⟩
theorem DLL.den {w : World} {F : Nat → Prop} : ∀ {cs ds : List Dyn.DC} {us : List Value}, DLL cs ds → Dyn.DenL w F cs us → Dyn.DenL w F ds us
  | [], [], [], _, h => h
  | [], [], _ :: _, _, h => h
  | [], _ :: _, _, h, _ => h.elim
  | _ :: _, [], _, h, _ => h.elim
  | c :: cs, d :: ds, [], _, k => k.elim
  | c :: cs, d :: ds, u :: us, h, k => ⟨h.1.den k.1, DLL.den h.2 k.2⟩
theorem DLL.get : ∀ {cs ds : List Dyn.DC}, DLL cs ds → cs.length = ds.length ∧ ∀ j, DLe (cs.getD j default) (ds.getD j default)
  | [], [], _ => ⟨rfl, fun j => .refl _⟩
  | [], _ :: _, h => h.elim
  | _ :: _, [], h => h.elim
  | c :: cs, d :: ds, h => by
    have k := DLL.get h.2
    exact ⟨congrArg Nat.succ k.1, fun j => match j with
      | 0 => h.1
      | j + 1 => k.2 j⟩
theorem DLe.rowL {n : Nat} {f g : Nat → List Dyn.DC} (h : ∀ i, i < n → DLL (f i) (g i)) : DLe (.row n f) (.row n g) := .row n f g (fun i hi => (h i hi).get.1) (fun i j hi _ => (h i hi).get.2 j)
def DVd : Dyn.DV → Dyn.DV → Prop
  | .one c, .one d => DLe c d
  | .agg cs, .agg ds => DLL cs ds
  | _, _ => False
theorem DVd.refl : ∀ v, DVd v v
  | .one c => DLe.refl c
  | .agg cs => DLL.refl cs
theorem DVd.den {w : World} {F : Nat → Prop} : ∀ {c d : Dyn.DV} {u : Value}, DVd c d → Dyn.DenV w F c u → Dyn.DenV w F d u
  | .one _, .one _, _, h, k => DLe.den h k
  | .agg _, .agg _, _, h, ⟨us, e, k⟩ => ⟨us, e, DLL.den h k⟩
  | .one _, .agg _, _, h, _ => h.elim
  | .agg _, .one _, _, h, _ => h.elim
/-- a contract, told of a first argument that shows the same -/
theorem CallD_d1 {P : Program} {K : Nat} {v v' : Dyn.DV} {l : List Dyn.DV} {r : Dyn.RV} (h : DVd v v') (k : Dyn.CallD P K (v' :: l) r) : Dyn.CallD P K (v :: l) r := fun w F us hF hd => k w F us hF (by
  cases us with
  | nil => exact hd
  | cons u us => exact ⟨DVd.den h hd.1, hd.2⟩)
/-- the form of awake of layer 10, as the program writes it, and as a shape -/
def rawP (add : Bool) (r : Int) : List Dyn.DC := [cB add, cI 1, cI 0, cI 0, cI 0, cI 0, cI 0, cI 0, cI r, .row 0 noF, .row 0 noF]
def formD : Sh := ⟨6, ze, ze, ze, 0, zeL, 2, Dyn.pickL 0 [rawP true 5, rawP false 2]⟩
def shpD : Shp := .mk 6 ze ze ze 0 zeL 2 (fun i => bif Nat.beq i 0 then true else false) (fun i => bif Nat.beq i 0 then leafS 1 ze ze ze 5 zeL else leafS 1 ze ze ze 2 zeL)
theorem formD_le : DVd (dvS formD) (dvS (toSh shpD)) := ⟨.refl _, .refl _, .refl _, .refl _, .refl _, .refl _, .refl _, .refl _, .refl _, DLe.rowL fun i hi => by
  have hi : i < 2 := hi
  match i, hi with
  | 0, _ => exact ⟨.refl _, .refl _, .refl _, .refl _, .refl _, .refl _, .refl _, .refl _, .refl _, DLe.rowL (fun i hi => absurd hi (Nat.not_lt_zero i)), DLe.rowL fun i hi => absurd hi (Nat.not_lt_zero i), trivial⟩
  | 1, _ => exact ⟨.refl _, .refl _, .refl _, .refl _, .refl _, .refl _, .refl _, .refl _, .refl _, DLe.rowL (fun i hi => absurd hi (Nat.not_lt_zero i)), DLe.rowL fun i hi => absurd hi (Nat.not_lt_zero i), trivial⟩, trivial⟩
theorem shpD_B : ShB shpD := ⟨CtrB_zeL, by decide, fun i hi => by
  match i, hi with
  | 0, _ => exact leaf_B _ _ _ _ _ CtrB_zeL
  | 1, _ => exact leaf_B _ _ _ _ _ CtrB_zeL⟩
end Go.Proofs.Ytfooaikpcbnchaa

/-! ## Awt -/
namespace Go.Proofs.Ytfooaikpcbnchaa
open Go Go.RowKit Sym
set_option maxRecDepth 100000

def selD (x : Sh) : Sh := bif Nat.beq x.n 2 then toSh shpD else x
def PdD (x : Sh) : Prop := x = formD ∨ (PdS x ∧ Nat.beq x.n 2 = false)
theorem selD_ok {P : Program} {K : Nat} {x : Sh} {l : List Dyn.DV} {R : Sh → Dyn.RV} (h : PdD x) (k : ∀ y, PdS y → Dyn.CallD P K (dvS y :: l) (R y)) : Dyn.CallD P K (dvS x :: l) (R (selD x)) := by
  rcases h with rfl | ⟨h, e⟩
  · exact CallD_d1 formD_le (k (toSh shpD) (PdS_mk shpD_B))
  · unfold selD; rw [e]; exact k x h
def Count10 : Prop := Dyn.CallD Try.prog 35 [dvS formD] (rI 3)
noncomputable def tdAw : List Dyn.EntryD := [(35, en1D (qAnd qS (fun x => x = formD)) fun _ => rI 3), (48, en1D (qAnd qS PdD) fun x => rB (okE (selD x))), (30, en2D (qAnd qS PdD) qP fun x p => rB (figHasE (selD x) p)), (29, en2D (qAnd qS PdD) qX fun x b => rI (figClassE (selD x) b)), (25, en1D (qAnd qS PdD) fun x => .tup [dvX (figBnd (selD x)).1, dvB (figBnd (selD x)).2])]
noncomputable def tabAw : Dyn.Tabs := Dyn.tabs tbF tdAw noD dtyS
theorem tabAw_ok (hc : Count10) : Dyn.TabsOk Try.prog tabAw := Dyn.tabs_ok tbF_ok (List.forall_mem_cons.2 ⟨en1D_ok (qAnd_ok qS_ok) fun x h => by rw [h.1]; exact hc, List.forall_mem_cons.2 ⟨en1D_ok (qAnd_ok qS_ok) fun x h => selD_ok (R := fun y => rB (okE y)) h.1 fun y hy => figOk_ok y hy, List.forall_mem_cons.2 ⟨en2D_ok (qAnd_ok qS_ok) qP_ok fun x p h _ => selD_ok (R := fun y => rB (figHasE y p)) h.1 fun y hy => figHas_ok y hy p, List.forall_mem_cons.2 ⟨en2D_ok (qAnd_ok qS_ok) qX_ok fun x b h _ => selD_ok (R := fun y => rI (figClassE y b)) h.1 fun y hy => figClass_ok y hy b, List.forall_mem_cons.2 ⟨en1D_ok (qAnd_ok qS_ok) fun x h => selD_ok (R := fun y => .tup [dvX (figBnd y).1, dvB (figBnd y).2]) h.1 fun y hy => figBnd_ok y hy, fun _ h => by cases h⟩⟩⟩⟩⟩)
def an3 (a b : Bool) : Bool := bif a then b else false
def eqX4 (b c : B4) : Bool := bif b.x0 == c.x0 then bif b.y0 == c.y0 then bif b.x1 == c.x1 then bif b.y1 == c.y1 then true else false else false else false else false
noncomputable def awC1 : Bool := okE (selD formD)
noncomputable def awC2 : Bool := an3 awC1 (!(okE (selD (litS 0 ze ze ze 0))))
noncomputable def awC3 : Bool := an3 awC2 ((3 : Int) == 3)
noncomputable def awC4 : Bool := an3 awC3 (figHasE (selD formD) ⟨4, 0⟩)
noncomputable def awC5 : Bool := an3 awC4 (!(figHasE (selD formD) ⟨2, 0⟩))
noncomputable def awC6 : Bool := an3 awC5 (figClassE (selD formD) ⟨3, 0, 4, 0⟩ == 2)
noncomputable def awC7 : Bool := an3 awC6 (figClassE (selD formD) ⟨0, 0, 0, 0⟩ == 0)
noncomputable def awC12 : Bool := an3 (an3 (an3 (an3 (an3 awC7 (eqX4 (figBnd (selD formD)).1 ⟨-5, -5, 5, 5⟩)) (figBnd (selD formD)).2) (!(figBnd (selD (litS 6 ze ze ze 0))).2)) (foldF 0 1 true == 1)) (foldF 2 1 true == 2)
noncomputable def aw10O : Dyn.RO :=
  .side [PdD formD, ctrIs 0 noF] (.side [PdD (litS 6 ze ze ze 0), ctrIs 0 noF] (.side [PdD formD, ctrIs 0 noF,
    some awC1 = some true ∧ True → allP [PdD (litS 0 ze ze ze 0), ctrIs 0 noF], some awC2 = some true ∧ True → allP [formD = formD, ctrIs 0 noF],
    some awC3 = some true ∧ True → allP [PdD formD, ctrIs 0 noF], some awC4 = some true ∧ True → allP [PdD formD, ctrIs 0 noF], some awC5 = some true ∧ True → allP [PdD formD, ctrIs 0 noF], some awC6 = some true ∧ True → allP [PdD formD, ctrIs 0 noF]]
    (.leaf (rB awC12))))
theorem aw10_O : (Dyn.dfun Try.prog tabAw Dyn.noLp 3 Try.f26 []).ro Try.prog Try.f26.results = aw10O := by kernel_rfl
theorem okD : okE (toSh shpD) = true := by unfold okE; rw [vE_eq]; kernel_rfl
theorem hasD (p : P2) : figHasE (toSh shpD) p = hasF shpD p := by unfold figHasE; rw [okD, hasE_eq]; rfl
theorem clsD (b : B4) : figClassE (toSh shpD) b = classF shpD b := by unfold figClassE; rw [okD, classE_eq]; rfl
theorem bndD : figBnd (toSh shpD) = bndF shpD := by unfold figBnd; rw [okD, bndE_eq]; rfl
theorem selD_lit (k r : Int) : selD (litS k ze ze ze r) = litS k ze ze ze r := rfl
theorem aw10_true : awC12 = true := by
  have e0 : selD formD = toSh shpD := rfl
  have z0 : okE (litS 0 ze ze ze 0) = false := by rw [okE_lit]; kernel_rfl
  have z6 : (figBnd (litS 6 ze ze ze 0)).2 = false := by
    have e1 : okE (litS 6 ze ze ze 0) = true := by rw [okE_lit]; kernel_rfl
    obtain ⟨add, sub, h⟩ := ofSh_lit 6 ze ze ze 0
    unfold figBnd bndE
    rw [e1, h]
    rfl
  unfold awC12 awC7 awC6 awC5 awC4 awC3 awC2 awC1
  rw [e0, selD_lit, selD_lit, okD, z0, z6, hasD, hasD, clsD, clsD, bndD]
  decide +kernel
theorem awake10_ok (hc : Count10) : Dyn.CallD Try.prog 26 [] (rB true) :=
  Dyn.dcontract (lp := Dyn.noLp) (fuel := 3) (tabAw_ok hc) mo Try.func26 (by kernel_rfl) (c := bodyD Try.f26.body) (by kernel_rfl) (fun w0 => Dyn.noLp_ok _ w0) (by kernel_rfl) aw10_O (by
    have pF : PdD formD := .inl rfl
    have pl : ∀ k r, PdD (litS k ze ze ze r) := fun k r => .inr ⟨PdS_lit _ _ _ _ _, rfl⟩
    refine ⟨⟨pF, lit_Is, trivial⟩, ⟨pl 6 0, lit_Is, trivial⟩, ⟨pF, lit_Is, fun _ => ⟨pl 0 0, lit_Is, trivial⟩, fun _ => ⟨rfl, lit_Is, trivial⟩, fun _ => ⟨pF, lit_Is, trivial⟩, fun _ => ⟨pF, lit_Is, trivial⟩, fun _ => ⟨pF, lit_Is, trivial⟩, fun _ => ⟨pF, lit_Is, trivial⟩, trivial⟩, ?_⟩
    rw [aw10_true]; exact ro_leaf rfl)
end Go.Proofs.Ytfooaikpcbnchaa
