/-
  OWN WORK. Products of 128 bits are exact and are told by size: so what is beside a line is told by squares of integers.
-/
import Derived.Test.YtgdjfclpncpnpaaLem
namespace Go.Proofs.Ytgdjfclpncpnpaa
open Go Go.RowKit

theorem sh32_eq (x : Int) : sh32 x = x / 4294967296 := by
  unfold sh32
  have : (2 : Int) ^ min (Int.toNat 32) 64 = 4294967296 := by decide
  rw [this, Int.fdiv_eq_ediv_of_nonneg _ (by decide)]
theorem lo32_eq {x : Int} (h0 : 0 ≤ x) (h1 : x < 18446744073709551616) : lo32 x = x % 4294967296 := by
  have e : (BitVec.ofInt 64 x &&& BitVec.ofInt 64 4294967295).toNat = x.toNat % 4294967296 := by
    rw [BitVec.toNat_and]
    have a : (BitVec.ofInt 64 4294967295).toNat = 2 ^ 32 - 1 := by decide
    have b : (BitVec.ofInt 64 x).toNat = x.toNat := by
      rw [BitVec.toNat_ofInt]
      have : ((2 ^ 64 : Nat) : Int) = 18446744073709551616 := by decide
      rw [this, Int.emod_eq_of_lt h0 h1]
    rw [a, b, Nat.and_two_pow_sub_one_eq_mod]
  unfold lo32 u64
  rw [e, U_id (by omega) (by omega)]
  omega
theorem halves_mul (x y : Int) : x * y = (x / 4294967296 * (y / 4294967296)) * 18446744073709551616 + (x / 4294967296 * (y % 4294967296) + x % 4294967296 * (y / 4294967296)) * 4294967296 + x % 4294967296 * (y % 4294967296) := by
  have a := Int.emod_add_mul_ediv x 4294967296
  have b := Int.emod_add_mul_ediv y 4294967296
  generalize x / 4294967296 = p at *
  generalize y / 4294967296 = q at *
  generalize x % 4294967296 = s at *
  generalize y % 4294967296 = t at *
  subst a b
  grind
theorem half_bd {x y : Int} (h0 : 0 ≤ x) (h1 : x ≤ 4294967295) (h2 : 0 ≤ y) (h3 : y ≤ 4294967295) : 0 ≤ x * y ∧ x * y ≤ 18446744065119617025 := by
  have a := Int.mul_nonneg h0 h2
  have b := (mul_bd (A := 4294967295) (B := 4294967295) (x := x) (y := y) (by omega) h1 (by omega) h3).2
  have e : (4294967295 : Int) * 4294967295 = 18446744065119617025 := by decide
  omega
structure In64 (x : Int) : Prop where
  lo : 0 ≤ x
  hi : x < 18446744073709551616
theorem mulHi_eq {x y : Int} (hx : In64 x) (hy : In64 y) : mulHi x y = x * y / 18446744073709551616 := by
  obtain ⟨x0, x1⟩ := hx; obtain ⟨y0, y1⟩ := hy
  unfold mulHi
  rw [lo32_eq x0 x1, lo32_eq y0 y1, sh32_eq x, sh32_eq y]
  have e := halves_mul x y
  have a := half_bd (x := x % 4294967296) (y := y % 4294967296) (by omega) (by omega) (by omega) (by omega)
  have b := half_bd (x := x / 4294967296) (y := y % 4294967296) (by omega) (by omega) (by omega) (by omega)
  have c := half_bd (x := x % 4294967296) (y := y / 4294967296) (by omega) (by omega) (by omega) (by omega)
  have d := half_bd (x := x / 4294967296) (y := y / 4294967296) (by omega) (by omega) (by omega) (by omega)
  rw [e]
  generalize x % 4294967296 * (y % 4294967296) = A at *
  generalize x / 4294967296 * (y % 4294967296) = B at *
  generalize x % 4294967296 * (y / 4294967296) = C at *
  generalize x / 4294967296 * (y / 4294967296) = D at *
  dsimp only
  rw [U_id (x := A) (by omega) (by omega), U_id (x := B) (by omega) (by omega), U_id (x := C) (by omega) (by omega), U_id (x := D) (by omega) (by omega), sh32_eq A]
  rw [U_id (x := B + A / 4294967296) (by omega) (by omega)]
  rw [lo32_eq (x := B + A / 4294967296) (by omega) (by omega), sh32_eq (B + A / 4294967296)]
  rw [U_id (x := (B + A / 4294967296) % 4294967296 + C) (by omega) (by omega), sh32_eq ((B + A / 4294967296) % 4294967296 + C)]
  rw [U_id (x := D + (B + A / 4294967296) / 4294967296) (by omega) (by omega), U_id (by omega) (by omega)]
  omega
theorem wmul_eq {x y : Int} (hx : In64 x) (hy : In64 y) : wmul x y = ⟨x * y / 18446744073709551616, x * y % 18446744073709551616⟩ := by
  unfold wmul mulLo
  rw [mulHi_eq hx hy, U_eq]
theorem rMul_eq {x y : Int} (hx : In64 x) (hy : In64 y) : rMul x y = ⟨x * y / 18446744073709551616, x * y % 18446744073709551616⟩ := by
  obtain ⟨x0, x1⟩ := hx; obtain ⟨y0, y1⟩ := hy
  unfold rMul
  rw [lo32_eq x0 x1, lo32_eq y0 y1, sh32_eq x, sh32_eq y]
  have e := halves_mul x y
  have a := half_bd (x := x % 4294967296) (y := y % 4294967296) (by omega) (by omega) (by omega) (by omega)
  have b := half_bd (x := x / 4294967296) (y := y % 4294967296) (by omega) (by omega) (by omega) (by omega)
  have c := half_bd (x := x % 4294967296) (y := y / 4294967296) (by omega) (by omega) (by omega) (by omega)
  have d := half_bd (x := x / 4294967296) (y := y / 4294967296) (by omega) (by omega) (by omega) (by omega)
  rw [e]
  dsimp only
  generalize x % 4294967296 * (y % 4294967296) = A at *
  generalize x / 4294967296 * (y % 4294967296) = B at *
  generalize x % 4294967296 * (y / 4294967296) = C at *
  generalize x / 4294967296 * (y / 4294967296) = D at *
  rw [U_id (x := A) (by omega) (by omega), U_id (x := B) (by omega) (by omega), U_id (x := C) (by omega) (by omega), U_id (x := D) (by omega) (by omega), sh32_eq A, sh32_eq B, sh32_eq C,
    lo32_eq (x := A) (by omega) (by omega), lo32_eq (x := B) (by omega) (by omega), lo32_eq (x := C) (by omega) (by omega)]
  rw [U_id (x := A / 4294967296 + B % 4294967296) (by omega) (by omega)]
  rw [U_id (x := A / 4294967296 + B % 4294967296 + C % 4294967296) (by omega) (by omega)]
  generalize hm : A / 4294967296 + B % 4294967296 + C % 4294967296 = m
  rw [U_id (x := D + B / 4294967296) (by omega) (by omega), U_id (x := D + B / 4294967296 + C / 4294967296) (by omega) (by omega), sh32_eq m, U_id (by omega) (by omega)]
  have p : (2 : Int) ^ min (Int.toNat 32) 64 = 4294967296 := by decide
  rw [p, U_eq (m * 4294967296)]
  have q : m * 4294967296 % 18446744073709551616 = m % 4294967296 * 4294967296 := by omega
  rw [q]
  have o : (BitVec.ofInt 64 (m % 4294967296 * 4294967296) ||| BitVec.ofInt 64 (A % 4294967296)).toNat = 2 ^ 32 * (m % 4294967296).toNat + (A % 4294967296).toNat := by
    rw [BitVec.toNat_or, BitVec.toNat_ofInt, BitVec.toNat_ofInt]
    have : ((2 ^ 64 : Nat) : Int) = 18446744073709551616 := by decide
    rw [this, Int.emod_eq_of_lt (a := m % 4294967296 * 4294967296) (by omega) (by omega), Int.emod_eq_of_lt (a := A % 4294967296) (by omega) (by omega)]
    rw [Nat.two_pow_add_eq_or_of_lt (show (A % 4294967296).toNat < 2 ^ 32 by omega)]
    congr 1
    omega
  unfold u64
  rw [o]
  have g1 : ((2 ^ 32 * (m % 4294967296).toNat + (A % 4294967296).toNat : Nat) : Int) = m % 4294967296 * 4294967296 + A % 4294967296 := by omega
  rw [g1, U_id (by omega) (by omega)]
  have g2 : D + B / 4294967296 + C / 4294967296 + m / 4294967296 = (D * 18446744073709551616 + (B + C) * 4294967296 + A) / 18446744073709551616 := by omega
  have g3 : m % 4294967296 * 4294967296 + A % 4294967296 = (D * 18446744073709551616 + (B + C) * 4294967296 + A) % 18446744073709551616 := by omega
  rw [g2, g3]
theorem wabs_eq {v : Int} (h0 : -9223372036854775808 ≤ v) (h1 : v ≤ 9223372036854775807) : wabs v = (v.natAbs : Int) := by
  unfold wabs
  by_cases h : v < 0
  · rw [decide_eq_true h, bif_t, U_eq, U_eq]; omega
  · rw [decide_eq_false h, bif_f, U_eq]; omega
theorem rAbs_eq {v : Int} (h0 : -9223372036854775808 ≤ v) (h1 : v ≤ 9223372036854775807) : rAbs v = (v.natAbs : Int) := by
  unfold rAbs
  by_cases h : v < 0
  · rw [decide_eq_true h, bif_t, W_id (x := v + 1) (by omega) (by omega), W_id (by omega) (by omega), U_eq, U_eq]; omega
  · rw [decide_eq_false h, bif_f, U_eq]; omega
theorem ucmp_eq (x y : Int) : ucmp x y = if x < y then -1 else if x > y then 1 else 0 := by
  unfold ucmp
  simp only [bne_self_eq_false, bif_f]
  by_cases h : x < y
  · rw [decide_eq_true h, bif_t, if_pos h]
  · rw [decide_eq_false h, bif_f, if_neg h]
    by_cases h' : x > y
    · rw [decide_eq_true h', bif_t, if_pos h']
    · rw [decide_eq_false h', bif_f, if_neg h']
theorem wcmp_le (m n : Int) : wcmp ⟨m / 18446744073709551616, m % 18446744073709551616⟩ ⟨n / 18446744073709551616, n % 18446744073709551616⟩ ≤ 0 ↔ m ≤ n := by
  unfold wcmp
  dsimp only
  by_cases h : m / 18446744073709551616 = n / 18446744073709551616
  · have : (m / 18446744073709551616 != n / 18446744073709551616) = false := by simp [h]
    rw [this, bif_f, ucmp_eq]
    split
    · omega
    · split <;> omega
  · have : (m / 18446744073709551616 != n / 18446744073709551616) = true := by simp [h]
    rw [this, bif_t, ucmp_eq]
    split
    · omega
    · split <;> omega
theorem rCmp_le (m n : Int) : rCmp ⟨m / 18446744073709551616, m % 18446744073709551616⟩ ⟨n / 18446744073709551616, n % 18446744073709551616⟩ ≤ 0 ↔ m ≤ n := by
  unfold rCmp wEq
  dsimp only
  simp only [orB_eq, andB_eq]
  by_cases h : m / 18446744073709551616 = n / 18446744073709551616
  · have e1 : (m / 18446744073709551616 == n / 18446744073709551616) = true := by simp [h]
    have e2 : decide (m / 18446744073709551616 < n / 18446744073709551616) = false := by simp [h]
    rw [e1, e2]
    by_cases h' : m % 18446744073709551616 = n % 18446744073709551616
    · have e3 : (m % 18446744073709551616 == n % 18446744073709551616) = true := by simp [h']
      rw [e3]; simp only [bif_t]; omega
    · have e3 : (m % 18446744073709551616 == n % 18446744073709551616) = false := by simp [h']
      rw [e3]
      by_cases k : m % 18446744073709551616 < n % 18446744073709551616
      · rw [decide_eq_true k]; simp only [bif_t, bif_f, Bool.true_and, Bool.false_or]; omega
      · rw [decide_eq_false k]; simp only [bif_t, bif_f, Bool.and_false, Bool.false_or]; omega
  · have e1 : (m / 18446744073709551616 == n / 18446744073709551616) = false := by simp [h]
    rw [e1]
    by_cases k : m / 18446744073709551616 < n / 18446744073709551616
    · rw [decide_eq_true k]; simp only [bif_t, bif_f, Bool.true_or]; omega
    · rw [decide_eq_false k]; simp only [bif_f, Bool.false_and, Bool.false_or]; omega
theorem natAbs_sq (v : Int) : (v.natAbs : Int) * (v.natAbs : Int) = v * v := by
  rcases Int.natAbs_eq v with h | h <;> grind
theorem wle {k x y : Int} (h0 : -9223372036854775808 ≤ k) (h1 : k ≤ 9223372036854775807) (hx : In64 x) (hy : In64 y) : decide (wcmp (wsq k) (wmul x y) ≤ 0) = decide (k * k ≤ x * y) := by
  unfold wsq
  rw [wabs_eq h0 h1, wmul_eq ⟨by omega, by omega⟩ ⟨by omega, by omega⟩, wmul_eq hx hy, natAbs_sq]
  exact decide_eq_decide.2 (wcmp_le _ _)
theorem rle {k x y : Int} (h0 : -9223372036854775808 ≤ k) (h1 : k ≤ 9223372036854775807) (hx : In64 x) (hy : In64 y) : decide (rCmp (rSq k) (rMul x y) ≤ 0) = decide (k * k ≤ x * y) := by
  unfold rSq
  rw [rAbs_eq h0 h1, rMul_eq ⟨by omega, by omega⟩ ⟨by omega, by omega⟩, rMul_eq hx hy, natAbs_sq]
  exact decide_eq_decide.2 (rCmp_le _ _)

/-! ### the planar products -/
theorem sum2s {x y z w : Int} (h1 : -2147483646 ≤ x) (h2 : x ≤ 2147483646) (h3 : -2147483646 ≤ y) (h4 : y ≤ 2147483646) (h5 : -2147483646 ≤ z) (h6 : z ≤ 2147483646) (h7 : -2147483646 ≤ w) (h8 : w ≤ 2147483646) :
    W (W (x * y) + W (z * w)) = x * y + z * w ∧ W (W (x * y) - W (z * w)) = x * y - z * w ∧ -9223372019674906632 ≤ x * y + z * w ∧ x * y + z * w ≤ 9223372019674906632 ∧ -9223372019674906632 ≤ x * y - z * w ∧ x * y - z * w ≤ 9223372019674906632 := by
  have a := mul_bd (A := 2147483646) (B := 2147483646) h1 h2 h3 h4
  have b := mul_bd (A := 2147483646) (B := 2147483646) h5 h6 h7 h8
  have e : (2147483646 : Int) * 2147483646 = 4611686009837453316 := by decide
  rw [e] at a b
  rw [W_id (x := x * y) (by omega) (by omega), W_id (x := z * w) (by omega) (by omega), W_id (x := x * y + z * w) (by omega) (by omega), W_id (x := x * y - z * w) (by omega) (by omega)]
  omega
theorem df {u v : Int} (h1 : In30 u) (h2 : In30 v) : W (u - v) = u - v ∧ -2147483646 ≤ u - v ∧ u - v ≤ 2147483646 := by
  obtain ⟨a, b⟩ := h1; obtain ⟨c, d⟩ := h2
  rw [W_id (by omega) (by omega)]; omega
theorem cross_eq {o a b : P2} (ho : PR o) (ha : PR a) (hb : PR b) : cross o a b = crossI o a b ∧ -9223372019674906632 ≤ crossI o a b ∧ crossI o a b ≤ 9223372019674906632 := by
  have p := df ha.x ho.x; have q := df hb.y ho.y; have s := df ha.y ho.y; have t := df hb.x ho.x
  unfold cross crossI
  rw [p.1, q.1, s.1, t.1]
  have e := sum2s p.2.1 p.2.2 q.2.1 q.2.2 s.2.1 s.2.2 t.2.1 t.2.2
  exact ⟨e.2.1, e.2.2.2.2⟩
theorem rDot_eq {o a b : P2} (ho : PR o) (ha : PR a) (hb : PR b) : rDot o a b = dotI o a b ∧ -9223372019674906632 ≤ dotI o a b ∧ dotI o a b ≤ 9223372019674906632 := by
  have p := df ha.x ho.x; have q := df hb.y ho.y; have s := df ha.y ho.y; have t := df hb.x ho.x
  unfold rDot dotI
  rw [p.1, q.1, s.1, t.1]
  have e := sum2s p.2.1 p.2.2 t.2.1 t.2.2 s.2.1 s.2.2 q.2.1 q.2.2
  exact ⟨e.1, e.2.2.1, e.2.2.2.1⟩
theorem rDist_eq2 {p q : P2} (hp : PR p) (hq : PR q) : rDist p q = distI p q ∧ 0 ≤ distI p q ∧ distI p q ≤ 9223372019674906632 := by
  have a := df hp.x hq.x; have b := df hp.y hq.y
  unfold rDist distI
  rw [a.1, b.1]
  have e := sum2s a.2.1 a.2.2 a.2.1 a.2.2 b.2.1 b.2.2 b.2.1 b.2.2
  have h1 := sq_nn (p.x - q.x); have h2 := sq_nn (p.y - q.y)
  exact ⟨e.1, by omega, e.2.2.2.1⟩
theorem dist2_eq {a c : P2} (ha : PR a) (hc : PR c) : dist2 (W (c.x - a.x)) (W (c.y - a.y)) = distI a c := by
  have p := df hc.x ha.x; have q := df hc.y ha.y
  unfold dist2 distI
  rw [p.1, q.1, (sum2s p.2.1 p.2.2 p.2.1 p.2.2 q.2.1 q.2.2 q.2.1 q.2.2).1]
  grind
theorem along_eq {p a c : P2} (hp : PR p) (ha : PR a) (hc : PR c) : W (W (W (p.x - a.x) * W (c.x - a.x)) + W (W (p.y - a.y) * W (c.y - a.y))) = dotI a c p := by
  have s := df hc.x ha.x; have q := df hc.y ha.y; have u := df hp.x ha.x; have v := df hp.y ha.y
  rw [s.1, q.1, u.1, v.1, (sum2s u.2.1 u.2.2 s.2.1 s.2.2 v.2.1 v.2.2 q.2.1 q.2.2).1]
  unfold dotI; grind
theorem rsq {r : Int} (h1 : 0 ≤ r) (h2 : r ≤ 2147483648) : W (r * r) = r * r ∧ 0 ≤ r * r ∧ r * r ≤ 4611686018427387904 := by
  have a := sq_bd (A := 2147483648) (x := r) (by omega) h2
  have e : (2147483648 : Int) * 2147483648 = 4611686018427387904 := by decide
  rw [W_id (by omega) (by omega)]; omega
theorem U64 {x : Int} (h1 : 0 ≤ x) (h2 : x ≤ 9223372036854775807) : U x = x ∧ In64 (U x) := by
  have : U x = x := U_id h1 (by omega)
  rw [this]; exact ⟨rfl, by omega, by omega⟩
/-- the line through a and c passes within r of p -/
def clear (p a c : P2) (r : Int) : Bool := decide (crossI a c p * crossI a c p ≤ r * r * distI a c)
theorem clear_eq {p a c : P2} {r : Int} (hp : PR p) (ha : PR a) (hc : PR c) (h1 : 0 ≤ r) (h2 : r ≤ 2147483648) :
    decide (wcmp (wsq (cross a c p)) (wmul (U (square r)) (U (dist2 (W (c.x - a.x)) (W (c.y - a.y))))) ≤ 0) = clear p a c r := by
  have k := cross_eq ha hc hp
  have d := rDist_eq2 ha hc
  have s := rsq h1 h2
  rw [k.1, dist2_eq ha hc, square_eq h1 h2]
  rw [wle (by omega) (by omega) (U64 (x := r * r) (by omega) (by omega)).2 (U64 (x := distI a c) (by omega) (by omega)).2, (U64 (x := r * r) (by omega) (by omega)).1, (U64 (x := distI a c) (by omega) (by omega)).1]
  rfl
theorem rWithin_eq {p a c : P2} {r : Int} (hp : PR p) (ha : PR a) (hc : PR c) (h1 : 0 ≤ r) (h2 : r ≤ 2147483648) :
    rWithin (cross a c p) r (rDist a c) = clear p a c r := by
  have k := cross_eq ha hc hp
  have d := rDist_eq2 ha hc
  have s := rsq h1 h2
  unfold rWithin
  rw [k.1, d.1, s.1]
  rw [rle (by omega) (by omega) (U64 (x := r * r) (by omega) (by omega)).2 (U64 (x := distI a c) (by omega) (by omega)).2, (U64 (x := r * r) (by omega) (by omega)).1, (U64 (x := distI a c) (by omega) (by omega)).1]
  rfl
end Go.Proofs.Ytgdjfclpncpnpaa
