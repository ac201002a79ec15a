/-
  OWN WORK. Joined by merge.py: Shf Wid Bar Box Lin Disc Bas Disd Bat Lio Bau Lis Lit Rin Tam Sam San Tua Tub Roe DynW.
-/
import Derived.Test.YtfooaikpcbnchaaQE
/-! ## Shf -/
namespace Go.Proofs.Ytfooaikpcbnchaa
open Go Go.RowKit Sym
set_option maxRecDepth 100000

/-- a shape as an input may be: any lengths -/
def ShW : Shp → Prop
  | .nil => False
  | .mk _ _ _ _ _ _ n _ sub => ∀ i, i < n → ShW (sub i)
def smL (l : Ctr) (i : Nat) (_ : Unit) : Bool × Unit := (!(decide ((l.m i : Int) > 40)), ())
def smP (g : Sh → Int → Bool) (sh : Nat → Sh) (deep : Int) (i : Nat) (_ : Unit) : Bool × Unit := (g (sh i) (W (deep + 1)), ())
def smallG (g : Sh → Int → Bool) (sh : Nat → Sh) (s : Sh) (deep : Int) : Bool :=
  bif bif bif decide ((s.n : Int) > 12) then true else decide ((s.l.n : Int) > 12) then true else decide (deep > 12) then false else
  bif (runN (smL s.l) () s.l.n).1 then (runN (smP g sh deep) () s.n).1 else false
def tdSm (Pd : Sh → Prop) (g : Sh → Int → Bool) : List Dyn.EntryD := [(14, en2D (qAnd qS Pd) qI fun x d => rB (g x d))]
def smR : Dyn.St := mkS 52 [(4, .k (vb false))] []
def smK0 : List Nat := [1, 2, 4, 5]
def smK1 : List Nat := [1, 2, 4, 6]
theorem sm_blocks : blocksL (bodyD Try.f14.body) = [(0, .loop (unloopD (blkD Try.f14.body 0))), (1, blkD Try.f14.body 1), (2, .loop (unloopD (blkD Try.f14.body 2))), (3, blkD Try.f14.body 3)] := by kernel_rfl
theorem sm_b0 : blocksL (unloopD (blkD Try.f14.body 0)) = [(1, blkD Try.f14.body 1)] := by kernel_rfl
theorem sm_b2 : blocksL (unloopD (blkD Try.f14.body 2)) = [(3, blkD Try.f14.body 3)] := by kernel_rfl
def smBig (s : Sh) (deep : Int) : Bool := bif bif decide ((s.n : Int) > 12) then true else decide ((s.l.n : Int) > 12) then true else decide (deep > 12)
def smallF : Shp → Int → Bool
  | .nil, _ => false
  | .mk _ _ _ _ _ l n _ sub, deep =>
    bif bif bif decide ((n : Int) > 12) then true else decide ((l.n : Int) > 12) then true else decide (deep > 12) then false else
    bif (runN (smL l) () l.n).1 then (runN (fun i (_ : Unit) => (smallF (sub i) (W (deep + 1)), ())) () n).1 else false
noncomputable def smallE (x : Sh) (d : Int) : Bool := smallF (ofSh x) d
theorem smallE_eq (s : Shp) (d : Int) : smallE (toSh s) d = smallF s d := by unfold smallE; rw [ofSh_toSh]
theorem smallF_lvl (k : Int) (a b c : P2) (r : Int) (l : Ctr) (n : Nat) (add : Nat → Bool) (sub : Nat → Shp) (d : Int) : smallF (.mk k a b c r l n add sub) d = smallG smallE (fun i => toSh (sub i)) (toSh (.mk k a b c r l n add sub)) d := by
  unfold smallG smP
  simp only [smallE_eq]
  rfl
def PdW (x : Sh) : Prop := ShW (ofSh x) ∧ SLe x (toSh (ofSh x))
theorem PdW_mk {s : Shp} (h : ShW s) : PdW (toSh s) := by unfold PdW; rw [ofSh_toSh]; exact ⟨h, SLe.refl _⟩
/-- what is small is short -/
theorem runN_all {α : Type} {g : Nat → α → Bool × α} {a : α} : ∀ {n : Nat}, (runN g a n).1 = true → ∀ k, k < n → ∃ b, runN g a k = (true, b) ∧ (g k b).1 = true
  | 0, _ => fun k hk => by omega
  | n + 1, h => fun k hk => by
    have hn : (runN g a n).1 = true := by
      cases hr : runN g a n with
      | mk q b => cases q with
        | true => rfl
        | false => rw [runN_stop hr (Nat.le_succ n)] at h; cases h
    rcases Nat.lt_or_eq_of_le (Nat.le_of_lt_succ hk) with hlt | rfl
    · exact runN_all hn k hlt
    · cases hr : runN g a k with
      | mk q b =>
        rw [hr] at hn
        simp only at hn; subst hn
        exact ⟨b, rfl, by rw [runN_go hr] at h; exact h⟩
theorem small_B : ∀ (s : Shp) (d : Int), smallF s d = true → ShB s := by
  intro s
  induction s with
  | nil => intro d h; cases h
  | mk k a b c r l n add sub ih =>
    intro d h
    unfold smallF at h
    by_cases h1 : ((n : Int) > 12)
    · rw [decide_eq_true h1] at h; cases h
    · by_cases h2 : ((l.n : Int) > 12)
      · rw [decide_eq_true h2, decide_eq_false h1] at h; cases h
      · by_cases h3 : (d > 12)
        · rw [decide_eq_true h3, decide_eq_false h1, decide_eq_false h2] at h; cases h
        · rw [decide_eq_false h1, decide_eq_false h2, decide_eq_false h3] at h
          simp only [cond_false] at h
          cases hl : (runN (smL l) () l.n).1 with
          | false => rw [hl] at h; cases h
          | true =>
            rw [hl] at h
            simp only [cond_true] at h
            refine ⟨⟨by omega, fun i hi => ?_⟩, by omega, fun i hi => ?_⟩
            · obtain ⟨_, _, hx⟩ := runN_all hl i hi
              unfold smL at hx
              simp only [Bool.not_eq_true', decide_eq_false_iff_not] at hx
              omega
            · obtain ⟨_, _, hx⟩ := runN_all h i hi
              exact ih i _ hx
end Go.Proofs.Ytfooaikpcbnchaa

/-! ## Wid -/
namespace Go.Proofs.Ytfooaikpcbnchaa
open Go Go.RowKit

theorem sh32_eq (x : Int) : sh32 x = x / 4294967296 := by
  unfold sh32
  have : (2 : Int) ^ min (Int.toNat 32) 64 = 4294967296 := by decide
  rw [this, Int.fdiv_eq_ediv_of_nonneg _ (by decide)]
theorem lo32_eq {x : Int} (h0 : 0 ≤ x) (h1 : x < 18446744073709551616) : lo32 x = x % 4294967296 := by
  have e : (BitVec.ofInt 64 x &&& BitVec.ofInt 64 4294967295).toNat = x.toNat % 4294967296 := by
    rw [BitVec.toNat_and]
    have a : (BitVec.ofInt 64 4294967295).toNat = 2 ^ 32 - 1 := by decide
    have b : (BitVec.ofInt 64 x).toNat = x.toNat := by
      rw [BitVec.toNat_ofInt]
      have : ((2 ^ 64 : Nat) : Int) = 18446744073709551616 := by decide
      rw [this, Int.emod_eq_of_lt h0 h1]
    rw [a, b, Nat.and_two_pow_sub_one_eq_mod]
  unfold lo32 u64
  rw [e, U_id (by omega) (by omega)]
  omega
theorem halves_mul (x y : Int) : x * y = (x / 4294967296 * (y / 4294967296)) * 18446744073709551616 + (x / 4294967296 * (y % 4294967296) + x % 4294967296 * (y / 4294967296)) * 4294967296 + x % 4294967296 * (y % 4294967296) := by
  have a := Int.emod_add_mul_ediv x 4294967296
  have b := Int.emod_add_mul_ediv y 4294967296
  generalize x / 4294967296 = p at *
  generalize y / 4294967296 = q at *
  generalize x % 4294967296 = s at *
  generalize y % 4294967296 = t at *
  subst a b
  grind
theorem half_bd {x y : Int} (h0 : 0 ≤ x) (h1 : x ≤ 4294967295) (h2 : 0 ≤ y) (h3 : y ≤ 4294967295) : 0 ≤ x * y ∧ x * y ≤ 18446744065119617025 := by
  have a := Int.mul_nonneg h0 h2
  have b := (mul_bd (A := 4294967295) (B := 4294967295) (x := x) (y := y) (by omega) h1 (by omega) h3).2
  have e : (4294967295 : Int) * 4294967295 = 18446744065119617025 := by decide
  omega
structure In64 (x : Int) : Prop where
  lo : 0 ≤ x
  hi : x < 18446744073709551616
theorem mulHi_eq {x y : Int} (hx : In64 x) (hy : In64 y) : mulHi x y = x * y / 18446744073709551616 := by
  obtain ⟨x0, x1⟩ := hx; obtain ⟨y0, y1⟩ := hy
  unfold mulHi
  rw [lo32_eq x0 x1, lo32_eq y0 y1, sh32_eq x, sh32_eq y]
  have e := halves_mul x y
  have a := half_bd (x := x % 4294967296) (y := y % 4294967296) (by omega) (by omega) (by omega) (by omega)
  have b := half_bd (x := x / 4294967296) (y := y % 4294967296) (by omega) (by omega) (by omega) (by omega)
  have c := half_bd (x := x % 4294967296) (y := y / 4294967296) (by omega) (by omega) (by omega) (by omega)
  have d := half_bd (x := x / 4294967296) (y := y / 4294967296) (by omega) (by omega) (by omega) (by omega)
  rw [e]
  generalize x % 4294967296 * (y % 4294967296) = A at *
  generalize x / 4294967296 * (y % 4294967296) = B at *
  generalize x % 4294967296 * (y / 4294967296) = C at *
  generalize x / 4294967296 * (y / 4294967296) = D at *
  dsimp only
  rw [U_id (x := A) (by omega) (by omega), U_id (x := B) (by omega) (by omega), U_id (x := C) (by omega) (by omega), U_id (x := D) (by omega) (by omega), sh32_eq A]
  rw [U_id (x := B + A / 4294967296) (by omega) (by omega)]
  rw [lo32_eq (x := B + A / 4294967296) (by omega) (by omega), sh32_eq (B + A / 4294967296)]
  rw [U_id (x := (B + A / 4294967296) % 4294967296 + C) (by omega) (by omega), sh32_eq ((B + A / 4294967296) % 4294967296 + C)]
  rw [U_id (x := D + (B + A / 4294967296) / 4294967296) (by omega) (by omega), U_id (by omega) (by omega)]
  omega
theorem wmul_eq {x y : Int} (hx : In64 x) (hy : In64 y) : wmul x y = ⟨x * y / 18446744073709551616, x * y % 18446744073709551616⟩ := by
  unfold wmul mulLo
  rw [mulHi_eq hx hy, U_eq]
theorem wabs_eq {v : Int} (h0 : -9223372036854775808 ≤ v) (h1 : v ≤ 9223372036854775807) : wabs v = (v.natAbs : Int) := by
  unfold wabs
  by_cases h : v < 0
  · rw [decide_eq_true h, bif_t, U_eq, U_eq]; omega
  · rw [decide_eq_false h, bif_f, U_eq]; omega
theorem ucmp_eq (x y : Int) : ucmp x y = if x < y then -1 else if x > y then 1 else 0 := by
  unfold ucmp
  simp only [bne_self_eq_false, bif_f]
  by_cases h : x < y
  · rw [decide_eq_true h, bif_t, if_pos h]
  · rw [decide_eq_false h, bif_f, if_neg h]
    by_cases h' : x > y
    · rw [decide_eq_true h', bif_t, if_pos h']
    · rw [decide_eq_false h', bif_f, if_neg h']
theorem wcmp_le (m n : Int) : wcmp ⟨m / 18446744073709551616, m % 18446744073709551616⟩ ⟨n / 18446744073709551616, n % 18446744073709551616⟩ ≤ 0 ↔ m ≤ n := by
  unfold wcmp
  dsimp only
  by_cases h : m / 18446744073709551616 = n / 18446744073709551616
  · have : (m / 18446744073709551616 != n / 18446744073709551616) = false := by simp [h]
    rw [this, bif_f, ucmp_eq]
    split
    · omega
    · split <;> omega
  · have : (m / 18446744073709551616 != n / 18446744073709551616) = true := by simp [h]
    rw [this, bif_t, ucmp_eq]
    split
    · omega
    · split <;> omega
theorem natAbs_sq (v : Int) : (v.natAbs : Int) * (v.natAbs : Int) = v * v := by
  rcases Int.natAbs_eq v with h | h <;> grind
theorem wle {k x y : Int} (h0 : -9223372036854775808 ≤ k) (h1 : k ≤ 9223372036854775807) (hx : In64 x) (hy : In64 y) : decide (wcmp (wsq k) (wmul x y) ≤ 0) = decide (k * k ≤ x * y) := by
  unfold wsq
  rw [wabs_eq h0 h1, wmul_eq ⟨by omega, by omega⟩ ⟨by omega, by omega⟩, wmul_eq hx hy, natAbs_sq]
  exact decide_eq_decide.2 (wcmp_le _ _)
/-! ### the planar products -/
theorem sum2s {x y z w : Int} (h1 : -2147483646 ≤ x) (h2 : x ≤ 2147483646) (h3 : -2147483646 ≤ y) (h4 : y ≤ 2147483646) (h5 : -2147483646 ≤ z) (h6 : z ≤ 2147483646) (h7 : -2147483646 ≤ w) (h8 : w ≤ 2147483646) :
    W (W (x * y) + W (z * w)) = x * y + z * w ∧ W (W (x * y) - W (z * w)) = x * y - z * w ∧ -9223372019674906632 ≤ x * y + z * w ∧ x * y + z * w ≤ 9223372019674906632 ∧ -9223372019674906632 ≤ x * y - z * w ∧ x * y - z * w ≤ 9223372019674906632 := by
  have a := mul_bd (A := 2147483646) (B := 2147483646) h1 h2 h3 h4
  have b := mul_bd (A := 2147483646) (B := 2147483646) h5 h6 h7 h8
  have e : (2147483646 : Int) * 2147483646 = 4611686009837453316 := by decide
  rw [e] at a b
  rw [W_id (x := x * y) (by omega) (by omega), W_id (x := z * w) (by omega) (by omega), W_id (x := x * y + z * w) (by omega) (by omega), W_id (x := x * y - z * w) (by omega) (by omega)]
  omega
theorem df {u v : Int} (h1 : In30 u) (h2 : In30 v) : W (u - v) = u - v ∧ -2147483646 ≤ u - v ∧ u - v ≤ 2147483646 := by
  obtain ⟨a, b⟩ := h1; obtain ⟨c, d⟩ := h2
  rw [W_id (by omega) (by omega)]; omega
theorem cross_eq {o a b : P2} (ho : PR o) (ha : PR a) (hb : PR b) : cross o a b = crossI o a b ∧ -9223372019674906632 ≤ crossI o a b ∧ crossI o a b ≤ 9223372019674906632 := by
  have p := df ha.x ho.x; have q := df hb.y ho.y; have s := df ha.y ho.y; have t := df hb.x ho.x
  unfold cross crossI
  rw [p.1, q.1, s.1, t.1]
  have e := sum2s p.2.1 p.2.2 q.2.1 q.2.2 s.2.1 s.2.2 t.2.1 t.2.2
  exact ⟨e.2.1, e.2.2.2.2⟩
theorem rDist_eq2 {p q : P2} (hp : PR p) (hq : PR q) : rDist p q = distI p q ∧ 0 ≤ distI p q ∧ distI p q ≤ 9223372019674906632 := by
  have a := df hp.x hq.x; have b := df hp.y hq.y
  unfold rDist distI
  rw [a.1, b.1]
  have e := sum2s a.2.1 a.2.2 a.2.1 a.2.2 b.2.1 b.2.2 b.2.1 b.2.2
  have h1 := sq_nn (p.x - q.x); have h2 := sq_nn (p.y - q.y)
  exact ⟨e.1, by omega, e.2.2.2.1⟩
theorem dist2_eq {a c : P2} (ha : PR a) (hc : PR c) : dist2 (W (c.x - a.x)) (W (c.y - a.y)) = distI a c := by
  have p := df hc.x ha.x; have q := df hc.y ha.y
  unfold dist2 distI
  rw [p.1, q.1, (sum2s p.2.1 p.2.2 p.2.1 p.2.2 q.2.1 q.2.2 q.2.1 q.2.2).1]
  grind
theorem along_eq {p a c : P2} (hp : PR p) (ha : PR a) (hc : PR c) : W (W (W (p.x - a.x) * W (c.x - a.x)) + W (W (p.y - a.y) * W (c.y - a.y))) = dotI a c p := by
  have s := df hc.x ha.x; have q := df hc.y ha.y; have u := df hp.x ha.x; have v := df hp.y ha.y
  rw [s.1, q.1, u.1, v.1, (sum2s u.2.1 u.2.2 s.2.1 s.2.2 v.2.1 v.2.2 q.2.1 q.2.2).1]
  unfold dotI; grind
theorem rsq {r : Int} (h1 : 0 ≤ r) (h2 : r ≤ 2147483648) : W (r * r) = r * r ∧ 0 ≤ r * r ∧ r * r ≤ 4611686018427387904 := by
  have a := sq_bd (A := 2147483648) (x := r) (by omega) h2
  have e : (2147483648 : Int) * 2147483648 = 4611686018427387904 := by decide
  rw [W_id (by omega) (by omega)]; omega
theorem U64 {x : Int} (h1 : 0 ≤ x) (h2 : x ≤ 9223372036854775807) : U x = x ∧ In64 (U x) := by
  have : U x = x := U_id h1 (by omega)
  rw [this]; exact ⟨rfl, by omega, by omega⟩
/-- the line through a and c passes within r of p -/
def clear (p a c : P2) (r : Int) : Bool := decide (crossI a c p * crossI a c p ≤ r * r * distI a c)
theorem clear_eq {p a c : P2} {r : Int} (hp : PR p) (ha : PR a) (hc : PR c) (h1 : 0 ≤ r) (h2 : r ≤ 2147483648) :
    decide (wcmp (wsq (cross a c p)) (wmul (U (square r)) (U (dist2 (W (c.x - a.x)) (W (c.y - a.y))))) ≤ 0) = clear p a c r := by
  have k := cross_eq ha hc hp
  have d := rDist_eq2 ha hc
  have s := rsq h1 h2
  rw [k.1, dist2_eq ha hc, square_eq h1 h2]
  rw [wle (by omega) (by omega) (U64 (x := r * r) (by omega) (by omega)).2 (U64 (x := distI a c) (by omega) (by omega)).2, (U64 (x := r * r) (by omega) (by omega)).1, (U64 (x := distI a c) (by omega) (by omega)).1]
  rfl
end Go.Proofs.Ytfooaikpcbnchaa

/-! ## Bar -/
namespace Go.Proofs.Ytfooaikpcbnchaa
open Go Go.RowKit
set_option maxRecDepth 100000

def all4 (f : P2 → Bool) (b : B4) : Bool := f ⟨b.x0, b.y0⟩ && f ⟨b.x1, b.y0⟩ && f ⟨b.x0, b.y1⟩ && f ⟨b.x1, b.y1⟩
theorem cnt4_sum (f : P2 → Bool) (b : B4) : cnt4 f b = (if f ⟨b.x0, b.y0⟩ then 1 else 0) + (if f ⟨b.x1, b.y0⟩ then 1 else 0) + (if f ⟨b.x0, b.y1⟩ then 1 else 0) + (if f ⟨b.x1, b.y1⟩ then 1 else 0) := by
  unfold cnt4
  cases f ⟨b.x0, b.y0⟩ <;> cases f ⟨b.x1, b.y0⟩ <;> cases f ⟨b.x0, b.y1⟩ <;> cases f ⟨b.x1, b.y1⟩ <;> decide
theorem cnt4_all (f : P2 → Bool) (b : B4) : (cnt4 f b == 4) = all4 f b := by
  rw [cnt4_sum]; unfold all4
  cases f ⟨b.x0, b.y0⟩ <;> cases f ⟨b.x1, b.y0⟩ <;> cases f ⟨b.x0, b.y1⟩ <;> cases f ⟨b.x1, b.y1⟩ <;> rfl
theorem bumps (i j k l : Int) (hi : i = -1 ∨ i = 0 ∨ i = 1) (hj : j = -1 ∨ j = 0 ∨ j = 1) (hk : k = -1 ∨ k = 0 ∨ k = 1) (hl : l = -1 ∨ l = 0 ∨ l = 1) :
    ((bump3 (W (l + 1)) (bump3 (W (k + 1)) (bump3 (W (j + 1)) (bump3 (W (i + 1)) ⟨0, 0, 0⟩)))).m == 4) = (i == -1 && j == -1 && k == -1 && l == -1)
    ∧ ((bump3 (W (l + 1)) (bump3 (W (k + 1)) (bump3 (W (j + 1)) (bump3 (W (i + 1)) ⟨0, 0, 0⟩)))).p == 4) = (i == 1 && j == 1 && k == 1 && l == 1) := by
  rcases hi with rfl | rfl | rfl <;> rcases hj with rfl | rfl | rfl <;> rcases hk with rfl | rfl | rfl <;> rcases hl with rfl | rfl | rfl <;> decide
theorem cnt3_all (f : P2 → Int) (b : B4) (h : ∀ q, f q = -1 ∨ f q = 0 ∨ f q = 1) : ((cnt3 f b).m == 4) = all4 (fun q => f q == -1) b ∧ ((cnt3 f b).p == 4) = all4 (fun q => f q == 1) b := by
  unfold cnt3 all4
  exact bumps _ _ _ _ (h _) (h _) (h _) (h _)
structure Cs (b : B4) (f g : P2 → Bool) : Prop where
  h : all4 f b = all4 g b
theorem all4_congr {f g : P2 → Bool} {b : B4} (hb : BR b) (h : ∀ q, PR q → f q = g q) : all4 f b = all4 g b := by
  unfold all4
  rw [h _ ⟨hb.x0, hb.y0⟩, h _ ⟨hb.x1, hb.y0⟩, h _ ⟨hb.x0, hb.y1⟩, h _ ⟨hb.x1, hb.y1⟩]
/-! ### bars -/
def same (a c : P2) : Prop := a.x = c.x ∧ a.y = c.y
instance (a c : P2) : Decidable (same a c) := inferInstanceAs (Decidable (_ ∧ _))
theorem ptEq_eq (a c : P2) : ptEq a c = decide (same a c) := by
  unfold ptEq same
  by_cases h : a.x = c.x
  · by_cases k : a.y = c.y
    · simp [h, k]
    · simp [h, k]
  · simp [h]
theorem dist_nn (a c : P2) : 0 ≤ distI a c := by
  unfold distI
  have h1 := sq_nn (a.x - c.x); have h2 := sq_nn (a.y - c.y); omega
theorem beside_eq {p a c : P2} {h : Int} (hp : PR p) (ha : PR a) (hc : PR c) (h1 : 0 ≤ h) (h2 : h ≤ 2147483648) :
    beside p a c h = if clear p a c h = true then 0 else if crossI a c p > 0 then 1 else -1 := by
  unfold beside
  dsimp only
  rw [clear_eq hp ha hc h1 h2, (cross_eq ha hc hp).1]
  cases clear p a c h
  · by_cases k : crossI a c p > 0
    · simp [k]
    · simp [k]
  · simp
theorem past_eq {p a c : P2} (hp : PR p) (ha : PR a) (hc : PR c) : past p a c = if dotI a c p < 0 then -1 else if dotI a c p > distI a c then 1 else 0 := by
  unfold past
  dsimp only
  rw [along_eq hp ha hc, dist2_eq ha hc]
  by_cases k : dotI a c p < 0
  · simp [k]
  · by_cases k' : dotI a c p > distI a c
    · simp [k, k']
    · simp [k, k']
def barI (p a c : P2) (h : Int) : Bool := !(decide (same a c)) && decide (1 ≤ h) && clear p a c h && decide (0 ≤ dotI a c p) && decide (dotI a c p ≤ distI a c)
theorem barHas_eq {p a c : P2} {h : Int} (hp : PR p) (ha : PR a) (hc : PR c) (h2 : h ≤ 2147483648) : barHas p a c h = barI p a c h := by
  unfold barHas barVoid barI
  rw [ptEq_eq]
  by_cases h1 : h < 1
  · have : ¬ 1 ≤ h := by omega
    simp [h1, this, orB_eq, andB_eq]
  · rw [beside_eq hp ha hc (by omega) h2, past_eq hp ha hc]
    have : 1 ≤ h := by omega
    simp only [h1, this, orB_eq, andB_eq, decide_true, decide_false, Bool.or_false, Bool.and_true]
    cases clear p a c h
    · by_cases k : crossI a c p > 0
      · simp [k]
      · simp [k]
    · by_cases k : dotI a c p < 0
      · have : ¬ 0 ≤ dotI a c p := by omega
        simp [k, this]
      · by_cases k' : dotI a c p > distI a c
        · have : ¬ dotI a c p ≤ distI a c := by omega
          simp [k, k', this]
        · have k1 : 0 ≤ dotI a c p := by omega
          have k2 : dotI a c p ≤ distI a c := by omega
          simp [k, k', k1, k2]
def leftI (a c : P2) (h : Int) (q : P2) : Bool := !(clear q a c h) && decide (crossI a c q > 0)
def rightI (a c : P2) (h : Int) (q : P2) : Bool := !(clear q a c h) && !(decide (crossI a c q > 0))
def barCl (b : B4) (a c : P2) (h : Int) : Int :=
  if h < 1 ∨ same a c then 0 else
  if all4 (fun q => barI q a c h) b then 2 else
  if all4 (rightI a c h) b || all4 (leftI a c h) b || all4 (fun q => decide (dotI a c q < 0)) b || all4 (fun q => decide (dotI a c q > distI a c)) b then 0 else 1
theorem barClass_eq {b : B4} {a c : P2} {h : Int} (hb : BR b) (ha : PR a) (hc : PR c) (hx : b.x0 ≤ b.x1) (hy : b.y0 ≤ b.y1) (h2 : h ≤ 2147483648) : barClass b a c h = barCl b a c h := by
  unfold barClass barCl
  have e0 : barVoid a c h = decide (h < 1 ∨ same a c) := by
    unfold barVoid; rw [ptEq_eq, orB_eq]
    by_cases k : h < 1 <;> by_cases k' : same a c <;> simp [k, k']
  rw [e0]
  by_cases k0 : h < 1 ∨ same a c
  · rw [decide_eq_true k0, bif_t, if_pos k0]
  · rw [decide_eq_false k0, bif_f, if_neg k0]
    have h1 : 1 ≤ h := by omega
    have hh : boxHas b ⟨b.x0, b.y0⟩ = true := (boxHas_eq _ _).2 ⟨by simp, hx, by simp, hy⟩
    rw [hh]
    have hv : barVoid a c h = false := by rw [e0, decide_eq_false k0]
    have e1 : (cnt4 (fun p => andB (beside p a c h == 0) (past p a c == 0)) b == 4) = all4 (fun q => barI q a c h) b := by
      rw [cnt4_all]
      refine all4_congr hb fun q hq => ?_
      rw [← barHas_eq hq ha hc h2]; unfold barHas; rw [hv]; rfl
    have s3 : ∀ q, beside q a c h = -1 ∨ beside q a c h = 0 ∨ beside q a c h = 1 := fun q => by have := beside_01 q a c h; omega
    have p3 : ∀ q, past q a c = -1 ∨ past q a c = 0 ∨ past q a c = 1 := fun q => by have := past_01 q a c; omega
    rw [e1, (cnt3_all _ b s3).1, (cnt3_all _ b s3).2, (cnt3_all _ b p3).1, (cnt3_all _ b p3).2]
    have e2 : all4 (fun q => beside q a c h == -1) b = all4 (rightI a c h) b := all4_congr hb fun q hq => by
      rw [beside_eq hq ha hc (by omega) h2]; unfold rightI
      cases clear q a c h
      · by_cases k : crossI a c q > 0 <;> simp [k]
      · simp
    have e3 : all4 (fun q => beside q a c h == 1) b = all4 (leftI a c h) b := all4_congr hb fun q hq => by
      rw [beside_eq hq ha hc (by omega) h2]; unfold leftI
      cases clear q a c h
      · by_cases k : crossI a c q > 0 <;> simp [k]
      · simp
    have e4 : all4 (fun q => past q a c == -1) b = all4 (fun q => decide (dotI a c q < 0)) b := all4_congr hb fun q hq => by
      rw [past_eq hq ha hc]
      by_cases k : dotI a c q < 0
      · simp [k]
      · by_cases k' : dotI a c q > distI a c <;> simp [k, k']
    have e5 : all4 (fun q => past q a c == 1) b = all4 (fun q => decide (dotI a c q > distI a c)) b := all4_congr hb fun q hq => by
      rw [past_eq hq ha hc]
      by_cases k : dotI a c q < 0
      · have : ¬ dotI a c q > distI a c := by have := dist_nn a c; omega
        simp [k, this]
      · by_cases k' : dotI a c q > distI a c <;> simp [k, k']
    rw [e2, e3, e4, e5]
    simp only [orB_eq, Bool.not_true, bif_f]
    cases all4 (fun q => barI q a c h) b <;> cases all4 (rightI a c h) b <;> cases all4 (leftI a c h) b <;> cases all4 (fun q => decide (dotI a c q < 0)) b <;> cases all4 (fun q => decide (dotI a c q > distI a c)) b <;> rfl
end Go.Proofs.Ytfooaikpcbnchaa

/-! ## Box -/
namespace Go.Proofs.Ytfooaikpcbnchaa
open Go Go.RowKit Sym
set_option maxRecDepth 100000

theorem cnt4_lt (f : P2 → Bool) (b : B4) : decide (cnt4 f b < 4) = !(all4 f b) := by
  rw [cnt4_sum]; unfold all4
  cases f ⟨b.x0, b.y0⟩ <;> cases f ⟨b.x1, b.y0⟩ <;> cases f ⟨b.x0, b.y1⟩ <;> cases f ⟨b.x1, b.y1⟩ <;> rfl
/-- the segment's own box has no point of b -/
def sepI (b : B4) (p q : P2) : Bool := decide (max p.x q.x < b.x0) || decide (min p.x q.x > b.x1) || decide (max p.y q.y < b.y0) || decide (min p.y q.y > b.y1)
def meetsI (b : B4) (p q : P2) : Bool := !(sepI b p q) && (!(all4 (fun c => decide (crossI p q c > 0)) b) && !(all4 (fun c => decide (crossI p q c < 0)) b))
theorem meets_eq {b : B4} {p q : P2} (hb : BR b) (hp : PR p) (hq : PR q) (hx : b.x0 ≤ b.x1) (hy : b.y0 ≤ b.y1) : meets b p q = meetsI b p q := by
  have e1 : all4 (fun c => decide (cross p q c > 0)) b = all4 (fun c => decide (crossI p q c > 0)) b := all4_congr hb fun c hc => by rw [(cross_eq hp hq hc).1]
  have e2 : all4 (fun c => decide (cross p q c < 0)) b = all4 (fun c => decide (crossI p q c < 0)) b := all4_congr hb fun c hc => by rw [(cross_eq hp hq hc).1]
  have e3 : emptyBx b = false := by
    unfold emptyBx; rw [orB_eq, decide_eq_false (show ¬ b.x0 > b.x1 by omega), decide_eq_false (show ¬ b.y0 > b.y1 by omega)]; rfl
  unfold meets meetsI sepI
  rw [cnt4_lt, cnt4_lt, e1, e2, e3]
  simp only [orB_eq, andB_eq, imax_eq, imin_eq, Bool.false_or]
  cases (decide (max p.x q.x < b.x0) || decide (min p.x q.x > b.x1) || decide (max p.y q.y < b.y0) || decide (min p.y q.y > b.y1)) <;> rfl
/-! ### quarters -/
def q0 (b : B4) : B4 := ⟨spl b 0 b.x0, spl b 0 b.y0, spl b 0 (midX b), spl b 0 (midY b)⟩
def q1 (b : B4) : B4 := ⟨spl b 0 (midX b), spl b 0 b.y0, spl b 0 b.x1, spl b 0 (midY b)⟩
def q2 (b : B4) : B4 := ⟨spl b 0 b.x0, spl b 0 (midY b), spl b 0 (midX b), spl b 0 b.y1⟩
def q3 (b : B4) : B4 := ⟨spl b 0 (midX b), spl b 0 (midY b), spl b 0 b.x1, spl b 0 b.y1⟩
structure Fits (b : B4) : Prop where
  x0 : -536870912 ≤ b.x0
  x : b.x0 ≤ b.x1
  x1 : b.x1 ≤ 536870912
  y0 : -536870912 ≤ b.y0
  y : b.y0 ≤ b.y1
  y1 : b.y1 ≤ 536870912
end Go.Proofs.Ytfooaikpcbnchaa

/-! ## Lin -/
namespace Go.Proofs.Ytfooaikpcbnchaa
open Go Go.RowKit Sym
set_option maxRecDepth 100000

/-- p is in the stroke -/
def lineI (p a c : P2) (r : Int) : Bool :=
  if dotI a c p ≤ 0 then decide (distI p a ≤ r * r) else if dotI a c p ≥ distI a c then decide (distI p c ≤ r * r) else clear p a c r
theorem lineHas_eq {p a c : P2} {r : Int} (hp : PR p) (ha : PR a) (hc : PR c) (h1 : 1 ≤ r) (h2 : r ≤ 2147483648) : lineHas p a c r = lineI p a c r := by
  unfold lineHas lineI
  rw [decide_eq_false (show ¬ r < 1 by omega), bif_f]
  dsimp only
  rw [along_eq hp ha hc, dist2_eq ha hc]
  have e := clear_eq hp ha hc (r := r) (by omega) h2
  rw [dist2_eq ha hc] at e
  rw [e, square_eq (by omega) h2]
  have n1 := near_eq (b := ⟨a.x, a.y, a.x, a.y⟩) ⟨ha.x, ha.y, ha.x, ha.y⟩ hp
  have n2 := near_eq (b := ⟨c.x, c.y, c.x, c.y⟩) ⟨hc.x, hc.y, hc.x, hc.y⟩ hp
  rw [n1.1, n2.1, dist_near, dist_near]
  by_cases k : dotI a c p ≤ 0
  · simp [k]
  · by_cases k' : dotI a c p ≥ distI a c
    · simp [k, k']
    · simp [k, k']
def any4 (f : P2 → Bool) (b : B4) : Bool := f ⟨b.x0, b.y0⟩ || f ⟨b.x1, b.y0⟩ || f ⟨b.x0, b.y1⟩ || f ⟨b.x1, b.y1⟩
theorem cnt4_any (f : P2 → Bool) (b : B4) : decide (cnt4 f b > 0) = any4 f b := by
  rw [cnt4_sum]; unfold any4
  cases f ⟨b.x0, b.y0⟩ <;> cases f ⟨b.x1, b.y0⟩ <;> cases f ⟨b.x0, b.y1⟩ <;> cases f ⟨b.x1, b.y1⟩ <;> rfl
theorem cnt4_none (f : P2 → Bool) (b : B4) : (cnt4 f b == 0) = !(any4 f b) := by
  rw [cnt4_sum]; unfold any4
  cases f ⟨b.x0, b.y0⟩ <;> cases f ⟨b.x1, b.y0⟩ <;> cases f ⟨b.x0, b.y1⟩ <;> cases f ⟨b.x1, b.y1⟩ <;> rfl
theorem any4_congr {f g : P2 → Bool} {b : B4} (hb : BR b) (h : ∀ q, PR q → f q = g q) : any4 f b = any4 g b := by
  unfold any4
  rw [h _ ⟨hb.x0, hb.y0⟩, h _ ⟨hb.x1, hb.y0⟩, h _ ⟨hb.x0, hb.y1⟩, h _ ⟨hb.x1, hb.y1⟩]
def lineCl (b : B4) (a c : P2) (r : Int) : Int :=
  if all4 (fun q => lineI q a c r) b then 2 else
  if any4 (fun q => lineI q a c r) b || decide (nearI b a ≤ r * r) || decide (nearI b c ≤ r * r) || meetsI b a c then 1 else 0
theorem lineClass_eq {b : B4} {a c : P2} {r : Int} (hb : BR b) (ha : PR a) (hc : PR c) (hx : b.x0 ≤ b.x1) (hy : b.y0 ≤ b.y1) (h1 : 1 ≤ r) (h2 : r ≤ 2147483648) : lineClass b a c r = lineCl b a c r := by
  unfold lineClass lineCl
  have hh : boxHas b ⟨b.x0, b.y0⟩ = true := (boxHas_eq _ _).2 ⟨by simp, hx, by simp, hy⟩
  rw [hh, decide_eq_false (show ¬ r < 1 by omega)]
  have e1 : all4 (fun p => lineHas p a c r) b = all4 (fun p => lineI p a c r) b := all4_congr hb fun q hq => lineHas_eq hq ha hc h1 h2
  have e2 : any4 (fun p => lineHas p a c r) b = any4 (fun p => lineI p a c r) b := any4_congr hb fun q hq => lineHas_eq hq ha hc h1 h2
  dsimp only
  rw [cnt4_all, cnt4_any, e1, e2, square_eq (by omega) h2, (near_eq hb ha).1, (near_eq hb hc).1, meets_eq hb ha hc hx hy]
  simp only [orB_eq, Bool.not_true, Bool.or_false, bif_f]
  cases all4 (fun p => lineI p a c r) b
  · cases (any4 (fun p => lineI p a c r) b || decide (nearI b a ≤ r * r) || decide (nearI b c ≤ r * r) || meetsI b a c) <;> rfl
  · rfl
/-! ### corners say all of what is linear -/
def isC (b : B4) (c : P2) : Prop := (c.x = b.x0 ∨ c.x = b.x1) ∧ (c.y = b.y0 ∨ c.y = b.y1)
theorem all4_iff {f : P2 → Bool} {b : B4} : all4 f b = true ↔ ∀ c, isC b c → f c = true := by
  unfold all4
  simp only [Bool.and_eq_true]
  constructor
  · rintro ⟨⟨⟨h1, h2⟩, h3⟩, h4⟩ ⟨x, y⟩ ⟨hx, hy⟩
    dsimp only at hx hy
    rcases hx with rfl | rfl <;> rcases hy with rfl | rfl <;> assumption
  · intro h
    exact ⟨⟨⟨h _ ⟨.inl rfl, .inl rfl⟩, h _ ⟨.inr rfl, .inl rfl⟩⟩, h _ ⟨.inl rfl, .inr rfl⟩⟩, h _ ⟨.inr rfl, .inr rfl⟩⟩
/-- some corner has at least so much of a linear form -/
theorem corner_ge {b : B4} {q : P2} (u v : Int) (h : hasI b q) : ∃ c, isC b c ∧ u * q.x + v * q.y ≤ u * c.x + v * c.y := by
  obtain ⟨h1, h2, h3, h4⟩ := h
  have one : ∀ u x lo hi : Int, lo ≤ x → x ≤ hi → u * x ≤ u * lo ∨ u * x ≤ u * hi := fun u x lo hi a c => by
    rcases Int.le_total 0 u with k | k
    · right; exact Int.mul_le_mul_of_nonneg_left c k
    · left
      have := Int.mul_nonneg (show 0 ≤ -u by omega) (show 0 ≤ x - lo by omega)
      have e : -u * (x - lo) = u * lo - u * x := by grind
      omega
  rcases one u q.x b.x0 b.x1 h1 h2 with k | k <;> rcases one v q.y b.y0 b.y1 h3 h4 with k' | k'
  · exact ⟨⟨b.x0, b.y0⟩, ⟨.inl rfl, .inl rfl⟩, by dsimp only; omega⟩
  · exact ⟨⟨b.x0, b.y1⟩, ⟨.inl rfl, .inr rfl⟩, by dsimp only; omega⟩
  · exact ⟨⟨b.x1, b.y0⟩, ⟨.inr rfl, .inl rfl⟩, by dsimp only; omega⟩
  · exact ⟨⟨b.x1, b.y1⟩, ⟨.inr rfl, .inr rfl⟩, by dsimp only; omega⟩
theorem cross_lin (a c p : P2) : crossI a c p = -(c.y - a.y) * p.x + (c.x - a.x) * p.y + ((c.y - a.y) * a.x - (c.x - a.x) * a.y) := by unfold crossI; grind
theorem cross_ge {b : B4} {q : P2} (a c : P2) (h : hasI b q) : ∃ k, isC b k ∧ crossI a c q ≤ crossI a c k := by
  obtain ⟨k, hk, hl⟩ := corner_ge (-(c.y - a.y)) (c.x - a.x) h
  exact ⟨k, hk, by rw [cross_lin, cross_lin]; omega⟩
theorem cross_le {b : B4} {q : P2} (a c : P2) (h : hasI b q) : ∃ k, isC b k ∧ crossI a c k ≤ crossI a c q := by
  obtain ⟨k, hk, hl⟩ := corner_ge (c.y - a.y) (-(c.x - a.x)) h
  refine ⟨k, hk, ?_⟩
  rw [cross_lin, cross_lin a c q]
  have e1 : -(c.y - a.y) * q.x = -((c.y - a.y) * q.x) := by grind
  have e2 : -(c.x - a.x) * q.y = -((c.x - a.x) * q.y) := by grind
  have e3 : -(c.y - a.y) * k.x = -((c.y - a.y) * k.x) := by grind
  have e4 : -(c.x - a.x) * k.y = -((c.x - a.x) * k.y) := by grind
  rw [e1, e3]; rw [e2, e4] at hl; omega
end Go.Proofs.Ytfooaikpcbnchaa

/-! ## Disc -/
namespace Go.Proofs.Ytfooaikpcbnchaa
open Go Go.RowKit Sym
set_option maxRecDepth 100000

theorem pt_BR {p : P2} (h : PR p) : BR ⟨p.x, p.y, p.x, p.y⟩ := ⟨h.x, h.y, h.x, h.y⟩
theorem discHas_eq {p c : P2} {r : Int} (hp : PR p) (hc : PR c) (h1 : 1 ≤ r) (h2 : r ≤ 2147483648) : discHas p c r = decide (distI p c ≤ r * r) := by
  unfold discHas
  rw [decide_eq_false (show ¬ r < 1 by omega), bif_f, (near_eq (pt_BR hc) hp).1, dist_near, square_eq (by omega) h2]
theorem discClass_eq {b : B4} {c : P2} {r : Int} (hb : BR b) (hc : PR c) (hx : b.x0 ≤ b.x1) (hy : b.y0 ≤ b.y1) (h1 : 1 ≤ r) (h2 : r ≤ 2147483648) :
    discClass b c r = if nearI b c > r * r then 0 else if mostI b c ≤ r * r then 2 else 1 := by
  unfold discClass
  have hh : boxHas b ⟨b.x0, b.y0⟩ = true := (boxHas_eq _ _).2 ⟨by simp, hx, by simp, hy⟩
  rw [decide_eq_false (show ¬ r < 1 by omega), hh, (near_eq hb hc).1, (most_eq hb hc).1, square_eq (by omega) h2]
  show (bif decide (nearI b c > r * r) then 0 else bif decide (mostI b c ≤ r * r) then 2 else 1) = _
  by_cases k : nearI b c > r * r
  · rw [decide_eq_true k, if_pos k]; rfl
  · rw [decide_eq_false k, if_neg k, bif_f]
    by_cases k' : mostI b c ≤ r * r
    · rw [decide_eq_true k', if_pos k']; rfl
    · rw [decide_eq_false k', if_neg k']; rfl

/-! ### the reference -/
/-! ### DiscFar -/
/-! ### DiscTells -/
end Go.Proofs.Ytfooaikpcbnchaa

/-! ## Bas -/
namespace Go.Proofs.Ytfooaikpcbnchaa
open Go Go.RowKit Sym
set_option maxRecDepth 100000

/-! ### BarParts -/
end Go.Proofs.Ytfooaikpcbnchaa

/-! ## Disd -/
namespace Go.Proofs.Ytfooaikpcbnchaa
open Go Go.RowKit Sym
set_option maxRecDepth 100000

/-! ### DiscSure -/
/-! ### DiscMoves -/
def mvP (p by_ : P2) : P2 := ⟨W (p.x + by_.x), W (p.y + by_.y)⟩
end Go.Proofs.Ytfooaikpcbnchaa

/-! ## Bat -/
namespace Go.Proofs.Ytfooaikpcbnchaa
open Go Go.RowKit Sym
set_option maxRecDepth 100000

/-! ### BarLine -/
end Go.Proofs.Ytfooaikpcbnchaa

/-! ## Lio -/
namespace Go.Proofs.Ytfooaikpcbnchaa
open Go Go.RowKit Sym
set_option maxRecDepth 100000

/-- the point at m / n of the segment is near p: the square of the distance is at most R -/
structure Seg (p a c : P2) (R m n : Int) : Prop where
  n0 : 0 < n
  m0 : 0 ≤ m
  mn : m ≤ n
  d : (n * (p.x - a.x) - m * (c.x - a.x)) * (n * (p.x - a.x) - m * (c.x - a.x)) + (n * (p.y - a.y) - m * (c.y - a.y)) * (n * (p.y - a.y) - m * (c.y - a.y)) ≤ n * n * R
/-! ### strokes are convex -/
/-! ### outside -/
end Go.Proofs.Ytfooaikpcbnchaa

/-! ## Bau -/
namespace Go.Proofs.Ytfooaikpcbnchaa
open Go Go.RowKit Sym
set_option maxRecDepth 100000

end Go.Proofs.Ytfooaikpcbnchaa

/-! ## Lis -/
namespace Go.Proofs.Ytfooaikpcbnchaa
open Go Go.RowKit Sym
set_option maxRecDepth 100000

/-! ### LineTells -/
/-! ### LineSure -/
/-! ### LineMeans -/
/-! ### LineThick -/
end Go.Proofs.Ytfooaikpcbnchaa

/-! ## Lit -/
namespace Go.Proofs.Ytfooaikpcbnchaa
open Go Go.RowKit Sym
set_option maxRecDepth 100000

end Go.Proofs.Ytfooaikpcbnchaa

/-! ## Rin -/
namespace Go.Proofs.Ytfooaikpcbnchaa
open Go Go.RowKit Sym
set_option maxRecDepth 100000

/-! ### arcs of the laws -/
def circX (i : Int) : Int :=
  bif decide (i = ((0 : Nat) : Int)) then 5 else bif decide (i = ((1 : Nat) : Int)) then 4 else bif decide (i = ((2 : Nat) : Int)) then 3 else bif decide (i = ((3 : Nat) : Int)) then 0 else bif decide (i = ((4 : Nat) : Int)) then -3 else bif decide (i = ((5 : Nat) : Int)) then -4 else
  bif decide (i = ((6 : Nat) : Int)) then -5 else bif decide (i = ((7 : Nat) : Int)) then -4 else bif decide (i = ((8 : Nat) : Int)) then -3 else bif decide (i = ((9 : Nat) : Int)) then 0 else bif decide (i = ((10 : Nat) : Int)) then 3 else 4
def circY (i : Int) : Int :=
  bif decide (i = ((0 : Nat) : Int)) then 0 else bif decide (i = ((1 : Nat) : Int)) then 3 else bif decide (i = ((2 : Nat) : Int)) then 4 else bif decide (i = ((3 : Nat) : Int)) then 5 else bif decide (i = ((4 : Nat) : Int)) then 4 else bif decide (i = ((5 : Nat) : Int)) then 3 else
  bif decide (i = ((6 : Nat) : Int)) then 0 else bif decide (i = ((7 : Nat) : Int)) then -3 else bif decide (i = ((8 : Nat) : Int)) then -4 else bif decide (i = ((9 : Nat) : Int)) then -5 else bif decide (i = ((10 : Nat) : Int)) then -4 else -3
def arcI (f : Int) : Int := (band f 255).tmod 12
def arcK0 (s : Int) : Int := W (W ((U s).tmod 20000000) + 1)
def arcK1 (s : Int) : Int := W (band (arcK0 s) 3 + 1)
def arcC0 (c : P2) : P2 := lClose c 400000000
def arcC1 (c : P2) : P2 := lClose (arcC0 c) 15
def arcC (c : P2) (sm : Bool) : P2 := ⟨bif sm then (arcC1 c).x else (arcC0 c).x, bif sm then (arcC1 c).y else (arcC0 c).y⟩
def arcAt (c : P2) (f s : Int) (sm : Bool) : P2 :=
  ⟨bif sm then W ((arcC1 c).x + W (arcK1 s * circX (arcI f))) else W ((arcC0 c).x + W (arcK0 s * circX (arcI f))), bif sm then W ((arcC1 c).y + W (arcK1 s * circY (arcI f))) else W ((arcC0 c).y + W (arcK0 s * circY (arcI f)))⟩
theorem band255 (x : Int) : 0 ≤ band x 255 ∧ band x 255 ≤ 255 := by
  have h : (BitVec.ofInt 64 x &&& BitVec.ofInt 64 255).toNat ≤ 255 := by
    rw [BitVec.toNat_and]
    exact Nat.le_trans Nat.and_le_right (by decide)
  unfold band
  rw [W_id (by omega) (by omega)]
  omega
theorem arcI_bd (f : Int) : 0 ≤ arcI f ∧ arcI f < 12 := by
  have a := band255 f
  have b := Int.tmod_nonneg (a := band f 255) 12 a.1
  have c := (tmod_bd (band f 255) (n := 12) (by decide)).2
  unfold arcI; omega
def arcIx (f : Int) : Prop := 0 ≤ arcI f ∧ arcI f < ((12 : Nat) : Int)
theorem n16 : W (15 + 1) ≠ 0 := by decide
theorem n4e8 : W (400000000 + 1) ≠ 0 := by decide
theorem arc_ok (c : P2) (f t s : Int) (sm : Bool) : CallOk Try.prog 44 [pt c, vi f, vi t, vi s, vb sm] (.tuple ⟨[pt (arcC c sm), pt (arcAt c f s sm), pt (arcAt c t s sm)]⟩) :=
  fnOkS (fuel := 16) (tbOf_ok tbA_ok) mo Try.func44 (by kernel_rfl) (by kernel_rfl) (by kernel_rfl)
    (show _ = [arcIx f, arcIx t, W (400000000 + 1) ≠ 0, sm = true → W (15 + 1) ≠ 0] by kernel_rfl) ⟨arcI_bd f, arcI_bd t, n4e8, fun _ => n16, trivial⟩
/-- what an arc is: a centre, k times two of the points of the circle of 5 -/
structure Circ (u : P2) : Prop where
  x : -5 ≤ u.x ∧ u.x ≤ 5
  y : -5 ≤ u.y ∧ u.y ≤ 5
  n : u.x * u.x + u.y * u.y = 25
def circ (f : Int) : P2 := ⟨circX (arcI f), circY (arcI f)⟩
theorem circ_ok (f : Int) : Circ (circ f) := by
  have h := arcI_bd f
  have : arcI f = 0 ∨ arcI f = 1 ∨ arcI f = 2 ∨ arcI f = 3 ∨ arcI f = 4 ∨ arcI f = 5 ∨ arcI f = 6 ∨ arcI f = 7 ∨ arcI f = 8 ∨ arcI f = 9 ∨ arcI f = 10 ∨ arcI f = 11 := by omega
  unfold circ
  rcases this with h | h | h | h | h | h | h | h | h | h | h | h <;> rw [h] <;> exact ⟨by decide, by decide, by decide⟩
theorem arcK0_bd (s : Int) : 1 ≤ arcK0 s ∧ arcK0 s ≤ 20000000 := by
  have h0 : 0 ≤ U s := by rw [U_eq]; omega
  have a := Int.tmod_nonneg (a := U s) 20000000 h0
  have b := (tmod_bd (U s) (n := 20000000) (by decide)).2
  unfold arcK0
  rw [W_id (x := (U s).tmod 20000000) (by omega) (by omega), W_id (by omega) (by omega)]; omega
theorem arcK1_bd (s : Int) : 1 ≤ arcK1 s ∧ arcK1 s ≤ 4 := by
  have a := band3 (arcK0 s)
  unfold arcK1; rw [W_id (by omega) (by omega)]; omega
def arcK (s : Int) (sm : Bool) : Int := bif sm then arcK1 s else arcK0 s
theorem arcK_bd (s : Int) (sm : Bool) : 1 ≤ arcK s sm ∧ arcK s sm ≤ 20000000 := by
  have a := arcK0_bd s; have b := arcK1_bd s
  cases sm
  · exact a
  · exact ⟨b.1, by show arcK1 s ≤ _; omega⟩
theorem arcC_r (c : P2) (sm : Bool) : (-400000000 ≤ (arcC c sm).x ∧ (arcC c sm).x ≤ 400000000) ∧ (-400000000 ≤ (arcC c sm).y ∧ (arcC c sm).y ≤ 400000000) := by
  have a := lClose_r c (n := 400000000) (by decide) (by decide)
  have b := lClose_r (arcC0 c) (n := 15) (by decide) (by decide)
  cases sm
  · exact a
  · show (_ ≤ (arcC1 c).x ∧ (arcC1 c).x ≤ _) ∧ (_ ≤ (arcC1 c).y ∧ (arcC1 c).y ≤ _)
    unfold arcC1; omega
theorem arcC_s (c : P2) : (-15 ≤ (arcC c true).x ∧ (arcC c true).x ≤ 15) ∧ (-15 ≤ (arcC c true).y ∧ (arcC c true).y ≤ 15) := lClose_r (arcC0 c) (n := 15) (by decide) (by decide)
/-- the point of the arc, without wraps -/
def onC (c : P2) (k : Int) (u : P2) : P2 := ⟨c.x + k * u.x, c.y + k * u.y⟩
theorem arcAt_eq (c : P2) (f s : Int) (sm : Bool) : arcAt c f s sm = onC (arcC c sm) (arcK s sm) (circ f) := by
  have h := circ_ok f
  have kk := arcK_bd s sm
  have cc := arcC_r c sm
  have x := mul_bd (A := 20000000) (B := 5) (x := arcK s sm) (y := (circ f).x) (by omega) (by omega) h.x.1 h.x.2
  have y := mul_bd (A := 20000000) (B := 5) (x := arcK s sm) (y := (circ f).y) (by omega) (by omega) h.y.1 h.y.2
  have e : arcAt c f s sm = ⟨W ((arcC c sm).x + W (arcK s sm * (circ f).x)), W ((arcC c sm).y + W (arcK s sm * (circ f).y))⟩ := by cases sm <;> rfl
  rw [e, W_id (x := arcK s sm * (circ f).x) (by omega) (by omega), W_id (x := arcK s sm * (circ f).y) (by omega) (by omega), W_id (by omega) (by omega), W_id (by omega) (by omega)]
  rfl
theorem onC_r {c : P2} {k : Int} {u : P2} (hc : (-400000000 ≤ c.x ∧ c.x ≤ 400000000) ∧ (-400000000 ≤ c.y ∧ c.y ≤ 400000000)) (hk : 1 ≤ k ∧ k ≤ 20000000) (hu : Circ u) : PR (onC c k u) ∧ distI (onC c k u) c = 25 * (k * k) := by
  have x := mul_bd (A := 20000000) (B := 5) (x := k) (y := u.x) (by omega) (by omega) hu.x.1 hu.x.2
  have y := mul_bd (A := 20000000) (B := 5) (x := k) (y := u.y) (by omega) (by omega) hu.y.1 hu.y.2
  refine ⟨⟨⟨by unfold onC; dsimp only; omega, by unfold onC; dsimp only; omega⟩, ⟨by unfold onC; dsimp only; omega, by unfold onC; dsimp only; omega⟩⟩, ?_⟩
  have e : distI (onC c k u) c = k * k * (u.x * u.x + u.y * u.y) := by unfold distI onC; dsimp only; grind
  rw [e, hu.n]; omega

/-! ### rings -/
def outI (d rr r : Int) : Bool := decide (rr - r * r - d ≤ 0 ∨ (rr - r * r - d) * (rr - r * r - d) ≤ 4 * d * (r * r))
def insI (d rr r : Int) : Bool := decide (d - rr - r * r ≤ 0 ∨ (d - rr - r * r) * (d - rr - r * r) ≤ 4 * rr * (r * r))
theorem outside_eq {d rr r : Int} (h0 : 0 ≤ d) (h1 : d ≤ 4000000000000000000) (h2 : 0 ≤ rr) (h3 : rr ≤ 4000000000000000000) (h4 : 1 ≤ r) (h5 : r ≤ 1073741824) : outside d rr r = outI d rr r := by
  have s := sq_bd (A := 1073741824) (x := r) (by omega) h5
  unfold outside outI
  rw [square_eq (by omega) (by omega), W_id (x := rr - r * r) (by omega) (by omega), W_id (x := rr - r * r - d) (by omega) (by omega), U_id (x := d) (by omega) (by omega), U_id (x := 4 * d) (by omega) (by omega), U_id (x := r * r) (by omega) (by omega)]
  dsimp only
  rw [wle (by omega) (by omega) ⟨by omega, by omega⟩ ⟨by omega, by omega⟩, orB_eq, ← Bool.decide_or]
theorem inside_eq {d rr r : Int} (h0 : 0 ≤ d) (h1 : d ≤ 4000000000000000000) (h2 : 0 ≤ rr) (h3 : rr ≤ 4000000000000000000) (h4 : 1 ≤ r) (h5 : r ≤ 1073741824) : inside d rr r = insI d rr r := by
  have s := sq_bd (A := 1073741824) (x := r) (by omega) h5
  unfold inside insI
  rw [square_eq (by omega) (by omega), W_id (x := d - rr) (by omega) (by omega), W_id (x := d - rr - r * r) (by omega) (by omega), U_id (x := rr) (by omega) (by omega), U_id (x := 4 * rr) (by omega) (by omega), U_id (x := r * r) (by omega) (by omega)]
  dsimp only
  rw [wle (by omega) (by omega) ⟨by omega, by omega⟩ ⟨by omega, by omega⟩, orB_eq, ← Bool.decide_or]
def sectI (p c a e : P2) : Bool :=
  decide (same a e) || (if crossI c a e < 0 then decide (crossI c a p ≥ 0) || decide (crossI c p e ≥ 0) else decide (crossI c a p ≥ 0) && decide (crossI c p e ≥ 0))
theorem sector_eq {p c a e : P2} (hp : PR p) (hc : PR c) (ha : PR a) (he : PR e) : sector p c a e = sectI p c a e := by
  unfold sector sectI ringGreat
  rw [ptEq_eq, (cross_eq hc ha he).1, (cross_eq hc ha hp).1, (cross_eq hc hp he).1, orB_eq, andB_eq]
  by_cases s : same a e
  · simp [s]
  · by_cases k : crossI c a e < 0 <;> simp [s, k]
def okI (c a e : P2) : Prop := distI a c ≠ 0 ∧ distI a c = distI e c
theorem ringOk_eq {c a e : P2} (hc : PR c) (ha : PR a) (he : PR e) : ringOk c a e = true ↔ okI c a e := by
  have e1 := near_eq (b := ⟨c.x, c.y, c.x, c.y⟩) ⟨hc.x, hc.y, hc.x, hc.y⟩ ha
  have e2 := near_eq (b := ⟨c.x, c.y, c.x, c.y⟩) ⟨hc.x, hc.y, hc.x, hc.y⟩ he
  unfold ringOk ringApart okI
  rw [e1.1, e2.1, dist_near, dist_near, andB_eq]
  simp
def ringI (p c a e : P2) (r : Int) : Bool := decide (distI p a ≤ r * r) || decide (distI p e ≤ r * r) || (sectI p c a e && outI (distI p c) (distI a c) r && insI (distI p c) (distI a c) r)
theorem ringHas_eq {p c a e : P2} {r : Int} (hp : PR p) (hc : PR c) (ha : PR a) (he : PR e) (ok : okI c a e) (h4 : 1 ≤ r) (h5 : r ≤ 1073741824) (hd : distI p c ≤ 4000000000000000000) (hr : distI a c ≤ 4000000000000000000) : ringHas p c a e r = ringI p c a e r := by
  have e1 := near_eq (b := ⟨c.x, c.y, c.x, c.y⟩) ⟨hc.x, hc.y, hc.x, hc.y⟩ hp
  have e2 := near_eq (b := ⟨c.x, c.y, c.x, c.y⟩) ⟨hc.x, hc.y, hc.x, hc.y⟩ ha
  unfold ringHas ringI
  rw [(ringOk_eq hc ha he).2 ok, decide_eq_false (show ¬ r < 1 by omega)]
  unfold ringApart
  rw [e1.1, e2.1, dist_near, dist_near, discHas_eq hp ha h4 (by omega), discHas_eq hp he h4 (by omega), sector_eq hp hc ha he, outside_eq (dist_nn _ _) hd (dist_nn _ _) hr h4 h5, inside_eq (dist_nn _ _) hd (dist_nn _ _) hr h4 h5]
  simp only [orB_eq, andB_eq, Bool.not_true, Bool.or_false, bif_f]
  cases (decide (distI p a ≤ r * r) || decide (distI p e ≤ r * r)) <;> rfl
/-- within the sector, off it -/
def liIn (b : B4) (c a e : P2) : Bool := decide (same a e) || (if crossI c a e < 0 then all4 (fun q => decide (crossI c a q ≥ 0)) b || all4 (fun q => decide (crossI c q e ≥ 0)) b else all4 (fun q => decide (crossI c a q ≥ 0)) b && all4 (fun q => decide (crossI c q e ≥ 0)) b)
def liOff (b : B4) (c a e : P2) : Bool := !(decide (same a e)) && (if crossI c a e < 0 then all4 (fun q => decide (crossI c a q < 0)) b && all4 (fun q => decide (crossI c q e < 0)) b else all4 (fun q => decide (crossI c a q < 0)) b || all4 (fun q => decide (crossI c q e < 0)) b)
theorem not_any (f : P2 → Bool) (b : B4) : (!(any4 f b)) = all4 (fun q => !(f q)) b := by
  unfold any4 all4
  dsimp only
  cases f ⟨b.x0, b.y0⟩ <;> cases f ⟨b.x1, b.y0⟩ <;> cases f ⟨b.x0, b.y1⟩ <;> cases f ⟨b.x1, b.y1⟩ <;> rfl
theorem lies_eq {b : B4} {c a e : P2} (hb : BR b) (hc : PR c) (ha : PR a) (he : PR e) : liesIn b c a e = liIn b c a e ∧ liesOff b c a e = liOff b c a e := by
  have u0 : all4 (fun q => !(decide (cross c a q < 0))) b = all4 (fun q => decide (crossI c a q ≥ 0)) b := all4_congr hb fun q hq => by rw [(cross_eq hc ha hq).1, ← decide_not]; exact decide_eq_decide.2 (by omega)
  have v0 : all4 (fun q => !(decide (cross c q e < 0))) b = all4 (fun q => decide (crossI c q e ≥ 0)) b := all4_congr hb fun q hq => by rw [(cross_eq hc hq he).1, ← decide_not]; exact decide_eq_decide.2 (by omega)
  have u4 : all4 (fun q => decide (cross c a q < 0)) b = all4 (fun q => decide (crossI c a q < 0)) b := all4_congr hb fun q hq => by rw [(cross_eq hc ha hq).1]
  have v4 : all4 (fun q => decide (cross c q e < 0)) b = all4 (fun q => decide (crossI c q e < 0)) b := all4_congr hb fun q hq => by rw [(cross_eq hc hq he).1]
  unfold liesIn liesOff liIn liOff ringGreat
  dsimp only
  rw [cnt4_none, cnt4_none, cnt4_all, cnt4_all, not_any, not_any, u0, v0, u4, v4, ptEq_eq, (cross_eq hc ha he).1]
  simp only [orB_eq, andB_eq]
  by_cases s : same a e
  · simp [s]
  · by_cases k : crossI c a e < 0 <;> simp [s, k]
def ringCl (b : B4) (c a e : P2) (r : Int) : Int :=
  if mostI b a ≤ r * r ∨ mostI b e ≤ r * r then 2 else
  if liIn b c a e && outI (nearI b c) (distI a c) r && insI (mostI b c) (distI a c) r then 2 else
  if nearI b a ≤ r * r ∨ nearI b e ≤ r * r then 1 else
  if liOff b c a e || !(insI (nearI b c) (distI a c) r) || !(outI (mostI b c) (distI a c) r) then 0 else 1
theorem near_most {b : B4} {p : P2} (hx : b.x0 ≤ b.x1) (hy : b.y0 ≤ b.y1) : nearI b p ≤ mostI b p := by
  have q1 : hasI b ⟨b.x0, b.y0⟩ := ⟨by simp, hx, by simp, hy⟩
  have := near_le (p := p) q1; have := most_ge (p := p) q1; omega
theorem ringClass_eq {b : B4} {c a e : P2} {r : Int} (hb : BR b) (hc : PR c) (ha : PR a) (he : PR e) (ok : okI c a e) (hx : b.x0 ≤ b.x1) (hy : b.y0 ≤ b.y1) (h4 : 1 ≤ r) (h5 : r ≤ 1073741824) (hd : mostI b c ≤ 4000000000000000000) (hr : distI a c ≤ 4000000000000000000) : ringClass b c a e r = ringCl b c a e r := by
  have e2 := near_eq (b := ⟨c.x, c.y, c.x, c.y⟩) ⟨hc.x, hc.y, hc.x, hc.y⟩ ha
  have hn := near_eq hb hc
  have hm := most_eq hb hc
  have nm := near_most (p := c) hx hy
  have na := near_most (p := a) hx hy
  have ne_ := near_most (p := e) hx hy
  have hh : boxHas b ⟨b.x0, b.y0⟩ = true := (boxHas_eq _ _).2 ⟨by simp, hx, by simp, hy⟩
  unfold ringClass ringCl
  rw [(ringOk_eq hc ha he).2 ok, decide_eq_false (show ¬ r < 1 by omega), hh]
  unfold ringApart
  rw [e2.1, dist_near, hn.1, hm.1, discClass_eq hb ha hx hy h4 (by omega), discClass_eq hb he hx hy h4 (by omega), (lies_eq hb hc ha he).1, (lies_eq hb hc ha he).2,
    outside_eq hn.2.1 (by omega) (dist_nn _ _) hr h4 h5, outside_eq hm.2.1 hd (dist_nn _ _) hr h4 h5, inside_eq hn.2.1 (by omega) (dist_nn _ _) hr h4 h5, inside_eq hm.2.1 hd (dist_nn _ _) hr h4 h5]
  simp only [orB_eq, andB_eq, Bool.not_true, Bool.or_false, bif_f]
  generalize nearI b a = NA at *
  generalize nearI b e = NE at *
  generalize mostI b a = MA at *
  generalize mostI b e = ME at *
  generalize r * r = R at *
  have f1 : ((if NA > R then 0 else if MA ≤ R then 2 else 1 : Int) == 2 || (if NE > R then 0 else if ME ≤ R then 2 else 1 : Int) == 2) = decide (MA ≤ R ∨ ME ≤ R) := by
    rw [Bool.eq_iff_iff]
    simp only [Bool.or_eq_true, beq_iff_eq, decide_eq_true_eq]
    constructor
    · rintro (k | k)
      · split at k
        · cases k
        · split at k
          · left; assumption
          · cases k
      · split at k
        · cases k
        · split at k
          · right; assumption
          · cases k
    · rintro (k | k)
      · left; rw [if_neg (by omega), if_pos k]
      · right; rw [if_neg (by omega), if_pos k]
  have f2 : ((if NA > R then 0 else if MA ≤ R then 2 else 1 : Int) != 0 || (if NE > R then 0 else if ME ≤ R then 2 else 1 : Int) != 0) = decide (NA ≤ R ∨ NE ≤ R) := by
    rw [Bool.eq_iff_iff]
    simp only [Bool.or_eq_true, bne_iff_ne, decide_eq_true_eq]
    constructor
    · rintro (k | k)
      · left; split at k
        · exact absurd rfl k
        · omega
      · right; split at k
        · exact absurd rfl k
        · omega
    · rintro (k | k)
      · left; rw [if_neg (by omega)]; split <;> decide
      · right; rw [if_neg (by omega)]; split <;> decide
  rw [f1, f2]
  by_cases k1 : MA ≤ R ∨ ME ≤ R
  · rw [decide_eq_true k1, if_pos k1]; rfl
  · rw [decide_eq_false k1, if_neg k1, bif_f]
    cases k2 : (liIn b c a e && outI (nearI b c) (distI a c) r && insI (mostI b c) (distI a c) r)
    · simp only [bif_f, Bool.false_eq_true, if_false]
      by_cases k3 : NA ≤ R ∨ NE ≤ R
      · rw [decide_eq_true k3, if_pos k3]; rfl
      · rw [decide_eq_false k3, if_neg k3, bif_f]
        cases (liOff b c a e || !insI (nearI b c) (distI a c) r || !outI (mostI b c) (distI a c) r) <;> rfl
    · rfl
theorem most_far {b : B4} {c : P2} (hx0 : -536870912 ≤ b.x0) (hx : b.x0 ≤ b.x1) (hx1 : b.x1 ≤ 536870912) (hy0 : -536870912 ≤ b.y0) (hy : b.y0 ≤ b.y1) (hy1 : b.y1 ≤ 536870912) (hc : (-400000000 ≤ c.x ∧ c.x ≤ 400000000) ∧ (-400000000 ≤ c.y ∧ c.y ≤ 400000000)) : mostI b c ≤ 4000000000000000000 := by
  have e : ∀ v lo hi : Int, -400000000 ≤ v → v ≤ 400000000 → -536870912 ≤ lo → lo ≤ hi → hi ≤ 536870912 → reachI v lo hi * reachI v lo hi ≤ 1000000000 * 1000000000 := fun v lo hi a b c d f =>
    (sq_bd (A := 1000000000) (by unfold reachI; omega) (by unfold reachI; omega)).2
  have a1 := e c.x b.x0 b.x1 hc.1.1 hc.1.2 hx0 hx hx1
  have a2 := e c.y b.y0 b.y1 hc.2.1 hc.2.2 hy0 hy hy1
  unfold mostI; omega
end Go.Proofs.Ytfooaikpcbnchaa

/-! ## Tam -/
namespace Go.Proofs.Ytfooaikpcbnchaa
open Go Go.RowKit Sym
set_option maxRecDepth 100000

def tbT : List Entry := (44, en5 dP dI dI dI dB (fun c f t s sm => .tuple ⟨[pt (arcC c sm), pt (arcAt c f s sm), pt (arcAt c t s sm)]⟩)) :: tbF
theorem tbT_ok : ∀ e ∈ tbT, EntryOk Try.prog e := List.forall_mem_cons.2 ⟨en5_ok dP_eq dI_eq dI_eq dI_eq dB_eq arc_ok, tbF_ok⟩
def atP (p : P2) (sm : Bool) : P2 := ⟨bif sm then (lClose p 20).x else (lPt p).x, bif sm then (lClose p 20).y else (lPt p).y⟩
def dptB (q : Bool) : Dyn.DV := .one (.ptr [.p (vb q)])
def enPb (F : P2 → Bool → Dyn.RV) : List Dyn.DV → Option (Dyn.RV × List Prop)
  | [.agg [.p (.int .i64 x), .p (.int .i64 y)], .one (.ptr [.p (.bool q)])] => some (F ⟨x, y⟩ q, [])
  | _ => none
theorem enPb_ok {P : Program} {K : Nat} {F : P2 → Bool → Dyn.RV} (h : ∀ x u, Dyn.CallD P K [dvP x, dptB u] (F x u)) : Dyn.EntryDOk P (K, enPb F) := fun args r ps hr hp => by
  dsimp only at hr
  unfold enPb at hr
  split at hr
  · simp only [Option.some.injEq, Prod.mk.injEq] at hr
    obtain ⟨rfl, rfl⟩ := hr
    rename_i x y u
    exact h ⟨x, y⟩ u
  · cases hr
def RV.pt (p : P2) : Dyn.RV := .val (dvP p)
def tabA1 : Dyn.Tabs := Dyn.tabs tbT [] noD noD
theorem tabA1_ok : Dyn.TabsOk Try.prog tabA1 := Dyn.tabs_ok tbT_ok (fun _ h => by cases h)
theorem at_O (p : P2) (sm : Bool) : (Dyn.dfun Try.prog tabA1 Dyn.noLp 3 Try.f43 [dvP p, dptB sm]).ro Try.prog Try.f43.results = .ite sm (.side [W (20 + 1) ≠ 0] (.leaf (RV.pt (lClose p 20)))) (.leaf (RV.pt (lPt p))) := by kernel_rfl
theorem at_ok (p : P2) (sm : Bool) : Dyn.CallD Try.prog 43 [dvP p, dptB sm] (RV.pt (atP p sm)) :=
  Dyn.dcontract (lp := Dyn.noLp) (fuel := 3) (X := tabA1) tabA1_ok mo Try.func43 (by kernel_rfl) (c := bodyD Try.f43.body) (by kernel_rfl) (fun w0 => Dyn.noLp_ok _ w0)
    (by kernel_rfl) (at_O p sm) ⟨fun h => by subst h; exact ⟨⟨by decide, trivial⟩, ro_leaf rfl⟩, fun h => by subst h; exact ro_leaf rfl⟩
def drTm (K : Nat) : Bool := Nat.beq K 18 || Nat.beq K 45
/-! ### what it makes -/
def tmK0 (s : Sh) : Int := W ((W (s.k.tmod 6 + 6)).tmod 6 + 1)
def tmKk (s : Sh) (d : Int) : Int := bif bif decide (d > 5) then tmK0 s == 6 else false then 1 else tmK0 s
def tmR (s : Sh) (sm : Bool) : Int := bif sm then W ((lR s.r).tmod 15 + 1) else lR s.r
def eqP (a b : P2) : Bool := bif a.x == b.x then bif a.y == b.y then true else false else false
def tmB (s : Sh) (sm : Bool) : P2 :=
  bif bif eqP (atP s.a sm) (atP s.b sm) then decide ((atP s.b sm).x > 0) else false then ⟨W ((atP s.b sm).x - 1), (atP s.b sm).y⟩ else bif eqP (atP s.a sm) (atP s.b sm) then ⟨W ((atP s.b sm).x + 1), (atP s.b sm).y⟩ else atP s.b sm
def ze : P2 := ⟨0, 0⟩
def zeC : Ctr := ⟨0, fun _ => 0, fun _ _ => ⟨0, 0⟩⟩
def noF (_ : Nat) : List Dyn.DC := []
def tmN (s : Sh) (d : Int) : Nat := min s.n (imax (W (4 - d)) 1).toNat
def tmF (g : Sh → Bool → Int → Sh) (sh : Nat → Sh) (add : Nat → Bool) (sm : Bool) (d : Int) (i : Nat) : List Dyn.DC := partC (add i) (g (sh i) sm (W (d + 1)))
/-- Tame, by what it makes of parts -/
def tameG (g : Sh → Bool → Int → Sh) (sh : Nat → Sh) (add : Nat → Bool) (s : Sh) (sm : Bool) (d : Int) : Sh :=
  bif tmKk s d == 1 then ⟨tmKk s d, atP s.a sm, ze, ze, tmR s sm, zeC, 0, noF⟩
  else bif bif tmKk s d == 3 then tmKk s d == 3 else tmKk s d == 4 then ⟨tmKk s d, atP s.a sm, tmB s sm, ze, tmR s sm, zeC, 0, noF⟩
  else bif tmKk s d == 5 then ⟨tmKk s d, arcAt s.c (band s.a.x 65535) s.b.x sm, arcAt s.c (band s.a.y 65535) s.b.x sm, arcC s.c sm, tmR s sm, zeC, 0, noF⟩
  else bif tmKk s d == 2 then ⟨tmKk s d, ze, ze, ze, 0, tameC s.l sm, 0, noF⟩
  else ⟨tmKk s d, ze, ze, ze, 0, zeC, tmN s d, tmF g sh add sm d⟩
def tmZ : List Value := [vi 0, vi 0, vi 0, vi 0, vi 0, vi 0, vi 0, vi 0, .slice none 0 0, .slice none 0 0]
def tmO10 (k : Int) (nm n : Nat) : List Value := [vi k, vi 0, vi 0, vi 0, vi 0, vi 0, vi 0, vi 0, .slice none 0 0, .slice (some ⟨nm, 0, some 0⟩) n 0]
def tmK : List Nat := [2, 3, 4, 6, 8, 10]
theorem tm_blocks : blocksL (bodyD Try.f18.body) = [(0, blkD Try.f18.body 0), (1, .loop (unloopD (blkD Try.f18.body 1))), (2, blkD Try.f18.body 2)] := by kernel_rfl
theorem tm_b1 : blocksL (unloopD (blkD Try.f18.body 1)) = [(2, blkD Try.f18.body 2)] := by kernel_rfl
def rvT (k : Int) (a b c : P2) (r : Int) (L : Dyn.DC) (n : Nat) (f : Nat → List Dyn.DC) : Dyn.RV := .val (.agg [cI k, cI a.x, cI a.y, cI b.x, cI b.y, cI c.x, cI c.y, cI r, L, .row n f])
def nilR : Dyn.DC := .row 0 noF
theorem rvT_le {k : Int} {a b c : P2} {r : Int} {L : Dyn.DC} {n : Nat} {f : Nat → List Dyn.DC} {x : Sh} (hk : x.k = k) (ha : x.a = a) (hb : x.b = b) (hc : x.c = c) (hr : x.r = r) (hL : Dyn.DCLe L (cCtr x.l)) (hn : n = x.n) (hf : ∀ i, i < n → f i = x.f i) : (Dyn.RO.leaf (rvT k a b c r L n f)).sat fun q => Dyn.RVLe q (.val (dvS x)) := by
  subst hk; subst ha; subst hb; subst hc; subst hr
  exact ⟨rfl, rfl, rfl, rfl, rfl, rfl, rfl, rfl, hL, ⟨hn, hf⟩, trivial⟩
theorem nilR_le : Dyn.DCLe nilR (cCtr zeC) := ⟨rfl, fun i hi => by omega⟩
theorem CallD_rle {P : Program} {K : Nat} {args : List Dyn.DV} {r r' : Dyn.RV} (h : Dyn.RVLe r r') (k : Dyn.CallD P K args r) : Dyn.CallD P K args r' := fun w F us hF hd => by
  have := k w F us hF hd
  split at this
  · rename_i u w' hr
    exact ⟨Dyn.DenR_le h this.1, this.2⟩
  · rename_i f as' w' hr
    refine ⟨this.1, this.2.mono fun e w'' he => ?_⟩
    obtain ⟨u, h1, h2, h3⟩ := he
    exact ⟨u, h1, Dyn.DenR_le h h2, h3⟩
  · exact this.elim
/-- a shape without parts -/
def leafS (k : Int) (a b c : P2) (r : Int) (l : Ctr) : Shp := .mk k a b c r l 0 (fun _ => false) (fun _ => .nil)
def tameS : Shp → Bool → Int → Shp
  | .nil, _, _ => .nil
  | .mk k a b c r l n add sub, sm, d =>
    let s : Sh := ⟨k, a, b, c, r, l, n, noF⟩
    bif tmKk s d == 1 then leafS (tmKk s d) (atP a sm) ze ze (tmR s sm) zeC
    else bif bif tmKk s d == 3 then tmKk s d == 3 else tmKk s d == 4 then leafS (tmKk s d) (atP a sm) (tmB s sm) ze (tmR s sm) zeC
    else bif tmKk s d == 5 then leafS (tmKk s d) (arcAt c (band a.x 65535) b.x sm) (arcAt c (band a.y 65535) b.x sm) (arcC c sm) (tmR s sm) zeC
    else bif tmKk s d == 2 then leafS (tmKk s d) ze ze ze 0 (tameC l sm)
    else .mk (tmKk s d) ze ze ze 0 zeC (tmN s d) add (fun i => tameS (sub i) sm (W (d + 1)))
noncomputable def tameE (x : Sh) (sm : Bool) (d : Int) : Sh := toSh (tameS (ofSh x) sm d)
theorem tameE_eq (s : Shp) (sm : Bool) (d : Int) : tameE (toSh s) sm d = toSh (tameS s sm d) := by unfold tameE; rw [ofSh_toSh]
theorem dvS_leaf (k : Int) (a b c : P2) (r : Int) (l : Ctr) : Dyn.DVLe (dvS ⟨k, a, b, c, r, l, 0, noF⟩) (dvS (toSh (leafS k a b c r l))) := ⟨rfl, rfl, rfl, rfl, rfl, rfl, rfl, rfl, Dyn.DCLe.refl _, ⟨rfl, fun i hi => absurd hi (Nat.not_lt_zero _)⟩, trivial⟩
theorem tm_pick {K : Int} (D1 D2 D3 D4 D5 : Sh) (E1 E2 E3 E4 E5 : Shp) (h1 : Dyn.DVLe (dvS D1) (dvS (toSh E1))) (h2 : Dyn.DVLe (dvS D2) (dvS (toSh E2))) (h3 : Dyn.DVLe (dvS D3) (dvS (toSh E3))) (h4 : Dyn.DVLe (dvS D4) (dvS (toSh E4))) (h5 : Dyn.DVLe (dvS D5) (dvS (toSh E5))) :
    Dyn.DVLe (dvS (bif K == 1 then D1 else bif bif K == 3 then K == 3 else K == 4 then D2 else bif K == 5 then D3 else bif K == 2 then D4 else D5)) (dvS (toSh (bif K == 1 then E1 else bif bif K == 3 then K == 3 else K == 4 then E2 else bif K == 5 then E3 else bif K == 2 then E4 else E5))) := by
  cases K == 1
  · cases (bif K == 3 then K == 3 else K == 4)
    · cases K == 5
      · cases K == 2
        · exact h5
        · exact h4
      · exact h3
    · exact h2
  · exact h1
theorem tameS_lvl (k : Int) (a b c : P2) (r : Int) (l : Ctr) (n : Nat) (add : Nat → Bool) (sub : Nat → Shp) (sm : Bool) (d : Int) :
    Dyn.DVLe (dvS (tameG tameE (fun i => toSh (sub i)) add (mkSh k a b c r l n add (fun i => toSh (sub i))) sm d)) (dvS (toSh (tameS (.mk k a b c r l n add sub) sm d))) := by
  refine tm_pick (K := tmKk ⟨k, a, b, c, r, l, n, noF⟩ d) _ _ _ _ _ _ _ _ _ _ (dvS_leaf _ _ _ _ _ _) (dvS_leaf _ _ _ _ _ _) (dvS_leaf _ _ _ _ _ _) (dvS_leaf _ _ _ _ _ _) ?_
  refine ⟨rfl, rfl, rfl, rfl, rfl, rfl, rfl, rfl, Dyn.DCLe.refl _, ⟨rfl, fun i hi => ?_⟩, trivial⟩
  show partC (add i) (tameE (toSh (sub i)) sm (W (d + 1))) = partC (add i) (toSh (tameS (sub i) sm (W (d + 1))))
  rw [tameE_eq]
end Go.Proofs.Ytfooaikpcbnchaa

/-! ## Sam -/
namespace Go.Proofs.Ytfooaikpcbnchaa
open Go Go.RowKit Sym
set_option maxRecDepth 100000

end Go.Proofs.Ytfooaikpcbnchaa

/-! ## San -/
namespace Go.Proofs.Ytfooaikpcbnchaa
open Go Go.RowKit Sym
set_option maxRecDepth 100000

end Go.Proofs.Ytfooaikpcbnchaa

/-! ## Tua -/
namespace Go.Proofs.Ytfooaikpcbnchaa
open Go Go.RowKit Sym
set_option maxRecDepth 100000

def zl (b : Bool) : List Dyn.DC → List Dyn.DC → List Dyn.DC
  | a :: us, z :: zs => (bif b then a else z) :: zl b us zs
  | _, _ => []
theorem zl_t : ∀ {us zs : List Dyn.DC}, us.length = zs.length → zl true us zs = us
  | [], [], _ => rfl
  | a :: us, z :: zs, h => by show a :: zl true us zs = _; rw [zl_t (Nat.succ.inj h)]
theorem zl_f : ∀ {us zs : List Dyn.DC}, us.length = zs.length → zl false us zs = zs
  | [], [], _ => rfl
  | a :: us, z :: zs, h => by show z :: zl false us zs = _; rw [zl_f (Nat.succ.inj h)]
/-- a row being filled: i of its elements are made -/
def fil (F : Nat → List Dyn.DC) (z : List Dyn.DC) (i : Nat) : Nat → List Dyn.DC := fun j => zl (Nat.blt j i) (F j) z
theorem fil_in {F : Nat → List Dyn.DC} {z : List Dyn.DC} {i j : Nat} (hl : (F j).length = z.length) (h : j < i) : fil F z i j = F j := by
  unfold fil
  rw [show Nat.blt j i = true from Nat.ble_eq_true_of_le h]; exact zl_t hl
theorem fil_out {F : Nat → List Dyn.DC} {z : List Dyn.DC} {i j : Nat} (hl : (F j).length = z.length) (h : ¬ j < i) : fil F z i j = z := by
  unfold fil
  rw [show Nat.blt j i = false by rw [Bool.eq_false_iff]; exact fun e => h (Nat.le_of_ble_eq_true e)]; exact zl_f hl
theorem le_upd {t : TypeId} {n i : Nat} {F : Nat → List Dyn.DC} {z ds : List Dyn.DC} {off : Nat} (hl : ∀ j, (F j).length = z.length) (h : Dyn.setMany' z off ds = F i) : Dyn.HeLe (some (.own t n (Dyn.updF (fil F z i) i off ds))) (some (.own t n (fil F z (i + 1)))) := by
  refine ⟨rfl, rfl, fun j hj => ?_⟩
  unfold Dyn.updF
  by_cases e : j = i
  · subst e
    rw [show Nat.beq j j = true from Nat.beq_refl j, fil_in (hl j) (show j < j + 1 by omega), fil_out (hl j) (by omega)]
    exact h
  · rw [show Nat.beq j i = false by rw [Bool.eq_false_iff]; exact fun q => e (Nat.eq_of_beq_eq_true q)]
    by_cases l : j < i
    · rw [fil_in (hl j) l, fil_in (hl j) (by omega)]; rfl
    · rw [fil_out (hl j) l, fil_out (hl j) (by omega)]; rfl
def turnC (l : Ctr) (t : Tn) : Ctr := ⟨l.n, l.m, fun i k => turnPtF (l.p i k) t⟩
def apP (l : Ctr) (t : Tn) (i k : Nat) : List Dyn.DC := cP (turnPtF (l.p i k) t)
def apR (l : Ctr) (t : Tn) (i : Nat) : List Dyn.DC := [cRow (l.m i) (fun k => turnPtF (l.p i k) t)]
def apZ1 : List Dyn.DC := [nilR]
def apZ3 : List Dyn.DC := [cB false, cI 0, cI 0, cI 0, cI 0, cI 0, cI 0, cI 0, cI 0, nilR, nilR]
theorem leaf_fits {P : Program} {w0 : Dyn.Base P} {id : Nat} {c : Code} {s s1 s2 : Dyn.St} {e : AExit} (h : Dyn.BlockSound P w0 id c s (.leaf e s1)) (f : Dyn.Fits s1 s2) : Dyn.BlockSound P w0 id c s (.leaf e s2) := fun Q a w β m ng ho => h Q a w β m ng (fun β a w m ng => by
  obtain ⟨β', m', ng'⟩ := Dyn.Ent.fits f β a w m ng
  exact ho β' a w m' ng')
def apF (g : Sh → Tn → Sh) (sh : Nat → Sh) (add : Nat → Bool) (t : Tn) (i : Nat) : List Dyn.DC := partC (add i) (g (sh i) t)
def szM (b n : Nat) : Prop := 0 ≤ (n : Int) ∧ (n : Int) ≤ n ∧ (n : Int) ≤ 9223372036854775807 ∧ (b : Int) * (n : Int) ≤ 281474976710656
theorem szM_ok {b n : Nat} (hb : b ≤ 1000) (hn : n ≤ 1000000000) : szM b n := by
  refine ⟨by omega, by omega, by omega, ?_⟩
  have : b * n ≤ 1000 * 1000000000 := Nat.mul_le_mul hb hn
  have h2 : (b : Int) * (n : Int) = ((b * n : Nat) : Int) := by rw [Int.natCast_mul]
  rw [h2]; omega
def apZ2 : List Dyn.DC := [.p (vi 0), .p (vi 0)]
def tdA (Pd : Sh → Prop) (g : Sh → Tn → Sh) : List Dyn.EntryD := [(49, en2D (qAnd qS Pd) qT fun x t => .val (dvS (g x t)))]
def drA (K : Nat) : Bool := Nat.beq K 49
def tabAp (Pd : Sh → Prop) (g : Sh → Tn → Sh) : Dyn.Tabs := Dyn.tabs tf6 (tdA Pd g) drA dtyS
theorem tabAp_ok {Pd : Sh → Prop} {g : Sh → Tn → Sh} (ih : ∀ x, Pd x → ∀ t, Dyn.CallD Try.prog 49 [dvS x, dvT t] (.val (dvS (g x t)))) : Dyn.TabsOk Try.prog (tabAp Pd g) :=
  Dyn.tabs_ok tf6_ok (List.forall_mem_cons.2 ⟨en2D_ok (qAnd_ok qS_ok) qT_ok fun x t h _ => ih x h.1 t, fun _ h => by cases h⟩)
def apV (k r : Int) (L Q : Value) : List Value := [vi k, vi 0, vi 0, vi 0, vi 0, vi 0, vi 0, vi r, L, Q]
def tnV (t : Tn) : List Value := [vb t.mx, vb t.my, vi t.q, vi t.u.x, vi t.u.y]
def apS (s : Sh) (t : Tn) (i : Int) (f : Nat → List Dyn.DC) : Dyn.St := mkS 134 [(2, sL 1), (3, sL 2), (4, sL 3), (5, sL 4), (76, sH 0 8 s.l.n), (77, sI s.l.n), (78, sI i)]
  [some (.deep (cS s)), some (.cells 29 (shV 0 8 s)), some (.cells 25 (tnV t)), some (.cells 29 tmZ), some (.cells 29 (apV s.k s.r (.slice (some ⟨5, 0, some 0⟩) s.l.n 0) (.slice none 0 0))), some (.own 78 s.l.n f)]
def apT (s : Sh) (t : Tn) (i : Int) (f : Nat → List Dyn.DC) (j : Int) (f2 : Nat → List Dyn.DC) : Dyn.St := mkS 134 [(2, sL 1), (3, sL 2), (4, sL 3), (5, sL 4), (6, sI i), (7, sH 5 0 (s.l.m i.toNat)), (8, sH 6 0 (s.l.m i.toNat)), (76, sH 0 8 s.l.n), (77, sI s.l.n), (78, sI i), (86, sH 5 0 (s.l.m i.toNat)), (87, sI (s.l.m i.toNat)), (88, sI j)]
  [some (.deep (cS s)), some (.cells 29 (shV 0 8 s)), some (.cells 25 (tnV t)), some (.cells 29 tmZ), some (.cells 29 (apV s.k s.r (.slice (some ⟨7, 0, some 0⟩) s.l.n 0) (.slice none 0 0))), some (.deep [cRow (s.l.m i.toNat) (s.l.p i.toNat)]), some (.own 23 (s.l.m i.toNat) f2), some (.own 78 s.l.n f)]
def apU (s : Sh) (t : Tn) (i : Int) (f : Nat → List Dyn.DC) : Dyn.St := mkS 134 [(2, sL 1), (3, sL 2), (4, sL 3), (5, sL 4), (114, sH 0 9 s.n), (115, sI s.n), (116, sI i)]
  [some (.deep (cS s)), some (.cells 29 (shV 0 8 s)), some (.cells 25 (tnV t)), some (.cells 29 tmZ), some (.cells 29 (apV s.k s.r (.slice none 0 0) (.slice (some ⟨5, 0, some 0⟩) s.n 0))), some (.own 45 s.n f)]
def apK0 : List Nat := [2, 3, 4, 5, 76, 77, 78]
def apK1 : List Nat := [2, 3, 4, 5, 6, 7, 8, 76, 77, 78, 86, 87, 88]
def apK2 : List Nat := [2, 3, 4, 5, 114, 115, 116]
def apLp (g : Sh → Tn → Sh) (sh : Nat → Sh) (add : Nat → Bool) (s : Sh) (t : Tn) : Dyn.Lp := fun id st => match id with
  | 1 => some (.side [keepC 134 [0, 1, 2, 3, 9] [] [(9, 8)] apK0 (2 ^ 78) st = apS s t 0 (fil (apR s.l t) apZ1 0)] (.leaf .normal (apS s t (s.l.n : Nat) (apR s.l t))))
  | 3 =>
    let i := intD (st.slots.getD 6 .junk)
    some (.side [keepC 134 [0, 1, 2, 3, 4] [7, 8] [(4, 8)] apK1 (2 ^ 88) st = apT s t i (fil (apR s.l t) apZ1 i.toNat) 0 (fil (apP s.l t i.toNat) apZ2 0), 0 ≤ i ∧ i < s.l.n] (.leaf .normal (apT s t i (fil (apR s.l t) apZ1 i.toNat) (s.l.m i.toNat : Nat) (apP s.l t i.toNat))))
  | 5 => some (.side [keepC 134 [0, 1, 2, 3, 9] [] [(9, 9)] apK2 (2 ^ 116) st = apU s t 0 (fil (apF g sh add t) apZ3 0)] (.leaf .normal (apU s t (s.n : Nat) (apF g sh add t))))
  | _ => none
def apBi (s : Sh) (t : Tn) (i : Nat) (f : Nat → List Dyn.DC) (j : Nat) : Dyn.Out :=
  .ite (decide ((j : Int) < s.l.m i)) (.side [0 ≤ (j : Int) ∧ (j : Int) < s.l.m i] (.side [0 ≤ (j : Int) ∧ (j : Int) < s.l.m i] (.leaf .normal (apT s t i f (W (j + 1)) (Dyn.updF (fil (apP s.l t i) apZ2 j) j 0 (cP (turnPtF (s.l.p i j) t))))))) (.leaf (.exit 3) (apT s t i f j (fil (apP s.l t i) apZ2 j)))
def apBo (s : Sh) (t : Tn) (i : Nat) : Dyn.Out :=
  .ite (decide ((i : Int) < s.l.n)) (.side [0 ≤ (i : Int) ∧ (i : Int) < s.l.n] (.side [szM 16 (s.l.m i)] (.side [apT s t i (fil (apR s.l t) apZ1 i) 0 (fil (apP s.l t i) apZ2 0) = apT s t i (fil (apR s.l t) apZ1 i) 0 (fil (apP s.l t i) apZ2 0), 0 ≤ (i : Int) ∧ (i : Int) < s.l.n] (.side [0 ≤ (i : Int) ∧ (i : Int) < s.l.n] (.leaf .normal (apS s t (W (i + 1)) (Dyn.updF (fil (apR s.l t) apZ1 i) i 0 (apR s.l t i)))))))) (.leaf (.exit 1) (apS s t i (fil (apR s.l t) apZ1 i)))
def apBp (Pd : Sh → Prop) (g : Sh → Tn → Sh) (sh : Nat → Sh) (add : Nat → Bool) (s : Sh) (t : Tn) (i : Nat) : Dyn.Out :=
  .ite (decide ((i : Int) < s.n)) (.side [0 ≤ (i : Int) ∧ (i : Int) < s.n] (.side [Pd (sh i), ctrSelf (sh i).l, 0 ≤ (i : Int) ∧ (i : Int) < s.n] (.leaf .normal (apU s t (W (i + 1)) (Dyn.updF (fil (apF g sh add t) apZ3 i) i 0 (apF g sh add t i)))))) (.leaf (.exit 5) (apU s t i (fil (apF g sh add t) apZ3 i)))
theorem ap_Bi (Pd : Sh → Prop) (g : Sh → Tn → Sh) (sh : Nat → Sh) (add : Nat → Bool) (s : Sh) (t : Tn) (i : Nat) (f : Nat → List Dyn.DC) (j : Nat) : (Dyn.lexec Try.prog (tabAp Pd g) (apLp g sh add s t) 3 (unloopD (blkD Try.f49.body 3)) .leaf (apT s t i f j (fil (apP s.l t i) apZ2 j))).rl (keepCR 134 [0, 1, 2, 3, 4] [7, 8] [(4, 8)] apK1 [] []) = apBi s t i f j := by kernel_rfl
theorem ap_Bo (Pd : Sh → Prop) (g : Sh → Tn → Sh) (sh : Nat → Sh) (add : Nat → Bool) (s : Sh) (t : Tn) (i : Nat) : (Dyn.lexec Try.prog (tabAp Pd g) (apLp g sh add s t) 3 (unloopD (blkD Try.f49.body 1)) .leaf (apS s t i (fil (apR s.l t) apZ1 i))).rl (keepCR 134 [0, 1, 2, 3, 4] [] [(4, 8)] apK0 [] []) = apBo s t i := by kernel_rfl
theorem ap_Bp (Pd : Sh → Prop) (g : Sh → Tn → Sh) (k : Int) (a b c : P2) (r : Int) (l : Ctr) (n : Nat) (add : Nat → Bool) (sh : Nat → Sh) (t : Tn) (i : Nat) : (Dyn.lexec Try.prog (tabAp Pd g) (apLp g sh add (mkSh k a b c r l n add sh) t) 3 (unloopD (blkD Try.f49.body 5)) .leaf (apU (mkSh k a b c r l n add sh) t i (fil (apF g sh add t) apZ3 i))).rl (keepCR 134 [0, 1, 2, 3, 4] [] [(4, 9)] apK2 [] []) = apBp Pd g sh add (mkSh k a b c r l n add sh) t i := by kernel_rfl
theorem ap_blocks : blocksL (bodyD Try.f49.body) = [(0, blkD Try.f49.body 0), (1, .loop (unloopD (blkD Try.f49.body 1))), (2, blkD Try.f49.body 2), (3, .loop (unloopD (blkD Try.f49.body 3))), (4, blkD Try.f49.body 4), (5, .loop (unloopD (blkD Try.f49.body 5))), (6, blkD Try.f49.body 6)] := by kernel_rfl
theorem ap_b1 : blocksL (unloopD (blkD Try.f49.body 1)) = [(2, blkD Try.f49.body 2), (3, .loop (unloopD (blkD Try.f49.body 3))), (4, blkD Try.f49.body 4)] := by kernel_rfl
theorem ap_b3 : blocksL (unloopD (blkD Try.f49.body 3)) = [(4, blkD Try.f49.body 4)] := by kernel_rfl
theorem ap_b5 : blocksL (unloopD (blkD Try.f49.body 5)) = [(6, blkD Try.f49.body 6)] := by kernel_rfl
theorem ap_inner {Pd : Sh → Prop} {g : Sh → Tn → Sh} (ih : ∀ x, Pd x → ∀ t, Dyn.CallD Try.prog 49 [dvS x, dvT t] (.val (dvS (g x t)))) (sh : Nat → Sh) (add : Nat → Bool) (s : Sh) (hl : CtrB s.l) (t : Tn) (w0 : Dyn.Base Try.prog) (st : Dyn.St) (o : Dyn.Out)
    (h : apLp g sh add s t 3 st = some o) : Dyn.BlockSound Try.prog w0 3 (.loop (unloopD (blkD Try.f49.body 3))) st o := by
  simp only [apLp, Option.some.injEq] at h
  subst h
  refine side_two fun hS hi => ?_
  revert hS hi
  generalize intD (st.slots.getD 6 .junk) = i'
  intro hS hi
  obtain ⟨i, rfl⟩ : ∃ i : Nat, i' = (i : Int) := ⟨i'.toNat, by omega⟩
  have hm : s.l.m i ≤ 1000000000 := hl.2 i (by omega)
  refine leaf_fits (s1 := apT s t i (fil (apR s.l t) apZ1 i) (s.l.m i : Nat) (fil (apP s.l t i) apZ2 (s.l.m i))) (fold_block (fuel := 3) (tabAp_ok ih) mo (lp := apLp g sh add s t) (by rw [ap_b3]; exact lpOk_cons (fun s o h => by cases h) lpOk_nil) (fun j (_ : Unit) => apT s t i (fil (apR s.l t) apZ1 i) j (fil (apP s.l t i) apZ2 j)) (s.l.m i) (fun _ _ => ()) () (keepCR 134 [0, 1, 2, 3, 4] [7, 8] [(4, 8)] apK1 [] []) (keepCR_ent 134 _ _ _ _ _ _) (fun j _ => apBi s t i (fil (apR s.l t) apZ1 i) j) (fun j _ => ap_Bi Pd g sh add s t i _ j) (fun j hj => ?_) ?_ (hS ▸ keepC_ent 134 _ _ _ _ _ st)) ?_
  · refine ⟨fun _ => ⟨⟨⟨by omega, by omega⟩, trivial⟩, ⟨⟨by omega, by omega⟩, trivial⟩, rfl, ?_⟩, fun hf => ?_⟩
    · rw [Wn1 hj hm]
      exact ⟨rfl, Dyn.HeLe.refl _, Dyn.HeLe.refl _, Dyn.HeLe.refl _, Dyn.HeLe.refl _, Dyn.HeLe.refl _, Dyn.HeLe.refl _, le_upd (fun _ => rfl) rfl, Dyn.HeLe.refl _, trivial⟩
    · rw [decide_eq_false_iff_not] at hf; omega
  · refine ⟨fun ht => ?_, fun _ => ⟨rfl, Dyn.Fits.refl _⟩⟩
    rw [decide_eq_true_eq] at ht; omega
  · exact ⟨rfl, Dyn.HeLe.refl _, Dyn.HeLe.refl _, Dyn.HeLe.refl _, Dyn.HeLe.refl _, Dyn.HeLe.refl _, Dyn.HeLe.refl _, ⟨rfl, rfl, fun j hj => fil_in rfl hj⟩, Dyn.HeLe.refl _, trivial⟩
theorem ap_outer {Pd : Sh → Prop} {g : Sh → Tn → Sh} (ih : ∀ x, Pd x → ∀ t, Dyn.CallD Try.prog 49 [dvS x, dvT t] (.val (dvS (g x t)))) (sh : Nat → Sh) (add : Nat → Bool) (s : Sh) (hl : CtrB s.l) (t : Tn) (w0 : Dyn.Base Try.prog) (st : Dyn.St) (o : Dyn.Out)
    (h : apLp g sh add s t 1 st = some o) : Dyn.BlockSound Try.prog w0 1 (.loop (unloopD (blkD Try.f49.body 1))) st o := by
  simp only [apLp, Option.some.injEq] at h
  subst h
  refine side_one fun hS => ?_
  refine leaf_fits (s1 := apS s t (s.l.n : Nat) (fil (apR s.l t) apZ1 s.l.n)) (fold_block (fuel := 3) (tabAp_ok ih) mo (lp := apLp g sh add s t) (by rw [ap_b1]; exact lpOk_cons (fun s o h => by cases h) (lpOk_cons (ap_inner ih sh add s hl t w0) (lpOk_cons (fun s o h => by cases h) lpOk_nil))) (fun i (_ : Unit) => apS s t i (fil (apR s.l t) apZ1 i)) s.l.n (fun _ _ => ()) () (keepCR 134 [0, 1, 2, 3, 4] [] [(4, 8)] apK0 [] []) (keepCR_ent 134 _ _ _ _ _ _) (fun i _ => apBo s t i) (fun i _ => ap_Bo Pd g sh add s t i) (fun i hi => ?_) ?_ (hS ▸ keepC_ent 134 _ _ _ _ _ st)) ?_
  · have hb : 0 ≤ (i : Int) ∧ (i : Int) < s.l.n := ⟨by omega, by omega⟩
    refine ⟨fun _ => ⟨⟨hb, trivial⟩, ⟨szM_ok (by decide) (hl.2 i hi), trivial⟩, ⟨rfl, hb, trivial⟩, ⟨hb, trivial⟩, rfl, ?_⟩, fun hf => ?_⟩
    · rw [Wn1 hi hl.1]
      exact ⟨rfl, Dyn.HeLe.refl _, Dyn.HeLe.refl _, Dyn.HeLe.refl _, Dyn.HeLe.refl _, Dyn.HeLe.refl _, le_upd (fun _ => rfl) rfl, trivial⟩
    · rw [decide_eq_false_iff_not] at hf; omega
  · refine ⟨fun ht => ?_, fun _ => ⟨rfl, Dyn.Fits.refl _⟩⟩
    rw [decide_eq_true_eq] at ht; omega
  · exact ⟨rfl, Dyn.HeLe.refl _, Dyn.HeLe.refl _, Dyn.HeLe.refl _, Dyn.HeLe.refl _, Dyn.HeLe.refl _, ⟨rfl, rfl, fun j hj => fil_in rfl hj⟩, trivial⟩
theorem ap_parts {Pd : Sh → Prop} {g : Sh → Tn → Sh} (ih : ∀ x, Pd x → ∀ t, Dyn.CallD Try.prog 49 [dvS x, dvT t] (.val (dvS (g x t)))) (k : Int) (a b c : P2) (r : Int) (l : Ctr) (n : Nat) (add : Nat → Bool) (sh : Nat → Sh) (hn : n ≤ 1000000000) (hP : ∀ i, i < n → Pd (sh i)) (t : Tn) (w0 : Dyn.Base Try.prog) (st : Dyn.St) (o : Dyn.Out)
    (h : apLp g sh add (mkSh k a b c r l n add sh) t 5 st = some o) : Dyn.BlockSound Try.prog w0 5 (.loop (unloopD (blkD Try.f49.body 5))) st o := by
  simp only [apLp, Option.some.injEq] at h
  subst h
  refine side_one fun hS => ?_
  refine leaf_fits (s1 := apU (mkSh k a b c r l n add sh) t (n : Nat) (fil (apF g sh add t) apZ3 n)) (fold_block (fuel := 3) (tabAp_ok ih) mo (lp := apLp g sh add (mkSh k a b c r l n add sh) t) (by rw [ap_b5]; exact lpOk_cons (fun s o h => by cases h) lpOk_nil) (fun i (_ : Unit) => apU (mkSh k a b c r l n add sh) t i (fil (apF g sh add t) apZ3 i)) n (fun _ _ => ()) () (keepCR 134 [0, 1, 2, 3, 4] [] [(4, 9)] apK2 [] []) (keepCR_ent 134 _ _ _ _ _ _) (fun i _ => apBp Pd g sh add (mkSh k a b c r l n add sh) t i) (fun i _ => ap_Bp Pd g k a b c r l n add sh t i) (fun i hi => ?_) ?_ (hS ▸ keepC_ent 134 _ _ _ _ _ st)) ?_
  · have hb : 0 ≤ (i : Int) ∧ (i : Int) < (n : Int) := ⟨by omega, by omega⟩
    refine ⟨fun _ => ⟨⟨hb, trivial⟩, ⟨hP i hi, ctrSelf_ok _, hb, trivial⟩, rfl, ?_⟩, fun hf => ?_⟩
    · rw [Wn1 hi hn]
      exact ⟨rfl, Dyn.HeLe.refl _, Dyn.HeLe.refl _, Dyn.HeLe.refl _, Dyn.HeLe.refl _, Dyn.HeLe.refl _, le_upd (fun _ => rfl) rfl, trivial⟩
    · rw [decide_eq_false_iff_not] at hf
      exact absurd hb.2 hf
  · refine ⟨fun ht => ?_, fun _ => ⟨rfl, Dyn.Fits.refl _⟩⟩
    rw [decide_eq_true_eq] at ht
    exact absurd (show (n : Int) < (n : Int) from ht) (by omega)
  · exact ⟨rfl, Dyn.HeLe.refl _, Dyn.HeLe.refl _, Dyn.HeLe.refl _, Dyn.HeLe.refl _, Dyn.HeLe.refl _, ⟨rfl, rfl, fun j hj => fil_in rfl hj⟩, trivial⟩
def apO (g : Sh → Tn → Sh) (sh : Nat → Sh) (add : Nat → Bool) (s : Sh) (t : Tn) : Dyn.RO :=
  .ite (s.k == 1) (.leaf (rvT s.k (turnPtF s.a t) ze ze s.r nilR 0 noF))
  (.ite (bif s.k == 3 then s.k == 3 else s.k == 4) (.leaf (rvT s.k (turnPtF s.a t) (turnPtF s.b t) ze s.r nilR 0 noF))
  (.ite (s.k == 5) (.ite (t.mx != t.my) (.leaf (rvT s.k (turnPtF s.b t) (turnPtF s.a t) (turnPtF s.c t) s.r nilR 0 noF)) (.leaf (rvT s.k (turnPtF s.a t) (turnPtF s.b t) (turnPtF s.c t) s.r nilR 0 noF)))
  (.ite (s.k == 2) (.side [szM 24 s.l.n] (.side [apS s t 0 (fil (apR s.l t) apZ1 0) = apS s t 0 (fil (apR s.l t) apZ1 0)] (.leaf (rvT s.k ze ze ze s.r (.row s.l.n (apR s.l t)) 0 noF))))
  (.ite (s.k == 6) (.side [szM 120 s.n] (.side [apU s t 0 (fil (apF g sh add t) apZ3 0) = apU s t 0 (fil (apF g sh add t) apZ3 0)] (.leaf (rvT s.k ze ze ze s.r nilR s.n (apF g sh add t)))))
    (.leaf (rvT s.k ze ze ze s.r nilR 0 noF))))))
theorem ap_O (Pd : Sh → Prop) (g : Sh → Tn → Sh) (sh : Nat → Sh) (add : Nat → Bool) (s : Sh) (t : Tn) : (Dyn.dfun Try.prog (tabAp Pd g) (apLp g sh add s t) 3 Try.f49 [dvS s, dvT t]).ro Try.prog Try.f49.results = apO g sh add s t := by kernel_rfl
def applyG (g : Sh → Tn → Sh) (sh : Nat → Sh) (add : Nat → Bool) (s : Sh) (t : Tn) : Sh :=
  bif s.k == 1 then ⟨s.k, turnPtF s.a t, ze, ze, s.r, zeC, 0, noF⟩
  else bif bif s.k == 3 then s.k == 3 else s.k == 4 then ⟨s.k, turnPtF s.a t, turnPtF s.b t, ze, s.r, zeC, 0, noF⟩
  else bif s.k == 5 then ⟨s.k, bif t.mx != t.my then turnPtF s.b t else turnPtF s.a t, bif t.mx != t.my then turnPtF s.a t else turnPtF s.b t, turnPtF s.c t, s.r, zeC, 0, noF⟩
  else bif s.k == 2 then ⟨s.k, ze, ze, ze, s.r, turnC s.l t, 0, noF⟩
  else bif s.k == 6 then ⟨s.k, ze, ze, ze, s.r, zeC, s.n, apF g sh add t⟩
  else ⟨s.k, ze, ze, ze, s.r, zeC, 0, noF⟩
theorem ap_sat (g : Sh → Tn → Sh) (sh : Nat → Sh) (add : Nat → Bool) (s : Sh) (hl : CtrB s.l) (hn : s.n ≤ 1000000000) (t : Tn) : (apO g sh add s t).sat fun r => Dyn.RVLe r (.val (dvS (applyG g sh add s t))) := by
  unfold applyG
  refine ⟨fun h => ?_, fun h => ⟨fun h2 => ?_, fun h2 => ⟨fun h3 => ⟨fun h4 => ?_, fun h4 => ?_⟩, fun h3 => ⟨fun h4 => ⟨⟨szM_ok (by decide) hl.1, trivial⟩, ⟨rfl, trivial⟩, ?_⟩, fun h4 => ⟨fun h5 => ⟨⟨szM_ok (by decide) hn, trivial⟩, ⟨rfl, trivial⟩, ?_⟩, fun h5 => ?_⟩⟩⟩⟩⟩
  · rw [h]; exact rvT_le rfl rfl rfl rfl rfl nilR_le rfl fun _ _ => rfl
  · rw [h, h2]; exact rvT_le rfl rfl rfl rfl rfl nilR_le rfl fun _ _ => rfl
  · rw [h, h2, h3, h4]; exact rvT_le rfl rfl rfl rfl rfl nilR_le rfl fun _ _ => rfl
  · rw [h, h2, h3, h4]; exact rvT_le rfl rfl rfl rfl rfl nilR_le rfl fun _ _ => rfl
  · rw [h, h2, h3, h4]; exact rvT_le rfl rfl rfl rfl rfl (Dyn.DCLe.refl _) rfl fun _ _ => rfl
  · rw [h, h2, h3, h4, h5]; exact rvT_le rfl rfl rfl rfl rfl nilR_le rfl fun _ _ => rfl
  · rw [h, h2, h3, h4, h5]; exact rvT_le rfl rfl rfl rfl rfl nilR_le rfl fun _ _ => rfl
theorem apply_lvl {Pd : Sh → Prop} {g : Sh → Tn → Sh} (ih : ∀ x, Pd x → ∀ t, Dyn.CallD Try.prog 49 [dvS x, dvT t] (.val (dvS (g x t)))) (k : Int) (a b c : P2) (r : Int) (l : Ctr) (n : Nat) (add : Nat → Bool) (sh : Nat → Sh) (hl : CtrB l) (hn : n ≤ 1000000000) (hP : ∀ i, i < n → Pd (sh i)) (t : Tn) :
    Dyn.CallD Try.prog 49 [dvS (mkSh k a b c r l n add sh), dvT t] (.val (dvS (applyG g sh add (mkSh k a b c r l n add sh) t))) :=
  Dyn.dcontract (lp := apLp g sh add (mkSh k a b c r l n add sh) t) (fuel := 3) (tabAp_ok ih) mo Try.func49 (by kernel_rfl) (c := bodyD Try.f49.body) (by kernel_rfl)
    (fun w0 => by
      rw [ap_blocks]
      exact lpOk_cons (fun s o h => by cases h) (lpOk_cons (ap_outer ih sh add _ hl t w0) (lpOk_cons (fun s o h => by cases h) (lpOk_cons (ap_inner ih sh add _ hl t w0) (lpOk_cons (fun s o h => by cases h) (lpOk_cons (ap_parts ih k a b c r l n add sh hn hP t w0) (lpOk_cons (fun s o h => by cases h) lpOk_nil)))))))
    (by kernel_rfl) (ap_O Pd g sh add _ t) (ap_sat g sh add (mkSh k a b c r l n add sh) hl hn t)
/-- a shape turned -/
def turnS : Shp → Tn → Shp
  | .nil, _ => .nil
  | .mk k a b c r l n add sub, t =>
    bif k == 1 then leafS k (turnPtF a t) ze ze r zeC
    else bif bif k == 3 then k == 3 else k == 4 then leafS k (turnPtF a t) (turnPtF b t) ze r zeC
    else bif k == 5 then leafS k (bif t.mx != t.my then turnPtF b t else turnPtF a t) (bif t.mx != t.my then turnPtF a t else turnPtF b t) (turnPtF c t) r zeC
    else bif k == 2 then leafS k ze ze ze r (turnC l t)
    else bif k == 6 then .mk k ze ze ze r zeC n add (fun i => turnS (sub i) t)
    else leafS k ze ze ze r zeC
noncomputable def turnE (x : Sh) (t : Tn) : Sh := toSh (turnS (ofSh x) t)
theorem turnE_eq (s : Shp) (t : Tn) : turnE (toSh s) t = toSh (turnS s t) := by unfold turnE; rw [ofSh_toSh]
theorem ap_pick {K : Int} (D1 D2 D3 D4 D5 D6 : Sh) (E1 E2 E3 E4 E5 E6 : Shp) (h1 : Dyn.DVLe (dvS D1) (dvS (toSh E1))) (h2 : Dyn.DVLe (dvS D2) (dvS (toSh E2))) (h3 : Dyn.DVLe (dvS D3) (dvS (toSh E3))) (h4 : Dyn.DVLe (dvS D4) (dvS (toSh E4))) (h5 : Dyn.DVLe (dvS D5) (dvS (toSh E5))) (h6 : Dyn.DVLe (dvS D6) (dvS (toSh E6))) :
    Dyn.DVLe (dvS (bif K == 1 then D1 else bif bif K == 3 then K == 3 else K == 4 then D2 else bif K == 5 then D3 else bif K == 2 then D4 else bif K == 6 then D5 else D6)) (dvS (toSh (bif K == 1 then E1 else bif bif K == 3 then K == 3 else K == 4 then E2 else bif K == 5 then E3 else bif K == 2 then E4 else bif K == 6 then E5 else E6))) := by
  cases K == 1
  · cases (bif K == 3 then K == 3 else K == 4)
    · cases K == 5
      · cases K == 2
        · cases K == 6
          · exact h6
          · exact h5
        · exact h4
      · exact h3
    · exact h2
  · exact h1
theorem turnS_lvl (k : Int) (a b c : P2) (r : Int) (l : Ctr) (n : Nat) (add : Nat → Bool) (sub : Nat → Shp) (t : Tn) :
    Dyn.DVLe (dvS (applyG turnE (fun i => toSh (sub i)) add (mkSh k a b c r l n add (fun i => toSh (sub i))) t)) (dvS (toSh (turnS (.mk k a b c r l n add sub) t))) := by
  refine ap_pick (K := k) _ _ _ _ _ _ _ _ _ _ _ _ (dvS_leaf _ _ _ _ _ _) (dvS_leaf _ _ _ _ _ _) (dvS_leaf _ _ _ _ _ _) (dvS_leaf _ _ _ _ _ _) ?_ (dvS_leaf _ _ _ _ _ _)
  refine ⟨rfl, rfl, rfl, rfl, rfl, rfl, rfl, rfl, Dyn.DCLe.refl _, ⟨rfl, fun i hi => ?_⟩, trivial⟩
  show partC (add i) (turnE (toSh (sub i)) t) = partC (add i) (toSh (turnS (sub i) t))
  rw [turnE_eq]
theorem turnE_ok : ∀ s : Shp, ShB s → ∀ t, Dyn.CallD Try.prog 49 [dvS (toSh s), dvT t] (.val (dvS (turnE (toSh s) t))) := by
  intro s
  induction s with
  | nil => intro h; exact h.elim
  | mk k a b c r l n add sub ih =>
    intro h t
    rw [turnE_eq]
    refine CallD_rle (r := .val (dvS (applyG turnE (fun i => toSh (sub i)) add (mkSh k a b c r l n add (fun i => toSh (sub i))) t))) (turnS_lvl k a b c r l n add sub t) ?_
    exact apply_lvl (Pd := fun x => ∃ i, i < n ∧ x = toSh (sub i)) (fun x hx => by
      obtain ⟨i, hi, rfl⟩ := hx
      exact ih i (h.2.2 i hi)) k a b c r l n add (fun i => toSh (sub i)) h.1 h.2.1 (fun i hi => ⟨i, hi, rfl⟩) t
theorem apply_all : ∀ x, PdS x → ∀ t, Dyn.CallD Try.prog 49 [dvS x, dvT t] (.val (dvS (turnE x t))) := fun x hx t => by
  have k := turnE_ok _ hx.1 t
  rw [show turnE (toSh (ofSh x)) t = turnE x t by unfold turnE; rw [ofSh_toSh]] at k
  exact CallD_le (args := dvS (toSh (ofSh x)) :: [dvT t]) ⟨SLe.dv hx.2, Dyn.DVLe.refl _, trivial⟩ k
end Go.Proofs.Ytfooaikpcbnchaa

/-! ## Tub -/
namespace Go.Proofs.Ytfooaikpcbnchaa
open Go Go.RowKit Sym
set_option maxRecDepth 100000

theorem CtrB_turnC {l : Ctr} (h : CtrB l) (t : Tn) : CtrB (turnC l t) := h
theorem CtrB_ze : CtrB zeC := ⟨by decide, fun i hi => absurd hi (Nat.not_lt_zero i)⟩
theorem leaf_B (k : Int) (a b c : P2) (r : Int) {l : Ctr} (h : CtrB l) : ShB (leafS k a b c r l) := ⟨h, by decide, fun i hi => absurd hi (Nat.not_lt_zero i)⟩
theorem pick6_B {K : Int} {E1 E2 E3 E4 E5 E6 : Shp} (h1 : ShB E1) (h2 : ShB E2) (h3 : ShB E3) (h4 : ShB E4) (h5 : ShB E5) (h6 : ShB E6) : ShB (bif K == 1 then E1 else bif bif K == 3 then K == 3 else K == 4 then E2 else bif K == 5 then E3 else bif K == 2 then E4 else bif K == 6 then E5 else E6) := by
  cases K == 1
  · cases (bif K == 3 then K == 3 else K == 4)
    · cases K == 5
      · cases K == 2
        · cases K == 6
          · exact h6
          · exact h5
        · exact h4
      · exact h3
    · exact h2
  · exact h1
theorem turnS_B : ∀ s : Shp, ShB s → ∀ t, ShB (turnS s t) := by
  intro s
  induction s with
  | nil => intro h; exact h.elim
  | mk k a b c r l n add sub ih =>
    intro h t
    exact pick6_B (leaf_B _ _ _ _ _ CtrB_ze) (leaf_B _ _ _ _ _ CtrB_ze) (leaf_B _ _ _ _ _ CtrB_ze) (leaf_B _ _ _ _ _ (CtrB_turnC h.1 t)) ⟨CtrB_ze, h.2.1, fun i hi => ih i (h.2.2 i hi) t⟩ (leaf_B _ _ _ _ _ CtrB_ze)
theorem turnE_PdS {x : Sh} (h : PdS x) (t : Tn) : PdS (turnE x t) := by
  exact PdS_mk (turnS_B _ h.1 t)
/-- no shape -/
def noS : Shp := leafS 0 ze ze ze 0 zeC
noncomputable def moveE (x : Sh) (t : Tn) : Sh := bif okE x then bif okE (turnE x t) then turnE x t else toSh noS else toSh noS
noncomputable def movesE (x : Sh) (t : Tn) : Bool := bif okE x then okE (turnE x t) else false
noncomputable def tdAp : List Dyn.EntryD := [(48, en1D (qAnd qS PdS) fun x => rB (okE x)), (49, en2D (qAnd qS PdS) qT fun x t => .val (dvS (turnE x t)))]
def drAp (K : Nat) : Bool := Nat.beq K 49
noncomputable def tabAq : Dyn.Tabs := Dyn.tabs tbF tdAp drAp dtyS
theorem tabAq_ok : Dyn.TabsOk Try.prog tabAq := Dyn.tabs_ok tbF_ok (List.forall_mem_cons.2 ⟨en1D_ok (qAnd_ok qS_ok) fun x h => figOk_ok x h.1, List.forall_mem_cons.2 ⟨en2D_ok (qAnd_ok qS_ok) qT_ok fun x t h _ => apply_all x h.1 t, fun _ h => by cases h⟩⟩)
def zeroRV : Dyn.RV := .tup [.agg [cI 0, cI 0, cI 0, cI 0, cI 0, cI 0, cI 0, cI 0, nilR, nilR], dvB false]
noncomputable def apqO (x : Sh) (t : Tn) : Dyn.RO :=
  .side [PdS x, ctrSelf x.l] (.ite (!(okE x)) (.leaf zeroRV)
    (.side [PdS x, ctrSelf x.l] (.side [PdS (turnE x t), ctrSelf (turnE x t).l] (.ite (!(okE (turnE x t))) (.leaf zeroRV) (.leaf (.tup [dvS (turnE x t), dvB true]))))))
theorem apq_O (x : Sh) (t : Tn) : (Dyn.dfun Try.prog tabAq Dyn.noLp 3 Try.f20 [dvS x, dvT t]).ro Try.prog Try.f20.results = apqO x t := by kernel_rfl
theorem zero_le : Dyn.RVLe zeroRV (.tup [dvS (toSh noS), dvB false]) := ⟨⟨rfl, rfl, rfl, rfl, rfl, rfl, rfl, rfl, nilR_le, ⟨rfl, fun i hi => absurd hi (Nat.not_lt_zero _)⟩, trivial⟩, rfl, trivial⟩
theorem move_ok (x : Sh) (h : PdS x) (t : Tn) : Dyn.CallD Try.prog 20 [dvS x, dvT t] (.tup [dvS (moveE x t), dvB (movesE x t)]) :=
  Dyn.dcontract (lp := Dyn.noLp) (fuel := 3) tabAq_ok mo Try.func20 (by kernel_rfl) (c := bodyD Try.f20.body) (by kernel_rfl) (fun w0 => Dyn.noLp_ok _ w0) (by kernel_rfl) (apq_O x t) (by
    unfold moveE movesE
    refine ⟨⟨h, ctrSelf_ok _, trivial⟩, fun h1 => ?_, fun h1 => ⟨⟨h, ctrSelf_ok _, trivial⟩, ⟨turnE_PdS h t, ctrSelf_ok _, trivial⟩, fun h2 => ?_, fun h2 => ?_⟩⟩
    · rw [show okE x = false by simpa using h1]; exact zero_le
    · rw [show okE x = true by simpa using h1, show okE (turnE x t) = false by simpa using h2]; exact zero_le
    · rw [show okE x = true by simpa using h1, show okE (turnE x t) = true by simpa using h2]; exact ⟨Dyn.DVLe.refl _, rfl, trivial⟩)
/-- a turn that does not move far -/
def tameT (t : Tn) (n : Int) : Tn := ⟨t.mx, t.my, t.q, lClose t.u n⟩
theorem tameT_ok (t : Tn) (n : Int) (hn : W (n + 1) ≠ 0) : CallOk Try.prog 16 [tn t, vi n] (tn (tameT t n)) := fnOkS (fuel := 16) (tbOf_ok tbF_ok) mo Try.func16 (by kernel_rfl) (by kernel_rfl) (by kernel_rfl) (show _ = [W (n + 1) ≠ 0] by kernel_rfl) ⟨hn, trivial⟩
end Go.Proofs.Ytfooaikpcbnchaa

/-! ## Roe -/
namespace Go.Proofs.Ytfooaikpcbnchaa
open Go Go.ChangeShapes Go.WideShapes Go.ChangeAt Go.RowKit Go.Joins Go.Deep
set_option maxRecDepth 100000

section
variable {H : Type} {enc : TypeId × Value → H} {P : Program} {w : World} {base : Nat} {spare : Nat → Bool} {held : Bool}
theorem ctr_den {fuel : Nat} {x : DataW H × List MemPlace} {t e2 e : TypeId} {f0 f1 : Field} {v : Value} (ht : P.underlying t = some (.slice e2)) (hc2 : P.cellsOf e2 = 1) (ht2 : P.underlying e2 = some (.slice e)) (he : P.underlying e = some (.struct #[f0, f1]))
    (ce : P.cellsOf e = 2) (o0 : f0.offset = 0) (o1 : f1.offset = 1) (c0 : P.cellsOf f0.type = 1) (c1 : P.cellsOf f1.type = 1) (k0 : P.underlying f0.type = some (.int .i64)) (k1 : P.underlying f1.type = some (.int .i64))
    (hf : DataW.trod enc P w base spare held fuel t [v] = some x) : ∃ l : Ctr, Dyn.DenC w (fun b => b < w.heap.size) (cCtr l) v := by
  rcases open_slice1 ht hc2 hf with ⟨h, _⟩ | ⟨a', len', cap', m, n, V, D, Pl, h, hb, hl, hcap, hm, hx, hall⟩
  · simp only [List.cons.injEq, and_true] at h
    rw [h]
    exact ⟨⟨0, fun _ => 0, fun _ _ => ⟨0, 0⟩⟩, .nil _ none 0⟩
  · simp only [List.cons.injEq, and_true] at h
    rw [h]
    have hlm : len' ≤ m := by rw [hm]; split <;> omega
    by_cases hz : len' = 0
    · subst hz
      exact ⟨⟨0, fun _ => 0, fun _ _ => ⟨0, 0⟩⟩, .nil _ (some a') cap'⟩
    · have h0 := (hall 0 (by omega)).1
      obtain ⟨hlt, hsp⟩ := addr_cell h0
      have hsp := hsp rfl
      obtain ⟨b, off, sp⟩ := a'
      dsimp only at hsp
      subst hsp
      simp only [addr_add] at hall hlt
      haveI : Inhabited (Nat × (Nat → P2)) := ⟨0, fun _ => ⟨0, 0⟩⟩
      obtain ⟨g, hg⟩ := choose_lt (α := Nat × (Nat → P2)) (n := len') (p := fun i q => Dyn.DenC w (fun b => b < w.heap.size) (cRow q.1 q.2) (V i)) (fun i hi => by
        obtain ⟨q, p, hq⟩ := row_P ht2 he ce o0 o1 c0 c1 k0 k1 (hall i (by omega)).2
        exact ⟨(q, p), hq⟩)
      refine ⟨⟨len', fun i => (g i).1, fun i => (g i).2⟩, .row len' _ b off cap' 1 (fun i _ => V i) hl hlt (fun i hi => ⟨rfl, fun j hj => ?_⟩) (fun i j hi hj => ?_)⟩
      · obtain rfl : j = 0 := by omega
        rw [Nat.mul_one, Nat.add_zero]; exact (hall i (by omega)).1
      · obtain rfl : j = 0 := by omega
        exact hg i hi
theorem pt_den {F : Nat → Prop} {fuel : Nat} {x : DataW H × List MemPlace} {t : TypeId} {f0 f1 : Field} {u v : Value} (ht : P.underlying t = some (.struct #[f0, f1])) (o0 : f0.offset = 0) (o1 : f1.offset = 1) (c0 : P.cellsOf f0.type = 1) (c1 : P.cellsOf f1.type = 1) (k0 : P.underlying f0.type = some (.int .i64)) (k1 : P.underlying f1.type = some (.int .i64))
    (hf : DataW.trod enc P w base spare held fuel t [u, v] = some x) : ∃ p : P2, u = vi p.x ∧ v = vi p.y ∧ Dyn.DenC w F (cI p.x) u ∧ Dyn.DenC w F (cI p.y) v := by
  obtain ⟨y0, y1, n, _, _, h0, h1⟩ := trod_struct2 ht hf
  rw [o0, c0] at h0
  rw [o1, c1] at h1
  obtain ⟨x0, e0, _⟩ := DataW.trod_int k0 h0
  obtain ⟨x1, e1, _⟩ := DataW.trod_int k1 h1
  simp only [List.drop_zero, List.take_succ_cons, List.take_zero, List.cons.injEq, and_true, List.drop_succ_cons] at e0 e1
  subst e0; subst e1
  exact ⟨⟨x0, x1⟩, rfl, rfl, .p _ rfl, .p _ rfl⟩
theorem DenL_get {F : Nat → Prop} : ∀ {ds : List Dyn.DC} {us : List Value} {j : Nat}, Dyn.DenL w F ds us → j < us.length → Dyn.DenC w F (ds.getD j default) (us.getD j default)
  | [], [], _, _, h => absurd h (Nat.not_lt_zero _)
  | d :: ds, u :: us, 0, h, _ => h.1
  | d :: ds, u :: us, j + 1, h, hj => DenL_get (ds := ds) (us := us) (j := j) h.2 (Nat.lt_of_succ_lt_succ hj)
/-- what the types of a shape are -/
structure ShT (P : Program) (tS tK tP tR tL tL1 tQ tE tB tI : TypeId) : Prop where
  s : ∃ f0 f1 f2 f3 f4 f5 f6 : Field, P.underlying tS = some (.struct #[f0, f1, f2, f3, f4, f5, f6]) ∧ (f0.type = tK ∧ f1.type = tP ∧ f2.type = tP ∧ f3.type = tP ∧ f4.type = tR ∧ f5.type = tL ∧ f6.type = tQ) ∧ f0.offset = 0 ∧ f1.offset = 1 ∧ f2.offset = 3 ∧ f3.offset = 5 ∧ f4.offset = 7 ∧ f5.offset = 8 ∧ f6.offset = 9
  sc : P.cellsOf tS = 10
  kc : P.cellsOf tK = 1
  pc : P.cellsOf tP = 2
  rc : P.cellsOf tR = 1
  lc : P.cellsOf tL = 1
  qc : P.cellsOf tQ = 1
  k : P.underlying tK = some (.int .i64)
  r : P.underlying tR = some (.int .i64)
  p : ∃ g0 g1 : Field, P.underlying tP = some (.struct #[g0, g1]) ∧ g0.offset = 0 ∧ g1.offset = 1 ∧ g0.type = tI ∧ g1.type = tI
  ic : P.cellsOf tI = 1
  i : P.underlying tI = some (.int .i64)
  l : P.underlying tL = some (.slice tL1)
  l1c : P.cellsOf tL1 = 1
  l1 : P.underlying tL1 = some (.slice tP)
  q : P.underlying tQ = some (.slice tE)
  ec : P.cellsOf tE = 11
  e : ∃ h0 h1 : Field, P.underlying tE = some (.struct #[h0, h1]) ∧ h0.offset = 0 ∧ h1.offset = 1 ∧ h0.type = tB ∧ h1.type = tS
  bc : P.cellsOf tB = 1
  b : P.underlying tB = some .bool
theorem shape_den {tS tK tP tR tL tL1 tQ tE tB tI : TypeId} (T : ShT P tS tK tP tR tL tL1 tQ tE tB tI) : ∀ (fuel : Nat) (cs : List Value) (x : DataW H × List MemPlace), DataW.trod enc P w base spare held fuel tS cs = some x →
    ∃ s : Shp, ShW s ∧ Dyn.DenL w (fun b => b < w.heap.size) (cS (toSh s)) cs := by
  intro fuel
  induction fuel using Nat.strongRecOn with
  | _ fuel ih =>
    intro cs x hx
    obtain ⟨f0, f1, f2, f3, f4, f5, f6, hs, ⟨t0, t1, t2, t3, t4, t5, t6⟩, o0, o1, o2, o3, o4, o5, o6⟩ := T.s
    obtain ⟨g0, g1, hp, p0, p1, q0, q1⟩ := T.p
    obtain ⟨h0, h1, he, a0, a1, b0, b1⟩ := T.e
    obtain ⟨xs, n, rfl, _, hl, hlen, hf⟩ := DataW.trod_struct hs hx
    rw [T.sc] at hl
    obtain ⟨v0, v1, v2, v3, v4, v5, v6, v7, v8, v9, rfl⟩ : ∃ v0 v1 v2 v3 v4 v5 v6 v7 v8 v9 : Value, cs = [v0, v1, v2, v3, v4, v5, v6, v7, v8, v9] := by
      match cs, hl with
      | [v0, v1, v2, v3, v4, v5, v6, v7, v8, v9], _ => exact ⟨v0, v1, v2, v3, v4, v5, v6, v7, v8, v9, rfl⟩
    have hxl : xs.length = 7 := hlen
    have get : ∀ i, i < 7 → ∃ y, xs[i]? = some y := fun i hi => ⟨xs[i], List.getElem?_eq_getElem (by omega)⟩
    obtain ⟨y0, e0⟩ := get 0 (by decide)
    obtain ⟨y1, e1⟩ := get 1 (by decide)
    obtain ⟨y2, e2⟩ := get 2 (by decide)
    obtain ⟨y3, e3⟩ := get 3 (by decide)
    obtain ⟨y4, e4⟩ := get 4 (by decide)
    obtain ⟨y5, e5⟩ := get 5 (by decide)
    obtain ⟨y6, e6⟩ := get 6 (by decide)
    have k0 := hf 0 f0 rfl
    have k1 := hf 1 f1 rfl
    have k2 := hf 2 f2 rfl
    have k3 := hf 3 f3 rfl
    have k4 := hf 4 f4 rfl
    have k5 := hf 5 f5 rfl
    have k6 := hf 6 f6 rfl
    rw [e0, t0, o0, T.kc] at k0
    rw [e1, t1, o1, T.pc] at k1
    rw [e2, t2, o2, T.pc] at k2
    rw [e3, t3, o3, T.pc] at k3
    rw [e4, t4, o4, T.rc] at k4
    rw [e5, t5, o5, T.lc] at k5
    rw [e6, t6, o6, T.qc] at k6
    simp only [List.drop_zero, List.take_succ_cons, List.take_zero, List.drop_succ_cons] at k0 k1 k2 k3 k4 k5 k6
    obtain ⟨z0, r0, _⟩ := DataW.trod_int T.k k0
    obtain ⟨z4, r4, _⟩ := DataW.trod_int T.r k4
    simp only [List.cons.injEq, and_true] at r0 r4
    subst r0; subst r4
    obtain ⟨pa, _, _, a1', a2'⟩ := pt_den (F := fun b => b < w.heap.size) hp p0 p1 (by rw [q0]; exact T.ic) (by rw [q1]; exact T.ic) (by rw [q0]; exact T.i) (by rw [q1]; exact T.i) k1
    obtain ⟨pb, _, _, b1', b2'⟩ := pt_den (F := fun b => b < w.heap.size) hp p0 p1 (by rw [q0]; exact T.ic) (by rw [q1]; exact T.ic) (by rw [q0]; exact T.i) (by rw [q1]; exact T.i) k2
    obtain ⟨pc, _, _, c1', c2'⟩ := pt_den (F := fun b => b < w.heap.size) hp p0 p1 (by rw [q0]; exact T.ic) (by rw [q1]; exact T.ic) (by rw [q0]; exact T.i) (by rw [q1]; exact T.i) k3
    obtain ⟨l, hL⟩ := ctr_den T.l T.l1c T.l1 hp T.pc p0 p1 (by rw [q0]; exact T.ic) (by rw [q1]; exact T.ic) (by rw [q0]; exact T.i) (by rw [q1]; exact T.i) k5
    have parts : ∃ (m : Nat) (add : Nat → Bool) (sub : Nat → Shp), (∀ i, i < m → ShW (sub i)) ∧ Dyn.DenC w (fun b => b < w.heap.size) (.row m fun i => partC (add i) (toSh (sub i))) v9 := by
      rcases DataW.trod_slice T.q k6 with ⟨hv, _⟩ | ⟨a, len, cap, elems, rest, m, rfl, hv, _, hb, hle, _, hel, hall, _⟩
      · simp only [List.cons.injEq, and_true] at hv
        subst hv
        exact ⟨0, fun _ => false, fun _ => .nil, fun i hi => absurd hi (Nat.not_lt_zero i), .nil _ none 0⟩
      · simp only [List.cons.injEq, and_true] at hv
        subst hv
        have part : ∀ i, i < len → ∃ q : (Bool × Shp) × (Nat → Value), ShW q.1.2 ∧ (∀ j, j < 11 → w.cell? ((a.add (i * 11)).add j) = some (q.2 j)) ∧ (∀ j, j < 11 → Dyn.DenC w (fun b => b < w.heap.size) ((partC q.1.1 (toSh q.1.2)).getD j default) (q.2 j)) := fun i hi => by
          have key := hall i hi
          rw [T.ec, List.getElem?_eq_getElem (by omega)] at key
          obtain ⟨cs', h1', h2'⟩ := Option.bind_eq_some_iff.1 key
          obtain ⟨_, hlen', hcell⟩ := World.cells?_some h1'
          obtain ⟨ys, n', rfl, _, _, hyl, hfy⟩ := DataW.trod_struct he h2'
          have hyl : ys.length = 2 := hyl
          have m0 := hfy 0 h0 rfl
          have m1 := hfy 1 h1 rfl
          rw [List.getElem?_eq_getElem (by omega), b0, a0, T.bc] at m0
          rw [List.getElem?_eq_getElem (by omega), b1, a1, T.sc] at m1
          obtain ⟨c, cs'', rfl⟩ : ∃ c cs'', cs' = c :: cs'' := by
            match cs', hlen' with
            | c :: cs'', _ => exact ⟨c, cs'', rfl⟩
          simp only [List.drop_zero, List.take_succ_cons, List.take_zero, List.drop_succ_cons] at m0 m1
          rw [List.take_of_length_le (by simp only [List.length_cons] at hlen'; omega)] at m1
          obtain ⟨q, hq, _⟩ := DataW.trod_bool T.b m0
          simp only [List.cons.injEq, and_true] at hq
          subst hq
          obtain ⟨s', hW', hD'⟩ := ih n' (by omega) _ _ m1
          refine ⟨((q, s'), fun j => ((.bool q : Value) :: cs'').getD j default), hW', fun j hj => ?_, fun j hj => ?_⟩
          · rw [hcell j hj]
            show _ = some ((Value.bool q :: cs'').getD j default)
            rw [List.getD_eq_getElem?_getD, List.getElem?_eq_getElem (by omega)]; rfl
          · exact DenL_get (ds := partC q (toSh s')) (us := .bool q :: cs'') ⟨.p _ rfl, hD'⟩ (by omega)
        by_cases hz : len = 0
        · subst hz
          exact ⟨0, fun _ => false, fun _ => .nil, fun i hi => absurd hi (Nat.not_lt_zero i), .nil _ (some a) cap⟩
        · haveI : Inhabited ((Bool × Shp) × (Nat → Value)) := ⟨((false, .nil), fun _ => default)⟩
          obtain ⟨g, hg⟩ := choose_lt part
          have z0 := (hg 0 (by omega)).2.1 0 (by decide)
          have za : (a.add (0 * 11)).add 0 = a.add 0 := rfl
          rw [za] at z0
          obtain ⟨hlt, hsp⟩ := addr_cell z0
          have hsp := hsp rfl
          obtain ⟨b, off, sp⟩ := a
          dsimp only at hsp
          subst hsp
          simp only [addr_add] at hg hlt
          exact ⟨len, fun i => (g i).1.1, fun i => (g i).1.2, fun i hi => (hg i hi).1, .row len _ b off cap 11 (fun i j => (g i).2 j) hle hlt (fun i hi => ⟨rfl, fun j hj => (hg i hi).2.1 j hj⟩) (fun i j hi hj => (hg i hi).2.2 j hj)⟩
    obtain ⟨m, add, sub, hW, hQ⟩ := parts
    exact ⟨.mk z0 pa pb pc z4 l m add sub, hW, .p _ rfl, a1', a2', b1', b2', c1', c2', .p _ rfl, hL, hQ, trivial⟩
theorem open_S {tS tK tP tR tL tL1 tQ tE tB tI : TypeId} (T : ShT P tS tK tP tR tL tL1 tQ tE tB tI) {r : Reach} {b0 : Nat} {v : Value} {d : DataW H} {ps : List MemPlace} (hval : Value.okWide P w r b0 tS v) (hd : DataW.Trod enc P w base spare held tS v d ps) :
    ∃ s : Shp, ShW s ∧ Dyn.DenV w (fun b => b < w.heap.size) (dvS (toSh s)) v := by
  obtain ⟨f0, f1, f2, f3, f4, f5, f6, hs, _⟩ := T.s
  obtain ⟨cs, rfl, _⟩ := okWide_struct hs hval
  obtain ⟨fuel, hf⟩ := hd
  obtain ⟨s, h1, h2⟩ := shape_den T fuel _ _ hf
  exact ⟨s, h1, ⟨cs, rfl, h2⟩⟩
/-- a turn -/
theorem open_T {tT : TypeId} {f0 f1 f2 f3 g0 g1 : Field} (hs : P.underlying tT = some (.struct #[f0, f1, f2, f3])) (hC : P.cellsOf tT = 5) (ho : f0.offset = 0 ∧ f1.offset = 1 ∧ f2.offset = 2 ∧ f3.offset = 3) (hc : P.cellsOf f0.type = 1 ∧ P.cellsOf f1.type = 1 ∧ P.cellsOf f2.type = 1 ∧ P.cellsOf f3.type = 2)
    (u0 : P.underlying f0.type = some .bool) (u1 : P.underlying f1.type = some .bool) (u2 : P.underlying f2.type = some (.int .i64)) (hp : P.underlying f3.type = some (.struct #[g0, g1])) (p0 : g0.offset = 0) (p1 : g1.offset = 1) (c0 : P.cellsOf g0.type = 1) (c1 : P.cellsOf g1.type = 1)
    (k0 : P.underlying g0.type = some (.int .i64)) (k1 : P.underlying g1.type = some (.int .i64)) {r : Reach} {b0 : Nat} {v : Value} {d : DataW H} {ps : List MemPlace} (hval : Value.okWide P w r b0 tT v) (hd : DataW.Trod enc P w base spare held tT v d ps) : ∃ t : Tn, v = tn t := by
  obtain ⟨cs, rfl, hsz⟩ := okWide_struct hs hval
  obtain ⟨fuel, hf⟩ := hd
  obtain ⟨y0, y1, y2, y3, n, _, _, h0, h1, h2, h3⟩ := trod_struct4 hs hf
  rw [hC] at hsz
  obtain ⟨l⟩ := cs
  obtain ⟨v0, v1, v2, v3, v4, rfl⟩ : ∃ v0 v1 v2 v3 v4 : Value, l = [v0, v1, v2, v3, v4] := by
    match l, hsz with
    | [v0, v1, v2, v3, v4], _ => exact ⟨v0, v1, v2, v3, v4, rfl⟩
  simp only [Value.cells] at h0 h1 h2 h3
  rw [ho.1, hc.1] at h0
  rw [ho.2.1, hc.2.1] at h1
  rw [ho.2.2.1, hc.2.2.1] at h2
  rw [ho.2.2.2, hc.2.2.2] at h3
  simp only [List.drop_zero, List.take_succ_cons, List.take_zero, List.drop_succ_cons] at h0 h1 h2 h3
  obtain ⟨q0, e0, _⟩ := DataW.trod_bool u0 h0
  obtain ⟨q1, e1, _⟩ := DataW.trod_bool u1 h1
  obtain ⟨q2, e2, _⟩ := DataW.trod_int u2 h2
  obtain ⟨p, r1, r2, _, _⟩ := pt_den (F := fun _ => True) hp p0 p1 c0 c1 k0 k1 h3
  simp only [List.cons.injEq, and_true] at e0 e1 e2
  subst e0; subst e1; subst e2; subst r1; subst r2
  exact ⟨⟨q0, q1, q2, p⟩, rfl⟩
end
theorem den_T (t : Tn) (w : World) (F : Nat → Prop) : Dyn.DenV w F (dvT t) (tn t) := ⟨_, rfl, .p _ rfl, .p _ rfl, .p _ rfl, .p _ rfl, .p _ rfl, trivial⟩
theorem shT : ShT Try.prog 29 3 23 2 26 78 27 45 4 2 where
  s := ⟨_, _, _, _, _, _, _, Try.underlying29, ⟨rfl, rfl, rfl, rfl, rfl, rfl, rfl⟩, rfl, rfl, rfl, rfl, rfl, rfl, rfl⟩
  sc := by kernel_rfl
  kc := by kernel_rfl
  pc := by kernel_rfl
  rc := by kernel_rfl
  lc := by kernel_rfl
  qc := by kernel_rfl
  k := Try.underlying3
  r := Try.underlying2
  p := ⟨_, _, Try.underlying23, rfl, rfl, rfl, rfl⟩
  ic := by kernel_rfl
  i := Try.underlying2
  l := Try.underlying26
  l1c := by kernel_rfl
  l1 := Try.underlying78
  q := Try.underlying27
  ec := by kernel_rfl
  e := ⟨_, _, Try.underlying45, rfl, rfl, rfl, rfl⟩
  bc := by kernel_rfl
  b := Try.underlying4
end Go.Proofs.Ytfooaikpcbnchaa

/-! ## DynW -/
namespace Go.Proofs.Ytfooaikpcbnchaa.Dyn
open Go Go.RowKit Sym

/-- the arguments' slots, and what they show: it is only read -/
def initRA : Nat → List DV → List SV × List (Option HE)
  | _, [] => ([], [])
  | n, v :: vs => match flatD (cellsV v) with
    | true => let r := initRA n vs; (.v (instV 0 0 v) :: r.1, r.2)
    | false => let r := initRA (n + 1) vs; (.v (instV n 0 v) :: r.1, some (.raw (cellsV v)) :: r.2)
def initSR (fn : Func) (args : List DV) : St := { slots := (initRA 0 args).1 ++ List.replicate (fn.ntmps - args.length) .junk, heap := (initRA 0 args).2 }
def rfun (P : Program) (X : Tabs) (lp : Lp) (fuel : Nat) (fn : Func) (args : List DV) : Out :=
  match fn.body with
  | some c => lexec P X lp fuel c .leaf (initSR fn args)
  | none => .fail
section
variable {P : Program} {X : Tabs} {lp : Lp} {w0 : Base P} {w : World} {β : Env} {s : St} {a : Act}
theorem Mem.pushR {h : List (Option HE)} (m : Mem w0 β h w) {ds : List DC} {us : List Value} (hd : DenL w w0.R ds us) (hp : pOk ds = true) (hf : flatD ds = false) :
    ∃ β', (∀ n c, h.getD n none = some c → β' n = β n) ∧ Mem w0 β' (h ++ [some (.raw ds)]) w ∧ (instC h.length 0 ds).map (ren0 β') = us ∧ ∀ y ∈ instC h.length 0 ds, ∀ k ∈ refs0 y, ∃ c, (h ++ [some (HE.raw ds)]).getD k none = some c := by
  have hg : ∀ n, (h ++ [none]).getD n none = h.getD n none := fun n => by
    simp only [List.getD_eq_getElem?_getD, List.getElem?_append]
    split
    · rfl
    · rename_i hn
      rw [List.getElem?_eq_none (Nat.le_of_not_lt hn)]
      cases n - h.length with
      | zero => rfl
      | succ q => rfl
  have m0 : Mem w0 β (h ++ [none]) w := m.read hg rfl rfl rfl rfl
  obtain ⟨β', b1, b2, b3, b4, _⟩ := inst_memR m0 (fresh := h.length) (fun _ => ⟨by simp, by simp⟩) hd hp
  have e : heapSet (h ++ [none]) (updK true h.length ds) = h ++ [some (HE.raw ds)] := by
    unfold updK; rw [hf]; simp [heapSet]
  rw [e] at b2 b4
  exact ⟨β', fun n c hc => b1 n c ((hg n).trans hc), b2, b3 0 rfl, b4⟩

theorem init_argsR : ∀ (args : List DV) (us : List Value) (h : List (Option HE)) (β : Env), Mem w0 β h w → pOks args = true → DenVs w w0.R args us →
    ∃ β', (∀ n c, h.getD n none = some c → β' n = β n) ∧ Mem w0 β' (h ++ (initRA h.length args).2) w ∧ (initRA h.length args).1.length = us.length ∧ (∀ i u, us[i]? = some u → Den β' [] ((initRA h.length args).1.getD i .junk) u) ∧ (∀ i n, n ∈ names ((initRA h.length args).1.getD i .junk) → ∃ c, (h ++ (initRA h.length args).2).getD n none = some c) ∧ ∀ x ∈ (initRA h.length args).1, isG x = false
  | [], [], h, β, m, _, _ => ⟨β, fun _ _ _ => rfl, by simpa [initRA] using m, rfl, fun i u hu => by simp at hu, fun i n hn => by simp [initRA, names] at hn, fun x hx => by cases hx⟩
  | [], _ :: _, _, _, _, _, k => k.elim
  | _ :: _, [], _, _, _, _, k => k.elim
  | v :: vs, u :: us, h, β, m, hp, k => by
    simp only [pOks] at hp
    split at hp
    · rename_i hpv
      have hv : DenR w w0.R (.val v) u := k.1
      obtain ⟨ws, hd, hk⟩ := DenR_cells hv
      cases hfl : flatD (cellsV v) with
      | true =>
        obtain ⟨β', i1, i2, i3, i4, i5, i6⟩ := init_argsR vs us h β m hp k.2
        have e : initRA h.length (v :: vs) = (.v (instV 0 0 v) :: (initRA h.length vs).1, (initRA h.length vs).2) := by simp only [initRA]; rw [hfl]
        rw [e]
        have hx : ∀ β, ren β (instV 0 0 v) = u := fun β => (hk 0 β (inst_flat _ _ 0 hd hpv hfl)).1
        have hr : ∀ n, n ∉ refs (instV 0 0 v) := fun n hn => by
          obtain ⟨y, y1, y2⟩ := (hk 0 β (inst_flat _ _ 0 hd hpv hfl)).2 n hn
          have := (inst_refs _ 0 hpv y y1 n y2).2
          have h2 : flatD (cellsR (.val v)) = false := this
          simp only [cellsR] at h2; rw [hfl] at h2; cases h2
        refine ⟨β', i1, i2, by simp [i3], fun i z hz => ?_, fun i n hn => ?_, fun x hx' => ?_⟩
        · cases i with
          | zero => simp only [List.getElem?_cons_zero, Option.some.injEq] at hz; subst hz; exact (hx β').symm
          | succ i => exact i4 i z (by simpa using hz)
        · cases i with
          | zero => exact absurd hn (hr n)
          | succ i => exact i5 i n (by simpa using hn)
        · rcases List.mem_cons.1 hx' with rfl | hx'
          · rfl
          · exact i6 x hx'
      | false =>
        obtain ⟨β1, j1, j2, j3, j4⟩ := m.pushR (ds := cellsV v) (us := ws) hd hpv hfl
        have hlen : (h ++ [some (HE.raw (cellsV v))]).length = h.length + 1 := by simp
        obtain ⟨β', i1, i2, i3, i4, i5, i6⟩ := init_argsR vs us _ β1 j2 hp k.2
        rw [hlen] at i2 i3 i4 i5 i6
        have e : initRA h.length (v :: vs) = (.v (instV h.length 0 v) :: (initRA (h.length + 1) vs).1, some (.raw (cellsV v)) :: (initRA (h.length + 1) vs).2) := by simp only [initRA]; rw [hfl]
        rw [e]
        have eh : h ++ (some (HE.raw (cellsV v)) :: (initRA (h.length + 1) vs).2) = (h ++ [some (HE.raw (cellsV v))]) ++ (initRA (h.length + 1) vs).2 := by simp
        dsimp only
        rw [eh]
        obtain ⟨x1, x2⟩ := hk h.length β1 j3
        have hold : ∀ n c, h.getD n none = some c → (h ++ [some (HE.raw (cellsV v))]).getD n none = some c := fun n c hn => by
          have hlt : n < h.length := by
            rcases Nat.lt_or_ge n h.length with z | z
            · exact z
            · rw [List.getD_eq_getElem?_getD, List.getElem?_eq_none z] at hn; cases hn
          rw [List.getD_eq_getElem?_getD, List.getElem?_append_left hlt, ← List.getD_eq_getElem?_getD]; exact hn
        have hn1 : ∀ n ∈ refs (instV h.length 0 v), ∃ c, (h ++ [some (HE.raw (cellsV v))]).getD n none = some c := fun n hn => by
          obtain ⟨y, y1, y2⟩ := x2 n hn
          exact j4 y y1 n y2
        refine ⟨β', fun n c hn => (i1 n c (hold n c hn)).trans (j1 n c hn), i2, by simp [i3], fun i z hz => ?_, fun i n hn => ?_, fun x hx' => ?_⟩
        · cases i with
          | zero =>
            simp only [List.getElem?_cons_zero, Option.some.injEq] at hz; subst hz
            show u = ren β' (instV h.length 0 v)
            rw [ren_congr (β := β1) fun n hn => by obtain ⟨c, hc⟩ := hn1 n hn; exact i1 n c hc]
            exact x1.symm
          | succ i => exact i4 i z (by simpa using hz)
        · cases i with
          | zero =>
            obtain ⟨c, hc⟩ := hn1 n hn
            have hlt : n < (h ++ [some (HE.raw (cellsV v))]).length := by
              rcases Nat.lt_or_ge n (h ++ [some (HE.raw (cellsV v))]).length with z | z
              · exact z
              · rw [List.getD_eq_getElem?_getD, List.getElem?_eq_none z] at hc; cases hc
            exact ⟨c, by rw [List.getD_eq_getElem?_getD, List.getElem?_append_left hlt, ← List.getD_eq_getElem?_getD]; exact hc⟩
          | succ i => exact i5 i n (by simpa using hn)
        · rcases List.mem_cons.1 hx' with rfl | hx'
          · rfl
          · exact i6 x hx'
    · cases hp

/-- THE CONTRACT OF A FUNCTION, over what its arguments show. -/
theorem rcontract (ht : TabsOk P X) (hm : P.follows .mixedOrders = true) {K : Nat} {fn : Func} (hf : P.funcs[K]? = some fn) (hn : (fn.name == "runtime.NumGoroutine") = false) {c : Code} (hb : fn.body = some c) (hl : ∀ w0 : Base P, Dyn.LpOk P w0 lp (blocksL c)) {fuel : Nat} {args : List DV} {r : RV} {O : RO}
    (hp : pOks args = true) (hO : (rfun P X lp fuel fn args).ro P fn.results = O) (hs : O.sat fun r' => RVLe r' r) : CallR P K args r := by
  intro w F us hF hden
  have hrun : (callFunc K us.toArray).run P w = .ok (.enter K us.toArray) w := by
    unfold callFunc
    simp only [Sem.run_bind, run_program, Result.andThen_ok, hf, hn, hb]
    simp
  rw [hrun]
  refine ⟨rfl, ?_⟩
  let w0 : Base P := ⟨w, fun _ => False, fun _ h => h.elim, [], (fun _ h => by cases h), fun _ h => h.elim, F, fun b hb => ⟨hF b hb, by simp⟩⟩
  have m0 : Mem w0 (fun _ => (0, fun _ => .bool false)) [] w := ⟨fun n he hn => by simp at hn, fun n k c d b hn => by simp at hn, fun n t cs hn => by simp at hn, fun _ _ => rfl, ⟨rfl, rfl, rfl, Nat.le_refl _, fun _ _ _ => rfl⟩, fun n v i hn => by simp at hn⟩
  obtain ⟨β, _, i2, i3, i4, i5, i6⟩ := init_argsR (w0 := w0) args us [] _ m0 hp hden
  simp only [List.length_nil, List.nil_append] at i2 i3 i4 i5 i6
  have hlen : us.length = args.length := by
    have : ∀ (ds : List DV) (us : List Value), DenVs w F ds us → us.length = ds.length := by
      intro ds
      induction ds with
      | nil => intro us h; cases us with
        | nil => rfl
        | cons _ _ => exact h.elim
      | cons d ds ih => intro us h; cases us with
        | nil => exact h.elim
        | cons u us => simp only [List.length_cons]; rw [ih us h.2]
    exact this args us hden
  have m : M w0 β (initSR fn args) { tmps := us.toArray ++ Array.replicate (fn.ntmps - us.toArray.size) undef, defers := [] } w := by
    refine { defers := rfl, size := by simp [initSR, i3, hlen], slot := fun i u hu => ?_, locs := fun i n hn => ?_, mem := i2, tie := fun p hp => by cases hp }
    · by_cases hi : i < us.length
      · have e2 : (us.toArray ++ Array.replicate (fn.ntmps - us.toArray.size) undef)[i]? = us[i]? := by
          rw [Array.getElem?_append_left (by simpa using hi)]; simp
        rw [e2] at hu
        have e1 : (initSR fn args).slots.getD i .junk = (initRA 0 args).1.getD i .junk := by
          simp only [initSR, List.getD_eq_getElem?_getD]
          rw [List.getElem?_append_left (by rw [i3]; exact hi)]
        rw [e1]
        exact Den_congr (fun _ _ => rfl) (fun c hc => by
          have hg : isG ((initRA 0 args).1.getD i .junk) = false := by
            rw [List.getD_eq_getElem?_getD, List.getElem?_eq_getElem (by rw [i3]; exact hi)]
            exact i6 _ (List.getElem_mem _)
          rw [isG_conds hg] at hc; cases hc) (i4 i u hu)
      · have e1 : (initSR fn args).slots.getD i .junk = .junk := by
          simp only [initSR, List.getD_eq_getElem?_getD]
          rw [List.getElem?_append_right (by rw [i3]; omega), List.getElem?_replicate]
          split <;> rfl
        rw [e1]; trivial
    · by_cases hi : i < us.length
      · have e1 : (initSR fn args).slots.getD i .junk = (initRA 0 args).1.getD i .junk := by
          simp only [initSR, List.getD_eq_getElem?_getD]
          rw [List.getElem?_append_left (by rw [i3]; exact hi)]
        rw [e1] at hn
        exact i5 i n hn
      · have e1 : (initSR fn args).slots.getD i .junk = .junk := by
          simp only [initSR, List.getD_eq_getElem?_getD]
          rw [List.getElem?_append_right (by rw [i3]; omega), List.getElem?_replicate]
          split <;> rfl
        rw [e1] at hn; cases hn
  have ng : NoG (initSR fn args) := by
    intro x hx
    rcases List.mem_append.1 hx with hx | hx
    · exact i6 x hx
    · rw [(List.mem_replicate.1 hx).2]; rfl
  have hsat := ro_sat (hO ▸ hs)
  unfold rfun at hsat
  rw [hb] at hsat
  refine calls_of_wp hf hb ?_
  refine lexec_sound ht hm c (hl w0) .leaf _ _ _ w _ m ng hsat fun e s β a w' m' _ hl => ?_
  obtain ⟨he, r', hr, hq⟩ := hl
  obtain ⟨u, hu1, hu2⟩ := results_runD m' hr
  have hpost : a.defers = [] ∧ ∃ v', (results fn a.tmps).run P w' = .ok v' w' ∧ ∃ u, Ending.returned v' = .returned u ∧ DenR w' (fun b => w.heap.size ≤ b ∧ b < w'.heap.size ∧ PlainB w' b) r u ∧ Below w.heap.size w w' :=
    ⟨m'.defers, u, hu1, u, rfl, DenR_le hq (hu2.mono fun b hb => ⟨hb.resolve_left fun h => h, rfl⟩), ⟨m'.mem.below.os, m'.mem.below.tape, m'.mem.below.output, m'.mem.below.size, fun k hk => m'.mem.below.block k hk (fun h => by cases h)⟩⟩
  rcases he with rfl | rfl <;> exact hpost

/-- what bears no depth lies nowhere -/
theorem flat_den {w : World} {F G : Nat → Prop} : ∀ {ds : List DC} {us : List Value}, flatD ds = true → DenL w F ds us → DenL w G ds us
  | [], [], _, _ => trivial
  | [], _ :: _, _, h => h.elim
  | _ :: _, [], _, h => h.elim
  | d :: ds, u :: us, hf, h => by
    cases d with
    | p x => exact ⟨by cases h.1; exact .p _ (by assumption), flat_den (ds := ds) hf h.2⟩
    | row n f => cases hf
    | ptr cs => cases hf
theorem flat_denV {w : World} {F G : Nat → Prop} {v : DV} {u : Value} (hf : flatD (cellsV v) = true) (h : DenV w F v u) : DenV w G v u := by
  cases v with
  | one d => exact (flat_den (ds := [d]) (us := [u]) hf ⟨h, trivial⟩).1
  | agg ds =>
    obtain ⟨us, e, k⟩ := h
    exact ⟨us, e, flat_den hf k⟩
def flatDs : List DV → Bool
  | [] => true
  | v :: vs => match flatD (cellsV v) with
    | true => flatDs vs
    | false => false
theorem flat_denVs {w : World} {F G : Nat → Prop} : ∀ {vs : List DV} {us : List Value}, flatDs vs = true → DenVs w F vs us → DenVs w G vs us
  | [], [], _, _ => trivial
  | [], _ :: _, _, h => h.elim
  | _ :: _, [], _, h => h.elim
  | v :: vs, u :: us, hf, h => by
    simp only [flatDs] at hf
    split at hf
    · rename_i h1
      exact ⟨flat_denV h1 h.1, flat_denVs hf h.2⟩
    · cases hf
/-- a call that is given nothing but plain values -/
theorem CallD.r {K : Nat} {args : List DV} {res : RV} (h : CallD P K args res) (hf : flatDs args = true) : CallR P K args res := fun w F us _ hd => by
  have k := h w (fun _ => False) us (fun _ h => h.elim) (flat_denVs hf hd)
  split at k
  · rename_i u w' e
    exact ⟨k.1.mono fun b hb => ⟨hb.resolve_left fun z => z, rfl⟩, k.2⟩
  · rename_i f az w' e
    obtain ⟨rfl, k⟩ := k
    exact ⟨rfl, k.mono fun e w'' he => by
      obtain ⟨u, e1, e2, e3⟩ := he
      exact ⟨u, e1, e2.mono fun b hb => ⟨hb.resolve_left fun z => z, rfl⟩, e3⟩⟩
  · exact k.elim
def EntryROk (P : Program) (e : EntryD) : Prop := ∀ args r ps, e.2 args = some (r, ps) → allP ps → CallR P e.1 args r
theorem trOf_ok : ∀ {es : List EntryD}, (∀ e ∈ es, EntryROk P e) → ∀ K args r ps, tdOf es K args = some (r, ps) → allP ps → CallR P K args r
  | [], _ => fun K args r ps h => by simp [tdOf] at h
  | e :: es, h => fun K args r ps hv => by
    simp only [tdOf] at hv
    cases hb : Nat.beq e.1 K with
    | true =>
      rw [hb] at hv
      have : e.1 = K := Nat.eq_of_beq_eq_true hb
      subst this
      exact h e (by simp) args r ps hv
    | false =>
      rw [hb] at hv
      exact trOf_ok (es := es) (fun x hx => h x (by simp [hx])) K args r ps hv
/-- the tables, with calls whose arguments may lie anywhere -/
def trT (X : Tabs) (ds : List EntryD) : Tabs := { tb := X.tb, td := X.td, tr := tdOf ds, dres := X.dres, dty := X.dty, pin := X.pin, tx := X.tx, dtmp := X.dtmp, ext := X.ext, pl := X.pl, nw := X.nw, sl := X.sl }
theorem trT_ok {X : Tabs} (h : TabsOk P X) {ds : List EntryD} (hd : ∀ e ∈ ds, EntryROk P e) : TabsOk P (trT X ds) := ⟨h.nw, h.pl, h.tb, h.tx, h.td, trOf_ok hd⟩
end
end Go.Proofs.Ytfooaikpcbnchaa.Dyn
