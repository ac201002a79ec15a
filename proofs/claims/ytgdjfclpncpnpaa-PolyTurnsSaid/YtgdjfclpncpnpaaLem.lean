/-
  OWN WORK. Within the bounds of the layers nothing wraps: what the functions reckon, as plain arithmetic.
-/
import Derived.Test.YtgdjfclpncpnpaaGeo
import Derived.Laws.Bits64
import Derived.Laws.BitsLemmas
namespace Go.Proofs.Ytgdjfclpncpnpaa
open Go Go.RowKit

theorem W_id {x : Int} (h1 : -9223372036854775808 ≤ x) (h2 : x ≤ 9223372036854775807) : W x = x := by
  unfold W; rw [IntKind.wrap_i64]; omega
theorem U_id {x : Int} (h1 : 0 ≤ x) (h2 : x ≤ 18446744073709551615) : U x = x := by
  unfold U; rw [IntKind.wrap_u64]; omega
theorem U_eq (x : Int) : U x = x % 18446744073709551616 := IntKind.wrap_u64 x
theorem W_eq (x : Int) : W x = (x + 9223372036854775808) % 18446744073709551616 - 9223372036854775808 := IntKind.wrap_i64 x
theorem orB_eq (a b : Bool) : orB a b = (a || b) := by cases a <;> rfl
theorem andB_eq (a b : Bool) : andB a b = (a && b) := by cases a <;> rfl
theorem bif_t {α : Type} (x y : α) : (bif true then x else y) = x := rfl
theorem bif_f {α : Type} (x y : α) : (bif false then x else y) = y := rfl
theorem imax_eq (x y : Int) : imax x y = max x y := by unfold imax; split <;> omega
theorem imin_eq (x y : Int) : imin x y = min x y := by unfold imin; split <;> omega

theorem mul_bd {A B x y : Int} (h1 : -A ≤ x) (h2 : x ≤ A) (h3 : -B ≤ y) (h4 : y ≤ B) : -(A*B) ≤ x*y ∧ x*y ≤ A*B := by
  have a := Int.mul_nonneg (show 0 ≤ A - x by omega) (show 0 ≤ B + y by omega)
  have b := Int.mul_nonneg (show 0 ≤ A + x by omega) (show 0 ≤ B - y by omega)
  have c := Int.mul_nonneg (show 0 ≤ A - x by omega) (show 0 ≤ B - y by omega)
  have d := Int.mul_nonneg (show 0 ≤ A + x by omega) (show 0 ≤ B + y by omega)
  constructor <;> grind
theorem sq_nn (x : Int) : 0 ≤ x * x := by
  rcases Int.le_total 0 x with h | h
  · exact Int.mul_nonneg h h
  · have := Int.mul_nonneg (show 0 ≤ -x by omega) (show 0 ≤ -x by omega)
    grind
theorem sq_bd {A x : Int} (h1 : -A ≤ x) (h2 : x ≤ A) : 0 ≤ x * x ∧ x * x ≤ A * A := ⟨sq_nn x, (mul_bd h1 h2 h1 h2).2⟩
/-- squares go by size -/
theorem sq_le {x y : Int} (h1 : -y ≤ x) (h2 : x ≤ y) : x * x ≤ y * y := (mul_bd h1 h2 h1 h2).2
theorem sq_lt {x y : Int} (h0 : 0 ≤ x) (h : x < y) : x * x < y * y := by
  have := Int.mul_nonneg (show 0 ≤ y - x - 1 by omega) (show 0 ≤ y + x by omega)
  grind

/-- a coordinate that may be, and some to spare -/
def In30 (v : Int) : Prop := -1073741823 ≤ v ∧ v ≤ 1073741823
structure PR (p : P2) : Prop where
  x : In30 p.x
  y : In30 p.y
structure BR (b : B4) : Prop where
  x0 : In30 b.x0
  y0 : In30 b.y0
  x1 : In30 b.x1
  y1 : In30 b.y1

def gapI (v lo hi : Int) : Int := if v < lo then lo - v else if v > hi then v - hi else 0
def reachI (v lo hi : Int) : Int := max (max (max (v - lo) (lo - v)) (v - hi)) (hi - v)
def nearI (b : B4) (p : P2) : Int := gapI p.x b.x0 b.x1 * gapI p.x b.x0 b.x1 + gapI p.y b.y0 b.y1 * gapI p.y b.y0 b.y1
def mostI (b : B4) (p : P2) : Int := reachI p.x b.x0 b.x1 * reachI p.x b.x0 b.x1 + reachI p.y b.y0 b.y1 * reachI p.y b.y0 b.y1
def crossI (o a b : P2) : Int := (a.x - o.x) * (b.y - o.y) - (a.y - o.y) * (b.x - o.x)
def dotI (o a b : P2) : Int := (a.x - o.x) * (b.x - o.x) + (a.y - o.y) * (b.y - o.y)
def distI (p q : P2) : Int := (p.x - q.x) * (p.x - q.x) + (p.y - q.y) * (p.y - q.y)
def hasI (b : B4) (p : P2) : Prop := b.x0 ≤ p.x ∧ p.x ≤ b.x1 ∧ b.y0 ≤ p.y ∧ p.y ≤ b.y1

theorem gap_eq {v lo hi : Int} (h1 : In30 v) (h2 : In30 lo) (h3 : In30 hi) : gap v lo hi = gapI v lo hi := by
  obtain ⟨a, b⟩ := h1; obtain ⟨c, d⟩ := h2; obtain ⟨e, f⟩ := h3
  unfold gap gapI
  by_cases k : v < lo
  · rw [decide_eq_true k, if_pos k, bif_t, W_id (by omega) (by omega)]
  · rw [decide_eq_false k, if_neg k, bif_f]
    by_cases k' : v > hi
    · rw [decide_eq_true k', if_pos k', bif_t, W_id (by omega) (by omega)]
    · rw [decide_eq_false k', if_neg k', bif_f]
theorem gapI_bd {v lo hi : Int} (h1 : In30 v) (h2 : In30 lo) (h3 : In30 hi) : 0 ≤ gapI v lo hi ∧ gapI v lo hi ≤ 2147483646 := by
  obtain ⟨a, b⟩ := h1; obtain ⟨c, d⟩ := h2; obtain ⟨e, f⟩ := h3
  unfold gapI; split
  · omega
  · split <;> omega
theorem reach_eq {v lo hi : Int} (h1 : In30 v) (h2 : In30 lo) (h3 : In30 hi) : reach v lo hi = reachI v lo hi := by
  obtain ⟨a, b⟩ := h1; obtain ⟨c, d⟩ := h2; obtain ⟨e, f⟩ := h3
  unfold reach reachI
  rw [W_id (x := v - lo) (by omega) (by omega), W_id (x := lo - v) (by omega) (by omega), W_id (x := v - hi) (by omega) (by omega), W_id (x := hi - v) (by omega) (by omega)]
  simp only [imax_eq]
theorem reachI_bd {v lo hi : Int} (h1 : In30 v) (h2 : In30 lo) (h3 : In30 hi) : 0 ≤ reachI v lo hi ∧ reachI v lo hi ≤ 2147483646 := by
  obtain ⟨a, b⟩ := h1; obtain ⟨c, d⟩ := h2; obtain ⟨e, f⟩ := h3
  unfold reachI; omega
theorem sum2 {x y : Int} (h1 : 0 ≤ x) (h2 : x ≤ 2147483646) (h3 : 0 ≤ y) (h4 : y ≤ 2147483646) : W (W (x * x) + W (y * y)) = x * x + y * y ∧ 0 ≤ x * x + y * y ∧ x * x + y * y ≤ 9223372019674906632 := by
  have a := sq_bd (A := 2147483646) (x := x) (by omega) h2
  have b := sq_bd (A := 2147483646) (x := y) (by omega) h4
  have e : (2147483646 : Int) * 2147483646 = 4611686009837453316 := by decide
  rw [e] at a b
  rw [W_id (x := x * x) (by omega) (by omega), W_id (x := y * y) (by omega) (by omega), W_id (by omega) (by omega)]
  omega
theorem near_eq {b : B4} {p : P2} (hb : BR b) (hp : PR p) : near b p = nearI b p ∧ 0 ≤ nearI b p ∧ nearI b p ≤ 9223372019674906632 := by
  unfold near nearI
  rw [gap_eq hp.x hb.x0 hb.x1, gap_eq hp.y hb.y0 hb.y1]
  have a := gapI_bd hp.x hb.x0 hb.x1
  have b := gapI_bd hp.y hb.y0 hb.y1
  exact sum2 a.1 a.2 b.1 b.2
theorem most_eq {b : B4} {p : P2} (hb : BR b) (hp : PR p) : most b p = mostI b p ∧ 0 ≤ mostI b p ∧ mostI b p ≤ 9223372019674906632 := by
  unfold most mostI
  rw [reach_eq hp.x hb.x0 hb.x1, reach_eq hp.y hb.y0 hb.y1]
  have a := reachI_bd hp.x hb.x0 hb.x1
  have b := reachI_bd hp.y hb.y0 hb.y1
  exact sum2 a.1 a.2 b.1 b.2
theorem square_eq {r : Int} (h1 : 0 ≤ r) (h2 : r ≤ 2147483648) : square r = r * r := by
  have a := sq_bd (A := 2147483648) (x := r) (by omega) h2
  unfold square
  have e : imin r 2147483648 = r := by unfold imin; split <;> omega
  rw [e, W_id (by omega) (by omega)]
theorem boxHas_eq (b : B4) (p : P2) : boxHas b p = true ↔ hasI b p := by
  unfold boxHas hasI
  simp only [andB_eq, Bool.and_eq_true, decide_eq_true_eq, and_assoc]
theorem dist_near {p q : P2} : nearI ⟨q.x, q.y, q.x, q.y⟩ p = distI p q := by
  have e : ∀ u v : Int, gapI u v v * gapI u v v = (u - v) * (u - v) := fun u v => by
    unfold gapI; split
    · grind
    · split
      · rfl
      · have : u = v := by omega
        subst this; grind
  unfold nearI distI
  rw [e, e]
theorem dist_most {p q : P2} : mostI ⟨q.x, q.y, q.x, q.y⟩ p = distI p q := by
  have e : ∀ u v : Int, reachI u v v * reachI u v v = (u - v) * (u - v) := fun u v => by
    have : reachI u v v = u - v ∨ reachI u v v = -(u - v) := by unfold reachI; omega
    rcases this with h | h <;> rw [h]
    grind
  unfold mostI distI
  rw [e, e]
/-- no point of a box is nearer or farther -/
theorem near_le {b : B4} {p q : P2} (h : hasI b q) : nearI b p ≤ distI p q := by
  obtain ⟨h1, h2, h3, h4⟩ := h
  have e : ∀ u lo hi v : Int, lo ≤ v → v ≤ hi → gapI u lo hi * gapI u lo hi ≤ (u - v) * (u - v) := fun u lo hi v a b => by
    have h5 : (-(u - v) ≤ gapI u lo hi ∧ gapI u lo hi ≤ u - v) ∨ (u - v ≤ gapI u lo hi ∧ gapI u lo hi ≤ -(u - v)) ∨ gapI u lo hi = 0 := by
      unfold gapI; split
      · omega
      · split <;> omega
    rcases h5 with h5 | h5 | h5
    · exact sq_le h5.1 h5.2
    · have := sq_le (x := gapI u lo hi) (y := -(u - v)) (by omega) h5.2
      grind
    · rw [h5]; have := sq_nn (u - v); omega
  unfold nearI distI
  have a := e p.x b.x0 b.x1 q.x h1 h2
  have b := e p.y b.y0 b.y1 q.y h3 h4
  omega
theorem most_ge {b : B4} {p q : P2} (h : hasI b q) : distI p q ≤ mostI b p := by
  obtain ⟨h1, h2, h3, h4⟩ := h
  have e : ∀ u lo hi v : Int, lo ≤ v → v ≤ hi → (u - v) * (u - v) ≤ reachI u lo hi * reachI u lo hi := fun u lo hi v a b => by
    have h5 : -(reachI u lo hi) ≤ u - v ∧ u - v ≤ reachI u lo hi := by unfold reachI; omega
    exact sq_le h5.1 h5.2
  unfold mostI distI
  have a := e p.x b.x0 b.x1 q.x h1 h2
  have b := e p.y b.y0 b.y1 q.y h3 h4
  omega

/-! ### the laws' helpers -/
theorem tmod_bd (x : Int) {n : Int} (h : 0 < n) : -n < x.tmod n ∧ x.tmod n < n := by
  constructor
  · have := Int.lt_tmod_of_pos x h; omega
  · exact Int.tmod_lt_of_pos x h
theorem lPt_r (p : P2) : (-536870912 ≤ (lPt p).x ∧ (lPt p).x ≤ 536870912) ∧ (-536870912 ≤ (lPt p).y ∧ (lPt p).y ≤ 536870912) := by
  have a := tmod_bd p.x (n := 536870913) (by decide)
  have b := tmod_bd p.y (n := 536870913) (by decide)
  unfold lPt; dsimp only; omega
theorem lPt_R (p : P2) : PR (lPt p) := by
  obtain ⟨⟨a, b⟩, c, d⟩ := lPt_r p
  exact ⟨⟨by omega, by omega⟩, ⟨by omega, by omega⟩⟩
theorem lR_bd (r : Int) : 1 ≤ lR r ∧ lR r ≤ 536870912 := by
  have h0 : 0 ≤ U r := by rw [U_eq]; omega
  have h1 : 0 ≤ (U r).tmod 536870912 := Int.tmod_nonneg _ h0
  have h2 := (tmod_bd (U r) (n := 536870912) (by decide)).2
  unfold lR
  rw [W_id (x := (U r).tmod 536870912) (by omega) (by omega), W_id (by omega) (by omega)]
  omega
theorem lClose_r (p : P2) {n : Int} (h0 : 0 ≤ n) (h1 : n ≤ 9223372036854775806) : (-n ≤ (lClose p n).x ∧ (lClose p n).x ≤ n) ∧ (-n ≤ (lClose p n).y ∧ (lClose p n).y ≤ n) := by
  unfold lClose; dsimp only
  rw [W_id (by omega) (by omega)]
  have a := tmod_bd p.x (n := n + 1) (by omega)
  have b := tmod_bd p.y (n := n + 1) (by omega)
  omega
theorem lBox_r (b : B4) : -536870912 ≤ (lBox b).x0 ∧ (lBox b).x0 ≤ (lBox b).x1 ∧ (lBox b).x1 ≤ 536870912 ∧ -536870912 ≤ (lBox b).y0 ∧ (lBox b).y0 ≤ (lBox b).y1 ∧ (lBox b).y1 ≤ 536870912 := by
  obtain ⟨⟨a1, a2⟩, a3, a4⟩ := lPt_r ⟨b.x0, b.y0⟩
  obtain ⟨⟨b1, b2⟩, b3, b4⟩ := lPt_r ⟨b.x1, b.y1⟩
  unfold lBox; dsimp only
  simp only [imin_eq, imax_eq]
  omega
theorem lBox_R (b : B4) : BR (lBox b) := by
  obtain ⟨h1, h2, h3, h4, h5, h6⟩ := lBox_r b
  exact ⟨⟨by omega, by omega⟩, ⟨by omega, by omega⟩, ⟨by omega, by omega⟩, ⟨by omega, by omega⟩⟩
theorem band7 (x : Int) : 0 ≤ band x 7 ∧ band x 7 ≤ 7 := by
  have h : (BitVec.ofInt 64 x &&& BitVec.ofInt 64 7).toNat ≤ 7 := by
    rw [BitVec.toNat_and]
    exact Nat.le_trans Nat.and_le_right (by decide)
  unfold band
  rw [W_id (by omega) (by omega)]
  omega
theorem band3 (x : Int) : 0 ≤ band x 3 ∧ band x 3 ≤ 3 := by
  have h : (BitVec.ofInt 64 x &&& BitVec.ofInt 64 3).toNat ≤ 3 := by
    rw [BitVec.toNat_and]
    exact Nat.le_trans Nat.and_le_right (by decide)
  unfold band
  rw [W_id (by omega) (by omega)]
  omega
theorem lSmall_r (b : B4) : -19 ≤ (lSmall b).x0 ∧ (lSmall b).x0 ≤ 19 ∧ (lSmall b).x0 ≤ (lSmall b).x1 ∧ (lSmall b).x1 ≤ (lSmall b).x0 + 7 ∧ -19 ≤ (lSmall b).y0 ∧ (lSmall b).y0 ≤ 19 ∧ (lSmall b).y0 ≤ (lSmall b).y1 ∧ (lSmall b).y1 ≤ (lSmall b).y0 + 7 := by
  have a := tmod_bd b.x0 (n := 20) (by decide)
  have c := tmod_bd b.y0 (n := 20) (by decide)
  have d := band7 b.x1
  have e := band7 b.y1
  unfold lSmall; dsimp only
  rw [W_id (x := b.x0.tmod 20 + band b.x1 7) (by omega) (by omega), W_id (x := b.y0.tmod 20 + band b.y1 7) (by omega) (by omega)]
  omega
theorem lSmall_R (b : B4) : BR (lSmall b) := by
  obtain ⟨h1, h2, h3, h4, h5, h6, h7, h8⟩ := lSmall_r b
  exact ⟨⟨by omega, by omega⟩, ⟨by omega, by omega⟩, ⟨by omega, by omega⟩, ⟨by omega, by omega⟩⟩
theorem lInX_bd {lo hi : Int} (x : Int) (h1 : In30 lo) (h2 : In30 hi) (h : lo ≤ hi) : lo ≤ lInX lo hi x ∧ lInX lo hi x ≤ hi ∧ U (W (W (hi - lo) + 1)) ≠ 0 := by
  obtain ⟨a, b⟩ := h1; obtain ⟨c, d⟩ := h2
  have h0 : 0 ≤ U x := by rw [U_eq]; omega
  unfold lInX
  rw [W_id (x := hi - lo) (by omega) (by omega), W_id (x := hi - lo + 1) (by omega) (by omega), U_id (x := hi - lo + 1) (by omega) (by omega)]
  have e := Int.tmod_nonneg (hi - lo + 1) h0
  have f := (tmod_bd (U x) (n := hi - lo + 1) (by omega)).2
  rw [W_id (x := (U x).tmod (hi - lo + 1)) (by omega) (by omega), W_id (by omega) (by omega)]
  omega
theorem lIn_has {b : B4} (x y : Int) (hb : BR b) (h1 : b.x0 ≤ b.x1) (h2 : b.y0 ≤ b.y1) : hasI b (lIn b x y) ∧ lInOk b := by
  have a := lInX_bd x hb.x0 hb.x1 h1
  have c := lInX_bd y hb.y0 hb.y1 h2
  exact ⟨⟨a.1, a.2.1, c.1, c.2.1⟩, a.2.2, c.2.2⟩
end Go.Proofs.Ytgdjfclpncpnpaa
