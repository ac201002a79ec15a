/-
  OWN WORK. The law RingDiscs.
-/
import Derived.Test.YtidgkcefjfdcbaaRoo
namespace Go.Proofs.Ytidgkcefjfdcbaa
open Go Go.RowKit Sym

/-! ### the root -/
theorem rootF_spec (n : Int) (k : Int) (hk : 0 ≤ k) (hn : n = k * k) : ∀ (m : Nat) (lo hi : Int), (hi - lo).toNat ≤ m → 0 ≤ lo → lo ≤ k → k ≤ hi → rootF n lo hi = k
  | m, lo, hi, hm, h0, h1, h2 => by
    rw [rootF]
    by_cases h : lo < hi
    · rw [dif_pos h]
      have hlt : (hi - lo).toNat ≠ 0 := by omega
      obtain ⟨m', rfl⟩ : ∃ m', m = m' + 1 := ⟨m - 1, by omega⟩
      by_cases q : (lo + hi) / 2 * ((lo + hi) / 2) ≥ n
      · rw [if_pos q]
        refine rootF_spec n k hk hn m' lo _ (by omega) h0 h1 ?_
        rcases Int.lt_or_le ((lo + hi) / 2) k with g | g
        · have := sq_lt (x := (lo + hi) / 2) (y := k) (by omega) g; omega
        · exact g
      · rw [if_neg q]
        refine rootF_spec n k hk hn m' _ hi (by omega) (by omega) ?_ h2
        rcases Int.lt_or_le ((lo + hi) / 2) k with g | g
        · omega
        · have := sq_le (x := k) (y := (lo + hi) / 2) (by omega) g; omega
    · rw [dif_neg h]; omega
  termination_by m => m

/-! ### plain distances -/
/-- not farther than both -/
theorem insI_iff {d k r : Int} (hd : 0 ≤ d) (hk : 0 ≤ k) (hr : 0 ≤ r) : insI d (k * k) r = true ↔ d ≤ (k + r) * (k + r) := by
  unfold insI; rw [decide_eq_true_eq]
  have e : (k + r) * (k + r) = k * k + 2 * (k * r) + r * r := by grind
  have e2 : 4 * (k * k) * (r * r) = 2 * (k * r) * (2 * (k * r)) := by grind
  have kr := Int.mul_nonneg hk hr
  rw [e, e2]
  generalize k * r = z at *
  constructor
  · rintro (h | h)
    · omega
    · rcases Int.lt_or_le (2 * z) (d - k * k - r * r) with g | g
      · have := sq_lt (x := 2 * z) (y := d - k * k - r * r) (by omega) g; omega
      · omega
  · intro h
    by_cases g : d - k * k - r * r ≤ 0
    · exact .inl g
    · exact .inr (sq_le (by omega) (by omega))
/-- not nearer than the less -/
theorem outI_iff {d k r : Int} (hd : 0 ≤ d) (hk : 0 ≤ k) (hr : 0 ≤ r) : outI d (k * k) r = true ↔ (k ≤ r ∨ (k - r) * (k - r) ≤ d) := by
  unfold outI; rw [decide_eq_true_eq]
  have e : (k - r) * (k - r) = k * k - 2 * (k * r) + r * r := by grind
  by_cases h : k ≤ r
  · have := sq_le (x := k) (y := r) (by omega) h
    exact ⟨fun _ => .inl h, fun _ => .inl (by omega)⟩
  · have g0 : 0 ≤ 2 * (r * (k - r)) := by have := Int.mul_nonneg hr (show 0 ≤ k - r by omega); omega
    have e3 : 2 * (r * (k - r)) = 2 * (k * r) - 2 * (r * r) := by grind
    have e4 : 2 * (r * (k - r)) * (2 * (r * (k - r))) = 4 * (r * r) * ((k - r) * (k - r)) := by grind
    have e5 : 4 * d * (r * r) = 4 * (r * r) * d := by grind
    rw [e5]
    have hrr := sq_nn r
    constructor
    · rintro (g | g)
      · right; omega
      · right
        rcases Int.lt_or_le d ((k - r) * (k - r)) with x | x
        · exfalso
          have s := sq_lt (x := 2 * (r * (k - r))) (y := k * k - r * r - d) g0 (by omega)
          have t := Int.mul_le_mul_of_nonneg_left (show d ≤ (k - r) * (k - r) by omega) (show 0 ≤ 4 * (r * r) by omega)
          omega
        · exact x
    · rintro (g | g)
      · exact absurd g h
      · by_cases x : k * k - r * r - d ≤ 0
        · exact .inl x
        · right
          have s := sq_le (x := k * k - r * r - d) (y := 2 * (r * (k - r))) (by omega) (by omega)
          have t := Int.mul_le_mul_of_nonneg_left g (show 0 ≤ 4 * (r * r) by omega)
          omega

/-! ### the twelve points -/
def cx (i : Nat) : Int := circX (i : Int)
def cy (i : Nat) : Int := circY (i : Int)
/-- u, v, w of the twelve: w in the sector from u to v, the three apart -/
def goodB (i j l : Nat) : Bool :=
  let ux := cx i
  let uy := cy i
  let vx := cx j
  let vy := cy j
  let wx := cx l
  let wy := cy l
  let D := ux * vy - uy * vx
  let la := wx * vy - wy * vx
  let mu := ux * wy - uy * wx
  (!(decide (i = j)) && !(decide (l = i)) && !(decide (l = j)) && (if D < 0 then decide (mu ≥ 0) || decide (la ≥ 0) else decide (mu ≥ 0) && decide (la ≥ 0))) →
    (decide (la + mu - D > 0) && (decide (D < 0) || (decide (ux * wx + uy * wy ≥ ux * vx + uy * vy) && decide (vx * wx + vy * wy ≥ ux * vx + uy * vy))))
theorem good_all : (List.range 12).all (fun i => (List.range 12).all fun j => (List.range 12).all fun l => goodB i j l) = true := by decide +kernel

theorem circ_cx (f : Int) : ∃ i, i < 12 ∧ (circ f).x = cx i ∧ (circ f).y = cy i ∧ arcI f = (i : Int) := by
  have h := arcI_bd f
  refine ⟨(arcI f).toNat, by omega, ?_, ?_, by omega⟩
  · unfold circ cx; dsimp only; rw [Int.toNat_of_nonneg h.1]
  · unfold circ cy; dsimp only; rw [Int.toNat_of_nonneg h.1]
/-- a sector's point w, of three that are apart -/
theorem good_of {f t l : Int} (h1 : ¬ same (circ f) (circ t)) (h2 : ¬ same (circ l) (circ f)) (h3 : ¬ same (circ l) (circ t))
    (hs : if (circ f).x * (circ t).y - (circ f).y * (circ t).x < 0 then (circ f).x * (circ l).y - (circ f).y * (circ l).x ≥ 0 ∨ (circ l).x * (circ t).y - (circ l).y * (circ t).x ≥ 0
      else (circ f).x * (circ l).y - (circ f).y * (circ l).x ≥ 0 ∧ (circ l).x * (circ t).y - (circ l).y * (circ t).x ≥ 0) :
    ((circ l).x * (circ t).y - (circ l).y * (circ t).x) + ((circ f).x * (circ l).y - (circ f).y * (circ l).x) - ((circ f).x * (circ t).y - (circ f).y * (circ t).x) > 0 ∧
    ((circ f).x * (circ t).y - (circ f).y * (circ t).x < 0 ∨
      ((circ f).x * (circ l).x + (circ f).y * (circ l).y ≥ (circ f).x * (circ t).x + (circ f).y * (circ t).y ∧ (circ t).x * (circ l).x + (circ t).y * (circ l).y ≥ (circ f).x * (circ t).x + (circ f).y * (circ t).y)) := by
  obtain ⟨i, hi, ix, iy, ie⟩ := circ_cx f
  obtain ⟨j, hj, jx, jy, je⟩ := circ_cx t
  obtain ⟨k, hk, kx, ky, ke⟩ := circ_cx l
  have n1 : ¬ i = j := fun e => h1 (by subst e; exact ⟨ix.trans jx.symm, iy.trans jy.symm⟩)
  have n2 : ¬ k = i := fun e => h2 (by subst e; exact ⟨kx.trans ix.symm, ky.trans iy.symm⟩)
  have n3 : ¬ k = j := fun e => h3 (by subst e; exact ⟨kx.trans jx.symm, ky.trans jy.symm⟩)
  have g := good_all
  rw [List.all_eq_true] at g
  have g := g i (List.mem_range.2 hi)
  rw [List.all_eq_true] at g
  have g := g j (List.mem_range.2 hj)
  rw [List.all_eq_true] at g
  have g := g k (List.mem_range.2 hk)
  unfold goodB at g
  rw [ix, iy, jx, jy, kx, ky] at hs ⊢
  dsimp only at g
  rw [decide_eq_true_eq] at g
  have := g (by
    rw [decide_eq_false n1, decide_eq_false n2, decide_eq_false n3]
    split at hs
    · rename_i w; rw [if_pos w]; simp only [Bool.not_false, Bool.true_and, Bool.or_eq_true, decide_eq_true_eq]; exact hs
    · rename_i w; rw [if_neg w]; simp only [Bool.not_false, Bool.true_and, Bool.and_eq_true, decide_eq_true_eq]; exact hs)
  simp only [Bool.and_eq_true, Bool.or_eq_true, decide_eq_true_eq] at this
  exact this

/-- the plain law of the sector: who is nearer to w than to u and v, w in the sector, is in it -/
theorem sector_near {ux uy vx vy wx wy px py : Int} (hu : ux * ux + uy * uy = 25) (hv : vx * vx + vy * vy = 25) (hw : wx * wx + wy * wy = 25)
    (hG : (wx * vy - wy * vx) + (ux * wy - uy * wx) - (ux * vy - uy * vx) > 0)
    (hC : ux * vy - uy * vx < 0 ∨ (ux * wx + uy * wy ≥ ux * vx + uy * vy ∧ vx * wx + vy * wy ≥ ux * vx + uy * vy))
    (hX : 0 < px * (wx - ux) + py * (wy - uy)) (hY : 0 < px * (wx - vx) + py * (wy - vy)) :
    if ux * vy - uy * vx < 0 then ux * py - uy * px ≥ 0 ∨ px * vy - py * vx ≥ 0 else ux * py - uy * px ≥ 0 ∧ px * vy - py * vx ≥ 0 := by
  have i1 : ((wx * vy - wy * vx) + (ux * wy - uy * wx) - (ux * vy - uy * vx)) * (ux * py - uy * px) = ((ux * wx + uy * wy) - (ux * vx + uy * vy)) * (px * (wx - ux) + py * (wy - uy)) + (ux * ux + uy * uy - (ux * wx + uy * wy)) * (px * (wx - vx) + py * (wy - vy)) := by
    clear hu hv hw hG hC hX hY; grind
  have i2 : ((wx * vy - wy * vx) + (ux * wy - uy * wx) - (ux * vy - uy * vx)) * (px * vy - py * vx) = (vx * vx + vy * vy - (vx * wx + vy * wy)) * (px * (wx - ux) + py * (wy - uy)) + ((vx * wx + vy * wy) - (ux * vx + uy * vy)) * (px * (wx - vx) + py * (wy - vy)) := by
    clear hu hv hw hG hC hX hY; grind
  have cw : ∀ {ax ay bx by_ : Int}, ax * ax + ay * ay = 25 → bx * bx + by_ * by_ = 25 → ax * bx + ay * by_ ≤ 25 := fun {ax ay bx by_} ha hb => by
    have := sq_nn (ax - bx); have := sq_nn (ay - by_)
    have e : (ax - bx) * (ax - bx) + (ay - by_) * (ay - by_) = (ax * ax + ay * ay) + (bx * bx + by_ * by_) - 2 * (ax * bx + ay * by_) := by clear ha hb; grind
    omega
  have c1 := cw hu hw; have c2 := cw hv hw; have c3 := cw hu hv
  rw [hu] at i1; rw [hv] at i2
  generalize px * (wx - ux) + py * (wy - uy) = X at *
  generalize px * (wx - vx) + py * (wy - vy) = Y at *
  generalize ux * wx + uy * wy = UW at *
  generalize vx * wx + vy * wy = VW at *
  generalize ux * vx + uy * vy = UV at *
  generalize ux * vy - uy * vx = D at *
  generalize ux * py - uy * px = S at *
  generalize px * vy - py * vx = T at *
  generalize wx * vy - wy * vx + (ux * wy - uy * wx) - D = G at *
  clear hu hv hw cw
  have pos : ∀ z : Int, 0 ≤ G * z → 0 ≤ z := fun z h => by
    rcases Int.lt_or_le z 0 with k | k
    · have := Int.mul_pos hG (show 0 < -z by omega)
      have e : G * -z = -(G * z) := by grind
      omega
    · exact k
  split
  · rename_i w
    rcases Int.lt_or_le S 0 with s | s
    · right
      rcases Int.lt_or_le T 0 with t | t
      · exfalso
        have g1 : G * S < 0 := by
          have := Int.mul_pos hG (show 0 < -S by omega)
          have e : G * -S = -(G * S) := by clear i1 i2; grind
          omega
        have g2 : G * T < 0 := by
          have := Int.mul_pos hG (show 0 < -T by omega)
          have e : G * -T = -(G * T) := by clear i1 i2; grind
          omega
        rw [i1] at g1; rw [i2] at g2
        have e1 : (UW - UV) * X + (25 - UW) * Y = (25 - UV) * X - (25 - UW) * (X - Y) := by clear i1 i2 g1 g2; grind
        have e2 : (25 - VW) * X + (VW - UV) * Y = (25 - UV) * Y - (25 - VW) * (Y - X) := by clear i1 i2 g1 g2; grind
        rw [e1] at g1; rw [e2] at g2
        have p1 := Int.mul_nonneg (show 0 ≤ 25 - UV by omega) (show 0 ≤ X by omega)
        have p2 := Int.mul_nonneg (show 0 ≤ 25 - UV by omega) (show 0 ≤ Y by omega)
        have q1 : Y < X := by
          rcases Int.lt_or_le Y X with k | k
          · exact k
          · have := Int.mul_nonneg (show 0 ≤ 25 - UW by omega) (show 0 ≤ Y - X by omega)
            have e : (25 - UW) * (X - Y) = -((25 - UW) * (Y - X)) := by clear i1 i2 g1 g2 e1 e2; grind
            omega
        have q2 : X < Y := by
          rcases Int.lt_or_le X Y with k | k
          · exact k
          · have := Int.mul_nonneg (show 0 ≤ 25 - VW by omega) (show 0 ≤ X - Y by omega)
            have e : (25 - VW) * (Y - X) = -((25 - VW) * (X - Y)) := by clear i1 i2 g1 g2 e1 e2; grind
            omega
        omega
      · exact t
    · exact .inl s
  · rename_i w
    rcases hC with hC | ⟨h1, h2⟩
    · exact absurd hC w
    · have a1 := Int.mul_nonneg (show 0 ≤ UW - UV by omega) (show 0 ≤ X by omega)
      have a2 := Int.mul_nonneg (show 0 ≤ 25 - UW by omega) (show 0 ≤ Y by omega)
      have b1 := Int.mul_nonneg (show 0 ≤ 25 - VW by omega) (show 0 ≤ X by omega)
      have b2 := Int.mul_nonneg (show 0 ≤ VW - UV by omega) (show 0 ≤ Y by omega)
      exact ⟨pos S (by omega), pos T (by omega)⟩

theorem onC_sect {c u v w : P2} {k : Int} (hk : 0 < k) : sectI (onC c k w) c (onC c k u) (onC c k v) = true ↔ (same u v ∨ if u.x * v.y - u.y * v.x < 0 then u.x * w.y - u.y * w.x ≥ 0 ∨ w.x * v.y - w.y * v.x ≥ 0 else u.x * w.y - u.y * w.x ≥ 0 ∧ w.x * v.y - w.y * v.x ≥ 0) := by
  have e : ∀ a b : P2, crossI c (onC c k a) (onC c k b) = k * k * (a.x * b.y - a.y * b.x) := fun a b => by unfold crossI onC; dsimp only; grind
  have kk := Int.mul_pos hk hk
  have nn : ∀ z : Int, k * k * z ≥ 0 ↔ z ≥ 0 := fun z => by
    constructor
    · intro h
      rcases Int.lt_or_le z 0 with q | q
      · have := Int.mul_pos kk (show 0 < -z by omega)
        have e : k * k * -z = -(k * k * z) := by grind
        omega
      · exact q
    · intro h; exact Int.mul_nonneg (by omega) h
  have ng : ∀ z : Int, k * k * z < 0 ↔ z < 0 := fun z => by have := nn z; omega
  have sm : same (onC c k u) (onC c k v) ↔ same u v := by
    unfold same onC; dsimp only
    have : ∀ a b p : Int, p + k * a = p + k * b ↔ a = b := fun a b p => by
      constructor
      · intro h; exact Int.eq_of_mul_eq_mul_left (by omega) (show k * a = k * b by omega)
      · rintro rfl; rfl
    rw [this, this]
  unfold sectI
  rw [e, e, e]
  simp only [Bool.or_eq_true, decide_eq_true_eq, sm, ng]
  by_cases s : u.x * v.y - u.y * v.x < 0
  · simp only [s, if_true, Bool.or_eq_true, decide_eq_true_eq, nn]
  · simp only [s, if_false, Bool.and_eq_true, decide_eq_true_eq, nn]
theorem sect_of {p c u v : P2} {k : Int} (hk : 0 < k) : sectI p c (onC c k u) (onC c k v) = true ↔ (same u v ∨ if u.x * v.y - u.y * v.x < 0 then u.x * (p.y - c.y) - u.y * (p.x - c.x) ≥ 0 ∨ (p.x - c.x) * v.y - (p.y - c.y) * v.x ≥ 0 else u.x * (p.y - c.y) - u.y * (p.x - c.x) ≥ 0 ∧ (p.x - c.x) * v.y - (p.y - c.y) * v.x ≥ 0) := by
  have e1 : crossI c (onC c k u) p = k * (u.x * (p.y - c.y) - u.y * (p.x - c.x)) := by unfold crossI onC; dsimp only; grind
  have e2 : crossI c p (onC c k v) = k * ((p.x - c.x) * v.y - (p.y - c.y) * v.x) := by unfold crossI onC; dsimp only; grind
  have e : crossI c (onC c k u) (onC c k v) = k * k * (u.x * v.y - u.y * v.x) := by unfold crossI onC; dsimp only; grind
  have kk := Int.mul_pos hk hk
  have nn : ∀ K z : Int, 0 < K → (K * z ≥ 0 ↔ z ≥ 0) := fun K z hK => by
    constructor
    · intro h
      rcases Int.lt_or_le z 0 with q | q
      · have := Int.mul_pos hK (show 0 < -z by omega)
        have e : K * -z = -(K * z) := by clear e1 e2 e; grind
        omega
      · exact q
    · intro h; exact Int.mul_nonneg (by omega) h
  have ng : k * k * (u.x * v.y - u.y * v.x) < 0 ↔ u.x * v.y - u.y * v.x < 0 := by have := nn (k * k) (u.x * v.y - u.y * v.x) kk; omega
  have sm : same (onC c k u) (onC c k v) ↔ same u v := by
    unfold same onC; dsimp only
    have : ∀ a b p : Int, p + k * a = p + k * b ↔ a = b := fun a b p => by
      constructor
      · intro h; exact Int.eq_of_mul_eq_mul_left (by omega) (show k * a = k * b by omega)
      · rintro rfl; rfl
    rw [this, this]
  unfold sectI
  rw [e, e1, e2]
  simp only [Bool.or_eq_true, decide_eq_true_eq, sm, ng]
  by_cases s : u.x * v.y - u.y * v.x < 0
  · simp only [s, if_true, Bool.or_eq_true, decide_eq_true_eq, nn k _ hk]
  · simp only [s, if_false, Bool.and_eq_true, decide_eq_true_eq, nn k _ hk]

theorem lin2 (px py a b c d : Int) : px * (a - b) + py * (c - d) = px * a + py * c - (px * b + py * d) := by grind
/-- the discs around the points of an arc are in its ring -/
theorem ring_disc {c p : P2} {k r : Int} (f t l : Int) (hk : 0 < k) (hs : sectI (onC c k (circ l)) c (onC c k (circ f)) (onC c k (circ t)) = true) (hd : distI p (onC c k (circ l)) ≤ r * r) :
    ringI p c (onC c k (circ f)) (onC c k (circ t)) r = true := by
  have hf := (circ_ok f).n; have ht := (circ_ok t).n; have hl := (circ_ok l).n
  have dk : ∀ u : P2, u.x * u.x + u.y * u.y = 25 → distI (onC c k u) c = 25 * (k * k) := fun u hu => by
    have : distI (onC c k u) c = k * k * (u.x * u.x + u.y * u.y) := by unfold distI onC; dsimp only; clear hu; grind
    rw [this, hu]; omega
  have dr := disc_ring (c := c) hd
  rw [dk _ hl, ← dk _ hf] at dr
  unfold ringI
  rw [dr.1, dr.2]
  simp only [Bool.and_true, Bool.or_eq_true, decide_eq_true_eq]
  by_cases n1 : distI p (onC c k (circ f)) ≤ r * r
  · exact .inl (.inl n1)
  by_cases n2 : distI p (onC c k (circ t)) ≤ r * r
  · exact .inl (.inr n2)
  refine .inr ?_
  rw [onC_sect hk] at hs
  rw [sect_of hk]
  by_cases s1 : same (circ f) (circ t)
  · exact .inl s1
  refine .inr ?_
  have s2 : ¬ same (circ l) (circ f) := fun h => n1 (by
    have : circ l = circ f := by
      cases hl' : circ l; cases hf' : circ f; rw [hl', hf'] at h; obtain ⟨a, b⟩ := h; dsimp only at a b; rw [a, b]
    rw [← this]; exact hd)
  have s3 : ¬ same (circ l) (circ t) := fun h => n2 (by
    have : circ l = circ t := by
      cases hl' : circ l; cases hf' : circ t; rw [hl', hf'] at h; obtain ⟨a, b⟩ := h; dsimp only at a b; rw [a, b]
    rw [← this]; exact hd)
  have hs' := hs.resolve_left s1
  obtain ⟨g1, g2⟩ := good_of s1 s2 s3 hs'
  have dist : ∀ u : P2, u.x * u.x + u.y * u.y = 25 → distI p (onC c k u) = distI p c - 2 * (k * ((p.x - c.x) * u.x + (p.y - c.y) * u.y)) + 25 * (k * k) := fun u hu => by
    have : distI p (onC c k u) = distI p c - 2 * (k * ((p.x - c.x) * u.x + (p.y - c.y) * u.y)) + k * k * (u.x * u.x + u.y * u.y) := by unfold distI onC; dsimp only; clear hu; grind
    rw [this, hu]; omega
  rw [dist _ hl] at hd
  rw [dist _ hf] at n1
  rw [dist _ ht] at n2
  have pos : ∀ z y : Int, k * z < k * y → 0 < y - z := fun z y h => by
    rcases Int.lt_or_le z y with q | q
    · omega
    · have := Int.mul_le_mul_of_nonneg_left q (show 0 ≤ k by omega); omega
  have hX := pos _ _ (show k * ((p.x - c.x) * (circ f).x + (p.y - c.y) * (circ f).y) < k * ((p.x - c.x) * (circ l).x + (p.y - c.y) * (circ l).y) by omega)
  have hY := pos _ _ (show k * ((p.x - c.x) * (circ t).x + (p.y - c.y) * (circ t).y) < k * ((p.x - c.x) * (circ l).x + (p.y - c.y) * (circ l).y) by omega)
  generalize p.x - c.x = px at *
  generalize p.y - c.y = py at *
  refine sector_near hf ht hl g1 g2 ?_ ?_
  · have e := lin2 px py (circ l).x (circ f).x (circ l).y (circ f).y
    omega
  · have e := lin2 px py (circ l).x (circ t).x (circ l).y (circ t).y
    omega

/-! ### the law -/
def rd2 (p c : P2) : Int := W (W (W (p.x - c.x) * W (p.x - c.x)) + W (W (p.y - c.y) * W (p.y - c.y)))
def ringDiscs (c0 : P2) (r0 f t l s : Int) (p0 : P2) : Bool :=
  let c := arcC c0 true
  let a := arcAt c0 f s true
  let e := arcAt c0 t s true
  let n := arcAt ⟨0, 0⟩ l s true
  let m : P2 := ⟨W (c.x + n.x), W (c.y + n.y)⟩
  let r := lSmR (lR r0) 30
  let p := lClose p0 60
  let big := rd2 a c
  let d := rd2 p c
  let k := rootF big 0 2147483648
  let i := ringHas p c a e r
  let up := W (W (k + r) * W (k + r))
  let lo := W (W (k - r) * W (k - r))
  bif W (k * k) != big then false else
  bif orB (andB i (decide (d > up))) (andB (andB i (decide (k > r))) (decide (d < lo))) then false else
  andB (andB (orB (orB (!(sector m c a e)) (!(discHas p m r))) i) (orB (!(ptEq a e)) (i == andB (decide (d ≤ up)) (orB (decide (k ≤ r)) (decide (d ≥ lo)))))) true

theorem rd2_eq {p c : P2} (hp : (-200 ≤ p.x ∧ p.x ≤ 200) ∧ (-200 ≤ p.y ∧ p.y ≤ 200)) (hc : (-200 ≤ c.x ∧ c.x ≤ 200) ∧ (-200 ≤ c.y ∧ c.y ≤ 200)) : rd2 p c = distI p c := by
  have a := sq_bd (A := 400) (x := p.x - c.x) (by omega) (by omega)
  have b := sq_bd (A := 400) (x := p.y - c.y) (by omega) (by omega)
  unfold rd2 distI
  rw [W_id (x := p.x - c.x) (by omega) (by omega), W_id (x := p.y - c.y) (by omega) (by omega), W_id (x := (p.x - c.x) * (p.x - c.x)) (by omega) (by omega), W_id (x := (p.y - c.y) * (p.y - c.y)) (by omega) (by omega), W_id (by omega) (by omega)]
theorem onC_s {c : P2} {k : Int} {u : P2} (hc : (-15 ≤ c.x ∧ c.x ≤ 15) ∧ (-15 ≤ c.y ∧ c.y ≤ 15)) (hk : 1 ≤ k ∧ k ≤ 4) (hu : Circ u) : (-35 ≤ (onC c k u).x ∧ (onC c k u).x ≤ 35) ∧ (-35 ≤ (onC c k u).y ∧ (onC c k u).y ≤ 35) := by
  have x := mul_bd (A := 4) (B := 5) (x := k) (y := u.x) (by omega) (by omega) hu.x.1 hu.x.2
  have y := mul_bd (A := 4) (B := 5) (x := k) (y := u.y) (by omega) (by omega) hu.y.1 hu.y.2
  unfold onC; dsimp only; omega
theorem arcC_zero : arcC ⟨0, 0⟩ true = ⟨0, 0⟩ := by kernel_rfl
theorem ringDiscs_true (c : P2) (r f t l s : Int) (p : P2) : ringDiscs c r f t l s p = true := by
  have hc := arcC_s c
  have hC : PR (arcC c true) := PR_of hc (by decide)
  have a := arc_facts c f s true; have e := arc_facts c t s true
  have ok := arc_okI c f t s true
  have kb : 1 ≤ arcK s true ∧ arcK s true ≤ 4 := arcK1_bd s
  have hr := lR_bd r
  have hh := lSmR_bd (r := lR r) (m := 30) (by omega) (by decide) (by decide)
  have hp := lClose_r p (n := 60) (by decide) (by decide)
  have hP := PR_of hp (by decide)
  have hd := near_small (p := lClose p 60) (c := arcC c true) (by omega) (by omega)
  have mz := mul_bd (A := 4) (B := 5) (x := arcK s true) (y := (circ l).x) (by omega) (by omega) (circ_ok l).x.1 (circ_ok l).x.2
  have mw := mul_bd (A := 4) (B := 5) (x := arcK s true) (y := (circ l).y) (by omega) (by omega) (circ_ok l).y.1 (circ_ok l).y.2
  have hm : (⟨W ((arcC c true).x + (arcAt ⟨0, 0⟩ l s true).x), W ((arcC c true).y + (arcAt ⟨0, 0⟩ l s true).y)⟩ : P2) = onC (arcC c true) (arcK s true) (circ l) := by
    rw [arcAt_eq, arcC_zero]
    unfold onC; dsimp only
    rw [Int.zero_add, Int.zero_add, W_id (by omega) (by omega), W_id (by omega) (by omega)]
  have M := arc_facts c l s true
  rw [arcAt_eq] at M
  have ea := arcAt_eq c f s true
  have ee := arcAt_eq c t s true
  have as_ := onC_s (u := circ f) hc kb (circ_ok f)
  have es_ := onC_s (u := circ t) hc kb (circ_ok t)
  unfold ringDiscs
  dsimp only
  rw [hm, ringHas_eq hP hC a.1 e.1 ok hh.1 (by omega) (by omega) (by omega), sector_eq M.1 hC a.1 e.1, discHas_eq hP M.1 hh.1 (by omega), rd2_eq (p := lClose p 60) (by omega) (by omega), ptEq_eq]
  rw [ea, ee]
  rw [ea] at a
  rw [ee] at e
  rw [ea, ee] at ok
  clear ea ee
  rw [rd2_eq (p := onC (arcC c true) (arcK s true) (circ f)) (by omega) (by omega), a.2.1]
  have kk := mul_bd (A := 4) (B := 4) (x := arcK s true) (y := arcK s true) (by omega) (by omega) (by omega) (by omega)
  rw [rootF_spec (25 * (arcK s true * arcK s true)) (5 * arcK s true) (by omega) (by generalize arcK s true = k; grind) 2147483648 0 2147483648 (by decide) (by decide) (by omega) (by omega)]
  have e25 : 5 * arcK s true * (5 * arcK s true) = 25 * (arcK s true * arcK s true) := by generalize arcK s true = k; grind
  have up := sq_bd (A := 60) (x := 5 * arcK s true + lSmR (lR r) 30) (by omega) (by omega)
  have lo := sq_bd (A := 60) (x := 5 * arcK s true - lSmR (lR r) 30) (by omega) (by omega)
  rw [e25, W_id (x := 25 * (arcK s true * arcK s true)) (by omega) (by omega), W_id (x := 5 * arcK s true + lSmR (lR r) 30) (by omega) (by omega), W_id (x := 5 * arcK s true - lSmR (lR r) 30) (by omega) (by omega), W_id (by omega) (by omega), W_id (by omega) (by omega)]
  have dn := dist_nn (lClose p 60) (arcC c true)
  have di := insI_iff (d := distI (lClose p 60) (arcC c true)) (k := 5 * arcK s true) (r := lSmR (lR r) 30) dn (by omega) (by omega)
  have dO := outI_iff (d := distI (lClose p 60) (arcC c true)) (k := 5 * arcK s true) (r := lSmR (lR r) 30) dn (by omega) (by omega)
  rw [e25, ← a.2.1] at di dO
  have da := disc_ring (p := lClose p 60) (c := arcC c true) (e := onC (arcC c true) (arcK s true) (circ f)) (r := lSmR (lR r) 30)
  have de := disc_ring (p := lClose p 60) (c := arcC c true) (e := onC (arcC c true) (arcK s true) (circ t)) (r := lSmR (lR r) 30)
  rw [← ok.2] at de
  have rd := ring_disc (c := arcC c true) (p := lClose p 60) (k := arcK s true) (r := lSmR (lR r) 30) f t l (by omega)
  have sm : same (onC (arcC c true) (arcK s true) (circ f)) (onC (arcC c true) (arcK s true) (circ t)) → sectI (lClose p 60) (arcC c true) (onC (arcC c true) (arcK s true) (circ f)) (onC (arcC c true) (arcK s true) (circ t)) = true := fun h => by
    unfold sectI; rw [decide_eq_true h]; rfl
  generalize lClose p 60 = P at *
  generalize arcC c true = C at *
  generalize hAA : onC C (arcK s true) (circ f) = A at *
  generalize hEE : onC C (arcK s true) (circ t) = E at *
  generalize hMM : onC C (arcK s true) (circ l) = MM at *
  generalize lSmR (lR r) 30 = R at *
  have rI : ringI P C A E R = (decide (distI P A ≤ R * R) || decide (distI P E ≤ R * R) || (sectI P C A E && outI (distI P C) (distI A C) R && insI (distI P C) (distI A C) R)) := rfl
  have inI : ringI P C A E R = true → insI (distI P C) (distI A C) R = true ∧ outI (distI P C) (distI A C) R = true := fun h => by
    rw [rI] at h
    simp only [Bool.or_eq_true, Bool.and_eq_true, decide_eq_true_eq] at h
    rcases h with (h | h) | h
    · exact ⟨(da h).2, (da h).1⟩
    · exact ⟨(de h).2, (de h).1⟩
    · exact ⟨h.2, h.1.2⟩
  have one : (25 * (arcK s true * arcK s true) != 25 * (arcK s true * arcK s true)) = false := by simp
  rw [one, bif_f]
  generalize 5 * arcK s true = K at *
  simp only [orB_eq, andB_eq]
  cases hi : ringI P C A E R with
  | false =>
    simp only [Bool.false_and, Bool.or_false, bif_f, Bool.and_true]
    have h1 : (!(sectI MM C A E) || !(decide (distI P MM ≤ R * R))) = true := by
      cases h2 : sectI MM C A E with
      | false => rfl
      | true =>
        by_cases h3 : distI P MM ≤ R * R
        · have := rd h2 h3; rw [hi] at this; cases this
        · rw [decide_eq_false h3]; rfl
    rw [h1, Bool.true_and]
    by_cases h4 : same A E
    · rw [decide_eq_true h4]
      have h5 := sm h4
      rw [rI, h5] at hi
      simp only [Bool.true_and, Bool.or_eq_false_iff] at hi
      have h6 : (decide (distI P C ≤ (K + R) * (K + R)) && (decide (K ≤ R) || decide (distI P C ≥ (K - R) * (K - R)))) = false := by
        rw [Bool.eq_false_iff]
        intro h7
        simp only [Bool.and_eq_true, Bool.or_eq_true, decide_eq_true_eq] at h7
        have h8 := dO.2 h7.2; have h9 := di.2 h7.1
        rw [h8, h9] at hi
        exact absurd hi.2 (by decide)
      rw [h6]; rfl
    · rw [decide_eq_false h4]; rfl
  | true =>
    obtain ⟨h1, h2⟩ := inI hi
    have h3 := di.1 h1; have h4 := dO.1 h2
    have h5 : (true && decide (distI P C > (K + R) * (K + R)) || true && decide (K > R) && decide (distI P C < (K - R) * (K - R))) = false := by
      rw [decide_eq_false (show ¬ distI P C > (K + R) * (K + R) by omega)]
      rcases h4 with h4 | h4
      · rw [decide_eq_false (show ¬ K > R by omega)]; rfl
      · rw [decide_eq_false (show ¬ distI P C < (K - R) * (K - R) by omega)]; simp
    rw [h5, bif_f]
    have h6 : (decide (distI P C ≤ (K + R) * (K + R)) && (decide (K ≤ R) || decide (distI P C ≥ (K - R) * (K - R)))) = true := by
      simp only [Bool.and_eq_true, Bool.or_eq_true, decide_eq_true_eq]; exact ⟨h3, h4⟩
    rw [h6]
    cases sectI MM C A E <;> cases decide (distI P MM ≤ R * R) <;> cases decide (same A E) <;> rfl
def tbRD : List Entry := (42, en1 dI (fun n => vi (rootF n 0 2147483648))) :: tbR9
theorem tbRD_ok : ∀ e ∈ tbRD, EntryOk Try.prog e := List.forall_mem_cons.2 ⟨en1_ok dI_eq root_ok, tbR9_ok⟩
theorem ringDiscs_ok (c : P2) (r f t l s : Int) (p : P2) : CallOk Try.prog 14 [pt c, vi r, vi f, vi t, vi l, vi s, pt p] (vb true) := by
  rw [← ringDiscs_true c r f t l s p]
  exact fnOkS (fuel := 16) (tbOf_ok tbRD_ok) mo Try.func14 (by kernel_rfl) (by kernel_rfl) (by kernel_rfl) (show _ = [W (60 + 1) ≠ 0] by kernel_rfl) ⟨by decide, trivial⟩
end Go.Proofs.Ytidgkcefjfdcbaa
