/-
  OWN WORK. Contours that are told otherwise, moved, turned, mirrored: plain arithmetic.
-/
import Derived.Test.YtgdjfclpncpnpaaPos
namespace Go.Proofs.Ytgdjfclpncpnpaa
open Go Go.RowKit Sym

/-! ### sums in any order -/
def accN (op : Bool → Bool → Bool) (f : Nat → Bool) : Nat → Bool
  | 0 => false
  | n + 1 => op (accN op f n) (f n)
structure ACM (op : Bool → Bool → Bool) : Prop where
  a : ∀ x y z, op (op x y) z = op x (op y z)
  c : ∀ x y, op x y = op y x
  z : ∀ x, op false x = x
theorem acm_xor : ACM xor := ⟨by decide, by decide, by decide⟩
theorem acm_or : ACM or := ⟨by decide, by decide, by decide⟩
theorem parN_acc (f : Nat → Bool) : ∀ n, parN f n = accN xor f n
  | 0 => rfl
  | n + 1 => by simp only [parN, accN, parN_acc f n]
theorem anyN_acc (f : Nat → Bool) : ∀ n, anyN f n = accN or f n
  | 0 => rfl
  | n + 1 => by simp only [anyN, accN, anyN_acc f n]
theorem accN_congr {op : Bool → Bool → Bool} {f g : Nat → Bool} : ∀ {n : Nat}, (∀ k, k < n → f k = g k) → accN op f n = accN op g n
  | 0, _ => rfl
  | n + 1, h => by simp only [accN]; rw [accN_congr fun k hk => h k (by omega), h n (by omega)]
theorem accN_shift {op : Bool → Bool → Bool} (A : ACM op) (f : Nat → Bool) : ∀ n, accN op f (n + 1) = op (f 0) (accN op (fun k => f (k + 1)) n)
  | 0 => by simp only [accN]; rw [A.z, A.c, A.z]
  | n + 1 => by
    have h := accN_shift A f n
    simp only [accN] at h ⊢
    rw [h, A.a]
theorem accN_rev {op : Bool → Bool → Bool} (A : ACM op) : ∀ (n : Nat) (f : Nat → Bool), accN op (fun t => f (n - 1 - t)) n = accN op f n
  | 0, _ => rfl
  | n + 1, f => by
    rw [accN_shift A f n, ← accN_rev A n (fun k => f (k + 1))]
    simp only [accN]
    rw [A.c, show n + 1 - 1 - n = 0 by omega]
    congr 1
    exact accN_congr fun k hk => by rw [show n + 1 - 1 - k = n - 1 - k + 1 by omega]
theorem accN_rot1 {op : Bool → Bool → Bool} (A : ACM op) (f : Nat → Bool) (M : Nat) : accN op (fun k => f ((k + 1) % (M + 1))) (M + 1) = accN op f (M + 1) := by
  rw [accN_shift A f M]
  simp only [accN]
  rw [Nat.mod_self, A.c]
  congr 1
  exact accN_congr fun k hk => by rw [Nat.mod_eq_of_lt (by omega)]
theorem accN_rot {op : Bool → Bool → Bool} (A : ACM op) (f : Nat → Bool) (m : Nat) : ∀ s, accN op (fun k => f ((k + s) % m)) m = accN op f m
  | 0 => accN_congr fun k hk => by rw [Nat.add_zero, Nat.mod_eq_of_lt hk]
  | s + 1 => by
    cases m with
    | zero => rfl
    | succ M =>
      rw [← accN_rot A f (M + 1) s, ← accN_rot1 A (fun k => f ((k + s) % (M + 1))) M]
      exact accN_congr fun k _ => by rw [Nat.mod_add_mod, show k + (s + 1) = k + 1 + s by omega]
theorem nxt_mod {m k : Nat} (h : k < m) : nxt m k = (k + 1) % m := by
  rcases (show k + 1 < m ∨ k + 1 = m by omega) with g | g
  · rw [nxt_mid g, Nat.mod_eq_of_lt g]
  · subst g; rw [nxt_end, Nat.mod_self]
/-- over the edges of contours -/
def accC (op : Bool → Bool → Bool) (f : P2 → P2 → Bool) (l : Ctr) : Bool := accN op (fun i => accN op (edgeC l f i) (l.m i)) l.n
theorem oddI_acc (p : P2) (l : Ctr) : oddI p l = accC xor (crossesI p) l := by
  unfold oddI accC
  rw [parN_acc]
  exact accN_congr fun i _ => parN_acc _ _
theorem touchI_acc (b : B4) (l : Ctr) : touchI b l = accC or (meetsI b) l := by
  unfold touchI accC
  rw [anyN_acc]
  exact accN_congr fun i _ => anyN_acc _ _
/-- the contours in another order, each from another point on -/
theorem accC_rot {op : Bool → Bool → Bool} (A : ACM op) (f : P2 → P2 → Bool) (L : Ctr) (s : Nat) : accC op f ⟨L.n, fun t => L.m (L.n - 1 - t), fun t k => L.p (L.n - 1 - t) ((k + s) % L.m (L.n - 1 - t))⟩ = accC op f L := by
  unfold accC
  dsimp only
  rw [← accN_rev A L.n (fun i => accN op (edgeC L f i) (L.m i))]
  refine accN_congr fun t _ => ?_
  rw [← accN_rot A (edgeC L f (L.n - 1 - t)) (L.m (L.n - 1 - t)) s]
  refine accN_congr fun k hk => ?_
  unfold edgeC
  dsimp only
  have h0 : 0 < L.m (L.n - 1 - t) := by omega
  rw [nxt_mod hk, nxt_mod (Nat.mod_lt _ h0), Nat.mod_add_mod, Nat.mod_add_mod, show k + s + 1 = k + 1 + s by omega]
theorem acc_back1 {op : Bool → Bool → Bool} (A : ACM op) (f : P2 → P2 → Bool) (hf : ∀ a e, f a e = f e a) (p : Nat → P2) (m : Nat) : accN op (fun k => f (p (m - 1 - k)) (p (m - 1 - nxt m k))) m = accN op (fun k => f (p k) (p (nxt m k))) m := by
  cases m with
  | zero => rfl
  | succ M =>
    simp only [accN]
    rw [← accN_rev A M (fun k => f (p k) (p (nxt (M + 1) k))), nxt_end, hf]
    rw [show M + 1 - 1 - M = 0 by omega, show M + 1 - 1 - 0 = M by omega]
    congr 1
    refine accN_congr fun k hk => ?_
    rw [nxt_mid (by omega), nxt_mid (by omega), hf]
    rw [show M + 1 - 1 - (k + 1) = M - 1 - k by omega, show M + 1 - 1 - k = M - 1 - k + 1 by omega]
/-- each backwards -/
theorem accC_back {op : Bool → Bool → Bool} (A : ACM op) (f : P2 → P2 → Bool) (hf : ∀ a e, f a e = f e a) (L : Ctr) : accC op f ⟨L.n, fun t => L.m (L.n - 1 - t), fun t k => L.p (L.n - 1 - t) (L.m (L.n - 1 - t) - 1 - k)⟩ = accC op f L := by
  unfold accC
  rw [← accN_rev A L.n (fun i => accN op (edgeC L f i) (L.m i))]
  exact accN_congr fun t _ => acc_back1 A f hf (L.p (L.n - 1 - t)) (L.m (L.n - 1 - t))
def mapC (T : P2 → P2) (l : Ctr) : Ctr := ⟨l.n, l.m, fun i k => T (l.p i k)⟩
theorem accC_map {op : Bool → Bool → Bool} {f g : P2 → P2 → Bool} {T : P2 → P2} {l : Ctr} (h : ∀ i, i < l.n → ∀ k, k < l.m i → ∀ j, j < l.m i → f (T (l.p i k)) (T (l.p i j)) = g (l.p i k) (l.p i j)) : accC op f (mapC T l) = accC op g l :=
  accN_congr fun i hi => accN_congr fun k hk => h i hi k hk _ (nxt_lt hk)
/-! ### moved, turned, mirrored: no wraps -/
def tmP (u p : P2) : P2 := ⟨p.x + u.x, p.y + u.y⟩
def tmB (u : P2) (b : B4) : B4 := ⟨b.x0 + u.x, b.y0 + u.y, b.x1 + u.x, b.y1 + u.y⟩
def tqP (p : P2) : P2 := ⟨-p.y, p.x⟩
def tqB (b : B4) : B4 := ⟨-b.y1, b.x0, -b.y0, b.x1⟩
def txP (p : P2) : P2 := ⟨-p.x, p.y⟩
def txB (b : B4) : B4 := ⟨-b.x1, b.y0, -b.x0, b.y1⟩
theorem cross_tm (u a e c : P2) : crossI (tmP u a) (tmP u e) (tmP u c) = crossI a e c := by unfold crossI tmP; dsimp only; grind
theorem cross_tq (a e c : P2) : crossI (tqP a) (tqP e) (tqP c) = crossI a e c := by unfold crossI tqP; dsimp only; grind
theorem cross_tx (a e c : P2) : crossI (txP a) (txP e) (txP c) = -(crossI a e c) := by unfold crossI txP; dsimp only; grind
theorem all4_tm (f : P2 → Bool) (u : P2) (b : B4) : all4 f (tmB u b) = all4 (fun c => f (tmP u c)) b := rfl
theorem all4_tq (f : P2 → Bool) (b : B4) : all4 f (tqB b) = all4 (fun c => f (tqP c)) b := by
  unfold all4 tqB tqP
  dsimp only
  cases f ⟨-b.y1, b.x0⟩ <;> cases f ⟨-b.y0, b.x0⟩ <;> cases f ⟨-b.y1, b.x1⟩ <;> cases f ⟨-b.y0, b.x1⟩ <;> rfl
theorem all4_tx (f : P2 → Bool) (b : B4) : all4 f (txB b) = all4 (fun c => f (txP c)) b := by
  unfold all4 txB txP
  dsimp only
  cases f ⟨-b.x1, b.y0⟩ <;> cases f ⟨-b.x0, b.y0⟩ <;> cases f ⟨-b.x1, b.y1⟩ <;> cases f ⟨-b.x0, b.y1⟩ <;> rfl
theorem sep_tm (u : P2) (b : B4) (a e : P2) : sepI (tmB u b) (tmP u a) (tmP u e) = sepI b a e := by
  unfold sepI tmB tmP; dsimp only
  rw [Bool.eq_iff_iff]; simp only [Bool.or_eq_true, decide_eq_true_eq]; omega
theorem sep_tq (b : B4) (a e : P2) : sepI (tqB b) (tqP a) (tqP e) = sepI b a e := by
  unfold sepI tqB tqP; dsimp only
  rw [Bool.eq_iff_iff]; simp only [Bool.or_eq_true, decide_eq_true_eq]; omega
theorem sep_tx (b : B4) (a e : P2) : sepI (txB b) (txP a) (txP e) = sepI b a e := by
  unfold sepI txB txP; dsimp only
  rw [Bool.eq_iff_iff]; simp only [Bool.or_eq_true, decide_eq_true_eq]; omega
theorem meets_tm (u : P2) (b : B4) (a e : P2) : meetsI (tmB u b) (tmP u a) (tmP u e) = meetsI b a e := by
  unfold meetsI
  rw [sep_tm, all4_tm, all4_tm]
  simp only [cross_tm]
theorem meets_tq (b : B4) (a e : P2) : meetsI (tqB b) (tqP a) (tqP e) = meetsI b a e := by
  unfold meetsI
  rw [sep_tq, all4_tq, all4_tq]
  simp only [cross_tq]
theorem meets_tx (b : B4) (a e : P2) : meetsI (txB b) (txP a) (txP e) = meetsI b a e := by
  have e1 : ∀ x : Int, decide (-x > 0) = decide (x < 0) := fun x => decide_eq_decide.2 (by omega)
  have e2 : ∀ x : Int, decide (-x < 0) = decide (x > 0) := fun x => decide_eq_decide.2 (by omega)
  unfold meetsI
  rw [sep_tx, all4_tx, all4_tx]
  simp only [cross_tx, e1, e2]
  cases sepI b a e <;> cases all4 (fun c => decide (crossI a e c > 0)) b <;> cases all4 (fun c => decide (crossI a e c < 0)) b <;> rfl
theorem touch_tm (u : P2) (b : B4) (l : Ctr) : touchI (tmB u b) (mapC (tmP u) l) = touchI b l := by
  rw [touchI_acc, touchI_acc]; exact accC_map fun i _ k _ j _ => meets_tm u b _ _
theorem touch_tq (b : B4) (l : Ctr) : touchI (tqB b) (mapC tqP l) = touchI b l := by
  rw [touchI_acc, touchI_acc]; exact accC_map fun i _ k _ j _ => meets_tq b _ _
theorem touch_tx (b : B4) (l : Ctr) : touchI (txB b) (mapC txP l) = touchI b l := by
  rw [touchI_acc, touchI_acc]; exact accC_map fun i _ k _ j _ => meets_tx b _ _
theorem crosses_tm (u p a e : P2) : crossesI (tmP u p) (tmP u a) (tmP u e) = crossesI p a e := by
  unfold crossesI
  rw [cross_tm]
  have h1 : ∀ x y z : Int, decide (x + z > y + z) = decide (x > y) := fun x y z => decide_eq_decide.2 (by omega)
  unfold tmP
  dsimp only
  rw [h1, h1]
  by_cases k : e.y > a.y
  · rw [if_pos k, if_pos (show e.y + u.y > a.y + u.y by omega)]
  · rw [if_neg k, if_neg (show ¬ e.y + u.y > a.y + u.y by omega)]
theorem odd_tm (u p : P2) (l : Ctr) : oddI (tmP u p) (mapC (tmP u) l) = oddI p l := by
  rw [oddI_acc, oddI_acc]; exact accC_map fun i _ k _ j _ => crosses_tm u p _ _
/-! ### the ray to another side -/
theorem crossI_up {p a e : P2} (h : a.y ≤ e.y) : crossesI p a e = decide (a.y ≤ p.y ∧ p.y < e.y ∧ 0 < crossI a e p) := by
  rw [Bool.eq_iff_iff, decide_eq_true_eq]; exact crosses_up h
/-- not on the edge, where the edge passes the point's height -/
theorem off_y {p a e : P2} (ho : onI p a e = false) (h1 : a.y ≤ p.y) (h2 : p.y ≤ e.y) (h : a.y < e.y) : crossI a e p ≠ 0 := by
  intro h0
  unfold onI at ho
  rw [decide_eq_false_iff_not] at ho
  apply ho
  have key : (e.x - a.x) * (p.y - a.y) = (p.x - a.x) * (e.y - a.y) := by unfold crossI at h0; grind
  have d0 : 0 ≤ p.y - a.y := by omega
  have d1 : 0 ≤ e.y - p.y := by omega
  have d2 : 0 < e.y - a.y := by omega
  have key2 : (e.x - a.x) * (e.y - p.y) = (e.x - p.x) * (e.y - a.y) := by grind
  refine ⟨?_, ?_, by omega, by omega, h0⟩
  · rcases Int.le_total a.x e.x with g | g
    · have := Int.mul_nonneg (show 0 ≤ e.x - a.x by omega) d0
      rcases (show a.x ≤ p.x ∨ p.x < a.x by omega) with k | k
      · omega
      · have := Int.mul_pos (show 0 < a.x - p.x by omega) d2
        have e : (p.x - a.x) * (e.y - a.y) = -((a.x - p.x) * (e.y - a.y)) := by grind
        omega
    · have := Int.mul_nonneg (show 0 ≤ a.x - e.x by omega) d1
      have e1 : (e.x - a.x) * (e.y - p.y) = -((a.x - e.x) * (e.y - p.y)) := by grind
      rcases (show e.x ≤ p.x ∨ p.x < e.x by omega) with k | k
      · omega
      · have := Int.mul_pos (show 0 < e.x - p.x by omega) d2
        omega
  · rcases Int.le_total a.x e.x with g | g
    · have := Int.mul_nonneg (show 0 ≤ e.x - a.x by omega) d1
      rcases (show p.x ≤ e.x ∨ e.x < p.x by omega) with k | k
      · omega
      · have := Int.mul_pos (show 0 < p.x - e.x by omega) d2
        have e : (e.x - p.x) * (e.y - a.y) = -((p.x - e.x) * (e.y - a.y)) := by grind
        omega
    · have := Int.mul_nonneg (show 0 ≤ a.x - e.x by omega) d0
      have e1 : (e.x - a.x) * (p.y - a.y) = -((a.x - e.x) * (p.y - a.y)) := by grind
      rcases (show p.x ≤ a.x ∨ a.x < p.x by omega) with k | k
      · omega
      · have := Int.mul_pos (show 0 < p.x - a.x by omega) d2
        omega
theorem onI_swp (p a e : P2) : onI p e a = onI p a e := by
  have h : crossI e a p = -(crossI a e p) := by unfold crossI; grind
  unfold onI
  rw [h, decide_eq_decide]; omega
/-- mirrored: the ray goes to the left -/
theorem mirror_ray {p a e : P2} (ho : onI p a e = false) : xor (crossesI p a e) (crossesI (txP p) (txP a) (txP e)) = xor (decide (a.y > p.y)) (decide (e.y > p.y)) := by
  have one : ∀ {a e : P2}, a.y ≤ e.y → onI p a e = false → xor (crossesI p a e) (crossesI (txP p) (txP a) (txP e)) = xor (decide (a.y > p.y)) (decide (e.y > p.y)) := by
    intro a e h ho
    rw [crossI_up h, crossI_up (p := txP p) (a := txP a) (e := txP e) h, cross_tx, xor_dc, xor_dc, decide_eq_decide]
    show _ ↔ _
    unfold txP
    dsimp only
    by_cases k : a.y ≤ p.y ∧ p.y < e.y
    · have := off_y ho k.1 (by omega) (by omega)
      omega
    · omega
  rcases Int.le_total a.y e.y with h | h
  · exact one h ho
  · rw [← onI_swp] at ho
    rw [← crossesI_swp p, ← crossesI_swp (txP p), one h ho, Bool.xor_comm]
/-- turned: the ray goes down -/
theorem turn_ray {p a e : P2} (ho : onI p a e = false) : xor (crossesI p a e) (crossesI (tqP p) (tqP a) (tqP e)) = xor (decide (a.x > p.x ∧ a.y ≤ p.y)) (decide (e.x > p.x ∧ e.y ≤ p.y)) := by
  have one : ∀ {a e : P2}, a.y ≤ e.y → onI p a e = false → xor (crossesI p a e) (crossesI (tqP p) (tqP a) (tqP e)) = xor (decide (a.x > p.x ∧ a.y ≤ p.y)) (decide (e.x > p.x ∧ e.y ≤ p.y)) := by
    intro a e h ho
    have G : crossI a e p = (e.x - a.x) * (p.y - a.y) - (e.y - a.y) * (p.x - a.x) := rfl
    have G2 : crossI a e p = (e.x - a.x) * (p.y - e.y) - (e.y - a.y) * (p.x - e.x) := by unfold crossI; grind
    -- what the places say
    have y0 : p.y < a.y ∨ (a.y ≤ p.y ∧ p.y < e.y) ∨ e.y ≤ p.y := by omega
    rw [crossI_up h]
    rcases Int.le_total a.x e.x with g | g
    · rw [crossI_up (p := tqP p) (a := tqP a) (e := tqP e) g, cross_tq]
      unfold tqP
      dsimp only
      rw [xor_dc, xor_dc, decide_eq_decide]
      have t1 := Int.mul_nonneg (show 0 ≤ e.x - a.x by omega) (show 0 ≤ e.y - a.y by omega)
      rcases (show p.x < a.x ∨ (a.x ≤ p.x ∧ p.x < e.x) ∨ e.x ≤ p.x by omega) with k | k | k
      · -- all of it right
        by_cases z : a.y ≤ p.y ∧ p.y < e.y
        · have := left_of (a := a) (e := e) (p := p) z.1 (by omega) (by omega) k (by omega); omega
        · omega
      · rcases y0 with z | z | z
        · -- above
          have u1 := Int.mul_nonneg (show 0 ≤ e.x - a.x by omega) (show 0 ≤ a.y - p.y by omega)
          have u2 := Int.mul_nonneg (show 0 ≤ e.y - a.y by omega) (show 0 ≤ p.x - a.x by omega)
          have u3 : (e.x - a.x) * (p.y - a.y) = -((e.x - a.x) * (a.y - p.y)) := by grind
          omega
        · have := off_y ho z.1 (by omega) (by omega); omega
        · -- below
          have u1 := Int.mul_nonneg (show 0 ≤ e.x - a.x by omega) (show 0 ≤ p.y - e.y by omega)
          have u2 := Int.mul_nonneg (show 0 ≤ e.y - a.y by omega) (show 0 ≤ e.x - p.x by omega)
          have u3 : (e.y - a.y) * (p.x - e.x) = -((e.y - a.y) * (e.x - p.x)) := by grind
          have nz : crossI a e p ≠ 0 := by
            intro h0
            have f := off_y (p := tqP p) (a := tqP a) (e := tqP e) (by
              unfold onI at ho ⊢
              rw [decide_eq_false_iff_not] at ho ⊢
              rw [cross_tq]
              unfold tqP
              dsimp only
              omega) (show a.x ≤ p.x by omega) (show p.x ≤ e.x by omega) (show a.x < e.x by omega)
            rw [cross_tq] at f; exact f h0
          omega
      · by_cases z : a.y ≤ p.y ∧ p.y < e.y
        · have := right_of (a := a) (e := e) (p := p) z.1 (by omega) (by omega) k; omega
        · omega
    · rw [← crossesI_swp (tqP p), crossI_up (p := tqP p) (a := tqP e) (e := tqP a) g, cross_tq]
      have s : crossI e a p = -(crossI a e p) := by unfold crossI; grind
      rw [s]
      unfold tqP
      dsimp only
      rw [xor_dc, xor_dc, decide_eq_decide]
      rcases (show p.x < e.x ∨ (e.x ≤ p.x ∧ p.x < a.x) ∨ a.x ≤ p.x by omega) with k | k | k
      · by_cases z : a.y ≤ p.y ∧ p.y < e.y
        · have := left_of (a := a) (e := e) (p := p) z.1 (by omega) (by omega) (by omega) k; omega
        · omega
      · rcases y0 with z | z | z
        · have u1 := Int.mul_nonneg (show 0 ≤ a.x - e.x by omega) (show 0 ≤ a.y - p.y by omega)
          have u2 := Int.mul_nonneg (show 0 ≤ e.y - a.y by omega) (show 0 ≤ a.x - p.x by omega)
          have u3 : (e.x - a.x) * (p.y - a.y) = (a.x - e.x) * (a.y - p.y) := by grind
          have u4 : (e.y - a.y) * (p.x - a.x) = -((e.y - a.y) * (a.x - p.x)) := by grind
          omega
        · have := off_y ho z.1 (by omega) (by omega); omega
        · have u1 := Int.mul_nonneg (show 0 ≤ a.x - e.x by omega) (show 0 ≤ p.y - e.y by omega)
          have u2 := Int.mul_nonneg (show 0 ≤ e.y - a.y by omega) (show 0 ≤ p.x - e.x by omega)
          have u3 : (e.x - a.x) * (p.y - e.y) = -((a.x - e.x) * (p.y - e.y)) := by grind
          have nz : crossI a e p ≠ 0 := by
            intro h0
            have f := off_y (p := tqP p) (a := tqP e) (e := tqP a) (by
              rw [onI_swp]
              unfold onI at ho ⊢
              rw [decide_eq_false_iff_not] at ho ⊢
              rw [cross_tq]
              unfold tqP
              dsimp only
              omega) (show e.x ≤ p.x by omega) (show p.x ≤ a.x by omega) (show e.x < a.x by omega)
            rw [cross_tq, s] at f; omega
          omega
      · by_cases z : a.y ≤ p.y ∧ p.y < e.y
        · have := right_of (a := a) (e := e) (p := p) z.1 (by omega) k (by omega); omega
        · omega
  rcases Int.le_total a.y e.y with h | h
  · exact one h ho
  · rw [← onI_swp] at ho
    rw [← crossesI_swp p, ← crossesI_swp (tqP p), one h ho, Bool.xor_comm]
theorem spot_off {l : Ctr} {p : P2} (h : touchI (spotB p) l = false) : ∀ i, i < l.n → ∀ k, k < l.m i → onI p (l.p i k) (l.p i (nxt (l.m i) k)) = false := fun i hi k hk => by
  rw [← spot_meets]; exact touchI_no h i hi k hk
theorem odd_ray {l l' : Ctr} {p p' : P2} (R : P2 → Bool) (T : P2 → P2) (hl : l' = mapC T l) (h : touchI (spotB p) l = false) (hr : ∀ a e, onI p a e = false → xor (crossesI p a e) (crossesI p' (T a) (T e)) = xor (R a) (R e)) : oddI p' l' = oddI p l := by
  subst hl
  have e : xor (oddI p l) (oddI p' (mapC T l)) = false := by
    have h2 : oddI p' (mapC T l) = parN (fun i => parN (fun k => crossesI p' (T (l.p i k)) (T (l.p i (nxt (l.m i) k)))) (l.m i)) l.n := rfl
    rw [h2]
    unfold oddI
    rw [parN_xor, parN_congr (g := fun _ => false) fun i hi => ?_, parN_false]
    rw [parN_xor, parN_congr (f := fun k => xor (edgeC l (crossesI p) i k) (crossesI p' (T (l.p i k)) (T (l.p i (nxt (l.m i) k))))) (g := fun k => xor (R (l.p i k)) (R (l.p i (nxt (l.m i) k)))) fun k hk => hr _ _ (spot_off h i hi k hk)]
    exact par_round (fun k => R (l.p i k)) (l.m i)
  revert e
  cases oddI p l <;> cases oddI p' (mapC T l) <;> simp
theorem odd_tx {l : Ctr} {p : P2} (h : touchI (spotB p) l = false) : oddI (txP p) (mapC txP l) = oddI p l := odd_ray (fun w => decide (w.y > p.y)) txP rfl h fun _ _ => mirror_ray
theorem odd_tq {l : Ctr} {p : P2} (h : touchI (spotB p) l = false) : oddI (tqP p) (mapC tqP l) = oddI p l := odd_ray (fun w => decide (w.x > p.x ∧ w.y ≤ p.y)) tqP rfl h fun _ _ => turn_ray
/-! ### Has and Class, without wraps -/
def hasC (p : P2) (l : Ctr) : Bool := touchI (spotB p) l || oddI p l
def clsC (b : B4) (l : Ctr) : Int := if touchI b l = true then 1 else if oddI ⟨b.x0, b.y0⟩ l = true then 2 else 0
theorem hasC_tm (u p : P2) (l : Ctr) : hasC (tmP u p) (mapC (tmP u) l) = hasC p l := by
  unfold hasC
  rw [show spotB (tmP u p) = tmB u (spotB p) from rfl, touch_tm, odd_tm]
theorem hasC_tq (p : P2) (l : Ctr) : hasC (tqP p) (mapC tqP l) = hasC p l := by
  unfold hasC
  rw [show spotB (tqP p) = tqB (spotB p) from rfl, touch_tq]
  cases h : touchI (spotB p) l with
  | true => rfl
  | false => rw [odd_tq h]
theorem hasC_tx (p : P2) (l : Ctr) : hasC (txP p) (mapC txP l) = hasC p l := by
  unfold hasC
  rw [show spotB (txP p) = txB (spotB p) from rfl, touch_tx]
  cases h : touchI (spotB p) l with
  | true => rfl
  | false => rw [odd_tx h]
theorem clsC_tm (u : P2) (b : B4) (l : Ctr) : clsC (tmB u b) (mapC (tmP u) l) = clsC b l := by
  unfold clsC
  rw [touch_tm, show (⟨(tmB u b).x0, (tmB u b).y0⟩ : P2) = tmP u ⟨b.x0, b.y0⟩ from rfl, odd_tm]
theorem clsC_tq {b : B4} (hx : b.x0 ≤ b.x1) (hy : b.y0 ≤ b.y1) (l : Ctr) : clsC (tqB b) (mapC tqP l) = clsC b l := by
  unfold clsC
  rw [touch_tq]
  cases h : touchI b l with
  | true => rfl
  | false =>
    have h1 : hasI b ⟨b.x0, b.y1⟩ := ⟨Int.le_refl _, hx, hy, Int.le_refl _⟩
    rw [show (⟨(tqB b).x0, (tqB b).y0⟩ : P2) = tqP ⟨b.x0, b.y1⟩ from rfl, odd_tq (touch_spot h h1), odd_box h h1 (q := ⟨b.x0, b.y0⟩) ⟨Int.le_refl _, hx, Int.le_refl _, hy⟩]
theorem clsC_tx {b : B4} (hx : b.x0 ≤ b.x1) (hy : b.y0 ≤ b.y1) (l : Ctr) : clsC (txB b) (mapC txP l) = clsC b l := by
  unfold clsC
  rw [touch_tx]
  cases h : touchI b l with
  | true => rfl
  | false =>
    have h1 : hasI b ⟨b.x1, b.y0⟩ := ⟨hx, Int.le_refl _, Int.le_refl _, hy⟩
    rw [show (⟨(txB b).x0, (txB b).y0⟩ : P2) = txP ⟨b.x1, b.y0⟩ from rfl, odd_tx (touch_spot h h1), odd_box h h1 (q := ⟨b.x0, b.y0⟩) ⟨Int.le_refl _, hx, Int.le_refl _, hy⟩]
theorem clsC_eq {b : B4} {l : Ctr} (hb : BR b) (hx : b.x0 ≤ b.x1) (hy : b.y0 ≤ b.y1) (hl : PRC l) : polyClassF b l = clsC b l := by
  have hC : hasI b ⟨b.x0, b.y0⟩ := ⟨Int.le_refl _, hx, Int.le_refl _, hy⟩
  unfold polyClassF clsC
  rw [touchF_eq hb hx hy hl, oddF_eq ⟨hb.x0, hb.y0⟩ hl, (boxHas_eq b ⟨b.x0, b.y0⟩).2 hC]
  cases touchI b l <;> cases oddI ⟨b.x0, b.y0⟩ l <;> rfl
theorem hasC_eq {p : P2} {l : Ctr} (hp : PR p) (hl : PRC l) : polyHasF p l = hasC p l := by
  unfold polyHasF hasC
  rw [orB_eq, touchF_eq (b := spotF p) ⟨hp.x, hp.y, hp.x, hp.y⟩ (Int.le_refl _) (Int.le_refl _) hl, oddF_eq hp hl]
  rfl
end Go.Proofs.Ytgdjfclpncpnpaa
