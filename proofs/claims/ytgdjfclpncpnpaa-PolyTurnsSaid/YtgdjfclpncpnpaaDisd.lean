/-
  OWN WORK. The discs: DiscSure and DiscMoves.
-/
import Derived.Test.YtgdjfclpncpnpaaDisc
namespace Go.Proofs.Ytgdjfclpncpnpaa
open Go Go.RowKit Sym

theorem up_eq (c : Bool) {n : Int} (h0 : 0 ≤ n) (h1 : n ≤ 1000) : up c n = n + (if c then 1 else 0) := by
  unfold up
  cases c
  · simp
  · rw [bif_t, W_id (by omega) (by omega)]; simp
/-- four answers, counted -/
theorem cnt4_eq (f : P2 → Bool) (b : B4) : cnt4 f b = (if f ⟨b.x0, b.y0⟩ then 1 else 0) + (if f ⟨b.x1, b.y0⟩ then 1 else 0) + (if f ⟨b.x0, b.y1⟩ then 1 else 0) + (if f ⟨b.x1, b.y1⟩ then 1 else 0) := by
  unfold cnt4
  generalize f ⟨b.x0, b.y0⟩ = p; generalize f ⟨b.x1, b.y0⟩ = q; generalize f ⟨b.x0, b.y1⟩ = r; generalize f ⟨b.x1, b.y1⟩ = s
  cases p <;> cases q <;> cases r <;> cases s <;> decide
theorem cnt4_four (f : P2 → Bool) (b : B4) : cnt4 f b = 4 ↔ (f ⟨b.x0, b.y0⟩ = true ∧ f ⟨b.x1, b.y0⟩ = true ∧ f ⟨b.x0, b.y1⟩ = true ∧ f ⟨b.x1, b.y1⟩ = true) := by
  rw [cnt4_eq]
  generalize f ⟨b.x0, b.y0⟩ = p; generalize f ⟨b.x1, b.y0⟩ = q; generalize f ⟨b.x0, b.y1⟩ = r; generalize f ⟨b.x1, b.y1⟩ = s
  cases p <;> cases q <;> cases r <;> cases s <;> decide
theorem cnt4_zero (f : P2 → Bool) (b : B4) : cnt4 f b = 0 ↔ (f ⟨b.x0, b.y0⟩ = false ∧ f ⟨b.x1, b.y0⟩ = false ∧ f ⟨b.x0, b.y1⟩ = false ∧ f ⟨b.x1, b.y1⟩ = false) := by
  rw [cnt4_eq]
  generalize f ⟨b.x0, b.y0⟩ = p; generalize f ⟨b.x1, b.y0⟩ = q; generalize f ⟨b.x0, b.y1⟩ = r; generalize f ⟨b.x1, b.y1⟩ = s
  cases p <;> cases q <;> cases r <;> cases s <;> decide
theorem cnt4_bd (f : P2 → Bool) (b : B4) : 0 ≤ cnt4 f b ∧ cnt4 f b ≤ 4 := by
  rw [cnt4_eq]
  generalize f ⟨b.x0, b.y0⟩ = p; generalize f ⟨b.x1, b.y0⟩ = q; generalize f ⟨b.x0, b.y1⟩ = r; generalize f ⟨b.x1, b.y1⟩ = s
  cases p <;> cases q <;> cases r <;> cases s <;> decide

/-- the farthest point of a box is a corner -/
theorem most_corner {b : B4} {p : P2} (hx : b.x0 ≤ b.x1) (hy : b.y0 ≤ b.y1) : mostI b p = max (max (distI ⟨b.x0, b.y0⟩ p) (distI ⟨b.x1, b.y0⟩ p)) (max (distI ⟨b.x0, b.y1⟩ p) (distI ⟨b.x1, b.y1⟩ p)) := by
  have e : ∀ u lo hi : Int, lo ≤ hi → reachI u lo hi * reachI u lo hi = max ((lo - u) * (lo - u)) ((hi - u) * (hi - u)) := fun u lo hi h => by
    have h5 : (reachI u lo hi = -(lo - u) ∧ hi - u ≤ -(lo - u) ∧ lo - u ≤ hi - u) ∨ (reachI u lo hi = hi - u ∧ -(hi - u) ≤ lo - u ∧ lo - u ≤ hi - u) := by unfold reachI; omega
    rcases h5 with ⟨h6, h7, h8⟩ | ⟨h6, h7, h8⟩
    · have := sq_le (x := hi - u) (y := -(lo - u)) (by omega) h7
      have e : -(lo - u) * -(lo - u) = (lo - u) * (lo - u) := by grind
      rw [h6, e]; rw [e] at this; omega
    · have := sq_le h7 h8
      rw [h6]; omega
  unfold distI mostI
  dsimp only
  rw [e _ _ _ hx, e _ _ _ hy]
  omega
/-- the nearest point of a box -/
def nearest (b : B4) (p : P2) : P2 := ⟨min (max p.x b.x0) b.x1, min (max p.y b.y0) b.y1⟩
theorem near_nearest {b : B4} {p : P2} (hx : b.x0 ≤ b.x1) (hy : b.y0 ≤ b.y1) : nearI b p = distI (nearest b p) p := by
  have e : ∀ u lo hi : Int, lo ≤ hi → gapI u lo hi * gapI u lo hi = (min (max u lo) hi - u) * (min (max u lo) hi - u) := fun u lo hi h => by
    have : gapI u lo hi = min (max u lo) hi - u ∨ gapI u lo hi = -(min (max u lo) hi - u) := by unfold gapI; split <;> omega
    rcases this with h | h <;> rw [h]
    grind
  unfold distI nearI nearest
  dsimp only
  rw [e _ _ _ hx, e _ _ _ hy]
theorem distI_comm (p q : P2) : distI p q = distI q p := by unfold distI; grind

/-! ### DiscSure -/
def discSure0 (b : B4) (c : P2) (r x y : Int) : Bool :=
  let p := lIn b x y
  let k := discClass b c r
  let n := cnt4 (fun q => discHas q c r) b
  let z : P2 := ⟨imin (imax c.x b.x0) b.x1, imin (imax c.y b.y0) b.y1⟩
  bif orB (!((k == 2) == (n == 4))) ((k == 0) == discHas z c r) then false else
  andB (andB (andB (andB (orB (k != 2) (discHas p c r)) (orB (k != 0) (!(discHas p c r)))) (decide (k ≥ 0))) (decide (k ≤ 2))) true
def discSure (b : B4) (c : P2) (r x y : Int) (small : Bool) : Bool :=
  bif small then discSure0 (lSmall (lBox b)) (lClose (lPt c) 20) (lSmR (lR r) 25) x y else discSure0 (lBox b) (lPt c) (lR r) x y
theorem PR_of_has {b : B4} {p : P2} (hb : BR b) (h : hasI b p) : PR p := by
  obtain ⟨⟨a1, a2⟩, ⟨a3, a4⟩, ⟨a5, a6⟩, a7, a8⟩ := hb
  obtain ⟨h1, h2, h3, h4⟩ := h
  exact ⟨⟨by omega, by omega⟩, ⟨by omega, by omega⟩⟩
theorem discSure0_true {b : B4} {c : P2} {r : Int} (x y : Int) (hb : BR b) (hc : PR c) (hx : b.x0 ≤ b.x1) (hy : b.y0 ≤ b.y1) (h1 : 1 ≤ r) (h2 : r ≤ 2147483648) : discSure0 b c r x y = true := by
  have hp := (lIn_has x y hb hx hy).1
  have hz : hasI b (nearest b c) := by unfold nearest hasI; dsimp only; omega
  have ez : (⟨imin (imax c.x b.x0) b.x1, imin (imax c.y b.y0) b.y1⟩ : P2) = nearest b c := by simp only [imin_eq, imax_eq]; rfl
  have q1 : hasI b ⟨b.x0, b.y0⟩ := ⟨by simp, hx, by simp, hy⟩
  have q2 : hasI b ⟨b.x1, b.y0⟩ := ⟨hx, by simp, by simp, hy⟩
  have q3 : hasI b ⟨b.x0, b.y1⟩ := ⟨by simp, hx, hy, by simp⟩
  have q4 : hasI b ⟨b.x1, b.y1⟩ := ⟨hx, by simp, hy, by simp⟩
  have hn := cnt4_four (fun q => discHas q c r) b
  try dsimp only at hn
  rw [discHas_eq (PR_of_has hb q1) hc h1 h2, discHas_eq (PR_of_has hb q2) hc h1 h2, discHas_eq (PR_of_has hb q3) hc h1 h2, discHas_eq (PR_of_has hb q4) hc h1 h2] at hn
  simp only [decide_eq_true_eq] at hn
  have hm := most_corner (b := b) (p := c) hx hy
  have hnr := near_nearest (b := b) (p := c) hx hy
  have hpn := near_le (p := c) hp
  have hpm := most_ge (p := c) hp
  rw [distI_comm] at hpn hpm
  have nm := near_le (p := c) q1
  have nm2 := most_ge (p := c) q1
  unfold discSure0
  try dsimp only
  rw [ez, discHas_eq (PR_of_has hb hz) hc h1 h2, discHas_eq (PR_of_has hb hp) hc h1 h2, discClass_eq hb hc hx hy h1 h2]
  generalize cnt4 (fun q => discHas q c r) b = n at hn
  generalize r * r = R at *
  rw [← hnr]
  generalize nearI b c = N at *
  generalize mostI b c = MM at *
  generalize distI (lIn b x y) c = D at *
  by_cases k : N > R
  · have e4 : ¬ n = 4 := fun h => by have := hn.1 h; omega
    have k1 : ¬ N ≤ R := by omega
    have k2 : ¬ D ≤ R := by omega
    simp [k, k1, k2, e4, orB, andB]
  · by_cases k' : MM ≤ R
    · have e4 : n = 4 := hn.2 (by omega)
      have k1 : N ≤ R := by omega
      have k2 : D ≤ R := by omega
      simp [k, k', k1, k2, e4, orB, andB]
    · have e4 : ¬ n = 4 := fun h => by have := hn.1 h; omega
      have k1 : N ≤ R := by omega
      simp [k, k', k1, e4, orB, andB]
theorem discSure_true (b : B4) (c : P2) (r x y : Int) (small : Bool) : discSure b c r x y small = true := by
  have a := lR_bd r
  unfold discSure
  cases small
  · have h := lBox_r b
    exact discSure0_true x y (lBox_R b) (lPt_R c) h.2.1 h.2.2.2.2.1 a.1 (by omega)
  · have h := lSmall_r (lBox b)
    have e := lSmR_bd (r := lR r) (m := 25) (by omega) (by decide) (by decide)
    exact discSure0_true x y (lSmall_R _) (close_R _ (by decide) (by decide)) h.2.2.1 h.2.2.2.2.2.2.1 e.1 (by omega)
theorem lBox_In (b : B4) : lInOk (lBox b) := (lIn_has 0 0 (lBox_R b) (lBox_r b).2.1 (lBox_r b).2.2.2.2.1).2
theorem lSmall_In (b : B4) : lInOk (lSmall b) := (lIn_has 0 0 (lSmall_R b) (lSmall_r b).2.2.1 (lSmall_r b).2.2.2.2.2.2.1).2

/-! ### DiscMoves -/
def mvB (b : B4) (by_ : P2) : B4 := ⟨W (b.x0 + by_.x), W (b.y0 + by_.y), W (b.x1 + by_.x), W (b.y1 + by_.y)⟩
def mvP (p by_ : P2) : P2 := ⟨W (p.x + by_.x), W (p.y + by_.y)⟩
def tuB (b : B4) : B4 := ⟨W (0 - b.y1), b.x0, W (0 - b.y0), b.x1⟩
def tuP (p : P2) : P2 := ⟨W (0 - p.y), p.x⟩
def miB (b : B4) : B4 := ⟨W (0 - b.x1), b.y0, W (0 - b.x0), b.y1⟩
def miP (p : P2) : P2 := ⟨W (0 - p.x), p.y⟩
def discMoves (b0 : B4) (c0 : P2) (r0 : Int) (by0 : P2) (more : Int) : Bool :=
  let b := lSmall b0
  let c := lClose c0 20
  let by_ := lClose by0 100000000
  let r := lSmR (lR r0) 25
  let k := discClass b c r
  bif orB (orB (discClass (mvB b by_) (mvP c by_) r != k) (discClass (tuB b) (tuP c) r != k)) (discClass (miB b) (miP c) r != k) then false else
  let j := discClass ⟨b.x0, b.y0, b.x0, b.y1⟩ c r
  andB (andB (orB (k == 1) (j == k)) (decide (discClass b c (W (r + (lR more).tmod 9)) ≥ k))) true
theorem gapI_shift (v lo hi d : Int) : gapI (v + d) (lo + d) (hi + d) = gapI v lo hi := by unfold gapI; split <;> split <;> omega
theorem reachI_shift (v lo hi d : Int) : reachI (v + d) (lo + d) (hi + d) = reachI v lo hi := by unfold reachI; omega
theorem gapI_neg (v lo hi : Int) (h : lo ≤ hi) : gapI (-v) (-hi) (-lo) = gapI v lo hi := by
  unfold gapI; split
  · split
    · omega
    · split <;> omega
  · split
    · split <;> omega
    · split <;> (try split) <;> omega
theorem reachI_neg (v lo hi : Int) : reachI (-v) (-hi) (-lo) = reachI v lo hi := by unfold reachI; omega

theorem lSmall_R' {b : B4} (h : -19 ≤ b.x0 ∧ b.x0 ≤ b.x1 ∧ b.x1 ≤ 26 ∧ -19 ≤ b.y0 ∧ b.y0 ≤ b.y1 ∧ b.y1 ≤ 26) : BR b := ⟨⟨by omega, by omega⟩, ⟨by omega, by omega⟩, ⟨by omega, by omega⟩, ⟨by omega, by omega⟩⟩
theorem lSmall_s (b : B4) : -19 ≤ (lSmall b).x0 ∧ (lSmall b).x0 ≤ (lSmall b).x1 ∧ (lSmall b).x1 ≤ 26 ∧ -19 ≤ (lSmall b).y0 ∧ (lSmall b).y0 ≤ (lSmall b).y1 ∧ (lSmall b).y1 ≤ 26 := by
  have := lSmall_r b; omega
theorem mv_class {b : B4} {c d : P2} {r : Int} (hb : -19 ≤ b.x0 ∧ b.x0 ≤ b.x1 ∧ b.x1 ≤ 26 ∧ -19 ≤ b.y0 ∧ b.y0 ≤ b.y1 ∧ b.y1 ≤ 26) (hc : (-20 ≤ c.x ∧ c.x ≤ 20) ∧ (-20 ≤ c.y ∧ c.y ≤ 20)) (hd : (-100000000 ≤ d.x ∧ d.x ≤ 100000000) ∧ (-100000000 ≤ d.y ∧ d.y ≤ 100000000))
    (h1 : 1 ≤ r) (h2 : r ≤ 2147483648) : discClass (mvB b d) (mvP c d) r = discClass b c r := by
  have e1 : mvB b d = ⟨b.x0 + d.x, b.y0 + d.y, b.x1 + d.x, b.y1 + d.y⟩ := by
    unfold mvB; rw [W_id (by omega) (by omega), W_id (by omega) (by omega), W_id (by omega) (by omega), W_id (by omega) (by omega)]
  have e2 : mvP c d = ⟨c.x + d.x, c.y + d.y⟩ := by unfold mvP; rw [W_id (by omega) (by omega), W_id (by omega) (by omega)]
  rw [e1, e2]
  rw [discClass_eq (b := ⟨b.x0 + d.x, b.y0 + d.y, b.x1 + d.x, b.y1 + d.y⟩) (c := ⟨c.x + d.x, c.y + d.y⟩) ⟨⟨by dsimp only; omega, by dsimp only; omega⟩, ⟨by dsimp only; omega, by dsimp only; omega⟩, ⟨by dsimp only; omega, by dsimp only; omega⟩, ⟨by dsimp only; omega, by dsimp only; omega⟩⟩ ⟨⟨by dsimp only; omega, by dsimp only; omega⟩, ⟨by dsimp only; omega, by dsimp only; omega⟩⟩ (by dsimp only; omega) (by dsimp only; omega) h1 h2,
    discClass_eq (lSmall_R' hb) ⟨⟨by omega, by omega⟩, ⟨by omega, by omega⟩⟩ hb.2.1 hb.2.2.2.2.1 h1 h2]
  have n : nearI ⟨b.x0 + d.x, b.y0 + d.y, b.x1 + d.x, b.y1 + d.y⟩ ⟨c.x + d.x, c.y + d.y⟩ = nearI b c := by unfold nearI; dsimp only; rw [gapI_shift, gapI_shift]
  have m : mostI ⟨b.x0 + d.x, b.y0 + d.y, b.x1 + d.x, b.y1 + d.y⟩ ⟨c.x + d.x, c.y + d.y⟩ = mostI b c := by unfold mostI; dsimp only; rw [reachI_shift, reachI_shift]
  rw [n, m]
theorem tu_class {b : B4} {c : P2} {r : Int} (hb : -19 ≤ b.x0 ∧ b.x0 ≤ b.x1 ∧ b.x1 ≤ 26 ∧ -19 ≤ b.y0 ∧ b.y0 ≤ b.y1 ∧ b.y1 ≤ 26) (hc : (-20 ≤ c.x ∧ c.x ≤ 20) ∧ (-20 ≤ c.y ∧ c.y ≤ 20))
    (h1 : 1 ≤ r) (h2 : r ≤ 2147483648) : discClass (tuB b) (tuP c) r = discClass b c r := by
  have e1 : tuB b = ⟨-b.y1, b.x0, -b.y0, b.x1⟩ := by
    unfold tuB; rw [W_id (by omega) (by omega), W_id (by omega) (by omega)]; simp
  have e2 : tuP c = ⟨-c.y, c.x⟩ := by unfold tuP; rw [W_id (by omega) (by omega)]; simp
  rw [e1, e2]
  rw [discClass_eq (b := ⟨-b.y1, b.x0, -b.y0, b.x1⟩) (c := ⟨-c.y, c.x⟩) ⟨⟨by dsimp only; omega, by dsimp only; omega⟩, ⟨by dsimp only; omega, by dsimp only; omega⟩, ⟨by dsimp only; omega, by dsimp only; omega⟩, ⟨by dsimp only; omega, by dsimp only; omega⟩⟩ ⟨⟨by dsimp only; omega, by dsimp only; omega⟩, ⟨by dsimp only; omega, by dsimp only; omega⟩⟩ (by dsimp only; omega) (by dsimp only; omega) h1 h2,
    discClass_eq (lSmall_R' hb) ⟨⟨by omega, by omega⟩, ⟨by omega, by omega⟩⟩ hb.2.1 hb.2.2.2.2.1 h1 h2]
  have n : nearI ⟨-b.y1, b.x0, -b.y0, b.x1⟩ ⟨-c.y, c.x⟩ = nearI b c := by unfold nearI; dsimp only; rw [gapI_neg _ _ _ (by omega)]; omega
  have m : mostI ⟨-b.y1, b.x0, -b.y0, b.x1⟩ ⟨-c.y, c.x⟩ = mostI b c := by unfold mostI; dsimp only; rw [reachI_neg]; omega
  rw [n, m]
theorem mi_class {b : B4} {c : P2} {r : Int} (hb : -19 ≤ b.x0 ∧ b.x0 ≤ b.x1 ∧ b.x1 ≤ 26 ∧ -19 ≤ b.y0 ∧ b.y0 ≤ b.y1 ∧ b.y1 ≤ 26) (hc : (-20 ≤ c.x ∧ c.x ≤ 20) ∧ (-20 ≤ c.y ∧ c.y ≤ 20))
    (h1 : 1 ≤ r) (h2 : r ≤ 2147483648) : discClass (miB b) (miP c) r = discClass b c r := by
  have e1 : miB b = ⟨-b.x1, b.y0, -b.x0, b.y1⟩ := by
    unfold miB; rw [W_id (by omega) (by omega), W_id (by omega) (by omega)]; simp
  have e2 : miP c = ⟨-c.x, c.y⟩ := by unfold miP; rw [W_id (by omega) (by omega)]; simp
  rw [e1, e2]
  rw [discClass_eq (b := ⟨-b.x1, b.y0, -b.x0, b.y1⟩) (c := ⟨-c.x, c.y⟩) ⟨⟨by dsimp only; omega, by dsimp only; omega⟩, ⟨by dsimp only; omega, by dsimp only; omega⟩, ⟨by dsimp only; omega, by dsimp only; omega⟩, ⟨by dsimp only; omega, by dsimp only; omega⟩⟩ ⟨⟨by dsimp only; omega, by dsimp only; omega⟩, ⟨by dsimp only; omega, by dsimp only; omega⟩⟩ (by dsimp only; omega) (by dsimp only; omega) h1 h2,
    discClass_eq (lSmall_R' hb) ⟨⟨by omega, by omega⟩, ⟨by omega, by omega⟩⟩ hb.2.1 hb.2.2.2.2.1 h1 h2]
  have n : nearI ⟨-b.x1, b.y0, -b.x0, b.y1⟩ ⟨-c.x, c.y⟩ = nearI b c := by unfold nearI; dsimp only; rw [gapI_neg _ _ _ (by omega)]
  have m : mostI ⟨-b.x1, b.y0, -b.x0, b.y1⟩ ⟨-c.x, c.y⟩ = mostI b c := by unfold mostI; dsimp only; rw [reachI_neg]
  rw [n, m]
/-- a part of a box is no nearer and no farther -/
theorem part_le {b s : B4} {c : P2} (h0 : b.x0 ≤ s.x0) (h1 : s.x0 ≤ s.x1) (h2 : s.x1 ≤ b.x1) (h3 : b.y0 ≤ s.y0) (h4 : s.y0 ≤ s.y1) (h5 : s.y1 ≤ b.y1) : nearI b c ≤ nearI s c ∧ mostI s c ≤ mostI b c := by
  have hz : hasI s (nearest s c) := by unfold nearest hasI; dsimp only; omega
  have hzb : hasI b (nearest s c) := by obtain ⟨a1, a2, a3, a4⟩ := hz; exact ⟨by omega, by omega, by omega, by omega⟩
  refine ⟨?_, ?_⟩
  · rw [near_nearest (b := s) h1 h4, distI_comm]; exact near_le hzb
  · rw [most_corner (b := s) h1 h4]
    have a := most_ge (b := b) (p := c) (q := ⟨s.x0, s.y0⟩) ⟨by dsimp only; omega, by dsimp only; omega, by dsimp only; omega, by dsimp only; omega⟩
    have d := most_ge (b := b) (p := c) (q := ⟨s.x1, s.y0⟩) ⟨by dsimp only; omega, by dsimp only; omega, by dsimp only; omega, by dsimp only; omega⟩
    have e := most_ge (b := b) (p := c) (q := ⟨s.x0, s.y1⟩) ⟨by dsimp only; omega, by dsimp only; omega, by dsimp only; omega, by dsimp only; omega⟩
    have f := most_ge (b := b) (p := c) (q := ⟨s.x1, s.y1⟩) ⟨by dsimp only; omega, by dsimp only; omega, by dsimp only; omega, by dsimp only; omega⟩
    rw [distI_comm] at a d e f
    omega
theorem discMoves_true (b : B4) (c : P2) (r : Int) (by_ : P2) (more : Int) : discMoves b c r by_ more = true := by
  have hb := lSmall_s b
  have hc := lClose_r c (n := 20) (by decide) (by decide)
  have hd := lClose_r by_ (n := 100000000) (by decide) (by decide)
  have a := lR_bd r
  have hr := lSmR_bd (r := lR r) (m := 25) (by omega) (by decide) (by decide)
  have a2 := lR_bd more
  have m0 := Int.tmod_nonneg (a := lR more) 9 (by omega)
  have m1 := (tmod_bd (lR more) (n := 9) (by decide)).2
  unfold discMoves
  try dsimp only
  rw [mv_class hb hc hd hr.1 (by omega), tu_class hb hc hr.1 (by omega), mi_class hb hc hr.1 (by omega), W_id (by omega) (by omega)]
  have hB := lSmall_R' hb
  have hC : PR (lClose c 20) := close_R _ (by decide) (by decide)
  rw [discClass_eq hB hC hb.2.1 hb.2.2.2.2.1 hr.1 (by omega), discClass_eq hB hC hb.2.1 hb.2.2.2.2.1 (r := lSmR (lR r) 25 + (lR more).tmod 9) (by omega) (by omega),
    discClass_eq (b := ⟨(lSmall b).x0, (lSmall b).y0, (lSmall b).x0, (lSmall b).y1⟩) ⟨hB.x0, hB.y0, hB.x0, hB.y1⟩ hC (by simp) hb.2.2.2.2.1 hr.1 (by omega)]
  have hp := part_le (b := lSmall b) (s := ⟨(lSmall b).x0, (lSmall b).y0, (lSmall b).x0, (lSmall b).y1⟩) (c := lClose c 20) (by simp) (by simp) hb.2.1 (by simp) hb.2.2.2.2.1 (by simp)
  have hpp := part_le (b := ⟨(lSmall b).x0, (lSmall b).y0, (lSmall b).x0, (lSmall b).y1⟩) (s := ⟨(lSmall b).x0, (lSmall b).y0, (lSmall b).x0, (lSmall b).y0⟩) (c := lClose c 20) (by simp) (by simp) (by simp) (by simp) (by simp) hb.2.2.2.2.1
  have hs1 := near_le (p := lClose c 20) (show hasI ⟨(lSmall b).x0, (lSmall b).y0, (lSmall b).x0, (lSmall b).y1⟩ ⟨(lSmall b).x0, (lSmall b).y0⟩ from ⟨by simp, by simp, by simp, hb.2.2.2.2.1⟩)
  have hs2 := most_ge (p := lClose c 20) (show hasI ⟨(lSmall b).x0, (lSmall b).y0, (lSmall b).x0, (lSmall b).y1⟩ ⟨(lSmall b).x0, (lSmall b).y0⟩ from ⟨by simp, by simp, by simp, hb.2.2.2.2.1⟩)
  have hrr := sq_le (x := lSmR (lR r) 25) (y := lSmR (lR r) 25 + (lR more).tmod 9) (by omega) (by omega)
  generalize (lSmR (lR r) 25 + (lR more).tmod 9) * (lSmR (lR r) 25 + (lR more).tmod 9) = R2 at *
  generalize lSmR (lR r) 25 * lSmR (lR r) 25 = R1 at *
  generalize nearI (lSmall b) (lClose c 20) = N1 at *
  generalize mostI (lSmall b) (lClose c 20) = M1 at *
  generalize nearI ⟨(lSmall b).x0, (lSmall b).y0, (lSmall b).x0, (lSmall b).y1⟩ (lClose c 20) = N2 at *
  generalize mostI ⟨(lSmall b).x0, (lSmall b).y0, (lSmall b).x0, (lSmall b).y1⟩ (lClose c 20) = M2 at *
  generalize distI (lClose c 20) ⟨(lSmall b).x0, (lSmall b).y0⟩ = D at *
  by_cases k : N1 > R1
  · have k1 : N2 > R1 := by omega
    simp [k, k1, orB, andB]
    split <;> (try split) <;> decide
  · by_cases k' : M1 ≤ R1
    · have k1 : ¬ N2 > R1 := by omega
      have k2 : M2 ≤ R1 := by omega
      have k3 : ¬ N1 > R2 := by omega
      have k4 : M1 ≤ R2 := by omega
      simp [k, k', k1, k2, k3, k4, orB, andB]
    · have k3 : ¬ N1 > R2 := by omega
      simp [k, k', k3, orB, andB]
      split <;> decide
theorem nBig : W (100000000 + 1) ≠ 0 := by decide
theorem discSure_ok (b : B4) (c : P2) (r x y : Int) (small : Bool) : CallOk Try.prog 5 [bx b, pt c, vi r, vi x, vi y, vb small] (vb true) := by
  rw [← discSure_true b c r x y small]
  exact fnOkS (fuel := 16) (tbOf_ok tbA5_ok) mo Try.func5 (by kernel_rfl) (by kernel_rfl) (by kernel_rfl) (show _ = [small = true → W (20 + 1) ≠ 0, small = true → lInOk (lSmall (lBox b)), small = false → lInOk (lBox b)] by kernel_rfl) ⟨fun _ => n21, fun _ => lSmall_In _, fun _ => lBox_In _, trivial⟩
theorem discMoves_ok (b : B4) (c : P2) (r : Int) (by_ : P2) (more : Int) : CallOk Try.prog 6 [bx b, pt c, vi r, pt by_, vi more] (vb true) := by
  rw [← discMoves_true b c r by_ more]
  exact fnOkS (fuel := 16) (tbOf_ok tbA5_ok) mo Try.func6 (by kernel_rfl) (by kernel_rfl) (by kernel_rfl) (show _ = [W (20 + 1) ≠ 0, W (100000000 + 1) ≠ 0] by kernel_rfl) ⟨n21, nBig, trivial⟩
end Go.Proofs.Ytgdjfclpncpnpaa
