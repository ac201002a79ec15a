/-
  OWN WORK. Joined by merge.py: Disd Bat Lio Bau Lis Lit Rin Tam Pia Sam.
-/
import Derived.Test.YthnenjodighlmaaQF
/-! ## Disd -/
namespace Go.Proofs.Ythnenjodighlmaa
open Go Go.RowKit Sym
set_option maxRecDepth 100000

theorem up_eq (c : Bool) {n : Int} (h0 : 0 ≤ n) (h1 : n ≤ 1000) : up c n = n + (if c then 1 else 0) := by
  unfold up
  cases c
  · simp
  · rw [bif_t, W_id (by omega) (by omega)]; simp
/-- four answers, counted -/
theorem cnt4_eq (f : P2 → Bool) (b : B4) : cnt4 f b = (if f ⟨b.x0, b.y0⟩ then 1 else 0) + (if f ⟨b.x1, b.y0⟩ then 1 else 0) + (if f ⟨b.x0, b.y1⟩ then 1 else 0) + (if f ⟨b.x1, b.y1⟩ then 1 else 0) := by
  unfold cnt4
  generalize f ⟨b.x0, b.y0⟩ = p; generalize f ⟨b.x1, b.y0⟩ = q; generalize f ⟨b.x0, b.y1⟩ = r; generalize f ⟨b.x1, b.y1⟩ = s
  cases p <;> cases q <;> cases r <;> cases s <;> decide
theorem cnt4_four (f : P2 → Bool) (b : B4) : cnt4 f b = 4 ↔ (f ⟨b.x0, b.y0⟩ = true ∧ f ⟨b.x1, b.y0⟩ = true ∧ f ⟨b.x0, b.y1⟩ = true ∧ f ⟨b.x1, b.y1⟩ = true) := by
  rw [cnt4_eq]
  generalize f ⟨b.x0, b.y0⟩ = p; generalize f ⟨b.x1, b.y0⟩ = q; generalize f ⟨b.x0, b.y1⟩ = r; generalize f ⟨b.x1, b.y1⟩ = s
  cases p <;> cases q <;> cases r <;> cases s <;> decide
theorem cnt4_zero (f : P2 → Bool) (b : B4) : cnt4 f b = 0 ↔ (f ⟨b.x0, b.y0⟩ = false ∧ f ⟨b.x1, b.y0⟩ = false ∧ f ⟨b.x0, b.y1⟩ = false ∧ f ⟨b.x1, b.y1⟩ = false) := by
  rw [cnt4_eq]
  generalize f ⟨b.x0, b.y0⟩ = p; generalize f ⟨b.x1, b.y0⟩ = q; generalize f ⟨b.x0, b.y1⟩ = r; generalize f ⟨b.x1, b.y1⟩ = s
  cases p <;> cases q <;> cases r <;> cases s <;> decide
theorem cnt4_bd (f : P2 → Bool) (b : B4) : 0 ≤ cnt4 f b ∧ cnt4 f b ≤ 4 := by
  rw [cnt4_eq]
  generalize f ⟨b.x0, b.y0⟩ = p; generalize f ⟨b.x1, b.y0⟩ = q; generalize f ⟨b.x0, b.y1⟩ = r; generalize f ⟨b.x1, b.y1⟩ = s
  cases p <;> cases q <;> cases r <;> cases s <;> decide

/-- the farthest point of a box is a corner -/
theorem most_corner {b : B4} {p : P2} (hx : b.x0 ≤ b.x1) (hy : b.y0 ≤ b.y1) : mostI b p = max (max (distI ⟨b.x0, b.y0⟩ p) (distI ⟨b.x1, b.y0⟩ p)) (max (distI ⟨b.x0, b.y1⟩ p) (distI ⟨b.x1, b.y1⟩ p)) := by
  have e : ∀ u lo hi : Int, lo ≤ hi → reachI u lo hi * reachI u lo hi = max ((lo - u) * (lo - u)) ((hi - u) * (hi - u)) := fun u lo hi h => by
    have h5 : (reachI u lo hi = -(lo - u) ∧ hi - u ≤ -(lo - u) ∧ lo - u ≤ hi - u) ∨ (reachI u lo hi = hi - u ∧ -(hi - u) ≤ lo - u ∧ lo - u ≤ hi - u) := by unfold reachI; omega
    rcases h5 with ⟨h6, h7, h8⟩ | ⟨h6, h7, h8⟩
    · have := sq_le (x := hi - u) (y := -(lo - u)) (by omega) h7
      have e : -(lo - u) * -(lo - u) = (lo - u) * (lo - u) := by grind
      rw [h6, e]; rw [e] at this; omega
    · have := sq_le h7 h8
      rw [h6]; omega
  unfold distI mostI
  dsimp only
  rw [e _ _ _ hx, e _ _ _ hy]
  omega
/-- the nearest point of a box -/
def nearest (b : B4) (p : P2) : P2 := ⟨min (max p.x b.x0) b.x1, min (max p.y b.y0) b.y1⟩
theorem near_nearest {b : B4} {p : P2} (hx : b.x0 ≤ b.x1) (hy : b.y0 ≤ b.y1) : nearI b p = distI (nearest b p) p := by
  have e : ∀ u lo hi : Int, lo ≤ hi → gapI u lo hi * gapI u lo hi = (min (max u lo) hi - u) * (min (max u lo) hi - u) := fun u lo hi h => by
    have : gapI u lo hi = min (max u lo) hi - u ∨ gapI u lo hi = -(min (max u lo) hi - u) := by unfold gapI; split <;> omega
    rcases this with h | h <;> rw [h]
    grind
  unfold distI nearI nearest
  dsimp only
  rw [e _ _ _ hx, e _ _ _ hy]
theorem distI_comm (p q : P2) : distI p q = distI q p := by unfold distI; grind

/-! ### DiscSure -/
def discSure0 (b : B4) (c : P2) (r x y : Int) : Bool :=
  let p := lIn b x y
  let k := discClass b c r
  let n := cnt4 (fun q => discHas q c r) b
  let z : P2 := ⟨imin (imax c.x b.x0) b.x1, imin (imax c.y b.y0) b.y1⟩
  bif orB (!((k == 2) == (n == 4))) ((k == 0) == discHas z c r) then false else
  andB (andB (andB (andB (orB (k != 2) (discHas p c r)) (orB (k != 0) (!(discHas p c r)))) (decide (k ≥ 0))) (decide (k ≤ 2))) true
def discSure (b : B4) (c : P2) (r x y : Int) (small : Bool) : Bool :=
  bif small then discSure0 (lSmall (lBox b)) (lClose (lPt c) 20) (lSmR (lR r) 25) x y else discSure0 (lBox b) (lPt c) (lR r) x y
theorem PR_of_has {b : B4} {p : P2} (hb : BR b) (h : hasI b p) : PR p := by
  obtain ⟨⟨a1, a2⟩, ⟨a3, a4⟩, ⟨a5, a6⟩, a7, a8⟩ := hb
  obtain ⟨h1, h2, h3, h4⟩ := h
  exact ⟨⟨by omega, by omega⟩, ⟨by omega, by omega⟩⟩
theorem discSure0_true {b : B4} {c : P2} {r : Int} (x y : Int) (hb : BR b) (hc : PR c) (hx : b.x0 ≤ b.x1) (hy : b.y0 ≤ b.y1) (h1 : 1 ≤ r) (h2 : r ≤ 2147483648) : discSure0 b c r x y = true := by
  have hp := (lIn_has x y hb hx hy).1
  have hz : hasI b (nearest b c) := by unfold nearest hasI; dsimp only; omega
  have ez : (⟨imin (imax c.x b.x0) b.x1, imin (imax c.y b.y0) b.y1⟩ : P2) = nearest b c := by simp only [imin_eq, imax_eq]; rfl
  have q1 : hasI b ⟨b.x0, b.y0⟩ := ⟨by simp, hx, by simp, hy⟩
  have q2 : hasI b ⟨b.x1, b.y0⟩ := ⟨hx, by simp, by simp, hy⟩
  have q3 : hasI b ⟨b.x0, b.y1⟩ := ⟨by simp, hx, hy, by simp⟩
  have q4 : hasI b ⟨b.x1, b.y1⟩ := ⟨hx, by simp, hy, by simp⟩
  have hn := cnt4_four (fun q => discHas q c r) b
  try dsimp only at hn
  rw [discHas_eq (PR_of_has hb q1) hc h1 h2, discHas_eq (PR_of_has hb q2) hc h1 h2, discHas_eq (PR_of_has hb q3) hc h1 h2, discHas_eq (PR_of_has hb q4) hc h1 h2] at hn
  simp only [decide_eq_true_eq] at hn
  have hm := most_corner (b := b) (p := c) hx hy
  have hnr := near_nearest (b := b) (p := c) hx hy
  have hpn := near_le (p := c) hp
  have hpm := most_ge (p := c) hp
  rw [distI_comm] at hpn hpm
  have nm := near_le (p := c) q1
  have nm2 := most_ge (p := c) q1
  unfold discSure0
  try dsimp only
  rw [ez, discHas_eq (PR_of_has hb hz) hc h1 h2, discHas_eq (PR_of_has hb hp) hc h1 h2, discClass_eq hb hc hx hy h1 h2]
  generalize cnt4 (fun q => discHas q c r) b = n at hn
  generalize r * r = R at *
  rw [← hnr]
  generalize nearI b c = N at *
  generalize mostI b c = MM at *
  generalize distI (lIn b x y) c = D at *
  by_cases k : N > R
  · have e4 : ¬ n = 4 := fun h => by have := hn.1 h; omega
    have k1 : ¬ N ≤ R := by omega
    have k2 : ¬ D ≤ R := by omega
    simp [k, k1, k2, e4, orB, andB]
  · by_cases k' : MM ≤ R
    · have e4 : n = 4 := hn.2 (by omega)
      have k1 : N ≤ R := by omega
      have k2 : D ≤ R := by omega
      simp [k, k', k1, k2, e4, orB, andB]
    · have e4 : ¬ n = 4 := fun h => by have := hn.1 h; omega
      have k1 : N ≤ R := by omega
      simp [k, k', k1, e4, orB, andB]
theorem discSure_true (b : B4) (c : P2) (r x y : Int) (small : Bool) : discSure b c r x y small = true := by
  have a := lR_bd r
  unfold discSure
  cases small
  · have h := lBox_r b
    exact discSure0_true x y (lBox_R b) (lPt_R c) h.2.1 h.2.2.2.2.1 a.1 (by omega)
  · have h := lSmall_r (lBox b)
    have e := lSmR_bd (r := lR r) (m := 25) (by omega) (by decide) (by decide)
    exact discSure0_true x y (lSmall_R _) (close_R _ (by decide) (by decide)) h.2.2.1 h.2.2.2.2.2.2.1 e.1 (by omega)
theorem lBox_In (b : B4) : lInOk (lBox b) := (lIn_has 0 0 (lBox_R b) (lBox_r b).2.1 (lBox_r b).2.2.2.2.1).2
theorem lSmall_In (b : B4) : lInOk (lSmall b) := (lIn_has 0 0 (lSmall_R b) (lSmall_r b).2.2.1 (lSmall_r b).2.2.2.2.2.2.1).2

/-! ### DiscMoves -/
def mvB (b : B4) (by_ : P2) : B4 := ⟨W (b.x0 + by_.x), W (b.y0 + by_.y), W (b.x1 + by_.x), W (b.y1 + by_.y)⟩
def mvP (p by_ : P2) : P2 := ⟨W (p.x + by_.x), W (p.y + by_.y)⟩
def tuB (b : B4) : B4 := ⟨W (0 - b.y1), b.x0, W (0 - b.y0), b.x1⟩
def tuP (p : P2) : P2 := ⟨W (0 - p.y), p.x⟩
def miB (b : B4) : B4 := ⟨W (0 - b.x1), b.y0, W (0 - b.x0), b.y1⟩
def miP (p : P2) : P2 := ⟨W (0 - p.x), p.y⟩
def discMoves (b0 : B4) (c0 : P2) (r0 : Int) (by0 : P2) (more : Int) : Bool :=
  let b := lSmall b0
  let c := lClose c0 20
  let by_ := lClose by0 100000000
  let r := lSmR (lR r0) 25
  let k := discClass b c r
  bif orB (orB (discClass (mvB b by_) (mvP c by_) r != k) (discClass (tuB b) (tuP c) r != k)) (discClass (miB b) (miP c) r != k) then false else
  let j := discClass ⟨b.x0, b.y0, b.x0, b.y1⟩ c r
  andB (andB (orB (k == 1) (j == k)) (decide (discClass b c (W (r + (lR more).tmod 9)) ≥ k))) true
theorem gapI_shift (v lo hi d : Int) : gapI (v + d) (lo + d) (hi + d) = gapI v lo hi := by unfold gapI; split <;> split <;> omega
theorem reachI_shift (v lo hi d : Int) : reachI (v + d) (lo + d) (hi + d) = reachI v lo hi := by unfold reachI; omega
theorem gapI_neg (v lo hi : Int) (h : lo ≤ hi) : gapI (-v) (-hi) (-lo) = gapI v lo hi := by
  unfold gapI; split
  · split
    · omega
    · split <;> omega
  · split
    · split <;> omega
    · split <;> (try split) <;> omega
theorem reachI_neg (v lo hi : Int) : reachI (-v) (-hi) (-lo) = reachI v lo hi := by unfold reachI; omega

theorem lSmall_R' {b : B4} (h : -19 ≤ b.x0 ∧ b.x0 ≤ b.x1 ∧ b.x1 ≤ 26 ∧ -19 ≤ b.y0 ∧ b.y0 ≤ b.y1 ∧ b.y1 ≤ 26) : BR b := ⟨⟨by omega, by omega⟩, ⟨by omega, by omega⟩, ⟨by omega, by omega⟩, ⟨by omega, by omega⟩⟩
theorem lSmall_s (b : B4) : -19 ≤ (lSmall b).x0 ∧ (lSmall b).x0 ≤ (lSmall b).x1 ∧ (lSmall b).x1 ≤ 26 ∧ -19 ≤ (lSmall b).y0 ∧ (lSmall b).y0 ≤ (lSmall b).y1 ∧ (lSmall b).y1 ≤ 26 := by
  have := lSmall_r b; omega
theorem mv_class {b : B4} {c d : P2} {r : Int} (hb : -19 ≤ b.x0 ∧ b.x0 ≤ b.x1 ∧ b.x1 ≤ 26 ∧ -19 ≤ b.y0 ∧ b.y0 ≤ b.y1 ∧ b.y1 ≤ 26) (hc : (-20 ≤ c.x ∧ c.x ≤ 20) ∧ (-20 ≤ c.y ∧ c.y ≤ 20)) (hd : (-100000000 ≤ d.x ∧ d.x ≤ 100000000) ∧ (-100000000 ≤ d.y ∧ d.y ≤ 100000000))
    (h1 : 1 ≤ r) (h2 : r ≤ 2147483648) : discClass (mvB b d) (mvP c d) r = discClass b c r := by
  have e1 : mvB b d = ⟨b.x0 + d.x, b.y0 + d.y, b.x1 + d.x, b.y1 + d.y⟩ := by
    unfold mvB; rw [W_id (by omega) (by omega), W_id (by omega) (by omega), W_id (by omega) (by omega), W_id (by omega) (by omega)]
  have e2 : mvP c d = ⟨c.x + d.x, c.y + d.y⟩ := by unfold mvP; rw [W_id (by omega) (by omega), W_id (by omega) (by omega)]
  rw [e1, e2]
  rw [discClass_eq (b := ⟨b.x0 + d.x, b.y0 + d.y, b.x1 + d.x, b.y1 + d.y⟩) (c := ⟨c.x + d.x, c.y + d.y⟩) ⟨⟨by dsimp only; omega, by dsimp only; omega⟩, ⟨by dsimp only; omega, by dsimp only; omega⟩, ⟨by dsimp only; omega, by dsimp only; omega⟩, ⟨by dsimp only; omega, by dsimp only; omega⟩⟩ ⟨⟨by dsimp only; omega, by dsimp only; omega⟩, ⟨by dsimp only; omega, by dsimp only; omega⟩⟩ (by dsimp only; omega) (by dsimp only; omega) h1 h2,
    discClass_eq (lSmall_R' hb) ⟨⟨by omega, by omega⟩, ⟨by omega, by omega⟩⟩ hb.2.1 hb.2.2.2.2.1 h1 h2]
  have n : nearI ⟨b.x0 + d.x, b.y0 + d.y, b.x1 + d.x, b.y1 + d.y⟩ ⟨c.x + d.x, c.y + d.y⟩ = nearI b c := by unfold nearI; dsimp only; rw [gapI_shift, gapI_shift]
  have m : mostI ⟨b.x0 + d.x, b.y0 + d.y, b.x1 + d.x, b.y1 + d.y⟩ ⟨c.x + d.x, c.y + d.y⟩ = mostI b c := by unfold mostI; dsimp only; rw [reachI_shift, reachI_shift]
  rw [n, m]
theorem tu_class {b : B4} {c : P2} {r : Int} (hb : -19 ≤ b.x0 ∧ b.x0 ≤ b.x1 ∧ b.x1 ≤ 26 ∧ -19 ≤ b.y0 ∧ b.y0 ≤ b.y1 ∧ b.y1 ≤ 26) (hc : (-20 ≤ c.x ∧ c.x ≤ 20) ∧ (-20 ≤ c.y ∧ c.y ≤ 20))
    (h1 : 1 ≤ r) (h2 : r ≤ 2147483648) : discClass (tuB b) (tuP c) r = discClass b c r := by
  have e1 : tuB b = ⟨-b.y1, b.x0, -b.y0, b.x1⟩ := by
    unfold tuB; rw [W_id (by omega) (by omega), W_id (by omega) (by omega)]; simp
  have e2 : tuP c = ⟨-c.y, c.x⟩ := by unfold tuP; rw [W_id (by omega) (by omega)]; simp
  rw [e1, e2]
  rw [discClass_eq (b := ⟨-b.y1, b.x0, -b.y0, b.x1⟩) (c := ⟨-c.y, c.x⟩) ⟨⟨by dsimp only; omega, by dsimp only; omega⟩, ⟨by dsimp only; omega, by dsimp only; omega⟩, ⟨by dsimp only; omega, by dsimp only; omega⟩, ⟨by dsimp only; omega, by dsimp only; omega⟩⟩ ⟨⟨by dsimp only; omega, by dsimp only; omega⟩, ⟨by dsimp only; omega, by dsimp only; omega⟩⟩ (by dsimp only; omega) (by dsimp only; omega) h1 h2,
    discClass_eq (lSmall_R' hb) ⟨⟨by omega, by omega⟩, ⟨by omega, by omega⟩⟩ hb.2.1 hb.2.2.2.2.1 h1 h2]
  have n : nearI ⟨-b.y1, b.x0, -b.y0, b.x1⟩ ⟨-c.y, c.x⟩ = nearI b c := by unfold nearI; dsimp only; rw [gapI_neg _ _ _ (by omega)]; omega
  have m : mostI ⟨-b.y1, b.x0, -b.y0, b.x1⟩ ⟨-c.y, c.x⟩ = mostI b c := by unfold mostI; dsimp only; rw [reachI_neg]; omega
  rw [n, m]
theorem mi_class {b : B4} {c : P2} {r : Int} (hb : -19 ≤ b.x0 ∧ b.x0 ≤ b.x1 ∧ b.x1 ≤ 26 ∧ -19 ≤ b.y0 ∧ b.y0 ≤ b.y1 ∧ b.y1 ≤ 26) (hc : (-20 ≤ c.x ∧ c.x ≤ 20) ∧ (-20 ≤ c.y ∧ c.y ≤ 20))
    (h1 : 1 ≤ r) (h2 : r ≤ 2147483648) : discClass (miB b) (miP c) r = discClass b c r := by
  have e1 : miB b = ⟨-b.x1, b.y0, -b.x0, b.y1⟩ := by
    unfold miB; rw [W_id (by omega) (by omega), W_id (by omega) (by omega)]; simp
  have e2 : miP c = ⟨-c.x, c.y⟩ := by unfold miP; rw [W_id (by omega) (by omega)]; simp
  rw [e1, e2]
  rw [discClass_eq (b := ⟨-b.x1, b.y0, -b.x0, b.y1⟩) (c := ⟨-c.x, c.y⟩) ⟨⟨by dsimp only; omega, by dsimp only; omega⟩, ⟨by dsimp only; omega, by dsimp only; omega⟩, ⟨by dsimp only; omega, by dsimp only; omega⟩, ⟨by dsimp only; omega, by dsimp only; omega⟩⟩ ⟨⟨by dsimp only; omega, by dsimp only; omega⟩, ⟨by dsimp only; omega, by dsimp only; omega⟩⟩ (by dsimp only; omega) (by dsimp only; omega) h1 h2,
    discClass_eq (lSmall_R' hb) ⟨⟨by omega, by omega⟩, ⟨by omega, by omega⟩⟩ hb.2.1 hb.2.2.2.2.1 h1 h2]
  have n : nearI ⟨-b.x1, b.y0, -b.x0, b.y1⟩ ⟨-c.x, c.y⟩ = nearI b c := by unfold nearI; dsimp only; rw [gapI_neg _ _ _ (by omega)]
  have m : mostI ⟨-b.x1, b.y0, -b.x0, b.y1⟩ ⟨-c.x, c.y⟩ = mostI b c := by unfold mostI; dsimp only; rw [reachI_neg]
  rw [n, m]
/-- a part of a box is no nearer and no farther -/
theorem part_le {b s : B4} {c : P2} (h0 : b.x0 ≤ s.x0) (h1 : s.x0 ≤ s.x1) (h2 : s.x1 ≤ b.x1) (h3 : b.y0 ≤ s.y0) (h4 : s.y0 ≤ s.y1) (h5 : s.y1 ≤ b.y1) : nearI b c ≤ nearI s c ∧ mostI s c ≤ mostI b c := by
  have hz : hasI s (nearest s c) := by unfold nearest hasI; dsimp only; omega
  have hzb : hasI b (nearest s c) := by obtain ⟨a1, a2, a3, a4⟩ := hz; exact ⟨by omega, by omega, by omega, by omega⟩
  refine ⟨?_, ?_⟩
  · rw [near_nearest (b := s) h1 h4, distI_comm]; exact near_le hzb
  · rw [most_corner (b := s) h1 h4]
    have a := most_ge (b := b) (p := c) (q := ⟨s.x0, s.y0⟩) ⟨by dsimp only; omega, by dsimp only; omega, by dsimp only; omega, by dsimp only; omega⟩
    have d := most_ge (b := b) (p := c) (q := ⟨s.x1, s.y0⟩) ⟨by dsimp only; omega, by dsimp only; omega, by dsimp only; omega, by dsimp only; omega⟩
    have e := most_ge (b := b) (p := c) (q := ⟨s.x0, s.y1⟩) ⟨by dsimp only; omega, by dsimp only; omega, by dsimp only; omega, by dsimp only; omega⟩
    have f := most_ge (b := b) (p := c) (q := ⟨s.x1, s.y1⟩) ⟨by dsimp only; omega, by dsimp only; omega, by dsimp only; omega, by dsimp only; omega⟩
    rw [distI_comm] at a d e f
    omega
theorem discMoves_true (b : B4) (c : P2) (r : Int) (by_ : P2) (more : Int) : discMoves b c r by_ more = true := by
  have hb := lSmall_s b
  have hc := lClose_r c (n := 20) (by decide) (by decide)
  have hd := lClose_r by_ (n := 100000000) (by decide) (by decide)
  have a := lR_bd r
  have hr := lSmR_bd (r := lR r) (m := 25) (by omega) (by decide) (by decide)
  have a2 := lR_bd more
  have m0 := Int.tmod_nonneg (a := lR more) 9 (by omega)
  have m1 := (tmod_bd (lR more) (n := 9) (by decide)).2
  unfold discMoves
  try dsimp only
  rw [mv_class hb hc hd hr.1 (by omega), tu_class hb hc hr.1 (by omega), mi_class hb hc hr.1 (by omega), W_id (by omega) (by omega)]
  have hB := lSmall_R' hb
  have hC : PR (lClose c 20) := close_R _ (by decide) (by decide)
  rw [discClass_eq hB hC hb.2.1 hb.2.2.2.2.1 hr.1 (by omega), discClass_eq hB hC hb.2.1 hb.2.2.2.2.1 (r := lSmR (lR r) 25 + (lR more).tmod 9) (by omega) (by omega),
    discClass_eq (b := ⟨(lSmall b).x0, (lSmall b).y0, (lSmall b).x0, (lSmall b).y1⟩) ⟨hB.x0, hB.y0, hB.x0, hB.y1⟩ hC (by simp) hb.2.2.2.2.1 hr.1 (by omega)]
  have hp := part_le (b := lSmall b) (s := ⟨(lSmall b).x0, (lSmall b).y0, (lSmall b).x0, (lSmall b).y1⟩) (c := lClose c 20) (by simp) (by simp) hb.2.1 (by simp) hb.2.2.2.2.1 (by simp)
  have hpp := part_le (b := ⟨(lSmall b).x0, (lSmall b).y0, (lSmall b).x0, (lSmall b).y1⟩) (s := ⟨(lSmall b).x0, (lSmall b).y0, (lSmall b).x0, (lSmall b).y0⟩) (c := lClose c 20) (by simp) (by simp) (by simp) (by simp) (by simp) hb.2.2.2.2.1
  have hs1 := near_le (p := lClose c 20) (show hasI ⟨(lSmall b).x0, (lSmall b).y0, (lSmall b).x0, (lSmall b).y1⟩ ⟨(lSmall b).x0, (lSmall b).y0⟩ from ⟨by simp, by simp, by simp, hb.2.2.2.2.1⟩)
  have hs2 := most_ge (p := lClose c 20) (show hasI ⟨(lSmall b).x0, (lSmall b).y0, (lSmall b).x0, (lSmall b).y1⟩ ⟨(lSmall b).x0, (lSmall b).y0⟩ from ⟨by simp, by simp, by simp, hb.2.2.2.2.1⟩)
  have hrr := sq_le (x := lSmR (lR r) 25) (y := lSmR (lR r) 25 + (lR more).tmod 9) (by omega) (by omega)
  generalize (lSmR (lR r) 25 + (lR more).tmod 9) * (lSmR (lR r) 25 + (lR more).tmod 9) = R2 at *
  generalize lSmR (lR r) 25 * lSmR (lR r) 25 = R1 at *
  generalize nearI (lSmall b) (lClose c 20) = N1 at *
  generalize mostI (lSmall b) (lClose c 20) = M1 at *
  generalize nearI ⟨(lSmall b).x0, (lSmall b).y0, (lSmall b).x0, (lSmall b).y1⟩ (lClose c 20) = N2 at *
  generalize mostI ⟨(lSmall b).x0, (lSmall b).y0, (lSmall b).x0, (lSmall b).y1⟩ (lClose c 20) = M2 at *
  generalize distI (lClose c 20) ⟨(lSmall b).x0, (lSmall b).y0⟩ = D at *
  by_cases k : N1 > R1
  · have k1 : N2 > R1 := by omega
    simp [k, k1, orB, andB]
    split <;> (try split) <;> decide
  · by_cases k' : M1 ≤ R1
    · have k1 : ¬ N2 > R1 := by omega
      have k2 : M2 ≤ R1 := by omega
      have k3 : ¬ N1 > R2 := by omega
      have k4 : M1 ≤ R2 := by omega
      simp [k, k', k1, k2, k3, k4, orB, andB]
    · have k3 : ¬ N1 > R2 := by omega
      simp [k, k', k3, orB, andB]
      split <;> decide
theorem nBig : W (100000000 + 1) ≠ 0 := by decide
end Go.Proofs.Ythnenjodighlmaa

/-! ## Bat -/
namespace Go.Proofs.Ythnenjodighlmaa
open Go Go.RowKit Sym
set_option maxRecDepth 100000

def barSure0 (b : B4) (a c : P2) (h x y : Int) : Bool :=
  let k := barClass b a c h
  let i := barHas (lIn b x y) a c h
  let n := cnt4 (fun q => barHas q a c h) b
  andB (andB (andB (andB (andB ((k == 2) == (n == 4)) (orB (k != 2) i)) (orB (k != 0) (andB (!i) (n == 0)))) (decide (k ≥ 0))) (decide (k ≤ 2))) true
def barSure (b : B4) (a c : P2) (h x y : Int) (small : Bool) : Bool :=
  bif small then barSure0 (lSmall (lBox b)) (lClose (lPt a) 20) (lClose (lPt c) 20) (lSmR (lR h) 12) x y else barSure0 (lBox b) (lPt a) (lPt c) (lR h) x y
theorem PR_has {b : B4} {p : P2} (hb : BR b) (h : hasI b p) : PR p := by
  obtain ⟨⟨a1, a2⟩, ⟨a3, a4⟩, ⟨a5, a6⟩, a7, a8⟩ := hb
  obtain ⟨h1, h2, h3, h4⟩ := h
  exact ⟨⟨by omega, by omega⟩, ⟨by omega, by omega⟩⟩
theorem barI_iff {p a c : P2} {h : Int} : barI p a c h = true ↔ ¬ same a c ∧ 1 ≤ h ∧ clear p a c h = true ∧ 0 ≤ dotI a c p ∧ dotI a c p ≤ distI a c := by
  unfold barI
  simp only [Bool.and_eq_true, decide_eq_true_eq, Bool.not_eq_true', decide_eq_false_iff_not, and_assoc]
theorem bar_in {b : B4} {q a c : P2} {h : Int} (hq : hasI b q) (hk : all4 (fun q => barI q a c h) b = true) : barI q a c h = true := by
  rw [all4_iff] at hk
  simp only [barI_iff] at hk ⊢
  obtain ⟨k0, hc0, -⟩ := dot_le a c hq
  have h0 := hk k0 hc0
  refine ⟨h0.1, h0.2.1, clear_in hq fun k hc => (hk k hc).2.2.1, ?_, ?_⟩
  · obtain ⟨k, hc, hl⟩ := dot_le a c hq
    have := (hk k hc).2.2.2.1; omega
  · obtain ⟨k, hc, hl⟩ := dot_ge a c hq
    have := (hk k hc).2.2.2.2; omega
theorem bar_out {b : B4} {q a c : P2} {h : Int} (hq : hasI b q) (hk : barCl b a c h = 0) : barI q a c h = false := by
  cases hi : barI q a c h
  · rfl
  · exfalso
    rw [barI_iff] at hi
    obtain ⟨s, h1, cl, d0, d1⟩ := hi
    unfold barCl at hk
    rw [if_neg (by rintro (x | x); omega; exact s x)] at hk
    cases k2 : all4 (fun q => barI q a c h) b
    · rw [k2] at hk
      simp only [Bool.false_eq_true, if_false] at hk
      have k3 : (all4 (rightI a c h) b || all4 (leftI a c h) b || all4 (fun q => decide (dotI a c q < 0)) b || all4 (fun q => decide (dotI a c q > distI a c)) b) = true := by
        cases e : (all4 (rightI a c h) b || all4 (leftI a c h) b || all4 (fun q => decide (dotI a c q < 0)) b || all4 (fun q => decide (dotI a c q > distI a c)) b)
        · rw [e] at hk; cases hk
        · rfl
      simp only [Bool.or_eq_true, all4_iff] at k3
      unfold clear at cl
      rw [decide_eq_true_eq] at cl
      rcases k3 with ((k3 | k3) | k3) | k3
      · obtain ⟨k, hc, hl⟩ := cross_ge a c hq
        have e := k3 k hc
        unfold rightI clear at e
        simp only [Bool.and_eq_true, Bool.not_eq_true', decide_eq_false_iff_not] at e
        have t := sq_le (x := -crossI a c k) (y := -crossI a c q) (by omega) (by omega)
        have e1 : -crossI a c k * -crossI a c k = crossI a c k * crossI a c k := by grind
        have e2 : -crossI a c q * -crossI a c q = crossI a c q * crossI a c q := by grind
        omega
      · obtain ⟨k, hc, hl⟩ := cross_le a c hq
        have e := k3 k hc
        unfold leftI clear at e
        simp only [Bool.and_eq_true, Bool.not_eq_true', decide_eq_false_iff_not, decide_eq_true_eq] at e
        have t := sq_le (x := crossI a c k) (y := crossI a c q) (by omega) (by omega)
        omega
      · obtain ⟨k, hc, hl⟩ := dot_ge a c hq
        have e := k3 k hc
        simp only [decide_eq_true_eq] at e; omega
      · obtain ⟨k, hc, hl⟩ := dot_le a c hq
        have e := k3 k hc
        simp only [decide_eq_true_eq] at e; omega
    · rw [k2] at hk; simp at hk
theorem barCl_012 (b : B4) (a c : P2) (h : Int) : barCl b a c h = 0 ∨ barCl b a c h = 1 ∨ barCl b a c h = 2 := by
  unfold barCl
  by_cases k : h < 1 ∨ same a c
  · rw [if_pos k]; simp
  · rw [if_neg k]; split
    · simp
    · split <;> simp
theorem barSure0_true {b : B4} {a c : P2} {h : Int} (x y : Int) (hb : BR b) (ha : PR a) (hc : PR c) (hx : b.x0 ≤ b.x1) (hy : b.y0 ≤ b.y1) (h1 : 1 ≤ h) (h2 : h ≤ 2147483648) : barSure0 b a c h x y = true := by
  have hq := (lIn_has x y hb hx hy).1
  have hQ := PR_has hb hq
  unfold barSure0
  dsimp only
  have e1 : all4 (fun q => barHas q a c h) b = all4 (fun q => barI q a c h) b := all4_congr hb fun q hq => barHas_eq hq ha hc h2
  have e2 : any4 (fun q => barHas q a c h) b = any4 (fun q => barI q a c h) b := any4_congr hb fun q hq => barHas_eq hq ha hc h2
  rw [barClass_eq hb ha hc hx hy h2, barHas_eq hQ ha hc h2, cnt4_all, cnt4_none, e1, e2]
  have f1 : (barCl b a c h == 2) = all4 (fun q => barI q a c h) b := by
    rw [Bool.eq_iff_iff, beq_iff_eq, barCl_two]
    constructor
    · exact fun k => k.2
    · intro k
      refine ⟨?_, k⟩
      have := bar_in hq k
      rw [barI_iff] at this
      rintro (z | z)
      · omega
      · exact this.1 z
  have f2 : barCl b a c h = 2 → barI (lIn b x y) a c h = true := fun k => bar_in hq (barCl_two.1 k).2
  have f3 : barCl b a c h = 0 → barI (lIn b x y) a c h = false ∧ any4 (fun q => barI q a c h) b = false := fun k => by
    refine ⟨bar_out hq k, ?_⟩
    cases e : any4 (fun q => barI q a c h) b
    · rfl
    · obtain ⟨q, hqc, hqi⟩ := any4_iff.1 e
      rw [bar_out (isC_has hx hy hqc) k] at hqi; cases hqi
  rw [f1]
  simp only [beq_self_eq_true, andB_eq, orB_eq, Bool.true_and, Bool.and_true]
  rcases barCl_012 b a c h with k | k | k
  · rw [k, (f3 k).1, (f3 k).2]; rfl
  · rw [k]; rfl
  · rw [k, f2 k]; rfl
theorem barSure_true (b : B4) (a c : P2) (h x y : Int) (small : Bool) : barSure b a c h x y small = true := by
  have r := lR_bd h
  unfold barSure
  cases small
  · have hs := lBox_r b
    exact barSure0_true _ _ (lBox_R b) (lPt_R a) (lPt_R c) hs.2.1 hs.2.2.2.2.1 (by omega) (by omega)
  · have hs := lSmall_r (lBox b)
    have e := lSmR_bd (r := lR h) (m := 12) (by omega) (by decide) (by decide)
    exact barSure0_true _ _ (lSmall_R _) (close_R _ (by decide) (by decide)) (close_R _ (by decide) (by decide)) hs.2.2.1 hs.2.2.2.2.2.2.1 (by omega) (by omega)

/-! ### BarLine -/
def barLine (a0 c0 : P2) (h0 : Int) (p0 : P2) : Bool :=
  let a := lClose a0 20
  let c := lClose c0 20
  let p := lClose p0 40
  let h := lSmR (lR h0) 12
  let d := rDot a c p
  let long := rDist c a
  let i := barHas p a c h
  andB (andB (i == andB (andB (andB (!(ptEq a c)) (decide (d ≥ 0))) (decide (d ≤ long))) (lineHas p a c h)) (barHas p c a h == i)) true
theorem lineI_bar {p a c : P2} {h : Int} (hs : ¬ same a c) (d0 : 0 ≤ dotI a c p) (d1 : dotI a c p ≤ distI a c) : lineI p a c h = clear p a c h := by
  have n := dist_nn a c
  have nz : distI a c ≠ 0 := fun x => hs ((dist_pos a c).1 x)
  have l1 := lagrange a c p; have l2 := lagrange2 a c p
  unfold lineI clear
  have mono : ∀ u v : Int, (distI a c * u ≤ v * distI a c) ↔ u ≤ v := fun u v => by
    rw [Int.mul_comm v]
    exact Int.mul_le_mul_left (by omega)
  by_cases k : dotI a c p ≤ 0
  · rw [if_pos k]
    have : dotI a c p = 0 := by omega
    rw [this] at l1
    refine decide_eq_decide.2 ?_
    rw [← mono, l1]; simp
  · rw [if_neg k]
    by_cases k' : dotI a c p ≥ distI a c
    · rw [if_pos k']
      have : dotI a c p - distI a c = 0 := by omega
      rw [this] at l2
      refine decide_eq_decide.2 ?_
      rw [← mono, l2]; simp
    · rw [if_neg k']
theorem flips (a c p : P2) : crossI c a p = -crossI a c p ∧ dotI c a p = distI a c - dotI a c p ∧ distI c a = distI a c := by
  unfold crossI dotI distI; refine ⟨?_, ?_, ?_⟩ <;> grind
theorem clear_flip (p a c : P2) (h : Int) : clear p c a h = clear p a c h := by
  obtain ⟨e1, e2, e3⟩ := flips a c p
  unfold clear
  rw [e1, e3]
  have : -crossI a c p * -crossI a c p = crossI a c p * crossI a c p := by grind
  rw [this]
theorem barI_flip (p a c : P2) (h : Int) : barI p c a h = barI p a c h := by
  obtain ⟨e1, e2, e3⟩ := flips a c p
  have e : decide (same c a) = decide (same a c) := decide_eq_decide.2 (by unfold same; omega)
  unfold barI
  rw [clear_flip, e2, e3, e]
  have f1 : decide (0 ≤ distI a c - dotI a c p) = decide (dotI a c p ≤ distI a c) := decide_eq_decide.2 (by omega)
  have f2 : decide (distI a c - dotI a c p ≤ distI a c) = decide (0 ≤ dotI a c p) := decide_eq_decide.2 (by omega)
  rw [f1, f2]
  cases decide (0 ≤ dotI a c p) <;> cases decide (dotI a c p ≤ distI a c) <;> simp
theorem barLine_true (a c : P2) (h : Int) (p : P2) : barLine a c h p = true := by
  have hr := lR_bd h
  have hh := lSmR_bd (r := lR h) (m := 12) (by omega) (by decide) (by decide)
  have hA : PR (lClose a 20) := close_R _ (by decide) (by decide)
  have hC : PR (lClose c 20) := close_R _ (by decide) (by decide)
  have hP : PR (lClose p 40) := close_R _ (by decide) (by decide)
  unfold barLine
  dsimp only
  generalize lClose a 20 = A at *
  generalize lClose c 20 = C at *
  generalize lClose p 40 = Q at *
  generalize lSmR (lR h) 12 = H at *
  rw [barHas_eq hP hA hC (by omega), barHas_eq hP hC hA (by omega), barI_flip Q A C, lineHas_eq hP hA hC (by omega) (by omega), (rDot_eq hA hC hP).1, (rDist_eq2 hC hA).1, (flips A C Q).2.2, ptEq_eq]
  simp only [andB_eq, beq_self_eq_true, Bool.and_true]
  rw [beq_iff_eq, Bool.eq_iff_iff, barI_iff]
  simp only [Bool.and_eq_true, decide_eq_true_eq, Bool.not_eq_true', decide_eq_false_iff_not]
  constructor
  · rintro ⟨s, _, k, d0, d1⟩
    exact ⟨⟨⟨s, d0⟩, d1⟩, by rw [lineI_bar s d0 d1]; exact k⟩
  · rintro ⟨⟨⟨s, d0⟩, d1⟩, k⟩
    rw [lineI_bar s d0 d1] at k
    exact ⟨s, by omega, k, d0, d1⟩
end Go.Proofs.Ythnenjodighlmaa

/-! ## Lio -/
namespace Go.Proofs.Ythnenjodighlmaa
open Go Go.RowKit Sym
set_option maxRecDepth 100000

/-- the point at m / n of the segment is near p: the square of the distance is at most R -/
structure Seg (p a c : P2) (R m n : Int) : Prop where
  n0 : 0 < n
  m0 : 0 ≤ m
  mn : m ≤ n
  d : (n * (p.x - a.x) - m * (c.x - a.x)) * (n * (p.x - a.x) - m * (c.x - a.x)) + (n * (p.y - a.y) - m * (c.y - a.y)) * (n * (p.y - a.y) - m * (c.y - a.y)) ≤ n * n * R
def OnS (p a c : P2) (R : Int) : Prop := ∃ m n, Seg p a c R m n
theorem sq_pos {n : Int} (h : 0 < n) : 0 < n * n := Int.mul_pos h h
theorem seg_norm (p a c : P2) (m n : Int) : (n * (p.x - a.x) - m * (c.x - a.x)) * (n * (p.x - a.x) - m * (c.x - a.x)) + (n * (p.y - a.y) - m * (c.y - a.y)) * (n * (p.y - a.y) - m * (c.y - a.y))
    = n * n * distI p a - 2 * (n * m * dotI a c p) + m * m * distI a c := by unfold distI dotI; grind
theorem lineI_iff {p a c : P2} {r : Int} : lineI p a c r = true ↔ OnS p a c (r * r) := by
  have hL := dist_nn a c
  have l1 := lagrange a c p
  have l2 := lagrange2 a c p
  generalize hR : r * r = R
  have hRn : 0 ≤ R := hR ▸ sq_nn r
  unfold lineI clear
  rw [hR]
  constructor
  · intro h
    by_cases k : dotI a c p ≤ 0
    · rw [if_pos k, decide_eq_true_eq] at h
      exact ⟨0, 1, by decide, by decide, by decide, by rw [seg_norm]; omega⟩
    · rw [if_neg k] at h
      by_cases k' : dotI a c p ≥ distI a c
      · rw [if_pos k', decide_eq_true_eq] at h
        refine ⟨1, 1, by decide, by decide, by decide, ?_⟩
        have : (1 * (p.x - a.x) - 1 * (c.x - a.x)) * (1 * (p.x - a.x) - 1 * (c.x - a.x)) + (1 * (p.y - a.y) - 1 * (c.y - a.y)) * (1 * (p.y - a.y) - 1 * (c.y - a.y)) = distI p c := by unfold distI; grind
        omega
      · rw [if_neg k', decide_eq_true_eq] at h
        refine ⟨dotI a c p, distI a c, by omega, by omega, by omega, ?_⟩
        rw [seg_norm]
        have g := Int.mul_le_mul_of_nonneg_left h hL
        clear l2 k k' h
        generalize dotI a c p = T at *
        generalize distI a c = L at *
        generalize crossI a c p = K at *
        generalize distI p a = A at *
        have e1 : L * L * A = L * (T * T + K * K) := by rw [← l1]; grind
        have e2 : L * (T * T + K * K) - 2 * (L * T * T) + T * T * L = L * (K * K) := by grind
        have e3 : L * L * R = L * (R * L) := by grind
        rw [e1, e2, e3]; exact g
  · rintro ⟨m, n, n0, m0, mn, h⟩
    rw [seg_norm] at h
    have hn := sq_pos n0
    by_cases k : dotI a c p ≤ 0
    · rw [if_pos k, decide_eq_true_eq]
      have e1 := Int.mul_nonneg (Int.mul_nonneg (show 0 ≤ n by omega) m0) (show 0 ≤ -dotI a c p by omega)
      have e2 := Int.mul_nonneg (Int.mul_nonneg m0 m0) hL
      have e3 : n * m * -dotI a c p = -(n * m * dotI a c p) := by grind
      exact Int.le_of_mul_le_mul_left (a := n * n) (by omega) hn
    · rw [if_neg k]
      by_cases k' : dotI a c p ≥ distI a c
      · rw [if_pos k', decide_eq_true_eq]
        have e0 : distI p c = distI p a - 2 * dotI a c p + distI a c := by unfold distI dotI; grind
        have e1 := Int.mul_nonneg (Int.mul_nonneg (show 0 ≤ n by omega) (show 0 ≤ n - m by omega)) (show 0 ≤ dotI a c p - distI a c by omega)
        have e2 := Int.mul_nonneg (Int.mul_nonneg (show 0 ≤ n - m by omega) (show 0 ≤ n - m by omega)) hL
        refine Int.le_of_mul_le_mul_left (a := n * n) ?_ hn
        rw [e0]
        generalize distI p a = A at *
        generalize dotI a c p = T at *
        generalize distI a c = L at *
        grind
      · rw [if_neg k', decide_eq_true_eq]
        have e1 := Int.mul_le_mul_of_nonneg_left h hL
        have e2 := sq_nn (n * dotI a c p - m * distI a c)
        refine Int.le_of_mul_le_mul_left (a := n * n) ?_ hn
        generalize dotI a c p = T at *
        generalize distI a c = L at *
        generalize crossI a c p = K at *
        generalize distI p a = A at *
        have e3 : L * (n * n * A - 2 * (n * m * T) + m * m * L) = n * n * (L * A) - 2 * (n * m * (T * L)) + m * m * (L * L) := by grind
        rw [e3, l1] at e1
        have e4 : n * n * (T * T + K * K) - 2 * (n * m * (T * L)) + m * m * (L * L) = (n * T - m * L) * (n * T - m * L) + n * n * (K * K) := by grind
        have e5 : L * (n * n * R) = n * n * (R * L) := by grind
        rw [e4, e5] at e1
        omega

/-! ### strokes are convex -/
theorem conv2 {x1 y1 x2 y2 u v S : Int} (h1 : x1 * x1 + y1 * y1 ≤ S) (h2 : x2 * x2 + y2 * y2 ≤ S) (hu : 0 ≤ u) (hv : 0 ≤ v) :
    (u * x1 + v * x2) * (u * x1 + v * x2) + (u * y1 + v * y2) * (u * y1 + v * y2) ≤ (u + v) * (u + v) * S := by
  have a := Int.mul_le_mul_of_nonneg_left h1 (Int.mul_nonneg hu hu)
  have b := Int.mul_le_mul_of_nonneg_left h2 (Int.mul_nonneg hv hv)
  have c1 := sq_nn (x1 - x2); have c2 := sq_nn (y1 - y2)
  have c : 2 * (x1 * x2 + y1 * y2) ≤ 2 * S := by grind
  have d := Int.mul_le_mul_of_nonneg_left c (Int.mul_nonneg hu hv)
  grind
theorem onS_mix {p q s a c : P2} {R u v : Int} (hp : OnS p a c R) (hq : OnS q a c R) (hu : 0 ≤ u) (hv : 0 ≤ v) (huv : 0 < u + v) (hx : (u + v) * s.x = u * p.x + v * q.x) (hy : (u + v) * s.y = u * p.y + v * q.y) : OnS s a c R := by
  obtain ⟨m1, n1, n10, m10, mn1, d1⟩ := hp
  obtain ⟨m2, n2, n20, m20, mn2, d2⟩ := hq
  refine ⟨u * (n2 * m1) + v * (n1 * m2), n1 * n2 * (u + v), Int.mul_pos (Int.mul_pos n10 n20) huv, ?_, ?_, ?_⟩
  · have := Int.mul_nonneg hu (Int.mul_nonneg (Int.le_of_lt n20) m10)
    have := Int.mul_nonneg hv (Int.mul_nonneg (Int.le_of_lt n10) m20)
    omega
  · have a1 := Int.mul_le_mul_of_nonneg_left (Int.mul_le_mul_of_nonneg_left mn1 (Int.le_of_lt n20)) hu
    have a2 := Int.mul_le_mul_of_nonneg_left (Int.mul_le_mul_of_nonneg_left mn2 (Int.le_of_lt n10)) hv
    have e : n1 * n2 * (u + v) = u * (n2 * n1) + v * (n1 * n2) := by grind
    omega
  · have k1 := Int.mul_le_mul_of_nonneg_left d1 (Int.le_of_lt (sq_pos n20))
    have k2 := Int.mul_le_mul_of_nonneg_left d2 (Int.le_of_lt (sq_pos n10))
    have cv := conv2 (x1 := n2 * (n1 * (p.x - a.x) - m1 * (c.x - a.x))) (y1 := n2 * (n1 * (p.y - a.y) - m1 * (c.y - a.y))) (x2 := n1 * (n2 * (q.x - a.x) - m2 * (c.x - a.x))) (y2 := n1 * (n2 * (q.y - a.y) - m2 * (c.y - a.y))) (S := n1 * n1 * (n2 * n2) * R) (u := u) (v := v) (by grind) (by grind) hu hv
    have ex : n1 * n2 * (u + v) * (s.x - a.x) - (u * (n2 * m1) + v * (n1 * m2)) * (c.x - a.x) = u * (n2 * (n1 * (p.x - a.x) - m1 * (c.x - a.x))) + v * (n1 * (n2 * (q.x - a.x) - m2 * (c.x - a.x))) := by
      have : n1 * n2 * (u + v) * (s.x - a.x) = n1 * n2 * ((u + v) * s.x) - n1 * n2 * (u + v) * a.x := by grind
      rw [this, hx]; grind
    have ey : n1 * n2 * (u + v) * (s.y - a.y) - (u * (n2 * m1) + v * (n1 * m2)) * (c.y - a.y) = u * (n2 * (n1 * (p.y - a.y) - m1 * (c.y - a.y))) + v * (n1 * (n2 * (q.y - a.y) - m2 * (c.y - a.y))) := by
      have : n1 * n2 * (u + v) * (s.y - a.y) = n1 * n2 * ((u + v) * s.y) - n1 * n2 * (u + v) * a.y := by grind
      rw [this, hy]; grind
    rw [ex, ey]
    have er : n1 * n2 * (u + v) * (n1 * n2 * (u + v)) * R = (u + v) * (u + v) * (n1 * n1 * (n2 * n2) * R) := by grind
    rw [er]; exact cv
theorem onS_row {x0 x1 x y : Int} {a c : P2} {R : Int} (h0 : OnS ⟨x0, y⟩ a c R) (h1 : OnS ⟨x1, y⟩ a c R) (hl : x0 ≤ x) (hr : x ≤ x1) : OnS ⟨x, y⟩ a c R := by
  by_cases k : x0 = x1
  · have : x = x0 := by omega
    rw [this]; exact h0
  · exact onS_mix (u := x1 - x) (v := x - x0) h0 h1 (by omega) (by omega) (by omega) (by dsimp only; grind) (by dsimp only; grind)
theorem onS_col {y0 y1 x y : Int} {a c : P2} {R : Int} (h0 : OnS ⟨x, y0⟩ a c R) (h1 : OnS ⟨x, y1⟩ a c R) (hl : y0 ≤ y) (hr : y ≤ y1) : OnS ⟨x, y⟩ a c R := by
  by_cases k : y0 = y1
  · have : y = y0 := by omega
    rw [this]; exact h0
  · exact onS_mix (u := y1 - y) (v := y - y0) h0 h1 (by omega) (by omega) (by omega) (by dsimp only; grind) (by dsimp only; grind)
theorem onS_in {b : B4} {q a c : P2} {R : Int} (hq : hasI b q) (h : ∀ k, isC b k → OnS k a c R) : OnS q a c R := by
  obtain ⟨h1, h2, h3, h4⟩ := hq
  exact onS_col (onS_row (h ⟨b.x0, b.y0⟩ ⟨.inl rfl, .inl rfl⟩) (h ⟨b.x1, b.y0⟩ ⟨.inr rfl, .inl rfl⟩) h1 h2) (onS_row (h ⟨b.x0, b.y1⟩ ⟨.inl rfl, .inr rfl⟩) (h ⟨b.x1, b.y1⟩ ⟨.inr rfl, .inr rfl⟩) h1 h2) h3 h4
theorem line_in {b : B4} {q a c : P2} {r : Int} (hq : hasI b q) (h : all4 (fun q => lineI q a c r) b = true) : lineI q a c r = true := by
  rw [lineI_iff]
  exact onS_in hq fun k hk => lineI_iff.1 (all4_iff.1 h k hk)
theorem onS_flip {p a c : P2} {R : Int} (h : OnS p a c R) : OnS p c a R := by
  obtain ⟨m, n, n0, m0, mn, d⟩ := h
  refine ⟨n - m, n, n0, by omega, by omega, ?_⟩
  have e1 : n * (p.x - c.x) - (n - m) * (a.x - c.x) = n * (p.x - a.x) - m * (c.x - a.x) := by grind
  have e2 : n * (p.y - c.y) - (n - m) * (a.y - c.y) = n * (p.y - a.y) - m * (c.y - a.y) := by grind
  rw [e1, e2]; exact d
theorem lineI_flip (p a c : P2) (r : Int) : lineI p c a r = lineI p a c r := by
  rw [Bool.eq_iff_iff, lineI_iff, lineI_iff]
  exact ⟨onS_flip, onS_flip⟩
theorem onS_mono {p a c : P2} {R S : Int} (h : R ≤ S) (k : OnS p a c R) : OnS p a c S := by
  obtain ⟨m, n, n0, m0, mn, d⟩ := k
  exact ⟨m, n, n0, m0, mn, Int.le_trans d (Int.mul_le_mul_of_nonneg_left h (Int.le_of_lt (sq_pos n0)))⟩

/-! ### outside -/
/-- two points of a box, weighed, are no nearer than the box -/
theorem near_mix {b : B4} {p q k : P2} {u v : Int} (hq : hasI b q) (hk : hasI b k) (hu : 0 ≤ u) (hv : 0 ≤ v) :
    (u + v) * (u + v) * nearI b p ≤ (u * (q.x - p.x) + v * (k.x - p.x)) * (u * (q.x - p.x) + v * (k.x - p.x)) + (u * (q.y - p.y) + v * (k.y - p.y)) * (u * (q.y - p.y) + v * (k.y - p.y)) := by
  have one : ∀ w lo hi x y : Int, lo ≤ x → x ≤ hi → lo ≤ y → y ≤ hi → (u + v) * gapI w lo hi * ((u + v) * gapI w lo hi) ≤ (u * (x - w) + v * (y - w)) * (u * (x - w) + v * (y - w)) := fun w lo hi x y a1 a2 a3 a4 => by
    unfold gapI; split
    · rename_i g
      have e1 := Int.mul_le_mul_of_nonneg_left (show lo - w ≤ x - w by omega) hu
      have e2 := Int.mul_le_mul_of_nonneg_left (show lo - w ≤ y - w by omega) hv
      have e3 : (u + v) * (lo - w) = u * (lo - w) + v * (lo - w) := by grind
      have e4 := Int.mul_nonneg (show 0 ≤ u + v by omega) (show 0 ≤ lo - w by omega)
      exact sq_le (by omega) (by omega)
    · split
      · rename_i g
        have e1 := Int.mul_le_mul_of_nonneg_left (show w - hi ≤ w - x by omega) hu
        have e2 := Int.mul_le_mul_of_nonneg_left (show w - hi ≤ w - y by omega) hv
        have e3 : (u + v) * (w - hi) = u * (w - hi) + v * (w - hi) := by grind
        have e4 := Int.mul_nonneg (show 0 ≤ u + v by omega) (show 0 ≤ w - hi by omega)
        have e5 : (u * (x - w) + v * (y - w)) * (u * (x - w) + v * (y - w)) = (u * (w - x) + v * (w - y)) * (u * (w - x) + v * (w - y)) := by grind
        rw [e5]
        exact sq_le (by omega) (by omega)
      · have := sq_nn (u * (x - w) + v * (y - w))
        simpa using this
  obtain ⟨q1, q2, q3, q4⟩ := hq
  obtain ⟨k1, k2, k3, k4⟩ := hk
  have a := one p.x b.x0 b.x1 q.x k.x q1 q2 k1 k2
  have c := one p.y b.y0 b.y1 q.y k.y q3 q4 k3 k4
  unfold nearI
  generalize gapI p.x b.x0 b.x1 = G at *
  generalize gapI p.y b.y0 b.y1 = H at *
  have e : (u + v) * (u + v) * (G * G + H * H) = (u + v) * G * ((u + v) * G) + (u + v) * H * ((u + v) * H) := by grind
  omega
/-- what a box says when a point of it is in the stroke -/
def Told (b : B4) (a c : P2) (R : Int) : Prop := (∃ k, isC b k ∧ OnS k a c R) ∨ nearI b a ≤ R ∨ nearI b c ≤ R
/-- on the one side of the line -/
theorem told_side {b : B4} {q a c : P2} {r : Int} (hx : b.x0 ≤ b.x1) (hy : b.y0 ≤ b.y1) (hq : hasI b q) (hi : lineI q a c r = true) (hs : ∀ k, isC b k → crossI a c k > 0) : Told b a c (r * r) := by
  obtain ⟨k, hk, hl⟩ := cross_le a c hq
  have hk0 := hs k hk
  have hkb := isC_has hx hy hk
  have hL := dist_nn a c
  unfold lineI at hi
  by_cases k1 : dotI a c q ≤ 0
  · rw [if_pos k1, decide_eq_true_eq, distI_comm] at hi
    exact .inr (.inl (Int.le_trans (near_le hq) hi))
  · rw [if_neg k1] at hi
    by_cases k2 : dotI a c q ≥ distI a c
    · rw [if_pos k2, decide_eq_true_eq, distI_comm] at hi
      exact .inr (.inr (Int.le_trans (near_le hq) hi))
    · rw [if_neg k2] at hi
      unfold clear at hi
      rw [decide_eq_true_eq] at hi
      have s : ¬ same a c := fun x => by have := (dist_pos a c).2 x; omega
      have hLp : 0 < distI a c := by omega
      have mix : ∀ (o : P2) (u v : Int), 0 ≤ u → 0 ≤ v → 0 < u + v → (u * (q.x - o.x) + v * (k.x - o.x)) * (c.x - a.x) + (u * (q.y - o.y) + v * (k.y - o.y)) * (c.y - a.y) = 0 →
          (c.x - a.x) * (u * (q.y - o.y) + v * (k.y - o.y)) - (c.y - a.y) * (u * (q.x - o.x) + v * (k.x - o.x)) = u * crossI a c q + v * crossI a c k → nearI b o ≤ r * r := fun o u v hu hv huv hz hc => by
        have n := near_mix (p := o) hq hkb hu hv
        generalize u * (q.x - o.x) + v * (k.x - o.x) = X at *
        generalize u * (q.y - o.y) + v * (k.y - o.y) = Y at *
        have g1 : distI a c * (X * X + Y * Y) = (X * (c.x - a.x) + Y * (c.y - a.y)) * (X * (c.x - a.x) + Y * (c.y - a.y)) + ((c.x - a.x) * Y - (c.y - a.y) * X) * ((c.x - a.x) * Y - (c.y - a.y) * X) := by unfold distI; grind
        rw [hz, hc] at g1
        have g2 : u * crossI a c q + v * crossI a c k ≤ (u + v) * crossI a c q := by
          have := Int.mul_le_mul_of_nonneg_left hl hv
          have e : (u + v) * crossI a c q = u * crossI a c q + v * crossI a c q := by grind
          omega
        have g3 : 0 ≤ u * crossI a c q + v * crossI a c k := by
          have := Int.mul_nonneg hu (show 0 ≤ crossI a c q by omega)
          have := Int.mul_nonneg hv (show 0 ≤ crossI a c k by omega)
          omega
        have g4 := sq_le (x := u * crossI a c q + v * crossI a c k) (y := (u + v) * crossI a c q) (by omega) g2
        have g5 := Int.mul_le_mul_of_nonneg_left hi (Int.le_of_lt (sq_pos huv))
        have g6 : distI a c * (X * X + Y * Y) ≤ distI a c * ((u + v) * (u + v) * (r * r)) := by
          have e1 : (u + v) * crossI a c q * ((u + v) * crossI a c q) = (u + v) * (u + v) * (crossI a c q * crossI a c q) := by grind
          have e2 : (u + v) * (u + v) * (r * r * distI a c) = distI a c * ((u + v) * (u + v) * (r * r)) := by grind
          omega
        have g7 := Int.le_of_mul_le_mul_left g6 hLp
        exact Int.le_of_mul_le_mul_left (a := (u + v) * (u + v)) (by omega) (sq_pos huv)
      by_cases k3 : dotI a c k < 0
      · refine .inr (.inl (mix a (-dotI a c k) (dotI a c q) (by omega) (by omega) (by omega) ?_ ?_))
        · unfold dotI; grind
        · unfold crossI; grind
      · by_cases k4 : dotI a c k > distI a c
        · refine .inr (.inr (mix c (dotI a c k - distI a c) (distI a c - dotI a c q) (by omega) (by omega) (by omega) ?_ ?_))
          · unfold dotI distI; grind
          · unfold crossI; grind
        · refine .inl ⟨k, hk, lineI_iff.1 ?_⟩
          rw [lineI_bar s (by omega) (by omega)]
          unfold clear
          rw [decide_eq_true_eq]
          have := sq_le (x := crossI a c k) (y := crossI a c q) (by omega) hl
          omega
/-- the segment is left of the box, its right end is above it -/
theorem sep_core {ax ay vx vy qx qy X0 Y1 m n R : Int} (hv : 0 ≤ vx) (h1 : ax + vx < X0) (h2 : X0 ≤ qx) (h3 : qy ≤ Y1) (h4 : Y1 < ay + vy) (n0 : 0 < n) (m0 : 0 ≤ m) (mn : m ≤ n)
    (d : (n * (qx - ax) - m * vx) * (n * (qx - ax) - m * vx) + (n * (qy - ay) - m * vy) * (n * (qy - ay) - m * vy) ≤ n * n * R) :
    ∃ m' n', 0 < n' ∧ 0 ≤ m' ∧ m' ≤ n' ∧ (n' * (X0 - ax) - m' * vx) * (n' * (X0 - ax) - m' * vx) + (n' * (Y1 - ay) - m' * vy) * (n' * (Y1 - ay) - m' * vy) ≤ n' * n' * R := by
  have mv : m * vx ≤ n * vx := Int.mul_le_mul_of_nonneg_right mn hv
  have x1 : n * (ax + vx) < n * X0 := Int.mul_lt_mul_of_pos_left h1 n0
  have x2 : n * X0 ≤ n * qx := Int.mul_le_mul_of_nonneg_left h2 (by omega)
  have y2 : n * qy ≤ n * Y1 := Int.mul_le_mul_of_nonneg_left h3 (by omega)
  have ea : n * (ax + vx) = n * ax + n * vx := by grind
  have eb : n * (X0 - ax) = n * X0 - n * ax := by grind
  have ec : n * (qx - ax) = n * qx - n * ax := by grind
  have ed : n * (Y1 - ay) = n * Y1 - n * ay := by grind
  have ee : n * (qy - ay) = n * qy - n * ay := by grind
  have hX0 : 0 ≤ n * (X0 - ax) - m * vx := by omega
  have hX : n * (X0 - ax) - m * vx ≤ n * (qx - ax) - m * vx := by omega
  by_cases k : n * Y1 ≤ n * ay + m * vy
  · refine ⟨m, n, n0, m0, mn, ?_⟩
    have s1 := sq_le (x := n * (X0 - ax) - m * vx) (y := n * (qx - ax) - m * vx) (by omega) hX
    have s2 := sq_le (x := -(n * (Y1 - ay) - m * vy)) (y := -(n * (qy - ay) - m * vy)) (by omega) (by omega)
    have e1 : -(n * (Y1 - ay) - m * vy) * -(n * (Y1 - ay) - m * vy) = (n * (Y1 - ay) - m * vy) * (n * (Y1 - ay) - m * vy) := by grind
    have e2 : -(n * (qy - ay) - m * vy) * -(n * (qy - ay) - m * vy) = (n * (qy - ay) - m * vy) * (n * (qy - ay) - m * vy) := by grind
    omega
  · have y1 : n * Y1 < n * (ay + vy) := Int.mul_lt_mul_of_pos_left h4 n0
    have ef : n * (ay + vy) = n * ay + n * vy := by grind
    have hnm : 0 < (n - m) * vy := by
      have : (n - m) * vy = n * vy - m * vy := by grind
      omega
    have hvy : 0 < vy := by
      rcases Int.lt_or_le 0 vy with g | g
      · exact g
      · have := Int.mul_nonneg (show 0 ≤ n - m by omega) (show 0 ≤ -vy by omega)
        have e : (n - m) * -vy = -((n - m) * vy) := by grind
        omega
    have hmy : 0 ≤ m * vy := Int.mul_nonneg m0 (by omega)
    have hay : ay ≤ Y1 := by
      have : n * ay ≤ n * Y1 := by omega
      exact Int.le_of_mul_le_mul_left this n0
    refine ⟨Y1 - ay, vy, hvy, by omega, by omega, ?_⟩
    have z : vy * (Y1 - ay) - (Y1 - ay) * vy = 0 := by grind
    rw [z]
    have w0 : 0 ≤ vy * (X0 - ax) - (Y1 - ay) * vx := by
      have t1 := Int.mul_le_mul_of_nonneg_right (show Y1 - ay ≤ vy by omega) hv
      have t2 := Int.mul_nonneg (show 0 ≤ vy by omega) (show 0 ≤ X0 - ax - vx by omega)
      have e : vy * (X0 - ax - vx) = vy * (X0 - ax) - vy * vx := by grind
      omega
    have w1 : n * (vy * (X0 - ax) - (Y1 - ay) * vx) ≤ vy * (n * (qx - ax) - m * vx) := by
      have t1 := Int.mul_le_mul_of_nonneg_right (show m * vy ≤ n * (Y1 - ay) by omega) hv
      have t2 := Int.mul_le_mul_of_nonneg_left hX (show 0 ≤ vy by omega)
      have e1 : n * (vy * (X0 - ax) - (Y1 - ay) * vx) = vy * (n * (X0 - ax)) - n * (Y1 - ay) * vx := by grind
      have e2 : vy * (n * (X0 - ax) - m * vx) = vy * (n * (X0 - ax)) - m * vy * vx := by grind
      omega
    have w2 := sq_le (x := n * (vy * (X0 - ax) - (Y1 - ay) * vx)) (y := vy * (n * (qx - ax) - m * vx)) (by have := Int.mul_nonneg (show 0 ≤ n by omega) w0; omega) w1
    have w3 := sq_nn (n * (qy - ay) - m * vy)
    have w4 := Int.mul_le_mul_of_nonneg_left (show (n * (qx - ax) - m * vx) * (n * (qx - ax) - m * vx) ≤ n * n * R by omega) (Int.le_of_lt (sq_pos hvy))
    refine Int.le_of_mul_le_mul_left (a := n * n) ?_ (sq_pos n0)
    generalize vy * (X0 - ax) - (Y1 - ay) * vx = F at *
    generalize n * (qx - ax) - m * vx = G at *
    have e1 : n * F * (n * F) = n * n * (F * F) := by grind
    have e2 : vy * G * (vy * G) = vy * vy * (G * G) := by grind
    have e3 : n * n * (vy * vy * R) = vy * vy * (n * n * R) := by grind
    simp only [Int.mul_zero, Int.add_zero]
    omega
theorem told_left0 {b : B4} {q a c : P2} {R : Int} (hx : b.x0 ≤ b.x1) (hq : hasI b q) (hi : OnS q a c R) (hac : a.x ≤ c.x) (h : c.x < b.x0) : Told b a c R := by
  obtain ⟨m, n, n0, m0, mn, d⟩ := hi
  obtain ⟨q1, q2, q3, q4⟩ := hq
  by_cases k1 : b.y1 < c.y
  · obtain ⟨m', n', a1, a2, a3, a4⟩ := sep_core (vx := c.x - a.x) (vy := c.y - a.y) (X0 := b.x0) (Y1 := b.y1) (by omega) (by omega) q1 q4 (by omega) n0 m0 mn d
    exact .inl ⟨⟨b.x0, b.y1⟩, ⟨.inl rfl, .inr rfl⟩, m', n', a1, a2, a3, a4⟩
  · by_cases k2 : c.y < b.y0
    · have d' : (n * (q.x - a.x) - m * (c.x - a.x)) * (n * (q.x - a.x) - m * (c.x - a.x)) + (n * (-q.y - -a.y) - m * (-(c.y - a.y))) * (n * (-q.y - -a.y) - m * (-(c.y - a.y))) ≤ n * n * R := by
        have e : n * (-q.y - -a.y) - m * (-(c.y - a.y)) = -(n * (q.y - a.y) - m * (c.y - a.y)) := by grind
        rw [e, Int.neg_mul_neg]; exact d
      obtain ⟨m', n', a1, a2, a3, a4⟩ := sep_core (vx := c.x - a.x) (vy := -(c.y - a.y)) (X0 := b.x0) (Y1 := -b.y0) (by omega) (by omega) q1 (by omega) (by omega) n0 m0 mn d'
      refine .inl ⟨⟨b.x0, b.y0⟩, ⟨.inl rfl, .inl rfl⟩, m', n', a1, a2, a3, ?_⟩
      have e : n' * (-b.y0 - -a.y) - m' * (-(c.y - a.y)) = -(n' * (b.y0 - a.y) - m' * (c.y - a.y)) := by grind
      rw [e, Int.neg_mul_neg] at a4
      exact a4
    · refine .inr (.inr ?_)
      have e1 : gapI c.x b.x0 b.x1 = b.x0 - c.x := by unfold gapI; rw [if_pos h]
      have e2 : gapI c.y b.y0 b.y1 = 0 := by unfold gapI; rw [if_neg (by omega), if_neg (by omega)]
      unfold nearI
      rw [e1, e2]
      have t1 := Int.mul_le_mul_of_nonneg_right mn (show 0 ≤ c.x - a.x by omega)
      have t2 := Int.mul_le_mul_of_nonneg_left q1 (show 0 ≤ n by omega)
      have ea : n * (q.x - a.x) = n * q.x - n * a.x := by grind
      have eb : n * (c.x - a.x) = n * c.x - n * a.x := by grind
      have ec : n * (b.x0 - c.x) = n * b.x0 - n * c.x := by grind
      have s := sq_le (x := n * (b.x0 - c.x)) (y := n * (q.x - a.x) - m * (c.x - a.x)) (by have := Int.mul_nonneg (show 0 ≤ n by omega) (show 0 ≤ b.x0 - c.x by omega); omega) (by omega)
      have w := sq_nn (n * (q.y - a.y) - m * (c.y - a.y))
      refine Int.le_of_mul_le_mul_left (a := n * n) ?_ (sq_pos n0)
      have e3 : n * (b.x0 - c.x) * (n * (b.x0 - c.x)) = n * n * ((b.x0 - c.x) * (b.x0 - c.x) + 0 * 0) := by grind
      omega
theorem told_flip {b : B4} {a c : P2} {R : Int} (h : Told b c a R) : Told b a c R := by
  rcases h with ⟨k, hk, hs⟩ | h | h
  · exact .inl ⟨k, hk, onS_flip hs⟩
  · exact .inr (.inr h)
  · exact .inr (.inl h)
theorem told_left {b : B4} {q a c : P2} {R : Int} (hx : b.x0 ≤ b.x1) (hq : hasI b q) (hi : OnS q a c R) (h1 : a.x < b.x0) (h2 : c.x < b.x0) : Told b a c R := by
  rcases Int.le_total a.x c.x with k | k
  · exact told_left0 hx hq hi k h2
  · exact told_flip (told_left0 hx hq (onS_flip hi) k h1)
def ngX (p : P2) : P2 := ⟨-p.x, p.y⟩
def ngB (b : B4) : B4 := ⟨-b.x1, b.y0, -b.x0, b.y1⟩
def swP (p : P2) : P2 := ⟨p.y, p.x⟩
def swB (b : B4) : B4 := ⟨b.y0, b.x0, b.y1, b.x1⟩
theorem onS_ng {p a c : P2} {R : Int} (h : OnS p a c R) : OnS (ngX p) (ngX a) (ngX c) R := by
  obtain ⟨m, n, n0, m0, mn, d⟩ := h
  refine ⟨m, n, n0, m0, mn, ?_⟩
  unfold ngX; dsimp only
  have e : n * (-p.x - -a.x) - m * (-c.x - -a.x) = -(n * (p.x - a.x) - m * (c.x - a.x)) := by grind
  rw [e, Int.neg_mul_neg]; exact d
theorem onS_sw {p a c : P2} {R : Int} (h : OnS p a c R) : OnS (swP p) (swP a) (swP c) R := by
  obtain ⟨m, n, n0, m0, mn, d⟩ := h
  refine ⟨m, n, n0, m0, mn, ?_⟩
  unfold swP; dsimp only; omega
theorem told_ng {b : B4} {a c : P2} {R : Int} (hx : b.x0 ≤ b.x1) (h : Told (ngB b) (ngX a) (ngX c) R) : Told b a c R := by
  have e : ∀ p, nearI (ngB b) (ngX p) = nearI b p := fun p => by unfold nearI ngB ngX; dsimp only; rw [gapI_neg _ _ _ hx]
  rcases h with ⟨k, ⟨h1, h2⟩, hs⟩ | h | h
  · refine .inl ⟨ngX k, ⟨?_, h2⟩, ?_⟩
    · unfold ngX; unfold ngB at h1; dsimp only at *; omega
    · have := onS_ng hs
      unfold ngX at this ⊢; simpa using this
  · rw [e] at h; exact .inr (.inl h)
  · rw [e] at h; exact .inr (.inr h)
theorem told_sw {b : B4} {a c : P2} {R : Int} (h : Told (swB b) (swP a) (swP c) R) : Told b a c R := by
  have e : ∀ p, nearI (swB b) (swP p) = nearI b p := fun p => by unfold nearI swB swP; dsimp only; omega
  rcases h with ⟨k, ⟨h1, h2⟩, hs⟩ | h | h
  · exact .inl ⟨swP k, ⟨h2, h1⟩, onS_sw hs⟩
  · rw [e] at h; exact .inr (.inl h)
  · rw [e] at h; exact .inr (.inr h)
theorem has_ng {b : B4} {q : P2} (h : hasI b q) : hasI (ngB b) (ngX q) := by
  obtain ⟨h1, h2, h3, h4⟩ := h
  exact ⟨by unfold ngB ngX; dsimp only; omega, by unfold ngB ngX; dsimp only; omega, h3, h4⟩
theorem has_sw {b : B4} {q : P2} (h : hasI b q) : hasI (swB b) (swP q) := by
  obtain ⟨h1, h2, h3, h4⟩ := h
  exact ⟨h3, h4, h1, h2⟩
theorem told_right {b : B4} {q a c : P2} {R : Int} (hx : b.x0 ≤ b.x1) (hq : hasI b q) (hi : OnS q a c R) (h1 : b.x1 < a.x) (h2 : b.x1 < c.x) : Told b a c R :=
  told_ng hx (told_left (b := ngB b) (a := ngX a) (c := ngX c) (by unfold ngB; dsimp only; omega) (has_ng hq) (onS_ng hi) (by unfold ngB ngX; dsimp only; omega) (by unfold ngB ngX; dsimp only; omega))
/-- a box of which a point is in the stroke says so -/
theorem told_of {b : B4} {q a c : P2} {r : Int} (hx : b.x0 ≤ b.x1) (hy : b.y0 ≤ b.y1) (hq : hasI b q) (hi : lineI q a c r = true) (hm : meetsI b a c = false) : Told b a c (r * r) := by
  have ho := lineI_iff.1 hi
  unfold meetsI at hm
  cases hs : sepI b a c
  · rw [hs] at hm
    simp only [Bool.not_false, Bool.true_and, Bool.and_eq_false_iff, Bool.not_eq_false'] at hm
    rcases hm with hm | hm
    · exact told_side hx hy hq hi fun k hk => by have := all4_iff.1 hm k hk; simpa using this
    · refine told_flip (told_side hx hy hq (by rw [lineI_flip]; exact hi) fun k hk => ?_)
      have := all4_iff.1 hm k hk
      simp only [decide_eq_true_eq] at this
      rw [(flips a c k).1]; omega
  · unfold sepI at hs
    simp only [Bool.or_eq_true, decide_eq_true_eq] at hs
    rcases hs with ((hs | hs) | hs) | hs
    · exact told_left hx hq ho (by omega) (by omega)
    · exact told_right hx hq ho (by omega) (by omega)
    · exact told_sw (told_left (b := swB b) (a := swP a) (c := swP c) hy (has_sw hq) (onS_sw ho) (by unfold swB swP; dsimp only; omega) (by unfold swB swP; dsimp only; omega))
    · exact told_sw (told_right (b := swB b) (a := swP a) (c := swP c) hy (has_sw hq) (onS_sw ho) (by unfold swB swP; dsimp only; omega) (by unfold swB swP; dsimp only; omega))
theorem line_out {b : B4} {q a c : P2} {r : Int} (hx : b.x0 ≤ b.x1) (hy : b.y0 ≤ b.y1) (hq : hasI b q) (hk : lineCl b a c r = 0) : lineI q a c r = false := by
  cases hi : lineI q a c r
  · rfl
  · exfalso
    unfold lineCl at hk
    cases h4 : all4 (fun q => lineI q a c r) b
    · rw [h4] at hk
      simp only [Bool.false_eq_true, if_false] at hk
      cases hc : (any4 (fun q => lineI q a c r) b || decide (nearI b a ≤ r * r) || decide (nearI b c ≤ r * r) || meetsI b a c)
      · simp only [Bool.or_eq_false_iff, decide_eq_false_iff_not] at hc
        obtain ⟨⟨⟨c1, c2⟩, c3⟩, c4⟩ := hc
        rcases told_of hx hy hq hi c4 with ⟨k, hk, hs⟩ | h | h
        · have : any4 (fun q => lineI q a c r) b = true := any4_iff.2 ⟨k, hk, lineI_iff.2 hs⟩
          rw [this] at c1; cases c1
        · exact c2 h
        · exact c3 h
      · rw [hc] at hk; simp at hk
    · rw [h4] at hk; simp at hk
end Go.Proofs.Ythnenjodighlmaa

/-! ## Bau -/
namespace Go.Proofs.Ythnenjodighlmaa
open Go Go.RowKit Sym
set_option maxRecDepth 100000

/-- a map of the plane that keeps the products, and takes corners to corners, keeps a bar's class -/
theorem barCl_map {b b' : B4} {a c a' c' : P2} {h : Int} (φ : P2 → P2) (h1 : ∀ q, crossI a' c' (φ q) = crossI a c q) (h2 : ∀ q, dotI a' c' (φ q) = dotI a c q) (h3 : distI a' c' = distI a c) (h4 : ∀ f : P2 → Bool, all4 f b' = all4 (fun q => f (φ q)) b) : barCl b' a' c' h = barCl b a c h := by
  have e : same a' c' ↔ same a c := by rw [← dist_pos, ← dist_pos, h3]
  have hcl : ∀ q, clear (φ q) a' c' h = clear q a c h := fun q => by unfold clear; rw [h1, h3]
  have hb : ∀ q, barI (φ q) a' c' h = barI q a c h := fun q => by
    unfold barI; rw [hcl, h2, h3, decide_eq_decide.2 e]
  unfold barCl
  rw [h4, h4, h4, h4, h4]
  simp only [hb, h2, h3, e]
  have e1 : (fun q => rightI a' c' h (φ q)) = rightI a c h := by funext q; unfold rightI; rw [hcl, h1]
  have e2 : (fun q => leftI a' c' h (φ q)) = leftI a c h := by funext q; unfold leftI; rw [hcl, h1]
  rw [e1, e2]
theorem barCl_mv (b : B4) (a c d : P2) (h : Int) : barCl ⟨b.x0 + d.x, b.y0 + d.y, b.x1 + d.x, b.y1 + d.y⟩ ⟨a.x + d.x, a.y + d.y⟩ ⟨c.x + d.x, c.y + d.y⟩ h = barCl b a c h := by
  refine barCl_map (fun q => ⟨q.x + d.x, q.y + d.y⟩) ?_ ?_ ?_ ?_
  · intro q; unfold crossI; dsimp only; grind
  · intro q; unfold dotI; dsimp only; grind
  · unfold distI; dsimp only; grind
  · intro f; rfl
theorem barCl_tu (b : B4) (a c : P2) (h : Int) : barCl ⟨-b.y1, b.x0, -b.y0, b.x1⟩ ⟨-a.y, a.x⟩ ⟨-c.y, c.x⟩ h = barCl b a c h := by
  refine barCl_map (fun q => ⟨-q.y, q.x⟩) ?_ ?_ ?_ ?_
  · intro q; unfold crossI; dsimp only; grind
  · intro q; unfold dotI; dsimp only; grind
  · unfold distI; dsimp only; grind
  · intro f; unfold all4; dsimp only
    generalize f ⟨-b.y1, b.x0⟩ = p; generalize f ⟨-b.y0, b.x0⟩ = q; generalize f ⟨-b.y1, b.x1⟩ = r; generalize f ⟨-b.y0, b.x1⟩ = s
    cases p <;> cases q <;> cases r <;> cases s <;> rfl
/-- a bar along the axis -/
def axis (b : B4) (l h : Int) : Int := if 0 ≤ b.x0 ∧ b.x1 ≤ l ∧ -h ≤ b.y0 ∧ b.y1 ≤ h then 2 else if b.y1 < -h ∨ b.y0 > h ∨ b.x1 < 0 ∨ b.x0 > l then 0 else 1
theorem barCl_axis {b : B4} {l h : Int} (hx : b.x0 ≤ b.x1) (hy : b.y0 ≤ b.y1) (hl : 1 ≤ l) (hh : 1 ≤ h) : barCl b ⟨0, 0⟩ ⟨l, 0⟩ h = axis b l h := by
  have hll : 0 < l * l := Int.mul_pos (by omega) (by omega)
  have hc : ∀ q, clear q ⟨0, 0⟩ ⟨l, 0⟩ h = decide (-h ≤ q.y ∧ q.y ≤ h) := fun q => by
    unfold clear crossI distI; dsimp only
    refine decide_eq_decide.2 ?_
    have e1 : ((l - 0) * (q.y - 0) - (0 - 0) * (q.x - 0)) * ((l - 0) * (q.y - 0) - (0 - 0) * (q.x - 0)) = (l * l) * (q.y * q.y) := by grind
    have e2 : h * h * ((0 - l) * (0 - l) + (0 - 0) * (0 - 0)) = (l * l) * (h * h) := by grind
    rw [e1, e2, Int.mul_le_mul_left hll]
    constructor
    · intro k
      rcases Int.lt_or_le h q.y with g | g
      · have := sq_lt (x := h) (y := q.y) (by omega) g; omega
      · refine ⟨?_, g⟩
        rcases Int.lt_or_le q.y (-h) with g' | g'
        · have := sq_lt (x := h) (y := -q.y) (by omega) (by omega)
          have e : -q.y * -q.y = q.y * q.y := by grind
          omega
        · exact g'
    · exact fun k => sq_le k.1 k.2
  have hd : ∀ q, dotI ⟨0, 0⟩ ⟨l, 0⟩ q = l * q.x := fun q => by unfold dotI; dsimp only; grind
  have hk : ∀ q, crossI ⟨0, 0⟩ ⟨l, 0⟩ q = l * q.y := fun q => by unfold crossI; dsimp only; grind
  have hL : distI ⟨0, 0⟩ ⟨l, 0⟩ = l * l := by unfold distI; dsimp only; grind
  have n0 : ∀ x : Int, (0 ≤ l * x ↔ 0 ≤ x) := fun x => by
    have := Int.mul_le_mul_left (a := l) (b := 0) (c := x) (by omega)
    rwa [Int.mul_zero] at this
  have n1 : ∀ x : Int, (l * x ≤ l * l ↔ x ≤ l) := fun x => Int.mul_le_mul_left (by omega)
  have s : ¬ same ⟨0, 0⟩ ⟨l, 0⟩ := by unfold same; dsimp only; omega
  have b1 : all4 (fun q => barI q ⟨0, 0⟩ ⟨l, 0⟩ h) b = decide (0 ≤ b.x0 ∧ b.x1 ≤ l ∧ -h ≤ b.y0 ∧ b.y1 ≤ h) := by
    unfold all4 barI
    simp only [hc, hd, hL]
    rw [Bool.eq_iff_iff]
    simp only [Bool.and_eq_true, decide_eq_true_eq, Bool.not_eq_true', decide_eq_false_iff_not, n0, n1, s, hh, not_false_eq_true, true_and]
    omega
  have b2 : all4 (rightI ⟨0, 0⟩ ⟨l, 0⟩ h) b = decide (b.y1 < -h) := by
    unfold all4 rightI
    simp only [hc, hk]
    rw [Bool.eq_iff_iff]
    have := fun x => n0 (-x)
    have e : ∀ x, (¬ l * x > 0 ↔ x ≤ 0) := fun x => by
      have := n0 (-x); rw [Int.mul_neg] at this; omega
    simp only [Bool.and_eq_true, decide_eq_true_eq, Bool.not_eq_true', decide_eq_false_iff_not, e]
    omega
  have b3 : all4 (leftI ⟨0, 0⟩ ⟨l, 0⟩ h) b = decide (b.y0 > h) := by
    unfold all4 leftI
    simp only [hc, hk]
    rw [Bool.eq_iff_iff]
    have e : ∀ x, (l * x > 0 ↔ x > 0) := fun x => by
      have := n0 (-x); rw [Int.mul_neg] at this; omega
    simp only [Bool.and_eq_true, decide_eq_true_eq, Bool.not_eq_true', decide_eq_false_iff_not, e]
    omega
  have b4 : all4 (fun q => decide (dotI ⟨0, 0⟩ ⟨l, 0⟩ q < 0)) b = decide (b.x1 < 0) := by
    unfold all4
    simp only [hd]
    rw [Bool.eq_iff_iff]
    have e : ∀ x, (l * x < 0 ↔ x < 0) := fun x => by have := n0 x; omega
    simp only [Bool.and_eq_true, decide_eq_true_eq, e]
    omega
  have b5 : all4 (fun q => decide (dotI ⟨0, 0⟩ ⟨l, 0⟩ q > distI ⟨0, 0⟩ ⟨l, 0⟩)) b = decide (b.x0 > l) := by
    unfold all4
    simp only [hd, hL]
    rw [Bool.eq_iff_iff]
    have e : ∀ x, (l * x > l * l ↔ x > l) := fun x => by have := n1 x; omega
    simp only [Bool.and_eq_true, decide_eq_true_eq, e]
    omega
  unfold barCl axis
  rw [if_neg (by rintro (x | x); omega; exact s x), b1, b2, b3, b4, b5]
  simp only [decide_eq_true_eq, Bool.or_eq_true, or_assoc]
def lMod (x n : Int) : Int := W ((U x).tmod n)
theorem lMod_bd (x : Int) {n : Int} (h : 0 < n) (h2 : n ≤ 1000000000) : 0 ≤ lMod x n ∧ lMod x n < n := by
  have h0 : 0 ≤ U x := by rw [U_eq]; omega
  have a := Int.tmod_nonneg (a := U x) n h0
  have b := (tmod_bd (U x) h).2
  unfold lMod; rw [W_id (by omega) (by omega)]; omega
def barStraight (long0 h0 : Int) (b0 : B4) (by0 : P2) : Bool :=
  let long := W (lMod long0 40 + 1)
  let h := lSmR (lR h0) 12
  let b := lSmall b0
  let by_ := lClose by0 100000000
  let is : B4 := ⟨0, W (0 - h), long, h⟩
  let k := barClass b ⟨0, 0⟩ ⟨long, 0⟩ h
  let want : Int := bif andB (andB (andB (decide (b.x0 ≥ is.x0)) (decide (b.x1 ≤ is.x1))) (decide (b.y0 ≥ is.y0))) (decide (b.y1 ≤ is.y1)) then 2 else bif rApart b is then 0 else 1
  andB (andB (andB (k == want) (barClass (tuB b) ⟨0, 0⟩ ⟨0, long⟩ h == k)) (barClass (mvB b by_) by_ ⟨W (by_.x + long), by_.y⟩ h == k)) true
theorem barStraight_true (long h : Int) (b : B4) (by_ : P2) : barStraight long h b by_ = true := by
  have hb := lSmall_s b
  have hd := lClose_r by_ (n := 100000000) (by decide) (by decide)
  have hr := lR_bd h
  have hh := lSmR_bd (r := lR h) (m := 12) (by omega) (by decide) (by decide)
  have hl := lMod_bd long (n := 40) (by decide) (by decide)
  unfold barStraight
  dsimp only
  rw [W_id (x := lMod long 40 + 1) (by omega) (by omega), W_id (x := 0 - lSmR (lR h) 12) (by omega) (by omega)]
  have hL : 1 ≤ lMod long 40 + 1 ∧ lMod long 40 + 1 ≤ 40 := by omega
  generalize lMod long 40 + 1 = L at *
  clear hl
  generalize lSmR (lR h) 12 = H at *
  generalize lClose by_ 100000000 = D at *
  generalize lSmall b = B at *
  have e1 : mvB B D = ⟨B.x0 + D.x, B.y0 + D.y, B.x1 + D.x, B.y1 + D.y⟩ := by
    unfold mvB; rw [W_id (by omega) (by omega), W_id (by omega) (by omega), W_id (by omega) (by omega), W_id (by omega) (by omega)]
  have e2 : tuB B = ⟨-B.y1, B.x0, -B.y0, B.x1⟩ := by
    unfold tuB; rw [W_id (by omega) (by omega), W_id (by omega) (by omega)]; simp
  rw [e1, e2, W_id (x := D.x + L) (by omega) (by omega)]
  have hB := lSmall_R' hb
  have z : PR ⟨0, 0⟩ := ⟨⟨by decide, by decide⟩, ⟨by decide, by decide⟩⟩
  have zl : PR ⟨L, 0⟩ := ⟨⟨by dsimp only; omega, by dsimp only; omega⟩, ⟨by dsimp only; omega, by dsimp only; omega⟩⟩
  have lz : PR ⟨0, L⟩ := ⟨⟨by dsimp only; omega, by dsimp only; omega⟩, ⟨by dsimp only; omega, by dsimp only; omega⟩⟩
  rw [barClass_eq hB z zl hb.2.1 hb.2.2.2.2.1 (by omega),
    barClass_eq (b := ⟨-B.y1, B.x0, -B.y0, B.x1⟩) ⟨⟨by dsimp only; omega, by dsimp only; omega⟩, ⟨by dsimp only; omega, by dsimp only; omega⟩, ⟨by dsimp only; omega, by dsimp only; omega⟩, ⟨by dsimp only; omega, by dsimp only; omega⟩⟩ z lz (by dsimp only; omega) (by dsimp only; omega) (by omega),
    barClass_eq (b := ⟨B.x0 + D.x, B.y0 + D.y, B.x1 + D.x, B.y1 + D.y⟩) (a := D) (c := ⟨D.x + L, D.y⟩) ⟨⟨by dsimp only; omega, by dsimp only; omega⟩, ⟨by dsimp only; omega, by dsimp only; omega⟩, ⟨by dsimp only; omega, by dsimp only; omega⟩, ⟨by dsimp only; omega, by dsimp only; omega⟩⟩ ⟨⟨by omega, by omega⟩, ⟨by omega, by omega⟩⟩ ⟨⟨by dsimp only; omega, by dsimp only; omega⟩, ⟨by dsimp only; omega, by dsimp only; omega⟩⟩ (by dsimp only; omega) (by dsimp only; omega) (by omega)]
  have t := barCl_tu B ⟨0, 0⟩ ⟨L, 0⟩ H
  have m := barCl_mv B ⟨0, 0⟩ ⟨L, 0⟩ D H
  have x1 : (⟨0 + D.x, 0 + D.y⟩ : P2) = D := by simp
  have x2 : (⟨L + D.x, 0 + D.y⟩ : P2) = ⟨D.x + L, D.y⟩ := by simp [Int.add_comm]
  have x3 : (⟨-0, 0⟩ : P2) = ⟨0, 0⟩ := by simp
  have x4 : (⟨-0, L⟩ : P2) = ⟨0, L⟩ := by simp
  dsimp only at t m
  rw [x1, x2] at m
  rw [x3, x4] at t
  rw [t, m, barCl_axis hb.2.1 hb.2.2.2.2.1 hL.1 hh.1]
  unfold axis rApart
  simp only [andB_eq, orB_eq, beq_self_eq_true, Bool.and_true, beq_iff_eq]
  by_cases k1 : 0 ≤ B.x0 ∧ B.x1 ≤ L ∧ -H ≤ B.y0 ∧ B.y1 ≤ H
  · have : (decide (B.x0 ≥ 0) && decide (B.x1 ≤ L) && decide (B.y0 ≥ 0 - H) && decide (B.y1 ≤ H)) = true := by
      simp only [Bool.and_eq_true, decide_eq_true_eq]; omega
    rw [if_pos k1, this]; rfl
  · have : (decide (B.x0 ≥ 0) && decide (B.x1 ≤ L) && decide (B.y0 ≥ 0 - H) && decide (B.y1 ≤ H)) = false := by
      rw [Bool.eq_false_iff]; intro k; apply k1
      simp only [Bool.and_eq_true, decide_eq_true_eq] at k; omega
    rw [if_neg k1, this, bif_f]
    by_cases k2 : B.y1 < -H ∨ B.y0 > H ∨ B.x1 < 0 ∨ B.x0 > L
    · have : (decide (B.x1 < 0) || decide (L < B.x0) || decide (B.y1 < 0 - H) || decide (H < B.y0)) = true := by
        simp only [Bool.or_eq_true, decide_eq_true_eq]; omega
      rw [if_pos k2, this]; rfl
    · have : (decide (B.x1 < 0) || decide (L < B.x0) || decide (B.y1 < 0 - H) || decide (H < B.y0)) = false := by
        rw [Bool.eq_false_iff]; intro k; apply k2
        simp only [Bool.or_eq_true, decide_eq_true_eq] at k; omega
      rw [if_neg k2, this]; rfl
end Go.Proofs.Ythnenjodighlmaa

/-! ## Lis -/
namespace Go.Proofs.Ythnenjodighlmaa
open Go Go.RowKit Sym
set_option maxRecDepth 100000

theorem all_any {f : P2 → Bool} {b : B4} (h : all4 f b = true) : any4 f b = true := any4_iff.2 ⟨⟨b.x0, b.y0⟩, ⟨.inl rfl, .inl rfl⟩, all4_iff.1 h _ ⟨.inl rfl, .inl rfl⟩⟩
theorem lineCl_012 (b : B4) (a c : P2) (r : Int) : lineCl b a c r = 0 ∨ lineCl b a c r = 1 ∨ lineCl b a c r = 2 := by
  unfold lineCl; split
  · simp
  · split <;> simp
theorem lineCl_two {b : B4} {a c : P2} {r : Int} : lineCl b a c r = 2 ↔ all4 (fun q => lineI q a c r) b = true := by
  unfold lineCl; split
  · simp_all
  · split <;> simp_all
theorem lineCl_hit {b : B4} {a c : P2} {r : Int} : lineCl b a c r ≠ 0 ↔ (any4 (fun q => lineI q a c r) b = true ∨ nearI b a ≤ r * r ∨ nearI b c ≤ r * r ∨ meetsI b a c = true) := by
  unfold lineCl
  split
  · rename_i h
    exact ⟨fun _ => .inl (all_any h), fun _ => by decide⟩
  · split
    · rename_i h
      simp only [Bool.or_eq_true, decide_eq_true_eq, or_assoc] at h
      exact ⟨fun _ => h, fun _ => by decide⟩
    · rename_i h
      simp only [Bool.or_eq_true, decide_eq_true_eq, or_assoc] at h
      exact ⟨fun k => absurd rfl k, fun k => absurd k h⟩
theorem hit_of {b : B4} {q a c : P2} {r : Int} (hx : b.x0 ≤ b.x1) (hy : b.y0 ≤ b.y1) (hq : hasI b q) (hi : lineI q a c r = true) : lineCl b a c r ≠ 0 := fun k => by
  rw [line_out hx hy hq k] at hi; cases hi
theorem lineCl_le {b : B4} {a c a' c' : P2} {r r' : Int} (h2 : lineCl b a c r = 2 → lineCl b a' c' r' = 2) (h0 : lineCl b a c r ≠ 0 → lineCl b a' c' r' ≠ 0) : lineCl b a c r ≤ lineCl b a' c' r' := by
  have := lineCl_012 b a c r; have := lineCl_012 b a' c' r'; omega

/-! ### LineTells -/
def lineTells0 (b : B4) (a c : P2) (h : Int) (p : P2) (k : Int) : Bool :=
  andB (andB (andB (lineClass b a c h == rLine b a c h) (lineHas p a c h == rLineHas p a c h)) (orB (decide (k ≥ 1)) (andB (lineClass b a c k == 0) (!(lineHas p a c k))))) true
def lineTells (b : B4) (a c : P2) (h : Int) (p : P2) (small : Bool) : Bool :=
  bif small then lineTells0 (lSmall (lBox b)) (lClose (lPt a) 20) (lClose (lPt c) 20) (lSmR (lR h) 12) (lClose (lPt p) 20) h else lineTells0 (lBox b) (lPt a) (lPt c) (lR h) (lPt p) h
theorem lineTells0_true {b : B4} {a c : P2} {h : Int} {p : P2} (k : Int) (hb : BR b) (ha : PR a) (hc : PR c) (hp : PR p) (hx : b.x0 ≤ b.x1) (hy : b.y0 ≤ b.y1) (h1 : 1 ≤ h) (h2 : h ≤ 2147483648) : lineTells0 b a c h p k = true := by
  unfold lineTells0
  rw [lineClass_eq hb ha hc hx hy h1 h2, rLine_eq hb ha hc hx hy h1 h2, lineHas_eq hp ha hc h1 h2, rLineHas_eq hp ha hc h1 h2]
  by_cases hk : k ≥ 1
  · simp [hk, andB, orB]
  · rw [lineClass_lt (show k < 1 by omega), lineHas_lt (show k < 1 by omega)]
    simp [andB, orB]
theorem lineTells_true (b : B4) (a c : P2) (h : Int) (p : P2) (small : Bool) : lineTells b a c h p small = true := by
  have r := lR_bd h
  unfold lineTells
  cases small
  · have hs := lBox_r b
    exact lineTells0_true _ (lBox_R b) (lPt_R a) (lPt_R c) (lPt_R p) hs.2.1 hs.2.2.2.2.1 (by omega) (by omega)
  · have hs := lSmall_r (lBox b)
    have e := lSmR_bd (r := lR h) (m := 12) (by omega) (by decide) (by decide)
    exact lineTells0_true _ (lSmall_R _) (close_R _ (by decide) (by decide)) (close_R _ (by decide) (by decide)) (close_R _ (by decide) (by decide)) hs.2.2.1 hs.2.2.2.2.2.2.1 (by omega) (by omega)

/-! ### LineSure -/
def lineSure0 (b : B4) (a c : P2) (h x y : Int) : Bool :=
  let k := lineClass b a c h
  let i := lineHas (lIn b x y) a c h
  let n := cnt4 (fun q => lineHas q a c h) b
  andB (andB (andB (andB (andB ((k == 2) == (n == 4)) (orB (k != 2) i)) (orB (k != 0) (andB (andB (!i) (n == 0)) (!(rMeets b a c))))) (decide (k ≥ 0))) (decide (k ≤ 2))) true
def lineSure (b : B4) (a c : P2) (h x y : Int) (small : Bool) : Bool :=
  bif small then lineSure0 (lSmall (lBox b)) (lClose (lPt a) 20) (lClose (lPt c) 20) (lSmR (lR h) 12) x y else lineSure0 (lBox b) (lPt a) (lPt c) (lR h) x y
theorem lineSure0_true {b : B4} {a c : P2} {h : Int} (x y : Int) (hb : BR b) (ha : PR a) (hc : PR c) (hx : b.x0 ≤ b.x1) (hy : b.y0 ≤ b.y1) (h1 : 1 ≤ h) (h2 : h ≤ 2147483648) : lineSure0 b a c h x y = true := by
  have hq := (lIn_has x y hb hx hy).1
  have hQ := PR_has hb hq
  unfold lineSure0
  dsimp only
  have e1 : all4 (fun q => lineHas q a c h) b = all4 (fun q => lineI q a c h) b := all4_congr hb fun q hq => lineHas_eq hq ha hc h1 h2
  have e2 : any4 (fun q => lineHas q a c h) b = any4 (fun q => lineI q a c h) b := any4_congr hb fun q hq => lineHas_eq hq ha hc h1 h2
  rw [lineClass_eq hb ha hc hx hy h1 h2, lineHas_eq hQ ha hc h1 h2, cnt4_all, cnt4_none, e1, e2, rMeets_eq hb ha hc]
  have f1 : (lineCl b a c h == 2) = all4 (fun q => lineI q a c h) b := by rw [Bool.eq_iff_iff, beq_iff_eq, lineCl_two]
  have f2 : lineCl b a c h = 2 → lineI (lIn b x y) a c h = true := fun k => line_in hq (lineCl_two.1 k)
  have f3 : lineCl b a c h = 0 → lineI (lIn b x y) a c h = false ∧ any4 (fun q => lineI q a c h) b = false ∧ meetsI b a c = false := fun k => by
    refine ⟨line_out hx hy hq k, ?_, ?_⟩
    · rw [Bool.eq_false_iff]; exact fun e => lineCl_hit.2 (.inl e) k
    · rw [Bool.eq_false_iff]; exact fun e => lineCl_hit.2 (.inr (.inr (.inr e))) k
  rw [f1]
  simp only [beq_self_eq_true, andB_eq, orB_eq, Bool.true_and, Bool.and_true]
  rcases lineCl_012 b a c h with k | k | k
  · rw [k, (f3 k).1, (f3 k).2.1, (f3 k).2.2]; rfl
  · rw [k]; rfl
  · rw [k, f2 k]; rfl
theorem lineSure_true (b : B4) (a c : P2) (h x y : Int) (small : Bool) : lineSure b a c h x y small = true := by
  have r := lR_bd h
  unfold lineSure
  cases small
  · have hs := lBox_r b
    exact lineSure0_true _ _ (lBox_R b) (lPt_R a) (lPt_R c) hs.2.1 hs.2.2.2.2.1 (by omega) (by omega)
  · have hs := lSmall_r (lBox b)
    have e := lSmR_bd (r := lR h) (m := 12) (by omega) (by decide) (by decide)
    exact lineSure0_true _ _ (lSmall_R _) (close_R _ (by decide) (by decide)) (close_R _ (by decide) (by decide)) hs.2.2.1 hs.2.2.2.2.2.2.1 (by omega) (by omega)

/-! ### LineMeans -/
theorem discHas_eq' {p c : P2} {r : Int} (hp : PR p) (hc : PR c) (h1 : 1 ≤ r) (h2 : r ≤ 2147483648) : discHas p c r = decide (distI p c ≤ r * r) := discHas_eq hp hc h1 h2
theorem lineI_pt (p a : P2) (r : Int) : lineI p a a r = decide (distI p a ≤ r * r) := by
  unfold lineI
  have : dotI a a p ≤ 0 := by unfold dotI; grind
  rw [if_pos this]
theorem meetsI_pt {b : B4} {a : P2} (h : meetsI b a a = true) : hasI b a := by
  unfold meetsI at h
  cases k : sepI b a a
  · unfold sepI at k
    simp only [Bool.or_eq_false_iff, decide_eq_false_iff_not] at k
    exact ⟨by omega, by omega, by omega, by omega⟩
  · rw [k] at h; simp at h
theorem lineCl_pt {b : B4} {a : P2} {r : Int} (hx : b.x0 ≤ b.x1) (hy : b.y0 ≤ b.y1) : lineCl b a a r = if nearI b a > r * r then 0 else if mostI b a ≤ r * r then 2 else 1 := by
  have e2 : (all4 (fun q => lineI q a a r) b = true) ↔ mostI b a ≤ r * r := by
    rw [most_corner hx hy]
    unfold all4
    simp only [lineI_pt, Bool.and_eq_true, decide_eq_true_eq]
    omega
  have e0 : lineCl b a a r ≠ 0 ↔ nearI b a ≤ r * r := by
    rw [lineCl_hit]
    constructor
    · rintro (h | h | h | h)
      · obtain ⟨k, hk, hl⟩ := any4_iff.1 h
        rw [lineI_pt, decide_eq_true_eq, distI_comm] at hl
        exact Int.le_trans (near_le (isC_has hx hy hk)) hl
      · exact h
      · exact h
      · have := (near_zero b a hx hy).2 (meetsI_pt h)
        rw [this]; exact sq_nn r
    · exact fun h => .inr (.inl h)
  have e2' := lineCl_two (b := b) (a := a) (c := a) (r := r)
  rw [e2] at e2'
  have := lineCl_012 b a a r
  split
  · omega
  · split <;> omega
theorem all4_flip (b : B4) (a c : P2) (r : Int) : all4 (fun q => lineI q c a r) b = all4 (fun q => lineI q a c r) b := by
  congr 1; funext q; exact lineI_flip q a c r
theorem meetsI_flip (b : B4) (a c : P2) : meetsI b c a = meetsI b a c := by
  have e1 : all4 (fun k => decide (crossI c a k > 0)) b = all4 (fun k => decide (crossI a c k < 0)) b := by
    congr 1; funext q; rw [(flips a c q).1]; exact decide_eq_decide.2 (by omega)
  have e2 : all4 (fun k => decide (crossI c a k < 0)) b = all4 (fun k => decide (crossI a c k > 0)) b := by
    congr 1; funext q; rw [(flips a c q).1]; exact decide_eq_decide.2 (by omega)
  have e3 : sepI b c a = sepI b a c := by
    unfold sepI
    rw [Int.max_comm c.x, Int.max_comm c.y, Int.min_comm c.x, Int.min_comm c.y]
  unfold meetsI
  rw [e1, e2, e3]
  cases sepI b a c <;> cases all4 (fun k => decide (crossI a c k < 0)) b <;> cases all4 (fun k => decide (crossI a c k > 0)) b <;> rfl
theorem lineCl_flip (b : B4) (a c : P2) (r : Int) : lineCl b c a r = lineCl b a c r := by
  unfold lineCl
  have e : any4 (fun q => lineI q c a r) b = any4 (fun q => lineI q a c r) b := by congr 1; funext q; exact lineI_flip q a c r
  rw [all4_flip, e, meetsI_flip]
  cases any4 (fun q => lineI q a c r) b <;> cases decide (nearI b a ≤ r * r) <;> cases decide (nearI b c ≤ r * r) <;> rfl
def subP (c a : P2) : P2 := ⟨W (c.x - a.x), W (c.y - a.y)⟩
def addK (a d : P2) (k : Int) : P2 := ⟨W (a.x + W (k * d.x)), W (a.y + W (k * d.y))⟩
def lineMeans (b0 : B4) (a0 c0 : P2) (r0 : Int) (p0 : P2) (k0 : Int) : Bool :=
  let b := lSmall b0
  let a := lClose a0 20
  let c := lClose c0 20
  let p := lClose p0 40
  let r := lSmR (lR r0) 12
  let d := subP c a
  let e := addK a d 4
  let k := band k0 3
  let m := addK a d k
  andB (andB (andB (andB (andB (andB (andB (lineClass b a c r == lineClass b c a r) (lineHas p a c r == lineHas p c a r)) (lineClass b a a r == discClass b a r)) (lineHas p a a r == discHas p a r)) (orB (!(discHas p m r)) (lineHas p a e r))) (orB (discClass b m r != 2) (lineClass b a e r == 2))) (orB (lineClass b a e r != 0) (discClass b m r == 0))) true
/-- a disc around a quarter of the segment is in the stroke -/
theorem disc_line {p a d : P2} {k r : Int} (k0 : 0 ≤ k) (k3 : k ≤ 4) (h : distI p ⟨a.x + k * d.x, a.y + k * d.y⟩ ≤ r * r) : lineI p a ⟨a.x + 4 * d.x, a.y + 4 * d.y⟩ r = true := by
  rw [lineI_iff]
  refine ⟨k, 4, by decide, k0, k3, ?_⟩
  unfold distI at h
  dsimp only at h ⊢
  have e1 : 4 * (p.x - a.x) - k * (a.x + 4 * d.x - a.x) = 4 * (p.x - (a.x + k * d.x)) := by grind
  have e2 : 4 * (p.y - a.y) - k * (a.y + 4 * d.y - a.y) = 4 * (p.y - (a.y + k * d.y)) := by grind
  rw [e1, e2]
  have f1 : ∀ z : Int, 4 * z * (4 * z) = 16 * (z * z) := fun z => by grind
  rw [f1, f1]; omega
theorem lineMeans_true (b : B4) (a c : P2) (r : Int) (p : P2) (k : Int) : lineMeans b a c r p k = true := by
  have hb := lSmall_s b
  have ha := lClose_r a (n := 20) (by decide) (by decide)
  have hc := lClose_r c (n := 20) (by decide) (by decide)
  have hp := lClose_r p (n := 40) (by decide) (by decide)
  have hr := lR_bd r
  have hh := lSmR_bd (r := lR r) (m := 12) (by omega) (by decide) (by decide)
  have hk := band3 k
  have hB := lSmall_R b
  unfold lineMeans
  dsimp only
  generalize lClose a 20 = A at *
  generalize lClose c 20 = C at *
  generalize lClose p 40 = Q at *
  generalize lSmR (lR r) 12 = H at *
  generalize lSmall b = B at *
  generalize band k 3 = K at *
  have hs : subP C A = ⟨C.x - A.x, C.y - A.y⟩ := by unfold subP; rw [W_id (by omega) (by omega), W_id (by omega) (by omega)]
  rw [hs]
  have hdx : ∃ dx, dx = C.x - A.x := ⟨_, rfl⟩
  have hdy : ∃ dy, dy = C.y - A.y := ⟨_, rfl⟩
  obtain ⟨dx, ex⟩ := hdx; obtain ⟨dy, ey⟩ := hdy
  rw [← ex, ← ey]
  have kx := mul_bd (A := 3) (B := 40) (x := K) (y := dx) (by omega) (by omega) (by omega) (by omega)
  have ky := mul_bd (A := 3) (B := 40) (x := K) (y := dy) (by omega) (by omega) (by omega) (by omega)
  have em : addK A ⟨dx, dy⟩ K = ⟨A.x + K * dx, A.y + K * dy⟩ := by
    unfold addK; dsimp only; rw [W_id (x := K * dx) (by omega) (by omega), W_id (x := K * dy) (by omega) (by omega), W_id (by omega) (by omega), W_id (by omega) (by omega)]
  have ee : addK A ⟨dx, dy⟩ 4 = ⟨A.x + 4 * dx, A.y + 4 * dy⟩ := by
    unfold addK; dsimp only; rw [W_id (x := 4 * dx) (by omega) (by omega), W_id (x := 4 * dy) (by omega) (by omega), W_id (by omega) (by omega), W_id (by omega) (by omega)]
  rw [em, ee]
  have hA : PR A := PR_of ha (by decide)
  have hC : PR C := PR_of hc (by decide)
  have hQ : PR Q := PR_of hp (by decide)
  have hM : PR ⟨A.x + K * dx, A.y + K * dy⟩ := ⟨⟨by dsimp only; omega, by dsimp only; omega⟩, ⟨by dsimp only; omega, by dsimp only; omega⟩⟩
  have hE : PR ⟨A.x + 4 * dx, A.y + 4 * dy⟩ := ⟨⟨by dsimp only; omega, by dsimp only; omega⟩, ⟨by dsimp only; omega, by dsimp only; omega⟩⟩
  have bx_ := hb.2.1
  have by_ := hb.2.2.2.2.1
  rw [lineClass_eq hB hA hC bx_ by_ hh.1 (by omega), lineClass_eq hB hC hA bx_ by_ hh.1 (by omega), lineClass_eq hB hA hA bx_ by_ hh.1 (by omega), lineClass_eq hB hA hE bx_ by_ hh.1 (by omega),
    lineHas_eq hQ hA hC hh.1 (by omega), lineHas_eq hQ hC hA hh.1 (by omega), lineHas_eq hQ hA hA hh.1 (by omega), lineHas_eq hQ hA hE hh.1 (by omega),
    discClass_eq hB hA bx_ by_ hh.1 (by omega), discClass_eq hB hM bx_ by_ hh.1 (by omega), discHas_eq hQ hA hh.1 (by omega), discHas_eq hQ hM hh.1 (by omega),
    lineCl_flip B A C, lineI_flip Q A C, lineCl_pt bx_ by_, lineI_pt]
  have dl : ∀ q, distI q ⟨A.x + K * dx, A.y + K * dy⟩ ≤ H * H → lineI q A ⟨A.x + 4 * dx, A.y + 4 * dy⟩ H = true := fun q h => disc_line (d := ⟨dx, dy⟩) hk.1 (by omega) h
  have g1 : orB (!(decide (distI Q ⟨A.x + K * dx, A.y + K * dy⟩ ≤ H * H))) (lineI Q A ⟨A.x + 4 * dx, A.y + 4 * dy⟩ H) = true := by
    by_cases z : distI Q ⟨A.x + K * dx, A.y + K * dy⟩ ≤ H * H
    · rw [dl Q z, orB_eq, Bool.or_true]
    · rw [decide_eq_false z]; rfl
  have n1 : nearI B ⟨A.x + K * dx, A.y + K * dy⟩ ≤ H * H → lineCl B A ⟨A.x + 4 * dx, A.y + 4 * dy⟩ H ≠ 0 := fun z => by
    rw [near_nearest bx_ by_] at z
    exact hit_of bx_ by_ (by unfold nearest hasI; dsimp only; omega) (dl _ z)
  have n2 : mostI B ⟨A.x + K * dx, A.y + K * dy⟩ ≤ H * H → lineCl B A ⟨A.x + 4 * dx, A.y + 4 * dy⟩ H = 2 := fun z => by
    rw [lineCl_two, all4_iff]
    intro q hq
    refine dl q ?_
    have := most_ge (p := ⟨A.x + K * dx, A.y + K * dy⟩) (isC_has bx_ by_ hq)
    rw [distI_comm] at this; omega
  simp only [g1, beq_self_eq_true, andB_eq, orB_eq, Bool.true_and, Bool.and_true]
  by_cases z : nearI B ⟨A.x + K * dx, A.y + K * dy⟩ > H * H
  · rw [if_pos z]; simp
  · rw [if_neg z]
    have z1 := n1 (by omega)
    by_cases y : mostI B ⟨A.x + K * dx, A.y + K * dy⟩ ≤ H * H
    · rw [if_pos y, n2 y]; rfl
    · rw [if_neg y]; simp [z1]

/-! ### LineThick -/
def lineThick (b0 : B4) (a0 d0 : P2) (r0 : Int) (p0 : P2) (more : Int) : Bool :=
  let b := lSmall b0
  let a := lClose a0 20
  let d := lClose d0 9
  let p := lClose p0 40
  let r := lSmR (lR r0) 12
  let c := addP a d
  let e := addP2 a d
  let w := W (r + lMore more)
  let k := lineClass b a c r
  andB (andB (andB (andB (decide (lineClass b a c w ≥ k)) (decide (lineClass b a e r ≥ k))) (orB (!(lineHas p a c r)) (andB (lineHas p a c w) (lineHas p a e r)))) (lineHas p a e r == orB (lineHas p a c r) (lineHas p c e r))) true
theorem lineI_wide {p a c : P2} {r w : Int} (h0 : 0 ≤ r) (h : r ≤ w) (k : lineI p a c r = true) : lineI p a c w = true := by
  rw [lineI_iff] at *
  exact onS_mono (sq_le (by omega) h) k
theorem onS_two {p a d : P2} {R : Int} : OnS p a ⟨a.x + 2 * d.x, a.y + 2 * d.y⟩ R ↔ OnS p a ⟨a.x + d.x, a.y + d.y⟩ R ∨ OnS p ⟨a.x + d.x, a.y + d.y⟩ ⟨a.x + 2 * d.x, a.y + 2 * d.y⟩ R := by
  have f1 : ∀ z : Int, 2 * z * (2 * z) = 4 * (z * z) := fun z => by grind
  constructor
  · rintro ⟨m, n, n0, m0, mn, h⟩
    dsimp only at h
    by_cases k : 2 * m ≤ n
    · refine .inl ⟨2 * m, n, n0, by omega, k, ?_⟩
      dsimp only
      have e1 : n * (p.x - a.x) - 2 * m * (a.x + d.x - a.x) = n * (p.x - a.x) - m * (a.x + 2 * d.x - a.x) := by grind
      have e2 : n * (p.y - a.y) - 2 * m * (a.y + d.y - a.y) = n * (p.y - a.y) - m * (a.y + 2 * d.y - a.y) := by grind
      rw [e1, e2]; exact h
    · refine .inr ⟨2 * m - n, n, n0, by omega, by omega, ?_⟩
      dsimp only
      have e1 : n * (p.x - (a.x + d.x)) - (2 * m - n) * (a.x + 2 * d.x - (a.x + d.x)) = n * (p.x - a.x) - m * (a.x + 2 * d.x - a.x) := by grind
      have e2 : n * (p.y - (a.y + d.y)) - (2 * m - n) * (a.y + 2 * d.y - (a.y + d.y)) = n * (p.y - a.y) - m * (a.y + 2 * d.y - a.y) := by grind
      rw [e1, e2]; exact h
  · rintro (⟨m, n, n0, m0, mn, h⟩ | ⟨m, n, n0, m0, mn, h⟩)
    · refine ⟨m, 2 * n, by omega, m0, by omega, ?_⟩
      dsimp only at h ⊢
      have e1 : 2 * n * (p.x - a.x) - m * (a.x + 2 * d.x - a.x) = 2 * (n * (p.x - a.x) - m * (a.x + d.x - a.x)) := by grind
      have e2 : 2 * n * (p.y - a.y) - m * (a.y + 2 * d.y - a.y) = 2 * (n * (p.y - a.y) - m * (a.y + d.y - a.y)) := by grind
      have e3 : 2 * n * (2 * n) * R = 4 * (n * n * R) := by grind
      rw [e1, e2, f1, f1, e3]; omega
    · refine ⟨m + n, 2 * n, by omega, by omega, by omega, ?_⟩
      dsimp only at h ⊢
      have e1 : 2 * n * (p.x - a.x) - (m + n) * (a.x + 2 * d.x - a.x) = 2 * (n * (p.x - (a.x + d.x)) - m * (a.x + 2 * d.x - (a.x + d.x))) := by grind
      have e2 : 2 * n * (p.y - a.y) - (m + n) * (a.y + 2 * d.y - a.y) = 2 * (n * (p.y - (a.y + d.y)) - m * (a.y + 2 * d.y - (a.y + d.y))) := by grind
      have e3 : 2 * n * (2 * n) * R = 4 * (n * n * R) := by grind
      rw [e1, e2, f1, f1, e3]; omega
theorem lineI_two (p a d : P2) (r : Int) : lineI p a ⟨a.x + 2 * d.x, a.y + 2 * d.y⟩ r = (lineI p a ⟨a.x + d.x, a.y + d.y⟩ r || lineI p ⟨a.x + d.x, a.y + d.y⟩ ⟨a.x + 2 * d.x, a.y + 2 * d.y⟩ r) := by
  rw [Bool.eq_iff_iff, Bool.or_eq_true, lineI_iff, lineI_iff, lineI_iff]; exact onS_two
theorem meetsI_two {b : B4} {a d : P2} (h : meetsI b a ⟨a.x + d.x, a.y + d.y⟩ = true) : meetsI b a ⟨a.x + 2 * d.x, a.y + 2 * d.y⟩ = true := by
  have e : ∀ q, crossI a ⟨a.x + 2 * d.x, a.y + 2 * d.y⟩ q = 2 * crossI a ⟨a.x + d.x, a.y + d.y⟩ q := fun q => by unfold crossI; dsimp only; grind
  unfold meetsI at *
  simp only [Bool.and_eq_true, Bool.not_eq_true'] at *
  obtain ⟨h1, h2, h3⟩ := h
  have e1 : all4 (fun c => decide (crossI a ⟨a.x + 2 * d.x, a.y + 2 * d.y⟩ c > 0)) b = all4 (fun c => decide (crossI a ⟨a.x + d.x, a.y + d.y⟩ c > 0)) b := by
    congr 1; funext q; rw [e]; exact decide_eq_decide.2 (by omega)
  have e2 : all4 (fun c => decide (crossI a ⟨a.x + 2 * d.x, a.y + 2 * d.y⟩ c < 0)) b = all4 (fun c => decide (crossI a ⟨a.x + d.x, a.y + d.y⟩ c < 0)) b := by
    congr 1; funext q; rw [e]; exact decide_eq_decide.2 (by omega)
  rw [e1, e2]
  refine ⟨?_, h2, h3⟩
  unfold sepI at *
  simp only [Bool.or_eq_false_iff, decide_eq_false_iff_not] at *
  try dsimp only at *
  omega
theorem lineThick_true (b : B4) (a d : P2) (r : Int) (p : P2) (more : Int) : lineThick b a d r p more = true := by
  have hb := lSmall_s b
  have ha := lClose_r a (n := 20) (by decide) (by decide)
  have hd := lClose_r d (n := 9) (by decide) (by decide)
  have hp := lClose_r p (n := 40) (by decide) (by decide)
  have hr := lR_bd r
  have hh := lSmR_bd (r := lR r) (m := 12) (by omega) (by decide) (by decide)
  have hm := lMore_bd more
  have hB := lSmall_R b
  unfold lineThick
  dsimp only
  rw [(addP_eq ha hd (by decide) (by decide)).1, (addP_eq ha hd (by decide) (by decide)).2]
  generalize lClose a 20 = A at *
  generalize lClose d 9 = D at *
  generalize lClose p 40 = Q at *
  generalize lSmR (lR r) 12 = H at *
  generalize lMore more = M at *
  generalize lSmall b = B at *
  have hA : PR A := PR_of ha (by decide)
  have hQ : PR Q := PR_of hp (by decide)
  have hC : PR ⟨A.x + D.x, A.y + D.y⟩ := ⟨⟨by dsimp only; omega, by dsimp only; omega⟩, ⟨by dsimp only; omega, by dsimp only; omega⟩⟩
  have hE : PR ⟨A.x + 2 * D.x, A.y + 2 * D.y⟩ := ⟨⟨by dsimp only; omega, by dsimp only; omega⟩, ⟨by dsimp only; omega, by dsimp only; omega⟩⟩
  have bx_ := hb.2.1
  have by_ := hb.2.2.2.2.1
  rw [W_id (x := H + M) (by omega) (by omega)]
  rw [lineClass_eq hB hA hC bx_ by_ hh.1 (by omega), lineClass_eq hB hA hE bx_ by_ hh.1 (by omega), lineClass_eq hB hA hC bx_ by_ (r := H + M) (by omega) (by omega),
    lineHas_eq hQ hA hC hh.1 (by omega), lineHas_eq hQ hA hE hh.1 (by omega), lineHas_eq hQ hC hE hh.1 (by omega), lineHas_eq hQ hA hC (r := H + M) (by omega) (by omega), lineI_two]
  have sq := sq_le (x := H) (y := H + M) (by omega) (by omega)
  have c1 : lineCl B A ⟨A.x + D.x, A.y + D.y⟩ H ≤ lineCl B A ⟨A.x + D.x, A.y + D.y⟩ (H + M) := by
    refine lineCl_le (fun z => ?_) (fun z => ?_)
    · rw [lineCl_two, all4_iff] at *
      exact fun k hk => lineI_wide (by omega) (by omega) (z k hk)
    · rw [lineCl_hit] at *
      rcases z with z | z | z | z
      · obtain ⟨k, hk, hl⟩ := any4_iff.1 z
        exact .inl (any4_iff.2 ⟨k, hk, lineI_wide (by omega) (by omega) hl⟩)
      · exact .inr (.inl (by omega))
      · exact .inr (.inr (.inl (by omega)))
      · exact .inr (.inr (.inr z))
  have c2 : lineCl B A ⟨A.x + D.x, A.y + D.y⟩ H ≤ lineCl B A ⟨A.x + 2 * D.x, A.y + 2 * D.y⟩ H := by
    refine lineCl_le (fun z => ?_) (fun z => ?_)
    · rw [lineCl_two, all4_iff] at *
      exact fun k hk => by rw [lineI_two, z k hk, Bool.true_or]
    · rcases lineCl_hit.1 z with z | z | z | z
      · obtain ⟨k, hk, hl⟩ := any4_iff.1 z
        exact lineCl_hit.2 (.inl (any4_iff.2 ⟨k, hk, by rw [lineI_two, hl, Bool.true_or]⟩))
      · exact lineCl_hit.2 (.inr (.inl z))
      · rw [near_nearest bx_ by_] at z
        have hz : lineI (nearest B ⟨A.x + D.x, A.y + D.y⟩) A ⟨A.x + D.x, A.y + D.y⟩ H = true := by
          rw [lineI_flip, lineI_iff]
          refine ⟨0, 1, by decide, by decide, by decide, ?_⟩
          rw [seg_norm]; omega
        exact hit_of bx_ by_ (q := nearest B ⟨A.x + D.x, A.y + D.y⟩) (by unfold nearest hasI; dsimp only; omega) (by rw [lineI_two, hz, Bool.true_or])
      · exact lineCl_hit.2 (.inr (.inr (.inr (meetsI_two z))))
  have c3 : lineI Q A ⟨A.x + D.x, A.y + D.y⟩ H = true → lineI Q A ⟨A.x + D.x, A.y + D.y⟩ (H + M) = true := lineI_wide (by omega) (by omega)
  simp only [andB_eq, orB_eq, beq_self_eq_true, Bool.and_true]
  rw [decide_eq_true c1, decide_eq_true c2]
  cases z : lineI Q A ⟨A.x + D.x, A.y + D.y⟩ H
  · rfl
  · rw [c3 z]; rfl
end Go.Proofs.Ythnenjodighlmaa

/-! ## Lit -/
namespace Go.Proofs.Ythnenjodighlmaa
open Go Go.RowKit Sym
set_option maxRecDepth 100000

def lineStr0 (long r : Int) (p c q : P2) : Bool :=
  andB (lineHas p ⟨0, 0⟩ c r == orB (orB (andB (andB (andB (decide (q.x ≥ 0)) (decide (q.x ≤ long))) (decide (q.y ≥ W (0 - r)))) (decide (q.y ≤ r))) (discHas p ⟨0, 0⟩ r)) (discHas p c r)) true
def lineStraight (long0 r0 : Int) (p0 : P2) (up_ : Bool) : Bool :=
  let long := lMod long0 50
  let r := lSmR (lR r0) 12
  let p := lClose p0 70
  bif up_ then lineStr0 long r p ⟨0, long⟩ ⟨p.y, p.x⟩ else lineStr0 long r p ⟨long, 0⟩ p
theorem straightI {l r : Int} (p : P2) (hl : 0 ≤ l) (hr : 1 ≤ r) : lineI p ⟨0, 0⟩ ⟨l, 0⟩ r = true ↔ ((0 ≤ p.x ∧ p.x ≤ l ∧ -r ≤ p.y ∧ p.y ≤ r) ∨ distI p ⟨0, 0⟩ ≤ r * r ∨ distI p ⟨l, 0⟩ ≤ r * r) := by
  have hd : dotI ⟨0, 0⟩ ⟨l, 0⟩ p = l * p.x := by unfold dotI; dsimp only; grind
  have hk : crossI ⟨0, 0⟩ ⟨l, 0⟩ p = l * p.y := by unfold crossI; dsimp only; grind
  have hL : distI ⟨0, 0⟩ ⟨l, 0⟩ = l * l := by unfold distI; dsimp only; grind
  have h0 : distI p ⟨0, 0⟩ = p.x * p.x + p.y * p.y := by unfold distI; dsimp only; grind
  have h1 : distI p ⟨l, 0⟩ = (p.x - l) * (p.x - l) + p.y * p.y := by unfold distI; dsimp only; grind
  have nx := sq_nn p.x; have nxl := sq_nn (p.x - l); have ny := sq_nn p.y
  have yy : (-r ≤ p.y ∧ p.y ≤ r) ↔ p.y * p.y ≤ r * r := by
    constructor
    · exact fun k => sq_le k.1 k.2
    · intro k
      rcases Int.lt_or_le r p.y with g | g
      · have := sq_lt (x := r) (y := p.y) (by omega) g; omega
      · refine ⟨?_, g⟩
        rcases Int.lt_or_le p.y (-r) with g' | g'
        · have := sq_lt (x := r) (y := -p.y) (by omega) (by omega)
          have e : -p.y * -p.y = p.y * p.y := by grind
          omega
        · exact g'
  unfold lineI clear
  rw [hd, hk, hL, h0, h1, yy]
  by_cases k : l * p.x ≤ 0
  · rw [if_pos k, decide_eq_true_eq]
    constructor
    · exact fun z => .inr (.inl z)
    · rintro (z | z | z)
      · -- 0 ≤ x and l * x ≤ 0
        have : p.x = 0 := by
          rcases Int.lt_or_le 0 p.x with g | g
          · rcases Int.lt_or_le 0 l with g' | g'
            · have := Int.mul_pos g' g; omega
            · omega
          · omega
        rw [this]; simpa using z.2.2
      · exact z
      · have : p.x * p.x ≤ (p.x - l) * (p.x - l) := by
          have e : (p.x - l) * (p.x - l) = p.x * p.x - 2 * (l * p.x) + l * l := by grind
          have := sq_nn l
          omega
        omega
  · rw [if_neg k]
    have lp : 0 < l := by
      rcases Int.lt_or_le 0 l with g | g
      · exact g
      · have : l = 0 := by omega
        rw [this] at k; simp at k
    have xp : 0 < p.x := by
      rcases Int.lt_or_le 0 p.x with g | g
      · exact g
      · have := Int.mul_nonneg hl (show 0 ≤ -p.x by omega)
        have e : l * -p.x = -(l * p.x) := by grind
        omega
    by_cases k' : l * p.x ≥ l * l
    · rw [if_pos k', decide_eq_true_eq]
      have xl : l ≤ p.x := Int.le_of_mul_le_mul_left k' lp
      constructor
      · exact fun z => .inr (.inr z)
      · rintro (z | z | z)
        · have : p.x = l := by omega
          rw [this]; simpa using z.2.2
        · have := sq_le (x := p.x - l) (y := p.x) (by omega) (by omega)
          omega
        · exact z
    · rw [if_neg k', decide_eq_true_eq]
      have xl : p.x < l := by
        rcases Int.lt_or_le p.x l with g | g
        · exact g
        · have := Int.mul_le_mul_of_nonneg_left g hl; omega
      have e1 : l * p.y * (l * p.y) = l * l * (p.y * p.y) := by grind
      have e2 : r * r * (l * l) = l * l * (r * r) := by grind
      rw [e1, e2, Int.mul_le_mul_left (Int.mul_pos lp lp)]
      constructor
      · exact fun z => .inl ⟨by omega, by omega, z⟩
      · rintro (z | z | z)
        · exact z.2.2
        · omega
        · omega
theorem lineStr0_true {l r : Int} {p : P2} (hl : 0 ≤ l ∧ l ≤ 50) (hr : 1 ≤ r ∧ r ≤ 12) (hp : (-70 ≤ p.x ∧ p.x ≤ 70) ∧ (-70 ≤ p.y ∧ p.y ≤ 70)) : lineStr0 l r p ⟨l, 0⟩ p = true ∧ lineStr0 l r p ⟨0, l⟩ ⟨p.y, p.x⟩ = true := by
  have hP : PR p := PR_of hp (by decide)
  have z : PR ⟨0, 0⟩ := ⟨⟨by decide, by decide⟩, ⟨by decide, by decide⟩⟩
  have zl : PR ⟨l, 0⟩ := ⟨⟨by dsimp only; omega, by dsimp only; omega⟩, ⟨by dsimp only; omega, by dsimp only; omega⟩⟩
  have lz : PR ⟨0, l⟩ := ⟨⟨by dsimp only; omega, by dsimp only; omega⟩, ⟨by dsimp only; omega, by dsimp only; omega⟩⟩
  unfold lineStr0
  rw [W_id (x := 0 - r) (by omega) (by omega)]
  rw [lineHas_eq hP z zl hr.1 (by omega), lineHas_eq hP z lz hr.1 (by omega), discHas_eq hP z hr.1 (by omega), discHas_eq hP zl hr.1 (by omega), discHas_eq hP lz hr.1 (by omega)]
  simp only [orB_eq, andB_eq, Bool.and_true, beq_iff_eq]
  constructor
  · rw [Bool.eq_iff_iff, straightI p hl.1 hr.1]
    simp only [Bool.or_eq_true, Bool.and_eq_true, decide_eq_true_eq, or_assoc, and_assoc, ge_iff_le, Int.zero_sub]
  · have s := straightI ⟨p.y, p.x⟩ hl.1 hr.1
    have e1 : lineI p ⟨0, 0⟩ ⟨0, l⟩ r = true ↔ lineI ⟨p.y, p.x⟩ ⟨0, 0⟩ ⟨l, 0⟩ r = true := by
      rw [lineI_iff, lineI_iff]
      exact ⟨onS_sw, onS_sw⟩
    have e2 : distI ⟨p.y, p.x⟩ ⟨0, 0⟩ = distI p ⟨0, 0⟩ := by unfold distI; dsimp only; omega
    have e3 : distI ⟨p.y, p.x⟩ ⟨l, 0⟩ = distI p ⟨0, l⟩ := by unfold distI; dsimp only; omega
    rw [e2, e3] at s
    dsimp only at s
    rw [Bool.eq_iff_iff, e1, s]
    simp only [Bool.or_eq_true, Bool.and_eq_true, decide_eq_true_eq, or_assoc, and_assoc, ge_iff_le, Int.zero_sub]
theorem lineStraight_true (long r : Int) (p : P2) (up_ : Bool) : lineStraight long r p up_ = true := by
  have hl := lMod_bd long (n := 50) (by decide) (by decide)
  have hr := lR_bd r
  have hh := lSmR_bd (r := lR r) (m := 12) (by omega) (by decide) (by decide)
  have hp := lClose_r p (n := 70) (by decide) (by decide)
  have h := lineStr0_true (l := lMod long 50) (r := lSmR (lR r) 12) (p := lClose p 70) ⟨hl.1, by omega⟩ hh hp
  unfold lineStraight
  cases up_
  · exact h.1
  · exact h.2
theorem n71 : W (70 + 1) ≠ 0 := by decide
end Go.Proofs.Ythnenjodighlmaa

/-! ## Rin -/
namespace Go.Proofs.Ythnenjodighlmaa
open Go Go.RowKit Sym
set_option maxRecDepth 100000

/-! ### arcs of the laws -/
def circX (i : Int) : Int :=
  bif decide (i = ((0 : Nat) : Int)) then 5 else bif decide (i = ((1 : Nat) : Int)) then 4 else bif decide (i = ((2 : Nat) : Int)) then 3 else bif decide (i = ((3 : Nat) : Int)) then 0 else bif decide (i = ((4 : Nat) : Int)) then -3 else bif decide (i = ((5 : Nat) : Int)) then -4 else
  bif decide (i = ((6 : Nat) : Int)) then -5 else bif decide (i = ((7 : Nat) : Int)) then -4 else bif decide (i = ((8 : Nat) : Int)) then -3 else bif decide (i = ((9 : Nat) : Int)) then 0 else bif decide (i = ((10 : Nat) : Int)) then 3 else 4
def circY (i : Int) : Int :=
  bif decide (i = ((0 : Nat) : Int)) then 0 else bif decide (i = ((1 : Nat) : Int)) then 3 else bif decide (i = ((2 : Nat) : Int)) then 4 else bif decide (i = ((3 : Nat) : Int)) then 5 else bif decide (i = ((4 : Nat) : Int)) then 4 else bif decide (i = ((5 : Nat) : Int)) then 3 else
  bif decide (i = ((6 : Nat) : Int)) then 0 else bif decide (i = ((7 : Nat) : Int)) then -3 else bif decide (i = ((8 : Nat) : Int)) then -4 else bif decide (i = ((9 : Nat) : Int)) then -5 else bif decide (i = ((10 : Nat) : Int)) then -4 else -3
def arcI (f : Int) : Int := (band f 255).tmod 12
def arcK0 (s : Int) : Int := W (W ((U s).tmod 20000000) + 1)
def arcK1 (s : Int) : Int := W (band (arcK0 s) 3 + 1)
def arcC0 (c : P2) : P2 := lClose c 400000000
def arcC1 (c : P2) : P2 := lClose (arcC0 c) 15
def arcC (c : P2) (sm : Bool) : P2 := ⟨bif sm then (arcC1 c).x else (arcC0 c).x, bif sm then (arcC1 c).y else (arcC0 c).y⟩
def arcAt (c : P2) (f s : Int) (sm : Bool) : P2 :=
  ⟨bif sm then W ((arcC1 c).x + W (arcK1 s * circX (arcI f))) else W ((arcC0 c).x + W (arcK0 s * circX (arcI f))), bif sm then W ((arcC1 c).y + W (arcK1 s * circY (arcI f))) else W ((arcC0 c).y + W (arcK0 s * circY (arcI f)))⟩
theorem band255 (x : Int) : 0 ≤ band x 255 ∧ band x 255 ≤ 255 := by
  have h : (BitVec.ofInt 64 x &&& BitVec.ofInt 64 255).toNat ≤ 255 := by
    rw [BitVec.toNat_and]
    exact Nat.le_trans Nat.and_le_right (by decide)
  unfold band
  rw [W_id (by omega) (by omega)]
  omega
theorem arcI_bd (f : Int) : 0 ≤ arcI f ∧ arcI f < 12 := by
  have a := band255 f
  have b := Int.tmod_nonneg (a := band f 255) 12 a.1
  have c := (tmod_bd (band f 255) (n := 12) (by decide)).2
  unfold arcI; omega
def arcIx (f : Int) : Prop := 0 ≤ arcI f ∧ arcI f < ((12 : Nat) : Int)
theorem n16 : W (15 + 1) ≠ 0 := by decide
theorem n4e8 : W (400000000 + 1) ≠ 0 := by decide
theorem arc_ok (c : P2) (f t s : Int) (sm : Bool) : CallOk Try.prog 37 [pt c, vi f, vi t, vi s, vb sm] (.tuple ⟨[pt (arcC c sm), pt (arcAt c f s sm), pt (arcAt c t s sm)]⟩) :=
  fnOkS (fuel := 16) (tbOf_ok tbA_ok) mo Try.func37 (by kernel_rfl) (by kernel_rfl) (by kernel_rfl)
    (show _ = [arcIx f, arcIx t, W (400000000 + 1) ≠ 0, sm = true → W (15 + 1) ≠ 0] by kernel_rfl) ⟨arcI_bd f, arcI_bd t, n4e8, fun _ => n16, trivial⟩
def tbR9 : List Entry := (37, en5 dP dI dI dI dB (fun c f t s sm => .tuple ⟨[pt (arcC c sm), pt (arcAt c f s sm), pt (arcAt c t s sm)]⟩)) :: tbA9
theorem tbR9_ok : ∀ e ∈ tbR9, EntryOk Try.prog e := List.forall_mem_cons.2 ⟨en5_ok dP_eq dI_eq dI_eq dI_eq dB_eq arc_ok, tbA9_ok⟩
/-- what an arc is: a centre, k times two of the points of the circle of 5 -/
structure Circ (u : P2) : Prop where
  x : -5 ≤ u.x ∧ u.x ≤ 5
  y : -5 ≤ u.y ∧ u.y ≤ 5
  n : u.x * u.x + u.y * u.y = 25
def circ (f : Int) : P2 := ⟨circX (arcI f), circY (arcI f)⟩
theorem circ_ok (f : Int) : Circ (circ f) := by
  have h := arcI_bd f
  have : arcI f = 0 ∨ arcI f = 1 ∨ arcI f = 2 ∨ arcI f = 3 ∨ arcI f = 4 ∨ arcI f = 5 ∨ arcI f = 6 ∨ arcI f = 7 ∨ arcI f = 8 ∨ arcI f = 9 ∨ arcI f = 10 ∨ arcI f = 11 := by omega
  unfold circ
  rcases this with h | h | h | h | h | h | h | h | h | h | h | h <;> rw [h] <;> exact ⟨by decide, by decide, by decide⟩
theorem arcK0_bd (s : Int) : 1 ≤ arcK0 s ∧ arcK0 s ≤ 20000000 := by
  have h0 : 0 ≤ U s := by rw [U_eq]; omega
  have a := Int.tmod_nonneg (a := U s) 20000000 h0
  have b := (tmod_bd (U s) (n := 20000000) (by decide)).2
  unfold arcK0
  rw [W_id (x := (U s).tmod 20000000) (by omega) (by omega), W_id (by omega) (by omega)]; omega
theorem arcK1_bd (s : Int) : 1 ≤ arcK1 s ∧ arcK1 s ≤ 4 := by
  have a := band3 (arcK0 s)
  unfold arcK1; rw [W_id (by omega) (by omega)]; omega
def arcK (s : Int) (sm : Bool) : Int := bif sm then arcK1 s else arcK0 s
theorem arcK_bd (s : Int) (sm : Bool) : 1 ≤ arcK s sm ∧ arcK s sm ≤ 20000000 := by
  have a := arcK0_bd s; have b := arcK1_bd s
  cases sm
  · exact a
  · exact ⟨b.1, by show arcK1 s ≤ _; omega⟩
theorem arcC_r (c : P2) (sm : Bool) : (-400000000 ≤ (arcC c sm).x ∧ (arcC c sm).x ≤ 400000000) ∧ (-400000000 ≤ (arcC c sm).y ∧ (arcC c sm).y ≤ 400000000) := by
  have a := lClose_r c (n := 400000000) (by decide) (by decide)
  have b := lClose_r (arcC0 c) (n := 15) (by decide) (by decide)
  cases sm
  · exact a
  · show (_ ≤ (arcC1 c).x ∧ (arcC1 c).x ≤ _) ∧ (_ ≤ (arcC1 c).y ∧ (arcC1 c).y ≤ _)
    unfold arcC1; omega
theorem arcC_s (c : P2) : (-15 ≤ (arcC c true).x ∧ (arcC c true).x ≤ 15) ∧ (-15 ≤ (arcC c true).y ∧ (arcC c true).y ≤ 15) := lClose_r (arcC0 c) (n := 15) (by decide) (by decide)
/-- the point of the arc, without wraps -/
def onC (c : P2) (k : Int) (u : P2) : P2 := ⟨c.x + k * u.x, c.y + k * u.y⟩
theorem arcAt_eq (c : P2) (f s : Int) (sm : Bool) : arcAt c f s sm = onC (arcC c sm) (arcK s sm) (circ f) := by
  have h := circ_ok f
  have kk := arcK_bd s sm
  have cc := arcC_r c sm
  have x := mul_bd (A := 20000000) (B := 5) (x := arcK s sm) (y := (circ f).x) (by omega) (by omega) h.x.1 h.x.2
  have y := mul_bd (A := 20000000) (B := 5) (x := arcK s sm) (y := (circ f).y) (by omega) (by omega) h.y.1 h.y.2
  have e : arcAt c f s sm = ⟨W ((arcC c sm).x + W (arcK s sm * (circ f).x)), W ((arcC c sm).y + W (arcK s sm * (circ f).y))⟩ := by cases sm <;> rfl
  rw [e, W_id (x := arcK s sm * (circ f).x) (by omega) (by omega), W_id (x := arcK s sm * (circ f).y) (by omega) (by omega), W_id (by omega) (by omega), W_id (by omega) (by omega)]
  rfl
theorem onC_r {c : P2} {k : Int} {u : P2} (hc : (-400000000 ≤ c.x ∧ c.x ≤ 400000000) ∧ (-400000000 ≤ c.y ∧ c.y ≤ 400000000)) (hk : 1 ≤ k ∧ k ≤ 20000000) (hu : Circ u) : PR (onC c k u) ∧ distI (onC c k u) c = 25 * (k * k) := by
  have x := mul_bd (A := 20000000) (B := 5) (x := k) (y := u.x) (by omega) (by omega) hu.x.1 hu.x.2
  have y := mul_bd (A := 20000000) (B := 5) (x := k) (y := u.y) (by omega) (by omega) hu.y.1 hu.y.2
  refine ⟨⟨⟨by unfold onC; dsimp only; omega, by unfold onC; dsimp only; omega⟩, ⟨by unfold onC; dsimp only; omega, by unfold onC; dsimp only; omega⟩⟩, ?_⟩
  have e : distI (onC c k u) c = k * k * (u.x * u.x + u.y * u.y) := by unfold distI onC; dsimp only; grind
  rw [e, hu.n]; omega

/-! ### rings -/
def outI (d rr r : Int) : Bool := decide (rr - r * r - d ≤ 0 ∨ (rr - r * r - d) * (rr - r * r - d) ≤ 4 * d * (r * r))
def insI (d rr r : Int) : Bool := decide (d - rr - r * r ≤ 0 ∨ (d - rr - r * r) * (d - rr - r * r) ≤ 4 * rr * (r * r))
theorem outside_eq {d rr r : Int} (h0 : 0 ≤ d) (h1 : d ≤ 4000000000000000000) (h2 : 0 ≤ rr) (h3 : rr ≤ 4000000000000000000) (h4 : 1 ≤ r) (h5 : r ≤ 1073741824) : outside d rr r = outI d rr r := by
  have s := sq_bd (A := 1073741824) (x := r) (by omega) h5
  unfold outside outI
  rw [square_eq (by omega) (by omega), W_id (x := rr - r * r) (by omega) (by omega), W_id (x := rr - r * r - d) (by omega) (by omega), U_id (x := d) (by omega) (by omega), U_id (x := 4 * d) (by omega) (by omega), U_id (x := r * r) (by omega) (by omega)]
  dsimp only
  rw [wle (by omega) (by omega) ⟨by omega, by omega⟩ ⟨by omega, by omega⟩, orB_eq, ← Bool.decide_or]
theorem inside_eq {d rr r : Int} (h0 : 0 ≤ d) (h1 : d ≤ 4000000000000000000) (h2 : 0 ≤ rr) (h3 : rr ≤ 4000000000000000000) (h4 : 1 ≤ r) (h5 : r ≤ 1073741824) : inside d rr r = insI d rr r := by
  have s := sq_bd (A := 1073741824) (x := r) (by omega) h5
  unfold inside insI
  rw [square_eq (by omega) (by omega), W_id (x := d - rr) (by omega) (by omega), W_id (x := d - rr - r * r) (by omega) (by omega), U_id (x := rr) (by omega) (by omega), U_id (x := 4 * rr) (by omega) (by omega), U_id (x := r * r) (by omega) (by omega)]
  dsimp only
  rw [wle (by omega) (by omega) ⟨by omega, by omega⟩ ⟨by omega, by omega⟩, orB_eq, ← Bool.decide_or]
theorem outI_mono {d d' rr r : Int} (h : d ≤ d') (k : outI d rr r = true) : outI d' rr r = true := by
  unfold outI at *
  rw [decide_eq_true_eq] at *
  by_cases z : rr - r * r - d' ≤ 0
  · exact .inl z
  · refine .inr ?_
    rcases k with k | k
    · omega
    · have a := sq_le (x := rr - r * r - d') (y := rr - r * r - d) (by omega) (by omega)
      have b := Int.mul_le_mul_of_nonneg_right (show 4 * d ≤ 4 * d' by omega) (sq_nn r)
      omega
theorem insI_mono {d d' rr r : Int} (h : d' ≤ d) (k : insI d rr r = true) : insI d' rr r = true := by
  unfold insI at *
  rw [decide_eq_true_eq] at *
  by_cases z : d' - rr - r * r ≤ 0
  · exact .inl z
  · refine .inr ?_
    rcases k with k | k
    · omega
    · have a := sq_le (x := d' - rr - r * r) (y := d - rr - r * r) (by omega) (by omega)
      omega
def sectI (p c a e : P2) : Bool :=
  decide (same a e) || (if crossI c a e < 0 then decide (crossI c a p ≥ 0) || decide (crossI c p e ≥ 0) else decide (crossI c a p ≥ 0) && decide (crossI c p e ≥ 0))
theorem sector_eq {p c a e : P2} (hp : PR p) (hc : PR c) (ha : PR a) (he : PR e) : sector p c a e = sectI p c a e := by
  unfold sector sectI ringGreat
  rw [ptEq_eq, (cross_eq hc ha he).1, (cross_eq hc ha hp).1, (cross_eq hc hp he).1, orB_eq, andB_eq]
  by_cases s : same a e
  · simp [s]
  · by_cases k : crossI c a e < 0 <;> simp [s, k]
def okI (c a e : P2) : Prop := distI a c ≠ 0 ∧ distI a c = distI e c
theorem ringOk_eq {c a e : P2} (hc : PR c) (ha : PR a) (he : PR e) : ringOk c a e = true ↔ okI c a e := by
  have e1 := near_eq (b := ⟨c.x, c.y, c.x, c.y⟩) ⟨hc.x, hc.y, hc.x, hc.y⟩ ha
  have e2 := near_eq (b := ⟨c.x, c.y, c.x, c.y⟩) ⟨hc.x, hc.y, hc.x, hc.y⟩ he
  unfold ringOk ringApart okI
  rw [e1.1, e2.1, dist_near, dist_near, andB_eq]
  simp
def ringI (p c a e : P2) (r : Int) : Bool := decide (distI p a ≤ r * r) || decide (distI p e ≤ r * r) || (sectI p c a e && outI (distI p c) (distI a c) r && insI (distI p c) (distI a c) r)
theorem ringHas_eq {p c a e : P2} {r : Int} (hp : PR p) (hc : PR c) (ha : PR a) (he : PR e) (ok : okI c a e) (h4 : 1 ≤ r) (h5 : r ≤ 1073741824) (hd : distI p c ≤ 4000000000000000000) (hr : distI a c ≤ 4000000000000000000) : ringHas p c a e r = ringI p c a e r := by
  have e1 := near_eq (b := ⟨c.x, c.y, c.x, c.y⟩) ⟨hc.x, hc.y, hc.x, hc.y⟩ hp
  have e2 := near_eq (b := ⟨c.x, c.y, c.x, c.y⟩) ⟨hc.x, hc.y, hc.x, hc.y⟩ ha
  unfold ringHas ringI
  rw [(ringOk_eq hc ha he).2 ok, decide_eq_false (show ¬ r < 1 by omega)]
  unfold ringApart
  rw [e1.1, e2.1, dist_near, dist_near, discHas_eq hp ha h4 (by omega), discHas_eq hp he h4 (by omega), sector_eq hp hc ha he, outside_eq (dist_nn _ _) hd (dist_nn _ _) hr h4 h5, inside_eq (dist_nn _ _) hd (dist_nn _ _) hr h4 h5]
  simp only [orB_eq, andB_eq, Bool.not_true, Bool.or_false, bif_f]
  cases (decide (distI p a ≤ r * r) || decide (distI p e ≤ r * r)) <;> rfl
/-- within the sector, off it -/
def liIn (b : B4) (c a e : P2) : Bool := decide (same a e) || (if crossI c a e < 0 then all4 (fun q => decide (crossI c a q ≥ 0)) b || all4 (fun q => decide (crossI c q e ≥ 0)) b else all4 (fun q => decide (crossI c a q ≥ 0)) b && all4 (fun q => decide (crossI c q e ≥ 0)) b)
def liOff (b : B4) (c a e : P2) : Bool := !(decide (same a e)) && (if crossI c a e < 0 then all4 (fun q => decide (crossI c a q < 0)) b && all4 (fun q => decide (crossI c q e < 0)) b else all4 (fun q => decide (crossI c a q < 0)) b || all4 (fun q => decide (crossI c q e < 0)) b)
theorem not_any (f : P2 → Bool) (b : B4) : (!(any4 f b)) = all4 (fun q => !(f q)) b := by
  unfold any4 all4
  dsimp only
  cases f ⟨b.x0, b.y0⟩ <;> cases f ⟨b.x1, b.y0⟩ <;> cases f ⟨b.x0, b.y1⟩ <;> cases f ⟨b.x1, b.y1⟩ <;> rfl
theorem lies_eq {b : B4} {c a e : P2} (hb : BR b) (hc : PR c) (ha : PR a) (he : PR e) : liesIn b c a e = liIn b c a e ∧ liesOff b c a e = liOff b c a e := by
  have u0 : all4 (fun q => !(decide (cross c a q < 0))) b = all4 (fun q => decide (crossI c a q ≥ 0)) b := all4_congr hb fun q hq => by rw [(cross_eq hc ha hq).1, ← decide_not]; exact decide_eq_decide.2 (by omega)
  have v0 : all4 (fun q => !(decide (cross c q e < 0))) b = all4 (fun q => decide (crossI c q e ≥ 0)) b := all4_congr hb fun q hq => by rw [(cross_eq hc hq he).1, ← decide_not]; exact decide_eq_decide.2 (by omega)
  have u4 : all4 (fun q => decide (cross c a q < 0)) b = all4 (fun q => decide (crossI c a q < 0)) b := all4_congr hb fun q hq => by rw [(cross_eq hc ha hq).1]
  have v4 : all4 (fun q => decide (cross c q e < 0)) b = all4 (fun q => decide (crossI c q e < 0)) b := all4_congr hb fun q hq => by rw [(cross_eq hc hq he).1]
  unfold liesIn liesOff liIn liOff ringGreat
  dsimp only
  rw [cnt4_none, cnt4_none, cnt4_all, cnt4_all, not_any, not_any, u0, v0, u4, v4, ptEq_eq, (cross_eq hc ha he).1]
  simp only [orB_eq, andB_eq]
  by_cases s : same a e
  · simp [s]
  · by_cases k : crossI c a e < 0 <;> simp [s, k]
def ringCl (b : B4) (c a e : P2) (r : Int) : Int :=
  if mostI b a ≤ r * r ∨ mostI b e ≤ r * r then 2 else
  if liIn b c a e && outI (nearI b c) (distI a c) r && insI (mostI b c) (distI a c) r then 2 else
  if nearI b a ≤ r * r ∨ nearI b e ≤ r * r then 1 else
  if liOff b c a e || !(insI (nearI b c) (distI a c) r) || !(outI (mostI b c) (distI a c) r) then 0 else 1
theorem near_most {b : B4} {p : P2} (hx : b.x0 ≤ b.x1) (hy : b.y0 ≤ b.y1) : nearI b p ≤ mostI b p := by
  have q1 : hasI b ⟨b.x0, b.y0⟩ := ⟨by simp, hx, by simp, hy⟩
  have := near_le (p := p) q1; have := most_ge (p := p) q1; omega
theorem ringClass_eq {b : B4} {c a e : P2} {r : Int} (hb : BR b) (hc : PR c) (ha : PR a) (he : PR e) (ok : okI c a e) (hx : b.x0 ≤ b.x1) (hy : b.y0 ≤ b.y1) (h4 : 1 ≤ r) (h5 : r ≤ 1073741824) (hd : mostI b c ≤ 4000000000000000000) (hr : distI a c ≤ 4000000000000000000) : ringClass b c a e r = ringCl b c a e r := by
  have e2 := near_eq (b := ⟨c.x, c.y, c.x, c.y⟩) ⟨hc.x, hc.y, hc.x, hc.y⟩ ha
  have hn := near_eq hb hc
  have hm := most_eq hb hc
  have nm := near_most (p := c) hx hy
  have na := near_most (p := a) hx hy
  have ne_ := near_most (p := e) hx hy
  have hh : boxHas b ⟨b.x0, b.y0⟩ = true := (boxHas_eq _ _).2 ⟨by simp, hx, by simp, hy⟩
  unfold ringClass ringCl
  rw [(ringOk_eq hc ha he).2 ok, decide_eq_false (show ¬ r < 1 by omega), hh]
  unfold ringApart
  rw [e2.1, dist_near, hn.1, hm.1, discClass_eq hb ha hx hy h4 (by omega), discClass_eq hb he hx hy h4 (by omega), (lies_eq hb hc ha he).1, (lies_eq hb hc ha he).2,
    outside_eq hn.2.1 (by omega) (dist_nn _ _) hr h4 h5, outside_eq hm.2.1 hd (dist_nn _ _) hr h4 h5, inside_eq hn.2.1 (by omega) (dist_nn _ _) hr h4 h5, inside_eq hm.2.1 hd (dist_nn _ _) hr h4 h5]
  simp only [orB_eq, andB_eq, Bool.not_true, Bool.or_false, bif_f]
  generalize nearI b a = NA at *
  generalize nearI b e = NE at *
  generalize mostI b a = MA at *
  generalize mostI b e = ME at *
  generalize r * r = R at *
  have f1 : ((if NA > R then 0 else if MA ≤ R then 2 else 1 : Int) == 2 || (if NE > R then 0 else if ME ≤ R then 2 else 1 : Int) == 2) = decide (MA ≤ R ∨ ME ≤ R) := by
    rw [Bool.eq_iff_iff]
    simp only [Bool.or_eq_true, beq_iff_eq, decide_eq_true_eq]
    constructor
    · rintro (k | k)
      · split at k
        · cases k
        · split at k
          · left; assumption
          · cases k
      · split at k
        · cases k
        · split at k
          · right; assumption
          · cases k
    · rintro (k | k)
      · left; rw [if_neg (by omega), if_pos k]
      · right; rw [if_neg (by omega), if_pos k]
  have f2 : ((if NA > R then 0 else if MA ≤ R then 2 else 1 : Int) != 0 || (if NE > R then 0 else if ME ≤ R then 2 else 1 : Int) != 0) = decide (NA ≤ R ∨ NE ≤ R) := by
    rw [Bool.eq_iff_iff]
    simp only [Bool.or_eq_true, bne_iff_ne, decide_eq_true_eq]
    constructor
    · rintro (k | k)
      · left; split at k
        · exact absurd rfl k
        · omega
      · right; split at k
        · exact absurd rfl k
        · omega
    · rintro (k | k)
      · left; rw [if_neg (by omega)]; split <;> decide
      · right; rw [if_neg (by omega)]; split <;> decide
  rw [f1, f2]
  by_cases k1 : MA ≤ R ∨ ME ≤ R
  · rw [decide_eq_true k1, if_pos k1]; rfl
  · rw [decide_eq_false k1, if_neg k1, bif_f]
    cases k2 : (liIn b c a e && outI (nearI b c) (distI a c) r && insI (mostI b c) (distI a c) r)
    · simp only [bif_f, Bool.false_eq_true, if_false]
      by_cases k3 : NA ≤ R ∨ NE ≤ R
      · rw [decide_eq_true k3, if_pos k3]; rfl
      · rw [decide_eq_false k3, if_neg k3, bif_f]
        cases (liOff b c a e || !insI (nearI b c) (distI a c) r || !outI (mostI b c) (distI a c) r) <;> rfl
    · rfl
theorem cross_sw (c a q : P2) : crossI c a q = -crossI c q a := by unfold crossI; grind
theorem liIn_has {b : B4} {q c a e : P2} (hq : hasI b q) (h : liIn b c a e = true) : sectI q c a e = true := by
  have u : all4 (fun q => decide (crossI c a q ≥ 0)) b = true → crossI c a q ≥ 0 := fun k => by
    obtain ⟨k', hc, hl⟩ := cross_le c a hq
    have := all4_iff.1 k k' hc
    simp only [decide_eq_true_eq] at this; omega
  have v : all4 (fun q => decide (crossI c q e ≥ 0)) b = true → crossI c q e ≥ 0 := fun k => by
    obtain ⟨k', hc, hl⟩ := cross_ge c e hq
    have := all4_iff.1 k k' hc
    simp only [decide_eq_true_eq] at this
    rw [cross_sw c k' e] at this; rw [cross_sw c q e]; omega
  unfold liIn at h; unfold sectI
  by_cases s : same a e
  · simp [s]
  · by_cases w : crossI c a e < 0
    · simp only [s, w, decide_false, Bool.false_or, if_true, Bool.or_eq_true, decide_eq_true_eq] at *
      rcases h with h | h
      · exact .inl (u h)
      · exact .inr (v h)
    · simp only [s, w, decide_false, Bool.false_or, if_false, Bool.and_eq_true, decide_eq_true_eq] at *
      exact ⟨u h.1, v h.2⟩
theorem liOff_has {b : B4} {q c a e : P2} (hq : hasI b q) (h : liOff b c a e = true) : sectI q c a e = false := by
  have u : all4 (fun q => decide (crossI c a q < 0)) b = true → ¬ crossI c a q ≥ 0 := fun k => by
    obtain ⟨k', hc, hl⟩ := cross_ge c a hq
    have := all4_iff.1 k k' hc
    simp only [decide_eq_true_eq] at this; omega
  have v : all4 (fun q => decide (crossI c q e < 0)) b = true → ¬ crossI c q e ≥ 0 := fun k => by
    obtain ⟨k', hc, hl⟩ := cross_le c e hq
    have := all4_iff.1 k k' hc
    simp only [decide_eq_true_eq] at this
    rw [cross_sw c k' e] at this; rw [cross_sw c q e]; omega
  unfold liOff at h; unfold sectI
  by_cases s : same a e
  · simp [s] at h
  · by_cases w : crossI c a e < 0
    · simp only [s, w, decide_false, Bool.not_false, Bool.true_and, Bool.false_or, if_true, Bool.and_eq_true, Bool.or_eq_false_iff, decide_eq_false_iff_not] at *
      exact ⟨u h.1, v h.2⟩
    · simp only [s, w, decide_false, Bool.not_false, Bool.true_and, Bool.false_or, if_false, Bool.or_eq_true, Bool.and_eq_false_iff, decide_eq_false_iff_not] at *
      rcases h with h | h
      · exact .inl (u h)
      · exact .inr (v h)
theorem ring_in {b : B4} {q c a e : P2} {r : Int} (hq : hasI b q) (h : ringCl b c a e r = 2) : ringI q c a e r = true := by
  have n := near_le (p := c) hq; have m := most_ge (p := c) hq
  have ma := most_ge (p := a) hq; have me := most_ge (p := e) hq
  rw [distI_comm] at n m ma me
  unfold ringCl at h; unfold ringI
  split at h
  · rename_i k
    rcases k with k | k
    · rw [decide_eq_true (show distI q a ≤ r * r by omega)]; rfl
    · rw [decide_eq_true (show distI q e ≤ r * r by omega)]; simp
  · split at h
    · rename_i k
      simp only [Bool.and_eq_true] at k
      rw [liIn_has hq k.1.1, outI_mono n k.1.2, insI_mono m k.2]; simp
    · split at h
      · cases h
      · split at h <;> cases h
theorem ring_out {b : B4} {q c a e : P2} {r : Int} (hq : hasI b q) (h : ringCl b c a e r = 0) : ringI q c a e r = false := by
  have n := near_le (p := c) hq; have m := most_ge (p := c) hq
  have na := near_le (p := a) hq; have ne_ := near_le (p := e) hq
  rw [distI_comm] at n m na ne_
  unfold ringCl at h; unfold ringI
  split at h
  · cases h
  · split at h
    · cases h
    · split at h
      · cases h
      · rename_i k
        split at h
        · rename_i z
          rw [decide_eq_false (show ¬ distI q a ≤ r * r by omega), decide_eq_false (show ¬ distI q e ≤ r * r by omega)]
          simp only [Bool.or_eq_true, Bool.not_eq_true'] at z
          simp only [Bool.false_or, Bool.and_eq_false_iff]
          rcases z with (z | z) | z
          · exact .inl (.inl (liOff_has hq z))
          · refine .inr ?_
            rw [Bool.eq_false_iff] at z ⊢
            exact fun y => z (insI_mono n y)
          · refine .inl (.inr ?_)
            rw [Bool.eq_false_iff] at z ⊢
            exact fun y => z (outI_mono m y)
        · cases h
theorem ringCl_012 (b : B4) (c a e : P2) (r : Int) : ringCl b c a e r = 0 ∨ ringCl b c a e r = 1 ∨ ringCl b c a e r = 2 := by
  unfold ringCl; split
  · simp
  · split
    · simp
    · split
      · simp
      · split <;> simp
def ringSure0 (b : B4) (c a e : P2) (r x y : Int) : Bool :=
  let k := ringClass b c a e r
  let i := ringHas (lIn b x y) c a e r
  andB (andB (andB (andB (orB (k != 2) i) (orB (k != 0) (!i))) (decide (k ≥ 0))) (decide (k ≤ 2))) true
def ringSure (b : B4) (c : P2) (r f t s x y : Int) (small : Bool) : Bool :=
  bif small then ringSure0 (lSmall (lBox b)) (arcC c small) (arcAt c f s small) (arcAt c t s small) (lSmR (lR r) 30) x y else ringSure0 (lBox b) (arcC c small) (arcAt c f s small) (arcAt c t s small) (lR r) x y
theorem most_far {b : B4} {c : P2} (hx0 : -536870912 ≤ b.x0) (hx : b.x0 ≤ b.x1) (hx1 : b.x1 ≤ 536870912) (hy0 : -536870912 ≤ b.y0) (hy : b.y0 ≤ b.y1) (hy1 : b.y1 ≤ 536870912) (hc : (-400000000 ≤ c.x ∧ c.x ≤ 400000000) ∧ (-400000000 ≤ c.y ∧ c.y ≤ 400000000)) : mostI b c ≤ 4000000000000000000 := by
  have e : ∀ v lo hi : Int, -400000000 ≤ v → v ≤ 400000000 → -536870912 ≤ lo → lo ≤ hi → hi ≤ 536870912 → reachI v lo hi * reachI v lo hi ≤ 1000000000 * 1000000000 := fun v lo hi a b c d f =>
    (sq_bd (A := 1000000000) (by unfold reachI; omega) (by unfold reachI; omega)).2
  have a1 := e c.x b.x0 b.x1 hc.1.1 hc.1.2 hx0 hx hx1
  have a2 := e c.y b.y0 b.y1 hc.2.1 hc.2.2 hy0 hy hy1
  unfold mostI; omega
theorem arc_facts (c : P2) (f s : Int) (sm : Bool) : PR (arcAt c f s sm) ∧ distI (arcAt c f s sm) (arcC c sm) = 25 * (arcK s sm * arcK s sm) ∧ 1 ≤ arcK s sm * arcK s sm ∧ arcK s sm * arcK s sm ≤ 400000000000000 := by
  rw [arcAt_eq]
  have k := arcK_bd s sm
  have o := onC_r (arcC_r c sm) k (circ_ok f)
  have q := sq_bd (A := 20000000) (x := arcK s sm) (by omega) k.2
  have p := Int.mul_pos (show 0 < arcK s sm by omega) (show 0 < arcK s sm by omega)
  exact ⟨o.1, o.2, by omega, by omega⟩
theorem arc_okI (c : P2) (f t s : Int) (sm : Bool) : okI (arcC c sm) (arcAt c f s sm) (arcAt c t s sm) := by
  have a := arc_facts c f s sm; have b := arc_facts c t s sm
  unfold okI; omega
theorem ringSure0_true {b : B4} (c : P2) (f t s : Int) (sm : Bool) {r : Int} (x y : Int) (hb : Fits b) (h4 : 1 ≤ r) (h5 : r ≤ 1073741824) : ringSure0 b (arcC c sm) (arcAt c f s sm) (arcAt c t s sm) r x y = true := by
  have hB : BR b := ⟨⟨by have := hb.x0; omega, by have := hb.x; have := hb.x1; omega⟩, ⟨by have := hb.y0; omega, by have := hb.y; have := hb.y1; omega⟩, ⟨by have := hb.x0; have := hb.x; omega, by have := hb.x1; omega⟩, ⟨by have := hb.y0; have := hb.y; omega, by have := hb.y1; omega⟩⟩
  have hq := (lIn_has x y hB hb.x hb.y).1
  have hQ := PR_has hB hq
  have hc := arcC_r c sm
  have hC : PR (arcC c sm) := PR_of hc (by decide)
  have a := arc_facts c f s sm; have e := arc_facts c t s sm
  have ok := arc_okI c f t s sm
  have mf := most_far hb.x0 hb.x hb.x1 hb.y0 hb.y hb.y1 hc
  have hd := most_ge (p := arcC c sm) hq
  rw [distI_comm] at hd
  unfold ringSure0
  dsimp only
  rw [ringClass_eq hB hC a.1 e.1 ok hb.x hb.y h4 h5 mf (by omega), ringHas_eq hQ hC a.1 e.1 ok h4 h5 (by omega) (by omega)]
  have f2 : ringCl b (arcC c sm) (arcAt c f s sm) (arcAt c t s sm) r = 2 → ringI (lIn b x y) (arcC c sm) (arcAt c f s sm) (arcAt c t s sm) r = true := ring_in hq
  have f0 : ringCl b (arcC c sm) (arcAt c f s sm) (arcAt c t s sm) r = 0 → ringI (lIn b x y) (arcC c sm) (arcAt c f s sm) (arcAt c t s sm) r = false := ring_out hq
  rcases ringCl_012 b (arcC c sm) (arcAt c f s sm) (arcAt c t s sm) r with k | k | k
  · rw [k, f0 k]; rfl
  · rw [k]; rfl
  · rw [k, f2 k]; rfl
theorem ringSure_true (b : B4) (c : P2) (r f t s x y : Int) (small : Bool) : ringSure b c r f t s x y small = true := by
  have hr := lR_bd r
  unfold ringSure
  cases small
  · exact ringSure0_true c f t s false x y (lBox_fits b) hr.1 (by omega)
  · have e := lSmR_bd (r := lR r) (m := 30) (by omega) (by decide) (by decide)
    have h := lSmall_r (lBox b)
    exact ringSure0_true c f t s true x y ⟨by omega, by omega, by omega, by omega, by omega, by omega⟩ e.1 (by omega)
end Go.Proofs.Ythnenjodighlmaa

/-! ## Tam -/
namespace Go.Proofs.Ythnenjodighlmaa
open Go Go.RowKit Sym
set_option maxRecDepth 100000

def tbT : List Entry := (37, en5 dP dI dI dI dB (fun c f t s sm => .tuple ⟨[pt (arcC c sm), pt (arcAt c f s sm), pt (arcAt c t s sm)]⟩)) :: tbF
theorem tbT_ok : ∀ e ∈ tbT, EntryOk Try.prog e := List.forall_mem_cons.2 ⟨en5_ok dP_eq dI_eq dI_eq dI_eq dB_eq arc_ok, tbF_ok⟩
def atP (p : P2) (sm : Bool) : P2 := ⟨bif sm then (lClose p 20).x else (lPt p).x, bif sm then (lClose p 20).y else (lPt p).y⟩
def dptB (q : Bool) : Dyn.DV := .one (.ptr [.p (vb q)])
def enPb (F : P2 → Bool → Dyn.RV) : List Dyn.DV → Option (Dyn.RV × List Prop)
  | [.agg [.p (.int .i64 x), .p (.int .i64 y)], .one (.ptr [.p (.bool q)])] => some (F ⟨x, y⟩ q, [])
  | _ => none
theorem enPb_ok {P : Program} {K : Nat} {F : P2 → Bool → Dyn.RV} (h : ∀ x u, Dyn.CallD P K [dvP x, dptB u] (F x u)) : Dyn.EntryDOk P (K, enPb F) := fun args r ps hr hp => by
  dsimp only at hr
  unfold enPb at hr
  split at hr
  · simp only [Option.some.injEq, Prod.mk.injEq] at hr
    obtain ⟨rfl, rfl⟩ := hr
    rename_i x y u
    exact h ⟨x, y⟩ u
  · cases hr
def RV.pt (p : P2) : Dyn.RV := .val (dvP p)
def tabA1 : Dyn.Tabs := Dyn.tabs tbT [] noD noD
theorem tabA1_ok : Dyn.TabsOk Try.prog tabA1 := Dyn.tabs_ok tbT_ok (fun _ h => by cases h)
theorem at_O (p : P2) (sm : Bool) : (Dyn.dfun Try.prog tabA1 Dyn.noLp 3 Try.f35 [dvP p, dptB sm]).ro Try.prog Try.f35.results = .ite sm (.side [W (20 + 1) ≠ 0] (.leaf (RV.pt (lClose p 20)))) (.leaf (RV.pt (lPt p))) := by kernel_rfl
theorem at_ok (p : P2) (sm : Bool) : Dyn.CallD Try.prog 35 [dvP p, dptB sm] (RV.pt (atP p sm)) :=
  Dyn.dcontract (lp := Dyn.noLp) (fuel := 3) (X := tabA1) tabA1_ok mo Try.func35 (by kernel_rfl) (c := bodyD Try.f35.body) (by kernel_rfl) (fun w0 => Dyn.noLp_ok _ w0)
    (by kernel_rfl) (at_O p sm) ⟨fun h => by subst h; exact ⟨⟨by decide, trivial⟩, ro_leaf rfl⟩, fun h => by subst h; exact ro_leaf rfl⟩
def tdTm (Pd : Sh → Prop) (g : Sh → Bool → Int → Sh) : List Dyn.EntryD := [(35, enPb fun p q => RV.pt (atP p q)), (38, en2D qC qB fun l q => .val (dvC (tameC l q))), (12, en3D (qAnd qS Pd) qB qI fun x q d => .val (dvS (g x q d)))]
def drTm (K : Nat) : Bool := Nat.beq K 12 || Nat.beq K 38
def tabTm (Pd : Sh → Prop) (g : Sh → Bool → Int → Sh) : Dyn.Tabs := Dyn.tabs tbT (tdTm Pd g) drTm dtyS
theorem tabTm_ok {Pd : Sh → Prop} {g : Sh → Bool → Int → Sh} (ih : ∀ x, Pd x → ∀ sm d, Dyn.CallD Try.prog 12 [dvS x, dvB sm, dvI d] (.val (dvS (g x sm d)))) : Dyn.TabsOk Try.prog (tabTm Pd g) :=
  Dyn.tabs_ok tbT_ok (List.forall_mem_cons.2 ⟨enPb_ok at_ok, List.forall_mem_cons.2 ⟨en2D_ok qC_ok qB_ok fun l q _ _ => tame_ok l q, List.forall_mem_cons.2 ⟨en3D_ok (qAnd_ok qS_ok) qB_ok qI_ok fun x q d h _ _ => ih x h.1 q d, fun _ h => by cases h⟩⟩⟩)
/-! ### what it makes -/
def tmK0 (s : Sh) : Int := W ((W (s.k.tmod 6 + 6)).tmod 6 + 1)
def tmKk (s : Sh) (d : Int) : Int := bif bif decide (d > 5) then tmK0 s == 6 else false then 1 else tmK0 s
def tmR (s : Sh) (sm : Bool) : Int := bif sm then W ((lR s.r).tmod 15 + 1) else lR s.r
def eqP (a b : P2) : Bool := bif a.x == b.x then bif a.y == b.y then true else false else false
def tmB (s : Sh) (sm : Bool) : P2 :=
  bif bif eqP (atP s.a sm) (atP s.b sm) then decide ((atP s.b sm).x > 0) else false then ⟨W ((atP s.b sm).x - 1), (atP s.b sm).y⟩ else bif eqP (atP s.a sm) (atP s.b sm) then ⟨W ((atP s.b sm).x + 1), (atP s.b sm).y⟩ else atP s.b sm
def ze : P2 := ⟨0, 0⟩
def zeC : Ctr := ⟨0, fun _ => 0, fun _ _ => ⟨0, 0⟩⟩
def noF (_ : Nat) : List Dyn.DC := []
def tmN (s : Sh) (d : Int) : Nat := min s.n (imax (W (4 - d)) 1).toNat
def tmF (g : Sh → Bool → Int → Sh) (sh : Nat → Sh) (add : Nat → Bool) (sm : Bool) (d : Int) (i : Nat) : List Dyn.DC := partC (add i) (g (sh i) sm (W (d + 1)))
/-- Tame, by what it makes of parts -/
def tameG (g : Sh → Bool → Int → Sh) (sh : Nat → Sh) (add : Nat → Bool) (s : Sh) (sm : Bool) (d : Int) : Sh :=
  bif tmKk s d == 1 then ⟨tmKk s d, atP s.a sm, ze, ze, tmR s sm, zeC, 0, noF⟩
  else bif bif tmKk s d == 3 then tmKk s d == 3 else tmKk s d == 4 then ⟨tmKk s d, atP s.a sm, tmB s sm, ze, tmR s sm, zeC, 0, noF⟩
  else bif tmKk s d == 5 then ⟨tmKk s d, arcAt s.c (band s.a.x 65535) s.b.x sm, arcAt s.c (band s.a.y 65535) s.b.x sm, arcC s.c sm, tmR s sm, zeC, 0, noF⟩
  else bif tmKk s d == 2 then ⟨tmKk s d, ze, ze, ze, 0, tameC s.l sm, 0, noF⟩
  else ⟨tmKk s d, ze, ze, ze, 0, zeC, tmN s d, tmF g sh add sm d⟩
def tmZ : List Value := [vi 0, vi 0, vi 0, vi 0, vi 0, vi 0, vi 0, vi 0, .slice none 0 0, .slice none 0 0]
def tmO10 (k : Int) (nm n : Nat) : List Value := [vi k, vi 0, vi 0, vi 0, vi 0, vi 0, vi 0, vi 0, .slice none 0 0, .slice (some ⟨nm, 0, some 0⟩) n 0]
def tmS (s : Sh) (sm : Bool) (d i : Int) (n : Nat) (f : Nat → List Dyn.DC) : Dyn.St := mkS 154 [(2, sI d), (3, sL 1), (4, sL 2), (6, sL 3), (8, sL 4), (10, sI i)]
  [some (.deep (cS s)), some (.cells 27 (shV 0 8 s)), some (.cells 4 [vb sm]), some (.cells 27 tmZ), some (.cells 27 (tmO10 (tmKk s d) 5 n)), some (.own 35 n f)]
def tmK : List Nat := [2, 3, 4, 6, 8, 10]
def tmLp (g : Sh → Bool → Int → Sh) (sh : Nat → Sh) (add : Nat → Bool) (s : Sh) (sm : Bool) (d : Int) : Dyn.Lp := fun id st => match id with
  | 1 => some (.side [Dyn.nilCell 4 9 35 (tmF g sh add sm d) (keepA 154 [0, 1, 2] [6, 8] tmK (2 ^ 10) st) = tmS s sm d 0 0 (tmF g sh add sm d)] (.leaf .normal (tmS s sm d (tmN s d : Nat) (tmN s d) (tmF g sh add sm d))))
  | _ => none
def tmBd (Pd : Sh → Prop) (g : Sh → Bool → Int → Sh) (sh : Nat → Sh) (add : Nat → Bool) (s : Sh) (sm : Bool) (d : Int) (i : Nat) : Dyn.Out :=
  .ite (bif decide ((i : Int) < s.n) then decide ((i : Int) < imax (W (4 - d)) 1) else false)
    (.side [0 ≤ (i : Int) ∧ (i : Int) < s.n, 0 ≤ (i : Int) ∧ (i : Int) < s.n, Pd (sh i), ctrSelf (sh i).l, szP 120 i] (.leaf .normal (tmS s sm d (W (i + 1)) (i + 1) (Dyn.appF i (tmF g sh add sm d) (fun _ => tmF g sh add sm d i)))))
    (.leaf (.exit 1) (tmS s sm d i i (tmF g sh add sm d)))
theorem tm_Bd (Pd : Sh → Prop) (g : Sh → Bool → Int → Sh) (k : Int) (a b c : P2) (r : Int) (l : Ctr) (n : Nat) (add : Nat → Bool) (sh : Nat → Sh) (sm : Bool) (d : Int) (i : Nat) :
    (Dyn.lexec Try.prog (tabTm Pd g) (tmLp g sh add (mkSh k a b c r l n add sh) sm d) 3 (unloopD (blkD Try.f12.body 1)) .leaf (tmS (mkSh k a b c r l n add sh) sm d i i (tmF g sh add sm d))).rl (keepCR 154 [0, 1, 2, 3, 4] [] [(4, 9)] tmK [] []) = tmBd Pd g sh add (mkSh k a b c r l n add sh) sm d i := by kernel_rfl
theorem tm_blocks : blocksL (bodyD Try.f12.body) = [(0, blkD Try.f12.body 0), (1, .loop (unloopD (blkD Try.f12.body 1))), (2, blkD Try.f12.body 2)] := by kernel_rfl
theorem tm_b1 : blocksL (unloopD (blkD Try.f12.body 1)) = [(2, blkD Try.f12.body 2)] := by kernel_rfl
theorem tm_loop {Pd : Sh → Prop} {g : Sh → Bool → Int → Sh} (ih : ∀ x, Pd x → ∀ sm d, Dyn.CallD Try.prog 12 [dvS x, dvB sm, dvI d] (.val (dvS (g x sm d)))) (k : Int) (a b c : P2) (r : Int) (l : Ctr) (n : Nat) (add : Nat → Bool) (sh : Nat → Sh) (hn : n ≤ 1000000000) (hP : ∀ i, i < n → Pd (sh i)) (sm : Bool) (d : Int) (w0 : Dyn.Base Try.prog) (st : Dyn.St) (o : Dyn.Out)
    (h : tmLp g sh add (mkSh k a b c r l n add sh) sm d 1 st = some o) : Dyn.BlockSound Try.prog w0 1 (.loop (unloopD (blkD Try.f12.body 1))) st o := by
  simp only [tmLp, Option.some.injEq] at h
  subst h
  refine side_one fun hS => ?_
  have hN : tmN (mkSh k a b c r l n add sh) d = min n (imax (W (4 - d)) 1).toNat := rfl
  have hM : 1 ≤ imax (W (4 - d)) 1 := by unfold imax; split <;> omega
  refine fold_block (fuel := 3) (tabTm_ok ih) mo (lp := tmLp g sh add (mkSh k a b c r l n add sh) sm d) (by rw [tm_b1]; exact lpOk_cons (fun s o h => by cases h) lpOk_nil) (fun i (_ : Unit) => tmS (mkSh k a b c r l n add sh) sm d i i (tmF g sh add sm d)) (tmN (mkSh k a b c r l n add sh) d) (fun _ _ => ()) () (keepCR 154 [0, 1, 2, 3, 4] [] [(4, 9)] tmK [] []) (keepCR_ent 154 _ _ _ _ _ _) (fun i _ => tmBd Pd g sh add (mkSh k a b c r l n add sh) sm d i) (fun i _ => tm_Bd Pd g k a b c r l n add sh sm d i) (fun i hi => ?_) ?_ (hS ▸ (keepA_ent 154 _ _ _ _ st).trans (Dyn.Ent.nilCell (P := Try.prog) (k := 10) (by kernel_rfl) _ _))
  · rw [hN] at hi
    refine ⟨fun _ => ⟨⟨⟨by omega, by show (i : Int) < (n : Int); omega⟩, ⟨by omega, by show (i : Int) < (n : Int); omega⟩, hP i (by omega), ctrSelf_ok _, szP_ok (by decide) (by omega), trivial⟩, rfl, ?_⟩, fun hf => ?_⟩
    · rw [Wn1 (show i < n by omega) hn]
      exact ⟨rfl, Dyn.HeLe.refl _, Dyn.HeLe.refl _, Dyn.HeLe.refl _, Dyn.HeLe.refl _, Dyn.HeLe.refl _, le_app rfl, trivial⟩
    · rw [Bool.eq_false_iff] at hf
      exact absurd (and_iff.2 ⟨show (i : Int) < (n : Int) by omega, by omega⟩) hf
  · refine ⟨fun ht => ?_, fun _ => ⟨rfl, Dyn.Fits.refl _⟩⟩
    have ht := and_iff.1 ht
    have h1 : ((tmN (mkSh k a b c r l n add sh) d : Nat) : Int) < (n : Int) := ht.1
    have h2 := ht.2
    rw [hN] at h1 h2
    omega
def rvT (k : Int) (a b c : P2) (r : Int) (L : Dyn.DC) (n : Nat) (f : Nat → List Dyn.DC) : Dyn.RV := .val (.agg [cI k, cI a.x, cI a.y, cI b.x, cI b.y, cI c.x, cI c.y, cI r, L, .row n f])
def nilR : Dyn.DC := .row 0 noF
def tmRk (g : Sh → Bool → Int → Sh) (sh : Nat → Sh) (add : Nat → Bool) (s : Sh) (sm : Bool) (d r : Int) : Dyn.RO :=
  .ite (tmKk s d == 1) (.leaf (rvT (tmKk s d) (atP s.a sm) ze ze r nilR 0 noF))
  (.ite (bif tmKk s d == 3 then tmKk s d == 3 else tmKk s d == 4)
    (.ite (bif eqP (atP s.a sm) (atP s.b sm) then decide ((atP s.b sm).x > 0) else false) (.leaf (rvT (tmKk s d) (atP s.a sm) ⟨W ((atP s.b sm).x - 1), (atP s.b sm).y⟩ ze r nilR 0 noF))
      (.ite (eqP (atP s.a sm) (atP s.b sm)) (.leaf (rvT (tmKk s d) (atP s.a sm) ⟨W ((atP s.b sm).x + 1), (atP s.b sm).y⟩ ze r nilR 0 noF)) (.leaf (rvT (tmKk s d) (atP s.a sm) (atP s.b sm) ze r nilR 0 noF))))
  (.ite (tmKk s d == 5) (.leaf (rvT (tmKk s d) (arcAt s.c (band s.a.x 65535) s.b.x sm) (arcAt s.c (band s.a.y 65535) s.b.x sm) (arcC s.c sm) r nilR 0 noF))
  (.ite (tmKk s d == 2) (.side [ctrSelf s.l] (.leaf (rvT (tmKk s d) ze ze ze 0 (cCtr (tameC s.l sm)) 0 noF)))
  (.side [tmS s sm d 0 0 (tmF g sh add sm d) = tmS s sm d 0 0 (tmF g sh add sm d)] (.leaf (rvT (tmKk s d) ze ze ze 0 nilR (tmN s d) (tmF g sh add sm d)))))))
theorem tm_O (Pd : Sh → Prop) (g : Sh → Bool → Int → Sh) (sh : Nat → Sh) (add : Nat → Bool) (s : Sh) (sm : Bool) (d : Int) : (Dyn.dfun Try.prog (tabTm Pd g) (tmLp g sh add s sm d) 3 Try.f12 [dvS s, dvB sm, dvI d]).ro Try.prog Try.f12.results = .ite sm (tmRk g sh add s sm d (W ((lR s.r).tmod 15 + 1))) (tmRk g sh add s sm d (lR s.r)) := by kernel_rfl
theorem rvT_le {k : Int} {a b c : P2} {r : Int} {L : Dyn.DC} {n : Nat} {f : Nat → List Dyn.DC} {x : Sh} (hk : x.k = k) (ha : x.a = a) (hb : x.b = b) (hc : x.c = c) (hr : x.r = r) (hL : Dyn.DCLe L (cCtr x.l)) (hn : n = x.n) (hf : ∀ i, i < n → f i = x.f i) : (Dyn.RO.leaf (rvT k a b c r L n f)).sat fun q => Dyn.RVLe q (.val (dvS x)) := by
  subst hk; subst ha; subst hb; subst hc; subst hr
  exact ⟨rfl, rfl, rfl, rfl, rfl, rfl, rfl, rfl, hL, ⟨hn, hf⟩, trivial⟩
theorem nilR_le : Dyn.DCLe nilR (cCtr zeC) := ⟨rfl, fun i hi => by omega⟩
theorem tm_satk (g : Sh → Bool → Int → Sh) (sh : Nat → Sh) (add : Nat → Bool) (s : Sh) (sm : Bool) (d : Int) : (tmRk g sh add s sm d (tmR s sm)).sat fun r => Dyn.RVLe r (.val (dvS (tameG g sh add s sm d))) := by
  unfold tameG
  refine ⟨fun h => ?_, fun h => ⟨fun h2 => ⟨fun h3 => ?_, fun h3 => ⟨fun h4 => ?_, fun h4 => ?_⟩⟩, fun h2 => ⟨fun h3 => ?_, fun h3 => ⟨fun h4 => ⟨⟨ctrSelf_ok _, trivial⟩, ?_⟩, fun h4 => ⟨⟨rfl, trivial⟩, ?_⟩⟩⟩⟩⟩
  · rw [h]; exact rvT_le rfl rfl rfl rfl rfl nilR_le rfl fun _ _ => rfl
  · rw [h, h2]; exact rvT_le rfl rfl (by show tmB s sm = _; unfold tmB; rw [h3]; rfl) rfl rfl nilR_le rfl fun _ _ => rfl
  · rw [h, h2]; exact rvT_le rfl rfl (by show tmB s sm = _; unfold tmB; rw [h3, h4]; rfl) rfl rfl nilR_le rfl fun _ _ => rfl
  · rw [h, h2]; exact rvT_le rfl rfl (by show tmB s sm = _; unfold tmB; rw [h3, h4]; rfl) rfl rfl nilR_le rfl fun _ _ => rfl
  · rw [h, h2, h3]; exact rvT_le rfl rfl rfl rfl rfl nilR_le rfl fun _ _ => rfl
  · rw [h, h2, h3, h4]; exact rvT_le rfl rfl rfl rfl rfl (Dyn.DCLe.refl _) rfl fun _ _ => rfl
  · rw [h, h2, h3, h4]; exact rvT_le rfl rfl rfl rfl rfl nilR_le rfl fun _ _ => rfl
theorem tame_lvl {Pd : Sh → Prop} {g : Sh → Bool → Int → Sh} (ih : ∀ x, Pd x → ∀ sm d, Dyn.CallD Try.prog 12 [dvS x, dvB sm, dvI d] (.val (dvS (g x sm d)))) (k : Int) (a b c : P2) (r : Int) (l : Ctr) (n : Nat) (add : Nat → Bool) (sh : Nat → Sh) (hn : n ≤ 1000000000) (hP : ∀ i, i < n → Pd (sh i)) (sm : Bool) (d : Int) :
    Dyn.CallD Try.prog 12 [dvS (mkSh k a b c r l n add sh), dvB sm, dvI d] (.val (dvS (tameG g sh add (mkSh k a b c r l n add sh) sm d))) :=
  Dyn.dcontract (lp := tmLp g sh add (mkSh k a b c r l n add sh) sm d) (fuel := 3) (tabTm_ok ih) mo Try.func12 (by kernel_rfl) (c := bodyD Try.f12.body) (by kernel_rfl)
    (fun w0 => by rw [tm_blocks]; exact lpOk_cons (fun s o h => by cases h) (lpOk_cons (tm_loop ih k a b c r l n add sh hn hP sm d w0) (lpOk_cons (fun s o h => by cases h) lpOk_nil)))
    (by kernel_rfl) (tm_O Pd g sh add _ sm d) (by
      cases sm
      · exact ⟨fun h => (by cases h), fun _ => tm_satk g sh add _ false d⟩
      · exact ⟨fun _ => tm_satk g sh add _ true d, fun h => (by cases h)⟩)
theorem CallD_rle {P : Program} {K : Nat} {args : List Dyn.DV} {r r' : Dyn.RV} (h : Dyn.RVLe r r') (k : Dyn.CallD P K args r) : Dyn.CallD P K args r' := fun w F us hF hd => by
  have := k w F us hF hd
  split at this
  · rename_i u w' hr
    exact ⟨Dyn.DenR_le h this.1, this.2⟩
  · rename_i f as' w' hr
    refine ⟨this.1, this.2.mono fun e w'' he => ?_⟩
    obtain ⟨u, h1, h2, h3⟩ := he
    exact ⟨u, h1, Dyn.DenR_le h h2, h3⟩
  · exact this.elim
/-- a shape without parts -/
def leafS (k : Int) (a b c : P2) (r : Int) (l : Ctr) : Shp := .mk k a b c r l 0 (fun _ => false) (fun _ => .nil)
def tameS : Shp → Bool → Int → Shp
  | .nil, _, _ => .nil
  | .mk k a b c r l n add sub, sm, d =>
    let s : Sh := ⟨k, a, b, c, r, l, n, noF⟩
    bif tmKk s d == 1 then leafS (tmKk s d) (atP a sm) ze ze (tmR s sm) zeC
    else bif bif tmKk s d == 3 then tmKk s d == 3 else tmKk s d == 4 then leafS (tmKk s d) (atP a sm) (tmB s sm) ze (tmR s sm) zeC
    else bif tmKk s d == 5 then leafS (tmKk s d) (arcAt c (band a.x 65535) b.x sm) (arcAt c (band a.y 65535) b.x sm) (arcC c sm) (tmR s sm) zeC
    else bif tmKk s d == 2 then leafS (tmKk s d) ze ze ze 0 (tameC l sm)
    else .mk (tmKk s d) ze ze ze 0 zeC (tmN s d) add (fun i => tameS (sub i) sm (W (d + 1)))
noncomputable def tameE (x : Sh) (sm : Bool) (d : Int) : Sh := toSh (tameS (ofSh x) sm d)
theorem tameE_eq (s : Shp) (sm : Bool) (d : Int) : tameE (toSh s) sm d = toSh (tameS s sm d) := by unfold tameE; rw [ofSh_toSh]
theorem dvS_leaf (k : Int) (a b c : P2) (r : Int) (l : Ctr) : Dyn.DVLe (dvS ⟨k, a, b, c, r, l, 0, noF⟩) (dvS (toSh (leafS k a b c r l))) := ⟨rfl, rfl, rfl, rfl, rfl, rfl, rfl, rfl, Dyn.DCLe.refl _, ⟨rfl, fun i hi => absurd hi (Nat.not_lt_zero _)⟩, trivial⟩
theorem tm_pick {K : Int} (D1 D2 D3 D4 D5 : Sh) (E1 E2 E3 E4 E5 : Shp) (h1 : Dyn.DVLe (dvS D1) (dvS (toSh E1))) (h2 : Dyn.DVLe (dvS D2) (dvS (toSh E2))) (h3 : Dyn.DVLe (dvS D3) (dvS (toSh E3))) (h4 : Dyn.DVLe (dvS D4) (dvS (toSh E4))) (h5 : Dyn.DVLe (dvS D5) (dvS (toSh E5))) :
    Dyn.DVLe (dvS (bif K == 1 then D1 else bif bif K == 3 then K == 3 else K == 4 then D2 else bif K == 5 then D3 else bif K == 2 then D4 else D5)) (dvS (toSh (bif K == 1 then E1 else bif bif K == 3 then K == 3 else K == 4 then E2 else bif K == 5 then E3 else bif K == 2 then E4 else E5))) := by
  cases K == 1
  · cases (bif K == 3 then K == 3 else K == 4)
    · cases K == 5
      · cases K == 2
        · exact h5
        · exact h4
      · exact h3
    · exact h2
  · exact h1
theorem tameS_lvl (k : Int) (a b c : P2) (r : Int) (l : Ctr) (n : Nat) (add : Nat → Bool) (sub : Nat → Shp) (sm : Bool) (d : Int) :
    Dyn.DVLe (dvS (tameG tameE (fun i => toSh (sub i)) add (mkSh k a b c r l n add (fun i => toSh (sub i))) sm d)) (dvS (toSh (tameS (.mk k a b c r l n add sub) sm d))) := by
  refine tm_pick (K := tmKk ⟨k, a, b, c, r, l, n, noF⟩ d) _ _ _ _ _ _ _ _ _ _ (dvS_leaf _ _ _ _ _ _) (dvS_leaf _ _ _ _ _ _) (dvS_leaf _ _ _ _ _ _) (dvS_leaf _ _ _ _ _ _) ?_
  refine ⟨rfl, rfl, rfl, rfl, rfl, rfl, rfl, rfl, Dyn.DCLe.refl _, ⟨rfl, fun i hi => ?_⟩, trivial⟩
  show partC (add i) (tameE (toSh (sub i)) sm (W (d + 1))) = partC (add i) (toSh (tameS (sub i) sm (W (d + 1))))
  rw [tameE_eq]
theorem tameE_ok : ∀ s : Shp, ShB s → ∀ sm d, Dyn.CallD Try.prog 12 [dvS (toSh s), dvB sm, dvI d] (.val (dvS (tameE (toSh s) sm d))) := by
  intro s
  induction s with
  | nil => intro h; exact h.elim
  | mk k a b c r l n add sub ih =>
    intro h sm d
    rw [tameE_eq]
    refine CallD_rle (r := .val (dvS (tameG tameE (fun i => toSh (sub i)) add (mkSh k a b c r l n add (fun i => toSh (sub i))) sm d))) (tameS_lvl k a b c r l n add sub sm d) ?_
    exact tame_lvl (Pd := fun x => ∃ i, i < n ∧ x = toSh (sub i)) (fun x hx => by
      obtain ⟨i, hi, rfl⟩ := hx
      exact ih i (h.2.2 i hi)) k a b c r l n add (fun i => toSh (sub i)) h.2.1 (fun i hi => ⟨i, hi, rfl⟩) sm d
theorem tame_all : ∀ x, PdS x → ∀ sm d, Dyn.CallD Try.prog 12 [dvS x, dvB sm, dvI d] (.val (dvS (tameE x sm d))) := fun x hx sm d => by
  have k := tameE_ok _ hx.1 sm d
  rw [show tameE (toSh (ofSh x)) sm d = tameE x sm d by unfold tameE; rw [ofSh_toSh]] at k
  exact CallD_le (args := dvS (toSh (ofSh x)) :: [dvB sm, dvI d]) ⟨SLe.dv hx.2, Dyn.DVLe.refl _, Dyn.DVLe.refl _, trivial⟩ k
end Go.Proofs.Ythnenjodighlmaa

/-! ## Pia -/
namespace Go.Proofs.Ythnenjodighlmaa
open Go Go.RowKit Sym
set_option maxRecDepth 100000

/-! ### a list of objects, as the parts of a form -/
def dvL (x : Sh) : Dyn.DV := .one (.row x.n x.f)
def obX (n : Nat) (f : Nat → List Dyn.DC) : Sh := ⟨6, ze, ze, ze, 0, zeC, n, f⟩
def mkL (n : Nat) (add : Nat → Bool) (sh : Nat → Sh) : Sh := mkSh 6 ze ze ze 0 zeC n add sh
def qL : Dec Sh
  | .one (.row n f) => some (obX n f, [])
  | _ => none
theorem qL_ok : DecOk qL dvL (fun _ => True) := fun d x ps h hp => by
  unfold qL at h; split at h
  · simp only [Option.some.injEq, Prod.mk.injEq] at h
    obtain ⟨rfl, rfl⟩ := h
    exact ⟨⟨rfl, fun _ _ => rfl⟩, trivial⟩
  · cases h
theorem SLe.dvL {x y : Sh} (h : SLe x y) : Dyn.DVLe (dvL x) (dvL y) := ⟨h.2.2.2.2.2.2.1, h.2.2.2.2.2.2.2⟩
def dtyO (t : TypeId) : Bool := dtyS t || Nat.beq t 62 || Nat.beq t 44
def lForm (n : Nat) (add : Nat → Bool) (sub : Nat → Shp) : Shp := .mk 6 ze ze ze 0 zeC n add sub
def nuO : Shp → Nat
  | .nil => 0
  | .mk _ _ _ _ _ _ n _ _ => n
def adO : Shp → Nat → Bool
  | .nil, _ => false
  | .mk _ _ _ _ _ _ _ add _, i => add i
def suO : Shp → Nat → Shp
  | .nil, _ => .nil
  | .mk _ _ _ _ _ _ _ _ sub, i => sub i

/-! ### Small -/
noncomputable def sbG (sh : Nat → Sh) (i : Nat) (_ : Unit) : Bool × Unit := (smallE (sh i) 0, ())
noncomputable def small21 (s : Shp) : Bool := bif decide ((nuO s : Int) > 20) then false else (runN (fun i (_ : Unit) => (smallF (suO s i) 0, ())) () (nuO s)).1
noncomputable def tdSb : List Dyn.EntryD := [(10, en2D (qAnd qS PdW) qI fun x d => rB (smallE x d))]
noncomputable def tabSb : Dyn.Tabs := Dyn.tabs tbF tdSb noD dtyO
theorem tabSb_ok : Dyn.TabsOk Try.prog tabSb := Dyn.tabs_ok tbF_ok (List.forall_mem_cons.2 ⟨en2D_ok (qAnd_ok qS_ok) qI_ok fun x d h _ => small_all x h.1 d, fun _ h => by cases h⟩)
def sbS (s : Sh) (i : Int) : Dyn.St := mkS 20 [(0, sH 0 0 s.n), (2, .k (vb false)), (3, sI i)] [some (.deep [.row s.n s.f])]
def sbR : Dyn.St := mkS 20 [(2, .k (vb false))] []
def sbK : List Nat := [0, 2, 3]
noncomputable def sbLp (sh : Nat → Sh) (s : Sh) : Dyn.Lp := fun id st => match id with
  | 0 => some (.side [keepA 20 [0] [] sbK (2 ^ 3) st = sbS s 0, s.n ≤ 20] (.ite (runN (sbG sh) () s.n).1 (.leaf .normal (sbS s s.n)) (.leaf .ret sbR)))
  | _ => none
noncomputable def sbB (sh : Nat → Sh) (s : Sh) (i : Nat) : Dyn.Out :=
  .ite (decide ((i : Int) < s.n)) (.side [0 ≤ (i : Int) ∧ (i : Int) < s.n, PdW (sh i), ctrSelf (sh i).l] (.ite (!(smallE (sh i) 0)) (.leaf .ret sbR) (.leaf .normal (sbS s (W (i + 1)))))) (.leaf (.exit 0) (sbS s i))
theorem sb_B (n : Nat) (add : Nat → Bool) (sh : Nat → Sh) (i : Nat) : (Dyn.lexec Try.prog tabSb (sbLp sh (mkL n add sh)) 3 (unloopD (blkD Try.f17.body 0)) .leaf (sbS (mkL n add sh) i)).rl (keepR 20 [0] [] sbK [2]) = sbB sh (mkL n add sh) i := by kernel_rfl
theorem sb_blocks : blocksL (bodyD Try.f17.body) = [(0, .loop (unloopD (blkD Try.f17.body 0))), (1, blkD Try.f17.body 1)] := by kernel_rfl
theorem sb_b0 : blocksL (unloopD (blkD Try.f17.body 0)) = [(1, blkD Try.f17.body 1)] := by kernel_rfl
theorem sb_loop (n : Nat) (add : Nat → Bool) (sh : Nat → Sh) (hP : ∀ i, i < n → PdW (sh i)) (w0 : Dyn.Base Try.prog) (st : Dyn.St) (o : Dyn.Out) (h : sbLp sh (mkL n add sh) 0 st = some o) : Dyn.BlockSound Try.prog w0 0 (.loop (unloopD (blkD Try.f17.body 0))) st o := by
  simp only [sbLp, Option.some.injEq] at h
  subst h
  refine side_two fun hS hn => ?_
  have hn' : n ≤ 20 := hn
  refine run_block (fuel := 3) tabSb_ok mo (lp := sbLp sh (mkL n add sh)) (by rw [sb_b0]; exact lpOk_cons (fun s o h => by cases h) lpOk_nil) (fun i (_ : Unit) => sbS (mkL n add sh) i) n (sbG sh) () (fun _ => sbR) (keepR 20 [0] [] sbK [2]) (keepR_ent 20 _ _ _ _) (fun i _ => sbB sh (mkL n add sh) i) (fun i _ => sb_B n add sh i) (fun i a hi ha => ?_) (fun a ha => ?_) (hS ▸ keepA_ent 20 _ _ _ _ st)
  · refine ⟨fun _ => ⟨⟨⟨by omega, by show (i : Int) < (n : Int); omega⟩, hP i hi, ctrSelf_ok _, trivial⟩, fun hx => .inr ⟨rfl, ?_, Dyn.Fits.refl _⟩, fun hx => .inl ⟨rfl, ?_, ?_⟩⟩, fun hf => ?_⟩
    · simpa [sbG] using hx
    · simpa [sbG] using hx
    · rw [Wn1 hi (by omega)]; exact Dyn.Fits.refl _
    · rw [decide_eq_false_iff_not] at hf
      exact absurd (show (i : Int) < (n : Int) by omega) hf
  · refine ⟨fun ht => ?_, fun _ => ⟨rfl, Dyn.Fits.refl _⟩⟩
    rw [decide_eq_true_eq] at ht
    exact absurd (show (n : Int) < (n : Int) from ht) (by omega)
noncomputable def sbO (sh : Nat → Sh) (s : Sh) : Dyn.RO :=
  .ite (decide ((s.n : Int) > 20)) (.leaf (rB false)) (.side [sbS s 0 = sbS s 0, s.n ≤ 20] (.ite (runN (sbG sh) () s.n).1 (.leaf (rB true)) (.leaf (rB false))))
theorem sb_O (sh : Nat → Sh) (s : Sh) : (Dyn.dfun Try.prog tabSb (sbLp sh s) 3 Try.f17 [dvL s]).ro Try.prog Try.f17.results = sbO sh s := by kernel_rfl
theorem sb_lvl (n : Nat) (add : Nat → Bool) (sh : Nat → Sh) (hP : ∀ i, i < n → PdW (sh i)) : Dyn.CallD Try.prog 17 [dvL (mkL n add sh)] (rB (bif decide ((n : Int) > 20) then false else (runN (sbG sh) () n).1)) :=
  Dyn.dcontract (lp := sbLp sh (mkL n add sh)) (fuel := 3) tabSb_ok mo Try.func17 (by kernel_rfl) (c := bodyD Try.f17.body) (by kernel_rfl)
    (fun w0 => by rw [sb_blocks]; exact lpOk_cons (sb_loop n add sh hP w0) (lpOk_cons (fun s o h => by cases h) lpOk_nil))
    (by kernel_rfl) (sb_O sh _) (by
      refine ⟨fun h => ?_, fun h => ⟨⟨rfl, ?_, trivial⟩, fun h2 => ?_, fun h2 => ?_⟩⟩
      · rw [show decide ((n : Int) > 20) = true from h]; exact ro_leaf rfl
      · have : ¬ (n : Int) > 20 := of_decide_eq_false h
        show n ≤ 20
        omega
      · rw [show decide ((n : Int) > 20) = false from h, show (runN (sbG sh) () n).1 = true from h2]; exact ro_leaf rfl
      · rw [show decide ((n : Int) > 20) = false from h, show (runN (sbG sh) () n).1 = false from h2]; exact ro_leaf rfl)
theorem small21_ok : ∀ s : Shp, ShW s → Dyn.CallD Try.prog 17 [dvL (toSh s)] (rB (small21 s)) := by
  intro s h
  cases s with
  | nil => exact h.elim
  | mk k a b c r l n add sub =>
    have q := sb_lvl n add (fun i => toSh (sub i)) fun i hi => PdW_mk (h i hi)
    unfold sbG at q
    simp only [smallE_eq] at q
    exact q
/-! ### Tame -/
noncomputable def tame21 (s : Shp) (sm : Bool) : Shp := .mk 6 ze ze ze 0 zeC (min (nuO s) 12) (adO s) (fun i => tameS (suO s i) sm 2)
noncomputable def tdTl : List Dyn.EntryD := [(12, en3D (qAnd qS PdS) qB qI fun x q d => .val (dvS (tameE x q d)))]
def drTl (K : Nat) : Bool := Nat.beq K 12
noncomputable def tabTl : Dyn.Tabs := Dyn.tabs tbF tdTl drTl dtyO
theorem tabTl_ok : Dyn.TabsOk Try.prog tabTl := Dyn.tabs_ok tbF_ok (List.forall_mem_cons.2 ⟨en3D_ok (qAnd_ok qS_ok) qB_ok qI_ok fun x q d h _ _ => tame_all x h.1 q d, fun _ h => by cases h⟩)
noncomputable def tlF (add : Nat → Bool) (sh : Nat → Sh) (sm : Bool) (i : Nat) : List Dyn.DC := partC (add i) (tameE (sh i) sm 2)
noncomputable def tlS (s : Sh) (add : Nat → Bool) (sh : Nat → Sh) (sm : Bool) (t : Int) (i : Nat) : Dyn.St := mkS 34 [(0, sH 0 0 s.n), (1, sB sm), (4, .k (.slice none 0 0)), (5, sH 1 0 i), (6, sI t)] [some (.deep [.row s.n s.f]), some (.own 62 i (tlF add sh sm))]
def tlK : List Nat := [0, 1, 4, 5, 6]
noncomputable def tlLp (add : Nat → Bool) (sh : Nat → Sh) (s : Sh) (sm : Bool) : Dyn.Lp := fun id st => match id with
  | 0 => some (.side [Dyn.nilSlot 5 62 (tlF add sh sm) (keepS 34 [0] tlK (2 ^ 6) st) = tlS s add sh sm 0 0] (.leaf .normal (tlS s add sh sm (min s.n 12 : Nat) (min s.n 12))))
  | _ => none
noncomputable def tlV (s : Sh) (add : Nat → Bool) (sh : Nat → Sh) (sm : Bool) (i : Nat) : Dyn.St := mkS 34 [(0, sH 0 0 s.n), (1, sB sm), (4, .k (.slice none 0 0)), (5, sH 1 0 (i + 1)), (6, sI (W (i + 1)))] [some (.deep [.row s.n s.f]), some (.own 62 (i + 1) (Dyn.appF i (tlF add sh sm) (fun _ => tlF add sh sm i)))]
noncomputable def tlB (s : Sh) (add : Nat → Bool) (sh : Nat → Sh) (sm : Bool) (i : Nat) : Dyn.Out :=
  .ite (bif decide ((i : Int) < s.n) then decide ((i : Int) < 12) else false)
    (.side [0 ≤ (i : Int) ∧ (i : Int) < s.n, 0 ≤ (i : Int) ∧ (i : Int) < s.n, PdS (sh i), ctrSelf (sh i).l, szP 120 i] (.leaf .normal (tlV s add sh sm i)))
    (.leaf (.exit 0) (tlS s add sh sm i i))
theorem tl_B (n : Nat) (add : Nat → Bool) (sh : Nat → Sh) (sm : Bool) (i : Nat) : (Dyn.lexec Try.prog tabTl (tlLp add sh (mkL n add sh) sm) 3 (unloopD (blkD Try.f19.body 0)) .leaf (tlS (mkL n add sh) add sh sm i i)).rl (fun _ s => keepA 34 [0] [5] tlK 0 s) = tlB (mkL n add sh) add sh sm i := by kernel_rfl
theorem tl_blocks : blocksL (bodyD Try.f19.body) = [(0, .loop (unloopD (blkD Try.f19.body 0))), (1, blkD Try.f19.body 1)] := by kernel_rfl
theorem tl_b0 : blocksL (unloopD (blkD Try.f19.body 0)) = [(1, blkD Try.f19.body 1)] := by kernel_rfl
theorem tl_loop (n : Nat) (add : Nat → Bool) (sh : Nat → Sh) (sm : Bool) (hn : n ≤ 1000000000) (hP : ∀ i, i < n → PdS (sh i)) (w0 : Dyn.Base Try.prog) (st : Dyn.St) (o : Dyn.Out) (h : tlLp add sh (mkL n add sh) sm 0 st = some o) : Dyn.BlockSound Try.prog w0 0 (.loop (unloopD (blkD Try.f19.body 0))) st o := by
  simp only [tlLp, Option.some.injEq] at h
  subst h
  refine side_one fun hS => ?_
  refine fold_block (fuel := 3) tabTl_ok mo (lp := tlLp add sh (mkL n add sh) sm) (by rw [tl_b0]; exact lpOk_cons (fun s o h => by cases h) lpOk_nil) (fun i (_ : Unit) => tlS (mkL n add sh) add sh sm i i) (min n 12) (fun _ _ => ()) () (fun _ s => keepA 34 [0] [5] tlK 0 s) (fun _ s => keepA_ent 34 _ _ _ 0 s) (fun i _ => tlB (mkL n add sh) add sh sm i) (fun i _ => tl_B n add sh sm i) (fun i hi => ?_) ?_ (hS ▸ (keepS_ent 34 (by decide) _ _ st).trans (Dyn.Ent.nilSlot (P := Try.prog) (k := 10) (by kernel_rfl) _ _))
  · have hi' : i < n := by omega
    refine ⟨fun _ => ⟨⟨⟨by omega, by show (i : Int) < (n : Int); omega⟩, ⟨by omega, by show (i : Int) < (n : Int); omega⟩, hP i hi', ctrSelf_ok _, szP_ok (by decide) (by omega), trivial⟩, rfl, ?_⟩, fun hf => ?_⟩
    · unfold tlV
      rw [Wn1 hi' hn]
      exact ⟨rfl, Dyn.HeLe.refl _, le_app rfl, trivial⟩
    · rw [Bool.eq_false_iff] at hf
      exact absurd (and_iff.2 ⟨show (i : Int) < (n : Int) by omega, by omega⟩) hf
  · refine ⟨fun ht => ?_, fun _ => ⟨rfl, Dyn.Fits.refl _⟩⟩
    have ht := and_iff.1 ht
    have h1 : ((min n 12 : Nat) : Int) < (n : Int) := ht.1
    have h2 : ((min n 12 : Nat) : Int) < 12 := ht.2
    omega
theorem tl_O (add : Nat → Bool) (sh : Nat → Sh) (s : Sh) (sm : Bool) : (Dyn.dfun Try.prog tabTl (tlLp add sh s sm) 3 Try.f19 [dvL s, dvB sm]).ro Try.prog Try.f19.results = .side [tlS s add sh sm 0 0 = tlS s add sh sm 0 0] (.leaf (.val (.one (.row (min s.n 12) (tlF add sh sm))))) := by kernel_rfl
theorem tl_lvl (n : Nat) (add : Nat → Bool) (sh : Nat → Sh) (sm : Bool) (hn : n ≤ 1000000000) (hP : ∀ i, i < n → PdS (sh i)) : Dyn.CallD Try.prog 19 [dvL (mkL n add sh), dvB sm] (.val (.one (.row (min n 12) (tlF add sh sm)))) :=
  Dyn.dcontract (lp := tlLp add sh (mkL n add sh) sm) (fuel := 3) tabTl_ok mo Try.func19 (by kernel_rfl) (c := bodyD Try.f19.body) (by kernel_rfl)
    (fun w0 => by rw [tl_blocks]; exact lpOk_cons (tl_loop n add sh sm hn hP w0) (lpOk_cons (fun s o h => by cases h) lpOk_nil))
    (by kernel_rfl) (tl_O add sh _ sm) ⟨⟨rfl, trivial⟩, rfl, fun _ _ => rfl⟩
theorem tame21_ok : ∀ s : Shp, ShB s → ∀ sm, Dyn.CallD Try.prog 19 [dvL (toSh s), dvB sm] (.val (dvL (toSh (tame21 s sm)))) := by
  intro s h sm
  cases s with
  | nil => exact h.elim
  | mk k a b c r l n add sub =>
    have q := tl_lvl n add (fun i => toSh (sub i)) sm h.2.1 fun i hi => PdS_mk (h.2.2 i hi)
    unfold tlF at q
    simp only [tameE_eq] at q
    exact q
/-! ### Class -/
noncomputable def figClassS (s : Shp) (b : B4) : Int := bif !(okE (toSh s)) then 0 else classF s b
noncomputable def pClass (s : Shp) (b : B4) : Int := foldN (fun i acc => foldF acc (figClassS (suO s i) b) (adO s i)) 0 (nuO s)
theorem figClassE_eq (s : Shp) (b : B4) : figClassE (toSh s) b = figClassS s b := by unfold figClassE figClassS; rw [classE_eq]
noncomputable def tdPc : List Dyn.EntryD := [(46, en2D (qAnd qS PdS) qX fun x b => rI (figClassE x b))]
noncomputable def tabPc : Dyn.Tabs := Dyn.tabs tbF tdPc noD dtyO
theorem tabPc_ok : Dyn.TabsOk Try.prog tabPc := Dyn.tabs_ok tbF_ok (List.forall_mem_cons.2 ⟨en2D_ok (qAnd_ok qS_ok) qX_ok fun x b h _ => figClass_ok x h.1 b, fun _ h => by cases h⟩)
noncomputable def pcG (sh : Nat → Sh) (add : Nat → Bool) (b : B4) (i : Nat) (acc : Int) : Int := foldF acc (figClassE (sh i) b) (add i)
def pcS (s : Sh) (b : B4) (acc i : Int) : Dyn.St := mkS 24 [(3, sL 1), (4, .k (vi 0)), (5, sI acc), (8, sH 0 0 s.n), (9, sI s.n), (10, sI i)] [some (.deep [.row s.n s.f]), some (.cells 40 [vi b.x0, vi b.y0, vi b.x1, vi b.y1])]
def pcK : List Nat := [3, 4, 5, 8, 9, 10]
noncomputable def pcLp (sh : Nat → Sh) (add : Nat → Bool) (s : Sh) (b : B4) : Dyn.Lp := fun id st => match id with
  | 0 => some (.side [keepA 24 [0, 1] [] pcK (2 ^ 5 + 2 ^ 10) st = pcS s b 0 0] (.leaf .normal (pcS s b (foldN (pcG sh add b) 0 s.n) s.n)))
  | _ => none
noncomputable def pcB (sh : Nat → Sh) (add : Nat → Bool) (s : Sh) (b : B4) (i : Nat) (acc : Int) : Dyn.Out :=
  .ite (decide ((i : Int) < s.n)) (.side [0 ≤ (i : Int) ∧ (i : Int) < s.n] (.side [PdS (sh i), ctrSelf (sh i).l] (.leaf .normal (pcS s b (foldF acc (figClassE (sh i) b) (add i)) (W (i + 1)))))) (.leaf (.exit 0) (pcS s b acc i))
theorem pc_B (n : Nat) (add : Nat → Bool) (sh : Nat → Sh) (b : B4) (i : Nat) (acc : Int) : (Dyn.lexec Try.prog tabPc (pcLp sh add (mkL n add sh) b) 3 (unloopD (blkD Try.f22.body 0)) .leaf (pcS (mkL n add sh) b acc i)).rl (keepR 24 [0, 1] [] pcK []) = pcB sh add (mkL n add sh) b i acc := by kernel_rfl
theorem pc_blocks : blocksL (bodyD Try.f22.body) = [(0, .loop (unloopD (blkD Try.f22.body 0))), (1, blkD Try.f22.body 1)] := by kernel_rfl
theorem pc_b0 : blocksL (unloopD (blkD Try.f22.body 0)) = [(1, blkD Try.f22.body 1)] := by kernel_rfl
theorem pc_loop (n : Nat) (add : Nat → Bool) (sh : Nat → Sh) (hn : n ≤ 1000000000) (hP : ∀ i, i < n → PdS (sh i)) (b : B4) (w0 : Dyn.Base Try.prog) (s : Dyn.St) (o : Dyn.Out) (h : pcLp sh add (mkL n add sh) b 0 s = some o) : Dyn.BlockSound Try.prog w0 0 (.loop (unloopD (blkD Try.f22.body 0))) s o := by
  simp only [pcLp, Option.some.injEq] at h
  subst h
  refine side_one fun hS => ?_
  refine fold_block (fuel := 3) tabPc_ok mo (lp := pcLp sh add (mkL n add sh) b) (by rw [pc_b0]; exact lpOk_cons (fun s o h => by cases h) lpOk_nil) (fun i acc => pcS (mkL n add sh) b acc i) n (pcG sh add b) 0 (keepR 24 [0, 1] [] pcK []) (keepR_ent 24 _ _ _ _) (fun i acc => pcB sh add (mkL n add sh) b i acc) (fun i acc => pc_B n add sh b i acc) (fun i hi => ?_) ?_ (hS ▸ keepA_ent 24 _ _ _ _ s)
  · refine ⟨fun _ => ⟨⟨⟨by omega, by show (i : Int) < (n : Int); omega⟩, trivial⟩, ⟨hP i hi, ctrSelf_ok _, trivial⟩, rfl, ?_⟩, fun hf => ?_⟩
    · rw [Wn1 hi hn]; exact Dyn.Fits.refl _
    · rw [decide_eq_false_iff_not] at hf
      exact absurd (show (i : Int) < (n : Int) by omega) hf
  · refine ⟨fun ht => ?_, fun _ => ⟨rfl, Dyn.Fits.refl _⟩⟩
    rw [decide_eq_true_eq] at ht
    exact absurd (show (n : Int) < (n : Int) from ht) (by omega)
theorem pc_O (sh : Nat → Sh) (add : Nat → Bool) (s : Sh) (b : B4) : (Dyn.dfun Try.prog tabPc (pcLp sh add s b) 3 Try.f22 [dvL s, dvX b]).ro Try.prog Try.f22.results = .side [pcS s b 0 0 = pcS s b 0 0] (.leaf (rI (foldN (pcG sh add b) 0 s.n))) := by kernel_rfl
theorem pc_lvl (n : Nat) (add : Nat → Bool) (sh : Nat → Sh) (hn : n ≤ 1000000000) (hP : ∀ i, i < n → PdS (sh i)) (b : B4) : Dyn.CallD Try.prog 22 [dvL (mkL n add sh), dvX b] (rI (foldN (pcG sh add b) 0 n)) :=
  Dyn.dcontract (lp := pcLp sh add (mkL n add sh) b) (fuel := 3) tabPc_ok mo Try.func22 (by kernel_rfl) (c := bodyD Try.f22.body) (by kernel_rfl)
    (fun w0 => by rw [pc_blocks]; exact lpOk_cons (pc_loop n add sh hn hP b w0) (lpOk_cons (fun s o h => by cases h) lpOk_nil))
    (by kernel_rfl) (pc_O sh add _ b) ⟨⟨rfl, trivial⟩, ro_leaf rfl⟩
theorem pClass_ok : ∀ s : Shp, ShB s → ∀ b, Dyn.CallD Try.prog 22 [dvL (toSh s), dvX b] (rI (pClass s b)) := by
  intro s h b
  cases s with
  | nil => exact h.elim
  | mk k a b' c r l n add sub =>
    have q := pc_lvl n add (fun i => toSh (sub i)) h.2.1 (fun i hi => PdS_mk (h.2.2 i hi)) b
    unfold pcG at q
    simp only [figClassE_eq] at q
    exact q
end Go.Proofs.Ythnenjodighlmaa

/-! ## Sam -/
namespace Go.Proofs.Ythnenjodighlmaa
open Go Go.RowKit Sym
set_option maxRecDepth 100000

def spI (l m : Ctr) (i k : Nat) (_ : Unit) : Bool × Unit := (!(!(eqP (l.p i k) (m.p i k))), ())
def spO (l m : Ctr) (i : Nat) (_ : Unit) : Bool × Unit := (bif (l.m i : Int) != (m.m i : Int) then false else (runN (spI l m i) () (l.m i)).1, ())
def sptF (l m : Ctr) : Bool := bif (l.n : Int) != (m.n : Int) then false else (runN (spO l m) () l.n).1
def spH (l m : Ctr) : List (Option Dyn.HE) := [some (.deep [cCtr l]), some (.deep [cCtr m])]
def spS (l m : Ctr) (i : Int) : Dyn.St := mkS 53 [(0, sH 0 0 l.n), (1, sH 1 0 m.n), (4, .k (vb false)), (5, sI i)] (spH l m)
def spT (l m : Ctr) (i k : Int) : Dyn.St := mkS 53 [(0, sH 0 0 l.n), (1, sH 1 0 m.n), (4, .k (vb false)), (5, sI i), (6, sI k)] (spH l m)
def spR : Dyn.St := mkS 53 [(4, .k (vb false))] []
def spK0 : List Nat := [0, 1, 4, 5]
def spK1 : List Nat := [0, 1, 4, 5, 6]
def spLp (l m : Ctr) : Dyn.Lp := fun id st => match id with
  | 0 => some (.side [keepA 53 [0, 1] [] spK0 (2 ^ 5) st = spS l m 0, l.n = m.n] (.ite (runN (spO l m) () l.n).1 (.leaf .normal (spS l m l.n)) (.leaf .ret spR)))
  | 2 =>
    let i := intD (st.slots.getD 5 .junk)
    some (.side [keepA 53 [0, 1] [] spK1 (2 ^ 6) st = spT l m i 0, (0 ≤ i ∧ i < l.n) ∧ l.n = m.n, l.m i.toNat = m.m i.toNat] (.ite (runN (spI l m i.toNat) () (l.m i.toNat)).1 (.leaf .normal (spT l m i (l.m i.toNat))) (.leaf .ret spR)))
  | _ => none
def spB2 (l m : Ctr) (i : Int) (k : Nat) : Dyn.Out :=
  .side [0 ≤ i ∧ i < l.n] (.ite (decide ((k : Int) < l.m i.toNat)) (.side [0 ≤ i ∧ i < l.n, 0 ≤ (k : Int) ∧ (k : Int) < l.m i.toNat, 0 ≤ i ∧ i < m.n, 0 ≤ (k : Int) ∧ (k : Int) < m.m i.toNat] (.ite (!(eqP (l.p i.toNat k) (m.p i.toNat k))) (.leaf .ret spR) (.leaf .normal (spT l m i (W (k + 1)))))) (.leaf (.exit 2) (spT l m i k)))
def spB0 (l m : Ctr) (i : Nat) : Dyn.Out :=
  .ite (decide ((i : Int) < l.n)) (.side [0 ≤ (i : Int) ∧ (i : Int) < l.n, 0 ≤ (i : Int) ∧ (i : Int) < m.n] (.ite ((l.m i : Int) != (m.m i : Int)) (.leaf .ret spR) (.side [spT l m i 0 = spT l m i 0, (0 ≤ (i : Int) ∧ (i : Int) < l.n) ∧ l.n = m.n, l.m i = m.m i] (.ite (runN (spI l m i) () (l.m i)).1 (.leaf .normal (spS l m (W (i + 1)))) (.leaf .ret spR))))) (.leaf (.exit 0) (spS l m i))
theorem sp_B2 (l m : Ctr) (i : Int) (k : Nat) : (Dyn.lexec Try.prog tabF1 (spLp l m) 3 (unloopD (blkD Try.f41.body 2)) .leaf (spT l m i k)).rl (keepR 53 [0, 1] [] spK1 [4]) = spB2 l m i k := by kernel_rfl
theorem sp_B0 (l m : Ctr) (i : Nat) : (Dyn.lexec Try.prog tabF1 (spLp l m) 3 (unloopD (blkD Try.f41.body 0)) .leaf (spS l m i)).rl (keepR 53 [0, 1] [] spK0 [4]) = spB0 l m i := by kernel_rfl
theorem sp_blocks : blocksL (bodyD Try.f41.body) = [(0, .loop (unloopD (blkD Try.f41.body 0))), (1, blkD Try.f41.body 1), (2, .loop (unloopD (blkD Try.f41.body 2))), (3, blkD Try.f41.body 3)] := by kernel_rfl
theorem sp_b0 : blocksL (unloopD (blkD Try.f41.body 0)) = [(1, blkD Try.f41.body 1), (2, .loop (unloopD (blkD Try.f41.body 2))), (3, blkD Try.f41.body 3)] := by kernel_rfl
theorem sp_b2 : blocksL (unloopD (blkD Try.f41.body 2)) = [(3, blkD Try.f41.body 3)] := by kernel_rfl
theorem side_three {P : Program} {w0 : Dyn.Base P} {id : Nat} {c : Code} {s : Dyn.St} {p q r : Prop} {o : Dyn.Out} (h : p → q → r → Dyn.BlockSound P w0 id c s o) : Dyn.BlockSound P w0 id c s (.side [p, q, r] o) := fun Q a w β m ng ho => h ho.1.1 ho.1.2.1 ho.1.2.2.1 Q a w β m ng ho.2
theorem sp_inner (l m : Ctr) (hl : CtrB l) (w0 : Dyn.Base Try.prog) (s : Dyn.St) (o : Dyn.Out) (h : spLp l m 2 s = some o) : Dyn.BlockSound Try.prog w0 2 (.loop (unloopD (blkD Try.f41.body 2))) s o := by
  simp only [spLp, Option.some.injEq] at h
  subst h
  refine side_three fun hS hi' he => ?_
  revert hS hi' he
  generalize intD (s.slots.getD 5 .junk) = i
  intro hS hi' he
  have hi := hi'.1
  have hn := hi'.2
  have hm : l.m i.toNat ≤ 1000000000 := hl.2 _ (by omega)
  refine run_block (fuel := 3) tabF1_ok mo (lp := spLp l m) (by rw [sp_b2]; exact lpOk_cons (fun s o h => by cases h) lpOk_nil) (fun k (_ : Unit) => spT l m i k) (l.m i.toNat) (spI l m i.toNat) () (fun _ => spR) (keepR 53 [0, 1] [] spK1 [4]) (keepR_ent 53 _ _ _ _) (fun k _ => spB2 l m i k) (fun k _ => sp_B2 l m i k) (fun k a hk ha => ?_) (fun a ha => ?_) (hS ▸ keepA_ent 53 _ _ _ _ s)
  · refine ⟨⟨hi, trivial⟩, fun _ => ⟨⟨hi, ⟨by omega, by omega⟩, ⟨hi.1, by omega⟩, ⟨by omega, by omega⟩, trivial⟩, fun hx => .inr ⟨rfl, ?_, Dyn.Fits.refl _⟩, fun hx => .inl ⟨rfl, ?_, ?_⟩⟩, fun hf => ?_⟩
    · unfold spI; rw [hx]; rfl
    · unfold spI; rw [hx]; rfl
    · rw [Wn1 hk hm]; exact Dyn.Fits.refl _
    · rw [decide_eq_false_iff_not] at hf; omega
  · refine ⟨⟨hi, trivial⟩, fun ht => ?_, fun _ => ⟨rfl, Dyn.Fits.refl _⟩⟩
    rw [decide_eq_true_eq] at ht; omega
theorem sp_outer (l m : Ctr) (hl : CtrB l) (w0 : Dyn.Base Try.prog) (hi2 : ∀ s o, spLp l m 2 s = some o → Dyn.BlockSound Try.prog w0 2 (.loop (unloopD (blkD Try.f41.body 2))) s o) (s : Dyn.St) (o : Dyn.Out) (h : spLp l m 0 s = some o) : Dyn.BlockSound Try.prog w0 0 (.loop (unloopD (blkD Try.f41.body 0))) s o := by
  simp only [spLp, Option.some.injEq] at h
  subst h
  refine side_two fun hS hn => ?_
  refine run_block (fuel := 3) tabF1_ok mo (lp := spLp l m) (by rw [sp_b0]; exact lpOk_cons (fun s o h => by cases h) (lpOk_cons hi2 (lpOk_cons (fun s o h => by cases h) lpOk_nil))) (fun i (_ : Unit) => spS l m i) l.n (spO l m) () (fun _ => spR) (keepR 53 [0, 1] [] spK0 [4]) (keepR_ent 53 _ _ _ _) (fun i _ => spB0 l m i) (fun i _ => sp_B0 l m i) (fun i a hi ha => ?_) (fun a ha => ?_) (hS ▸ keepA_ent 53 _ _ _ _ s)
  · unfold spO
    refine ⟨fun _ => ⟨⟨⟨by omega, by omega⟩, ⟨by omega, by omega⟩, trivial⟩, fun hx => .inr ⟨rfl, ?_, Dyn.Fits.refl _⟩, fun hx => ⟨⟨rfl, ⟨⟨by omega, by omega⟩, hn⟩, ?_, trivial⟩, fun hy => .inl ⟨rfl, ?_, ?_⟩, fun hy => .inr ⟨rfl, ?_, Dyn.Fits.refl _⟩⟩⟩, fun hf => ?_⟩
    · rw [hx]; rfl
    · have : (l.m i : Int) = (m.m i : Int) := by simpa using hx
      omega
    · rw [hx]; exact hy
    · rw [Wn1 hi hl.1]; exact Dyn.Fits.refl _
    · rw [hx]; exact hy
    · rw [decide_eq_false_iff_not] at hf; omega
  · refine ⟨fun ht => ?_, fun _ => ⟨rfl, Dyn.Fits.refl _⟩⟩
    rw [decide_eq_true_eq] at ht; omega
def spOO (l m : Ctr) : Dyn.RO := .ite ((l.n : Int) != (m.n : Int)) (.leaf (rB false)) (.side [spS l m 0 = spS l m 0, l.n = m.n] (.ite (runN (spO l m) () l.n).1 (.leaf (rB true)) (.leaf (rB false))))
theorem sp_OO (l m : Ctr) : (Dyn.dfun Try.prog tabF1 (spLp l m) 3 Try.f41 [dvC l, dvC m]).ro Try.prog Try.f41.results = spOO l m := by kernel_rfl
theorem samePts_ok (l m : Ctr) (hl : CtrB l) : Dyn.CallD Try.prog 41 [dvC l, dvC m] (rB (sptF l m)) :=
  Dyn.dcontract (lp := spLp l m) (fuel := 3) (X := tabF1) tabF1_ok mo Try.func41 (by kernel_rfl) (c := bodyD Try.f41.body) (by kernel_rfl)
    (fun w0 => by
      rw [sp_blocks]
      have hi := fun s o => sp_inner l m hl w0 s o
      exact lpOk_cons (sp_outer l m hl w0 hi) (lpOk_cons (fun s o h => by cases h) (lpOk_cons hi (lpOk_cons (fun s o h => by cases h) lpOk_nil))))
    (by kernel_rfl) (sp_OO l m) (by
      unfold sptF
      refine ⟨fun h => ?_, fun h => ⟨⟨rfl, ?_, trivial⟩, fun h2 => ?_, fun h2 => ?_⟩⟩
      · rw [h]; exact ro_leaf rfl
      · have : (l.n : Int) = (m.n : Int) := by simpa using h
        omega
      · rw [h, h2]; exact ro_leaf rfl
      · rw [h, h2]; exact ro_leaf rfl)
end Go.Proofs.Ythnenjodighlmaa
