/-
  OWN WORK. Boxes: whether a segment meets one, quarters; the law BoxHolds.
-/
import Derived.Test.YtgdjfclpncpnpaaBar
namespace Go.Proofs.Ytgdjfclpncpnpaa
open Go Go.RowKit Sym

theorem cnt4_lt (f : P2 → Bool) (b : B4) : decide (cnt4 f b < 4) = !(all4 f b) := by
  rw [cnt4_sum]; unfold all4
  cases f ⟨b.x0, b.y0⟩ <;> cases f ⟨b.x1, b.y0⟩ <;> cases f ⟨b.x0, b.y1⟩ <;> cases f ⟨b.x1, b.y1⟩ <;> rfl
/-- the segment's own box has no point of b -/
def sepI (b : B4) (p q : P2) : Bool := decide (max p.x q.x < b.x0) || decide (min p.x q.x > b.x1) || decide (max p.y q.y < b.y0) || decide (min p.y q.y > b.y1)
def meetsI (b : B4) (p q : P2) : Bool := !(sepI b p q) && (!(all4 (fun c => decide (crossI p q c > 0)) b) && !(all4 (fun c => decide (crossI p q c < 0)) b))
theorem meets_eq {b : B4} {p q : P2} (hb : BR b) (hp : PR p) (hq : PR q) (hx : b.x0 ≤ b.x1) (hy : b.y0 ≤ b.y1) : meets b p q = meetsI b p q := by
  have e1 : all4 (fun c => decide (cross p q c > 0)) b = all4 (fun c => decide (crossI p q c > 0)) b := all4_congr hb fun c hc => by rw [(cross_eq hp hq hc).1]
  have e2 : all4 (fun c => decide (cross p q c < 0)) b = all4 (fun c => decide (crossI p q c < 0)) b := all4_congr hb fun c hc => by rw [(cross_eq hp hq hc).1]
  have e3 : emptyBx b = false := by
    unfold emptyBx; rw [orB_eq, decide_eq_false (show ¬ b.x0 > b.x1 by omega), decide_eq_false (show ¬ b.y0 > b.y1 by omega)]; rfl
  unfold meets meetsI sepI
  rw [cnt4_lt, cnt4_lt, e1, e2, e3]
  simp only [orB_eq, andB_eq, imax_eq, imin_eq, Bool.false_or]
  cases (decide (max p.x q.x < b.x0) || decide (min p.x q.x > b.x1) || decide (max p.y q.y < b.y0) || decide (min p.y q.y > b.y1)) <;> rfl
theorem rMeets_eq {b : B4} {p q : P2} (hb : BR b) (hp : PR p) (hq : PR q) : rMeets b p q = meetsI b p q := by
  have e1 : all4 (fun c => decide (cross p q c > 0)) b = all4 (fun c => decide (crossI p q c > 0)) b := all4_congr hb fun c hc => by rw [(cross_eq hp hq hc).1]
  have e2 : all4 (fun c => decide (cross p q c < 0)) b = all4 (fun c => decide (crossI p q c < 0)) b := all4_congr hb fun c hc => by rw [(cross_eq hp hq hc).1]
  unfold rMeets meetsI sepI rApart
  rw [cnt4_lt, cnt4_lt, e1, e2]
  simp only [orB_eq, andB_eq, imax_eq, imin_eq]
  have e4 : (decide (b.x1 < min p.x q.x) || decide (max p.x q.x < b.x0) || decide (b.y1 < min p.y q.y) || decide (max p.y q.y < b.y0)) = (decide (max p.x q.x < b.x0) || decide (min p.x q.x > b.x1) || decide (max p.y q.y < b.y0) || decide (min p.y q.y > b.y1)) := by
    rw [Bool.or_comm (decide (b.x1 < min p.x q.x)), Bool.or_assoc, Bool.or_assoc, Bool.or_assoc, Bool.or_assoc, Bool.or_comm (decide (b.y1 < min p.y q.y))]
  rw [e4]
  cases (decide (max p.x q.x < b.x0) || decide (min p.x q.x > b.x1) || decide (max p.y q.y < b.y0) || decide (min p.y q.y > b.y1)) <;> rfl
/-- some corner of a box is on the one side of a line through a point of the box, some on the other -/
theorem sides_in {b : B4} {p q : P2} (h : hasI b p) : all4 (fun c => decide (crossI p q c > 0)) b = false ∧ all4 (fun c => decide (crossI p q c < 0)) b = false := by
  obtain ⟨h1, h2, h3, h4⟩ := h
  have key : ∀ (u v : Int), (0 ≤ u * (b.x1 - p.x) ∧ u * (b.x0 - p.x) ≤ 0 ∨ u * (b.x1 - p.x) ≤ 0 ∧ 0 ≤ u * (b.x0 - p.x)) ∧ (0 ≤ v * (b.y1 - p.y) ∧ v * (b.y0 - p.y) ≤ 0 ∨ v * (b.y1 - p.y) ≤ 0 ∧ 0 ≤ v * (b.y0 - p.y)) := fun u v => by
    have one : ∀ (u lo hi : Int), lo ≤ 0 → 0 ≤ hi → (0 ≤ u * hi ∧ u * lo ≤ 0 ∨ u * hi ≤ 0 ∧ 0 ≤ u * lo) := fun u lo hi a c => by
      rcases Int.le_total 0 u with k | k
      · have := Int.mul_nonneg k c; have := Int.mul_nonneg k (show 0 ≤ -lo by omega)
        left; constructor
        · assumption
        · have e : u * -lo = -(u * lo) := by grind
          omega
      · have := Int.mul_nonneg (show 0 ≤ -u by omega) c; have := Int.mul_nonneg (show 0 ≤ -u by omega) (show 0 ≤ -lo by omega)
        right
        have e1 : -u * hi = -(u * hi) := by grind
        have e2 : -u * -lo = u * lo := by grind
        omega
    exact ⟨one u _ _ (by omega) (by omega), one v _ _ (by omega) (by omega)⟩
  have e : ∀ x y, crossI p q ⟨x, y⟩ = (q.x - p.x) * (y - p.y) - (q.y - p.y) * (x - p.x) := fun _ _ => rfl
  unfold all4
  simp only [e]
  obtain ⟨k1, k2⟩ := key (q.y - p.y) (q.x - p.x)
  generalize (q.x - p.x) * (b.y0 - p.y) = A at *
  generalize (q.x - p.x) * (b.y1 - p.y) = B at *
  generalize (q.y - p.y) * (b.x0 - p.x) = C at *
  generalize (q.y - p.y) * (b.x1 - p.x) = D at *
  constructor
  · simp only [Bool.and_eq_false_iff, decide_eq_false_iff_not]; omega
  · simp only [Bool.and_eq_false_iff, decide_eq_false_iff_not]; omega
theorem meetsI_in {b : B4} {p : P2} (q : P2) (h : hasI b p) : meetsI b p q = true := by
  have s := sides_in (q := q) h
  obtain ⟨h1, h2, h3, h4⟩ := h
  unfold meetsI
  rw [s.1, s.2]
  unfold sepI
  rw [decide_eq_false (show ¬ max p.x q.x < b.x0 by omega), decide_eq_false (show ¬ min p.x q.x > b.x1 by omega), decide_eq_false (show ¬ max p.y q.y < b.y0 by omega), decide_eq_false (show ¬ min p.y q.y > b.y1 by omega)]
  rfl
theorem near_zero (b : B4) (p : P2) (hx : b.x0 ≤ b.x1) (hy : b.y0 ≤ b.y1) : nearI b p = 0 ↔ hasI b p := by
  have e : ∀ v lo hi : Int, lo ≤ hi → (gapI v lo hi * gapI v lo hi = 0 ↔ lo ≤ v ∧ v ≤ hi) := fun v lo hi hh => by
    rw [Int.mul_eq_zero]
    unfold gapI; split
    · omega
    · split <;> omega
  have a := e p.x b.x0 b.x1 hx; have c := e p.y b.y0 b.y1 hy
  have n1 := sq_nn (gapI p.x b.x0 b.x1); have n2 := sq_nn (gapI p.y b.y0 b.y1)
  unfold nearI hasI
  omega

/-! ### quarters -/
def q0 (b : B4) : B4 := ⟨spl b 0 b.x0, spl b 0 b.y0, spl b 0 (midX b), spl b 0 (midY b)⟩
def q1 (b : B4) : B4 := ⟨spl b 0 (midX b), spl b 0 b.y0, spl b 0 b.x1, spl b 0 (midY b)⟩
def q2 (b : B4) : B4 := ⟨spl b 0 b.x0, spl b 0 (midY b), spl b 0 (midX b), spl b 0 b.y1⟩
def q3 (b : B4) : B4 := ⟨spl b 0 (midX b), spl b 0 (midY b), spl b 0 b.x1, spl b 0 b.y1⟩
structure Fits (b : B4) : Prop where
  x0 : -536870912 ≤ b.x0
  x : b.x0 ≤ b.x1
  x1 : b.x1 ≤ 536870912
  y0 : -536870912 ≤ b.y0
  y : b.y0 ≤ b.y1
  y1 : b.y1 ≤ 536870912
theorem lBox_fits (b : B4) : Fits (lBox b) := by
  obtain ⟨h1, h2, h3, h4, h5, h6⟩ := lBox_r b
  exact ⟨h1, h2, h3, h4, h5, h6⟩
theorem boxOk_iff (b : B4) : boxOk b = true ↔ Fits b := by
  unfold boxOk within
  simp only [andB_eq, Bool.and_eq_true, decide_eq_true_eq]
  constructor
  · rintro ⟨⟨⟨⟨⟨a, c⟩, d, e⟩, f, g⟩, h, i⟩, j, k⟩; exact ⟨d, a, i, f, c, k⟩
  · rintro ⟨a, c, d, e, f, g⟩; exact ⟨⟨⟨⟨⟨c, f⟩, by omega, by omega⟩, by omega, by omega⟩, by omega, by omega⟩, by omega, by omega⟩
theorem spl_of {b : B4} (hb : Fits b) (h : splOk b = true) : (∀ v, spl b 0 v = v) ∧ b.x0 < midX b ∧ b.y0 < midY b ∧ 2 * midX b = b.x0 + b.x1 ∧ 2 * midY b = b.y0 + b.y1 := by
  obtain ⟨a1, a2, a3, a4, a5, a6⟩ := hb
  have k : ∀ v, spl b 0 v = v := fun v => by
    unfold splOk at h; unfold spl
    cases hq : boxOk b
    · rw [hq] at h; cases h
    · rw [hq] at h
      simp only [Bool.not_true, bif_f] at h ⊢
      cases ho : orB (orB (orB (W (b.x1 - b.x0) == 0) (W (b.y1 - b.y0) == 0)) ((W (b.x1 - b.x0)).tmod 2 != 0)) ((W (b.y1 - b.y0)).tmod 2 != 0)
      · rfl
      · rw [ho] at h; cases h
  refine ⟨k, ?_⟩
  unfold splOk at h
  rw [(boxOk_iff b).2 ⟨a1, a2, a3, a4, a5, a6⟩] at h
  rw [W_id (x := b.x1 - b.x0) (by omega) (by omega), W_id (x := b.y1 - b.y0) (by omega) (by omega)] at h
  simp only [Bool.not_true, bif_f, orB_eq] at h
  have h' : ¬ (((b.x1 - b.x0 = 0 ∨ b.y1 - b.y0 = 0) ∨ (b.x1 - b.x0).tmod 2 ≠ 0) ∨ (b.y1 - b.y0).tmod 2 ≠ 0) := by
    intro q
    have : (b.x1 - b.x0 == 0 || b.y1 - b.y0 == 0 || (b.x1 - b.x0).tmod 2 != 0 || (b.y1 - b.y0).tmod 2 != 0) = true := by
      simp only [Bool.or_eq_true, beq_iff_eq, bne_iff_ne]; exact q
    rw [this] at h; cases h
  rw [Int.tmod_eq_emod_of_nonneg (by omega), Int.tmod_eq_emod_of_nonneg (by omega)] at h'
  unfold midX midY
  rw [W_id (x := b.x1 - b.x0) (by omega) (by omega), W_id (x := b.y1 - b.y0) (by omega) (by omega), Int.tdiv_eq_ediv_of_nonneg (by omega), Int.tdiv_eq_ediv_of_nonneg (by omega),
    W_id (x := (b.x1 - b.x0) / 2) (by omega) (by omega), W_id (x := (b.y1 - b.y0) / 2) (by omega) (by omega), W_id (by omega) (by omega), W_id (by omega) (by omega)]
  omega
def badQ (b s : B4) (c d : P2) : Bool := orB (orB (orB (!(boxOk s)) (apart s b)) (!(boxHas b c))) (!(ptEq c d))
theorem badQ_no {b s : B4} {c : P2} (hs : Fits s) (h1 : b.x0 ≤ s.x0) (h2 : s.x1 ≤ b.x1) (h3 : b.y0 ≤ s.y0) (h4 : s.y1 ≤ b.y1) (hc : hasI s c) : badQ b s c c = false := by
  obtain ⟨a1, a2, a3, a4, a5, a6⟩ := id hs
  obtain ⟨c1, c2, c3, c4⟩ := hc
  have e1 : boxOk s = true := (boxOk_iff s).2 hs
  have e2 : apart s b = false := by
    unfold apart emptyBx
    simp only [orB_eq, Bool.or_eq_false_iff, decide_eq_false_iff_not]
    omega
  have e3 : boxHas b c = true := (boxHas_eq b c).2 ⟨by omega, by omega, by omega, by omega⟩
  have e4 : ptEq c c = true := by rw [ptEq_eq]; exact decide_eq_true ⟨rfl, rfl⟩
  unfold badQ; rw [e1, e2, e3, e4]; rfl
def boxHolds (b0 : B4) (x y : Int) (p0 : P2) : Bool :=
  let b := lBox b0
  let p := lPt p0
  let q := lIn b x y
  let d := rDist p q
  bif orB (orB (orB (!(boxHas b q)) (decide (near b p > d))) (decide (most b p < d))) (!((near b p == 0) == boxHas b p)) then false else
  let fin := fun n => andB (andB (orB (!(splOk b)) (decide (n ≥ 1))) (meets b q p)) true
  let n1 := up (boxHas (q0 b) q) 0
  let n2 := up (boxHas (q1 b) q) n1
  let n3 := up (boxHas (q2 b) q) n2
  let n4 := up (boxHas (q3 b) q) n3
  bif splOk b then bif badQ b (q0 b) ⟨(q0 b).x0, (q0 b).y0⟩ ⟨b.x0, b.y0⟩ then false else
  bif splOk b then bif badQ b (q1 b) ⟨(q1 b).x1, (q1 b).y0⟩ ⟨b.x1, b.y0⟩ then false else
  bif splOk b then bif badQ b (q2 b) ⟨(q2 b).x0, (q2 b).y1⟩ ⟨b.x0, b.y1⟩ then false else
  bif splOk b then bif badQ b (q3 b) ⟨(q3 b).x1, (q3 b).y1⟩ ⟨b.x1, b.y1⟩ then false else fin n4 else fin n3 else fin n2 else fin n1 else fin 0
theorem boxHolds_true (b0 : B4) (x y : Int) (p0 : P2) : boxHolds b0 x y p0 = true := by
  have hb := lBox_fits b0
  have hB := lBox_R b0
  have hP := lPt_R p0
  have hq := (lIn_has x y hB hb.x hb.y).1
  unfold boxHolds
  dsimp only
  generalize lBox b0 = b at *
  generalize lPt p0 = p at *
  generalize lIn b x y = q at *
  have hQ : PR q := by
    obtain ⟨⟨a1, a2⟩, ⟨a3, a4⟩, ⟨a5, a6⟩, a7, a8⟩ := hB
    obtain ⟨h1, h2, h3, h4⟩ := hq
    exact ⟨⟨by omega, by omega⟩, ⟨by omega, by omega⟩⟩
  have e0 : orB (orB (orB (!(boxHas b q)) (decide (near b p > rDist p q))) (decide (most b p < rDist p q))) (!((near b p == 0) == boxHas b p)) = false := by
    rw [(boxHas_eq b q).2 hq, (near_eq hB hP).1, (most_eq hB hP).1, (rDist_eq2 hP hQ).1]
    have a := near_le (p := p) hq; have c := most_ge (p := p) hq
    rw [decide_eq_false (show ¬ nearI b p > distI p q by omega), decide_eq_false (show ¬ mostI b p < distI p q by omega)]
    have z := near_zero b p hb.x hb.y
    have : (nearI b p == 0) = boxHas b p := by
      rw [Bool.eq_iff_iff, boxHas_eq, beq_iff_eq]; exact z
    rw [this]; simp [orB_eq]
  rw [e0, bif_f, meets_eq hB hQ hP hb.x hb.y, meetsI_in p hq]
  cases hs : splOk b
  · rfl
  · obtain ⟨k, l1, l2, l3, l4⟩ := spl_of hb hs
    obtain ⟨a1, a2, a3, a4, a5, a6⟩ := hb
    obtain ⟨h1, h2, h3, h4⟩ := hq
    unfold q0 q1 q2 q3
    simp only [k]
    rw [badQ_no (b := b) (s := ⟨b.x0, b.y0, midX b, midY b⟩) (c := ⟨b.x0, b.y0⟩) ⟨a1, by dsimp only; omega, by dsimp only; omega, a4, by dsimp only; omega, by dsimp only; omega⟩ (by simp) (by dsimp only; omega) (by simp) (by dsimp only; omega) ⟨by simp, by dsimp only; omega, by simp, by dsimp only; omega⟩,
      badQ_no (b := b) (s := ⟨midX b, b.y0, b.x1, midY b⟩) (c := ⟨b.x1, b.y0⟩) ⟨by dsimp only; omega, by dsimp only; omega, by dsimp only; omega, a4, by dsimp only; omega, by dsimp only; omega⟩ (by dsimp only; omega) (by simp) (by simp) (by dsimp only; omega) ⟨by dsimp only; omega, by simp, by simp, by dsimp only; omega⟩,
      badQ_no (b := b) (s := ⟨b.x0, midY b, midX b, b.y1⟩) (c := ⟨b.x0, b.y1⟩) ⟨a1, by dsimp only; omega, by dsimp only; omega, by dsimp only; omega, by dsimp only; omega, by dsimp only; omega⟩ (by simp) (by dsimp only; omega) (by dsimp only; omega) (by simp) ⟨by simp, by dsimp only; omega, by dsimp only; omega, by simp⟩,
      badQ_no (b := b) (s := ⟨midX b, midY b, b.x1, b.y1⟩) (c := ⟨b.x1, b.y1⟩) ⟨by dsimp only; omega, by dsimp only; omega, by dsimp only; omega, by dsimp only; omega, by dsimp only; omega, by dsimp only; omega⟩ (by dsimp only; omega) (by simp) (by dsimp only; omega) (by simp) ⟨by dsimp only; omega, by simp, by dsimp only; omega, by simp⟩]
    have u : ∀ (c : Bool) (n : Int), 0 ≤ n → n ≤ 10 → n ≤ up c n ∧ up c n ≤ n + 1 ∧ (c = true → up c n = n + 1) := fun c n a d => by
      rw [up_sum c (by omega) (by omega)]; cases c <;> simp <;> omega
    have u1 := u (boxHas ⟨b.x0, b.y0, midX b, midY b⟩ q) 0 (by omega) (by omega)
    have u2 := u (boxHas ⟨midX b, b.y0, b.x1, midY b⟩ q) _ u1.1 (by omega)
    have u3 := u (boxHas ⟨b.x0, midY b, midX b, b.y1⟩ q) _ (Int.le_trans u1.1 u2.1) (by omega)
    have u4 := u (boxHas ⟨midX b, midY b, b.x1, b.y1⟩ q) _ (Int.le_trans (Int.le_trans u1.1 u2.1) u3.1) (by omega)
    have n : up (boxHas ⟨midX b, midY b, b.x1, b.y1⟩ q) (up (boxHas ⟨b.x0, midY b, midX b, b.y1⟩ q) (up (boxHas ⟨midX b, b.y0, b.x1, midY b⟩ q) (up (boxHas ⟨b.x0, b.y0, midX b, midY b⟩ q) 0))) ≥ 1 := by
      by_cases kx : q.x ≤ midX b
      · by_cases ky : q.y ≤ midY b
        · have := u1.2.2 ((boxHas_eq _ _).2 ⟨h1, kx, h3, ky⟩); omega
        · have := u3.2.2 ((boxHas_eq _ _).2 ⟨h1, kx, by dsimp only; omega, h4⟩); omega
      · by_cases ky : q.y ≤ midY b
        · have := u2.2.2 ((boxHas_eq _ _).2 ⟨by dsimp only; omega, h2, h3, ky⟩); omega
        · have := u4.2.2 ((boxHas_eq _ _).2 ⟨by dsimp only; omega, h2, by dsimp only; omega, h4⟩); omega
    simp only [bif_t, bif_f]
    rw [decide_eq_true n]; rfl
theorem boxHolds_ok (b : B4) (x y : Int) (p : P2) : CallOk Try.prog 8 [bx b, vi x, vi y, pt p] (vb true) := by
  rw [← boxHolds_true b x y p]
  exact fnOkS (fuel := 16) (tbOf_ok tbA4_ok) mo Try.func8 (by kernel_rfl) (by kernel_rfl) (by kernel_rfl) (show _ = [U (W (W ((lBox b).x1 - (lBox b).x0) + 1)) ≠ 0, U (W (W ((lBox b).y1 - (lBox b).y0) + 1)) ≠ 0] by kernel_rfl) ⟨(lIn_has x y (lBox_R b) (lBox_fits b).x (lBox_fits b).y).2.1, (lIn_has x y (lBox_R b) (lBox_fits b).x (lBox_fits b).y).2.2, trivial⟩
end Go.Proofs.Ytgdjfclpncpnpaa
