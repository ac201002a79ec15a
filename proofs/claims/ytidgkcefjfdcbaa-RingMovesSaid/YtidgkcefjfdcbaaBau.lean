/-
  OWN WORK. The law BarStraight.
-/
import Derived.Test.YtidgkcefjfdcbaaBat
namespace Go.Proofs.Ytidgkcefjfdcbaa
open Go Go.RowKit Sym

/-- a map of the plane that keeps the products, and takes corners to corners, keeps a bar's class -/
theorem barCl_map {b b' : B4} {a c a' c' : P2} {h : Int} (φ : P2 → P2) (h1 : ∀ q, crossI a' c' (φ q) = crossI a c q) (h2 : ∀ q, dotI a' c' (φ q) = dotI a c q) (h3 : distI a' c' = distI a c) (h4 : ∀ f : P2 → Bool, all4 f b' = all4 (fun q => f (φ q)) b) : barCl b' a' c' h = barCl b a c h := by
  have e : same a' c' ↔ same a c := by rw [← dist_pos, ← dist_pos, h3]
  have hcl : ∀ q, clear (φ q) a' c' h = clear q a c h := fun q => by unfold clear; rw [h1, h3]
  have hb : ∀ q, barI (φ q) a' c' h = barI q a c h := fun q => by
    unfold barI; rw [hcl, h2, h3, decide_eq_decide.2 e]
  unfold barCl
  rw [h4, h4, h4, h4, h4]
  simp only [hb, h2, h3, e]
  have e1 : (fun q => rightI a' c' h (φ q)) = rightI a c h := by funext q; unfold rightI; rw [hcl, h1]
  have e2 : (fun q => leftI a' c' h (φ q)) = leftI a c h := by funext q; unfold leftI; rw [hcl, h1]
  rw [e1, e2]
theorem barCl_mv (b : B4) (a c d : P2) (h : Int) : barCl ⟨b.x0 + d.x, b.y0 + d.y, b.x1 + d.x, b.y1 + d.y⟩ ⟨a.x + d.x, a.y + d.y⟩ ⟨c.x + d.x, c.y + d.y⟩ h = barCl b a c h := by
  refine barCl_map (fun q => ⟨q.x + d.x, q.y + d.y⟩) ?_ ?_ ?_ ?_
  · intro q; unfold crossI; dsimp only; grind
  · intro q; unfold dotI; dsimp only; grind
  · unfold distI; dsimp only; grind
  · intro f; rfl
theorem barCl_tu (b : B4) (a c : P2) (h : Int) : barCl ⟨-b.y1, b.x0, -b.y0, b.x1⟩ ⟨-a.y, a.x⟩ ⟨-c.y, c.x⟩ h = barCl b a c h := by
  refine barCl_map (fun q => ⟨-q.y, q.x⟩) ?_ ?_ ?_ ?_
  · intro q; unfold crossI; dsimp only; grind
  · intro q; unfold dotI; dsimp only; grind
  · unfold distI; dsimp only; grind
  · intro f; unfold all4; dsimp only
    generalize f ⟨-b.y1, b.x0⟩ = p; generalize f ⟨-b.y0, b.x0⟩ = q; generalize f ⟨-b.y1, b.x1⟩ = r; generalize f ⟨-b.y0, b.x1⟩ = s
    cases p <;> cases q <;> cases r <;> cases s <;> rfl
/-- a bar along the axis -/
def axis (b : B4) (l h : Int) : Int := if 0 ≤ b.x0 ∧ b.x1 ≤ l ∧ -h ≤ b.y0 ∧ b.y1 ≤ h then 2 else if b.y1 < -h ∨ b.y0 > h ∨ b.x1 < 0 ∨ b.x0 > l then 0 else 1
theorem barCl_axis {b : B4} {l h : Int} (hx : b.x0 ≤ b.x1) (hy : b.y0 ≤ b.y1) (hl : 1 ≤ l) (hh : 1 ≤ h) : barCl b ⟨0, 0⟩ ⟨l, 0⟩ h = axis b l h := by
  have hll : 0 < l * l := Int.mul_pos (by omega) (by omega)
  have hc : ∀ q, clear q ⟨0, 0⟩ ⟨l, 0⟩ h = decide (-h ≤ q.y ∧ q.y ≤ h) := fun q => by
    unfold clear crossI distI; dsimp only
    refine decide_eq_decide.2 ?_
    have e1 : ((l - 0) * (q.y - 0) - (0 - 0) * (q.x - 0)) * ((l - 0) * (q.y - 0) - (0 - 0) * (q.x - 0)) = (l * l) * (q.y * q.y) := by grind
    have e2 : h * h * ((0 - l) * (0 - l) + (0 - 0) * (0 - 0)) = (l * l) * (h * h) := by grind
    rw [e1, e2, Int.mul_le_mul_left hll]
    constructor
    · intro k
      rcases Int.lt_or_le h q.y with g | g
      · have := sq_lt (x := h) (y := q.y) (by omega) g; omega
      · refine ⟨?_, g⟩
        rcases Int.lt_or_le q.y (-h) with g' | g'
        · have := sq_lt (x := h) (y := -q.y) (by omega) (by omega)
          have e : -q.y * -q.y = q.y * q.y := by grind
          omega
        · exact g'
    · exact fun k => sq_le k.1 k.2
  have hd : ∀ q, dotI ⟨0, 0⟩ ⟨l, 0⟩ q = l * q.x := fun q => by unfold dotI; dsimp only; grind
  have hk : ∀ q, crossI ⟨0, 0⟩ ⟨l, 0⟩ q = l * q.y := fun q => by unfold crossI; dsimp only; grind
  have hL : distI ⟨0, 0⟩ ⟨l, 0⟩ = l * l := by unfold distI; dsimp only; grind
  have n0 : ∀ x : Int, (0 ≤ l * x ↔ 0 ≤ x) := fun x => by
    have := Int.mul_le_mul_left (a := l) (b := 0) (c := x) (by omega)
    rwa [Int.mul_zero] at this
  have n1 : ∀ x : Int, (l * x ≤ l * l ↔ x ≤ l) := fun x => Int.mul_le_mul_left (by omega)
  have s : ¬ same ⟨0, 0⟩ ⟨l, 0⟩ := by unfold same; dsimp only; omega
  have b1 : all4 (fun q => barI q ⟨0, 0⟩ ⟨l, 0⟩ h) b = decide (0 ≤ b.x0 ∧ b.x1 ≤ l ∧ -h ≤ b.y0 ∧ b.y1 ≤ h) := by
    unfold all4 barI
    simp only [hc, hd, hL]
    rw [Bool.eq_iff_iff]
    simp only [Bool.and_eq_true, decide_eq_true_eq, Bool.not_eq_true', decide_eq_false_iff_not, n0, n1, s, hh, not_false_eq_true, true_and]
    omega
  have b2 : all4 (rightI ⟨0, 0⟩ ⟨l, 0⟩ h) b = decide (b.y1 < -h) := by
    unfold all4 rightI
    simp only [hc, hk]
    rw [Bool.eq_iff_iff]
    have := fun x => n0 (-x)
    have e : ∀ x, (¬ l * x > 0 ↔ x ≤ 0) := fun x => by
      have := n0 (-x); rw [Int.mul_neg] at this; omega
    simp only [Bool.and_eq_true, decide_eq_true_eq, Bool.not_eq_true', decide_eq_false_iff_not, e]
    omega
  have b3 : all4 (leftI ⟨0, 0⟩ ⟨l, 0⟩ h) b = decide (b.y0 > h) := by
    unfold all4 leftI
    simp only [hc, hk]
    rw [Bool.eq_iff_iff]
    have e : ∀ x, (l * x > 0 ↔ x > 0) := fun x => by
      have := n0 (-x); rw [Int.mul_neg] at this; omega
    simp only [Bool.and_eq_true, decide_eq_true_eq, Bool.not_eq_true', decide_eq_false_iff_not, e]
    omega
  have b4 : all4 (fun q => decide (dotI ⟨0, 0⟩ ⟨l, 0⟩ q < 0)) b = decide (b.x1 < 0) := by
    unfold all4
    simp only [hd]
    rw [Bool.eq_iff_iff]
    have e : ∀ x, (l * x < 0 ↔ x < 0) := fun x => by have := n0 x; omega
    simp only [Bool.and_eq_true, decide_eq_true_eq, e]
    omega
  have b5 : all4 (fun q => decide (dotI ⟨0, 0⟩ ⟨l, 0⟩ q > distI ⟨0, 0⟩ ⟨l, 0⟩)) b = decide (b.x0 > l) := by
    unfold all4
    simp only [hd, hL]
    rw [Bool.eq_iff_iff]
    have e : ∀ x, (l * x > l * l ↔ x > l) := fun x => by have := n1 x; omega
    simp only [Bool.and_eq_true, decide_eq_true_eq, e]
    omega
  unfold barCl axis
  rw [if_neg (by rintro (x | x); omega; exact s x), b1, b2, b3, b4, b5]
  simp only [decide_eq_true_eq, Bool.or_eq_true, or_assoc]
def lMod (x n : Int) : Int := W ((U x).tmod n)
theorem lMod_bd (x : Int) {n : Int} (h : 0 < n) (h2 : n ≤ 1000000000) : 0 ≤ lMod x n ∧ lMod x n < n := by
  have h0 : 0 ≤ U x := by rw [U_eq]; omega
  have a := Int.tmod_nonneg (a := U x) n h0
  have b := (tmod_bd (U x) h).2
  unfold lMod; rw [W_id (by omega) (by omega)]; omega
def barStraight (long0 h0 : Int) (b0 : B4) (by0 : P2) : Bool :=
  let long := W (lMod long0 40 + 1)
  let h := lSmR (lR h0) 12
  let b := lSmall b0
  let by_ := lClose by0 100000000
  let is : B4 := ⟨0, W (0 - h), long, h⟩
  let k := barClass b ⟨0, 0⟩ ⟨long, 0⟩ h
  let want : Int := bif andB (andB (andB (decide (b.x0 ≥ is.x0)) (decide (b.x1 ≤ is.x1))) (decide (b.y0 ≥ is.y0))) (decide (b.y1 ≤ is.y1)) then 2 else bif rApart b is then 0 else 1
  andB (andB (andB (k == want) (barClass (tuB b) ⟨0, 0⟩ ⟨0, long⟩ h == k)) (barClass (mvB b by_) by_ ⟨W (by_.x + long), by_.y⟩ h == k)) true
theorem barStraight_true (long h : Int) (b : B4) (by_ : P2) : barStraight long h b by_ = true := by
  have hb := lSmall_s b
  have hd := lClose_r by_ (n := 100000000) (by decide) (by decide)
  have hr := lR_bd h
  have hh := lSmR_bd (r := lR h) (m := 12) (by omega) (by decide) (by decide)
  have hl := lMod_bd long (n := 40) (by decide) (by decide)
  unfold barStraight
  dsimp only
  rw [W_id (x := lMod long 40 + 1) (by omega) (by omega), W_id (x := 0 - lSmR (lR h) 12) (by omega) (by omega)]
  have hL : 1 ≤ lMod long 40 + 1 ∧ lMod long 40 + 1 ≤ 40 := by omega
  generalize lMod long 40 + 1 = L at *
  clear hl
  generalize lSmR (lR h) 12 = H at *
  generalize lClose by_ 100000000 = D at *
  generalize lSmall b = B at *
  have e1 : mvB B D = ⟨B.x0 + D.x, B.y0 + D.y, B.x1 + D.x, B.y1 + D.y⟩ := by
    unfold mvB; rw [W_id (by omega) (by omega), W_id (by omega) (by omega), W_id (by omega) (by omega), W_id (by omega) (by omega)]
  have e2 : tuB B = ⟨-B.y1, B.x0, -B.y0, B.x1⟩ := by
    unfold tuB; rw [W_id (by omega) (by omega), W_id (by omega) (by omega)]; simp
  rw [e1, e2, W_id (x := D.x + L) (by omega) (by omega)]
  have hB := lSmall_R' hb
  have z : PR ⟨0, 0⟩ := ⟨⟨by decide, by decide⟩, ⟨by decide, by decide⟩⟩
  have zl : PR ⟨L, 0⟩ := ⟨⟨by dsimp only; omega, by dsimp only; omega⟩, ⟨by dsimp only; omega, by dsimp only; omega⟩⟩
  have lz : PR ⟨0, L⟩ := ⟨⟨by dsimp only; omega, by dsimp only; omega⟩, ⟨by dsimp only; omega, by dsimp only; omega⟩⟩
  rw [barClass_eq hB z zl hb.2.1 hb.2.2.2.2.1 (by omega),
    barClass_eq (b := ⟨-B.y1, B.x0, -B.y0, B.x1⟩) ⟨⟨by dsimp only; omega, by dsimp only; omega⟩, ⟨by dsimp only; omega, by dsimp only; omega⟩, ⟨by dsimp only; omega, by dsimp only; omega⟩, ⟨by dsimp only; omega, by dsimp only; omega⟩⟩ z lz (by dsimp only; omega) (by dsimp only; omega) (by omega),
    barClass_eq (b := ⟨B.x0 + D.x, B.y0 + D.y, B.x1 + D.x, B.y1 + D.y⟩) (a := D) (c := ⟨D.x + L, D.y⟩) ⟨⟨by dsimp only; omega, by dsimp only; omega⟩, ⟨by dsimp only; omega, by dsimp only; omega⟩, ⟨by dsimp only; omega, by dsimp only; omega⟩, ⟨by dsimp only; omega, by dsimp only; omega⟩⟩ ⟨⟨by omega, by omega⟩, ⟨by omega, by omega⟩⟩ ⟨⟨by dsimp only; omega, by dsimp only; omega⟩, ⟨by dsimp only; omega, by dsimp only; omega⟩⟩ (by dsimp only; omega) (by dsimp only; omega) (by omega)]
  have t := barCl_tu B ⟨0, 0⟩ ⟨L, 0⟩ H
  have m := barCl_mv B ⟨0, 0⟩ ⟨L, 0⟩ D H
  have x1 : (⟨0 + D.x, 0 + D.y⟩ : P2) = D := by simp
  have x2 : (⟨L + D.x, 0 + D.y⟩ : P2) = ⟨D.x + L, D.y⟩ := by simp [Int.add_comm]
  have x3 : (⟨-0, 0⟩ : P2) = ⟨0, 0⟩ := by simp
  have x4 : (⟨-0, L⟩ : P2) = ⟨0, L⟩ := by simp
  dsimp only at t m
  rw [x1, x2] at m
  rw [x3, x4] at t
  rw [t, m, barCl_axis hb.2.1 hb.2.2.2.2.1 hL.1 hh.1]
  unfold axis rApart
  simp only [andB_eq, orB_eq, beq_self_eq_true, Bool.and_true, beq_iff_eq]
  by_cases k1 : 0 ≤ B.x0 ∧ B.x1 ≤ L ∧ -H ≤ B.y0 ∧ B.y1 ≤ H
  · have : (decide (B.x0 ≥ 0) && decide (B.x1 ≤ L) && decide (B.y0 ≥ 0 - H) && decide (B.y1 ≤ H)) = true := by
      simp only [Bool.and_eq_true, decide_eq_true_eq]; omega
    rw [if_pos k1, this]; rfl
  · have : (decide (B.x0 ≥ 0) && decide (B.x1 ≤ L) && decide (B.y0 ≥ 0 - H) && decide (B.y1 ≤ H)) = false := by
      rw [Bool.eq_false_iff]; intro k; apply k1
      simp only [Bool.and_eq_true, decide_eq_true_eq] at k; omega
    rw [if_neg k1, this, bif_f]
    by_cases k2 : B.y1 < -H ∨ B.y0 > H ∨ B.x1 < 0 ∨ B.x0 > L
    · have : (decide (B.x1 < 0) || decide (L < B.x0) || decide (B.y1 < 0 - H) || decide (H < B.y0)) = true := by
        simp only [Bool.or_eq_true, decide_eq_true_eq]; omega
      rw [if_pos k2, this]; rfl
    · have : (decide (B.x1 < 0) || decide (L < B.x0) || decide (B.y1 < 0 - H) || decide (H < B.y0)) = false := by
        rw [Bool.eq_false_iff]; intro k; apply k2
        simp only [Bool.or_eq_true, decide_eq_true_eq] at k; omega
      rw [if_neg k2, this]; rfl
theorem barStraight_ok (long h : Int) (b : B4) (by_ : P2) : CallOk Try.prog 4 [vi long, vi h, bx b, pt by_] (vb true) := by
  rw [← barStraight_true long h b by_]
  exact fnOkS (fuel := 16) (tbOf_ok tbA8_ok) mo Try.func4 (by kernel_rfl) (by kernel_rfl) (by kernel_rfl) (show _ = [W (100000000 + 1) ≠ 0] by kernel_rfl) ⟨nBig, trivial⟩
end Go.Proofs.Ytidgkcefjfdcbaa
