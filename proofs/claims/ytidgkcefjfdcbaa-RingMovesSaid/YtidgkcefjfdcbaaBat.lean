/-
  OWN WORK. The laws BarSure, BarLine and BarStraight.
-/
import Derived.Test.YtidgkcefjfdcbaaLin
import Derived.Test.YtidgkcefjfdcbaaBas
import Derived.Test.YtidgkcefjfdcbaaDisd
namespace Go.Proofs.Ytidgkcefjfdcbaa
open Go Go.RowKit Sym

def barSure0 (b : B4) (a c : P2) (h x y : Int) : Bool :=
  let k := barClass b a c h
  let i := barHas (lIn b x y) a c h
  let n := cnt4 (fun q => barHas q a c h) b
  andB (andB (andB (andB (andB ((k == 2) == (n == 4)) (orB (k != 2) i)) (orB (k != 0) (andB (!i) (n == 0)))) (decide (k ≥ 0))) (decide (k ≤ 2))) true
def barSure (b : B4) (a c : P2) (h x y : Int) (small : Bool) : Bool :=
  bif small then barSure0 (lSmall (lBox b)) (lClose (lPt a) 20) (lClose (lPt c) 20) (lSmR (lR h) 12) x y else barSure0 (lBox b) (lPt a) (lPt c) (lR h) x y
theorem PR_has {b : B4} {p : P2} (hb : BR b) (h : hasI b p) : PR p := by
  obtain ⟨⟨a1, a2⟩, ⟨a3, a4⟩, ⟨a5, a6⟩, a7, a8⟩ := hb
  obtain ⟨h1, h2, h3, h4⟩ := h
  exact ⟨⟨by omega, by omega⟩, ⟨by omega, by omega⟩⟩
theorem barI_iff {p a c : P2} {h : Int} : barI p a c h = true ↔ ¬ same a c ∧ 1 ≤ h ∧ clear p a c h = true ∧ 0 ≤ dotI a c p ∧ dotI a c p ≤ distI a c := by
  unfold barI
  simp only [Bool.and_eq_true, decide_eq_true_eq, Bool.not_eq_true', decide_eq_false_iff_not, and_assoc]
theorem bar_in {b : B4} {q a c : P2} {h : Int} (hq : hasI b q) (hk : all4 (fun q => barI q a c h) b = true) : barI q a c h = true := by
  rw [all4_iff] at hk
  simp only [barI_iff] at hk ⊢
  obtain ⟨k0, hc0, -⟩ := dot_le a c hq
  have h0 := hk k0 hc0
  refine ⟨h0.1, h0.2.1, clear_in hq fun k hc => (hk k hc).2.2.1, ?_, ?_⟩
  · obtain ⟨k, hc, hl⟩ := dot_le a c hq
    have := (hk k hc).2.2.2.1; omega
  · obtain ⟨k, hc, hl⟩ := dot_ge a c hq
    have := (hk k hc).2.2.2.2; omega
theorem bar_out {b : B4} {q a c : P2} {h : Int} (hq : hasI b q) (hk : barCl b a c h = 0) : barI q a c h = false := by
  cases hi : barI q a c h
  · rfl
  · exfalso
    rw [barI_iff] at hi
    obtain ⟨s, h1, cl, d0, d1⟩ := hi
    unfold barCl at hk
    rw [if_neg (by rintro (x | x); omega; exact s x)] at hk
    cases k2 : all4 (fun q => barI q a c h) b
    · rw [k2] at hk
      simp only [Bool.false_eq_true, if_false] at hk
      have k3 : (all4 (rightI a c h) b || all4 (leftI a c h) b || all4 (fun q => decide (dotI a c q < 0)) b || all4 (fun q => decide (dotI a c q > distI a c)) b) = true := by
        cases e : (all4 (rightI a c h) b || all4 (leftI a c h) b || all4 (fun q => decide (dotI a c q < 0)) b || all4 (fun q => decide (dotI a c q > distI a c)) b)
        · rw [e] at hk; cases hk
        · rfl
      simp only [Bool.or_eq_true, all4_iff] at k3
      unfold clear at cl
      rw [decide_eq_true_eq] at cl
      rcases k3 with ((k3 | k3) | k3) | k3
      · obtain ⟨k, hc, hl⟩ := cross_ge a c hq
        have e := k3 k hc
        unfold rightI clear at e
        simp only [Bool.and_eq_true, Bool.not_eq_true', decide_eq_false_iff_not] at e
        have t := sq_le (x := -crossI a c k) (y := -crossI a c q) (by omega) (by omega)
        have e1 : -crossI a c k * -crossI a c k = crossI a c k * crossI a c k := by grind
        have e2 : -crossI a c q * -crossI a c q = crossI a c q * crossI a c q := by grind
        omega
      · obtain ⟨k, hc, hl⟩ := cross_le a c hq
        have e := k3 k hc
        unfold leftI clear at e
        simp only [Bool.and_eq_true, Bool.not_eq_true', decide_eq_false_iff_not, decide_eq_true_eq] at e
        have t := sq_le (x := crossI a c k) (y := crossI a c q) (by omega) (by omega)
        omega
      · obtain ⟨k, hc, hl⟩ := dot_ge a c hq
        have e := k3 k hc
        simp only [decide_eq_true_eq] at e; omega
      · obtain ⟨k, hc, hl⟩ := dot_le a c hq
        have e := k3 k hc
        simp only [decide_eq_true_eq] at e; omega
    · rw [k2] at hk; simp at hk
theorem barCl_012 (b : B4) (a c : P2) (h : Int) : barCl b a c h = 0 ∨ barCl b a c h = 1 ∨ barCl b a c h = 2 := by
  unfold barCl
  by_cases k : h < 1 ∨ same a c
  · rw [if_pos k]; simp
  · rw [if_neg k]; split
    · simp
    · split <;> simp
theorem barSure0_true {b : B4} {a c : P2} {h : Int} (x y : Int) (hb : BR b) (ha : PR a) (hc : PR c) (hx : b.x0 ≤ b.x1) (hy : b.y0 ≤ b.y1) (h1 : 1 ≤ h) (h2 : h ≤ 2147483648) : barSure0 b a c h x y = true := by
  have hq := (lIn_has x y hb hx hy).1
  have hQ := PR_has hb hq
  unfold barSure0
  dsimp only
  have e1 : all4 (fun q => barHas q a c h) b = all4 (fun q => barI q a c h) b := all4_congr hb fun q hq => barHas_eq hq ha hc h2
  have e2 : any4 (fun q => barHas q a c h) b = any4 (fun q => barI q a c h) b := any4_congr hb fun q hq => barHas_eq hq ha hc h2
  rw [barClass_eq hb ha hc hx hy h2, barHas_eq hQ ha hc h2, cnt4_all, cnt4_none, e1, e2]
  have f1 : (barCl b a c h == 2) = all4 (fun q => barI q a c h) b := by
    rw [Bool.eq_iff_iff, beq_iff_eq, barCl_two]
    constructor
    · exact fun k => k.2
    · intro k
      refine ⟨?_, k⟩
      have := bar_in hq k
      rw [barI_iff] at this
      rintro (z | z)
      · omega
      · exact this.1 z
  have f2 : barCl b a c h = 2 → barI (lIn b x y) a c h = true := fun k => bar_in hq (barCl_two.1 k).2
  have f3 : barCl b a c h = 0 → barI (lIn b x y) a c h = false ∧ any4 (fun q => barI q a c h) b = false := fun k => by
    refine ⟨bar_out hq k, ?_⟩
    cases e : any4 (fun q => barI q a c h) b
    · rfl
    · obtain ⟨q, hqc, hqi⟩ := any4_iff.1 e
      rw [bar_out (isC_has hx hy hqc) k] at hqi; cases hqi
  rw [f1]
  simp only [beq_self_eq_true, andB_eq, orB_eq, Bool.true_and, Bool.and_true]
  rcases barCl_012 b a c h with k | k | k
  · rw [k, (f3 k).1, (f3 k).2]; rfl
  · rw [k]; rfl
  · rw [k, f2 k]; rfl
theorem barSure_true (b : B4) (a c : P2) (h x y : Int) (small : Bool) : barSure b a c h x y small = true := by
  have r := lR_bd h
  unfold barSure
  cases small
  · have hs := lBox_r b
    exact barSure0_true _ _ (lBox_R b) (lPt_R a) (lPt_R c) hs.2.1 hs.2.2.2.2.1 (by omega) (by omega)
  · have hs := lSmall_r (lBox b)
    have e := lSmR_bd (r := lR h) (m := 12) (by omega) (by decide) (by decide)
    exact barSure0_true _ _ (lSmall_R _) (close_R _ (by decide) (by decide)) (close_R _ (by decide) (by decide)) hs.2.2.1 hs.2.2.2.2.2.2.1 (by omega) (by omega)
theorem barSure_ok (b : B4) (a c : P2) (h x y : Int) (small : Bool) : CallOk Try.prog 3 [bx b, pt a, pt c, vi h, vi x, vi y, vb small] (vb true) := by
  rw [← barSure_true b a c h x y small]
  exact fnOkS (fuel := 16) (tbOf_ok tbA8_ok) mo Try.func3 (by kernel_rfl) (by kernel_rfl) (by kernel_rfl) (show _ = [small = true → W (20 + 1) ≠ 0, small = true → W (20 + 1) ≠ 0, small = true → lInOk (lSmall (lBox b)), small = false → lInOk (lBox b)] by kernel_rfl) ⟨fun _ => n21, fun _ => n21, fun _ => lSmall_In _, fun _ => lBox_In _, trivial⟩

/-! ### BarLine -/
def barLine (a0 c0 : P2) (h0 : Int) (p0 : P2) : Bool :=
  let a := lClose a0 20
  let c := lClose c0 20
  let p := lClose p0 40
  let h := lSmR (lR h0) 12
  let d := rDot a c p
  let long := rDist c a
  let i := barHas p a c h
  andB (andB (i == andB (andB (andB (!(ptEq a c)) (decide (d ≥ 0))) (decide (d ≤ long))) (lineHas p a c h)) (barHas p c a h == i)) true
theorem lineI_bar {p a c : P2} {h : Int} (hs : ¬ same a c) (d0 : 0 ≤ dotI a c p) (d1 : dotI a c p ≤ distI a c) : lineI p a c h = clear p a c h := by
  have n := dist_nn a c
  have nz : distI a c ≠ 0 := fun x => hs ((dist_pos a c).1 x)
  have l1 := lagrange a c p; have l2 := lagrange2 a c p
  unfold lineI clear
  have mono : ∀ u v : Int, (distI a c * u ≤ v * distI a c) ↔ u ≤ v := fun u v => by
    rw [Int.mul_comm v]
    exact Int.mul_le_mul_left (by omega)
  by_cases k : dotI a c p ≤ 0
  · rw [if_pos k]
    have : dotI a c p = 0 := by omega
    rw [this] at l1
    refine decide_eq_decide.2 ?_
    rw [← mono, l1]; simp
  · rw [if_neg k]
    by_cases k' : dotI a c p ≥ distI a c
    · rw [if_pos k']
      have : dotI a c p - distI a c = 0 := by omega
      rw [this] at l2
      refine decide_eq_decide.2 ?_
      rw [← mono, l2]; simp
    · rw [if_neg k']
theorem flips (a c p : P2) : crossI c a p = -crossI a c p ∧ dotI c a p = distI a c - dotI a c p ∧ distI c a = distI a c := by
  unfold crossI dotI distI; refine ⟨?_, ?_, ?_⟩ <;> grind
theorem clear_flip (p a c : P2) (h : Int) : clear p c a h = clear p a c h := by
  obtain ⟨e1, e2, e3⟩ := flips a c p
  unfold clear
  rw [e1, e3]
  have : -crossI a c p * -crossI a c p = crossI a c p * crossI a c p := by grind
  rw [this]
theorem barI_flip (p a c : P2) (h : Int) : barI p c a h = barI p a c h := by
  obtain ⟨e1, e2, e3⟩ := flips a c p
  have e : decide (same c a) = decide (same a c) := decide_eq_decide.2 (by unfold same; omega)
  unfold barI
  rw [clear_flip, e2, e3, e]
  have f1 : decide (0 ≤ distI a c - dotI a c p) = decide (dotI a c p ≤ distI a c) := decide_eq_decide.2 (by omega)
  have f2 : decide (distI a c - dotI a c p ≤ distI a c) = decide (0 ≤ dotI a c p) := decide_eq_decide.2 (by omega)
  rw [f1, f2]
  cases decide (0 ≤ dotI a c p) <;> cases decide (dotI a c p ≤ distI a c) <;> simp
theorem barLine_true (a c : P2) (h : Int) (p : P2) : barLine a c h p = true := by
  have hr := lR_bd h
  have hh := lSmR_bd (r := lR h) (m := 12) (by omega) (by decide) (by decide)
  have hA : PR (lClose a 20) := close_R _ (by decide) (by decide)
  have hC : PR (lClose c 20) := close_R _ (by decide) (by decide)
  have hP : PR (lClose p 40) := close_R _ (by decide) (by decide)
  unfold barLine
  dsimp only
  generalize lClose a 20 = A at *
  generalize lClose c 20 = C at *
  generalize lClose p 40 = Q at *
  generalize lSmR (lR h) 12 = H at *
  rw [barHas_eq hP hA hC (by omega), barHas_eq hP hC hA (by omega), barI_flip Q A C, lineHas_eq hP hA hC (by omega) (by omega), (rDot_eq hA hC hP).1, (rDist_eq2 hC hA).1, (flips A C Q).2.2, ptEq_eq]
  simp only [andB_eq, beq_self_eq_true, Bool.and_true]
  rw [beq_iff_eq, Bool.eq_iff_iff, barI_iff]
  simp only [Bool.and_eq_true, decide_eq_true_eq, Bool.not_eq_true', decide_eq_false_iff_not]
  constructor
  · rintro ⟨s, _, k, d0, d1⟩
    exact ⟨⟨⟨s, d0⟩, d1⟩, by rw [lineI_bar s d0 d1]; exact k⟩
  · rintro ⟨⟨⟨s, d0⟩, d1⟩, k⟩
    rw [lineI_bar s d0 d1] at k
    exact ⟨s, by omega, k, d0, d1⟩
theorem barLine_ok (a c : P2) (h : Int) (p : P2) : CallOk Try.prog 9 [pt a, pt c, vi h, pt p] (vb true) := by
  rw [← barLine_true a c h p]
  exact fnOkS (fuel := 16) (tbOf_ok tbA8_ok) mo Try.func9 (by kernel_rfl) (by kernel_rfl) (by kernel_rfl) (show _ = [W (20 + 1) ≠ 0, W (20 + 1) ≠ 0, W (40 + 1) ≠ 0] by kernel_rfl) ⟨n21, n21, n41, trivial⟩
end Go.Proofs.Ytidgkcefjfdcbaa
