/-
  OWN WORK. Bars in plain arithmetic: what is beside, before and behind; counts of corners; BarTells and BarParts.
-/
import Derived.Test.YtgdjfclpncpnpaaWid
import Derived.Test.YtgdjfclpncpnpaaCob
namespace Go.Proofs.Ytgdjfclpncpnpaa
open Go Go.RowKit

def all4 (f : P2 → Bool) (b : B4) : Bool := f ⟨b.x0, b.y0⟩ && f ⟨b.x1, b.y0⟩ && f ⟨b.x0, b.y1⟩ && f ⟨b.x1, b.y1⟩
theorem up_sum (c : Bool) {n : Int} (h1 : -100 ≤ n) (h2 : n ≤ 100) : up c n = n + (if c then 1 else 0) := by
  cases c
  · simp [up]
  · simp only [up, bif_t, if_true]; rw [W_id (by omega) (by omega)]
theorem cnt4_sum (f : P2 → Bool) (b : B4) : cnt4 f b = (if f ⟨b.x0, b.y0⟩ then 1 else 0) + (if f ⟨b.x1, b.y0⟩ then 1 else 0) + (if f ⟨b.x0, b.y1⟩ then 1 else 0) + (if f ⟨b.x1, b.y1⟩ then 1 else 0) := by
  unfold cnt4
  cases f ⟨b.x0, b.y0⟩ <;> cases f ⟨b.x1, b.y0⟩ <;> cases f ⟨b.x0, b.y1⟩ <;> cases f ⟨b.x1, b.y1⟩ <;> decide
theorem cnt4_all (f : P2 → Bool) (b : B4) : (cnt4 f b == 4) = all4 f b := by
  rw [cnt4_sum]; unfold all4
  cases f ⟨b.x0, b.y0⟩ <;> cases f ⟨b.x1, b.y0⟩ <;> cases f ⟨b.x0, b.y1⟩ <;> cases f ⟨b.x1, b.y1⟩ <;> rfl
theorem bumps (i j k l : Int) (hi : i = -1 ∨ i = 0 ∨ i = 1) (hj : j = -1 ∨ j = 0 ∨ j = 1) (hk : k = -1 ∨ k = 0 ∨ k = 1) (hl : l = -1 ∨ l = 0 ∨ l = 1) :
    ((bump3 (W (l + 1)) (bump3 (W (k + 1)) (bump3 (W (j + 1)) (bump3 (W (i + 1)) ⟨0, 0, 0⟩)))).m == 4) = (i == -1 && j == -1 && k == -1 && l == -1)
    ∧ ((bump3 (W (l + 1)) (bump3 (W (k + 1)) (bump3 (W (j + 1)) (bump3 (W (i + 1)) ⟨0, 0, 0⟩)))).p == 4) = (i == 1 && j == 1 && k == 1 && l == 1) := by
  rcases hi with rfl | rfl | rfl <;> rcases hj with rfl | rfl | rfl <;> rcases hk with rfl | rfl | rfl <;> rcases hl with rfl | rfl | rfl <;> decide
theorem cnt3_all (f : P2 → Int) (b : B4) (h : ∀ q, f q = -1 ∨ f q = 0 ∨ f q = 1) : ((cnt3 f b).m == 4) = all4 (fun q => f q == -1) b ∧ ((cnt3 f b).p == 4) = all4 (fun q => f q == 1) b := by
  unfold cnt3 all4
  exact bumps _ _ _ _ (h _) (h _) (h _) (h _)
structure Cs (b : B4) (f g : P2 → Bool) : Prop where
  h : all4 f b = all4 g b
theorem all4_congr {f g : P2 → Bool} {b : B4} (hb : BR b) (h : ∀ q, PR q → f q = g q) : all4 f b = all4 g b := by
  unfold all4
  rw [h _ ⟨hb.x0, hb.y0⟩, h _ ⟨hb.x1, hb.y0⟩, h _ ⟨hb.x0, hb.y1⟩, h _ ⟨hb.x1, hb.y1⟩]
theorem all4_mono {f g : P2 → Bool} {b : B4} (hb : BR b) (h : ∀ q, PR q → f q = true → g q = true) (ha : all4 f b = true) : all4 g b = true := by
  unfold all4 at *
  simp only [Bool.and_eq_true] at *
  exact ⟨⟨⟨h _ ⟨hb.x0, hb.y0⟩ ha.1.1.1, h _ ⟨hb.x1, hb.y0⟩ ha.1.1.2⟩, h _ ⟨hb.x0, hb.y1⟩ ha.1.2⟩, h _ ⟨hb.x1, hb.y1⟩ ha.2⟩

/-! ### bars -/
def same (a c : P2) : Prop := a.x = c.x ∧ a.y = c.y
instance (a c : P2) : Decidable (same a c) := inferInstanceAs (Decidable (_ ∧ _))
theorem ptEq_eq (a c : P2) : ptEq a c = decide (same a c) := by
  unfold ptEq same
  by_cases h : a.x = c.x
  · by_cases k : a.y = c.y
    · simp [h, k]
    · simp [h, k]
  · simp [h]
theorem dist_pos (a c : P2) : distI a c = 0 ↔ same a c := by
  unfold distI same
  constructor
  · intro h
    have h1 := sq_nn (a.x - c.x); have h2 := sq_nn (a.y - c.y)
    have e1 : (a.x - c.x) * (a.x - c.x) = 0 := by omega
    have e2 : (a.y - c.y) * (a.y - c.y) = 0 := by omega
    have := Int.mul_eq_zero.1 e1; have := Int.mul_eq_zero.1 e2
    omega
  · rintro ⟨h, k⟩; rw [h, k]; simp
theorem dist_nn (a c : P2) : 0 ≤ distI a c := by
  unfold distI
  have h1 := sq_nn (a.x - c.x); have h2 := sq_nn (a.y - c.y); omega
theorem beside_eq {p a c : P2} {h : Int} (hp : PR p) (ha : PR a) (hc : PR c) (h1 : 0 ≤ h) (h2 : h ≤ 2147483648) :
    beside p a c h = if clear p a c h = true then 0 else if crossI a c p > 0 then 1 else -1 := by
  unfold beside
  dsimp only
  rw [clear_eq hp ha hc h1 h2, (cross_eq ha hc hp).1]
  cases clear p a c h
  · by_cases k : crossI a c p > 0
    · simp [k]
    · simp [k]
  · simp
theorem past_eq {p a c : P2} (hp : PR p) (ha : PR a) (hc : PR c) : past p a c = if dotI a c p < 0 then -1 else if dotI a c p > distI a c then 1 else 0 := by
  unfold past
  dsimp only
  rw [along_eq hp ha hc, dist2_eq ha hc]
  by_cases k : dotI a c p < 0
  · simp [k]
  · by_cases k' : dotI a c p > distI a c
    · simp [k, k']
    · simp [k, k']
def barI (p a c : P2) (h : Int) : Bool := !(decide (same a c)) && decide (1 ≤ h) && clear p a c h && decide (0 ≤ dotI a c p) && decide (dotI a c p ≤ distI a c)
theorem barHas_eq {p a c : P2} {h : Int} (hp : PR p) (ha : PR a) (hc : PR c) (h2 : h ≤ 2147483648) : barHas p a c h = barI p a c h := by
  unfold barHas barVoid barI
  rw [ptEq_eq]
  by_cases h1 : h < 1
  · have : ¬ 1 ≤ h := by omega
    simp [h1, this, orB_eq, andB_eq]
  · rw [beside_eq hp ha hc (by omega) h2, past_eq hp ha hc]
    have : 1 ≤ h := by omega
    simp only [h1, this, orB_eq, andB_eq, decide_true, decide_false, Bool.or_false, Bool.and_true]
    cases clear p a c h
    · by_cases k : crossI a c p > 0
      · simp [k]
      · simp [k]
    · by_cases k : dotI a c p < 0
      · have : ¬ 0 ≤ dotI a c p := by omega
        simp [k, this]
      · by_cases k' : dotI a c p > distI a c
        · have : ¬ dotI a c p ≤ distI a c := by omega
          simp [k, k', this]
        · have k1 : 0 ≤ dotI a c p := by omega
          have k2 : dotI a c p ≤ distI a c := by omega
          simp [k, k', k1, k2]
theorem rBarHas_eq {p a c : P2} {h : Int} (hp : PR p) (ha : PR a) (hc : PR c) (h2 : h ≤ 2147483648) : rBarHas p a c h = barI p a c h := by
  unfold rBarHas barI

  by_cases h1 : h < 1
  · have : ¬ 1 ≤ h := by omega
    simp [this, andB_eq]
  · rw [rWithin_eq hp ha hc (by omega) h2, (rDist_eq2 ha hc).1, (rDot_eq ha hc hp).1]
    have k : decide (distI a c > 0) = !(decide (same a c)) := by
      have := dist_pos a c; have := dist_nn a c
      by_cases e : same a c
      · have : distI a c = 0 := (dist_pos a c).2 e
        simp [e, this]
      · have : distI a c > 0 := by
          have : distI a c ≠ 0 := fun x => e ((dist_pos a c).1 x)
          omega
        simp [e, this]
    rw [k]
    simp only [andB_eq]
    cases decide (same a c) <;> cases clear p a c h <;> cases decide (0 ≤ dotI a c p) <;> cases decide (dotI a c p ≤ distI a c) <;> simp
def leftI (a c : P2) (h : Int) (q : P2) : Bool := !(clear q a c h) && decide (crossI a c q > 0)
def rightI (a c : P2) (h : Int) (q : P2) : Bool := !(clear q a c h) && !(decide (crossI a c q > 0))
def barCl (b : B4) (a c : P2) (h : Int) : Int :=
  if h < 1 ∨ same a c then 0 else
  if all4 (fun q => barI q a c h) b then 2 else
  if all4 (rightI a c h) b || all4 (leftI a c h) b || all4 (fun q => decide (dotI a c q < 0)) b || all4 (fun q => decide (dotI a c q > distI a c)) b then 0 else 1
theorem barClass_eq {b : B4} {a c : P2} {h : Int} (hb : BR b) (ha : PR a) (hc : PR c) (hx : b.x0 ≤ b.x1) (hy : b.y0 ≤ b.y1) (h2 : h ≤ 2147483648) : barClass b a c h = barCl b a c h := by
  unfold barClass barCl
  have e0 : barVoid a c h = decide (h < 1 ∨ same a c) := by
    unfold barVoid; rw [ptEq_eq, orB_eq]
    by_cases k : h < 1 <;> by_cases k' : same a c <;> simp [k, k']
  rw [e0]
  by_cases k0 : h < 1 ∨ same a c
  · rw [decide_eq_true k0, bif_t, if_pos k0]
  · rw [decide_eq_false k0, bif_f, if_neg k0]
    have h1 : 1 ≤ h := by omega
    have hh : boxHas b ⟨b.x0, b.y0⟩ = true := (boxHas_eq _ _).2 ⟨by simp, hx, by simp, hy⟩
    rw [hh]
    have hv : barVoid a c h = false := by rw [e0, decide_eq_false k0]
    have e1 : (cnt4 (fun p => andB (beside p a c h == 0) (past p a c == 0)) b == 4) = all4 (fun q => barI q a c h) b := by
      rw [cnt4_all]
      refine all4_congr hb fun q hq => ?_
      rw [← barHas_eq hq ha hc h2]; unfold barHas; rw [hv]; rfl
    have s3 : ∀ q, beside q a c h = -1 ∨ beside q a c h = 0 ∨ beside q a c h = 1 := fun q => by have := beside_01 q a c h; omega
    have p3 : ∀ q, past q a c = -1 ∨ past q a c = 0 ∨ past q a c = 1 := fun q => by have := past_01 q a c; omega
    rw [e1, (cnt3_all _ b s3).1, (cnt3_all _ b s3).2, (cnt3_all _ b p3).1, (cnt3_all _ b p3).2]
    have e2 : all4 (fun q => beside q a c h == -1) b = all4 (rightI a c h) b := all4_congr hb fun q hq => by
      rw [beside_eq hq ha hc (by omega) h2]; unfold rightI
      cases clear q a c h
      · by_cases k : crossI a c q > 0 <;> simp [k]
      · simp
    have e3 : all4 (fun q => beside q a c h == 1) b = all4 (leftI a c h) b := all4_congr hb fun q hq => by
      rw [beside_eq hq ha hc (by omega) h2]; unfold leftI
      cases clear q a c h
      · by_cases k : crossI a c q > 0 <;> simp [k]
      · simp
    have e4 : all4 (fun q => past q a c == -1) b = all4 (fun q => decide (dotI a c q < 0)) b := all4_congr hb fun q hq => by
      rw [past_eq hq ha hc]
      by_cases k : dotI a c q < 0
      · simp [k]
      · by_cases k' : dotI a c q > distI a c <;> simp [k, k']
    have e5 : all4 (fun q => past q a c == 1) b = all4 (fun q => decide (dotI a c q > distI a c)) b := all4_congr hb fun q hq => by
      rw [past_eq hq ha hc]
      by_cases k : dotI a c q < 0
      · have : ¬ dotI a c q > distI a c := by have := dist_nn a c; omega
        simp [k, this]
      · by_cases k' : dotI a c q > distI a c <;> simp [k, k']
    rw [e2, e3, e4, e5]
    simp only [orB_eq, Bool.not_true, bif_f]
    cases all4 (fun q => barI q a c h) b <;> cases all4 (rightI a c h) b <;> cases all4 (leftI a c h) b <;> cases all4 (fun q => decide (dotI a c q < 0)) b <;> cases all4 (fun q => decide (dotI a c q > distI a c)) b <;> rfl
theorem clear_zero {q a c : P2} {h : Int} (k : crossI a c q = 0) : clear q a c h = true := by
  unfold clear
  rw [k]
  have := Int.mul_nonneg (sq_nn h) (dist_nn a c)
  simpa using this
theorem rBar_eq {b : B4} {a c : P2} {h : Int} (hb : BR b) (ha : PR a) (hc : PR c) (h2 : h ≤ 2147483648) : rBar b a c h = barCl b a c h := by
  unfold rBar barCl
  have e0 : orB (decide (h < 1)) (rDist a c == 0) = decide (h < 1 ∨ same a c) := by
    rw [(rDist_eq2 ha hc).1, orB_eq]
    have := dist_pos a c
    by_cases k : h < 1 <;> by_cases k' : same a c <;> simp [k, k', this]
  rw [e0]
  by_cases k0 : h < 1 ∨ same a c
  · rw [decide_eq_true k0, bif_t, if_pos k0]
  · rw [decide_eq_false k0, bif_f, if_neg k0]
    have h1 : 1 ≤ h := by omega
    dsimp only
    rw [cnt4_all, cnt4_all, cnt4_all, cnt4_all, cnt4_all]
    have e1 : all4 (fun q => rBarHas q a c h) b = all4 (fun q => barI q a c h) b := all4_congr hb fun q hq => rBarHas_eq hq ha hc h2
    have e2 : all4 (fun q => andB (!(rWithin (cross a c q) h (rDist a c))) (decide (cross a c q > 0))) b = all4 (leftI a c h) b := all4_congr hb fun q hq => by
      rw [rWithin_eq hq ha hc (by omega) h2, (cross_eq ha hc hq).1, andB_eq]; rfl
    have e3 : all4 (fun q => andB (!(rWithin (cross a c q) h (rDist a c))) (decide (cross a c q < 0))) b = all4 (rightI a c h) b := all4_congr hb fun q hq => by
      rw [rWithin_eq hq ha hc (by omega) h2, (cross_eq ha hc hq).1, andB_eq]; unfold rightI
      by_cases k : crossI a c q = 0
      · rw [clear_zero k]; rfl
      · congr 1
        by_cases k' : crossI a c q < 0
        · have : ¬ crossI a c q > 0 := by omega
          simp [k', this]
        · have : crossI a c q > 0 := by omega
          simp [k', this]
    have e4 : all4 (fun q => decide (rDot a c q < 0)) b = all4 (fun q => decide (dotI a c q < 0)) b := all4_congr hb fun q hq => by rw [(rDot_eq ha hc hq).1]
    have e5 : all4 (fun q => decide (rDot a c q > rDist a c)) b = all4 (fun q => decide (dotI a c q > distI a c)) b := all4_congr hb fun q hq => by rw [(rDot_eq ha hc hq).1, (rDist_eq2 ha hc).1]
    rw [e1, e2, e3, e4, e5]
    simp only [orB_eq]
    cases all4 (fun q => barI q a c h) b <;> cases all4 (rightI a c h) b <;> cases all4 (leftI a c h) b <;> cases all4 (fun q => decide (dotI a c q < 0)) b <;> cases all4 (fun q => decide (dotI a c q > distI a c)) b <;> rfl
theorem barVoid_lt {a c : P2} {h : Int} (k : h < 1) : barVoid a c h = true := by
  unfold barVoid; rw [orB_eq, decide_eq_true k, Bool.or_true]
theorem barVoid_same (a : P2) (h : Int) : barVoid a a h = true := by
  unfold barVoid; rw [orB_eq, ptEq_eq, decide_eq_true (show same a a from ⟨rfl, rfl⟩), Bool.true_or]
theorem barClass_void {b : B4} {a c : P2} {h : Int} (k : barVoid a c h = true) : barClass b a c h = 0 := by unfold barClass; rw [k]; rfl
theorem barHas_void {p a c : P2} {h : Int} (k : barVoid a c h = true) : barHas p a c h = false := by unfold barHas; rw [k]; rfl
end Go.Proofs.Ytgdjfclpncpnpaa
