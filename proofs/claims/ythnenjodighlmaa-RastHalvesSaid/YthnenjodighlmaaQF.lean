/-
  OWN WORK. Joined by merge.py: Bar Box Lin Disc Bas Disd Bat Lio Bau Lis Lit Rin Tam Sam San Tua Tub Roe Pia Rof Tuc Bou Rpl Rga.
-/
import Derived.Test.YthnenjodighlmaaQE
import Derived.Test.YthnenjodighlmaaQD
/-! ## Bar -/
namespace Go.Proofs.Ythnenjodighlmaa
open Go Go.RowKit
set_option maxRecDepth 100000

def all4 (f : P2 → Bool) (b : B4) : Bool := f ⟨b.x0, b.y0⟩ && f ⟨b.x1, b.y0⟩ && f ⟨b.x0, b.y1⟩ && f ⟨b.x1, b.y1⟩
theorem cnt4_sum (f : P2 → Bool) (b : B4) : cnt4 f b = (if f ⟨b.x0, b.y0⟩ then 1 else 0) + (if f ⟨b.x1, b.y0⟩ then 1 else 0) + (if f ⟨b.x0, b.y1⟩ then 1 else 0) + (if f ⟨b.x1, b.y1⟩ then 1 else 0) := by
  unfold cnt4
  cases f ⟨b.x0, b.y0⟩ <;> cases f ⟨b.x1, b.y0⟩ <;> cases f ⟨b.x0, b.y1⟩ <;> cases f ⟨b.x1, b.y1⟩ <;> decide
theorem cnt4_all (f : P2 → Bool) (b : B4) : (cnt4 f b == 4) = all4 f b := by
  rw [cnt4_sum]; unfold all4
  cases f ⟨b.x0, b.y0⟩ <;> cases f ⟨b.x1, b.y0⟩ <;> cases f ⟨b.x0, b.y1⟩ <;> cases f ⟨b.x1, b.y1⟩ <;> rfl
theorem bumps (i j k l : Int) (hi : i = -1 ∨ i = 0 ∨ i = 1) (hj : j = -1 ∨ j = 0 ∨ j = 1) (hk : k = -1 ∨ k = 0 ∨ k = 1) (hl : l = -1 ∨ l = 0 ∨ l = 1) :
    ((bump3 (W (l + 1)) (bump3 (W (k + 1)) (bump3 (W (j + 1)) (bump3 (W (i + 1)) ⟨0, 0, 0⟩)))).m == 4) = (i == -1 && j == -1 && k == -1 && l == -1)
    ∧ ((bump3 (W (l + 1)) (bump3 (W (k + 1)) (bump3 (W (j + 1)) (bump3 (W (i + 1)) ⟨0, 0, 0⟩)))).p == 4) = (i == 1 && j == 1 && k == 1 && l == 1) := by
  rcases hi with rfl | rfl | rfl <;> rcases hj with rfl | rfl | rfl <;> rcases hk with rfl | rfl | rfl <;> rcases hl with rfl | rfl | rfl <;> decide
theorem cnt3_all (f : P2 → Int) (b : B4) (h : ∀ q, f q = -1 ∨ f q = 0 ∨ f q = 1) : ((cnt3 f b).m == 4) = all4 (fun q => f q == -1) b ∧ ((cnt3 f b).p == 4) = all4 (fun q => f q == 1) b := by
  unfold cnt3 all4
  exact bumps _ _ _ _ (h _) (h _) (h _) (h _)
structure Cs (b : B4) (f g : P2 → Bool) : Prop where
  h : all4 f b = all4 g b
theorem all4_congr {f g : P2 → Bool} {b : B4} (hb : BR b) (h : ∀ q, PR q → f q = g q) : all4 f b = all4 g b := by
  unfold all4
  rw [h _ ⟨hb.x0, hb.y0⟩, h _ ⟨hb.x1, hb.y0⟩, h _ ⟨hb.x0, hb.y1⟩, h _ ⟨hb.x1, hb.y1⟩]
/-! ### bars -/
def same (a c : P2) : Prop := a.x = c.x ∧ a.y = c.y
instance (a c : P2) : Decidable (same a c) := inferInstanceAs (Decidable (_ ∧ _))
theorem ptEq_eq (a c : P2) : ptEq a c = decide (same a c) := by
  unfold ptEq same
  by_cases h : a.x = c.x
  · by_cases k : a.y = c.y
    · simp [h, k]
    · simp [h, k]
  · simp [h]
theorem dist_pos (a c : P2) : distI a c = 0 ↔ same a c := by
  unfold distI same
  constructor
  · intro h
    have h1 := sq_nn (a.x - c.x); have h2 := sq_nn (a.y - c.y)
    have e1 : (a.x - c.x) * (a.x - c.x) = 0 := by omega
    have e2 : (a.y - c.y) * (a.y - c.y) = 0 := by omega
    have := Int.mul_eq_zero.1 e1; have := Int.mul_eq_zero.1 e2
    omega
  · rintro ⟨h, k⟩; rw [h, k]; simp
theorem dist_nn (a c : P2) : 0 ≤ distI a c := by
  unfold distI
  have h1 := sq_nn (a.x - c.x); have h2 := sq_nn (a.y - c.y); omega
theorem beside_eq {p a c : P2} {h : Int} (hp : PR p) (ha : PR a) (hc : PR c) (h1 : 0 ≤ h) (h2 : h ≤ 2147483648) :
    beside p a c h = if clear p a c h = true then 0 else if crossI a c p > 0 then 1 else -1 := by
  unfold beside
  dsimp only
  rw [clear_eq hp ha hc h1 h2, (cross_eq ha hc hp).1]
  cases clear p a c h
  · by_cases k : crossI a c p > 0
    · simp [k]
    · simp [k]
  · simp
theorem past_eq {p a c : P2} (hp : PR p) (ha : PR a) (hc : PR c) : past p a c = if dotI a c p < 0 then -1 else if dotI a c p > distI a c then 1 else 0 := by
  unfold past
  dsimp only
  rw [along_eq hp ha hc, dist2_eq ha hc]
  by_cases k : dotI a c p < 0
  · simp [k]
  · by_cases k' : dotI a c p > distI a c
    · simp [k, k']
    · simp [k, k']
def barI (p a c : P2) (h : Int) : Bool := !(decide (same a c)) && decide (1 ≤ h) && clear p a c h && decide (0 ≤ dotI a c p) && decide (dotI a c p ≤ distI a c)
theorem barHas_eq {p a c : P2} {h : Int} (hp : PR p) (ha : PR a) (hc : PR c) (h2 : h ≤ 2147483648) : barHas p a c h = barI p a c h := by
  unfold barHas barVoid barI
  rw [ptEq_eq]
  by_cases h1 : h < 1
  · have : ¬ 1 ≤ h := by omega
    simp [h1, this, orB_eq, andB_eq]
  · rw [beside_eq hp ha hc (by omega) h2, past_eq hp ha hc]
    have : 1 ≤ h := by omega
    simp only [h1, this, orB_eq, andB_eq, decide_true, decide_false, Bool.or_false, Bool.and_true]
    cases clear p a c h
    · by_cases k : crossI a c p > 0
      · simp [k]
      · simp [k]
    · by_cases k : dotI a c p < 0
      · have : ¬ 0 ≤ dotI a c p := by omega
        simp [k, this]
      · by_cases k' : dotI a c p > distI a c
        · have : ¬ dotI a c p ≤ distI a c := by omega
          simp [k, k', this]
        · have k1 : 0 ≤ dotI a c p := by omega
          have k2 : dotI a c p ≤ distI a c := by omega
          simp [k, k', k1, k2]
def leftI (a c : P2) (h : Int) (q : P2) : Bool := !(clear q a c h) && decide (crossI a c q > 0)
def rightI (a c : P2) (h : Int) (q : P2) : Bool := !(clear q a c h) && !(decide (crossI a c q > 0))
def barCl (b : B4) (a c : P2) (h : Int) : Int :=
  if h < 1 ∨ same a c then 0 else
  if all4 (fun q => barI q a c h) b then 2 else
  if all4 (rightI a c h) b || all4 (leftI a c h) b || all4 (fun q => decide (dotI a c q < 0)) b || all4 (fun q => decide (dotI a c q > distI a c)) b then 0 else 1
theorem barClass_eq {b : B4} {a c : P2} {h : Int} (hb : BR b) (ha : PR a) (hc : PR c) (hx : b.x0 ≤ b.x1) (hy : b.y0 ≤ b.y1) (h2 : h ≤ 2147483648) : barClass b a c h = barCl b a c h := by
  unfold barClass barCl
  have e0 : barVoid a c h = decide (h < 1 ∨ same a c) := by
    unfold barVoid; rw [ptEq_eq, orB_eq]
    by_cases k : h < 1 <;> by_cases k' : same a c <;> simp [k, k']
  rw [e0]
  by_cases k0 : h < 1 ∨ same a c
  · rw [decide_eq_true k0, bif_t, if_pos k0]
  · rw [decide_eq_false k0, bif_f, if_neg k0]
    have h1 : 1 ≤ h := by omega
    have hh : boxHas b ⟨b.x0, b.y0⟩ = true := (boxHas_eq _ _).2 ⟨by simp, hx, by simp, hy⟩
    rw [hh]
    have hv : barVoid a c h = false := by rw [e0, decide_eq_false k0]
    have e1 : (cnt4 (fun p => andB (beside p a c h == 0) (past p a c == 0)) b == 4) = all4 (fun q => barI q a c h) b := by
      rw [cnt4_all]
      refine all4_congr hb fun q hq => ?_
      rw [← barHas_eq hq ha hc h2]; unfold barHas; rw [hv]; rfl
    have s3 : ∀ q, beside q a c h = -1 ∨ beside q a c h = 0 ∨ beside q a c h = 1 := fun q => by have := beside_01 q a c h; omega
    have p3 : ∀ q, past q a c = -1 ∨ past q a c = 0 ∨ past q a c = 1 := fun q => by have := past_01 q a c; omega
    rw [e1, (cnt3_all _ b s3).1, (cnt3_all _ b s3).2, (cnt3_all _ b p3).1, (cnt3_all _ b p3).2]
    have e2 : all4 (fun q => beside q a c h == -1) b = all4 (rightI a c h) b := all4_congr hb fun q hq => by
      rw [beside_eq hq ha hc (by omega) h2]; unfold rightI
      cases clear q a c h
      · by_cases k : crossI a c q > 0 <;> simp [k]
      · simp
    have e3 : all4 (fun q => beside q a c h == 1) b = all4 (leftI a c h) b := all4_congr hb fun q hq => by
      rw [beside_eq hq ha hc (by omega) h2]; unfold leftI
      cases clear q a c h
      · by_cases k : crossI a c q > 0 <;> simp [k]
      · simp
    have e4 : all4 (fun q => past q a c == -1) b = all4 (fun q => decide (dotI a c q < 0)) b := all4_congr hb fun q hq => by
      rw [past_eq hq ha hc]
      by_cases k : dotI a c q < 0
      · simp [k]
      · by_cases k' : dotI a c q > distI a c <;> simp [k, k']
    have e5 : all4 (fun q => past q a c == 1) b = all4 (fun q => decide (dotI a c q > distI a c)) b := all4_congr hb fun q hq => by
      rw [past_eq hq ha hc]
      by_cases k : dotI a c q < 0
      · have : ¬ dotI a c q > distI a c := by have := dist_nn a c; omega
        simp [k, this]
      · by_cases k' : dotI a c q > distI a c <;> simp [k, k']
    rw [e2, e3, e4, e5]
    simp only [orB_eq, Bool.not_true, bif_f]
    cases all4 (fun q => barI q a c h) b <;> cases all4 (rightI a c h) b <;> cases all4 (leftI a c h) b <;> cases all4 (fun q => decide (dotI a c q < 0)) b <;> cases all4 (fun q => decide (dotI a c q > distI a c)) b <;> rfl
end Go.Proofs.Ythnenjodighlmaa

/-! ## Box -/
namespace Go.Proofs.Ythnenjodighlmaa
open Go Go.RowKit Sym
set_option maxRecDepth 100000

theorem cnt4_lt (f : P2 → Bool) (b : B4) : decide (cnt4 f b < 4) = !(all4 f b) := by
  rw [cnt4_sum]; unfold all4
  cases f ⟨b.x0, b.y0⟩ <;> cases f ⟨b.x1, b.y0⟩ <;> cases f ⟨b.x0, b.y1⟩ <;> cases f ⟨b.x1, b.y1⟩ <;> rfl
/-- the segment's own box has no point of b -/
def sepI (b : B4) (p q : P2) : Bool := decide (max p.x q.x < b.x0) || decide (min p.x q.x > b.x1) || decide (max p.y q.y < b.y0) || decide (min p.y q.y > b.y1)
def meetsI (b : B4) (p q : P2) : Bool := !(sepI b p q) && (!(all4 (fun c => decide (crossI p q c > 0)) b) && !(all4 (fun c => decide (crossI p q c < 0)) b))
theorem meets_eq {b : B4} {p q : P2} (hb : BR b) (hp : PR p) (hq : PR q) (hx : b.x0 ≤ b.x1) (hy : b.y0 ≤ b.y1) : meets b p q = meetsI b p q := by
  have e1 : all4 (fun c => decide (cross p q c > 0)) b = all4 (fun c => decide (crossI p q c > 0)) b := all4_congr hb fun c hc => by rw [(cross_eq hp hq hc).1]
  have e2 : all4 (fun c => decide (cross p q c < 0)) b = all4 (fun c => decide (crossI p q c < 0)) b := all4_congr hb fun c hc => by rw [(cross_eq hp hq hc).1]
  have e3 : emptyBx b = false := by
    unfold emptyBx; rw [orB_eq, decide_eq_false (show ¬ b.x0 > b.x1 by omega), decide_eq_false (show ¬ b.y0 > b.y1 by omega)]; rfl
  unfold meets meetsI sepI
  rw [cnt4_lt, cnt4_lt, e1, e2, e3]
  simp only [orB_eq, andB_eq, imax_eq, imin_eq, Bool.false_or]
  cases (decide (max p.x q.x < b.x0) || decide (min p.x q.x > b.x1) || decide (max p.y q.y < b.y0) || decide (min p.y q.y > b.y1)) <;> rfl
/-! ### quarters -/
def q0 (b : B4) : B4 := ⟨spl b 0 b.x0, spl b 0 b.y0, spl b 0 (midX b), spl b 0 (midY b)⟩
def q1 (b : B4) : B4 := ⟨spl b 0 (midX b), spl b 0 b.y0, spl b 0 b.x1, spl b 0 (midY b)⟩
def q2 (b : B4) : B4 := ⟨spl b 0 b.x0, spl b 0 (midY b), spl b 0 (midX b), spl b 0 b.y1⟩
def q3 (b : B4) : B4 := ⟨spl b 0 (midX b), spl b 0 (midY b), spl b 0 b.x1, spl b 0 b.y1⟩
structure Fits (b : B4) : Prop where
  x0 : -536870912 ≤ b.x0
  x : b.x0 ≤ b.x1
  x1 : b.x1 ≤ 536870912
  y0 : -536870912 ≤ b.y0
  y : b.y0 ≤ b.y1
  y1 : b.y1 ≤ 536870912
theorem boxOk_iff (b : B4) : boxOk b = true ↔ Fits b := by
  unfold boxOk within
  simp only [andB_eq, Bool.and_eq_true, decide_eq_true_eq]
  constructor
  · rintro ⟨⟨⟨⟨⟨a, c⟩, d, e⟩, f, g⟩, h, i⟩, j, k⟩; exact ⟨d, a, i, f, c, k⟩
  · rintro ⟨a, c, d, e, f, g⟩; exact ⟨⟨⟨⟨⟨c, f⟩, by omega, by omega⟩, by omega, by omega⟩, by omega, by omega⟩, by omega, by omega⟩
theorem spl_of {b : B4} (hb : Fits b) (h : splOk b = true) : (∀ v, spl b 0 v = v) ∧ b.x0 < midX b ∧ b.y0 < midY b ∧ 2 * midX b = b.x0 + b.x1 ∧ 2 * midY b = b.y0 + b.y1 := by
  obtain ⟨a1, a2, a3, a4, a5, a6⟩ := hb
  have k : ∀ v, spl b 0 v = v := fun v => by
    unfold splOk at h; unfold spl
    cases hq : boxOk b
    · rw [hq] at h; cases h
    · rw [hq] at h
      simp only [Bool.not_true, bif_f] at h ⊢
      cases ho : orB (orB (orB (W (b.x1 - b.x0) == 0) (W (b.y1 - b.y0) == 0)) ((W (b.x1 - b.x0)).tmod 2 != 0)) ((W (b.y1 - b.y0)).tmod 2 != 0)
      · rfl
      · rw [ho] at h; cases h
  refine ⟨k, ?_⟩
  unfold splOk at h
  rw [(boxOk_iff b).2 ⟨a1, a2, a3, a4, a5, a6⟩] at h
  rw [W_id (x := b.x1 - b.x0) (by omega) (by omega), W_id (x := b.y1 - b.y0) (by omega) (by omega)] at h
  simp only [Bool.not_true, bif_f, orB_eq] at h
  have h' : ¬ (((b.x1 - b.x0 = 0 ∨ b.y1 - b.y0 = 0) ∨ (b.x1 - b.x0).tmod 2 ≠ 0) ∨ (b.y1 - b.y0).tmod 2 ≠ 0) := by
    intro q
    have : (b.x1 - b.x0 == 0 || b.y1 - b.y0 == 0 || (b.x1 - b.x0).tmod 2 != 0 || (b.y1 - b.y0).tmod 2 != 0) = true := by
      simp only [Bool.or_eq_true, beq_iff_eq, bne_iff_ne]; exact q
    rw [this] at h; cases h
  rw [Int.tmod_eq_emod_of_nonneg (by omega), Int.tmod_eq_emod_of_nonneg (by omega)] at h'
  unfold midX midY
  rw [W_id (x := b.x1 - b.x0) (by omega) (by omega), W_id (x := b.y1 - b.y0) (by omega) (by omega), Int.tdiv_eq_ediv_of_nonneg (by omega), Int.tdiv_eq_ediv_of_nonneg (by omega),
    W_id (x := (b.x1 - b.x0) / 2) (by omega) (by omega), W_id (x := (b.y1 - b.y0) / 2) (by omega) (by omega), W_id (by omega) (by omega), W_id (by omega) (by omega)]
  omega
end Go.Proofs.Ythnenjodighlmaa

/-! ## Lin -/
namespace Go.Proofs.Ythnenjodighlmaa
open Go Go.RowKit Sym
set_option maxRecDepth 100000

/-- p is in the stroke -/
def lineI (p a c : P2) (r : Int) : Bool :=
  if dotI a c p ≤ 0 then decide (distI p a ≤ r * r) else if dotI a c p ≥ distI a c then decide (distI p c ≤ r * r) else clear p a c r
theorem lineHas_eq {p a c : P2} {r : Int} (hp : PR p) (ha : PR a) (hc : PR c) (h1 : 1 ≤ r) (h2 : r ≤ 2147483648) : lineHas p a c r = lineI p a c r := by
  unfold lineHas lineI
  rw [decide_eq_false (show ¬ r < 1 by omega), bif_f]
  dsimp only
  rw [along_eq hp ha hc, dist2_eq ha hc]
  have e := clear_eq hp ha hc (r := r) (by omega) h2
  rw [dist2_eq ha hc] at e
  rw [e, square_eq (by omega) h2]
  have n1 := near_eq (b := ⟨a.x, a.y, a.x, a.y⟩) ⟨ha.x, ha.y, ha.x, ha.y⟩ hp
  have n2 := near_eq (b := ⟨c.x, c.y, c.x, c.y⟩) ⟨hc.x, hc.y, hc.x, hc.y⟩ hp
  rw [n1.1, n2.1, dist_near, dist_near]
  by_cases k : dotI a c p ≤ 0
  · simp [k]
  · by_cases k' : dotI a c p ≥ distI a c
    · simp [k, k']
    · simp [k, k']
def any4 (f : P2 → Bool) (b : B4) : Bool := f ⟨b.x0, b.y0⟩ || f ⟨b.x1, b.y0⟩ || f ⟨b.x0, b.y1⟩ || f ⟨b.x1, b.y1⟩
theorem cnt4_any (f : P2 → Bool) (b : B4) : decide (cnt4 f b > 0) = any4 f b := by
  rw [cnt4_sum]; unfold any4
  cases f ⟨b.x0, b.y0⟩ <;> cases f ⟨b.x1, b.y0⟩ <;> cases f ⟨b.x0, b.y1⟩ <;> cases f ⟨b.x1, b.y1⟩ <;> rfl
theorem cnt4_none (f : P2 → Bool) (b : B4) : (cnt4 f b == 0) = !(any4 f b) := by
  rw [cnt4_sum]; unfold any4
  cases f ⟨b.x0, b.y0⟩ <;> cases f ⟨b.x1, b.y0⟩ <;> cases f ⟨b.x0, b.y1⟩ <;> cases f ⟨b.x1, b.y1⟩ <;> rfl
theorem any4_congr {f g : P2 → Bool} {b : B4} (hb : BR b) (h : ∀ q, PR q → f q = g q) : any4 f b = any4 g b := by
  unfold any4
  rw [h _ ⟨hb.x0, hb.y0⟩, h _ ⟨hb.x1, hb.y0⟩, h _ ⟨hb.x0, hb.y1⟩, h _ ⟨hb.x1, hb.y1⟩]
def lineCl (b : B4) (a c : P2) (r : Int) : Int :=
  if all4 (fun q => lineI q a c r) b then 2 else
  if any4 (fun q => lineI q a c r) b || decide (nearI b a ≤ r * r) || decide (nearI b c ≤ r * r) || meetsI b a c then 1 else 0
theorem lineClass_eq {b : B4} {a c : P2} {r : Int} (hb : BR b) (ha : PR a) (hc : PR c) (hx : b.x0 ≤ b.x1) (hy : b.y0 ≤ b.y1) (h1 : 1 ≤ r) (h2 : r ≤ 2147483648) : lineClass b a c r = lineCl b a c r := by
  unfold lineClass lineCl
  have hh : boxHas b ⟨b.x0, b.y0⟩ = true := (boxHas_eq _ _).2 ⟨by simp, hx, by simp, hy⟩
  rw [hh, decide_eq_false (show ¬ r < 1 by omega)]
  have e1 : all4 (fun p => lineHas p a c r) b = all4 (fun p => lineI p a c r) b := all4_congr hb fun q hq => lineHas_eq hq ha hc h1 h2
  have e2 : any4 (fun p => lineHas p a c r) b = any4 (fun p => lineI p a c r) b := any4_congr hb fun q hq => lineHas_eq hq ha hc h1 h2
  dsimp only
  rw [cnt4_all, cnt4_any, e1, e2, square_eq (by omega) h2, (near_eq hb ha).1, (near_eq hb hc).1, meets_eq hb ha hc hx hy]
  simp only [orB_eq, Bool.not_true, Bool.or_false, bif_f]
  cases all4 (fun p => lineI p a c r) b
  · cases (any4 (fun p => lineI p a c r) b || decide (nearI b a ≤ r * r) || decide (nearI b c ≤ r * r) || meetsI b a c) <;> rfl
  · rfl
/-! ### corners say all of what is linear -/
def isC (b : B4) (c : P2) : Prop := (c.x = b.x0 ∨ c.x = b.x1) ∧ (c.y = b.y0 ∨ c.y = b.y1)
theorem all4_iff {f : P2 → Bool} {b : B4} : all4 f b = true ↔ ∀ c, isC b c → f c = true := by
  unfold all4
  simp only [Bool.and_eq_true]
  constructor
  · rintro ⟨⟨⟨h1, h2⟩, h3⟩, h4⟩ ⟨x, y⟩ ⟨hx, hy⟩
    dsimp only at hx hy
    rcases hx with rfl | rfl <;> rcases hy with rfl | rfl <;> assumption
  · intro h
    exact ⟨⟨⟨h _ ⟨.inl rfl, .inl rfl⟩, h _ ⟨.inr rfl, .inl rfl⟩⟩, h _ ⟨.inl rfl, .inr rfl⟩⟩, h _ ⟨.inr rfl, .inr rfl⟩⟩
theorem any4_iff {f : P2 → Bool} {b : B4} : any4 f b = true ↔ ∃ c, isC b c ∧ f c = true := by
  unfold any4
  simp only [Bool.or_eq_true]
  constructor
  · rintro (((h | h) | h) | h)
    · exact ⟨_, ⟨.inl rfl, .inl rfl⟩, h⟩
    · exact ⟨_, ⟨.inr rfl, .inl rfl⟩, h⟩
    · exact ⟨_, ⟨.inl rfl, .inr rfl⟩, h⟩
    · exact ⟨_, ⟨.inr rfl, .inr rfl⟩, h⟩
  · rintro ⟨⟨x, y⟩, ⟨hx, hy⟩, h⟩
    dsimp only at hx hy
    rcases hx with rfl | rfl <;> rcases hy with rfl | rfl <;> simp [h]
theorem isC_has {b : B4} {c : P2} (hx : b.x0 ≤ b.x1) (hy : b.y0 ≤ b.y1) (h : isC b c) : hasI b c := by
  obtain ⟨h1, h2⟩ := h
  exact ⟨by omega, by omega, by omega, by omega⟩
/-- some corner has at least so much of a linear form -/
theorem corner_ge {b : B4} {q : P2} (u v : Int) (h : hasI b q) : ∃ c, isC b c ∧ u * q.x + v * q.y ≤ u * c.x + v * c.y := by
  obtain ⟨h1, h2, h3, h4⟩ := h
  have one : ∀ u x lo hi : Int, lo ≤ x → x ≤ hi → u * x ≤ u * lo ∨ u * x ≤ u * hi := fun u x lo hi a c => by
    rcases Int.le_total 0 u with k | k
    · right; exact Int.mul_le_mul_of_nonneg_left c k
    · left
      have := Int.mul_nonneg (show 0 ≤ -u by omega) (show 0 ≤ x - lo by omega)
      have e : -u * (x - lo) = u * lo - u * x := by grind
      omega
  rcases one u q.x b.x0 b.x1 h1 h2 with k | k <;> rcases one v q.y b.y0 b.y1 h3 h4 with k' | k'
  · exact ⟨⟨b.x0, b.y0⟩, ⟨.inl rfl, .inl rfl⟩, by dsimp only; omega⟩
  · exact ⟨⟨b.x0, b.y1⟩, ⟨.inl rfl, .inr rfl⟩, by dsimp only; omega⟩
  · exact ⟨⟨b.x1, b.y0⟩, ⟨.inr rfl, .inl rfl⟩, by dsimp only; omega⟩
  · exact ⟨⟨b.x1, b.y1⟩, ⟨.inr rfl, .inr rfl⟩, by dsimp only; omega⟩
theorem cross_lin (a c p : P2) : crossI a c p = -(c.y - a.y) * p.x + (c.x - a.x) * p.y + ((c.y - a.y) * a.x - (c.x - a.x) * a.y) := by unfold crossI; grind
theorem dot_lin (a c p : P2) : dotI a c p = (c.x - a.x) * p.x + (c.y - a.y) * p.y - ((c.x - a.x) * a.x + (c.y - a.y) * a.y) := by unfold dotI; grind
theorem cross_ge {b : B4} {q : P2} (a c : P2) (h : hasI b q) : ∃ k, isC b k ∧ crossI a c q ≤ crossI a c k := by
  obtain ⟨k, hk, hl⟩ := corner_ge (-(c.y - a.y)) (c.x - a.x) h
  exact ⟨k, hk, by rw [cross_lin, cross_lin]; omega⟩
theorem cross_le {b : B4} {q : P2} (a c : P2) (h : hasI b q) : ∃ k, isC b k ∧ crossI a c k ≤ crossI a c q := by
  obtain ⟨k, hk, hl⟩ := corner_ge (c.y - a.y) (-(c.x - a.x)) h
  refine ⟨k, hk, ?_⟩
  rw [cross_lin, cross_lin a c q]
  have e1 : -(c.y - a.y) * q.x = -((c.y - a.y) * q.x) := by grind
  have e2 : -(c.x - a.x) * q.y = -((c.x - a.x) * q.y) := by grind
  have e3 : -(c.y - a.y) * k.x = -((c.y - a.y) * k.x) := by grind
  have e4 : -(c.x - a.x) * k.y = -((c.x - a.x) * k.y) := by grind
  rw [e1, e3]; rw [e2, e4] at hl; omega
theorem dot_ge {b : B4} {q : P2} (a c : P2) (h : hasI b q) : ∃ k, isC b k ∧ dotI a c q ≤ dotI a c k := by
  obtain ⟨k, hk, hl⟩ := corner_ge (c.x - a.x) (c.y - a.y) h
  exact ⟨k, hk, by rw [dot_lin, dot_lin]; omega⟩
theorem dot_le {b : B4} {q : P2} (a c : P2) (h : hasI b q) : ∃ k, isC b k ∧ dotI a c k ≤ dotI a c q := by
  obtain ⟨k, hk, hl⟩ := corner_ge (-(c.x - a.x)) (-(c.y - a.y)) h
  refine ⟨k, hk, ?_⟩
  rw [dot_lin, dot_lin a c q]
  have e1 : -(c.y - a.y) * q.y = -((c.y - a.y) * q.y) := by grind
  have e2 : -(c.x - a.x) * q.x = -((c.x - a.x) * q.x) := by grind
  have e3 : -(c.y - a.y) * k.y = -((c.y - a.y) * k.y) := by grind
  have e4 : -(c.x - a.x) * k.x = -((c.x - a.x) * k.x) := by grind
  rw [e1, e2, e3, e4] at hl; omega
/-- what is clear at the corners is clear within -/
theorem clear_in {b : B4} {q a c : P2} {r : Int} (h : hasI b q) (hk : ∀ k, isC b k → clear k a c r = true) : clear q a c r = true := by
  unfold clear at *
  simp only [decide_eq_true_eq] at *
  rcases Int.le_total 0 (crossI a c q) with s | s
  · obtain ⟨k, hc, hl⟩ := cross_ge a c h
    have := hk k hc
    have := sq_le (x := crossI a c q) (y := crossI a c k) (by omega) hl
    omega
  · obtain ⟨k, hc, hl⟩ := cross_le a c h
    have := hk k hc
    have t := sq_le (x := crossI a c q) (y := -crossI a c k) (by omega) (by omega)
    have e : -crossI a c k * -crossI a c k = crossI a c k * crossI a c k := by grind
    omega
/-- the product of lengths is told by both products -/
theorem lagrange (a c p : P2) : distI a c * distI p a = dotI a c p * dotI a c p + crossI a c p * crossI a c p := by
  unfold distI dotI crossI; grind
theorem lagrange2 (a c p : P2) : distI a c * distI p c = (dotI a c p - distI a c) * (dotI a c p - distI a c) + crossI a c p * crossI a c p := by
  unfold distI dotI crossI; grind
end Go.Proofs.Ythnenjodighlmaa

/-! ## Disc -/
namespace Go.Proofs.Ythnenjodighlmaa
open Go Go.RowKit Sym
set_option maxRecDepth 100000

theorem pt_BR {p : P2} (h : PR p) : BR ⟨p.x, p.y, p.x, p.y⟩ := ⟨h.x, h.y, h.x, h.y⟩
theorem discHas_eq {p c : P2} {r : Int} (hp : PR p) (hc : PR c) (h1 : 1 ≤ r) (h2 : r ≤ 2147483648) : discHas p c r = decide (distI p c ≤ r * r) := by
  unfold discHas
  rw [decide_eq_false (show ¬ r < 1 by omega), bif_f, (near_eq (pt_BR hc) hp).1, dist_near, square_eq (by omega) h2]
theorem discClass_eq {b : B4} {c : P2} {r : Int} (hb : BR b) (hc : PR c) (hx : b.x0 ≤ b.x1) (hy : b.y0 ≤ b.y1) (h1 : 1 ≤ r) (h2 : r ≤ 2147483648) :
    discClass b c r = if nearI b c > r * r then 0 else if mostI b c ≤ r * r then 2 else 1 := by
  unfold discClass
  have hh : boxHas b ⟨b.x0, b.y0⟩ = true := (boxHas_eq _ _).2 ⟨by simp, hx, by simp, hy⟩
  rw [decide_eq_false (show ¬ r < 1 by omega), hh, (near_eq hb hc).1, (most_eq hb hc).1, square_eq (by omega) h2]
  show (bif decide (nearI b c > r * r) then 0 else bif decide (mostI b c ≤ r * r) then 2 else 1) = _
  by_cases k : nearI b c > r * r
  · rw [decide_eq_true k, if_pos k]; rfl
  · rw [decide_eq_false k, if_neg k, bif_f]
    by_cases k' : mostI b c ≤ r * r
    · rw [decide_eq_true k', if_pos k']; rfl
    · rw [decide_eq_false k', if_neg k']; rfl

/-! ### the reference -/
/-! ### DiscFar -/
/-! ### DiscTells -/
end Go.Proofs.Ythnenjodighlmaa

/-! ## Bas -/
namespace Go.Proofs.Ythnenjodighlmaa
open Go Go.RowKit Sym
set_option maxRecDepth 100000

theorem n10 : W (9 + 1) ≠ 0 := by decide
/-! ### BarParts -/
theorem barCl_two {b : B4} {a c : P2} {h : Int} : barCl b a c h = 2 ↔ (¬ (h < 1 ∨ same a c) ∧ all4 (fun q => barI q a c h) b = true) := by
  unfold barCl
  by_cases k : h < 1 ∨ same a c
  · rw [if_pos k]; simp [k]
  · rw [if_neg k]
    cases all4 (fun q => barI q a c h) b
    · simp [k]; split <;> decide
    · simp [k]
end Go.Proofs.Ythnenjodighlmaa

/-! ## Disd -/
namespace Go.Proofs.Ythnenjodighlmaa
open Go Go.RowKit Sym
set_option maxRecDepth 100000

/-- the farthest point of a box is a corner -/
theorem most_corner {b : B4} {p : P2} (hx : b.x0 ≤ b.x1) (hy : b.y0 ≤ b.y1) : mostI b p = max (max (distI ⟨b.x0, b.y0⟩ p) (distI ⟨b.x1, b.y0⟩ p)) (max (distI ⟨b.x0, b.y1⟩ p) (distI ⟨b.x1, b.y1⟩ p)) := by
  have e : ∀ u lo hi : Int, lo ≤ hi → reachI u lo hi * reachI u lo hi = max ((lo - u) * (lo - u)) ((hi - u) * (hi - u)) := fun u lo hi h => by
    have h5 : (reachI u lo hi = -(lo - u) ∧ hi - u ≤ -(lo - u) ∧ lo - u ≤ hi - u) ∨ (reachI u lo hi = hi - u ∧ -(hi - u) ≤ lo - u ∧ lo - u ≤ hi - u) := by unfold reachI; omega
    rcases h5 with ⟨h6, h7, h8⟩ | ⟨h6, h7, h8⟩
    · have := sq_le (x := hi - u) (y := -(lo - u)) (by omega) h7
      have e : -(lo - u) * -(lo - u) = (lo - u) * (lo - u) := by grind
      rw [h6, e]; rw [e] at this; omega
    · have := sq_le h7 h8
      rw [h6]; omega
  unfold distI mostI
  dsimp only
  rw [e _ _ _ hx, e _ _ _ hy]
  omega
/-- the nearest point of a box -/
def nearest (b : B4) (p : P2) : P2 := ⟨min (max p.x b.x0) b.x1, min (max p.y b.y0) b.y1⟩
theorem near_nearest {b : B4} {p : P2} (hx : b.x0 ≤ b.x1) (hy : b.y0 ≤ b.y1) : nearI b p = distI (nearest b p) p := by
  have e : ∀ u lo hi : Int, lo ≤ hi → gapI u lo hi * gapI u lo hi = (min (max u lo) hi - u) * (min (max u lo) hi - u) := fun u lo hi h => by
    have : gapI u lo hi = min (max u lo) hi - u ∨ gapI u lo hi = -(min (max u lo) hi - u) := by unfold gapI; split <;> omega
    rcases this with h | h <;> rw [h]
    grind
  unfold distI nearI nearest
  dsimp only
  rw [e _ _ _ hx, e _ _ _ hy]
theorem distI_comm (p q : P2) : distI p q = distI q p := by unfold distI; grind

/-! ### DiscSure -/
theorem PR_of_has {b : B4} {p : P2} (hb : BR b) (h : hasI b p) : PR p := by
  obtain ⟨⟨a1, a2⟩, ⟨a3, a4⟩, ⟨a5, a6⟩, a7, a8⟩ := hb
  obtain ⟨h1, h2, h3, h4⟩ := h
  exact ⟨⟨by omega, by omega⟩, ⟨by omega, by omega⟩⟩
/-! ### DiscMoves -/
def mvP (p by_ : P2) : P2 := ⟨W (p.x + by_.x), W (p.y + by_.y)⟩
theorem gapI_neg (v lo hi : Int) (h : lo ≤ hi) : gapI (-v) (-hi) (-lo) = gapI v lo hi := by
  unfold gapI; split
  · split
    · omega
    · split <;> omega
  · split
    · split <;> omega
    · split <;> (try split) <;> omega
end Go.Proofs.Ythnenjodighlmaa

/-! ## Bat -/
namespace Go.Proofs.Ythnenjodighlmaa
open Go Go.RowKit Sym
set_option maxRecDepth 100000

theorem barI_iff {p a c : P2} {h : Int} : barI p a c h = true ↔ ¬ same a c ∧ 1 ≤ h ∧ clear p a c h = true ∧ 0 ≤ dotI a c p ∧ dotI a c p ≤ distI a c := by
  unfold barI
  simp only [Bool.and_eq_true, decide_eq_true_eq, Bool.not_eq_true', decide_eq_false_iff_not, and_assoc]
theorem bar_in {b : B4} {q a c : P2} {h : Int} (hq : hasI b q) (hk : all4 (fun q => barI q a c h) b = true) : barI q a c h = true := by
  rw [all4_iff] at hk
  simp only [barI_iff] at hk ⊢
  obtain ⟨k0, hc0, -⟩ := dot_le a c hq
  have h0 := hk k0 hc0
  refine ⟨h0.1, h0.2.1, clear_in hq fun k hc => (hk k hc).2.2.1, ?_, ?_⟩
  · obtain ⟨k, hc, hl⟩ := dot_le a c hq
    have := (hk k hc).2.2.2.1; omega
  · obtain ⟨k, hc, hl⟩ := dot_ge a c hq
    have := (hk k hc).2.2.2.2; omega
theorem bar_out {b : B4} {q a c : P2} {h : Int} (hq : hasI b q) (hk : barCl b a c h = 0) : barI q a c h = false := by
  cases hi : barI q a c h
  · rfl
  · exfalso
    rw [barI_iff] at hi
    obtain ⟨s, h1, cl, d0, d1⟩ := hi
    unfold barCl at hk
    rw [if_neg (by rintro (x | x); omega; exact s x)] at hk
    cases k2 : all4 (fun q => barI q a c h) b
    · rw [k2] at hk
      simp only [Bool.false_eq_true, if_false] at hk
      have k3 : (all4 (rightI a c h) b || all4 (leftI a c h) b || all4 (fun q => decide (dotI a c q < 0)) b || all4 (fun q => decide (dotI a c q > distI a c)) b) = true := by
        cases e : (all4 (rightI a c h) b || all4 (leftI a c h) b || all4 (fun q => decide (dotI a c q < 0)) b || all4 (fun q => decide (dotI a c q > distI a c)) b)
        · rw [e] at hk; cases hk
        · rfl
      simp only [Bool.or_eq_true, all4_iff] at k3
      unfold clear at cl
      rw [decide_eq_true_eq] at cl
      rcases k3 with ((k3 | k3) | k3) | k3
      · obtain ⟨k, hc, hl⟩ := cross_ge a c hq
        have e := k3 k hc
        unfold rightI clear at e
        simp only [Bool.and_eq_true, Bool.not_eq_true', decide_eq_false_iff_not] at e
        have t := sq_le (x := -crossI a c k) (y := -crossI a c q) (by omega) (by omega)
        have e1 : -crossI a c k * -crossI a c k = crossI a c k * crossI a c k := by grind
        have e2 : -crossI a c q * -crossI a c q = crossI a c q * crossI a c q := by grind
        omega
      · obtain ⟨k, hc, hl⟩ := cross_le a c hq
        have e := k3 k hc
        unfold leftI clear at e
        simp only [Bool.and_eq_true, Bool.not_eq_true', decide_eq_false_iff_not, decide_eq_true_eq] at e
        have t := sq_le (x := crossI a c k) (y := crossI a c q) (by omega) (by omega)
        omega
      · obtain ⟨k, hc, hl⟩ := dot_ge a c hq
        have e := k3 k hc
        simp only [decide_eq_true_eq] at e; omega
      · obtain ⟨k, hc, hl⟩ := dot_le a c hq
        have e := k3 k hc
        simp only [decide_eq_true_eq] at e; omega
    · rw [k2] at hk; simp at hk
theorem barCl_012 (b : B4) (a c : P2) (h : Int) : barCl b a c h = 0 ∨ barCl b a c h = 1 ∨ barCl b a c h = 2 := by
  unfold barCl
  by_cases k : h < 1 ∨ same a c
  · rw [if_pos k]; simp
  · rw [if_neg k]; split
    · simp
    · split <;> simp
/-! ### BarLine -/
theorem lineI_bar {p a c : P2} {h : Int} (hs : ¬ same a c) (d0 : 0 ≤ dotI a c p) (d1 : dotI a c p ≤ distI a c) : lineI p a c h = clear p a c h := by
  have n := dist_nn a c
  have nz : distI a c ≠ 0 := fun x => hs ((dist_pos a c).1 x)
  have l1 := lagrange a c p; have l2 := lagrange2 a c p
  unfold lineI clear
  have mono : ∀ u v : Int, (distI a c * u ≤ v * distI a c) ↔ u ≤ v := fun u v => by
    rw [Int.mul_comm v]
    exact Int.mul_le_mul_left (by omega)
  by_cases k : dotI a c p ≤ 0
  · rw [if_pos k]
    have : dotI a c p = 0 := by omega
    rw [this] at l1
    refine decide_eq_decide.2 ?_
    rw [← mono, l1]; simp
  · rw [if_neg k]
    by_cases k' : dotI a c p ≥ distI a c
    · rw [if_pos k']
      have : dotI a c p - distI a c = 0 := by omega
      rw [this] at l2
      refine decide_eq_decide.2 ?_
      rw [← mono, l2]; simp
    · rw [if_neg k']
theorem flips (a c p : P2) : crossI c a p = -crossI a c p ∧ dotI c a p = distI a c - dotI a c p ∧ distI c a = distI a c := by
  unfold crossI dotI distI; refine ⟨?_, ?_, ?_⟩ <;> grind
end Go.Proofs.Ythnenjodighlmaa

/-! ## Lio -/
namespace Go.Proofs.Ythnenjodighlmaa
open Go Go.RowKit Sym
set_option maxRecDepth 100000

/-- the point at m / n of the segment is near p: the square of the distance is at most R -/
structure Seg (p a c : P2) (R m n : Int) : Prop where
  n0 : 0 < n
  m0 : 0 ≤ m
  mn : m ≤ n
  d : (n * (p.x - a.x) - m * (c.x - a.x)) * (n * (p.x - a.x) - m * (c.x - a.x)) + (n * (p.y - a.y) - m * (c.y - a.y)) * (n * (p.y - a.y) - m * (c.y - a.y)) ≤ n * n * R
def OnS (p a c : P2) (R : Int) : Prop := ∃ m n, Seg p a c R m n
theorem sq_pos {n : Int} (h : 0 < n) : 0 < n * n := Int.mul_pos h h
theorem seg_norm (p a c : P2) (m n : Int) : (n * (p.x - a.x) - m * (c.x - a.x)) * (n * (p.x - a.x) - m * (c.x - a.x)) + (n * (p.y - a.y) - m * (c.y - a.y)) * (n * (p.y - a.y) - m * (c.y - a.y))
    = n * n * distI p a - 2 * (n * m * dotI a c p) + m * m * distI a c := by unfold distI dotI; grind
theorem lineI_iff {p a c : P2} {r : Int} : lineI p a c r = true ↔ OnS p a c (r * r) := by
  have hL := dist_nn a c
  have l1 := lagrange a c p
  have l2 := lagrange2 a c p
  generalize hR : r * r = R
  have hRn : 0 ≤ R := hR ▸ sq_nn r
  unfold lineI clear
  rw [hR]
  constructor
  · intro h
    by_cases k : dotI a c p ≤ 0
    · rw [if_pos k, decide_eq_true_eq] at h
      exact ⟨0, 1, by decide, by decide, by decide, by rw [seg_norm]; omega⟩
    · rw [if_neg k] at h
      by_cases k' : dotI a c p ≥ distI a c
      · rw [if_pos k', decide_eq_true_eq] at h
        refine ⟨1, 1, by decide, by decide, by decide, ?_⟩
        have : (1 * (p.x - a.x) - 1 * (c.x - a.x)) * (1 * (p.x - a.x) - 1 * (c.x - a.x)) + (1 * (p.y - a.y) - 1 * (c.y - a.y)) * (1 * (p.y - a.y) - 1 * (c.y - a.y)) = distI p c := by unfold distI; grind
        omega
      · rw [if_neg k', decide_eq_true_eq] at h
        refine ⟨dotI a c p, distI a c, by omega, by omega, by omega, ?_⟩
        rw [seg_norm]
        have g := Int.mul_le_mul_of_nonneg_left h hL
        clear l2 k k' h
        generalize dotI a c p = T at *
        generalize distI a c = L at *
        generalize crossI a c p = K at *
        generalize distI p a = A at *
        have e1 : L * L * A = L * (T * T + K * K) := by rw [← l1]; grind
        have e2 : L * (T * T + K * K) - 2 * (L * T * T) + T * T * L = L * (K * K) := by grind
        have e3 : L * L * R = L * (R * L) := by grind
        rw [e1, e2, e3]; exact g
  · rintro ⟨m, n, n0, m0, mn, h⟩
    rw [seg_norm] at h
    have hn := sq_pos n0
    by_cases k : dotI a c p ≤ 0
    · rw [if_pos k, decide_eq_true_eq]
      have e1 := Int.mul_nonneg (Int.mul_nonneg (show 0 ≤ n by omega) m0) (show 0 ≤ -dotI a c p by omega)
      have e2 := Int.mul_nonneg (Int.mul_nonneg m0 m0) hL
      have e3 : n * m * -dotI a c p = -(n * m * dotI a c p) := by grind
      exact Int.le_of_mul_le_mul_left (a := n * n) (by omega) hn
    · rw [if_neg k]
      by_cases k' : dotI a c p ≥ distI a c
      · rw [if_pos k', decide_eq_true_eq]
        have e0 : distI p c = distI p a - 2 * dotI a c p + distI a c := by unfold distI dotI; grind
        have e1 := Int.mul_nonneg (Int.mul_nonneg (show 0 ≤ n by omega) (show 0 ≤ n - m by omega)) (show 0 ≤ dotI a c p - distI a c by omega)
        have e2 := Int.mul_nonneg (Int.mul_nonneg (show 0 ≤ n - m by omega) (show 0 ≤ n - m by omega)) hL
        refine Int.le_of_mul_le_mul_left (a := n * n) ?_ hn
        rw [e0]
        generalize distI p a = A at *
        generalize dotI a c p = T at *
        generalize distI a c = L at *
        grind
      · rw [if_neg k', decide_eq_true_eq]
        have e1 := Int.mul_le_mul_of_nonneg_left h hL
        have e2 := sq_nn (n * dotI a c p - m * distI a c)
        refine Int.le_of_mul_le_mul_left (a := n * n) ?_ hn
        generalize dotI a c p = T at *
        generalize distI a c = L at *
        generalize crossI a c p = K at *
        generalize distI p a = A at *
        have e3 : L * (n * n * A - 2 * (n * m * T) + m * m * L) = n * n * (L * A) - 2 * (n * m * (T * L)) + m * m * (L * L) := by grind
        rw [e3, l1] at e1
        have e4 : n * n * (T * T + K * K) - 2 * (n * m * (T * L)) + m * m * (L * L) = (n * T - m * L) * (n * T - m * L) + n * n * (K * K) := by grind
        have e5 : L * (n * n * R) = n * n * (R * L) := by grind
        rw [e4, e5] at e1
        omega

/-! ### strokes are convex -/
theorem conv2 {x1 y1 x2 y2 u v S : Int} (h1 : x1 * x1 + y1 * y1 ≤ S) (h2 : x2 * x2 + y2 * y2 ≤ S) (hu : 0 ≤ u) (hv : 0 ≤ v) :
    (u * x1 + v * x2) * (u * x1 + v * x2) + (u * y1 + v * y2) * (u * y1 + v * y2) ≤ (u + v) * (u + v) * S := by
  have a := Int.mul_le_mul_of_nonneg_left h1 (Int.mul_nonneg hu hu)
  have b := Int.mul_le_mul_of_nonneg_left h2 (Int.mul_nonneg hv hv)
  have c1 := sq_nn (x1 - x2); have c2 := sq_nn (y1 - y2)
  have c : 2 * (x1 * x2 + y1 * y2) ≤ 2 * S := by grind
  have d := Int.mul_le_mul_of_nonneg_left c (Int.mul_nonneg hu hv)
  grind
theorem onS_mix {p q s a c : P2} {R u v : Int} (hp : OnS p a c R) (hq : OnS q a c R) (hu : 0 ≤ u) (hv : 0 ≤ v) (huv : 0 < u + v) (hx : (u + v) * s.x = u * p.x + v * q.x) (hy : (u + v) * s.y = u * p.y + v * q.y) : OnS s a c R := by
  obtain ⟨m1, n1, n10, m10, mn1, d1⟩ := hp
  obtain ⟨m2, n2, n20, m20, mn2, d2⟩ := hq
  refine ⟨u * (n2 * m1) + v * (n1 * m2), n1 * n2 * (u + v), Int.mul_pos (Int.mul_pos n10 n20) huv, ?_, ?_, ?_⟩
  · have := Int.mul_nonneg hu (Int.mul_nonneg (Int.le_of_lt n20) m10)
    have := Int.mul_nonneg hv (Int.mul_nonneg (Int.le_of_lt n10) m20)
    omega
  · have a1 := Int.mul_le_mul_of_nonneg_left (Int.mul_le_mul_of_nonneg_left mn1 (Int.le_of_lt n20)) hu
    have a2 := Int.mul_le_mul_of_nonneg_left (Int.mul_le_mul_of_nonneg_left mn2 (Int.le_of_lt n10)) hv
    have e : n1 * n2 * (u + v) = u * (n2 * n1) + v * (n1 * n2) := by grind
    omega
  · have k1 := Int.mul_le_mul_of_nonneg_left d1 (Int.le_of_lt (sq_pos n20))
    have k2 := Int.mul_le_mul_of_nonneg_left d2 (Int.le_of_lt (sq_pos n10))
    have cv := conv2 (x1 := n2 * (n1 * (p.x - a.x) - m1 * (c.x - a.x))) (y1 := n2 * (n1 * (p.y - a.y) - m1 * (c.y - a.y))) (x2 := n1 * (n2 * (q.x - a.x) - m2 * (c.x - a.x))) (y2 := n1 * (n2 * (q.y - a.y) - m2 * (c.y - a.y))) (S := n1 * n1 * (n2 * n2) * R) (u := u) (v := v) (by grind) (by grind) hu hv
    have ex : n1 * n2 * (u + v) * (s.x - a.x) - (u * (n2 * m1) + v * (n1 * m2)) * (c.x - a.x) = u * (n2 * (n1 * (p.x - a.x) - m1 * (c.x - a.x))) + v * (n1 * (n2 * (q.x - a.x) - m2 * (c.x - a.x))) := by
      have : n1 * n2 * (u + v) * (s.x - a.x) = n1 * n2 * ((u + v) * s.x) - n1 * n2 * (u + v) * a.x := by grind
      rw [this, hx]; grind
    have ey : n1 * n2 * (u + v) * (s.y - a.y) - (u * (n2 * m1) + v * (n1 * m2)) * (c.y - a.y) = u * (n2 * (n1 * (p.y - a.y) - m1 * (c.y - a.y))) + v * (n1 * (n2 * (q.y - a.y) - m2 * (c.y - a.y))) := by
      have : n1 * n2 * (u + v) * (s.y - a.y) = n1 * n2 * ((u + v) * s.y) - n1 * n2 * (u + v) * a.y := by grind
      rw [this, hy]; grind
    rw [ex, ey]
    have er : n1 * n2 * (u + v) * (n1 * n2 * (u + v)) * R = (u + v) * (u + v) * (n1 * n1 * (n2 * n2) * R) := by grind
    rw [er]; exact cv
theorem onS_row {x0 x1 x y : Int} {a c : P2} {R : Int} (h0 : OnS ⟨x0, y⟩ a c R) (h1 : OnS ⟨x1, y⟩ a c R) (hl : x0 ≤ x) (hr : x ≤ x1) : OnS ⟨x, y⟩ a c R := by
  by_cases k : x0 = x1
  · have : x = x0 := by omega
    rw [this]; exact h0
  · exact onS_mix (u := x1 - x) (v := x - x0) h0 h1 (by omega) (by omega) (by omega) (by dsimp only; grind) (by dsimp only; grind)
theorem onS_col {y0 y1 x y : Int} {a c : P2} {R : Int} (h0 : OnS ⟨x, y0⟩ a c R) (h1 : OnS ⟨x, y1⟩ a c R) (hl : y0 ≤ y) (hr : y ≤ y1) : OnS ⟨x, y⟩ a c R := by
  by_cases k : y0 = y1
  · have : y = y0 := by omega
    rw [this]; exact h0
  · exact onS_mix (u := y1 - y) (v := y - y0) h0 h1 (by omega) (by omega) (by omega) (by dsimp only; grind) (by dsimp only; grind)
theorem onS_in {b : B4} {q a c : P2} {R : Int} (hq : hasI b q) (h : ∀ k, isC b k → OnS k a c R) : OnS q a c R := by
  obtain ⟨h1, h2, h3, h4⟩ := hq
  exact onS_col (onS_row (h ⟨b.x0, b.y0⟩ ⟨.inl rfl, .inl rfl⟩) (h ⟨b.x1, b.y0⟩ ⟨.inr rfl, .inl rfl⟩) h1 h2) (onS_row (h ⟨b.x0, b.y1⟩ ⟨.inl rfl, .inr rfl⟩) (h ⟨b.x1, b.y1⟩ ⟨.inr rfl, .inr rfl⟩) h1 h2) h3 h4
theorem line_in {b : B4} {q a c : P2} {r : Int} (hq : hasI b q) (h : all4 (fun q => lineI q a c r) b = true) : lineI q a c r = true := by
  rw [lineI_iff]
  exact onS_in hq fun k hk => lineI_iff.1 (all4_iff.1 h k hk)
theorem onS_flip {p a c : P2} {R : Int} (h : OnS p a c R) : OnS p c a R := by
  obtain ⟨m, n, n0, m0, mn, d⟩ := h
  refine ⟨n - m, n, n0, by omega, by omega, ?_⟩
  have e1 : n * (p.x - c.x) - (n - m) * (a.x - c.x) = n * (p.x - a.x) - m * (c.x - a.x) := by grind
  have e2 : n * (p.y - c.y) - (n - m) * (a.y - c.y) = n * (p.y - a.y) - m * (c.y - a.y) := by grind
  rw [e1, e2]; exact d
theorem lineI_flip (p a c : P2) (r : Int) : lineI p c a r = lineI p a c r := by
  rw [Bool.eq_iff_iff, lineI_iff, lineI_iff]
  exact ⟨onS_flip, onS_flip⟩
/-! ### outside -/
/-- two points of a box, weighed, are no nearer than the box -/
theorem near_mix {b : B4} {p q k : P2} {u v : Int} (hq : hasI b q) (hk : hasI b k) (hu : 0 ≤ u) (hv : 0 ≤ v) :
    (u + v) * (u + v) * nearI b p ≤ (u * (q.x - p.x) + v * (k.x - p.x)) * (u * (q.x - p.x) + v * (k.x - p.x)) + (u * (q.y - p.y) + v * (k.y - p.y)) * (u * (q.y - p.y) + v * (k.y - p.y)) := by
  have one : ∀ w lo hi x y : Int, lo ≤ x → x ≤ hi → lo ≤ y → y ≤ hi → (u + v) * gapI w lo hi * ((u + v) * gapI w lo hi) ≤ (u * (x - w) + v * (y - w)) * (u * (x - w) + v * (y - w)) := fun w lo hi x y a1 a2 a3 a4 => by
    unfold gapI; split
    · rename_i g
      have e1 := Int.mul_le_mul_of_nonneg_left (show lo - w ≤ x - w by omega) hu
      have e2 := Int.mul_le_mul_of_nonneg_left (show lo - w ≤ y - w by omega) hv
      have e3 : (u + v) * (lo - w) = u * (lo - w) + v * (lo - w) := by grind
      have e4 := Int.mul_nonneg (show 0 ≤ u + v by omega) (show 0 ≤ lo - w by omega)
      exact sq_le (by omega) (by omega)
    · split
      · rename_i g
        have e1 := Int.mul_le_mul_of_nonneg_left (show w - hi ≤ w - x by omega) hu
        have e2 := Int.mul_le_mul_of_nonneg_left (show w - hi ≤ w - y by omega) hv
        have e3 : (u + v) * (w - hi) = u * (w - hi) + v * (w - hi) := by grind
        have e4 := Int.mul_nonneg (show 0 ≤ u + v by omega) (show 0 ≤ w - hi by omega)
        have e5 : (u * (x - w) + v * (y - w)) * (u * (x - w) + v * (y - w)) = (u * (w - x) + v * (w - y)) * (u * (w - x) + v * (w - y)) := by grind
        rw [e5]
        exact sq_le (by omega) (by omega)
      · have := sq_nn (u * (x - w) + v * (y - w))
        simpa using this
  obtain ⟨q1, q2, q3, q4⟩ := hq
  obtain ⟨k1, k2, k3, k4⟩ := hk
  have a := one p.x b.x0 b.x1 q.x k.x q1 q2 k1 k2
  have c := one p.y b.y0 b.y1 q.y k.y q3 q4 k3 k4
  unfold nearI
  generalize gapI p.x b.x0 b.x1 = G at *
  generalize gapI p.y b.y0 b.y1 = H at *
  have e : (u + v) * (u + v) * (G * G + H * H) = (u + v) * G * ((u + v) * G) + (u + v) * H * ((u + v) * H) := by grind
  omega
/-- what a box says when a point of it is in the stroke -/
def Told (b : B4) (a c : P2) (R : Int) : Prop := (∃ k, isC b k ∧ OnS k a c R) ∨ nearI b a ≤ R ∨ nearI b c ≤ R
/-- on the one side of the line -/
theorem told_side {b : B4} {q a c : P2} {r : Int} (hx : b.x0 ≤ b.x1) (hy : b.y0 ≤ b.y1) (hq : hasI b q) (hi : lineI q a c r = true) (hs : ∀ k, isC b k → crossI a c k > 0) : Told b a c (r * r) := by
  obtain ⟨k, hk, hl⟩ := cross_le a c hq
  have hk0 := hs k hk
  have hkb := isC_has hx hy hk
  have hL := dist_nn a c
  unfold lineI at hi
  by_cases k1 : dotI a c q ≤ 0
  · rw [if_pos k1, decide_eq_true_eq, distI_comm] at hi
    exact .inr (.inl (Int.le_trans (near_le hq) hi))
  · rw [if_neg k1] at hi
    by_cases k2 : dotI a c q ≥ distI a c
    · rw [if_pos k2, decide_eq_true_eq, distI_comm] at hi
      exact .inr (.inr (Int.le_trans (near_le hq) hi))
    · rw [if_neg k2] at hi
      unfold clear at hi
      rw [decide_eq_true_eq] at hi
      have s : ¬ same a c := fun x => by have := (dist_pos a c).2 x; omega
      have hLp : 0 < distI a c := by omega
      have mix : ∀ (o : P2) (u v : Int), 0 ≤ u → 0 ≤ v → 0 < u + v → (u * (q.x - o.x) + v * (k.x - o.x)) * (c.x - a.x) + (u * (q.y - o.y) + v * (k.y - o.y)) * (c.y - a.y) = 0 →
          (c.x - a.x) * (u * (q.y - o.y) + v * (k.y - o.y)) - (c.y - a.y) * (u * (q.x - o.x) + v * (k.x - o.x)) = u * crossI a c q + v * crossI a c k → nearI b o ≤ r * r := fun o u v hu hv huv hz hc => by
        have n := near_mix (p := o) hq hkb hu hv
        generalize u * (q.x - o.x) + v * (k.x - o.x) = X at *
        generalize u * (q.y - o.y) + v * (k.y - o.y) = Y at *
        have g1 : distI a c * (X * X + Y * Y) = (X * (c.x - a.x) + Y * (c.y - a.y)) * (X * (c.x - a.x) + Y * (c.y - a.y)) + ((c.x - a.x) * Y - (c.y - a.y) * X) * ((c.x - a.x) * Y - (c.y - a.y) * X) := by unfold distI; grind
        rw [hz, hc] at g1
        have g2 : u * crossI a c q + v * crossI a c k ≤ (u + v) * crossI a c q := by
          have := Int.mul_le_mul_of_nonneg_left hl hv
          have e : (u + v) * crossI a c q = u * crossI a c q + v * crossI a c q := by grind
          omega
        have g3 : 0 ≤ u * crossI a c q + v * crossI a c k := by
          have := Int.mul_nonneg hu (show 0 ≤ crossI a c q by omega)
          have := Int.mul_nonneg hv (show 0 ≤ crossI a c k by omega)
          omega
        have g4 := sq_le (x := u * crossI a c q + v * crossI a c k) (y := (u + v) * crossI a c q) (by omega) g2
        have g5 := Int.mul_le_mul_of_nonneg_left hi (Int.le_of_lt (sq_pos huv))
        have g6 : distI a c * (X * X + Y * Y) ≤ distI a c * ((u + v) * (u + v) * (r * r)) := by
          have e1 : (u + v) * crossI a c q * ((u + v) * crossI a c q) = (u + v) * (u + v) * (crossI a c q * crossI a c q) := by grind
          have e2 : (u + v) * (u + v) * (r * r * distI a c) = distI a c * ((u + v) * (u + v) * (r * r)) := by grind
          omega
        have g7 := Int.le_of_mul_le_mul_left g6 hLp
        exact Int.le_of_mul_le_mul_left (a := (u + v) * (u + v)) (by omega) (sq_pos huv)
      by_cases k3 : dotI a c k < 0
      · refine .inr (.inl (mix a (-dotI a c k) (dotI a c q) (by omega) (by omega) (by omega) ?_ ?_))
        · unfold dotI; grind
        · unfold crossI; grind
      · by_cases k4 : dotI a c k > distI a c
        · refine .inr (.inr (mix c (dotI a c k - distI a c) (distI a c - dotI a c q) (by omega) (by omega) (by omega) ?_ ?_))
          · unfold dotI distI; grind
          · unfold crossI; grind
        · refine .inl ⟨k, hk, lineI_iff.1 ?_⟩
          rw [lineI_bar s (by omega) (by omega)]
          unfold clear
          rw [decide_eq_true_eq]
          have := sq_le (x := crossI a c k) (y := crossI a c q) (by omega) hl
          omega
/-- the segment is left of the box, its right end is above it -/
theorem sep_core {ax ay vx vy qx qy X0 Y1 m n R : Int} (hv : 0 ≤ vx) (h1 : ax + vx < X0) (h2 : X0 ≤ qx) (h3 : qy ≤ Y1) (h4 : Y1 < ay + vy) (n0 : 0 < n) (m0 : 0 ≤ m) (mn : m ≤ n)
    (d : (n * (qx - ax) - m * vx) * (n * (qx - ax) - m * vx) + (n * (qy - ay) - m * vy) * (n * (qy - ay) - m * vy) ≤ n * n * R) :
    ∃ m' n', 0 < n' ∧ 0 ≤ m' ∧ m' ≤ n' ∧ (n' * (X0 - ax) - m' * vx) * (n' * (X0 - ax) - m' * vx) + (n' * (Y1 - ay) - m' * vy) * (n' * (Y1 - ay) - m' * vy) ≤ n' * n' * R := by
  have mv : m * vx ≤ n * vx := Int.mul_le_mul_of_nonneg_right mn hv
  have x1 : n * (ax + vx) < n * X0 := Int.mul_lt_mul_of_pos_left h1 n0
  have x2 : n * X0 ≤ n * qx := Int.mul_le_mul_of_nonneg_left h2 (by omega)
  have y2 : n * qy ≤ n * Y1 := Int.mul_le_mul_of_nonneg_left h3 (by omega)
  have ea : n * (ax + vx) = n * ax + n * vx := by grind
  have eb : n * (X0 - ax) = n * X0 - n * ax := by grind
  have ec : n * (qx - ax) = n * qx - n * ax := by grind
  have ed : n * (Y1 - ay) = n * Y1 - n * ay := by grind
  have ee : n * (qy - ay) = n * qy - n * ay := by grind
  have hX0 : 0 ≤ n * (X0 - ax) - m * vx := by omega
  have hX : n * (X0 - ax) - m * vx ≤ n * (qx - ax) - m * vx := by omega
  by_cases k : n * Y1 ≤ n * ay + m * vy
  · refine ⟨m, n, n0, m0, mn, ?_⟩
    have s1 := sq_le (x := n * (X0 - ax) - m * vx) (y := n * (qx - ax) - m * vx) (by omega) hX
    have s2 := sq_le (x := -(n * (Y1 - ay) - m * vy)) (y := -(n * (qy - ay) - m * vy)) (by omega) (by omega)
    have e1 : -(n * (Y1 - ay) - m * vy) * -(n * (Y1 - ay) - m * vy) = (n * (Y1 - ay) - m * vy) * (n * (Y1 - ay) - m * vy) := by grind
    have e2 : -(n * (qy - ay) - m * vy) * -(n * (qy - ay) - m * vy) = (n * (qy - ay) - m * vy) * (n * (qy - ay) - m * vy) := by grind
    omega
  · have y1 : n * Y1 < n * (ay + vy) := Int.mul_lt_mul_of_pos_left h4 n0
    have ef : n * (ay + vy) = n * ay + n * vy := by grind
    have hnm : 0 < (n - m) * vy := by
      have : (n - m) * vy = n * vy - m * vy := by grind
      omega
    have hvy : 0 < vy := by
      rcases Int.lt_or_le 0 vy with g | g
      · exact g
      · have := Int.mul_nonneg (show 0 ≤ n - m by omega) (show 0 ≤ -vy by omega)
        have e : (n - m) * -vy = -((n - m) * vy) := by grind
        omega
    have hmy : 0 ≤ m * vy := Int.mul_nonneg m0 (by omega)
    have hay : ay ≤ Y1 := by
      have : n * ay ≤ n * Y1 := by omega
      exact Int.le_of_mul_le_mul_left this n0
    refine ⟨Y1 - ay, vy, hvy, by omega, by omega, ?_⟩
    have z : vy * (Y1 - ay) - (Y1 - ay) * vy = 0 := by grind
    rw [z]
    have w0 : 0 ≤ vy * (X0 - ax) - (Y1 - ay) * vx := by
      have t1 := Int.mul_le_mul_of_nonneg_right (show Y1 - ay ≤ vy by omega) hv
      have t2 := Int.mul_nonneg (show 0 ≤ vy by omega) (show 0 ≤ X0 - ax - vx by omega)
      have e : vy * (X0 - ax - vx) = vy * (X0 - ax) - vy * vx := by grind
      omega
    have w1 : n * (vy * (X0 - ax) - (Y1 - ay) * vx) ≤ vy * (n * (qx - ax) - m * vx) := by
      have t1 := Int.mul_le_mul_of_nonneg_right (show m * vy ≤ n * (Y1 - ay) by omega) hv
      have t2 := Int.mul_le_mul_of_nonneg_left hX (show 0 ≤ vy by omega)
      have e1 : n * (vy * (X0 - ax) - (Y1 - ay) * vx) = vy * (n * (X0 - ax)) - n * (Y1 - ay) * vx := by grind
      have e2 : vy * (n * (X0 - ax) - m * vx) = vy * (n * (X0 - ax)) - m * vy * vx := by grind
      omega
    have w2 := sq_le (x := n * (vy * (X0 - ax) - (Y1 - ay) * vx)) (y := vy * (n * (qx - ax) - m * vx)) (by have := Int.mul_nonneg (show 0 ≤ n by omega) w0; omega) w1
    have w3 := sq_nn (n * (qy - ay) - m * vy)
    have w4 := Int.mul_le_mul_of_nonneg_left (show (n * (qx - ax) - m * vx) * (n * (qx - ax) - m * vx) ≤ n * n * R by omega) (Int.le_of_lt (sq_pos hvy))
    refine Int.le_of_mul_le_mul_left (a := n * n) ?_ (sq_pos n0)
    generalize vy * (X0 - ax) - (Y1 - ay) * vx = F at *
    generalize n * (qx - ax) - m * vx = G at *
    have e1 : n * F * (n * F) = n * n * (F * F) := by grind
    have e2 : vy * G * (vy * G) = vy * vy * (G * G) := by grind
    have e3 : n * n * (vy * vy * R) = vy * vy * (n * n * R) := by grind
    simp only [Int.mul_zero, Int.add_zero]
    omega
theorem told_left0 {b : B4} {q a c : P2} {R : Int} (hx : b.x0 ≤ b.x1) (hq : hasI b q) (hi : OnS q a c R) (hac : a.x ≤ c.x) (h : c.x < b.x0) : Told b a c R := by
  obtain ⟨m, n, n0, m0, mn, d⟩ := hi
  obtain ⟨q1, q2, q3, q4⟩ := hq
  by_cases k1 : b.y1 < c.y
  · obtain ⟨m', n', a1, a2, a3, a4⟩ := sep_core (vx := c.x - a.x) (vy := c.y - a.y) (X0 := b.x0) (Y1 := b.y1) (by omega) (by omega) q1 q4 (by omega) n0 m0 mn d
    exact .inl ⟨⟨b.x0, b.y1⟩, ⟨.inl rfl, .inr rfl⟩, m', n', a1, a2, a3, a4⟩
  · by_cases k2 : c.y < b.y0
    · have d' : (n * (q.x - a.x) - m * (c.x - a.x)) * (n * (q.x - a.x) - m * (c.x - a.x)) + (n * (-q.y - -a.y) - m * (-(c.y - a.y))) * (n * (-q.y - -a.y) - m * (-(c.y - a.y))) ≤ n * n * R := by
        have e : n * (-q.y - -a.y) - m * (-(c.y - a.y)) = -(n * (q.y - a.y) - m * (c.y - a.y)) := by grind
        rw [e, Int.neg_mul_neg]; exact d
      obtain ⟨m', n', a1, a2, a3, a4⟩ := sep_core (vx := c.x - a.x) (vy := -(c.y - a.y)) (X0 := b.x0) (Y1 := -b.y0) (by omega) (by omega) q1 (by omega) (by omega) n0 m0 mn d'
      refine .inl ⟨⟨b.x0, b.y0⟩, ⟨.inl rfl, .inl rfl⟩, m', n', a1, a2, a3, ?_⟩
      have e : n' * (-b.y0 - -a.y) - m' * (-(c.y - a.y)) = -(n' * (b.y0 - a.y) - m' * (c.y - a.y)) := by grind
      rw [e, Int.neg_mul_neg] at a4
      exact a4
    · refine .inr (.inr ?_)
      have e1 : gapI c.x b.x0 b.x1 = b.x0 - c.x := by unfold gapI; rw [if_pos h]
      have e2 : gapI c.y b.y0 b.y1 = 0 := by unfold gapI; rw [if_neg (by omega), if_neg (by omega)]
      unfold nearI
      rw [e1, e2]
      have t1 := Int.mul_le_mul_of_nonneg_right mn (show 0 ≤ c.x - a.x by omega)
      have t2 := Int.mul_le_mul_of_nonneg_left q1 (show 0 ≤ n by omega)
      have ea : n * (q.x - a.x) = n * q.x - n * a.x := by grind
      have eb : n * (c.x - a.x) = n * c.x - n * a.x := by grind
      have ec : n * (b.x0 - c.x) = n * b.x0 - n * c.x := by grind
      have s := sq_le (x := n * (b.x0 - c.x)) (y := n * (q.x - a.x) - m * (c.x - a.x)) (by have := Int.mul_nonneg (show 0 ≤ n by omega) (show 0 ≤ b.x0 - c.x by omega); omega) (by omega)
      have w := sq_nn (n * (q.y - a.y) - m * (c.y - a.y))
      refine Int.le_of_mul_le_mul_left (a := n * n) ?_ (sq_pos n0)
      have e3 : n * (b.x0 - c.x) * (n * (b.x0 - c.x)) = n * n * ((b.x0 - c.x) * (b.x0 - c.x) + 0 * 0) := by grind
      omega
theorem told_flip {b : B4} {a c : P2} {R : Int} (h : Told b c a R) : Told b a c R := by
  rcases h with ⟨k, hk, hs⟩ | h | h
  · exact .inl ⟨k, hk, onS_flip hs⟩
  · exact .inr (.inr h)
  · exact .inr (.inl h)
theorem told_left {b : B4} {q a c : P2} {R : Int} (hx : b.x0 ≤ b.x1) (hq : hasI b q) (hi : OnS q a c R) (h1 : a.x < b.x0) (h2 : c.x < b.x0) : Told b a c R := by
  rcases Int.le_total a.x c.x with k | k
  · exact told_left0 hx hq hi k h2
  · exact told_flip (told_left0 hx hq (onS_flip hi) k h1)
def ngX (p : P2) : P2 := ⟨-p.x, p.y⟩
def ngB (b : B4) : B4 := ⟨-b.x1, b.y0, -b.x0, b.y1⟩
def swP (p : P2) : P2 := ⟨p.y, p.x⟩
def swB (b : B4) : B4 := ⟨b.y0, b.x0, b.y1, b.x1⟩
theorem onS_ng {p a c : P2} {R : Int} (h : OnS p a c R) : OnS (ngX p) (ngX a) (ngX c) R := by
  obtain ⟨m, n, n0, m0, mn, d⟩ := h
  refine ⟨m, n, n0, m0, mn, ?_⟩
  unfold ngX; dsimp only
  have e : n * (-p.x - -a.x) - m * (-c.x - -a.x) = -(n * (p.x - a.x) - m * (c.x - a.x)) := by grind
  rw [e, Int.neg_mul_neg]; exact d
theorem onS_sw {p a c : P2} {R : Int} (h : OnS p a c R) : OnS (swP p) (swP a) (swP c) R := by
  obtain ⟨m, n, n0, m0, mn, d⟩ := h
  refine ⟨m, n, n0, m0, mn, ?_⟩
  unfold swP; dsimp only; omega
theorem told_ng {b : B4} {a c : P2} {R : Int} (hx : b.x0 ≤ b.x1) (h : Told (ngB b) (ngX a) (ngX c) R) : Told b a c R := by
  have e : ∀ p, nearI (ngB b) (ngX p) = nearI b p := fun p => by unfold nearI ngB ngX; dsimp only; rw [gapI_neg _ _ _ hx]
  rcases h with ⟨k, ⟨h1, h2⟩, hs⟩ | h | h
  · refine .inl ⟨ngX k, ⟨?_, h2⟩, ?_⟩
    · unfold ngX; unfold ngB at h1; dsimp only at *; omega
    · have := onS_ng hs
      unfold ngX at this ⊢; simpa using this
  · rw [e] at h; exact .inr (.inl h)
  · rw [e] at h; exact .inr (.inr h)
theorem told_sw {b : B4} {a c : P2} {R : Int} (h : Told (swB b) (swP a) (swP c) R) : Told b a c R := by
  have e : ∀ p, nearI (swB b) (swP p) = nearI b p := fun p => by unfold nearI swB swP; dsimp only; omega
  rcases h with ⟨k, ⟨h1, h2⟩, hs⟩ | h | h
  · exact .inl ⟨swP k, ⟨h2, h1⟩, onS_sw hs⟩
  · rw [e] at h; exact .inr (.inl h)
  · rw [e] at h; exact .inr (.inr h)
theorem has_ng {b : B4} {q : P2} (h : hasI b q) : hasI (ngB b) (ngX q) := by
  obtain ⟨h1, h2, h3, h4⟩ := h
  exact ⟨by unfold ngB ngX; dsimp only; omega, by unfold ngB ngX; dsimp only; omega, h3, h4⟩
theorem has_sw {b : B4} {q : P2} (h : hasI b q) : hasI (swB b) (swP q) := by
  obtain ⟨h1, h2, h3, h4⟩ := h
  exact ⟨h3, h4, h1, h2⟩
theorem told_right {b : B4} {q a c : P2} {R : Int} (hx : b.x0 ≤ b.x1) (hq : hasI b q) (hi : OnS q a c R) (h1 : b.x1 < a.x) (h2 : b.x1 < c.x) : Told b a c R :=
  told_ng hx (told_left (b := ngB b) (a := ngX a) (c := ngX c) (by unfold ngB; dsimp only; omega) (has_ng hq) (onS_ng hi) (by unfold ngB ngX; dsimp only; omega) (by unfold ngB ngX; dsimp only; omega))
/-- a box of which a point is in the stroke says so -/
theorem told_of {b : B4} {q a c : P2} {r : Int} (hx : b.x0 ≤ b.x1) (hy : b.y0 ≤ b.y1) (hq : hasI b q) (hi : lineI q a c r = true) (hm : meetsI b a c = false) : Told b a c (r * r) := by
  have ho := lineI_iff.1 hi
  unfold meetsI at hm
  cases hs : sepI b a c
  · rw [hs] at hm
    simp only [Bool.not_false, Bool.true_and, Bool.and_eq_false_iff, Bool.not_eq_false'] at hm
    rcases hm with hm | hm
    · exact told_side hx hy hq hi fun k hk => by have := all4_iff.1 hm k hk; simpa using this
    · refine told_flip (told_side hx hy hq (by rw [lineI_flip]; exact hi) fun k hk => ?_)
      have := all4_iff.1 hm k hk
      simp only [decide_eq_true_eq] at this
      rw [(flips a c k).1]; omega
  · unfold sepI at hs
    simp only [Bool.or_eq_true, decide_eq_true_eq] at hs
    rcases hs with ((hs | hs) | hs) | hs
    · exact told_left hx hq ho (by omega) (by omega)
    · exact told_right hx hq ho (by omega) (by omega)
    · exact told_sw (told_left (b := swB b) (a := swP a) (c := swP c) hy (has_sw hq) (onS_sw ho) (by unfold swB swP; dsimp only; omega) (by unfold swB swP; dsimp only; omega))
    · exact told_sw (told_right (b := swB b) (a := swP a) (c := swP c) hy (has_sw hq) (onS_sw ho) (by unfold swB swP; dsimp only; omega) (by unfold swB swP; dsimp only; omega))
theorem line_out {b : B4} {q a c : P2} {r : Int} (hx : b.x0 ≤ b.x1) (hy : b.y0 ≤ b.y1) (hq : hasI b q) (hk : lineCl b a c r = 0) : lineI q a c r = false := by
  cases hi : lineI q a c r
  · rfl
  · exfalso
    unfold lineCl at hk
    cases h4 : all4 (fun q => lineI q a c r) b
    · rw [h4] at hk
      simp only [Bool.false_eq_true, if_false] at hk
      cases hc : (any4 (fun q => lineI q a c r) b || decide (nearI b a ≤ r * r) || decide (nearI b c ≤ r * r) || meetsI b a c)
      · simp only [Bool.or_eq_false_iff, decide_eq_false_iff_not] at hc
        obtain ⟨⟨⟨c1, c2⟩, c3⟩, c4⟩ := hc
        rcases told_of hx hy hq hi c4 with ⟨k, hk, hs⟩ | h | h
        · have : any4 (fun q => lineI q a c r) b = true := any4_iff.2 ⟨k, hk, lineI_iff.2 hs⟩
          rw [this] at c1; cases c1
        · exact c2 h
        · exact c3 h
      · rw [hc] at hk; simp at hk
    · rw [h4] at hk; simp at hk
end Go.Proofs.Ythnenjodighlmaa

/-! ## Bau -/
namespace Go.Proofs.Ythnenjodighlmaa
open Go Go.RowKit Sym
set_option maxRecDepth 100000

end Go.Proofs.Ythnenjodighlmaa

/-! ## Lis -/
namespace Go.Proofs.Ythnenjodighlmaa
open Go Go.RowKit Sym
set_option maxRecDepth 100000

theorem all_any {f : P2 → Bool} {b : B4} (h : all4 f b = true) : any4 f b = true := any4_iff.2 ⟨⟨b.x0, b.y0⟩, ⟨.inl rfl, .inl rfl⟩, all4_iff.1 h _ ⟨.inl rfl, .inl rfl⟩⟩
theorem lineCl_012 (b : B4) (a c : P2) (r : Int) : lineCl b a c r = 0 ∨ lineCl b a c r = 1 ∨ lineCl b a c r = 2 := by
  unfold lineCl; split
  · simp
  · split <;> simp
theorem lineCl_two {b : B4} {a c : P2} {r : Int} : lineCl b a c r = 2 ↔ all4 (fun q => lineI q a c r) b = true := by
  unfold lineCl; split
  · simp_all
  · split <;> simp_all
theorem lineCl_hit {b : B4} {a c : P2} {r : Int} : lineCl b a c r ≠ 0 ↔ (any4 (fun q => lineI q a c r) b = true ∨ nearI b a ≤ r * r ∨ nearI b c ≤ r * r ∨ meetsI b a c = true) := by
  unfold lineCl
  split
  · rename_i h
    exact ⟨fun _ => .inl (all_any h), fun _ => by decide⟩
  · split
    · rename_i h
      simp only [Bool.or_eq_true, decide_eq_true_eq, or_assoc] at h
      exact ⟨fun _ => h, fun _ => by decide⟩
    · rename_i h
      simp only [Bool.or_eq_true, decide_eq_true_eq, or_assoc] at h
      exact ⟨fun k => absurd rfl k, fun k => absurd k h⟩
theorem hit_of {b : B4} {q a c : P2} {r : Int} (hx : b.x0 ≤ b.x1) (hy : b.y0 ≤ b.y1) (hq : hasI b q) (hi : lineI q a c r = true) : lineCl b a c r ≠ 0 := fun k => by
  rw [line_out hx hy hq k] at hi; cases hi
/-! ### LineTells -/
/-! ### LineSure -/
/-! ### LineMeans -/
/-! ### LineThick -/
end Go.Proofs.Ythnenjodighlmaa

/-! ## Lit -/
namespace Go.Proofs.Ythnenjodighlmaa
open Go Go.RowKit Sym
set_option maxRecDepth 100000

end Go.Proofs.Ythnenjodighlmaa

/-! ## Rin -/
namespace Go.Proofs.Ythnenjodighlmaa
open Go Go.RowKit Sym
set_option maxRecDepth 100000

/-! ### arcs of the laws -/
def circX (i : Int) : Int :=
  bif decide (i = ((0 : Nat) : Int)) then 5 else bif decide (i = ((1 : Nat) : Int)) then 4 else bif decide (i = ((2 : Nat) : Int)) then 3 else bif decide (i = ((3 : Nat) : Int)) then 0 else bif decide (i = ((4 : Nat) : Int)) then -3 else bif decide (i = ((5 : Nat) : Int)) then -4 else
  bif decide (i = ((6 : Nat) : Int)) then -5 else bif decide (i = ((7 : Nat) : Int)) then -4 else bif decide (i = ((8 : Nat) : Int)) then -3 else bif decide (i = ((9 : Nat) : Int)) then 0 else bif decide (i = ((10 : Nat) : Int)) then 3 else 4
def circY (i : Int) : Int :=
  bif decide (i = ((0 : Nat) : Int)) then 0 else bif decide (i = ((1 : Nat) : Int)) then 3 else bif decide (i = ((2 : Nat) : Int)) then 4 else bif decide (i = ((3 : Nat) : Int)) then 5 else bif decide (i = ((4 : Nat) : Int)) then 4 else bif decide (i = ((5 : Nat) : Int)) then 3 else
  bif decide (i = ((6 : Nat) : Int)) then 0 else bif decide (i = ((7 : Nat) : Int)) then -3 else bif decide (i = ((8 : Nat) : Int)) then -4 else bif decide (i = ((9 : Nat) : Int)) then -5 else bif decide (i = ((10 : Nat) : Int)) then -4 else -3
def arcI (f : Int) : Int := (band f 255).tmod 12
def arcK0 (s : Int) : Int := W (W ((U s).tmod 20000000) + 1)
def arcK1 (s : Int) : Int := W (band (arcK0 s) 3 + 1)
def arcC0 (c : P2) : P2 := lClose c 400000000
def arcC1 (c : P2) : P2 := lClose (arcC0 c) 15
def arcC (c : P2) (sm : Bool) : P2 := ⟨bif sm then (arcC1 c).x else (arcC0 c).x, bif sm then (arcC1 c).y else (arcC0 c).y⟩
def arcAt (c : P2) (f s : Int) (sm : Bool) : P2 :=
  ⟨bif sm then W ((arcC1 c).x + W (arcK1 s * circX (arcI f))) else W ((arcC0 c).x + W (arcK0 s * circX (arcI f))), bif sm then W ((arcC1 c).y + W (arcK1 s * circY (arcI f))) else W ((arcC0 c).y + W (arcK0 s * circY (arcI f)))⟩
theorem band255 (x : Int) : 0 ≤ band x 255 ∧ band x 255 ≤ 255 := by
  have h : (BitVec.ofInt 64 x &&& BitVec.ofInt 64 255).toNat ≤ 255 := by
    rw [BitVec.toNat_and]
    exact Nat.le_trans Nat.and_le_right (by decide)
  unfold band
  rw [W_id (by omega) (by omega)]
  omega
theorem arcI_bd (f : Int) : 0 ≤ arcI f ∧ arcI f < 12 := by
  have a := band255 f
  have b := Int.tmod_nonneg (a := band f 255) 12 a.1
  have c := (tmod_bd (band f 255) (n := 12) (by decide)).2
  unfold arcI; omega
def arcIx (f : Int) : Prop := 0 ≤ arcI f ∧ arcI f < ((12 : Nat) : Int)
theorem n16 : W (15 + 1) ≠ 0 := by decide
theorem n4e8 : W (400000000 + 1) ≠ 0 := by decide
theorem arc_ok (c : P2) (f t s : Int) (sm : Bool) : CallOk Try.prog 37 [pt c, vi f, vi t, vi s, vb sm] (.tuple ⟨[pt (arcC c sm), pt (arcAt c f s sm), pt (arcAt c t s sm)]⟩) :=
  fnOkS (fuel := 16) (tbOf_ok tbA_ok) mo Try.func37 (by kernel_rfl) (by kernel_rfl) (by kernel_rfl)
    (show _ = [arcIx f, arcIx t, W (400000000 + 1) ≠ 0, sm = true → W (15 + 1) ≠ 0] by kernel_rfl) ⟨arcI_bd f, arcI_bd t, n4e8, fun _ => n16, trivial⟩
/-- what an arc is: a centre, k times two of the points of the circle of 5 -/
structure Circ (u : P2) : Prop where
  x : -5 ≤ u.x ∧ u.x ≤ 5
  y : -5 ≤ u.y ∧ u.y ≤ 5
  n : u.x * u.x + u.y * u.y = 25
def circ (f : Int) : P2 := ⟨circX (arcI f), circY (arcI f)⟩
theorem circ_ok (f : Int) : Circ (circ f) := by
  have h := arcI_bd f
  have : arcI f = 0 ∨ arcI f = 1 ∨ arcI f = 2 ∨ arcI f = 3 ∨ arcI f = 4 ∨ arcI f = 5 ∨ arcI f = 6 ∨ arcI f = 7 ∨ arcI f = 8 ∨ arcI f = 9 ∨ arcI f = 10 ∨ arcI f = 11 := by omega
  unfold circ
  rcases this with h | h | h | h | h | h | h | h | h | h | h | h <;> rw [h] <;> exact ⟨by decide, by decide, by decide⟩
theorem arcK0_bd (s : Int) : 1 ≤ arcK0 s ∧ arcK0 s ≤ 20000000 := by
  have h0 : 0 ≤ U s := by rw [U_eq]; omega
  have a := Int.tmod_nonneg (a := U s) 20000000 h0
  have b := (tmod_bd (U s) (n := 20000000) (by decide)).2
  unfold arcK0
  rw [W_id (x := (U s).tmod 20000000) (by omega) (by omega), W_id (by omega) (by omega)]; omega
theorem arcK1_bd (s : Int) : 1 ≤ arcK1 s ∧ arcK1 s ≤ 4 := by
  have a := band3 (arcK0 s)
  unfold arcK1; rw [W_id (by omega) (by omega)]; omega
def arcK (s : Int) (sm : Bool) : Int := bif sm then arcK1 s else arcK0 s
theorem arcK_bd (s : Int) (sm : Bool) : 1 ≤ arcK s sm ∧ arcK s sm ≤ 20000000 := by
  have a := arcK0_bd s; have b := arcK1_bd s
  cases sm
  · exact a
  · exact ⟨b.1, by show arcK1 s ≤ _; omega⟩
theorem arcC_r (c : P2) (sm : Bool) : (-400000000 ≤ (arcC c sm).x ∧ (arcC c sm).x ≤ 400000000) ∧ (-400000000 ≤ (arcC c sm).y ∧ (arcC c sm).y ≤ 400000000) := by
  have a := lClose_r c (n := 400000000) (by decide) (by decide)
  have b := lClose_r (arcC0 c) (n := 15) (by decide) (by decide)
  cases sm
  · exact a
  · show (_ ≤ (arcC1 c).x ∧ (arcC1 c).x ≤ _) ∧ (_ ≤ (arcC1 c).y ∧ (arcC1 c).y ≤ _)
    unfold arcC1; omega
theorem arcC_s (c : P2) : (-15 ≤ (arcC c true).x ∧ (arcC c true).x ≤ 15) ∧ (-15 ≤ (arcC c true).y ∧ (arcC c true).y ≤ 15) := lClose_r (arcC0 c) (n := 15) (by decide) (by decide)
/-- the point of the arc, without wraps -/
def onC (c : P2) (k : Int) (u : P2) : P2 := ⟨c.x + k * u.x, c.y + k * u.y⟩
theorem arcAt_eq (c : P2) (f s : Int) (sm : Bool) : arcAt c f s sm = onC (arcC c sm) (arcK s sm) (circ f) := by
  have h := circ_ok f
  have kk := arcK_bd s sm
  have cc := arcC_r c sm
  have x := mul_bd (A := 20000000) (B := 5) (x := arcK s sm) (y := (circ f).x) (by omega) (by omega) h.x.1 h.x.2
  have y := mul_bd (A := 20000000) (B := 5) (x := arcK s sm) (y := (circ f).y) (by omega) (by omega) h.y.1 h.y.2
  have e : arcAt c f s sm = ⟨W ((arcC c sm).x + W (arcK s sm * (circ f).x)), W ((arcC c sm).y + W (arcK s sm * (circ f).y))⟩ := by cases sm <;> rfl
  rw [e, W_id (x := arcK s sm * (circ f).x) (by omega) (by omega), W_id (x := arcK s sm * (circ f).y) (by omega) (by omega), W_id (by omega) (by omega), W_id (by omega) (by omega)]
  rfl
theorem onC_r {c : P2} {k : Int} {u : P2} (hc : (-400000000 ≤ c.x ∧ c.x ≤ 400000000) ∧ (-400000000 ≤ c.y ∧ c.y ≤ 400000000)) (hk : 1 ≤ k ∧ k ≤ 20000000) (hu : Circ u) : PR (onC c k u) ∧ distI (onC c k u) c = 25 * (k * k) := by
  have x := mul_bd (A := 20000000) (B := 5) (x := k) (y := u.x) (by omega) (by omega) hu.x.1 hu.x.2
  have y := mul_bd (A := 20000000) (B := 5) (x := k) (y := u.y) (by omega) (by omega) hu.y.1 hu.y.2
  refine ⟨⟨⟨by unfold onC; dsimp only; omega, by unfold onC; dsimp only; omega⟩, ⟨by unfold onC; dsimp only; omega, by unfold onC; dsimp only; omega⟩⟩, ?_⟩
  have e : distI (onC c k u) c = k * k * (u.x * u.x + u.y * u.y) := by unfold distI onC; dsimp only; grind
  rw [e, hu.n]; omega

/-! ### rings -/
def outI (d rr r : Int) : Bool := decide (rr - r * r - d ≤ 0 ∨ (rr - r * r - d) * (rr - r * r - d) ≤ 4 * d * (r * r))
def insI (d rr r : Int) : Bool := decide (d - rr - r * r ≤ 0 ∨ (d - rr - r * r) * (d - rr - r * r) ≤ 4 * rr * (r * r))
theorem outside_eq {d rr r : Int} (h0 : 0 ≤ d) (h1 : d ≤ 4000000000000000000) (h2 : 0 ≤ rr) (h3 : rr ≤ 4000000000000000000) (h4 : 1 ≤ r) (h5 : r ≤ 1073741824) : outside d rr r = outI d rr r := by
  have s := sq_bd (A := 1073741824) (x := r) (by omega) h5
  unfold outside outI
  rw [square_eq (by omega) (by omega), W_id (x := rr - r * r) (by omega) (by omega), W_id (x := rr - r * r - d) (by omega) (by omega), U_id (x := d) (by omega) (by omega), U_id (x := 4 * d) (by omega) (by omega), U_id (x := r * r) (by omega) (by omega)]
  dsimp only
  rw [wle (by omega) (by omega) ⟨by omega, by omega⟩ ⟨by omega, by omega⟩, orB_eq, ← Bool.decide_or]
theorem inside_eq {d rr r : Int} (h0 : 0 ≤ d) (h1 : d ≤ 4000000000000000000) (h2 : 0 ≤ rr) (h3 : rr ≤ 4000000000000000000) (h4 : 1 ≤ r) (h5 : r ≤ 1073741824) : inside d rr r = insI d rr r := by
  have s := sq_bd (A := 1073741824) (x := r) (by omega) h5
  unfold inside insI
  rw [square_eq (by omega) (by omega), W_id (x := d - rr) (by omega) (by omega), W_id (x := d - rr - r * r) (by omega) (by omega), U_id (x := rr) (by omega) (by omega), U_id (x := 4 * rr) (by omega) (by omega), U_id (x := r * r) (by omega) (by omega)]
  dsimp only
  rw [wle (by omega) (by omega) ⟨by omega, by omega⟩ ⟨by omega, by omega⟩, orB_eq, ← Bool.decide_or]
theorem outI_mono {d d' rr r : Int} (h : d ≤ d') (k : outI d rr r = true) : outI d' rr r = true := by
  unfold outI at *
  rw [decide_eq_true_eq] at *
  by_cases z : rr - r * r - d' ≤ 0
  · exact .inl z
  · refine .inr ?_
    rcases k with k | k
    · omega
    · have a := sq_le (x := rr - r * r - d') (y := rr - r * r - d) (by omega) (by omega)
      have b := Int.mul_le_mul_of_nonneg_right (show 4 * d ≤ 4 * d' by omega) (sq_nn r)
      omega
theorem insI_mono {d d' rr r : Int} (h : d' ≤ d) (k : insI d rr r = true) : insI d' rr r = true := by
  unfold insI at *
  rw [decide_eq_true_eq] at *
  by_cases z : d' - rr - r * r ≤ 0
  · exact .inl z
  · refine .inr ?_
    rcases k with k | k
    · omega
    · have a := sq_le (x := d' - rr - r * r) (y := d - rr - r * r) (by omega) (by omega)
      omega
def sectI (p c a e : P2) : Bool :=
  decide (same a e) || (if crossI c a e < 0 then decide (crossI c a p ≥ 0) || decide (crossI c p e ≥ 0) else decide (crossI c a p ≥ 0) && decide (crossI c p e ≥ 0))
theorem sector_eq {p c a e : P2} (hp : PR p) (hc : PR c) (ha : PR a) (he : PR e) : sector p c a e = sectI p c a e := by
  unfold sector sectI ringGreat
  rw [ptEq_eq, (cross_eq hc ha he).1, (cross_eq hc ha hp).1, (cross_eq hc hp he).1, orB_eq, andB_eq]
  by_cases s : same a e
  · simp [s]
  · by_cases k : crossI c a e < 0 <;> simp [s, k]
def okI (c a e : P2) : Prop := distI a c ≠ 0 ∧ distI a c = distI e c
theorem ringOk_eq {c a e : P2} (hc : PR c) (ha : PR a) (he : PR e) : ringOk c a e = true ↔ okI c a e := by
  have e1 := near_eq (b := ⟨c.x, c.y, c.x, c.y⟩) ⟨hc.x, hc.y, hc.x, hc.y⟩ ha
  have e2 := near_eq (b := ⟨c.x, c.y, c.x, c.y⟩) ⟨hc.x, hc.y, hc.x, hc.y⟩ he
  unfold ringOk ringApart okI
  rw [e1.1, e2.1, dist_near, dist_near, andB_eq]
  simp
def ringI (p c a e : P2) (r : Int) : Bool := decide (distI p a ≤ r * r) || decide (distI p e ≤ r * r) || (sectI p c a e && outI (distI p c) (distI a c) r && insI (distI p c) (distI a c) r)
theorem ringHas_eq {p c a e : P2} {r : Int} (hp : PR p) (hc : PR c) (ha : PR a) (he : PR e) (ok : okI c a e) (h4 : 1 ≤ r) (h5 : r ≤ 1073741824) (hd : distI p c ≤ 4000000000000000000) (hr : distI a c ≤ 4000000000000000000) : ringHas p c a e r = ringI p c a e r := by
  have e1 := near_eq (b := ⟨c.x, c.y, c.x, c.y⟩) ⟨hc.x, hc.y, hc.x, hc.y⟩ hp
  have e2 := near_eq (b := ⟨c.x, c.y, c.x, c.y⟩) ⟨hc.x, hc.y, hc.x, hc.y⟩ ha
  unfold ringHas ringI
  rw [(ringOk_eq hc ha he).2 ok, decide_eq_false (show ¬ r < 1 by omega)]
  unfold ringApart
  rw [e1.1, e2.1, dist_near, dist_near, discHas_eq hp ha h4 (by omega), discHas_eq hp he h4 (by omega), sector_eq hp hc ha he, outside_eq (dist_nn _ _) hd (dist_nn _ _) hr h4 h5, inside_eq (dist_nn _ _) hd (dist_nn _ _) hr h4 h5]
  simp only [orB_eq, andB_eq, Bool.not_true, Bool.or_false, bif_f]
  cases (decide (distI p a ≤ r * r) || decide (distI p e ≤ r * r)) <;> rfl
/-- within the sector, off it -/
def liIn (b : B4) (c a e : P2) : Bool := decide (same a e) || (if crossI c a e < 0 then all4 (fun q => decide (crossI c a q ≥ 0)) b || all4 (fun q => decide (crossI c q e ≥ 0)) b else all4 (fun q => decide (crossI c a q ≥ 0)) b && all4 (fun q => decide (crossI c q e ≥ 0)) b)
def liOff (b : B4) (c a e : P2) : Bool := !(decide (same a e)) && (if crossI c a e < 0 then all4 (fun q => decide (crossI c a q < 0)) b && all4 (fun q => decide (crossI c q e < 0)) b else all4 (fun q => decide (crossI c a q < 0)) b || all4 (fun q => decide (crossI c q e < 0)) b)
theorem not_any (f : P2 → Bool) (b : B4) : (!(any4 f b)) = all4 (fun q => !(f q)) b := by
  unfold any4 all4
  dsimp only
  cases f ⟨b.x0, b.y0⟩ <;> cases f ⟨b.x1, b.y0⟩ <;> cases f ⟨b.x0, b.y1⟩ <;> cases f ⟨b.x1, b.y1⟩ <;> rfl
theorem lies_eq {b : B4} {c a e : P2} (hb : BR b) (hc : PR c) (ha : PR a) (he : PR e) : liesIn b c a e = liIn b c a e ∧ liesOff b c a e = liOff b c a e := by
  have u0 : all4 (fun q => !(decide (cross c a q < 0))) b = all4 (fun q => decide (crossI c a q ≥ 0)) b := all4_congr hb fun q hq => by rw [(cross_eq hc ha hq).1, ← decide_not]; exact decide_eq_decide.2 (by omega)
  have v0 : all4 (fun q => !(decide (cross c q e < 0))) b = all4 (fun q => decide (crossI c q e ≥ 0)) b := all4_congr hb fun q hq => by rw [(cross_eq hc hq he).1, ← decide_not]; exact decide_eq_decide.2 (by omega)
  have u4 : all4 (fun q => decide (cross c a q < 0)) b = all4 (fun q => decide (crossI c a q < 0)) b := all4_congr hb fun q hq => by rw [(cross_eq hc ha hq).1]
  have v4 : all4 (fun q => decide (cross c q e < 0)) b = all4 (fun q => decide (crossI c q e < 0)) b := all4_congr hb fun q hq => by rw [(cross_eq hc hq he).1]
  unfold liesIn liesOff liIn liOff ringGreat
  dsimp only
  rw [cnt4_none, cnt4_none, cnt4_all, cnt4_all, not_any, not_any, u0, v0, u4, v4, ptEq_eq, (cross_eq hc ha he).1]
  simp only [orB_eq, andB_eq]
  by_cases s : same a e
  · simp [s]
  · by_cases k : crossI c a e < 0 <;> simp [s, k]
def ringCl (b : B4) (c a e : P2) (r : Int) : Int :=
  if mostI b a ≤ r * r ∨ mostI b e ≤ r * r then 2 else
  if liIn b c a e && outI (nearI b c) (distI a c) r && insI (mostI b c) (distI a c) r then 2 else
  if nearI b a ≤ r * r ∨ nearI b e ≤ r * r then 1 else
  if liOff b c a e || !(insI (nearI b c) (distI a c) r) || !(outI (mostI b c) (distI a c) r) then 0 else 1
theorem near_most {b : B4} {p : P2} (hx : b.x0 ≤ b.x1) (hy : b.y0 ≤ b.y1) : nearI b p ≤ mostI b p := by
  have q1 : hasI b ⟨b.x0, b.y0⟩ := ⟨by simp, hx, by simp, hy⟩
  have := near_le (p := p) q1; have := most_ge (p := p) q1; omega
theorem ringClass_eq {b : B4} {c a e : P2} {r : Int} (hb : BR b) (hc : PR c) (ha : PR a) (he : PR e) (ok : okI c a e) (hx : b.x0 ≤ b.x1) (hy : b.y0 ≤ b.y1) (h4 : 1 ≤ r) (h5 : r ≤ 1073741824) (hd : mostI b c ≤ 4000000000000000000) (hr : distI a c ≤ 4000000000000000000) : ringClass b c a e r = ringCl b c a e r := by
  have e2 := near_eq (b := ⟨c.x, c.y, c.x, c.y⟩) ⟨hc.x, hc.y, hc.x, hc.y⟩ ha
  have hn := near_eq hb hc
  have hm := most_eq hb hc
  have nm := near_most (p := c) hx hy
  have na := near_most (p := a) hx hy
  have ne_ := near_most (p := e) hx hy
  have hh : boxHas b ⟨b.x0, b.y0⟩ = true := (boxHas_eq _ _).2 ⟨by simp, hx, by simp, hy⟩
  unfold ringClass ringCl
  rw [(ringOk_eq hc ha he).2 ok, decide_eq_false (show ¬ r < 1 by omega), hh]
  unfold ringApart
  rw [e2.1, dist_near, hn.1, hm.1, discClass_eq hb ha hx hy h4 (by omega), discClass_eq hb he hx hy h4 (by omega), (lies_eq hb hc ha he).1, (lies_eq hb hc ha he).2,
    outside_eq hn.2.1 (by omega) (dist_nn _ _) hr h4 h5, outside_eq hm.2.1 hd (dist_nn _ _) hr h4 h5, inside_eq hn.2.1 (by omega) (dist_nn _ _) hr h4 h5, inside_eq hm.2.1 hd (dist_nn _ _) hr h4 h5]
  simp only [orB_eq, andB_eq, Bool.not_true, Bool.or_false, bif_f]
  generalize nearI b a = NA at *
  generalize nearI b e = NE at *
  generalize mostI b a = MA at *
  generalize mostI b e = ME at *
  generalize r * r = R at *
  have f1 : ((if NA > R then 0 else if MA ≤ R then 2 else 1 : Int) == 2 || (if NE > R then 0 else if ME ≤ R then 2 else 1 : Int) == 2) = decide (MA ≤ R ∨ ME ≤ R) := by
    rw [Bool.eq_iff_iff]
    simp only [Bool.or_eq_true, beq_iff_eq, decide_eq_true_eq]
    constructor
    · rintro (k | k)
      · split at k
        · cases k
        · split at k
          · left; assumption
          · cases k
      · split at k
        · cases k
        · split at k
          · right; assumption
          · cases k
    · rintro (k | k)
      · left; rw [if_neg (by omega), if_pos k]
      · right; rw [if_neg (by omega), if_pos k]
  have f2 : ((if NA > R then 0 else if MA ≤ R then 2 else 1 : Int) != 0 || (if NE > R then 0 else if ME ≤ R then 2 else 1 : Int) != 0) = decide (NA ≤ R ∨ NE ≤ R) := by
    rw [Bool.eq_iff_iff]
    simp only [Bool.or_eq_true, bne_iff_ne, decide_eq_true_eq]
    constructor
    · rintro (k | k)
      · left; split at k
        · exact absurd rfl k
        · omega
      · right; split at k
        · exact absurd rfl k
        · omega
    · rintro (k | k)
      · left; rw [if_neg (by omega)]; split <;> decide
      · right; rw [if_neg (by omega)]; split <;> decide
  rw [f1, f2]
  by_cases k1 : MA ≤ R ∨ ME ≤ R
  · rw [decide_eq_true k1, if_pos k1]; rfl
  · rw [decide_eq_false k1, if_neg k1, bif_f]
    cases k2 : (liIn b c a e && outI (nearI b c) (distI a c) r && insI (mostI b c) (distI a c) r)
    · simp only [bif_f, Bool.false_eq_true, if_false]
      by_cases k3 : NA ≤ R ∨ NE ≤ R
      · rw [decide_eq_true k3, if_pos k3]; rfl
      · rw [decide_eq_false k3, if_neg k3, bif_f]
        cases (liOff b c a e || !insI (nearI b c) (distI a c) r || !outI (mostI b c) (distI a c) r) <;> rfl
    · rfl
theorem cross_sw (c a q : P2) : crossI c a q = -crossI c q a := by unfold crossI; grind
theorem liIn_has {b : B4} {q c a e : P2} (hq : hasI b q) (h : liIn b c a e = true) : sectI q c a e = true := by
  have u : all4 (fun q => decide (crossI c a q ≥ 0)) b = true → crossI c a q ≥ 0 := fun k => by
    obtain ⟨k', hc, hl⟩ := cross_le c a hq
    have := all4_iff.1 k k' hc
    simp only [decide_eq_true_eq] at this; omega
  have v : all4 (fun q => decide (crossI c q e ≥ 0)) b = true → crossI c q e ≥ 0 := fun k => by
    obtain ⟨k', hc, hl⟩ := cross_ge c e hq
    have := all4_iff.1 k k' hc
    simp only [decide_eq_true_eq] at this
    rw [cross_sw c k' e] at this; rw [cross_sw c q e]; omega
  unfold liIn at h; unfold sectI
  by_cases s : same a e
  · simp [s]
  · by_cases w : crossI c a e < 0
    · simp only [s, w, decide_false, Bool.false_or, if_true, Bool.or_eq_true, decide_eq_true_eq] at *
      rcases h with h | h
      · exact .inl (u h)
      · exact .inr (v h)
    · simp only [s, w, decide_false, Bool.false_or, if_false, Bool.and_eq_true, decide_eq_true_eq] at *
      exact ⟨u h.1, v h.2⟩
theorem liOff_has {b : B4} {q c a e : P2} (hq : hasI b q) (h : liOff b c a e = true) : sectI q c a e = false := by
  have u : all4 (fun q => decide (crossI c a q < 0)) b = true → ¬ crossI c a q ≥ 0 := fun k => by
    obtain ⟨k', hc, hl⟩ := cross_ge c a hq
    have := all4_iff.1 k k' hc
    simp only [decide_eq_true_eq] at this; omega
  have v : all4 (fun q => decide (crossI c q e < 0)) b = true → ¬ crossI c q e ≥ 0 := fun k => by
    obtain ⟨k', hc, hl⟩ := cross_le c e hq
    have := all4_iff.1 k k' hc
    simp only [decide_eq_true_eq] at this
    rw [cross_sw c k' e] at this; rw [cross_sw c q e]; omega
  unfold liOff at h; unfold sectI
  by_cases s : same a e
  · simp [s] at h
  · by_cases w : crossI c a e < 0
    · simp only [s, w, decide_false, Bool.not_false, Bool.true_and, Bool.false_or, if_true, Bool.and_eq_true, Bool.or_eq_false_iff, decide_eq_false_iff_not] at *
      exact ⟨u h.1, v h.2⟩
    · simp only [s, w, decide_false, Bool.not_false, Bool.true_and, Bool.false_or, if_false, Bool.or_eq_true, Bool.and_eq_false_iff, decide_eq_false_iff_not] at *
      rcases h with h | h
      · exact .inl (u h)
      · exact .inr (v h)
theorem ringCl_012 (b : B4) (c a e : P2) (r : Int) : ringCl b c a e r = 0 ∨ ringCl b c a e r = 1 ∨ ringCl b c a e r = 2 := by
  unfold ringCl; split
  · simp
  · split
    · simp
    · split
      · simp
      · split <;> simp
theorem most_far {b : B4} {c : P2} (hx0 : -536870912 ≤ b.x0) (hx : b.x0 ≤ b.x1) (hx1 : b.x1 ≤ 536870912) (hy0 : -536870912 ≤ b.y0) (hy : b.y0 ≤ b.y1) (hy1 : b.y1 ≤ 536870912) (hc : (-400000000 ≤ c.x ∧ c.x ≤ 400000000) ∧ (-400000000 ≤ c.y ∧ c.y ≤ 400000000)) : mostI b c ≤ 4000000000000000000 := by
  have e : ∀ v lo hi : Int, -400000000 ≤ v → v ≤ 400000000 → -536870912 ≤ lo → lo ≤ hi → hi ≤ 536870912 → reachI v lo hi * reachI v lo hi ≤ 1000000000 * 1000000000 := fun v lo hi a b c d f =>
    (sq_bd (A := 1000000000) (by unfold reachI; omega) (by unfold reachI; omega)).2
  have a1 := e c.x b.x0 b.x1 hc.1.1 hc.1.2 hx0 hx hx1
  have a2 := e c.y b.y0 b.y1 hc.2.1 hc.2.2 hy0 hy hy1
  unfold mostI; omega
theorem arc_facts (c : P2) (f s : Int) (sm : Bool) : PR (arcAt c f s sm) ∧ distI (arcAt c f s sm) (arcC c sm) = 25 * (arcK s sm * arcK s sm) ∧ 1 ≤ arcK s sm * arcK s sm ∧ arcK s sm * arcK s sm ≤ 400000000000000 := by
  rw [arcAt_eq]
  have k := arcK_bd s sm
  have o := onC_r (arcC_r c sm) k (circ_ok f)
  have q := sq_bd (A := 20000000) (x := arcK s sm) (by omega) k.2
  have p := Int.mul_pos (show 0 < arcK s sm by omega) (show 0 < arcK s sm by omega)
  exact ⟨o.1, o.2, by omega, by omega⟩
theorem arc_okI (c : P2) (f t s : Int) (sm : Bool) : okI (arcC c sm) (arcAt c f s sm) (arcAt c t s sm) := by
  have a := arc_facts c f s sm; have b := arc_facts c t s sm
  unfold okI; omega
end Go.Proofs.Ythnenjodighlmaa

/-! ## Tam -/
namespace Go.Proofs.Ythnenjodighlmaa
open Go Go.RowKit Sym
set_option maxRecDepth 100000

def tbT : List Entry := (37, en5 dP dI dI dI dB (fun c f t s sm => .tuple ⟨[pt (arcC c sm), pt (arcAt c f s sm), pt (arcAt c t s sm)]⟩)) :: tbF
theorem tbT_ok : ∀ e ∈ tbT, EntryOk Try.prog e := List.forall_mem_cons.2 ⟨en5_ok dP_eq dI_eq dI_eq dI_eq dB_eq arc_ok, tbF_ok⟩
def atP (p : P2) (sm : Bool) : P2 := ⟨bif sm then (lClose p 20).x else (lPt p).x, bif sm then (lClose p 20).y else (lPt p).y⟩
def dptB (q : Bool) : Dyn.DV := .one (.ptr [.p (vb q)])
def enPb (F : P2 → Bool → Dyn.RV) : List Dyn.DV → Option (Dyn.RV × List Prop)
  | [.agg [.p (.int .i64 x), .p (.int .i64 y)], .one (.ptr [.p (.bool q)])] => some (F ⟨x, y⟩ q, [])
  | _ => none
theorem enPb_ok {P : Program} {K : Nat} {F : P2 → Bool → Dyn.RV} (h : ∀ x u, Dyn.CallD P K [dvP x, dptB u] (F x u)) : Dyn.EntryDOk P (K, enPb F) := fun args r ps hr hp => by
  dsimp only at hr
  unfold enPb at hr
  split at hr
  · simp only [Option.some.injEq, Prod.mk.injEq] at hr
    obtain ⟨rfl, rfl⟩ := hr
    rename_i x y u
    exact h ⟨x, y⟩ u
  · cases hr
def RV.pt (p : P2) : Dyn.RV := .val (dvP p)
def tabA1 : Dyn.Tabs := Dyn.tabs tbT [] noD noD
theorem tabA1_ok : Dyn.TabsOk Try.prog tabA1 := Dyn.tabs_ok tbT_ok (fun _ h => by cases h)
theorem at_O (p : P2) (sm : Bool) : (Dyn.dfun Try.prog tabA1 Dyn.noLp 3 Try.f35 [dvP p, dptB sm]).ro Try.prog Try.f35.results = .ite sm (.side [W (20 + 1) ≠ 0] (.leaf (RV.pt (lClose p 20)))) (.leaf (RV.pt (lPt p))) := by kernel_rfl
theorem at_ok (p : P2) (sm : Bool) : Dyn.CallD Try.prog 35 [dvP p, dptB sm] (RV.pt (atP p sm)) :=
  Dyn.dcontract (lp := Dyn.noLp) (fuel := 3) (X := tabA1) tabA1_ok mo Try.func35 (by kernel_rfl) (c := bodyD Try.f35.body) (by kernel_rfl) (fun w0 => Dyn.noLp_ok _ w0)
    (by kernel_rfl) (at_O p sm) ⟨fun h => by subst h; exact ⟨⟨by decide, trivial⟩, ro_leaf rfl⟩, fun h => by subst h; exact ro_leaf rfl⟩
def tdTm (Pd : Sh → Prop) (g : Sh → Bool → Int → Sh) : List Dyn.EntryD := [(35, enPb fun p q => RV.pt (atP p q)), (38, en2D qC qB fun l q => .val (dvC (tameC l q))), (12, en3D (qAnd qS Pd) qB qI fun x q d => .val (dvS (g x q d)))]
def drTm (K : Nat) : Bool := Nat.beq K 12 || Nat.beq K 38
def tabTm (Pd : Sh → Prop) (g : Sh → Bool → Int → Sh) : Dyn.Tabs := Dyn.tabs tbT (tdTm Pd g) drTm dtyS
theorem tabTm_ok {Pd : Sh → Prop} {g : Sh → Bool → Int → Sh} (ih : ∀ x, Pd x → ∀ sm d, Dyn.CallD Try.prog 12 [dvS x, dvB sm, dvI d] (.val (dvS (g x sm d)))) : Dyn.TabsOk Try.prog (tabTm Pd g) :=
  Dyn.tabs_ok tbT_ok (List.forall_mem_cons.2 ⟨enPb_ok at_ok, List.forall_mem_cons.2 ⟨en2D_ok qC_ok qB_ok fun l q _ _ => tame_ok l q, List.forall_mem_cons.2 ⟨en3D_ok (qAnd_ok qS_ok) qB_ok qI_ok fun x q d h _ _ => ih x h.1 q d, fun _ h => by cases h⟩⟩⟩)
/-! ### what it makes -/
def tmK0 (s : Sh) : Int := W ((W (s.k.tmod 6 + 6)).tmod 6 + 1)
def tmKk (s : Sh) (d : Int) : Int := bif bif decide (d > 5) then tmK0 s == 6 else false then 1 else tmK0 s
def tmR (s : Sh) (sm : Bool) : Int := bif sm then W ((lR s.r).tmod 15 + 1) else lR s.r
def eqP (a b : P2) : Bool := bif a.x == b.x then bif a.y == b.y then true else false else false
def tmB (s : Sh) (sm : Bool) : P2 :=
  bif bif eqP (atP s.a sm) (atP s.b sm) then decide ((atP s.b sm).x > 0) else false then ⟨W ((atP s.b sm).x - 1), (atP s.b sm).y⟩ else bif eqP (atP s.a sm) (atP s.b sm) then ⟨W ((atP s.b sm).x + 1), (atP s.b sm).y⟩ else atP s.b sm
def ze : P2 := ⟨0, 0⟩
def zeC : Ctr := ⟨0, fun _ => 0, fun _ _ => ⟨0, 0⟩⟩
def noF (_ : Nat) : List Dyn.DC := []
def tmN (s : Sh) (d : Int) : Nat := min s.n (imax (W (4 - d)) 1).toNat
def tmF (g : Sh → Bool → Int → Sh) (sh : Nat → Sh) (add : Nat → Bool) (sm : Bool) (d : Int) (i : Nat) : List Dyn.DC := partC (add i) (g (sh i) sm (W (d + 1)))
/-- Tame, by what it makes of parts -/
def tameG (g : Sh → Bool → Int → Sh) (sh : Nat → Sh) (add : Nat → Bool) (s : Sh) (sm : Bool) (d : Int) : Sh :=
  bif tmKk s d == 1 then ⟨tmKk s d, atP s.a sm, ze, ze, tmR s sm, zeC, 0, noF⟩
  else bif bif tmKk s d == 3 then tmKk s d == 3 else tmKk s d == 4 then ⟨tmKk s d, atP s.a sm, tmB s sm, ze, tmR s sm, zeC, 0, noF⟩
  else bif tmKk s d == 5 then ⟨tmKk s d, arcAt s.c (band s.a.x 65535) s.b.x sm, arcAt s.c (band s.a.y 65535) s.b.x sm, arcC s.c sm, tmR s sm, zeC, 0, noF⟩
  else bif tmKk s d == 2 then ⟨tmKk s d, ze, ze, ze, 0, tameC s.l sm, 0, noF⟩
  else ⟨tmKk s d, ze, ze, ze, 0, zeC, tmN s d, tmF g sh add sm d⟩
def tmZ : List Value := [vi 0, vi 0, vi 0, vi 0, vi 0, vi 0, vi 0, vi 0, .slice none 0 0, .slice none 0 0]
def tmO10 (k : Int) (nm n : Nat) : List Value := [vi k, vi 0, vi 0, vi 0, vi 0, vi 0, vi 0, vi 0, .slice none 0 0, .slice (some ⟨nm, 0, some 0⟩) n 0]
def tmS (s : Sh) (sm : Bool) (d i : Int) (n : Nat) (f : Nat → List Dyn.DC) : Dyn.St := mkS 154 [(2, sI d), (3, sL 1), (4, sL 2), (6, sL 3), (8, sL 4), (10, sI i)]
  [some (.deep (cS s)), some (.cells 27 (shV 0 8 s)), some (.cells 4 [vb sm]), some (.cells 27 tmZ), some (.cells 27 (tmO10 (tmKk s d) 5 n)), some (.own 35 n f)]
def tmK : List Nat := [2, 3, 4, 6, 8, 10]
def tmLp (g : Sh → Bool → Int → Sh) (sh : Nat → Sh) (add : Nat → Bool) (s : Sh) (sm : Bool) (d : Int) : Dyn.Lp := fun id st => match id with
  | 1 => some (.side [Dyn.nilCell 4 9 35 (tmF g sh add sm d) (keepA 154 [0, 1, 2] [6, 8] tmK (2 ^ 10) st) = tmS s sm d 0 0 (tmF g sh add sm d)] (.leaf .normal (tmS s sm d (tmN s d : Nat) (tmN s d) (tmF g sh add sm d))))
  | _ => none
def tmBd (Pd : Sh → Prop) (g : Sh → Bool → Int → Sh) (sh : Nat → Sh) (add : Nat → Bool) (s : Sh) (sm : Bool) (d : Int) (i : Nat) : Dyn.Out :=
  .ite (bif decide ((i : Int) < s.n) then decide ((i : Int) < imax (W (4 - d)) 1) else false)
    (.side [0 ≤ (i : Int) ∧ (i : Int) < s.n, 0 ≤ (i : Int) ∧ (i : Int) < s.n, Pd (sh i), ctrSelf (sh i).l, szP 120 i] (.leaf .normal (tmS s sm d (W (i + 1)) (i + 1) (Dyn.appF i (tmF g sh add sm d) (fun _ => tmF g sh add sm d i)))))
    (.leaf (.exit 1) (tmS s sm d i i (tmF g sh add sm d)))
theorem tm_Bd (Pd : Sh → Prop) (g : Sh → Bool → Int → Sh) (k : Int) (a b c : P2) (r : Int) (l : Ctr) (n : Nat) (add : Nat → Bool) (sh : Nat → Sh) (sm : Bool) (d : Int) (i : Nat) :
    (Dyn.lexec Try.prog (tabTm Pd g) (tmLp g sh add (mkSh k a b c r l n add sh) sm d) 3 (unloopD (blkD Try.f12.body 1)) .leaf (tmS (mkSh k a b c r l n add sh) sm d i i (tmF g sh add sm d))).rl (keepCR 154 [0, 1, 2, 3, 4] [] [(4, 9)] tmK [] []) = tmBd Pd g sh add (mkSh k a b c r l n add sh) sm d i := by kernel_rfl
theorem tm_blocks : blocksL (bodyD Try.f12.body) = [(0, blkD Try.f12.body 0), (1, .loop (unloopD (blkD Try.f12.body 1))), (2, blkD Try.f12.body 2)] := by kernel_rfl
theorem tm_b1 : blocksL (unloopD (blkD Try.f12.body 1)) = [(2, blkD Try.f12.body 2)] := by kernel_rfl
theorem tm_loop {Pd : Sh → Prop} {g : Sh → Bool → Int → Sh} (ih : ∀ x, Pd x → ∀ sm d, Dyn.CallD Try.prog 12 [dvS x, dvB sm, dvI d] (.val (dvS (g x sm d)))) (k : Int) (a b c : P2) (r : Int) (l : Ctr) (n : Nat) (add : Nat → Bool) (sh : Nat → Sh) (hn : n ≤ 1000000000) (hP : ∀ i, i < n → Pd (sh i)) (sm : Bool) (d : Int) (w0 : Dyn.Base Try.prog) (st : Dyn.St) (o : Dyn.Out)
    (h : tmLp g sh add (mkSh k a b c r l n add sh) sm d 1 st = some o) : Dyn.BlockSound Try.prog w0 1 (.loop (unloopD (blkD Try.f12.body 1))) st o := by
  simp only [tmLp, Option.some.injEq] at h
  subst h
  refine side_one fun hS => ?_
  have hN : tmN (mkSh k a b c r l n add sh) d = min n (imax (W (4 - d)) 1).toNat := rfl
  have hM : 1 ≤ imax (W (4 - d)) 1 := by unfold imax; split <;> omega
  refine fold_block (fuel := 3) (tabTm_ok ih) mo (lp := tmLp g sh add (mkSh k a b c r l n add sh) sm d) (by rw [tm_b1]; exact lpOk_cons (fun s o h => by cases h) lpOk_nil) (fun i (_ : Unit) => tmS (mkSh k a b c r l n add sh) sm d i i (tmF g sh add sm d)) (tmN (mkSh k a b c r l n add sh) d) (fun _ _ => ()) () (keepCR 154 [0, 1, 2, 3, 4] [] [(4, 9)] tmK [] []) (keepCR_ent 154 _ _ _ _ _ _) (fun i _ => tmBd Pd g sh add (mkSh k a b c r l n add sh) sm d i) (fun i _ => tm_Bd Pd g k a b c r l n add sh sm d i) (fun i hi => ?_) ?_ (hS ▸ (keepA_ent 154 _ _ _ _ st).trans (Dyn.Ent.nilCell (P := Try.prog) (k := 10) (by kernel_rfl) _ _))
  · rw [hN] at hi
    refine ⟨fun _ => ⟨⟨⟨by omega, by show (i : Int) < (n : Int); omega⟩, ⟨by omega, by show (i : Int) < (n : Int); omega⟩, hP i (by omega), ctrSelf_ok _, szP_ok (by decide) (by omega), trivial⟩, rfl, ?_⟩, fun hf => ?_⟩
    · rw [Wn1 (show i < n by omega) hn]
      exact ⟨rfl, Dyn.HeLe.refl _, Dyn.HeLe.refl _, Dyn.HeLe.refl _, Dyn.HeLe.refl _, Dyn.HeLe.refl _, le_app rfl, trivial⟩
    · rw [Bool.eq_false_iff] at hf
      exact absurd (and_iff.2 ⟨show (i : Int) < (n : Int) by omega, by omega⟩) hf
  · refine ⟨fun ht => ?_, fun _ => ⟨rfl, Dyn.Fits.refl _⟩⟩
    have ht := and_iff.1 ht
    have h1 : ((tmN (mkSh k a b c r l n add sh) d : Nat) : Int) < (n : Int) := ht.1
    have h2 := ht.2
    rw [hN] at h1 h2
    omega
def rvT (k : Int) (a b c : P2) (r : Int) (L : Dyn.DC) (n : Nat) (f : Nat → List Dyn.DC) : Dyn.RV := .val (.agg [cI k, cI a.x, cI a.y, cI b.x, cI b.y, cI c.x, cI c.y, cI r, L, .row n f])
def nilR : Dyn.DC := .row 0 noF
def tmRk (g : Sh → Bool → Int → Sh) (sh : Nat → Sh) (add : Nat → Bool) (s : Sh) (sm : Bool) (d r : Int) : Dyn.RO :=
  .ite (tmKk s d == 1) (.leaf (rvT (tmKk s d) (atP s.a sm) ze ze r nilR 0 noF))
  (.ite (bif tmKk s d == 3 then tmKk s d == 3 else tmKk s d == 4)
    (.ite (bif eqP (atP s.a sm) (atP s.b sm) then decide ((atP s.b sm).x > 0) else false) (.leaf (rvT (tmKk s d) (atP s.a sm) ⟨W ((atP s.b sm).x - 1), (atP s.b sm).y⟩ ze r nilR 0 noF))
      (.ite (eqP (atP s.a sm) (atP s.b sm)) (.leaf (rvT (tmKk s d) (atP s.a sm) ⟨W ((atP s.b sm).x + 1), (atP s.b sm).y⟩ ze r nilR 0 noF)) (.leaf (rvT (tmKk s d) (atP s.a sm) (atP s.b sm) ze r nilR 0 noF))))
  (.ite (tmKk s d == 5) (.leaf (rvT (tmKk s d) (arcAt s.c (band s.a.x 65535) s.b.x sm) (arcAt s.c (band s.a.y 65535) s.b.x sm) (arcC s.c sm) r nilR 0 noF))
  (.ite (tmKk s d == 2) (.side [ctrSelf s.l] (.leaf (rvT (tmKk s d) ze ze ze 0 (cCtr (tameC s.l sm)) 0 noF)))
  (.side [tmS s sm d 0 0 (tmF g sh add sm d) = tmS s sm d 0 0 (tmF g sh add sm d)] (.leaf (rvT (tmKk s d) ze ze ze 0 nilR (tmN s d) (tmF g sh add sm d)))))))
theorem tm_O (Pd : Sh → Prop) (g : Sh → Bool → Int → Sh) (sh : Nat → Sh) (add : Nat → Bool) (s : Sh) (sm : Bool) (d : Int) : (Dyn.dfun Try.prog (tabTm Pd g) (tmLp g sh add s sm d) 3 Try.f12 [dvS s, dvB sm, dvI d]).ro Try.prog Try.f12.results = .ite sm (tmRk g sh add s sm d (W ((lR s.r).tmod 15 + 1))) (tmRk g sh add s sm d (lR s.r)) := by kernel_rfl
theorem rvT_le {k : Int} {a b c : P2} {r : Int} {L : Dyn.DC} {n : Nat} {f : Nat → List Dyn.DC} {x : Sh} (hk : x.k = k) (ha : x.a = a) (hb : x.b = b) (hc : x.c = c) (hr : x.r = r) (hL : Dyn.DCLe L (cCtr x.l)) (hn : n = x.n) (hf : ∀ i, i < n → f i = x.f i) : (Dyn.RO.leaf (rvT k a b c r L n f)).sat fun q => Dyn.RVLe q (.val (dvS x)) := by
  subst hk; subst ha; subst hb; subst hc; subst hr
  exact ⟨rfl, rfl, rfl, rfl, rfl, rfl, rfl, rfl, hL, ⟨hn, hf⟩, trivial⟩
theorem nilR_le : Dyn.DCLe nilR (cCtr zeC) := ⟨rfl, fun i hi => by omega⟩
theorem tm_satk (g : Sh → Bool → Int → Sh) (sh : Nat → Sh) (add : Nat → Bool) (s : Sh) (sm : Bool) (d : Int) : (tmRk g sh add s sm d (tmR s sm)).sat fun r => Dyn.RVLe r (.val (dvS (tameG g sh add s sm d))) := by
  unfold tameG
  refine ⟨fun h => ?_, fun h => ⟨fun h2 => ⟨fun h3 => ?_, fun h3 => ⟨fun h4 => ?_, fun h4 => ?_⟩⟩, fun h2 => ⟨fun h3 => ?_, fun h3 => ⟨fun h4 => ⟨⟨ctrSelf_ok _, trivial⟩, ?_⟩, fun h4 => ⟨⟨rfl, trivial⟩, ?_⟩⟩⟩⟩⟩
  · rw [h]; exact rvT_le rfl rfl rfl rfl rfl nilR_le rfl fun _ _ => rfl
  · rw [h, h2]; exact rvT_le rfl rfl (by show tmB s sm = _; unfold tmB; rw [h3]; rfl) rfl rfl nilR_le rfl fun _ _ => rfl
  · rw [h, h2]; exact rvT_le rfl rfl (by show tmB s sm = _; unfold tmB; rw [h3, h4]; rfl) rfl rfl nilR_le rfl fun _ _ => rfl
  · rw [h, h2]; exact rvT_le rfl rfl (by show tmB s sm = _; unfold tmB; rw [h3, h4]; rfl) rfl rfl nilR_le rfl fun _ _ => rfl
  · rw [h, h2, h3]; exact rvT_le rfl rfl rfl rfl rfl nilR_le rfl fun _ _ => rfl
  · rw [h, h2, h3, h4]; exact rvT_le rfl rfl rfl rfl rfl (Dyn.DCLe.refl _) rfl fun _ _ => rfl
  · rw [h, h2, h3, h4]; exact rvT_le rfl rfl rfl rfl rfl nilR_le rfl fun _ _ => rfl
theorem tame_lvl {Pd : Sh → Prop} {g : Sh → Bool → Int → Sh} (ih : ∀ x, Pd x → ∀ sm d, Dyn.CallD Try.prog 12 [dvS x, dvB sm, dvI d] (.val (dvS (g x sm d)))) (k : Int) (a b c : P2) (r : Int) (l : Ctr) (n : Nat) (add : Nat → Bool) (sh : Nat → Sh) (hn : n ≤ 1000000000) (hP : ∀ i, i < n → Pd (sh i)) (sm : Bool) (d : Int) :
    Dyn.CallD Try.prog 12 [dvS (mkSh k a b c r l n add sh), dvB sm, dvI d] (.val (dvS (tameG g sh add (mkSh k a b c r l n add sh) sm d))) :=
  Dyn.dcontract (lp := tmLp g sh add (mkSh k a b c r l n add sh) sm d) (fuel := 3) (tabTm_ok ih) mo Try.func12 (by kernel_rfl) (c := bodyD Try.f12.body) (by kernel_rfl)
    (fun w0 => by rw [tm_blocks]; exact lpOk_cons (fun s o h => by cases h) (lpOk_cons (tm_loop ih k a b c r l n add sh hn hP sm d w0) (lpOk_cons (fun s o h => by cases h) lpOk_nil)))
    (by kernel_rfl) (tm_O Pd g sh add _ sm d) (by
      cases sm
      · exact ⟨fun h => (by cases h), fun _ => tm_satk g sh add _ false d⟩
      · exact ⟨fun _ => tm_satk g sh add _ true d, fun h => (by cases h)⟩)
theorem CallD_rle {P : Program} {K : Nat} {args : List Dyn.DV} {r r' : Dyn.RV} (h : Dyn.RVLe r r') (k : Dyn.CallD P K args r) : Dyn.CallD P K args r' := fun w F us hF hd => by
  have := k w F us hF hd
  split at this
  · rename_i u w' hr
    exact ⟨Dyn.DenR_le h this.1, this.2⟩
  · rename_i f as' w' hr
    refine ⟨this.1, this.2.mono fun e w'' he => ?_⟩
    obtain ⟨u, h1, h2, h3⟩ := he
    exact ⟨u, h1, Dyn.DenR_le h h2, h3⟩
  · exact this.elim
/-- a shape without parts -/
def leafS (k : Int) (a b c : P2) (r : Int) (l : Ctr) : Shp := .mk k a b c r l 0 (fun _ => false) (fun _ => .nil)
def tameS : Shp → Bool → Int → Shp
  | .nil, _, _ => .nil
  | .mk k a b c r l n add sub, sm, d =>
    let s : Sh := ⟨k, a, b, c, r, l, n, noF⟩
    bif tmKk s d == 1 then leafS (tmKk s d) (atP a sm) ze ze (tmR s sm) zeC
    else bif bif tmKk s d == 3 then tmKk s d == 3 else tmKk s d == 4 then leafS (tmKk s d) (atP a sm) (tmB s sm) ze (tmR s sm) zeC
    else bif tmKk s d == 5 then leafS (tmKk s d) (arcAt c (band a.x 65535) b.x sm) (arcAt c (band a.y 65535) b.x sm) (arcC c sm) (tmR s sm) zeC
    else bif tmKk s d == 2 then leafS (tmKk s d) ze ze ze 0 (tameC l sm)
    else .mk (tmKk s d) ze ze ze 0 zeC (tmN s d) add (fun i => tameS (sub i) sm (W (d + 1)))
noncomputable def tameE (x : Sh) (sm : Bool) (d : Int) : Sh := toSh (tameS (ofSh x) sm d)
theorem tameE_eq (s : Shp) (sm : Bool) (d : Int) : tameE (toSh s) sm d = toSh (tameS s sm d) := by unfold tameE; rw [ofSh_toSh]
theorem dvS_leaf (k : Int) (a b c : P2) (r : Int) (l : Ctr) : Dyn.DVLe (dvS ⟨k, a, b, c, r, l, 0, noF⟩) (dvS (toSh (leafS k a b c r l))) := ⟨rfl, rfl, rfl, rfl, rfl, rfl, rfl, rfl, Dyn.DCLe.refl _, ⟨rfl, fun i hi => absurd hi (Nat.not_lt_zero _)⟩, trivial⟩
theorem tm_pick {K : Int} (D1 D2 D3 D4 D5 : Sh) (E1 E2 E3 E4 E5 : Shp) (h1 : Dyn.DVLe (dvS D1) (dvS (toSh E1))) (h2 : Dyn.DVLe (dvS D2) (dvS (toSh E2))) (h3 : Dyn.DVLe (dvS D3) (dvS (toSh E3))) (h4 : Dyn.DVLe (dvS D4) (dvS (toSh E4))) (h5 : Dyn.DVLe (dvS D5) (dvS (toSh E5))) :
    Dyn.DVLe (dvS (bif K == 1 then D1 else bif bif K == 3 then K == 3 else K == 4 then D2 else bif K == 5 then D3 else bif K == 2 then D4 else D5)) (dvS (toSh (bif K == 1 then E1 else bif bif K == 3 then K == 3 else K == 4 then E2 else bif K == 5 then E3 else bif K == 2 then E4 else E5))) := by
  cases K == 1
  · cases (bif K == 3 then K == 3 else K == 4)
    · cases K == 5
      · cases K == 2
        · exact h5
        · exact h4
      · exact h3
    · exact h2
  · exact h1
theorem tameS_lvl (k : Int) (a b c : P2) (r : Int) (l : Ctr) (n : Nat) (add : Nat → Bool) (sub : Nat → Shp) (sm : Bool) (d : Int) :
    Dyn.DVLe (dvS (tameG tameE (fun i => toSh (sub i)) add (mkSh k a b c r l n add (fun i => toSh (sub i))) sm d)) (dvS (toSh (tameS (.mk k a b c r l n add sub) sm d))) := by
  refine tm_pick (K := tmKk ⟨k, a, b, c, r, l, n, noF⟩ d) _ _ _ _ _ _ _ _ _ _ (dvS_leaf _ _ _ _ _ _) (dvS_leaf _ _ _ _ _ _) (dvS_leaf _ _ _ _ _ _) (dvS_leaf _ _ _ _ _ _) ?_
  refine ⟨rfl, rfl, rfl, rfl, rfl, rfl, rfl, rfl, Dyn.DCLe.refl _, ⟨rfl, fun i hi => ?_⟩, trivial⟩
  show partC (add i) (tameE (toSh (sub i)) sm (W (d + 1))) = partC (add i) (toSh (tameS (sub i) sm (W (d + 1))))
  rw [tameE_eq]
theorem tameE_ok : ∀ s : Shp, ShB s → ∀ sm d, Dyn.CallD Try.prog 12 [dvS (toSh s), dvB sm, dvI d] (.val (dvS (tameE (toSh s) sm d))) := by
  intro s
  induction s with
  | nil => intro h; exact h.elim
  | mk k a b c r l n add sub ih =>
    intro h sm d
    rw [tameE_eq]
    refine CallD_rle (r := .val (dvS (tameG tameE (fun i => toSh (sub i)) add (mkSh k a b c r l n add (fun i => toSh (sub i))) sm d))) (tameS_lvl k a b c r l n add sub sm d) ?_
    exact tame_lvl (Pd := fun x => ∃ i, i < n ∧ x = toSh (sub i)) (fun x hx => by
      obtain ⟨i, hi, rfl⟩ := hx
      exact ih i (h.2.2 i hi)) k a b c r l n add (fun i => toSh (sub i)) h.2.1 (fun i hi => ⟨i, hi, rfl⟩) sm d
theorem tame_all : ∀ x, PdS x → ∀ sm d, Dyn.CallD Try.prog 12 [dvS x, dvB sm, dvI d] (.val (dvS (tameE x sm d))) := fun x hx sm d => by
  have k := tameE_ok _ hx.1 sm d
  rw [show tameE (toSh (ofSh x)) sm d = tameE x sm d by unfold tameE; rw [ofSh_toSh]] at k
  exact CallD_le (args := dvS (toSh (ofSh x)) :: [dvB sm, dvI d]) ⟨SLe.dv hx.2, Dyn.DVLe.refl _, Dyn.DVLe.refl _, trivial⟩ k
end Go.Proofs.Ythnenjodighlmaa

/-! ## Sam -/
namespace Go.Proofs.Ythnenjodighlmaa
open Go Go.RowKit Sym
set_option maxRecDepth 100000

end Go.Proofs.Ythnenjodighlmaa

/-! ## San -/
namespace Go.Proofs.Ythnenjodighlmaa
open Go Go.RowKit Sym
set_option maxRecDepth 100000

end Go.Proofs.Ythnenjodighlmaa

/-! ## Tua -/
namespace Go.Proofs.Ythnenjodighlmaa
open Go Go.RowKit Sym
set_option maxRecDepth 100000

def zl (b : Bool) : List Dyn.DC → List Dyn.DC → List Dyn.DC
  | a :: us, z :: zs => (bif b then a else z) :: zl b us zs
  | _, _ => []
/-- a row being filled: i of its elements are made -/
def fil (F : Nat → List Dyn.DC) (z : List Dyn.DC) (i : Nat) : Nat → List Dyn.DC := fun j => zl (Nat.blt j i) (F j) z
end Go.Proofs.Ythnenjodighlmaa

/-! ## Tub -/
namespace Go.Proofs.Ythnenjodighlmaa
open Go Go.RowKit Sym
set_option maxRecDepth 100000

theorem CtrB_ze : CtrB zeC := ⟨by decide, fun i hi => absurd hi (Nat.not_lt_zero i)⟩
/-- no shape -/
def noS : Shp := leafS 0 ze ze ze 0 zeC
def zeroRV : Dyn.RV := .tup [.agg [cI 0, cI 0, cI 0, cI 0, cI 0, cI 0, cI 0, cI 0, nilR, nilR], dvB false]
theorem zero_le : Dyn.RVLe zeroRV (.tup [dvS (toSh noS), dvB false]) := ⟨⟨rfl, rfl, rfl, rfl, rfl, rfl, rfl, rfl, nilR_le, ⟨rfl, fun i hi => absurd hi (Nat.not_lt_zero _)⟩, trivial⟩, rfl, trivial⟩
end Go.Proofs.Ythnenjodighlmaa

/-! ## Roe -/
namespace Go.Proofs.Ythnenjodighlmaa
open Go Go.ChangeShapes Go.WideShapes Go.ChangeAt Go.RowKit Go.Joins Go.Deep
set_option maxRecDepth 100000

section
variable {H : Type} {enc : TypeId × Value → H} {P : Program} {w : World} {base : Nat} {spare : Nat → Bool} {held : Bool}
theorem ctr_den {fuel : Nat} {x : DataW H × List MemPlace} {t e2 e : TypeId} {f0 f1 : Field} {v : Value} (ht : P.underlying t = some (.slice e2)) (hc2 : P.cellsOf e2 = 1) (ht2 : P.underlying e2 = some (.slice e)) (he : P.underlying e = some (.struct #[f0, f1]))
    (ce : P.cellsOf e = 2) (o0 : f0.offset = 0) (o1 : f1.offset = 1) (c0 : P.cellsOf f0.type = 1) (c1 : P.cellsOf f1.type = 1) (k0 : P.underlying f0.type = some (.int .i64)) (k1 : P.underlying f1.type = some (.int .i64))
    (hf : DataW.trod enc P w base spare held fuel t [v] = some x) : ∃ l : Ctr, Dyn.DenC w (fun b => b < w.heap.size) (cCtr l) v := by
  rcases open_slice1 ht hc2 hf with ⟨h, _⟩ | ⟨a', len', cap', m, n, V, D, Pl, h, hb, hl, hcap, hm, hx, hall⟩
  · simp only [List.cons.injEq, and_true] at h
    rw [h]
    exact ⟨⟨0, fun _ => 0, fun _ _ => ⟨0, 0⟩⟩, .nil _ none 0⟩
  · simp only [List.cons.injEq, and_true] at h
    rw [h]
    have hlm : len' ≤ m := by rw [hm]; split <;> omega
    by_cases hz : len' = 0
    · subst hz
      exact ⟨⟨0, fun _ => 0, fun _ _ => ⟨0, 0⟩⟩, .nil _ (some a') cap'⟩
    · have h0 := (hall 0 (by omega)).1
      obtain ⟨hlt, hsp⟩ := addr_cell h0
      have hsp := hsp rfl
      obtain ⟨b, off, sp⟩ := a'
      dsimp only at hsp
      subst hsp
      simp only [addr_add] at hall hlt
      haveI : Inhabited (Nat × (Nat → P2)) := ⟨0, fun _ => ⟨0, 0⟩⟩
      obtain ⟨g, hg⟩ := choose_lt (α := Nat × (Nat → P2)) (n := len') (p := fun i q => Dyn.DenC w (fun b => b < w.heap.size) (cRow q.1 q.2) (V i)) (fun i hi => by
        obtain ⟨q, p, hq⟩ := row_P ht2 he ce o0 o1 c0 c1 k0 k1 (hall i (by omega)).2
        exact ⟨(q, p), hq⟩)
      refine ⟨⟨len', fun i => (g i).1, fun i => (g i).2⟩, .row len' _ b off cap' 1 (fun i _ => V i) hl hlt (fun i hi => ⟨rfl, fun j hj => ?_⟩) (fun i j hi hj => ?_)⟩
      · obtain rfl : j = 0 := by omega
        rw [Nat.mul_one, Nat.add_zero]; exact (hall i (by omega)).1
      · obtain rfl : j = 0 := by omega
        exact hg i hi
theorem pt_den {F : Nat → Prop} {fuel : Nat} {x : DataW H × List MemPlace} {t : TypeId} {f0 f1 : Field} {u v : Value} (ht : P.underlying t = some (.struct #[f0, f1])) (o0 : f0.offset = 0) (o1 : f1.offset = 1) (c0 : P.cellsOf f0.type = 1) (c1 : P.cellsOf f1.type = 1) (k0 : P.underlying f0.type = some (.int .i64)) (k1 : P.underlying f1.type = some (.int .i64))
    (hf : DataW.trod enc P w base spare held fuel t [u, v] = some x) : ∃ p : P2, u = vi p.x ∧ v = vi p.y ∧ Dyn.DenC w F (cI p.x) u ∧ Dyn.DenC w F (cI p.y) v := by
  obtain ⟨y0, y1, n, _, _, h0, h1⟩ := trod_struct2 ht hf
  rw [o0, c0] at h0
  rw [o1, c1] at h1
  obtain ⟨x0, e0, _⟩ := DataW.trod_int k0 h0
  obtain ⟨x1, e1, _⟩ := DataW.trod_int k1 h1
  simp only [List.drop_zero, List.take_succ_cons, List.take_zero, List.cons.injEq, and_true, List.drop_succ_cons] at e0 e1
  subst e0; subst e1
  exact ⟨⟨x0, x1⟩, rfl, rfl, .p _ rfl, .p _ rfl⟩
theorem DenL_get {F : Nat → Prop} : ∀ {ds : List Dyn.DC} {us : List Value} {j : Nat}, Dyn.DenL w F ds us → j < us.length → Dyn.DenC w F (ds.getD j default) (us.getD j default)
  | [], [], _, _, h => absurd h (Nat.not_lt_zero _)
  | d :: ds, u :: us, 0, h, _ => h.1
  | d :: ds, u :: us, j + 1, h, hj => DenL_get (ds := ds) (us := us) (j := j) h.2 (Nat.lt_of_succ_lt_succ hj)
/-- what the types of a shape are -/
structure ShT (P : Program) (tS tK tP tR tL tL1 tQ tE tB tI : TypeId) : Prop where
  s : ∃ f0 f1 f2 f3 f4 f5 f6 : Field, P.underlying tS = some (.struct #[f0, f1, f2, f3, f4, f5, f6]) ∧ (f0.type = tK ∧ f1.type = tP ∧ f2.type = tP ∧ f3.type = tP ∧ f4.type = tR ∧ f5.type = tL ∧ f6.type = tQ) ∧ f0.offset = 0 ∧ f1.offset = 1 ∧ f2.offset = 3 ∧ f3.offset = 5 ∧ f4.offset = 7 ∧ f5.offset = 8 ∧ f6.offset = 9
  sc : P.cellsOf tS = 10
  kc : P.cellsOf tK = 1
  pc : P.cellsOf tP = 2
  rc : P.cellsOf tR = 1
  lc : P.cellsOf tL = 1
  qc : P.cellsOf tQ = 1
  k : P.underlying tK = some (.int .i64)
  r : P.underlying tR = some (.int .i64)
  p : ∃ g0 g1 : Field, P.underlying tP = some (.struct #[g0, g1]) ∧ g0.offset = 0 ∧ g1.offset = 1 ∧ g0.type = tI ∧ g1.type = tI
  ic : P.cellsOf tI = 1
  i : P.underlying tI = some (.int .i64)
  l : P.underlying tL = some (.slice tL1)
  l1c : P.cellsOf tL1 = 1
  l1 : P.underlying tL1 = some (.slice tP)
  q : P.underlying tQ = some (.slice tE)
  ec : P.cellsOf tE = 11
  e : ∃ h0 h1 : Field, P.underlying tE = some (.struct #[h0, h1]) ∧ h0.offset = 0 ∧ h1.offset = 1 ∧ h0.type = tB ∧ h1.type = tS
  bc : P.cellsOf tB = 1
  b : P.underlying tB = some .bool
theorem shape_den {tS tK tP tR tL tL1 tQ tE tB tI : TypeId} (T : ShT P tS tK tP tR tL tL1 tQ tE tB tI) : ∀ (fuel : Nat) (cs : List Value) (x : DataW H × List MemPlace), DataW.trod enc P w base spare held fuel tS cs = some x →
    ∃ s : Shp, ShW s ∧ Dyn.DenL w (fun b => b < w.heap.size) (cS (toSh s)) cs := by
  intro fuel
  induction fuel using Nat.strongRecOn with
  | _ fuel ih =>
    intro cs x hx
    obtain ⟨f0, f1, f2, f3, f4, f5, f6, hs, ⟨t0, t1, t2, t3, t4, t5, t6⟩, o0, o1, o2, o3, o4, o5, o6⟩ := T.s
    obtain ⟨g0, g1, hp, p0, p1, q0, q1⟩ := T.p
    obtain ⟨h0, h1, he, a0, a1, b0, b1⟩ := T.e
    obtain ⟨xs, n, rfl, _, hl, hlen, hf⟩ := DataW.trod_struct hs hx
    rw [T.sc] at hl
    obtain ⟨v0, v1, v2, v3, v4, v5, v6, v7, v8, v9, rfl⟩ : ∃ v0 v1 v2 v3 v4 v5 v6 v7 v8 v9 : Value, cs = [v0, v1, v2, v3, v4, v5, v6, v7, v8, v9] := by
      match cs, hl with
      | [v0, v1, v2, v3, v4, v5, v6, v7, v8, v9], _ => exact ⟨v0, v1, v2, v3, v4, v5, v6, v7, v8, v9, rfl⟩
    have hxl : xs.length = 7 := hlen
    have get : ∀ i, i < 7 → ∃ y, xs[i]? = some y := fun i hi => ⟨xs[i], List.getElem?_eq_getElem (by omega)⟩
    obtain ⟨y0, e0⟩ := get 0 (by decide)
    obtain ⟨y1, e1⟩ := get 1 (by decide)
    obtain ⟨y2, e2⟩ := get 2 (by decide)
    obtain ⟨y3, e3⟩ := get 3 (by decide)
    obtain ⟨y4, e4⟩ := get 4 (by decide)
    obtain ⟨y5, e5⟩ := get 5 (by decide)
    obtain ⟨y6, e6⟩ := get 6 (by decide)
    have k0 := hf 0 f0 rfl
    have k1 := hf 1 f1 rfl
    have k2 := hf 2 f2 rfl
    have k3 := hf 3 f3 rfl
    have k4 := hf 4 f4 rfl
    have k5 := hf 5 f5 rfl
    have k6 := hf 6 f6 rfl
    rw [e0, t0, o0, T.kc] at k0
    rw [e1, t1, o1, T.pc] at k1
    rw [e2, t2, o2, T.pc] at k2
    rw [e3, t3, o3, T.pc] at k3
    rw [e4, t4, o4, T.rc] at k4
    rw [e5, t5, o5, T.lc] at k5
    rw [e6, t6, o6, T.qc] at k6
    simp only [List.drop_zero, List.take_succ_cons, List.take_zero, List.drop_succ_cons] at k0 k1 k2 k3 k4 k5 k6
    obtain ⟨z0, r0, _⟩ := DataW.trod_int T.k k0
    obtain ⟨z4, r4, _⟩ := DataW.trod_int T.r k4
    simp only [List.cons.injEq, and_true] at r0 r4
    subst r0; subst r4
    obtain ⟨pa, _, _, a1', a2'⟩ := pt_den (F := fun b => b < w.heap.size) hp p0 p1 (by rw [q0]; exact T.ic) (by rw [q1]; exact T.ic) (by rw [q0]; exact T.i) (by rw [q1]; exact T.i) k1
    obtain ⟨pb, _, _, b1', b2'⟩ := pt_den (F := fun b => b < w.heap.size) hp p0 p1 (by rw [q0]; exact T.ic) (by rw [q1]; exact T.ic) (by rw [q0]; exact T.i) (by rw [q1]; exact T.i) k2
    obtain ⟨pc, _, _, c1', c2'⟩ := pt_den (F := fun b => b < w.heap.size) hp p0 p1 (by rw [q0]; exact T.ic) (by rw [q1]; exact T.ic) (by rw [q0]; exact T.i) (by rw [q1]; exact T.i) k3
    obtain ⟨l, hL⟩ := ctr_den T.l T.l1c T.l1 hp T.pc p0 p1 (by rw [q0]; exact T.ic) (by rw [q1]; exact T.ic) (by rw [q0]; exact T.i) (by rw [q1]; exact T.i) k5
    have parts : ∃ (m : Nat) (add : Nat → Bool) (sub : Nat → Shp), (∀ i, i < m → ShW (sub i)) ∧ Dyn.DenC w (fun b => b < w.heap.size) (.row m fun i => partC (add i) (toSh (sub i))) v9 := by
      rcases DataW.trod_slice T.q k6 with ⟨hv, _⟩ | ⟨a, len, cap, elems, rest, m, rfl, hv, _, hb, hle, _, hel, hall, _⟩
      · simp only [List.cons.injEq, and_true] at hv
        subst hv
        exact ⟨0, fun _ => false, fun _ => .nil, fun i hi => absurd hi (Nat.not_lt_zero i), .nil _ none 0⟩
      · simp only [List.cons.injEq, and_true] at hv
        subst hv
        have part : ∀ i, i < len → ∃ q : (Bool × Shp) × (Nat → Value), ShW q.1.2 ∧ (∀ j, j < 11 → w.cell? ((a.add (i * 11)).add j) = some (q.2 j)) ∧ (∀ j, j < 11 → Dyn.DenC w (fun b => b < w.heap.size) ((partC q.1.1 (toSh q.1.2)).getD j default) (q.2 j)) := fun i hi => by
          have key := hall i hi
          rw [T.ec, List.getElem?_eq_getElem (by omega)] at key
          obtain ⟨cs', h1', h2'⟩ := Option.bind_eq_some_iff.1 key
          obtain ⟨_, hlen', hcell⟩ := World.cells?_some h1'
          obtain ⟨ys, n', rfl, _, _, hyl, hfy⟩ := DataW.trod_struct he h2'
          have hyl : ys.length = 2 := hyl
          have m0 := hfy 0 h0 rfl
          have m1 := hfy 1 h1 rfl
          rw [List.getElem?_eq_getElem (by omega), b0, a0, T.bc] at m0
          rw [List.getElem?_eq_getElem (by omega), b1, a1, T.sc] at m1
          obtain ⟨c, cs'', rfl⟩ : ∃ c cs'', cs' = c :: cs'' := by
            match cs', hlen' with
            | c :: cs'', _ => exact ⟨c, cs'', rfl⟩
          simp only [List.drop_zero, List.take_succ_cons, List.take_zero, List.drop_succ_cons] at m0 m1
          rw [List.take_of_length_le (by simp only [List.length_cons] at hlen'; omega)] at m1
          obtain ⟨q, hq, _⟩ := DataW.trod_bool T.b m0
          simp only [List.cons.injEq, and_true] at hq
          subst hq
          obtain ⟨s', hW', hD'⟩ := ih n' (by omega) _ _ m1
          refine ⟨((q, s'), fun j => ((.bool q : Value) :: cs'').getD j default), hW', fun j hj => ?_, fun j hj => ?_⟩
          · rw [hcell j hj]
            show _ = some ((Value.bool q :: cs'').getD j default)
            rw [List.getD_eq_getElem?_getD, List.getElem?_eq_getElem (by omega)]; rfl
          · exact DenL_get (ds := partC q (toSh s')) (us := .bool q :: cs'') ⟨.p _ rfl, hD'⟩ (by omega)
        by_cases hz : len = 0
        · subst hz
          exact ⟨0, fun _ => false, fun _ => .nil, fun i hi => absurd hi (Nat.not_lt_zero i), .nil _ (some a) cap⟩
        · haveI : Inhabited ((Bool × Shp) × (Nat → Value)) := ⟨((false, .nil), fun _ => default)⟩
          obtain ⟨g, hg⟩ := choose_lt part
          have z0 := (hg 0 (by omega)).2.1 0 (by decide)
          have za : (a.add (0 * 11)).add 0 = a.add 0 := rfl
          rw [za] at z0
          obtain ⟨hlt, hsp⟩ := addr_cell z0
          have hsp := hsp rfl
          obtain ⟨b, off, sp⟩ := a
          dsimp only at hsp
          subst hsp
          simp only [addr_add] at hg hlt
          exact ⟨len, fun i => (g i).1.1, fun i => (g i).1.2, fun i hi => (hg i hi).1, .row len _ b off cap 11 (fun i j => (g i).2 j) hle hlt (fun i hi => ⟨rfl, fun j hj => (hg i hi).2.1 j hj⟩) (fun i j hi hj => (hg i hi).2.2 j hj)⟩
    obtain ⟨m, add, sub, hW, hQ⟩ := parts
    exact ⟨.mk z0 pa pb pc z4 l m add sub, hW, .p _ rfl, a1', a2', b1', b2', c1', c2', .p _ rfl, hL, hQ, trivial⟩
end
theorem shT : ShT Try.prog 27 3 23 2 24 70 25 35 4 2 where
  s := ⟨_, _, _, _, _, _, _, Try.underlying27, ⟨rfl, rfl, rfl, rfl, rfl, rfl, rfl⟩, rfl, rfl, rfl, rfl, rfl, rfl, rfl⟩
  sc := by kernel_rfl
  kc := by kernel_rfl
  pc := by kernel_rfl
  rc := by kernel_rfl
  lc := by kernel_rfl
  qc := by kernel_rfl
  k := Try.underlying3
  r := Try.underlying2
  p := ⟨_, _, Try.underlying23, rfl, rfl, rfl, rfl⟩
  ic := by kernel_rfl
  i := Try.underlying2
  l := Try.underlying24
  l1c := by kernel_rfl
  l1 := Try.underlying70
  q := Try.underlying25
  ec := by kernel_rfl
  e := ⟨_, _, Try.underlying35, rfl, rfl, rfl, rfl⟩
  bc := by kernel_rfl
  b := Try.underlying4
end Go.Proofs.Ythnenjodighlmaa

/-! ## Pia -/
namespace Go.Proofs.Ythnenjodighlmaa
open Go Go.RowKit Sym
set_option maxRecDepth 100000

/-! ### a list of objects, as the parts of a form -/
def dvL (x : Sh) : Dyn.DV := .one (.row x.n x.f)
def obX (n : Nat) (f : Nat → List Dyn.DC) : Sh := ⟨6, ze, ze, ze, 0, zeC, n, f⟩
def mkL (n : Nat) (add : Nat → Bool) (sh : Nat → Sh) : Sh := mkSh 6 ze ze ze 0 zeC n add sh
def qL : Dec Sh
  | .one (.row n f) => some (obX n f, [])
  | _ => none
theorem qL_ok : DecOk qL dvL (fun _ => True) := fun d x ps h hp => by
  unfold qL at h; split at h
  · simp only [Option.some.injEq, Prod.mk.injEq] at h
    obtain ⟨rfl, rfl⟩ := h
    exact ⟨⟨rfl, fun _ _ => rfl⟩, trivial⟩
  · cases h
theorem SLe.dvL {x y : Sh} (h : SLe x y) : Dyn.DVLe (dvL x) (dvL y) := ⟨h.2.2.2.2.2.2.1, h.2.2.2.2.2.2.2⟩
def dtyO (t : TypeId) : Bool := dtyS t || Nat.beq t 62 || Nat.beq t 44
def lForm (n : Nat) (add : Nat → Bool) (sub : Nat → Shp) : Shp := .mk 6 ze ze ze 0 zeC n add sub
def nuO : Shp → Nat
  | .nil => 0
  | .mk _ _ _ _ _ _ n _ _ => n
def adO : Shp → Nat → Bool
  | .nil, _ => false
  | .mk _ _ _ _ _ _ _ add _, i => add i
def suO : Shp → Nat → Shp
  | .nil, _ => .nil
  | .mk _ _ _ _ _ _ _ _ sub, i => sub i

/-! ### Small -/
noncomputable def sbG (sh : Nat → Sh) (i : Nat) (_ : Unit) : Bool × Unit := (smallE (sh i) 0, ())
noncomputable def small21 (s : Shp) : Bool := bif decide ((nuO s : Int) > 20) then false else (runN (fun i (_ : Unit) => (smallF (suO s i) 0, ())) () (nuO s)).1
noncomputable def tdSb : List Dyn.EntryD := [(10, en2D (qAnd qS PdW) qI fun x d => rB (smallE x d))]
noncomputable def tabSb : Dyn.Tabs := Dyn.tabs tbF tdSb noD dtyO
theorem tabSb_ok : Dyn.TabsOk Try.prog tabSb := Dyn.tabs_ok tbF_ok (List.forall_mem_cons.2 ⟨en2D_ok (qAnd_ok qS_ok) qI_ok fun x d h _ => small_all x h.1 d, fun _ h => by cases h⟩)
def sbS (s : Sh) (i : Int) : Dyn.St := mkS 20 [(0, sH 0 0 s.n), (2, .k (vb false)), (3, sI i)] [some (.deep [.row s.n s.f])]
def sbR : Dyn.St := mkS 20 [(2, .k (vb false))] []
def sbK : List Nat := [0, 2, 3]
noncomputable def sbLp (sh : Nat → Sh) (s : Sh) : Dyn.Lp := fun id st => match id with
  | 0 => some (.side [keepA 20 [0] [] sbK (2 ^ 3) st = sbS s 0, s.n ≤ 20] (.ite (runN (sbG sh) () s.n).1 (.leaf .normal (sbS s s.n)) (.leaf .ret sbR)))
  | _ => none
noncomputable def sbB (sh : Nat → Sh) (s : Sh) (i : Nat) : Dyn.Out :=
  .ite (decide ((i : Int) < s.n)) (.side [0 ≤ (i : Int) ∧ (i : Int) < s.n, PdW (sh i), ctrSelf (sh i).l] (.ite (!(smallE (sh i) 0)) (.leaf .ret sbR) (.leaf .normal (sbS s (W (i + 1)))))) (.leaf (.exit 0) (sbS s i))
theorem sb_B (n : Nat) (add : Nat → Bool) (sh : Nat → Sh) (i : Nat) : (Dyn.lexec Try.prog tabSb (sbLp sh (mkL n add sh)) 3 (unloopD (blkD Try.f17.body 0)) .leaf (sbS (mkL n add sh) i)).rl (keepR 20 [0] [] sbK [2]) = sbB sh (mkL n add sh) i := by kernel_rfl
theorem sb_blocks : blocksL (bodyD Try.f17.body) = [(0, .loop (unloopD (blkD Try.f17.body 0))), (1, blkD Try.f17.body 1)] := by kernel_rfl
theorem sb_b0 : blocksL (unloopD (blkD Try.f17.body 0)) = [(1, blkD Try.f17.body 1)] := by kernel_rfl
theorem sb_loop (n : Nat) (add : Nat → Bool) (sh : Nat → Sh) (hP : ∀ i, i < n → PdW (sh i)) (w0 : Dyn.Base Try.prog) (st : Dyn.St) (o : Dyn.Out) (h : sbLp sh (mkL n add sh) 0 st = some o) : Dyn.BlockSound Try.prog w0 0 (.loop (unloopD (blkD Try.f17.body 0))) st o := by
  simp only [sbLp, Option.some.injEq] at h
  subst h
  refine side_two fun hS hn => ?_
  have hn' : n ≤ 20 := hn
  refine run_block (fuel := 3) tabSb_ok mo (lp := sbLp sh (mkL n add sh)) (by rw [sb_b0]; exact lpOk_cons (fun s o h => by cases h) lpOk_nil) (fun i (_ : Unit) => sbS (mkL n add sh) i) n (sbG sh) () (fun _ => sbR) (keepR 20 [0] [] sbK [2]) (keepR_ent 20 _ _ _ _) (fun i _ => sbB sh (mkL n add sh) i) (fun i _ => sb_B n add sh i) (fun i a hi ha => ?_) (fun a ha => ?_) (hS ▸ keepA_ent 20 _ _ _ _ st)
  · refine ⟨fun _ => ⟨⟨⟨by omega, by show (i : Int) < (n : Int); omega⟩, hP i hi, ctrSelf_ok _, trivial⟩, fun hx => .inr ⟨rfl, ?_, Dyn.Fits.refl _⟩, fun hx => .inl ⟨rfl, ?_, ?_⟩⟩, fun hf => ?_⟩
    · simpa [sbG] using hx
    · simpa [sbG] using hx
    · rw [Wn1 hi (by omega)]; exact Dyn.Fits.refl _
    · rw [decide_eq_false_iff_not] at hf
      exact absurd (show (i : Int) < (n : Int) by omega) hf
  · refine ⟨fun ht => ?_, fun _ => ⟨rfl, Dyn.Fits.refl _⟩⟩
    rw [decide_eq_true_eq] at ht
    exact absurd (show (n : Int) < (n : Int) from ht) (by omega)
noncomputable def sbO (sh : Nat → Sh) (s : Sh) : Dyn.RO :=
  .ite (decide ((s.n : Int) > 20)) (.leaf (rB false)) (.side [sbS s 0 = sbS s 0, s.n ≤ 20] (.ite (runN (sbG sh) () s.n).1 (.leaf (rB true)) (.leaf (rB false))))
theorem sb_O (sh : Nat → Sh) (s : Sh) : (Dyn.dfun Try.prog tabSb (sbLp sh s) 3 Try.f17 [dvL s]).ro Try.prog Try.f17.results = sbO sh s := by kernel_rfl
theorem sb_lvl (n : Nat) (add : Nat → Bool) (sh : Nat → Sh) (hP : ∀ i, i < n → PdW (sh i)) : Dyn.CallD Try.prog 17 [dvL (mkL n add sh)] (rB (bif decide ((n : Int) > 20) then false else (runN (sbG sh) () n).1)) :=
  Dyn.dcontract (lp := sbLp sh (mkL n add sh)) (fuel := 3) tabSb_ok mo Try.func17 (by kernel_rfl) (c := bodyD Try.f17.body) (by kernel_rfl)
    (fun w0 => by rw [sb_blocks]; exact lpOk_cons (sb_loop n add sh hP w0) (lpOk_cons (fun s o h => by cases h) lpOk_nil))
    (by kernel_rfl) (sb_O sh _) (by
      refine ⟨fun h => ?_, fun h => ⟨⟨rfl, ?_, trivial⟩, fun h2 => ?_, fun h2 => ?_⟩⟩
      · rw [show decide ((n : Int) > 20) = true from h]; exact ro_leaf rfl
      · have : ¬ (n : Int) > 20 := of_decide_eq_false h
        show n ≤ 20
        omega
      · rw [show decide ((n : Int) > 20) = false from h, show (runN (sbG sh) () n).1 = true from h2]; exact ro_leaf rfl
      · rw [show decide ((n : Int) > 20) = false from h, show (runN (sbG sh) () n).1 = false from h2]; exact ro_leaf rfl)
theorem small21_ok : ∀ s : Shp, ShW s → Dyn.CallD Try.prog 17 [dvL (toSh s)] (rB (small21 s)) := by
  intro s h
  cases s with
  | nil => exact h.elim
  | mk k a b c r l n add sub =>
    have q := sb_lvl n add (fun i => toSh (sub i)) fun i hi => PdW_mk (h i hi)
    unfold sbG at q
    simp only [smallE_eq] at q
    exact q
/-! ### Tame -/
noncomputable def tame21 (s : Shp) (sm : Bool) : Shp := .mk 6 ze ze ze 0 zeC (min (nuO s) 12) (adO s) (fun i => tameS (suO s i) sm 2)
noncomputable def tdTl : List Dyn.EntryD := [(12, en3D (qAnd qS PdS) qB qI fun x q d => .val (dvS (tameE x q d)))]
def drTl (K : Nat) : Bool := Nat.beq K 12
noncomputable def tabTl : Dyn.Tabs := Dyn.tabs tbF tdTl drTl dtyO
theorem tabTl_ok : Dyn.TabsOk Try.prog tabTl := Dyn.tabs_ok tbF_ok (List.forall_mem_cons.2 ⟨en3D_ok (qAnd_ok qS_ok) qB_ok qI_ok fun x q d h _ _ => tame_all x h.1 q d, fun _ h => by cases h⟩)
noncomputable def tlF (add : Nat → Bool) (sh : Nat → Sh) (sm : Bool) (i : Nat) : List Dyn.DC := partC (add i) (tameE (sh i) sm 2)
noncomputable def tlS (s : Sh) (add : Nat → Bool) (sh : Nat → Sh) (sm : Bool) (t : Int) (i : Nat) : Dyn.St := mkS 34 [(0, sH 0 0 s.n), (1, sB sm), (4, .k (.slice none 0 0)), (5, sH 1 0 i), (6, sI t)] [some (.deep [.row s.n s.f]), some (.own 62 i (tlF add sh sm))]
def tlK : List Nat := [0, 1, 4, 5, 6]
noncomputable def tlLp (add : Nat → Bool) (sh : Nat → Sh) (s : Sh) (sm : Bool) : Dyn.Lp := fun id st => match id with
  | 0 => some (.side [Dyn.nilSlot 5 62 (tlF add sh sm) (keepS 34 [0] tlK (2 ^ 6) st) = tlS s add sh sm 0 0] (.leaf .normal (tlS s add sh sm (min s.n 12 : Nat) (min s.n 12))))
  | _ => none
noncomputable def tlV (s : Sh) (add : Nat → Bool) (sh : Nat → Sh) (sm : Bool) (i : Nat) : Dyn.St := mkS 34 [(0, sH 0 0 s.n), (1, sB sm), (4, .k (.slice none 0 0)), (5, sH 1 0 (i + 1)), (6, sI (W (i + 1)))] [some (.deep [.row s.n s.f]), some (.own 62 (i + 1) (Dyn.appF i (tlF add sh sm) (fun _ => tlF add sh sm i)))]
noncomputable def tlB (s : Sh) (add : Nat → Bool) (sh : Nat → Sh) (sm : Bool) (i : Nat) : Dyn.Out :=
  .ite (bif decide ((i : Int) < s.n) then decide ((i : Int) < 12) else false)
    (.side [0 ≤ (i : Int) ∧ (i : Int) < s.n, 0 ≤ (i : Int) ∧ (i : Int) < s.n, PdS (sh i), ctrSelf (sh i).l, szP 120 i] (.leaf .normal (tlV s add sh sm i)))
    (.leaf (.exit 0) (tlS s add sh sm i i))
theorem tl_B (n : Nat) (add : Nat → Bool) (sh : Nat → Sh) (sm : Bool) (i : Nat) : (Dyn.lexec Try.prog tabTl (tlLp add sh (mkL n add sh) sm) 3 (unloopD (blkD Try.f19.body 0)) .leaf (tlS (mkL n add sh) add sh sm i i)).rl (fun _ s => keepA 34 [0] [5] tlK 0 s) = tlB (mkL n add sh) add sh sm i := by kernel_rfl
theorem tl_blocks : blocksL (bodyD Try.f19.body) = [(0, .loop (unloopD (blkD Try.f19.body 0))), (1, blkD Try.f19.body 1)] := by kernel_rfl
theorem tl_b0 : blocksL (unloopD (blkD Try.f19.body 0)) = [(1, blkD Try.f19.body 1)] := by kernel_rfl
theorem tl_loop (n : Nat) (add : Nat → Bool) (sh : Nat → Sh) (sm : Bool) (hn : n ≤ 1000000000) (hP : ∀ i, i < n → PdS (sh i)) (w0 : Dyn.Base Try.prog) (st : Dyn.St) (o : Dyn.Out) (h : tlLp add sh (mkL n add sh) sm 0 st = some o) : Dyn.BlockSound Try.prog w0 0 (.loop (unloopD (blkD Try.f19.body 0))) st o := by
  simp only [tlLp, Option.some.injEq] at h
  subst h
  refine side_one fun hS => ?_
  refine fold_block (fuel := 3) tabTl_ok mo (lp := tlLp add sh (mkL n add sh) sm) (by rw [tl_b0]; exact lpOk_cons (fun s o h => by cases h) lpOk_nil) (fun i (_ : Unit) => tlS (mkL n add sh) add sh sm i i) (min n 12) (fun _ _ => ()) () (fun _ s => keepA 34 [0] [5] tlK 0 s) (fun _ s => keepA_ent 34 _ _ _ 0 s) (fun i _ => tlB (mkL n add sh) add sh sm i) (fun i _ => tl_B n add sh sm i) (fun i hi => ?_) ?_ (hS ▸ (keepS_ent 34 (by decide) _ _ st).trans (Dyn.Ent.nilSlot (P := Try.prog) (k := 10) (by kernel_rfl) _ _))
  · have hi' : i < n := by omega
    refine ⟨fun _ => ⟨⟨⟨by omega, by show (i : Int) < (n : Int); omega⟩, ⟨by omega, by show (i : Int) < (n : Int); omega⟩, hP i hi', ctrSelf_ok _, szP_ok (by decide) (by omega), trivial⟩, rfl, ?_⟩, fun hf => ?_⟩
    · unfold tlV
      rw [Wn1 hi' hn]
      exact ⟨rfl, Dyn.HeLe.refl _, le_app rfl, trivial⟩
    · rw [Bool.eq_false_iff] at hf
      exact absurd (and_iff.2 ⟨show (i : Int) < (n : Int) by omega, by omega⟩) hf
  · refine ⟨fun ht => ?_, fun _ => ⟨rfl, Dyn.Fits.refl _⟩⟩
    have ht := and_iff.1 ht
    have h1 : ((min n 12 : Nat) : Int) < (n : Int) := ht.1
    have h2 : ((min n 12 : Nat) : Int) < 12 := ht.2
    omega
theorem tl_O (add : Nat → Bool) (sh : Nat → Sh) (s : Sh) (sm : Bool) : (Dyn.dfun Try.prog tabTl (tlLp add sh s sm) 3 Try.f19 [dvL s, dvB sm]).ro Try.prog Try.f19.results = .side [tlS s add sh sm 0 0 = tlS s add sh sm 0 0] (.leaf (.val (.one (.row (min s.n 12) (tlF add sh sm))))) := by kernel_rfl
theorem tl_lvl (n : Nat) (add : Nat → Bool) (sh : Nat → Sh) (sm : Bool) (hn : n ≤ 1000000000) (hP : ∀ i, i < n → PdS (sh i)) : Dyn.CallD Try.prog 19 [dvL (mkL n add sh), dvB sm] (.val (.one (.row (min n 12) (tlF add sh sm)))) :=
  Dyn.dcontract (lp := tlLp add sh (mkL n add sh) sm) (fuel := 3) tabTl_ok mo Try.func19 (by kernel_rfl) (c := bodyD Try.f19.body) (by kernel_rfl)
    (fun w0 => by rw [tl_blocks]; exact lpOk_cons (tl_loop n add sh sm hn hP w0) (lpOk_cons (fun s o h => by cases h) lpOk_nil))
    (by kernel_rfl) (tl_O add sh _ sm) ⟨⟨rfl, trivial⟩, rfl, fun _ _ => rfl⟩
theorem tame21_ok : ∀ s : Shp, ShB s → ∀ sm, Dyn.CallD Try.prog 19 [dvL (toSh s), dvB sm] (.val (dvL (toSh (tame21 s sm)))) := by
  intro s h sm
  cases s with
  | nil => exact h.elim
  | mk k a b c r l n add sub =>
    have q := tl_lvl n add (fun i => toSh (sub i)) sm h.2.1 fun i hi => PdS_mk (h.2.2 i hi)
    unfold tlF at q
    simp only [tameE_eq] at q
    exact q
/-! ### Class -/
noncomputable def figClassS (s : Shp) (b : B4) : Int := bif !(okE (toSh s)) then 0 else classF s b
noncomputable def pClass (s : Shp) (b : B4) : Int := foldN (fun i acc => foldF acc (figClassS (suO s i) b) (adO s i)) 0 (nuO s)
theorem figClassE_eq (s : Shp) (b : B4) : figClassE (toSh s) b = figClassS s b := by unfold figClassE figClassS; rw [classE_eq]
noncomputable def tdPc : List Dyn.EntryD := [(46, en2D (qAnd qS PdS) qX fun x b => rI (figClassE x b))]
noncomputable def tabPc : Dyn.Tabs := Dyn.tabs tbF tdPc noD dtyO
theorem tabPc_ok : Dyn.TabsOk Try.prog tabPc := Dyn.tabs_ok tbF_ok (List.forall_mem_cons.2 ⟨en2D_ok (qAnd_ok qS_ok) qX_ok fun x b h _ => figClass_ok x h.1 b, fun _ h => by cases h⟩)
noncomputable def pcG (sh : Nat → Sh) (add : Nat → Bool) (b : B4) (i : Nat) (acc : Int) : Int := foldF acc (figClassE (sh i) b) (add i)
def pcS (s : Sh) (b : B4) (acc i : Int) : Dyn.St := mkS 24 [(3, sL 1), (4, .k (vi 0)), (5, sI acc), (8, sH 0 0 s.n), (9, sI s.n), (10, sI i)] [some (.deep [.row s.n s.f]), some (.cells 40 [vi b.x0, vi b.y0, vi b.x1, vi b.y1])]
def pcK : List Nat := [3, 4, 5, 8, 9, 10]
noncomputable def pcLp (sh : Nat → Sh) (add : Nat → Bool) (s : Sh) (b : B4) : Dyn.Lp := fun id st => match id with
  | 0 => some (.side [keepA 24 [0, 1] [] pcK (2 ^ 5 + 2 ^ 10) st = pcS s b 0 0] (.leaf .normal (pcS s b (foldN (pcG sh add b) 0 s.n) s.n)))
  | _ => none
noncomputable def pcB (sh : Nat → Sh) (add : Nat → Bool) (s : Sh) (b : B4) (i : Nat) (acc : Int) : Dyn.Out :=
  .ite (decide ((i : Int) < s.n)) (.side [0 ≤ (i : Int) ∧ (i : Int) < s.n] (.side [PdS (sh i), ctrSelf (sh i).l] (.leaf .normal (pcS s b (foldF acc (figClassE (sh i) b) (add i)) (W (i + 1)))))) (.leaf (.exit 0) (pcS s b acc i))
theorem pc_B (n : Nat) (add : Nat → Bool) (sh : Nat → Sh) (b : B4) (i : Nat) (acc : Int) : (Dyn.lexec Try.prog tabPc (pcLp sh add (mkL n add sh) b) 3 (unloopD (blkD Try.f22.body 0)) .leaf (pcS (mkL n add sh) b acc i)).rl (keepR 24 [0, 1] [] pcK []) = pcB sh add (mkL n add sh) b i acc := by kernel_rfl
theorem pc_blocks : blocksL (bodyD Try.f22.body) = [(0, .loop (unloopD (blkD Try.f22.body 0))), (1, blkD Try.f22.body 1)] := by kernel_rfl
theorem pc_b0 : blocksL (unloopD (blkD Try.f22.body 0)) = [(1, blkD Try.f22.body 1)] := by kernel_rfl
theorem pc_loop (n : Nat) (add : Nat → Bool) (sh : Nat → Sh) (hn : n ≤ 1000000000) (hP : ∀ i, i < n → PdS (sh i)) (b : B4) (w0 : Dyn.Base Try.prog) (s : Dyn.St) (o : Dyn.Out) (h : pcLp sh add (mkL n add sh) b 0 s = some o) : Dyn.BlockSound Try.prog w0 0 (.loop (unloopD (blkD Try.f22.body 0))) s o := by
  simp only [pcLp, Option.some.injEq] at h
  subst h
  refine side_one fun hS => ?_
  refine fold_block (fuel := 3) tabPc_ok mo (lp := pcLp sh add (mkL n add sh) b) (by rw [pc_b0]; exact lpOk_cons (fun s o h => by cases h) lpOk_nil) (fun i acc => pcS (mkL n add sh) b acc i) n (pcG sh add b) 0 (keepR 24 [0, 1] [] pcK []) (keepR_ent 24 _ _ _ _) (fun i acc => pcB sh add (mkL n add sh) b i acc) (fun i acc => pc_B n add sh b i acc) (fun i hi => ?_) ?_ (hS ▸ keepA_ent 24 _ _ _ _ s)
  · refine ⟨fun _ => ⟨⟨⟨by omega, by show (i : Int) < (n : Int); omega⟩, trivial⟩, ⟨hP i hi, ctrSelf_ok _, trivial⟩, rfl, ?_⟩, fun hf => ?_⟩
    · rw [Wn1 hi hn]; exact Dyn.Fits.refl _
    · rw [decide_eq_false_iff_not] at hf
      exact absurd (show (i : Int) < (n : Int) by omega) hf
  · refine ⟨fun ht => ?_, fun _ => ⟨rfl, Dyn.Fits.refl _⟩⟩
    rw [decide_eq_true_eq] at ht
    exact absurd (show (n : Int) < (n : Int) from ht) (by omega)
theorem pc_O (sh : Nat → Sh) (add : Nat → Bool) (s : Sh) (b : B4) : (Dyn.dfun Try.prog tabPc (pcLp sh add s b) 3 Try.f22 [dvL s, dvX b]).ro Try.prog Try.f22.results = .side [pcS s b 0 0 = pcS s b 0 0] (.leaf (rI (foldN (pcG sh add b) 0 s.n))) := by kernel_rfl
theorem pc_lvl (n : Nat) (add : Nat → Bool) (sh : Nat → Sh) (hn : n ≤ 1000000000) (hP : ∀ i, i < n → PdS (sh i)) (b : B4) : Dyn.CallD Try.prog 22 [dvL (mkL n add sh), dvX b] (rI (foldN (pcG sh add b) 0 n)) :=
  Dyn.dcontract (lp := pcLp sh add (mkL n add sh) b) (fuel := 3) tabPc_ok mo Try.func22 (by kernel_rfl) (c := bodyD Try.f22.body) (by kernel_rfl)
    (fun w0 => by rw [pc_blocks]; exact lpOk_cons (pc_loop n add sh hn hP b w0) (lpOk_cons (fun s o h => by cases h) lpOk_nil))
    (by kernel_rfl) (pc_O sh add _ b) ⟨⟨rfl, trivial⟩, ro_leaf rfl⟩
theorem pClass_ok : ∀ s : Shp, ShB s → ∀ b, Dyn.CallD Try.prog 22 [dvL (toSh s), dvX b] (rI (pClass s b)) := by
  intro s h b
  cases s with
  | nil => exact h.elim
  | mk k a b' c r l n add sub =>
    have q := pc_lvl n add (fun i => toSh (sub i)) h.2.1 (fun i hi => PdS_mk (h.2.2 i hi)) b
    unfold pcG at q
    simp only [figClassE_eq] at q
    exact q
end Go.Proofs.Ythnenjodighlmaa

/-! ## Rof -/
namespace Go.Proofs.Ythnenjodighlmaa
open Go Go.ChangeShapes Go.WideShapes Go.ChangeAt Go.RowKit Go.Joins Go.Deep
set_option maxRecDepth 100000

section
variable {H : Type} {enc : TypeId × Value → H} {P : Program} {w : World} {base : Nat} {spare : Nat → Bool} {held : Bool}
theorem objs_den {tS tK tP tR tL tL1 tQ tE tB tI tQ' tE' : TypeId} (T : ShT P tS tK tP tR tL tL1 tQ tE tB tI) (q : P.underlying tQ' = some (.slice tE')) (ec : P.cellsOf tE' = 11)
    (he : ∃ h0 h1 : Field, P.underlying tE' = some (.struct #[h0, h1]) ∧ h0.offset = 0 ∧ h1.offset = 1 ∧ h0.type = tB ∧ h1.type = tS) {fuel : Nat} {v9 : Value} {y : DataW H × List MemPlace} (k6 : DataW.trod enc P w base spare held fuel tQ' [v9] = some y) :
    ∃ (m : Nat) (add : Nat → Bool) (sub : Nat → Shp), (∀ i, i < m → ShW (sub i)) ∧ Dyn.DenC w (fun b => b < w.heap.size) (.row m fun i => partC (add i) (toSh (sub i))) v9 := by
  obtain ⟨h0, h1, he, a0, a1, b0, b1⟩ := he
  rcases DataW.trod_slice q k6 with ⟨hv, _⟩ | ⟨a, len, cap, elems, rest, m, rfl, hv, _, hb, hle, _, hel, hall, _⟩
  · simp only [List.cons.injEq, and_true] at hv
    subst hv
    exact ⟨0, fun _ => false, fun _ => .nil, fun i hi => absurd hi (Nat.not_lt_zero i), .nil _ none 0⟩
  · simp only [List.cons.injEq, and_true] at hv
    subst hv
    have part : ∀ i, i < len → ∃ q : (Bool × Shp) × (Nat → Value), ShW q.1.2 ∧ (∀ j, j < 11 → w.cell? ((a.add (i * 11)).add j) = some (q.2 j)) ∧ (∀ j, j < 11 → Dyn.DenC w (fun b => b < w.heap.size) ((partC q.1.1 (toSh q.1.2)).getD j default) (q.2 j)) := fun i hi => by
      have key := hall i hi
      rw [ec, List.getElem?_eq_getElem (by omega)] at key
      obtain ⟨cs', h1', h2'⟩ := Option.bind_eq_some_iff.1 key
      obtain ⟨_, hlen', hcell⟩ := World.cells?_some h1'
      obtain ⟨ys, n', rfl, _, _, hyl, hfy⟩ := DataW.trod_struct he h2'
      have hyl : ys.length = 2 := hyl
      have m0 := hfy 0 h0 rfl
      have m1 := hfy 1 h1 rfl
      rw [List.getElem?_eq_getElem (by omega), b0, a0, T.bc] at m0
      rw [List.getElem?_eq_getElem (by omega), b1, a1, T.sc] at m1
      obtain ⟨c, cs'', rfl⟩ : ∃ c cs'', cs' = c :: cs'' := by
        match cs', hlen' with
        | c :: cs'', _ => exact ⟨c, cs'', rfl⟩
      simp only [List.drop_zero, List.take_succ_cons, List.take_zero, List.drop_succ_cons] at m0 m1
      rw [List.take_of_length_le (by simp only [List.length_cons] at hlen'; omega)] at m1
      obtain ⟨q, hq, _⟩ := DataW.trod_bool T.b m0
      simp only [List.cons.injEq, and_true] at hq
      subst hq
      obtain ⟨s', hW', hD'⟩ := shape_den T n' _ _ m1
      refine ⟨((q, s'), fun j => ((.bool q : Value) :: cs'').getD j default), hW', fun j hj => ?_, fun j hj => ?_⟩
      · rw [hcell j hj]
        show _ = some ((Value.bool q :: cs'').getD j default)
        rw [List.getD_eq_getElem?_getD, List.getElem?_eq_getElem (by omega)]; rfl
      · exact DenL_get (ds := partC q (toSh s')) (us := .bool q :: cs'') ⟨.p _ rfl, hD'⟩ (by omega)
    by_cases hz : len = 0
    · subst hz
      exact ⟨0, fun _ => false, fun _ => .nil, fun i hi => absurd hi (Nat.not_lt_zero i), .nil _ (some a) cap⟩
    · haveI : Inhabited ((Bool × Shp) × (Nat → Value)) := ⟨((false, .nil), fun _ => default)⟩
      obtain ⟨g, hg⟩ := choose_lt part
      have z0 := (hg 0 (by omega)).2.1 0 (by decide)
      have za : (a.add (0 * 11)).add 0 = a.add 0 := rfl
      rw [za] at z0
      obtain ⟨hlt, hsp⟩ := addr_cell z0
      have hsp := hsp rfl
      obtain ⟨b, off, sp⟩ := a
      dsimp only at hsp
      subst hsp
      simp only [addr_add] at hg hlt
      exact ⟨len, fun i => (g i).1.1, fun i => (g i).1.2, fun i hi => (hg i hi).1, .row len _ b off cap 11 (fun i j => (g i).2 j) hle hlt (fun i hi => ⟨rfl, fun j hj => (hg i hi).2.1 j hj⟩) (fun i j hi hj => (hg i hi).2.2 j hj)⟩
theorem open_O {tS tK tP tR tL tL1 tQ tE tB tI tQ' tE' : TypeId} (T : ShT P tS tK tP tR tL tL1 tQ tE tB tI) (q : P.underlying tQ' = some (.slice tE')) (ec : P.cellsOf tE' = 11)
    (he : ∃ h0 h1 : Field, P.underlying tE' = some (.struct #[h0, h1]) ∧ h0.offset = 0 ∧ h1.offset = 1 ∧ h0.type = tB ∧ h1.type = tS) {r : Reach} {b0 : Nat} {v : Value} {d : DataW H} {ps : List MemPlace} (hval : Value.okWide P w r b0 tQ' v) (hd : DataW.Trod enc P w base spare held tQ' v d ps) :
    ∃ s : Shp, ShW s ∧ Dyn.DenV w (fun b => b < w.heap.size) (dvL (toSh s)) v := by
  obtain ⟨a, len, cap, rfl⟩ := okWide_slice q hval
  obtain ⟨fuel, hf⟩ := hd
  obtain ⟨m, add, sub, hW, hD⟩ := objs_den T q ec he hf
  exact ⟨lForm m add sub, hW, hD⟩
end
end Go.Proofs.Ythnenjodighlmaa

/-! ## Tuc -/
namespace Go.Proofs.Ythnenjodighlmaa
open Go Go.RowKit Sym
set_option maxRecDepth 100000

end Go.Proofs.Ythnenjodighlmaa

/-! ## Bou -/
namespace Go.Proofs.Ythnenjodighlmaa
open Go Go.RowKit Sym
set_option maxRecDepth 100000

def ruM (a : Int × Int) : Int := W ((W (a.1 + a.2)).tdiv 2)
def ruStep (v : Int) (a : Int × Int) : Int × Int := (bif decide (W (ruM a * ruM a) ≥ v) then a.1 else W (ruM a + 1), bif decide (W (ruM a * ruM a) ≥ v) then ruM a else a.2)
def ruG (v : Int) (_ : Nat) (a : Int × Int) : Int × Int := ruStep v a
def ruCnt (v : Int) : Nat → Int × Int → Nat
  | 0, _ => 0
  | f + 1, a => if a.1 < a.2 then ruCnt v f (ruStep v a) + 1 else 0
def ruA : Int × Int := (0, 2147483648)
def ruN (v : Int) : Nat := ruCnt v 32 ruA
/-- the least whole number whose square is not less than v -/
def rupF (v : Int) : Int := (foldN (ruG v) ruA (ruN v)).1
def ruI (a : Int × Int) : Prop := 0 ≤ a.1 ∧ a.1 ≤ a.2 ∧ a.2 ≤ 2147483648
theorem ruM_eq {a : Int × Int} (h : ruI a) : ruM a = (a.1 + a.2) / 2 := by
  obtain ⟨h1, h2, h3⟩ := h
  unfold ruM
  rw [W_id (x := a.1 + a.2) (by omega) (by omega), Int.tdiv_eq_ediv_of_nonneg (by omega), W_id (by omega) (by omega)]
theorem ru_step {v : Int} {a : Int × Int} (h : ruI a) (hlt : a.1 < a.2) : ruI (ruStep v a) ∧ 2 * ((ruStep v a).2 - (ruStep v a).1) ≤ a.2 - a.1 := by
  have m := ruM_eq h
  obtain ⟨h1, h2, h3⟩ := h
  have w : W (ruM a + 1) = ruM a + 1 := by rw [m]; exact W_id (by omega) (by omega)
  unfold ruStep ruI
  rw [w]
  cases decide (W (ruM a * ruM a) ≥ v)
  · exact ⟨⟨by dsimp only [cond_false]; omega, by dsimp only [cond_false]; omega, by dsimp only [cond_false]; omega⟩, by dsimp only [cond_false]; omega⟩
  · exact ⟨⟨by dsimp only [cond_true]; omega, by dsimp only [cond_true]; omega, by dsimp only [cond_true]; omega⟩, by dsimp only [cond_true]; omega⟩
theorem foldN_ru (v : Int) (a : Int × Int) : ∀ k, foldN (ruG v) a (k + 1) = foldN (ruG v) (ruStep v a) k
  | 0 => rfl
  | k + 1 => by
    show ruG v (k + 1) (foldN (ruG v) a (k + 1)) = ruG v k (foldN (ruG v) (ruStep v a) k)
    rw [foldN_ru v a k]; rfl
theorem ru_run (v : Int) : ∀ (f : Nat) (a : Int × Int), ruI a → a.2 - a.1 < 2 ^ f → (∀ k, k < ruCnt v f a → (foldN (ruG v) a k).1 < (foldN (ruG v) a k).2) ∧ ¬ (foldN (ruG v) a (ruCnt v f a)).1 < (foldN (ruG v) a (ruCnt v f a)).2
  | 0, a, h, hf => by
    refine ⟨fun k hk => absurd hk (Nat.not_lt_zero k), ?_⟩
    show ¬ a.1 < a.2
    have : (2 : Int) ^ 0 = 1 := by decide
    omega
  | f + 1, a, h, hf => by
    by_cases hlt : a.1 < a.2
    · have st := ru_step (v := v) h hlt
      have e : (2 : Int) ^ (f + 1) = 2 * 2 ^ f := by rw [Int.pow_succ, Int.mul_comm]
      have ih := ru_run v f (ruStep v a) st.1 (by omega)
      have c : ruCnt v (f + 1) a = ruCnt v f (ruStep v a) + 1 := by simp only [ruCnt]; rw [if_pos hlt]
      rw [c]
      refine ⟨fun k hk => ?_, ?_⟩
      · cases k with
        | zero => exact hlt
        | succ k => rw [foldN_ru]; exact ih.1 k (by omega)
      · rw [foldN_ru]; exact ih.2
    · have c : ruCnt v (f + 1) a = 0 := by simp only [ruCnt]; rw [if_neg hlt]
      rw [c]
      exact ⟨fun k hk => absurd hk (Nat.not_lt_zero k), hlt⟩
theorem ru_all (v : Int) : (∀ k, k < ruN v → (foldN (ruG v) ruA k).1 < (foldN (ruG v) ruA k).2) ∧ ¬ (foldN (ruG v) ruA (ruN v)).1 < (foldN (ruG v) ruA (ruN v)).2 := ru_run v 32 ruA ⟨by decide, by decide, by decide⟩ (by decide)
def ruS (v : Int) (a : Int × Int) : Dyn.St := mkS 22 [(0, sI v), (2, .k (vi 0)), (3, sI a.1), (4, sI a.2)] []
def ruK : List Nat := [0, 2, 3, 4]
def ruB (v : Int) (a : Int × Int) : Dyn.Out := .ite (decide (a.1 < a.2)) (.leaf .normal (ruS v (ruStep v a))) (.leaf (.exit 0) (ruS v a))
theorem ru_B (v : Int) (a : Int × Int) : (Dyn.lexec Try.prog tabF0 Dyn.noLp 3 (unloopD (blkD Try.f59.body 0)) .leaf (ruS v a)).rl (keepR 22 [] [] ruK [2]) = ruB v a := by kernel_rfl
def ruLp (v : Int) : Dyn.Lp := fun id st => match id with
  | 0 => some (.side [keepA 22 [] [] ruK (2 ^ 3 + 2 ^ 4) st = ruS v ruA] (.leaf .normal (ruS v (foldN (ruG v) ruA (ruN v)))))
  | _ => none
theorem ru_blocks : blocksL (bodyD Try.f59.body) = [(0, .loop (unloopD (blkD Try.f59.body 0))), (1, blkD Try.f59.body 1)] := by kernel_rfl
theorem ru_b0 : blocksL (unloopD (blkD Try.f59.body 0)) = [(1, blkD Try.f59.body 1)] := by kernel_rfl
theorem ru_loop (v : Int) (w0 : Dyn.Base Try.prog) (st : Dyn.St) (o : Dyn.Out) (h : ruLp v 0 st = some o) : Dyn.BlockSound Try.prog w0 0 (.loop (unloopD (blkD Try.f59.body 0))) st o := by
  simp only [ruLp, Option.some.injEq] at h
  subst h
  refine side_one fun hS => ?_
  refine fold_block (fuel := 3) tabF0_ok mo (lp := Dyn.noLp) (by rw [ru_b0]; exact lpOk_cons (fun s o h => by cases h) lpOk_nil) (fun _ a => ruS v a) (ruN v) (ruG v) ruA (keepR 22 [] [] ruK [2]) (keepR_ent 22 _ _ _ _) (fun _ a => ruB v a) (fun _ a => ru_B v a) (fun i hi => ?_) ?_ (hS ▸ keepA_ent 22 _ _ _ _ st)
  · exact ⟨fun _ => ⟨rfl, Dyn.Fits.refl _⟩, fun hf => absurd ((ru_all v).1 i hi) (by simpa using hf)⟩
  · exact ⟨fun ht => absurd (by simpa using ht) (ru_all v).2, fun _ => ⟨rfl, Dyn.Fits.refl _⟩⟩
theorem rootUp_ok (v : Int) : Dyn.CallD Try.prog 59 [dvI v] (rI (rupF v)) :=
  Dyn.dcontract (lp := ruLp v) (fuel := 3) (X := tabF0) tabF0_ok mo Try.func59 (by kernel_rfl) (c := bodyD Try.f59.body) (by kernel_rfl)
    (fun w0 => by rw [ru_blocks]; exact lpOk_cons (ru_loop v w0) (lpOk_cons (fun s o h => by cases h) lpOk_nil))
    (by kernel_rfl) (O := .side [ruS v ruA = ruS v ruA] (.leaf (rI (rupF v)))) (by kernel_rfl) ⟨⟨rfl, trivial⟩, rfl⟩
/-! ### take -/
def tkF (f : Bool) (a b : B4) : B4 := ⟨bif f then imin a.x0 b.x0 else b.x0, bif f then imin a.y0 b.y0 else b.y0, bif f then imax a.x1 b.x1 else b.x1, bif f then imax a.y1 b.y1 else b.y1⟩
def bxV (b : B4) : List Value := [vi b.x0, vi b.y0, vi b.x1, vi b.y1]
def tkL (f : Bool) (a : B4) : Dyn.Lent := [(4, [vb f]), (40, bxV a)]
theorem tk_O (f : Bool) (a b : B4) : (Dyn.dfunX Try.prog tabF0 Dyn.noLp 3 Try.f60 (tkL f a) [.d (dvX b), .lp 0 0, .lp 1 0]).rx Try.prog (tkL f a) Try.f60.results
    = .ite f (.leaf (.tuple ⟨[]⟩) [[vb true], bxV (tkF true a b)]) (.leaf (.tuple ⟨[]⟩) [[vb true], bxV (tkF false a b)]) := by kernel_rfl
theorem take_ok (f : Bool) (a b : B4) : Dyn.CallX Try.prog 60 [.d (dvX b), .lp 0 0, .lp 1 0] (tkL f a) (.tuple ⟨[]⟩) [[vb true], bxV (tkF f a b)] :=
  Dyn.xcontract (lp := Dyn.noLp) (fuel := 3) (X := tabF0) tabF0_ok mo Try.func60 (by kernel_rfl) (c := bodyD Try.f60.body) (by kernel_rfl) (fun w0 => Dyn.noLp_ok _ w0)
    (by kernel_rfl) (by kernel_rfl) (by kernel_rfl) (tk_O f a b) ⟨fun h => by subst h; exact ⟨rfl, rfl⟩, fun h => by subst h; exact ⟨rfl, rfl⟩⟩
def enTk : List Dyn.LA → Dyn.Lent → Option (Value × List (List Value) × List Prop)
  | [.d u, .lp 0 0, .lp 1 0], [(t, [.bool f]), (t2, [.int .i64 x0, .int .i64 y0, .int .i64 x1, .int .i64 y1])] => match aX u, Nat.beq t 4, Nat.beq t2 40 with
    | some b, true, true => some (.tuple ⟨[]⟩, [[vb true], bxV (tkF f ⟨x0, y0, x1, y1⟩ b)], [])
    | _, _, _ => none
  | _, _ => none
theorem CallX_le1 {P : Program} {K : Nat} {u u' : Dyn.DV} {l : List Dyn.LA} {lent : Dyn.Lent} {r : Value} {o : List (List Value)} (h1 : Dyn.DVLe u u') (k : Dyn.CallX P K (.d u' :: l) lent r o) : Dyn.CallX P K (.d u :: l) lent r o := fun w F bs us hF hn hd hl hden => k w F bs us hF hn hd hl (by
  cases us with
  | nil => exact hden
  | cons x us => exact ⟨Dyn.DenV_le h1 hden.1, hden.2⟩)
theorem enTk_ok : Dyn.EntryXOk Try.prog (60, enTk) := fun as' lent u out ps h hp => by
  dsimp only at h
  unfold enTk at h
  split at h
  · rename_i t f t2 x0 y0 x1 y1
    split at h
    · rename_i b hb ht ht2
      have e1 := Nat.eq_of_beq_eq_true ht
      have e2 := Nat.eq_of_beq_eq_true ht2
      subst e1; subst e2
      simp only [Option.some.injEq, Prod.mk.injEq] at h
      obtain ⟨rfl, rfl, rfl⟩ := h
      exact CallX_le1 (aX_eq hb) (take_ok f ⟨x0, y0, x1, y1⟩ b)
    · cases h
  · cases h
def BdOk (x : Sh) (g : Sh → B4 × Bool) : Prop := Dyn.CallD Try.prog 42 [dvS x] (.tup [dvX (g x).1, dvB (g x).2])
def tdBd (Pd : Sh → Prop) (g : Sh → B4 × Bool) : List Dyn.EntryD := [(59, en1D qI fun v => rI (rupF v)), (42, en1D (qAnd qS Pd) fun x => .tup [dvX (g x).1, dvB (g x).2])]
def drBd (K : Nat) : Bool := Nat.beq K 60
def tabBd (Pd : Sh → Prop) (g : Sh → B4 × Bool) : Dyn.Tabs := Dyn.tabsX tbF (tdBd Pd g) [(60, enTk)] drBd dtyS true
theorem tabBd_ok {Pd : Sh → Prop} {g : Sh → B4 × Bool} (ih : ∀ x, Pd x → BdOk x g) : Dyn.TabsOk Try.prog (tabBd Pd g) :=
  Dyn.tabsX_ok tbF_ok (List.forall_mem_cons.2 ⟨en1D_ok qI_ok fun v _ => rootUp_ok v, List.forall_mem_cons.2 ⟨en1D_ok (qAnd_ok qS_ok) fun x h => ih x h.1, fun _ h => by cases h⟩⟩) (List.forall_mem_cons.2 ⟨enTk_ok, fun _ h => by cases h⟩)
def bdQ : Bool × B4 := (false, ⟨0, 0, 0, 0⟩)
def bdI (l : Ctr) (i k : Nat) (q : Bool × B4) : Bool × B4 := (true, tkF q.1 q.2 (aroundF (l.p i k) (l.p i k) 0))
def bdO (l : Ctr) (i : Nat) (q : Bool × B4) : Bool × B4 := foldN (bdI l i) q (l.m i)
def bdP (g : Sh → B4 × Bool) (sh : Nat → Sh) (add : Nat → Bool) (i : Nat) (q : Bool × B4) : Bool × B4 := bif !(add i) then q else bif (g (sh i)).2 then (true, tkF q.1 q.2 (g (sh i)).1) else q
def sFn : Dyn.SV := .v (.func (.func 60) ⟨[]⟩ ⟨[.pointer (some ⟨4, 0, none⟩), .pointer (some ⟨3, 0, none⟩)]⟩)
def bdH (s : Sh) (q : Bool × B4) : List (Option Dyn.HE) := [some (.deep (cS s)), some (.cells 27 (shV 0 8 s)), some (.cells 40 [vi 0, vi 0, vi 0, vi 0]), some (.cells 40 (bxV q.2)), some (.cells 4 [vb q.1])]
def bdL : List (Nat × Dyn.SV) := [(1, sL 1), (2, sL 2), (3, .k (vb false)), (6, sL 3), (7, sL 4), (8, sFn)]
def bdS (s : Sh) (q : Bool × B4) (i : Int) : Dyn.St := mkS 114 (bdL ++ [(72, sH 0 8 s.l.n), (73, sI s.l.n), (74, sI i)]) (bdH s q)
def bdT (s : Sh) (q : Bool × B4) (i j : Int) : Dyn.St := mkS 114 (bdL ++ [(10, sH 5 0 (s.l.m i.toNat)), (72, sH 0 8 s.l.n), (73, sI s.l.n), (74, sI i), (78, sH 5 0 (s.l.m i.toNat)), (79, sI (s.l.m i.toNat)), (80, sI j)]) (bdH s q ++ [some (.deep [cRow (s.l.m i.toNat) (s.l.p i.toNat)])])
def bdU (s : Sh) (q : Bool × B4) (i : Int) : Dyn.St := mkS 114 (bdL ++ [(92, sH 0 9 s.n), (93, sI s.n), (94, sI i)]) (bdH s q)
def bdK0 : List Nat := [1, 2, 3, 6, 7, 8, 72, 73, 74]
def bdK1 : List Nat := [1, 2, 3, 6, 7, 8, 10, 72, 73, 74, 78, 79, 80]
def bdK2 : List Nat := [1, 2, 3, 6, 7, 8, 92, 93, 94]
def accB (st : Dyn.St) : Bool × B4 := match st.heap.getD 3 none, st.heap.getD 4 none with
  | some (.cells _ [.int _ x0, .int _ y0, .int _ x1, .int _ y1]), some (.cells _ [.bool f]) => (f, ⟨x0, y0, x1, y1⟩)
  | _, _ => bdQ
def bdLp (g : Sh → B4 × Bool) (sh : Nat → Sh) (add : Nat → Bool) (s : Sh) : Dyn.Lp := fun id st => match id with
  | 1 => some (.side [keepA 114 [0, 1, 2, 4, 5] [] bdK0 (2 ^ 74) st = bdS s bdQ 0] (.leaf .normal (bdS s (foldN (bdO s.l) bdQ s.l.n) s.l.n)))
  | 3 =>
    let q := accB st
    let i := intD (st.slots.getD 74 .junk)
    some (.side [keepA 114 [0, 1, 2, 3, 4] [10] bdK1 (2 ^ 80) st = bdT s q i 0, 0 ≤ i ∧ i < s.l.n] (.leaf .normal (bdT s (bdO s.l i.toNat q) i (s.l.m i.toNat))))
  | 5 =>
    let q := accB st
    some (.side [keepA 114 [0, 1, 2, 3, 4] [] bdK2 (2 ^ 94) st = bdU s q 0] (.leaf .normal (bdU s (foldN (bdP g sh add) q s.n) s.n)))
  | _ => none
def bdBi (s : Sh) (q : Bool × B4) (i j : Nat) : Dyn.Out :=
  .ite (decide ((j : Int) < s.l.m i)) (.side [0 ≤ (j : Int) ∧ (j : Int) < s.l.m i] (.leaf .normal (bdT s (bdI s.l i j q) i (W (j + 1))))) (.leaf (.exit 3) (bdT s q i j))
def bdBo (s : Sh) (q : Bool × B4) (i : Nat) : Dyn.Out :=
  .ite (decide ((i : Int) < s.l.n)) (.side [0 ≤ (i : Int) ∧ (i : Int) < s.l.n] (.side [bdT s q i 0 = bdT s q i 0, 0 ≤ (i : Int) ∧ (i : Int) < s.l.n] (.leaf .normal (bdS s (bdO s.l i q) (W (i + 1)))))) (.leaf (.exit 1) (bdS s q i))
def bdBp (Pd : Sh → Prop) (g : Sh → B4 × Bool) (sh : Nat → Sh) (add : Nat → Bool) (s : Sh) (q : Bool × B4) (i : Nat) : Dyn.Out :=
  .ite (decide ((i : Int) < s.n)) (.side [0 ≤ (i : Int) ∧ (i : Int) < s.n] (.ite (!(add i)) (.leaf .normal (bdU s q (W (i + 1)))) (.side [Pd (sh i), ctrSelf (sh i).l] (.ite (g (sh i)).2 (.leaf .normal (bdU s (true, tkF q.1 q.2 (g (sh i)).1) (W (i + 1)))) (.leaf .normal (bdU s q (W (i + 1)))))))) (.leaf (.exit 5) (bdU s q i))
theorem bd_Bi (Pd : Sh → Prop) (g : Sh → B4 × Bool) (sh : Nat → Sh) (add : Nat → Bool) (s : Sh) (q : Bool × B4) (i j : Nat) : (Dyn.lexec Try.prog (tabBd Pd g) (bdLp g sh add s) 3 (unloopD (blkD Try.f42.body 3)) .leaf (bdT s q i j)).rl (keepR 114 [0, 1, 2, 3, 4] [10] bdK1 []) = bdBi s q i j := by kernel_rfl
theorem bd_Bo (Pd : Sh → Prop) (g : Sh → B4 × Bool) (sh : Nat → Sh) (add : Nat → Bool) (s : Sh) (q : Bool × B4) (i : Nat) : (Dyn.lexec Try.prog (tabBd Pd g) (bdLp g sh add s) 3 (unloopD (blkD Try.f42.body 1)) .leaf (bdS s q i)).rl (keepR 114 [0, 1, 2, 3, 4] [] bdK0 []) = bdBo s q i := by kernel_rfl
theorem bd_Bp (Pd : Sh → Prop) (g : Sh → B4 × Bool) (k : Int) (a b c : P2) (r : Int) (l : Ctr) (n : Nat) (add : Nat → Bool) (sh : Nat → Sh) (q : Bool × B4) (i : Nat) : (Dyn.lexec Try.prog (tabBd Pd g) (bdLp g sh add (mkSh k a b c r l n add sh)) 3 (unloopD (blkD Try.f42.body 5)) .leaf (bdU (mkSh k a b c r l n add sh) q i)).rl (keepR 114 [0, 1, 2, 3, 4] [] bdK2 []) = bdBp Pd g sh add (mkSh k a b c r l n add sh) q i := by kernel_rfl
theorem bd_blocks : blocksL (bodyD Try.f42.body) = [(0, blkD Try.f42.body 0), (1, .loop (unloopD (blkD Try.f42.body 1))), (2, blkD Try.f42.body 2), (3, .loop (unloopD (blkD Try.f42.body 3))), (4, blkD Try.f42.body 4), (5, .loop (unloopD (blkD Try.f42.body 5))), (6, blkD Try.f42.body 6)] := by kernel_rfl
theorem bd_b1 : blocksL (unloopD (blkD Try.f42.body 1)) = [(2, blkD Try.f42.body 2), (3, .loop (unloopD (blkD Try.f42.body 3))), (4, blkD Try.f42.body 4)] := by kernel_rfl
theorem bd_b3 : blocksL (unloopD (blkD Try.f42.body 3)) = [(4, blkD Try.f42.body 4)] := by kernel_rfl
theorem bd_b5 : blocksL (unloopD (blkD Try.f42.body 5)) = [(6, blkD Try.f42.body 6)] := by kernel_rfl
theorem bd_inner {Pd : Sh → Prop} {g : Sh → B4 × Bool} (ih : ∀ x, Pd x → BdOk x g) (sh : Nat → Sh) (add : Nat → Bool) (s : Sh) (hl : CtrB s.l) (w0 : Dyn.Base Try.prog) (st : Dyn.St) (o : Dyn.Out)
    (h : bdLp g sh add s 3 st = some o) : Dyn.BlockSound Try.prog w0 3 (.loop (unloopD (blkD Try.f42.body 3))) st o := by
  simp only [bdLp, Option.some.injEq] at h
  subst h
  refine side_two fun hS hi => ?_
  revert hS hi
  generalize intD (st.slots.getD 74 .junk) = i'
  generalize accB st = q
  intro hS hi
  obtain ⟨i, rfl⟩ : ∃ i : Nat, i' = (i : Int) := ⟨i'.toNat, by omega⟩
  have hm : s.l.m i ≤ 1000000000 := hl.2 i (by omega)
  refine fold_block (fuel := 3) (tabBd_ok ih) mo (lp := bdLp g sh add s) (by rw [bd_b3]; exact lpOk_cons (fun s o h => by cases h) lpOk_nil) (fun j q => bdT s q i j) (s.l.m i) (bdI s.l i) q (keepR 114 [0, 1, 2, 3, 4] [10] bdK1 []) (keepR_ent 114 _ _ _ _) (fun j q => bdBi s q i j) (fun j q => bd_Bi Pd g sh add s q i j) (fun j hj => ?_) ?_ (hS ▸ keepA_ent 114 _ _ _ _ st)
  · refine ⟨fun _ => ⟨⟨⟨by omega, by omega⟩, trivial⟩, rfl, ?_⟩, fun hf => ?_⟩
    · rw [Wn1 hj hm]; exact Dyn.Fits.refl _
    · rw [decide_eq_false_iff_not] at hf; omega
  · refine ⟨fun ht => ?_, fun _ => ⟨rfl, Dyn.Fits.refl _⟩⟩
    rw [decide_eq_true_eq] at ht; omega
theorem bd_outer {Pd : Sh → Prop} {g : Sh → B4 × Bool} (ih : ∀ x, Pd x → BdOk x g) (sh : Nat → Sh) (add : Nat → Bool) (s : Sh) (hl : CtrB s.l) (w0 : Dyn.Base Try.prog) (st : Dyn.St) (o : Dyn.Out)
    (h : bdLp g sh add s 1 st = some o) : Dyn.BlockSound Try.prog w0 1 (.loop (unloopD (blkD Try.f42.body 1))) st o := by
  simp only [bdLp, Option.some.injEq] at h
  subst h
  refine side_one fun hS => ?_
  refine fold_block (fuel := 3) (tabBd_ok ih) mo (lp := bdLp g sh add s) (by rw [bd_b1]; exact lpOk_cons (fun s o h => by cases h) (lpOk_cons (bd_inner ih sh add s hl w0) (lpOk_cons (fun s o h => by cases h) lpOk_nil))) (fun i q => bdS s q i) s.l.n (bdO s.l) bdQ (keepR 114 [0, 1, 2, 3, 4] [] bdK0 []) (keepR_ent 114 _ _ _ _) (fun i q => bdBo s q i) (fun i q => bd_Bo Pd g sh add s q i) (fun i hi => ?_) ?_ (hS ▸ keepA_ent 114 _ _ _ _ st)
  · have hb : 0 ≤ (i : Int) ∧ (i : Int) < s.l.n := ⟨by omega, by omega⟩
    refine ⟨fun _ => ⟨⟨hb, trivial⟩, ⟨rfl, hb, trivial⟩, rfl, ?_⟩, fun hf => ?_⟩
    · rw [Wn1 hi hl.1]; exact Dyn.Fits.refl _
    · rw [decide_eq_false_iff_not] at hf; omega
  · refine ⟨fun ht => ?_, fun _ => ⟨rfl, Dyn.Fits.refl _⟩⟩
    rw [decide_eq_true_eq] at ht; omega
theorem bd_parts {Pd : Sh → Prop} {g : Sh → B4 × Bool} (ih : ∀ x, Pd x → BdOk x g) (k : Int) (a b c : P2) (r : Int) (l : Ctr) (n : Nat) (add : Nat → Bool) (sh : Nat → Sh) (hn : n ≤ 1000000000) (hP : ∀ i, i < n → Pd (sh i)) (w0 : Dyn.Base Try.prog) (st : Dyn.St) (o : Dyn.Out)
    (h : bdLp g sh add (mkSh k a b c r l n add sh) 5 st = some o) : Dyn.BlockSound Try.prog w0 5 (.loop (unloopD (blkD Try.f42.body 5))) st o := by
  simp only [bdLp, Option.some.injEq] at h
  subst h
  refine side_one fun hS => ?_
  revert hS
  generalize accB st = q0
  intro hS
  refine fold_block (fuel := 3) (tabBd_ok ih) mo (lp := bdLp g sh add (mkSh k a b c r l n add sh)) (by rw [bd_b5]; exact lpOk_cons (fun s o h => by cases h) lpOk_nil) (fun i q => bdU (mkSh k a b c r l n add sh) q i) n (bdP g sh add) q0 (keepR 114 [0, 1, 2, 3, 4] [] bdK2 []) (keepR_ent 114 _ _ _ _) (fun i q => bdBp Pd g sh add (mkSh k a b c r l n add sh) q i) (fun i q => bd_Bp Pd g k a b c r l n add sh q i) (fun i hi => ?_) ?_ (hS ▸ keepA_ent 114 _ _ _ _ st)
  · have hb : 0 ≤ (i : Int) ∧ (i : Int) < (n : Int) := ⟨by omega, by omega⟩
    generalize foldN (bdP g sh add) q0 i = q
    unfold bdP
    refine ⟨fun _ => ⟨⟨hb, trivial⟩, fun hx => ⟨rfl, ?_⟩, fun hx => ⟨⟨hP i hi, ctrSelf_ok _, trivial⟩, fun hy => ⟨rfl, ?_⟩, fun hy => ⟨rfl, ?_⟩⟩⟩, fun hf => ?_⟩
    · rw [Wn1 hi hn, hx]; exact Dyn.Fits.refl _
    · rw [Wn1 hi hn, hx, hy]; exact Dyn.Fits.refl _
    · rw [Wn1 hi hn, hx, hy]; exact Dyn.Fits.refl _
    · rw [decide_eq_false_iff_not] at hf
      exact absurd hb.2 hf
  · refine ⟨fun ht => ?_, fun _ => ⟨rfl, Dyn.Fits.refl _⟩⟩
    rw [decide_eq_true_eq] at ht
    exact absurd (show (n : Int) < (n : Int) from ht) (by omega)
def bdR (s : Sh) : Int := W (s.r + rupF (W (W (W (s.a.x - s.c.x) * W (s.a.x - s.c.x)) + W (W (s.a.y - s.c.y) * W (s.a.y - s.c.y)))))
def bdAll (g : Sh → B4 × Bool) (sh : Nat → Sh) (add : Nat → Bool) (s : Sh) : Bool × B4 := foldN (bdP g sh add) (foldN (bdO s.l) bdQ s.l.n) s.n
def bdOO (g : Sh → B4 × Bool) (sh : Nat → Sh) (add : Nat → Bool) (s : Sh) : Dyn.RO :=
  .ite (s.k == 1) (.leaf (.tup [dvX (aroundF s.a s.a s.r), dvB true]))
  (.ite (bif s.k == 3 then s.k == 3 else s.k == 4) (.leaf (.tup [dvX (aroundF s.a s.b s.r), dvB true]))
  (.ite (s.k == 5) (.leaf (.tup [dvX (aroundF s.c s.c (bdR s)), dvB true]))
  (.side [bdS s bdQ 0 = bdS s bdQ 0] (.side [bdU s (foldN (bdO s.l) bdQ s.l.n) 0 = bdU s (foldN (bdO s.l) bdQ s.l.n) 0] (.leaf (.tup [dvX (bdAll g sh add s).2, dvB (bdAll g sh add s).1]))))))
theorem bd_OO (Pd : Sh → Prop) (g : Sh → B4 × Bool) (sh : Nat → Sh) (add : Nat → Bool) (s : Sh) : (Dyn.dfun Try.prog (tabBd Pd g) (bdLp g sh add s) 3 Try.f42 [dvS s]).ro Try.prog Try.f42.results = bdOO g sh add s := by kernel_rfl
def boundsG (g : Sh → B4 × Bool) (sh : Nat → Sh) (add : Nat → Bool) (s : Sh) : B4 × Bool :=
  bif s.k == 1 then (aroundF s.a s.a s.r, true) else bif bif s.k == 3 then s.k == 3 else s.k == 4 then (aroundF s.a s.b s.r, true) else bif s.k == 5 then (aroundF s.c s.c (bdR s), true) else ((bdAll g sh add s).2, (bdAll g sh add s).1)
theorem bd_sat (g : Sh → B4 × Bool) (sh : Nat → Sh) (add : Nat → Bool) (s : Sh) : (bdOO g sh add s).sat fun r => Dyn.RVLe r (.tup [dvX (boundsG g sh add s).1, dvB (boundsG g sh add s).2]) := by
  unfold boundsG
  refine ⟨fun h => ?_, fun h => ⟨fun h2 => ?_, fun h2 => ⟨fun h3 => ?_, fun h3 => ⟨⟨rfl, trivial⟩, ⟨rfl, trivial⟩, ?_⟩⟩⟩⟩
  · rw [h]; exact ⟨Dyn.DVLe.refl _, rfl, trivial⟩
  · rw [h, h2]; exact ⟨Dyn.DVLe.refl _, rfl, trivial⟩
  · rw [h, h2, h3]; exact ⟨Dyn.DVLe.refl _, rfl, trivial⟩
  · rw [h, h2, h3]; exact ⟨Dyn.DVLe.refl _, Dyn.DVLe.refl _, trivial⟩
theorem bounds_lvl {Pd : Sh → Prop} {g : Sh → B4 × Bool} (ih : ∀ x, Pd x → BdOk x g) (k : Int) (a b c : P2) (r : Int) (l : Ctr) (n : Nat) (add : Nat → Bool) (sh : Nat → Sh) (hl : CtrB l) (hn : n ≤ 1000000000) (hP : ∀ i, i < n → Pd (sh i)) :
    Dyn.CallD Try.prog 42 [dvS (mkSh k a b c r l n add sh)] (.tup [dvX (boundsG g sh add (mkSh k a b c r l n add sh)).1, dvB (boundsG g sh add (mkSh k a b c r l n add sh)).2]) :=
  Dyn.dcontract (lp := bdLp g sh add (mkSh k a b c r l n add sh)) (fuel := 3) (tabBd_ok ih) mo Try.func42 (by kernel_rfl) (c := bodyD Try.f42.body) (by kernel_rfl)
    (fun w0 => by
      rw [bd_blocks]
      exact lpOk_cons (fun s o h => by cases h) (lpOk_cons (bd_outer ih sh add _ hl w0) (lpOk_cons (fun s o h => by cases h) (lpOk_cons (bd_inner ih sh add _ hl w0) (lpOk_cons (fun s o h => by cases h) (lpOk_cons (bd_parts ih k a b c r l n add sh hn hP w0) (lpOk_cons (fun s o h => by cases h) lpOk_nil)))))))
    (by kernel_rfl) (bd_OO Pd g sh add _) (bd_sat g sh add (mkSh k a b c r l n add sh))
/-- bounds, all the way down -/
def bndF : Shp → B4 × Bool
  | .nil => (⟨0, 0, 0, 0⟩, false)
  | .mk k a b c r l n add sub =>
    bif k == 1 then (aroundF a a r, true) else bif bif k == 3 then k == 3 else k == 4 then (aroundF a b r, true) else bif k == 5 then (aroundF c c (bdR ⟨k, a, b, c, r, l, n, noF⟩), true) else
    ((foldN (fun i q => bif !(add i) then q else bif (bndF (sub i)).2 then (true, tkF q.1 q.2 (bndF (sub i)).1) else q) (foldN (bdO l) bdQ l.n) n).2, (foldN (fun i q => bif !(add i) then q else bif (bndF (sub i)).2 then (true, tkF q.1 q.2 (bndF (sub i)).1) else q) (foldN (bdO l) bdQ l.n) n).1)
noncomputable def bndE (x : Sh) : B4 × Bool := bndF (ofSh x)
theorem bndE_eq (s : Shp) : bndE (toSh s) = bndF s := by unfold bndE; rw [ofSh_toSh]
theorem bndF_lvl (k : Int) (a b c : P2) (r : Int) (l : Ctr) (n : Nat) (add : Nat → Bool) (sub : Nat → Shp) : bndF (.mk k a b c r l n add sub) = boundsG bndE (fun i => toSh (sub i)) add (mkSh k a b c r l n add (fun i => toSh (sub i))) := by
  unfold boundsG bdAll bdP
  simp only [bndE_eq]
  rfl
theorem bnd_ok : ∀ s : Shp, ShB s → BdOk (toSh s) bndE := by
  intro s
  induction s with
  | nil => intro h; exact h.elim
  | mk k a b c r l n add sub ih =>
    intro h
    unfold BdOk
    rw [bndE_eq, bndF_lvl]
    exact bounds_lvl (Pd := fun x => ∃ i, i < n ∧ x = toSh (sub i)) (fun x hx => by
      obtain ⟨i, hi, rfl⟩ := hx
      exact ih i (h.2.2 i hi)) k a b c r l n add (fun i => toSh (sub i)) h.1 h.2.1 (fun i hi => ⟨i, hi, rfl⟩)
theorem bnd_all : ∀ x, PdS x → BdOk x bndE := fun x hx => by
  have k := bnd_ok _ hx.1
  unfold BdOk at k
  rw [show bndE (toSh (ofSh x)) = bndE x by unfold bndE; rw [ofSh_toSh]] at k
  exact CallD_le (args := [dvS (toSh (ofSh x))]) ⟨SLe.dv hx.2, trivial⟩ k
noncomputable def figBnd (x : Sh) : B4 × Bool := bif okE x then bndE x else (⟨0, 0, 0, 0⟩, false)
noncomputable def tdBb : List Dyn.EntryD := [(39, en1D (qAnd qS PdS) fun x => rB (okE x)), (42, en1D (qAnd qS PdS) fun x => .tup [dvX (bndE x).1, dvB (bndE x).2])]
noncomputable def tabBb : Dyn.Tabs := Dyn.tabs tbF tdBb noD dtyS
theorem tabBb_ok : Dyn.TabsOk Try.prog tabBb := Dyn.tabs_ok tbF_ok (List.forall_mem_cons.2 ⟨en1D_ok (qAnd_ok qS_ok) fun x h => figOk_ok x h.1, List.forall_mem_cons.2 ⟨en1D_ok (qAnd_ok qS_ok) fun x h => bnd_all x h.1, fun _ h => by cases h⟩⟩)
noncomputable def bbO (x : Sh) : Dyn.RO := .side [PdS x, ctrSelf x.l] (.ite (!(okE x)) (.leaf (.tup [dvX ⟨0, 0, 0, 0⟩, dvB false])) (.side [PdS x, ctrSelf x.l] (.leaf (.tup [dvX (bndE x).1, dvB (bndE x).2]))))
theorem bb_O (x : Sh) : (Dyn.dfun Try.prog tabBb Dyn.noLp 3 Try.f16 [dvS x]).ro Try.prog Try.f16.results = bbO x := by kernel_rfl
theorem figBnd_ok (x : Sh) (h : PdS x) : Dyn.CallD Try.prog 16 [dvS x] (.tup [dvX (figBnd x).1, dvB (figBnd x).2]) :=
  Dyn.dcontract (lp := Dyn.noLp) (fuel := 3) tabBb_ok mo Try.func16 (by kernel_rfl) (c := bodyD Try.f16.body) (by kernel_rfl) (fun w0 => Dyn.noLp_ok _ w0) (by kernel_rfl) (bb_O x) (by
    unfold figBnd
    refine ⟨⟨h, ctrSelf_ok _, trivial⟩, fun h1 => ?_, fun h1 => ⟨⟨h, ctrSelf_ok _, trivial⟩, ?_⟩⟩
    · rw [show okE x = false by simpa using h1]; exact ⟨Dyn.DVLe.refl _, rfl, trivial⟩
    · rw [show okE x = true by simpa using h1]; exact ⟨Dyn.DVLe.refl _, Dyn.DVLe.refl _, trivial⟩)
end Go.Proofs.Ythnenjodighlmaa

/-! ## Rpl -/
namespace Go.Proofs.Ythnenjodighlmaa
open Go Go.RowKit Sym
set_option maxRecDepth 100000

def okS (s : Shp) : Bool := (validF s 0 1000).1
theorem okE_S (s : Shp) : okE (toSh s) = okS s := by unfold okE okS; rw [vE_eq]
def figClassC (s : Shp) (b : B4) : Int := bif !(okS s) then 0 else classF s b
theorem figClassS_C (s : Shp) (b : B4) : figClassS s b = figClassC s b := by unfold figClassS figClassC; rw [okE_S]
def pClassC (s : Shp) (b : B4) : Int := foldN (fun i acc => foldF acc (figClassC (suO s i) b) (adO s i)) 0 (nuO s)
theorem pClass_C (s : Shp) (b : B4) : pClass s b = pClassC s b := by
  unfold pClass pClassC
  simp only [figClassS_C]
def figBndC (s : Shp) : B4 × Bool := bif okS s then bndF s else (⟨0, 0, 0, 0⟩, false)
theorem figBnd_C (s : Shp) : figBnd (toSh s) = figBndC s := by unfold figBnd figBndC; rw [okE_S, bndE_eq]
/-! ### what is kept -/
def kN (keep : Nat → Bool) : Nat → Nat
  | 0 => 0
  | n + 1 => bif keep n then kN keep n + 1 else kN keep n
def kIx (keep : Nat → Bool) : Nat → Nat → Nat
  | 0, _ => 0
  | n + 1, j => bif keep n && Nat.beq (kN keep n) j then n else kIx keep n j
theorem kN_le (keep : Nat → Bool) : ∀ n, kN keep n ≤ n
  | 0 => Nat.le_refl _
  | n + 1 => by
    have := kN_le keep n
    unfold kN
    cases keep n
    · show kN keep n ≤ n + 1; omega
    · show kN keep n + 1 ≤ n + 1; omega
theorem kN_mono (keep : Nat → Bool) {i : Nat} : ∀ {n : Nat}, i ≤ n → kN keep i ≤ kN keep n
  | 0, h => by obtain rfl : i = 0 := by omega
               exact Nat.le_refl _
  | n + 1, h => by
    by_cases e : i = n + 1
    · subst e; exact Nat.le_refl _
    · have := kN_mono keep (i := i) (n := n) (by omega)
      show kN keep i ≤ (bif keep n then kN keep n + 1 else kN keep n)
      cases keep n
      · exact this
      · show kN keep i ≤ kN keep n + 1; omega
theorem kN_step (keep : Nat → Bool) {i : Nat} (h : keep i = true) : kN keep (i + 1) = kN keep i + 1 := by
  show (bif keep i then kN keep i + 1 else kN keep i) = _
  rw [h]; rfl
theorem kN_skip (keep : Nat → Bool) {i : Nat} (h : keep i = false) : kN keep (i + 1) = kN keep i := by
  show (bif keep i then kN keep i + 1 else kN keep i) = _
  rw [h]; rfl
theorem kIx_at (keep : Nat → Bool) {i : Nat} (h : keep i = true) : ∀ {n : Nat}, i < n → kIx keep n (kN keep i) = i
  | 0, hn => absurd hn (Nat.not_lt_zero i)
  | n + 1, hn => by
    show (bif keep n && Nat.beq (kN keep n) (kN keep i) then n else kIx keep n (kN keep i)) = i
    by_cases e : i = n
    · subst e
      rw [h, Nat.beq_refl]; rfl
    · have k1 := kN_mono keep (i := i + 1) (n := n) (by omega)
      rw [kN_step keep h] at k1
      have : Nat.beq (kN keep n) (kN keep i) = false := by
        cases q : Nat.beq (kN keep n) (kN keep i)
        · rfl
        · have := Nat.eq_of_beq_eq_true q; omega
      rw [this, Bool.and_false]
      exact kIx_at keep h (by omega)
theorem kIx_lt (keep : Nat → Bool) {j : Nat} : ∀ {n : Nat}, j < kN keep n → kIx keep n j < n ∧ keep (kIx keep n j) = true
  | 0, h => absurd h (Nat.not_lt_zero j)
  | n + 1, h => by
    show (bif keep n && Nat.beq (kN keep n) j then n else kIx keep n j) < n + 1 ∧ keep (bif keep n && Nat.beq (kN keep n) j then n else kIx keep n j) = true
    cases hk : keep n
    · rw [kN_skip keep hk] at h
      have := kIx_lt keep (j := j) (n := n) h
      exact ⟨by show kIx keep n j < n + 1; omega, this.2⟩
    · rw [kN_step keep hk] at h
      cases q : Nat.beq (kN keep n) j
      · have ne : kN keep n ≠ j := fun e => by rw [e, Nat.beq_refl] at q; cases q
        have := kIx_lt keep (j := j) (n := n) (by omega)
        exact ⟨by show kIx keep n j < n + 1; omega, this.2⟩
      · exact ⟨by show n < n + 1; omega, hk⟩
/-- the objects that are kept -/
def filL (keep : Nat → Bool) (s : Shp) : Shp := lForm (kN keep (nuO s)) (fun j => adO s (kIx keep (nuO s) j)) (fun j => suO s (kIx keep (nuO s) j))
/-- a fold over what is kept -/
theorem fil_fold {α : Type} (keep : Nat → Bool) (g : Nat → α → α) (a : α) (n : Nat) : ∀ m, m ≤ n → foldN (fun j acc => g (kIx keep n j) acc) a (kN keep m) = foldN (fun i acc => bif keep i then g i acc else acc) a m
  | 0, _ => rfl
  | m + 1, h => by
    have ih := fil_fold keep g a n m (by omega)
    cases hk : keep m
    · rw [kN_skip keep hk, ih]
      show _ = (bif keep m then _ else _)
      rw [hk]; rfl
    · rw [kN_step keep hk]
      show g (kIx keep n (kN keep m)) (foldN _ a (kN keep m)) = (bif keep m then _ else _)
      rw [kIx_at keep hk (show m < n by omega), ih, hk]; rfl
theorem pClass_fil (keep : Nat → Bool) (s : Shp) (b : B4) : pClassC (filL keep s) b = foldN (fun i acc => bif keep i then foldF acc (figClassC (suO s i) b) (adO s i) else acc) 0 (nuO s) :=
  fil_fold keep (fun i acc => foldF acc (figClassC (suO s i) b) (adO s i)) 0 (nuO s) (nuO s) (Nat.le_refl _)
/-- whether there is a bar -/
def hbF : Shp → Bool
  | .nil => false
  | .mk k _ _ _ _ _ n _ sub => bif k == 4 then true else !((runN (fun i (_ : Unit) => (!(hbF (sub i)), ())) () n).1)
def rchK (s : Shp) (i : Nat) : Bool := (figBndC (suO s i)).2
def reachF (s : Shp) : Shp := filL (rchK s) s
def nearK (s : Shp) (b : B4) (i : Nat) : Bool := bif hbF (suO s i) then true else !(apart (figBndC (suO s i)).1 b)
def nearG (s : Shp) (b : B4) : Shp := filL (nearK s b) s
/-! ### the count of cells -/
structure ExR where
  lo : Int
  hi : Int
  e : Int
  a : Int
def exNo (e a : Int) : ExR := ⟨0, 0, e, a⟩
/-- the quarters of a box -/
def spB (b : B4) (i : Nat) : B4 := match i with
  | 0 => ⟨spl b 0 b.x0, spl b 0 b.y0, spl b 0 (midX b), spl b 0 (midY b)⟩
  | 1 => ⟨spl b 0 (midX b), spl b 0 b.y0, spl b 0 b.x1, spl b 0 (midY b)⟩
  | 2 => ⟨spl b 0 b.x0, spl b 0 (midY b), spl b 0 (midX b), spl b 0 b.y1⟩
  | _ => ⟨spl b 0 (midX b), spl b 0 (midY b), spl b 0 b.x1, spl b 0 b.y1⟩
/-- one quarter after the other -/
def exQ (f : B4 → Int → ExR) (b : B4) (a : Int) : ExR :=
  bif (f (spB b 0) a).e != 0 then exNo (f (spB b 0) a).e (f (spB b 0) a).a else
  bif (f (spB b 1) (f (spB b 0) a).a).e != 0 then exNo (f (spB b 1) (f (spB b 0) a).a).e (f (spB b 1) (f (spB b 0) a).a).a else
  bif (f (spB b 2) (f (spB b 1) (f (spB b 0) a).a).a).e != 0 then exNo (f (spB b 2) (f (spB b 1) (f (spB b 0) a).a).a).e (f (spB b 2) (f (spB b 1) (f (spB b 0) a).a).a).a else
  bif (f (spB b 3) (f (spB b 2) (f (spB b 1) (f (spB b 0) a).a).a).a).e != 0 then exNo (f (spB b 3) (f (spB b 2) (f (spB b 1) (f (spB b 0) a).a).a).a).e (f (spB b 3) (f (spB b 2) (f (spB b 1) (f (spB b 0) a).a).a).a).a else
  ⟨W (W (W (W (0 + (f (spB b 0) a).lo) + (f (spB b 1) (f (spB b 0) a).a).lo) + (f (spB b 2) (f (spB b 1) (f (spB b 0) a).a).a).lo) + (f (spB b 3) (f (spB b 2) (f (spB b 1) (f (spB b 0) a).a).a).a).lo),
   W (W (W (W (0 + (f (spB b 0) a).hi) + (f (spB b 1) (f (spB b 0) a).a).hi) + (f (spB b 2) (f (spB b 1) (f (spB b 0) a).a).a).hi) + (f (spB b 3) (f (spB b 2) (f (spB b 1) (f (spB b 0) a).a).a).a).hi),
   0, (f (spB b 3) (f (spB b 2) (f (spB b 1) (f (spB b 0) a).a).a).a).a⟩
/-- cells of a box -/
def cellsN (d : Nat) : Int := ((4 ^ d : Nat) : Int)
/-- a look at a box: c is its class; at what its quarters give, if it is to be split -/
def exT (most c : Int) (cells : Int) (m : Int → ExR) (a : Int) : ExR :=
  bif !(decide (W (a + 1) ≤ most)) then exNo 6 (W (a + 1)) else
  bif c == 0 then exNo 0 (W (a + 1)) else bif c == 2 then ⟨cells, cells, 0, W (a + 1)⟩ else m (W (a + 1))
def exF (most : Int) : Nat → Shp → B4 → Int → ExR
  | 0, s, b, a => exT most (pClassC s b) (cellsN 0) (fun a => ⟨0, 1, 0, a⟩) a
  | d + 1, s, b, a => exT most (pClassC s b) (cellsN (d + 1)) (exQ (fun q a => exF most d (nearG s q) q a) b) a
end Go.Proofs.Ythnenjodighlmaa

/-! ## Rga -/
namespace Go.Proofs.Ythnenjodighlmaa
open Go Go.RowKit Sym
set_option maxRecDepth 100000

/-! ### hasBar -/
def hbN (g : Sh → Bool) (sh : Nat → Sh) (i : Nat) (_ : Unit) : Bool × Unit := (!(g (sh i)), ())
def hbG (g : Sh → Bool) (sh : Nat → Sh) (s : Sh) : Bool := bif s.k == 4 then true else !((runN (hbN g sh) () s.n).1)
def HbOk (x : Sh) (g : Sh → Bool) : Prop := Dyn.CallD Try.prog 69 [dvS x] (rB (g x))
def tdHb (Pd : Sh → Prop) (g : Sh → Bool) : List Dyn.EntryD := [(69, en1D (qAnd qS Pd) fun x => rB (g x))]
def tabHb (Pd : Sh → Prop) (g : Sh → Bool) : Dyn.Tabs := Dyn.tabs tbF (tdHb Pd g) noD dtyS
theorem tabHb_ok {Pd : Sh → Prop} {g : Sh → Bool} (ih : ∀ x, Pd x → HbOk x g) : Dyn.TabsOk Try.prog (tabHb Pd g) :=
  Dyn.tabs_ok tbF_ok (List.forall_mem_cons.2 ⟨en1D_ok (qAnd_ok qS_ok) fun x h => ih x h.1, fun _ h => by cases h⟩)
def hbS (s : Sh) (i : Int) : Dyn.St := mkS 19 [(2, .k (vb false)), (9, sH 0 9 s.n), (10, sI s.n), (11, sI i)] [some (.deep (cS s))]
def hbR : Dyn.St := mkS 19 [(2, .k (vb true))] []
def hbK : List Nat := [2, 9, 10, 11]
def hbLp (g : Sh → Bool) (sh : Nat → Sh) (s : Sh) : Dyn.Lp := fun id st => match id with
  | 0 => some (.side [keepA 19 [0] [] hbK (2 ^ 11) st = hbS s 0] (.ite (runN (hbN g sh) () s.n).1 (.leaf .normal (hbS s s.n)) (.leaf .ret hbR)))
  | _ => none
def hbB (Pd : Sh → Prop) (g : Sh → Bool) (sh : Nat → Sh) (s : Sh) (i : Nat) : Dyn.Out :=
  .ite (decide ((i : Int) < s.n)) (.side [0 ≤ (i : Int) ∧ (i : Int) < s.n] (.side [Pd (sh i), ctrSelf (sh i).l] (.ite (g (sh i)) (.leaf .ret hbR) (.leaf .normal (hbS s (W (i + 1))))))) (.leaf (.exit 0) (hbS s i))
theorem hb_B (Pd : Sh → Prop) (g : Sh → Bool) (k : Int) (a b c : P2) (r : Int) (l : Ctr) (n : Nat) (add : Nat → Bool) (sh : Nat → Sh) (i : Nat) :
    (Dyn.lexec Try.prog (tabHb Pd g) (hbLp g sh (mkSh k a b c r l n add sh)) 3 (unloopD (blkD Try.f69.body 0)) .leaf (hbS (mkSh k a b c r l n add sh) i)).rl (keepR 19 [0] [] hbK [2]) = hbB Pd g sh (mkSh k a b c r l n add sh) i := by kernel_rfl
theorem hb_blocks : blocksL (bodyD Try.f69.body) = [(0, .loop (unloopD (blkD Try.f69.body 0))), (1, blkD Try.f69.body 1)] := by kernel_rfl
theorem hb_b0 : blocksL (unloopD (blkD Try.f69.body 0)) = [(1, blkD Try.f69.body 1)] := by kernel_rfl
theorem hb_loop {Pd : Sh → Prop} {g : Sh → Bool} (ih : ∀ x, Pd x → HbOk x g) (k : Int) (a b c : P2) (r : Int) (l : Ctr) (n : Nat) (add : Nat → Bool) (sh : Nat → Sh) (hn : n ≤ 1000000000) (hP : ∀ i, i < n → Pd (sh i)) (w0 : Dyn.Base Try.prog) (st : Dyn.St) (o : Dyn.Out) (h : hbLp g sh (mkSh k a b c r l n add sh) 0 st = some o) : Dyn.BlockSound Try.prog w0 0 (.loop (unloopD (blkD Try.f69.body 0))) st o := by
  simp only [hbLp, Option.some.injEq] at h
  subst h
  refine side_one fun hS => ?_
  refine run_block (fuel := 3) (tabHb_ok ih) mo (lp := hbLp g sh (mkSh k a b c r l n add sh)) (by rw [hb_b0]; exact lpOk_cons (fun s o h => by cases h) lpOk_nil) (fun i (_ : Unit) => hbS (mkSh k a b c r l n add sh) i) n (hbN g sh) () (fun _ => hbR) (keepR 19 [0] [] hbK [2]) (keepR_ent 19 _ _ _ _) (fun i _ => hbB Pd g sh (mkSh k a b c r l n add sh) i) (fun i _ => hb_B Pd g k a b c r l n add sh i) (fun i a hi ha => ?_) (fun a ha => ?_) (hS ▸ keepA_ent 19 _ _ _ _ st)
  · refine ⟨fun _ => ⟨⟨⟨by omega, by show (i : Int) < (n : Int); omega⟩, trivial⟩, ⟨hP i hi, ctrSelf_ok _, trivial⟩, fun hx => .inr ⟨rfl, ?_, Dyn.Fits.refl _⟩, fun hx => .inl ⟨rfl, ?_, ?_⟩⟩, fun hf => ?_⟩
    · simpa [hbN] using hx
    · simpa [hbN] using hx
    · rw [Wn1 hi hn]; exact Dyn.Fits.refl _
    · rw [decide_eq_false_iff_not] at hf
      exact absurd (show (i : Int) < (n : Int) by omega) hf
  · refine ⟨fun ht => ?_, fun _ => ⟨rfl, Dyn.Fits.refl _⟩⟩
    rw [decide_eq_true_eq] at ht
    exact absurd (show (n : Int) < (n : Int) from ht) (by omega)
def hbO (g : Sh → Bool) (sh : Nat → Sh) (s : Sh) : Dyn.RO :=
  .ite (s.k == 4) (.leaf (rB true)) (.side [hbS s 0 = hbS s 0] (.ite (runN (hbN g sh) () s.n).1 (.leaf (rB false)) (.leaf (rB true))))
theorem hb_O (Pd : Sh → Prop) (g : Sh → Bool) (sh : Nat → Sh) (s : Sh) : (Dyn.dfun Try.prog (tabHb Pd g) (hbLp g sh s) 3 Try.f69 [dvS s]).ro Try.prog Try.f69.results = hbO g sh s := by kernel_rfl
theorem hb_lvl {Pd : Sh → Prop} {g : Sh → Bool} (ih : ∀ x, Pd x → HbOk x g) (k : Int) (a b c : P2) (r : Int) (l : Ctr) (n : Nat) (add : Nat → Bool) (sh : Nat → Sh) (hn : n ≤ 1000000000) (hP : ∀ i, i < n → Pd (sh i)) : Dyn.CallD Try.prog 69 [dvS (mkSh k a b c r l n add sh)] (rB (hbG g sh (mkSh k a b c r l n add sh))) :=
  Dyn.dcontract (lp := hbLp g sh (mkSh k a b c r l n add sh)) (fuel := 3) (tabHb_ok ih) mo Try.func69 (by kernel_rfl) (c := bodyD Try.f69.body) (by kernel_rfl)
    (fun w0 => by rw [hb_blocks]; exact lpOk_cons (hb_loop ih k a b c r l n add sh hn hP w0) (lpOk_cons (fun s o h => by cases h) lpOk_nil))
    (by kernel_rfl) (hb_O Pd g sh _) (by
      unfold hbG
      refine ⟨fun h => ?_, fun h => ⟨⟨rfl, trivial⟩, fun h2 => ?_, fun h2 => ?_⟩⟩
      · rw [h]; exact ro_leaf rfl
      · rw [h, show (runN (hbN g sh) () (mkSh k a b c r l n add sh).n).1 = true from h2]; exact ro_leaf rfl
      · rw [h, show (runN (hbN g sh) () (mkSh k a b c r l n add sh).n).1 = false from h2]; exact ro_leaf rfl)
noncomputable def hbE (x : Sh) : Bool := hbF (ofSh x)
theorem hbE_eq (s : Shp) : hbE (toSh s) = hbF s := by unfold hbE; rw [ofSh_toSh]
theorem hbF_lvl (k : Int) (a b c : P2) (r : Int) (l : Ctr) (n : Nat) (add : Nat → Bool) (sub : Nat → Shp) : hbF (.mk k a b c r l n add sub) = hbG hbE (fun i => toSh (sub i)) (mkSh k a b c r l n add (fun i => toSh (sub i))) := by
  unfold hbG hbN
  simp only [hbE_eq]
  rfl
theorem hb_ok : ∀ s : Shp, ShB s → HbOk (toSh s) hbE := by
  intro s
  induction s with
  | nil => intro h; exact h.elim
  | mk k a b c r l n add sub ih =>
    intro h
    unfold HbOk
    rw [hbE_eq, hbF_lvl]
    exact hb_lvl (Pd := fun x => ∃ i, i < n ∧ x = toSh (sub i)) (fun x hx => by
      obtain ⟨i, hi, rfl⟩ := hx
      exact ih i (h.2.2 i hi)) k a b c r l n add (fun i => toSh (sub i)) h.2.1 (fun i hi => ⟨i, hi, rfl⟩)
theorem hb_all : ∀ x, PdS x → HbOk x hbE := fun x hx => by
  have k := hb_ok _ hx.1
  unfold HbOk at k
  rw [show hbE (toSh (ofSh x)) = hbE x by unfold hbE; rw [ofSh_toSh]] at k
  exact CallD_le (args := [dvS (toSh (ofSh x))]) ⟨SLe.dv hx.2, trivial⟩ k
/-! ### groups -/
structure Gr where
  n : Nat
  f : Nat → List Dyn.DC
  m : Nat
  h : Nat → List Dyn.DC
def dvG (x : Gr) : Dyn.DV := .agg [.row x.n x.f, .row x.m x.h]
def extC (b : B4) (q : Bool) : List Dyn.DC := [cI b.x0, cI b.y0, cI b.x1, cI b.y1, .p (vb q)]
def qG : Dec Gr
  | .agg [.row n f, .row m h] => some (⟨n, f, m, h⟩, [])
  | _ => none
theorem qG_ok : DecOk qG dvG (fun _ => True) := fun d x ps h hp => by
  unfold qG at h; split at h
  · simp only [Option.some.injEq, Prod.mk.injEq] at h
    obtain ⟨rfl, rfl⟩ := h
    exact ⟨⟨⟨rfl, fun _ _ => rfl⟩, ⟨rfl, fun _ _ => rfl⟩, trivial⟩, trivial⟩
  · cases h
/-- the objects of a group -/
noncomputable def ofG (x : Gr) : Shp := ofSh (obX x.n x.f)
def toG (s : Shp) : Gr := ⟨nuO s, fun i => partC (adO s i) (toSh (suO s i)), nuO s, fun i => extC (figBndC (suO s i)).1 (hbF (suO s i))⟩
def lst (s : Shp) : Shp := lForm (nuO s) (adO s) (suO s)
theorem ofG_toG (s : Shp) : ofG (toG s) = lst s := by
  show ofSh (toSh (lst s)) = lst s
  exact ofSh_toSh _
end Go.Proofs.Ythnenjodighlmaa
