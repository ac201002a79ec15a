/-
  OWN WORK. The laws of strokes.
-/
import Derived.Test.YtidgkcefjfdcbaaLio
import Derived.Test.YtidgkcefjfdcbaaBau
namespace Go.Proofs.Ytidgkcefjfdcbaa
open Go Go.RowKit Sym

theorem all_any {f : P2 → Bool} {b : B4} (h : all4 f b = true) : any4 f b = true := any4_iff.2 ⟨⟨b.x0, b.y0⟩, ⟨.inl rfl, .inl rfl⟩, all4_iff.1 h _ ⟨.inl rfl, .inl rfl⟩⟩
theorem lineCl_012 (b : B4) (a c : P2) (r : Int) : lineCl b a c r = 0 ∨ lineCl b a c r = 1 ∨ lineCl b a c r = 2 := by
  unfold lineCl; split
  · simp
  · split <;> simp
theorem lineCl_two {b : B4} {a c : P2} {r : Int} : lineCl b a c r = 2 ↔ all4 (fun q => lineI q a c r) b = true := by
  unfold lineCl; split
  · simp_all
  · split <;> simp_all
theorem lineCl_hit {b : B4} {a c : P2} {r : Int} : lineCl b a c r ≠ 0 ↔ (any4 (fun q => lineI q a c r) b = true ∨ nearI b a ≤ r * r ∨ nearI b c ≤ r * r ∨ meetsI b a c = true) := by
  unfold lineCl
  split
  · rename_i h
    exact ⟨fun _ => .inl (all_any h), fun _ => by decide⟩
  · split
    · rename_i h
      simp only [Bool.or_eq_true, decide_eq_true_eq, or_assoc] at h
      exact ⟨fun _ => h, fun _ => by decide⟩
    · rename_i h
      simp only [Bool.or_eq_true, decide_eq_true_eq, or_assoc] at h
      exact ⟨fun k => absurd rfl k, fun k => absurd k h⟩
theorem hit_of {b : B4} {q a c : P2} {r : Int} (hx : b.x0 ≤ b.x1) (hy : b.y0 ≤ b.y1) (hq : hasI b q) (hi : lineI q a c r = true) : lineCl b a c r ≠ 0 := fun k => by
  rw [line_out hx hy hq k] at hi; cases hi
theorem lineCl_le {b : B4} {a c a' c' : P2} {r r' : Int} (h2 : lineCl b a c r = 2 → lineCl b a' c' r' = 2) (h0 : lineCl b a c r ≠ 0 → lineCl b a' c' r' ≠ 0) : lineCl b a c r ≤ lineCl b a' c' r' := by
  have := lineCl_012 b a c r; have := lineCl_012 b a' c' r'; omega

/-! ### LineTells -/
def lineTells0 (b : B4) (a c : P2) (h : Int) (p : P2) (k : Int) : Bool :=
  andB (andB (andB (lineClass b a c h == rLine b a c h) (lineHas p a c h == rLineHas p a c h)) (orB (decide (k ≥ 1)) (andB (lineClass b a c k == 0) (!(lineHas p a c k))))) true
def lineTells (b : B4) (a c : P2) (h : Int) (p : P2) (small : Bool) : Bool :=
  bif small then lineTells0 (lSmall (lBox b)) (lClose (lPt a) 20) (lClose (lPt c) 20) (lSmR (lR h) 12) (lClose (lPt p) 20) h else lineTells0 (lBox b) (lPt a) (lPt c) (lR h) (lPt p) h
theorem lineTells0_true {b : B4} {a c : P2} {h : Int} {p : P2} (k : Int) (hb : BR b) (ha : PR a) (hc : PR c) (hp : PR p) (hx : b.x0 ≤ b.x1) (hy : b.y0 ≤ b.y1) (h1 : 1 ≤ h) (h2 : h ≤ 2147483648) : lineTells0 b a c h p k = true := by
  unfold lineTells0
  rw [lineClass_eq hb ha hc hx hy h1 h2, rLine_eq hb ha hc hx hy h1 h2, lineHas_eq hp ha hc h1 h2, rLineHas_eq hp ha hc h1 h2]
  by_cases hk : k ≥ 1
  · simp [hk, andB, orB]
  · rw [lineClass_lt (show k < 1 by omega), lineHas_lt (show k < 1 by omega)]
    simp [andB, orB]
theorem lineTells_true (b : B4) (a c : P2) (h : Int) (p : P2) (small : Bool) : lineTells b a c h p small = true := by
  have r := lR_bd h
  unfold lineTells
  cases small
  · have hs := lBox_r b
    exact lineTells0_true _ (lBox_R b) (lPt_R a) (lPt_R c) (lPt_R p) hs.2.1 hs.2.2.2.2.1 (by omega) (by omega)
  · have hs := lSmall_r (lBox b)
    have e := lSmR_bd (r := lR h) (m := 12) (by omega) (by decide) (by decide)
    exact lineTells0_true _ (lSmall_R _) (close_R _ (by decide) (by decide)) (close_R _ (by decide) (by decide)) (close_R _ (by decide) (by decide)) hs.2.2.1 hs.2.2.2.2.2.2.1 (by omega) (by omega)
theorem lineTells_ok (b : B4) (a c : P2) (h : Int) (p : P2) (small : Bool) : CallOk Try.prog 6 [bx b, pt a, pt c, vi h, pt p, vb small] (vb true) := by
  rw [← lineTells_true b a c h p small]
  exact fnOkS (fuel := 16) (tbOf_ok tbA7_ok) mo Try.func6 (by kernel_rfl) (by kernel_rfl) (by kernel_rfl) (show _ = [small = true → W (20 + 1) ≠ 0, small = true → W (20 + 1) ≠ 0, small = true → W (20 + 1) ≠ 0] by kernel_rfl) ⟨fun _ => n21, fun _ => n21, fun _ => n21, trivial⟩

/-! ### LineSure -/
def lineSure0 (b : B4) (a c : P2) (h x y : Int) : Bool :=
  let k := lineClass b a c h
  let i := lineHas (lIn b x y) a c h
  let n := cnt4 (fun q => lineHas q a c h) b
  andB (andB (andB (andB (andB ((k == 2) == (n == 4)) (orB (k != 2) i)) (orB (k != 0) (andB (andB (!i) (n == 0)) (!(rMeets b a c))))) (decide (k ≥ 0))) (decide (k ≤ 2))) true
def lineSure (b : B4) (a c : P2) (h x y : Int) (small : Bool) : Bool :=
  bif small then lineSure0 (lSmall (lBox b)) (lClose (lPt a) 20) (lClose (lPt c) 20) (lSmR (lR h) 12) x y else lineSure0 (lBox b) (lPt a) (lPt c) (lR h) x y
theorem lineSure0_true {b : B4} {a c : P2} {h : Int} (x y : Int) (hb : BR b) (ha : PR a) (hc : PR c) (hx : b.x0 ≤ b.x1) (hy : b.y0 ≤ b.y1) (h1 : 1 ≤ h) (h2 : h ≤ 2147483648) : lineSure0 b a c h x y = true := by
  have hq := (lIn_has x y hb hx hy).1
  have hQ := PR_has hb hq
  unfold lineSure0
  dsimp only
  have e1 : all4 (fun q => lineHas q a c h) b = all4 (fun q => lineI q a c h) b := all4_congr hb fun q hq => lineHas_eq hq ha hc h1 h2
  have e2 : any4 (fun q => lineHas q a c h) b = any4 (fun q => lineI q a c h) b := any4_congr hb fun q hq => lineHas_eq hq ha hc h1 h2
  rw [lineClass_eq hb ha hc hx hy h1 h2, lineHas_eq hQ ha hc h1 h2, cnt4_all, cnt4_none, e1, e2, rMeets_eq hb ha hc]
  have f1 : (lineCl b a c h == 2) = all4 (fun q => lineI q a c h) b := by rw [Bool.eq_iff_iff, beq_iff_eq, lineCl_two]
  have f2 : lineCl b a c h = 2 → lineI (lIn b x y) a c h = true := fun k => line_in hq (lineCl_two.1 k)
  have f3 : lineCl b a c h = 0 → lineI (lIn b x y) a c h = false ∧ any4 (fun q => lineI q a c h) b = false ∧ meetsI b a c = false := fun k => by
    refine ⟨line_out hx hy hq k, ?_, ?_⟩
    · rw [Bool.eq_false_iff]; exact fun e => lineCl_hit.2 (.inl e) k
    · rw [Bool.eq_false_iff]; exact fun e => lineCl_hit.2 (.inr (.inr (.inr e))) k
  rw [f1]
  simp only [beq_self_eq_true, andB_eq, orB_eq, Bool.true_and, Bool.and_true]
  rcases lineCl_012 b a c h with k | k | k
  · rw [k, (f3 k).1, (f3 k).2.1, (f3 k).2.2]; rfl
  · rw [k]; rfl
  · rw [k, f2 k]; rfl
theorem lineSure_true (b : B4) (a c : P2) (h x y : Int) (small : Bool) : lineSure b a c h x y small = true := by
  have r := lR_bd h
  unfold lineSure
  cases small
  · have hs := lBox_r b
    exact lineSure0_true _ _ (lBox_R b) (lPt_R a) (lPt_R c) hs.2.1 hs.2.2.2.2.1 (by omega) (by omega)
  · have hs := lSmall_r (lBox b)
    have e := lSmR_bd (r := lR h) (m := 12) (by omega) (by decide) (by decide)
    exact lineSure0_true _ _ (lSmall_R _) (close_R _ (by decide) (by decide)) (close_R _ (by decide) (by decide)) hs.2.2.1 hs.2.2.2.2.2.2.1 (by omega) (by omega)
theorem lineSure_ok (b : B4) (a c : P2) (h x y : Int) (small : Bool) : CallOk Try.prog 7 [bx b, pt a, pt c, vi h, vi x, vi y, vb small] (vb true) := by
  rw [← lineSure_true b a c h x y small]
  exact fnOkS (fuel := 16) (tbOf_ok tbA7_ok) mo Try.func7 (by kernel_rfl) (by kernel_rfl) (by kernel_rfl) (show _ = [small = true → W (20 + 1) ≠ 0, small = true → W (20 + 1) ≠ 0, small = true → lInOk (lSmall (lBox b)), small = false → lInOk (lBox b)] by kernel_rfl) ⟨fun _ => n21, fun _ => n21, fun _ => lSmall_In _, fun _ => lBox_In _, trivial⟩

/-! ### LineMeans -/
theorem discHas_eq' {p c : P2} {r : Int} (hp : PR p) (hc : PR c) (h1 : 1 ≤ r) (h2 : r ≤ 2147483648) : discHas p c r = decide (distI p c ≤ r * r) := discHas_eq hp hc h1 h2
theorem lineI_pt (p a : P2) (r : Int) : lineI p a a r = decide (distI p a ≤ r * r) := by
  unfold lineI
  have : dotI a a p ≤ 0 := by unfold dotI; grind
  rw [if_pos this]
theorem meetsI_pt {b : B4} {a : P2} (h : meetsI b a a = true) : hasI b a := by
  unfold meetsI at h
  cases k : sepI b a a
  · unfold sepI at k
    simp only [Bool.or_eq_false_iff, decide_eq_false_iff_not] at k
    exact ⟨by omega, by omega, by omega, by omega⟩
  · rw [k] at h; simp at h
theorem lineCl_pt {b : B4} {a : P2} {r : Int} (hx : b.x0 ≤ b.x1) (hy : b.y0 ≤ b.y1) : lineCl b a a r = if nearI b a > r * r then 0 else if mostI b a ≤ r * r then 2 else 1 := by
  have e2 : (all4 (fun q => lineI q a a r) b = true) ↔ mostI b a ≤ r * r := by
    rw [most_corner hx hy]
    unfold all4
    simp only [lineI_pt, Bool.and_eq_true, decide_eq_true_eq]
    omega
  have e0 : lineCl b a a r ≠ 0 ↔ nearI b a ≤ r * r := by
    rw [lineCl_hit]
    constructor
    · rintro (h | h | h | h)
      · obtain ⟨k, hk, hl⟩ := any4_iff.1 h
        rw [lineI_pt, decide_eq_true_eq, distI_comm] at hl
        exact Int.le_trans (near_le (isC_has hx hy hk)) hl
      · exact h
      · exact h
      · have := (near_zero b a hx hy).2 (meetsI_pt h)
        rw [this]; exact sq_nn r
    · exact fun h => .inr (.inl h)
  have e2' := lineCl_two (b := b) (a := a) (c := a) (r := r)
  rw [e2] at e2'
  have := lineCl_012 b a a r
  split
  · omega
  · split <;> omega
theorem all4_flip (b : B4) (a c : P2) (r : Int) : all4 (fun q => lineI q c a r) b = all4 (fun q => lineI q a c r) b := by
  congr 1; funext q; exact lineI_flip q a c r
theorem meetsI_flip (b : B4) (a c : P2) : meetsI b c a = meetsI b a c := by
  have e1 : all4 (fun k => decide (crossI c a k > 0)) b = all4 (fun k => decide (crossI a c k < 0)) b := by
    congr 1; funext q; rw [(flips a c q).1]; exact decide_eq_decide.2 (by omega)
  have e2 : all4 (fun k => decide (crossI c a k < 0)) b = all4 (fun k => decide (crossI a c k > 0)) b := by
    congr 1; funext q; rw [(flips a c q).1]; exact decide_eq_decide.2 (by omega)
  have e3 : sepI b c a = sepI b a c := by
    unfold sepI
    rw [Int.max_comm c.x, Int.max_comm c.y, Int.min_comm c.x, Int.min_comm c.y]
  unfold meetsI
  rw [e1, e2, e3]
  cases sepI b a c <;> cases all4 (fun k => decide (crossI a c k < 0)) b <;> cases all4 (fun k => decide (crossI a c k > 0)) b <;> rfl
theorem lineCl_flip (b : B4) (a c : P2) (r : Int) : lineCl b c a r = lineCl b a c r := by
  unfold lineCl
  have e : any4 (fun q => lineI q c a r) b = any4 (fun q => lineI q a c r) b := by congr 1; funext q; exact lineI_flip q a c r
  rw [all4_flip, e, meetsI_flip]
  cases any4 (fun q => lineI q a c r) b <;> cases decide (nearI b a ≤ r * r) <;> cases decide (nearI b c ≤ r * r) <;> rfl
def subP (c a : P2) : P2 := ⟨W (c.x - a.x), W (c.y - a.y)⟩
def addK (a d : P2) (k : Int) : P2 := ⟨W (a.x + W (k * d.x)), W (a.y + W (k * d.y))⟩
def lineMeans (b0 : B4) (a0 c0 : P2) (r0 : Int) (p0 : P2) (k0 : Int) : Bool :=
  let b := lSmall b0
  let a := lClose a0 20
  let c := lClose c0 20
  let p := lClose p0 40
  let r := lSmR (lR r0) 12
  let d := subP c a
  let e := addK a d 4
  let k := band k0 3
  let m := addK a d k
  andB (andB (andB (andB (andB (andB (andB (lineClass b a c r == lineClass b c a r) (lineHas p a c r == lineHas p c a r)) (lineClass b a a r == discClass b a r)) (lineHas p a a r == discHas p a r)) (orB (!(discHas p m r)) (lineHas p a e r))) (orB (discClass b m r != 2) (lineClass b a e r == 2))) (orB (lineClass b a e r != 0) (discClass b m r == 0))) true
/-- a disc around a quarter of the segment is in the stroke -/
theorem disc_line {p a d : P2} {k r : Int} (k0 : 0 ≤ k) (k3 : k ≤ 4) (h : distI p ⟨a.x + k * d.x, a.y + k * d.y⟩ ≤ r * r) : lineI p a ⟨a.x + 4 * d.x, a.y + 4 * d.y⟩ r = true := by
  rw [lineI_iff]
  refine ⟨k, 4, by decide, k0, k3, ?_⟩
  unfold distI at h
  dsimp only at h ⊢
  have e1 : 4 * (p.x - a.x) - k * (a.x + 4 * d.x - a.x) = 4 * (p.x - (a.x + k * d.x)) := by grind
  have e2 : 4 * (p.y - a.y) - k * (a.y + 4 * d.y - a.y) = 4 * (p.y - (a.y + k * d.y)) := by grind
  rw [e1, e2]
  have f1 : ∀ z : Int, 4 * z * (4 * z) = 16 * (z * z) := fun z => by grind
  rw [f1, f1]; omega
theorem lineMeans_true (b : B4) (a c : P2) (r : Int) (p : P2) (k : Int) : lineMeans b a c r p k = true := by
  have hb := lSmall_s b
  have ha := lClose_r a (n := 20) (by decide) (by decide)
  have hc := lClose_r c (n := 20) (by decide) (by decide)
  have hp := lClose_r p (n := 40) (by decide) (by decide)
  have hr := lR_bd r
  have hh := lSmR_bd (r := lR r) (m := 12) (by omega) (by decide) (by decide)
  have hk := band3 k
  have hB := lSmall_R b
  unfold lineMeans
  dsimp only
  generalize lClose a 20 = A at *
  generalize lClose c 20 = C at *
  generalize lClose p 40 = Q at *
  generalize lSmR (lR r) 12 = H at *
  generalize lSmall b = B at *
  generalize band k 3 = K at *
  have hs : subP C A = ⟨C.x - A.x, C.y - A.y⟩ := by unfold subP; rw [W_id (by omega) (by omega), W_id (by omega) (by omega)]
  rw [hs]
  have hdx : ∃ dx, dx = C.x - A.x := ⟨_, rfl⟩
  have hdy : ∃ dy, dy = C.y - A.y := ⟨_, rfl⟩
  obtain ⟨dx, ex⟩ := hdx; obtain ⟨dy, ey⟩ := hdy
  rw [← ex, ← ey]
  have kx := mul_bd (A := 3) (B := 40) (x := K) (y := dx) (by omega) (by omega) (by omega) (by omega)
  have ky := mul_bd (A := 3) (B := 40) (x := K) (y := dy) (by omega) (by omega) (by omega) (by omega)
  have em : addK A ⟨dx, dy⟩ K = ⟨A.x + K * dx, A.y + K * dy⟩ := by
    unfold addK; dsimp only; rw [W_id (x := K * dx) (by omega) (by omega), W_id (x := K * dy) (by omega) (by omega), W_id (by omega) (by omega), W_id (by omega) (by omega)]
  have ee : addK A ⟨dx, dy⟩ 4 = ⟨A.x + 4 * dx, A.y + 4 * dy⟩ := by
    unfold addK; dsimp only; rw [W_id (x := 4 * dx) (by omega) (by omega), W_id (x := 4 * dy) (by omega) (by omega), W_id (by omega) (by omega), W_id (by omega) (by omega)]
  rw [em, ee]
  have hA : PR A := PR_of ha (by decide)
  have hC : PR C := PR_of hc (by decide)
  have hQ : PR Q := PR_of hp (by decide)
  have hM : PR ⟨A.x + K * dx, A.y + K * dy⟩ := ⟨⟨by dsimp only; omega, by dsimp only; omega⟩, ⟨by dsimp only; omega, by dsimp only; omega⟩⟩
  have hE : PR ⟨A.x + 4 * dx, A.y + 4 * dy⟩ := ⟨⟨by dsimp only; omega, by dsimp only; omega⟩, ⟨by dsimp only; omega, by dsimp only; omega⟩⟩
  have bx_ := hb.2.1
  have by_ := hb.2.2.2.2.1
  rw [lineClass_eq hB hA hC bx_ by_ hh.1 (by omega), lineClass_eq hB hC hA bx_ by_ hh.1 (by omega), lineClass_eq hB hA hA bx_ by_ hh.1 (by omega), lineClass_eq hB hA hE bx_ by_ hh.1 (by omega),
    lineHas_eq hQ hA hC hh.1 (by omega), lineHas_eq hQ hC hA hh.1 (by omega), lineHas_eq hQ hA hA hh.1 (by omega), lineHas_eq hQ hA hE hh.1 (by omega),
    discClass_eq hB hA bx_ by_ hh.1 (by omega), discClass_eq hB hM bx_ by_ hh.1 (by omega), discHas_eq hQ hA hh.1 (by omega), discHas_eq hQ hM hh.1 (by omega),
    lineCl_flip B A C, lineI_flip Q A C, lineCl_pt bx_ by_, lineI_pt]
  have dl : ∀ q, distI q ⟨A.x + K * dx, A.y + K * dy⟩ ≤ H * H → lineI q A ⟨A.x + 4 * dx, A.y + 4 * dy⟩ H = true := fun q h => disc_line (d := ⟨dx, dy⟩) hk.1 (by omega) h
  have g1 : orB (!(decide (distI Q ⟨A.x + K * dx, A.y + K * dy⟩ ≤ H * H))) (lineI Q A ⟨A.x + 4 * dx, A.y + 4 * dy⟩ H) = true := by
    by_cases z : distI Q ⟨A.x + K * dx, A.y + K * dy⟩ ≤ H * H
    · rw [dl Q z, orB_eq, Bool.or_true]
    · rw [decide_eq_false z]; rfl
  have n1 : nearI B ⟨A.x + K * dx, A.y + K * dy⟩ ≤ H * H → lineCl B A ⟨A.x + 4 * dx, A.y + 4 * dy⟩ H ≠ 0 := fun z => by
    rw [near_nearest bx_ by_] at z
    exact hit_of bx_ by_ (by unfold nearest hasI; dsimp only; omega) (dl _ z)
  have n2 : mostI B ⟨A.x + K * dx, A.y + K * dy⟩ ≤ H * H → lineCl B A ⟨A.x + 4 * dx, A.y + 4 * dy⟩ H = 2 := fun z => by
    rw [lineCl_two, all4_iff]
    intro q hq
    refine dl q ?_
    have := most_ge (p := ⟨A.x + K * dx, A.y + K * dy⟩) (isC_has bx_ by_ hq)
    rw [distI_comm] at this; omega
  simp only [g1, beq_self_eq_true, andB_eq, orB_eq, Bool.true_and, Bool.and_true]
  by_cases z : nearI B ⟨A.x + K * dx, A.y + K * dy⟩ > H * H
  · rw [if_pos z]; simp
  · rw [if_neg z]
    have z1 := n1 (by omega)
    by_cases y : mostI B ⟨A.x + K * dx, A.y + K * dy⟩ ≤ H * H
    · rw [if_pos y, n2 y]; rfl
    · rw [if_neg y]; simp [z1]
theorem lineMeans_ok (b : B4) (a c : P2) (r : Int) (p : P2) (k : Int) : CallOk Try.prog 10 [bx b, pt a, pt c, vi r, pt p, vi k] (vb true) := by
  rw [← lineMeans_true b a c r p k]
  exact fnOkS (fuel := 16) (tbOf_ok tbA7_ok) mo Try.func10 (by kernel_rfl) (by kernel_rfl) (by kernel_rfl) (show _ = [W (20 + 1) ≠ 0, W (20 + 1) ≠ 0, W (40 + 1) ≠ 0] by kernel_rfl) ⟨n21, n21, n41, trivial⟩

/-! ### LineThick -/
def lineThick (b0 : B4) (a0 d0 : P2) (r0 : Int) (p0 : P2) (more : Int) : Bool :=
  let b := lSmall b0
  let a := lClose a0 20
  let d := lClose d0 9
  let p := lClose p0 40
  let r := lSmR (lR r0) 12
  let c := addP a d
  let e := addP2 a d
  let w := W (r + lMore more)
  let k := lineClass b a c r
  andB (andB (andB (andB (decide (lineClass b a c w ≥ k)) (decide (lineClass b a e r ≥ k))) (orB (!(lineHas p a c r)) (andB (lineHas p a c w) (lineHas p a e r)))) (lineHas p a e r == orB (lineHas p a c r) (lineHas p c e r))) true
theorem lineI_wide {p a c : P2} {r w : Int} (h0 : 0 ≤ r) (h : r ≤ w) (k : lineI p a c r = true) : lineI p a c w = true := by
  rw [lineI_iff] at *
  exact onS_mono (sq_le (by omega) h) k
theorem onS_two {p a d : P2} {R : Int} : OnS p a ⟨a.x + 2 * d.x, a.y + 2 * d.y⟩ R ↔ OnS p a ⟨a.x + d.x, a.y + d.y⟩ R ∨ OnS p ⟨a.x + d.x, a.y + d.y⟩ ⟨a.x + 2 * d.x, a.y + 2 * d.y⟩ R := by
  have f1 : ∀ z : Int, 2 * z * (2 * z) = 4 * (z * z) := fun z => by grind
  constructor
  · rintro ⟨m, n, n0, m0, mn, h⟩
    dsimp only at h
    by_cases k : 2 * m ≤ n
    · refine .inl ⟨2 * m, n, n0, by omega, k, ?_⟩
      dsimp only
      have e1 : n * (p.x - a.x) - 2 * m * (a.x + d.x - a.x) = n * (p.x - a.x) - m * (a.x + 2 * d.x - a.x) := by grind
      have e2 : n * (p.y - a.y) - 2 * m * (a.y + d.y - a.y) = n * (p.y - a.y) - m * (a.y + 2 * d.y - a.y) := by grind
      rw [e1, e2]; exact h
    · refine .inr ⟨2 * m - n, n, n0, by omega, by omega, ?_⟩
      dsimp only
      have e1 : n * (p.x - (a.x + d.x)) - (2 * m - n) * (a.x + 2 * d.x - (a.x + d.x)) = n * (p.x - a.x) - m * (a.x + 2 * d.x - a.x) := by grind
      have e2 : n * (p.y - (a.y + d.y)) - (2 * m - n) * (a.y + 2 * d.y - (a.y + d.y)) = n * (p.y - a.y) - m * (a.y + 2 * d.y - a.y) := by grind
      rw [e1, e2]; exact h
  · rintro (⟨m, n, n0, m0, mn, h⟩ | ⟨m, n, n0, m0, mn, h⟩)
    · refine ⟨m, 2 * n, by omega, m0, by omega, ?_⟩
      dsimp only at h ⊢
      have e1 : 2 * n * (p.x - a.x) - m * (a.x + 2 * d.x - a.x) = 2 * (n * (p.x - a.x) - m * (a.x + d.x - a.x)) := by grind
      have e2 : 2 * n * (p.y - a.y) - m * (a.y + 2 * d.y - a.y) = 2 * (n * (p.y - a.y) - m * (a.y + d.y - a.y)) := by grind
      have e3 : 2 * n * (2 * n) * R = 4 * (n * n * R) := by grind
      rw [e1, e2, f1, f1, e3]; omega
    · refine ⟨m + n, 2 * n, by omega, by omega, by omega, ?_⟩
      dsimp only at h ⊢
      have e1 : 2 * n * (p.x - a.x) - (m + n) * (a.x + 2 * d.x - a.x) = 2 * (n * (p.x - (a.x + d.x)) - m * (a.x + 2 * d.x - (a.x + d.x))) := by grind
      have e2 : 2 * n * (p.y - a.y) - (m + n) * (a.y + 2 * d.y - a.y) = 2 * (n * (p.y - (a.y + d.y)) - m * (a.y + 2 * d.y - (a.y + d.y))) := by grind
      have e3 : 2 * n * (2 * n) * R = 4 * (n * n * R) := by grind
      rw [e1, e2, f1, f1, e3]; omega
theorem lineI_two (p a d : P2) (r : Int) : lineI p a ⟨a.x + 2 * d.x, a.y + 2 * d.y⟩ r = (lineI p a ⟨a.x + d.x, a.y + d.y⟩ r || lineI p ⟨a.x + d.x, a.y + d.y⟩ ⟨a.x + 2 * d.x, a.y + 2 * d.y⟩ r) := by
  rw [Bool.eq_iff_iff, Bool.or_eq_true, lineI_iff, lineI_iff, lineI_iff]; exact onS_two
theorem meetsI_two {b : B4} {a d : P2} (h : meetsI b a ⟨a.x + d.x, a.y + d.y⟩ = true) : meetsI b a ⟨a.x + 2 * d.x, a.y + 2 * d.y⟩ = true := by
  have e : ∀ q, crossI a ⟨a.x + 2 * d.x, a.y + 2 * d.y⟩ q = 2 * crossI a ⟨a.x + d.x, a.y + d.y⟩ q := fun q => by unfold crossI; dsimp only; grind
  unfold meetsI at *
  simp only [Bool.and_eq_true, Bool.not_eq_true'] at *
  obtain ⟨h1, h2, h3⟩ := h
  have e1 : all4 (fun c => decide (crossI a ⟨a.x + 2 * d.x, a.y + 2 * d.y⟩ c > 0)) b = all4 (fun c => decide (crossI a ⟨a.x + d.x, a.y + d.y⟩ c > 0)) b := by
    congr 1; funext q; rw [e]; exact decide_eq_decide.2 (by omega)
  have e2 : all4 (fun c => decide (crossI a ⟨a.x + 2 * d.x, a.y + 2 * d.y⟩ c < 0)) b = all4 (fun c => decide (crossI a ⟨a.x + d.x, a.y + d.y⟩ c < 0)) b := by
    congr 1; funext q; rw [e]; exact decide_eq_decide.2 (by omega)
  rw [e1, e2]
  refine ⟨?_, h2, h3⟩
  unfold sepI at *
  simp only [Bool.or_eq_false_iff, decide_eq_false_iff_not] at *
  try dsimp only at *
  omega
theorem lineThick_true (b : B4) (a d : P2) (r : Int) (p : P2) (more : Int) : lineThick b a d r p more = true := by
  have hb := lSmall_s b
  have ha := lClose_r a (n := 20) (by decide) (by decide)
  have hd := lClose_r d (n := 9) (by decide) (by decide)
  have hp := lClose_r p (n := 40) (by decide) (by decide)
  have hr := lR_bd r
  have hh := lSmR_bd (r := lR r) (m := 12) (by omega) (by decide) (by decide)
  have hm := lMore_bd more
  have hB := lSmall_R b
  unfold lineThick
  dsimp only
  rw [(addP_eq ha hd (by decide) (by decide)).1, (addP_eq ha hd (by decide) (by decide)).2]
  generalize lClose a 20 = A at *
  generalize lClose d 9 = D at *
  generalize lClose p 40 = Q at *
  generalize lSmR (lR r) 12 = H at *
  generalize lMore more = M at *
  generalize lSmall b = B at *
  have hA : PR A := PR_of ha (by decide)
  have hQ : PR Q := PR_of hp (by decide)
  have hC : PR ⟨A.x + D.x, A.y + D.y⟩ := ⟨⟨by dsimp only; omega, by dsimp only; omega⟩, ⟨by dsimp only; omega, by dsimp only; omega⟩⟩
  have hE : PR ⟨A.x + 2 * D.x, A.y + 2 * D.y⟩ := ⟨⟨by dsimp only; omega, by dsimp only; omega⟩, ⟨by dsimp only; omega, by dsimp only; omega⟩⟩
  have bx_ := hb.2.1
  have by_ := hb.2.2.2.2.1
  rw [W_id (x := H + M) (by omega) (by omega)]
  rw [lineClass_eq hB hA hC bx_ by_ hh.1 (by omega), lineClass_eq hB hA hE bx_ by_ hh.1 (by omega), lineClass_eq hB hA hC bx_ by_ (r := H + M) (by omega) (by omega),
    lineHas_eq hQ hA hC hh.1 (by omega), lineHas_eq hQ hA hE hh.1 (by omega), lineHas_eq hQ hC hE hh.1 (by omega), lineHas_eq hQ hA hC (r := H + M) (by omega) (by omega), lineI_two]
  have sq := sq_le (x := H) (y := H + M) (by omega) (by omega)
  have c1 : lineCl B A ⟨A.x + D.x, A.y + D.y⟩ H ≤ lineCl B A ⟨A.x + D.x, A.y + D.y⟩ (H + M) := by
    refine lineCl_le (fun z => ?_) (fun z => ?_)
    · rw [lineCl_two, all4_iff] at *
      exact fun k hk => lineI_wide (by omega) (by omega) (z k hk)
    · rw [lineCl_hit] at *
      rcases z with z | z | z | z
      · obtain ⟨k, hk, hl⟩ := any4_iff.1 z
        exact .inl (any4_iff.2 ⟨k, hk, lineI_wide (by omega) (by omega) hl⟩)
      · exact .inr (.inl (by omega))
      · exact .inr (.inr (.inl (by omega)))
      · exact .inr (.inr (.inr z))
  have c2 : lineCl B A ⟨A.x + D.x, A.y + D.y⟩ H ≤ lineCl B A ⟨A.x + 2 * D.x, A.y + 2 * D.y⟩ H := by
    refine lineCl_le (fun z => ?_) (fun z => ?_)
    · rw [lineCl_two, all4_iff] at *
      exact fun k hk => by rw [lineI_two, z k hk, Bool.true_or]
    · rcases lineCl_hit.1 z with z | z | z | z
      · obtain ⟨k, hk, hl⟩ := any4_iff.1 z
        exact lineCl_hit.2 (.inl (any4_iff.2 ⟨k, hk, by rw [lineI_two, hl, Bool.true_or]⟩))
      · exact lineCl_hit.2 (.inr (.inl z))
      · rw [near_nearest bx_ by_] at z
        have hz : lineI (nearest B ⟨A.x + D.x, A.y + D.y⟩) A ⟨A.x + D.x, A.y + D.y⟩ H = true := by
          rw [lineI_flip, lineI_iff]
          refine ⟨0, 1, by decide, by decide, by decide, ?_⟩
          rw [seg_norm]; omega
        exact hit_of bx_ by_ (q := nearest B ⟨A.x + D.x, A.y + D.y⟩) (by unfold nearest hasI; dsimp only; omega) (by rw [lineI_two, hz, Bool.true_or])
      · exact lineCl_hit.2 (.inr (.inr (.inr (meetsI_two z))))
  have c3 : lineI Q A ⟨A.x + D.x, A.y + D.y⟩ H = true → lineI Q A ⟨A.x + D.x, A.y + D.y⟩ (H + M) = true := lineI_wide (by omega) (by omega)
  simp only [andB_eq, orB_eq, beq_self_eq_true, Bool.and_true]
  rw [decide_eq_true c1, decide_eq_true c2]
  cases z : lineI Q A ⟨A.x + D.x, A.y + D.y⟩ H
  · rfl
  · rw [c3 z]; rfl
theorem lineThick_ok (b : B4) (a d : P2) (r : Int) (p : P2) (more : Int) : CallOk Try.prog 5 [bx b, pt a, pt d, vi r, pt p, vi more] (vb true) := by
  rw [← lineThick_true b a d r p more]
  exact fnOkS (fuel := 16) (tbOf_ok tbA7_ok) mo Try.func5 (by kernel_rfl) (by kernel_rfl) (by kernel_rfl) (show _ = [W (20 + 1) ≠ 0, W (9 + 1) ≠ 0, W (40 + 1) ≠ 0] by kernel_rfl) ⟨n21, n10, n41, trivial⟩
end Go.Proofs.Ytidgkcefjfdcbaa
