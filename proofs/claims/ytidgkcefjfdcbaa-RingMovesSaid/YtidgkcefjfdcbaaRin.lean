/-
  OWN WORK. Rings in plain arithmetic; the contract of Arc; the laws RingSure and RingCloses.
-/
import Derived.Test.YtidgkcefjfdcbaaLit
namespace Go.Proofs.Ytidgkcefjfdcbaa
open Go Go.RowKit Sym

/-! ### arcs of the laws -/
def circX (i : Int) : Int :=
  bif decide (i = ((0 : Nat) : Int)) then 5 else bif decide (i = ((1 : Nat) : Int)) then 4 else bif decide (i = ((2 : Nat) : Int)) then 3 else bif decide (i = ((3 : Nat) : Int)) then 0 else bif decide (i = ((4 : Nat) : Int)) then -3 else bif decide (i = ((5 : Nat) : Int)) then -4 else
  bif decide (i = ((6 : Nat) : Int)) then -5 else bif decide (i = ((7 : Nat) : Int)) then -4 else bif decide (i = ((8 : Nat) : Int)) then -3 else bif decide (i = ((9 : Nat) : Int)) then 0 else bif decide (i = ((10 : Nat) : Int)) then 3 else 4
def circY (i : Int) : Int :=
  bif decide (i = ((0 : Nat) : Int)) then 0 else bif decide (i = ((1 : Nat) : Int)) then 3 else bif decide (i = ((2 : Nat) : Int)) then 4 else bif decide (i = ((3 : Nat) : Int)) then 5 else bif decide (i = ((4 : Nat) : Int)) then 4 else bif decide (i = ((5 : Nat) : Int)) then 3 else
  bif decide (i = ((6 : Nat) : Int)) then 0 else bif decide (i = ((7 : Nat) : Int)) then -3 else bif decide (i = ((8 : Nat) : Int)) then -4 else bif decide (i = ((9 : Nat) : Int)) then -5 else bif decide (i = ((10 : Nat) : Int)) then -4 else -3
def arcI (f : Int) : Int := (band f 255).tmod 12
def arcK0 (s : Int) : Int := W (W ((U s).tmod 20000000) + 1)
def arcK1 (s : Int) : Int := W (band (arcK0 s) 3 + 1)
def arcC0 (c : P2) : P2 := lClose c 400000000
def arcC1 (c : P2) : P2 := lClose (arcC0 c) 15
def arcC (c : P2) (sm : Bool) : P2 := ⟨bif sm then (arcC1 c).x else (arcC0 c).x, bif sm then (arcC1 c).y else (arcC0 c).y⟩
def arcAt (c : P2) (f s : Int) (sm : Bool) : P2 :=
  ⟨bif sm then W ((arcC1 c).x + W (arcK1 s * circX (arcI f))) else W ((arcC0 c).x + W (arcK0 s * circX (arcI f))), bif sm then W ((arcC1 c).y + W (arcK1 s * circY (arcI f))) else W ((arcC0 c).y + W (arcK0 s * circY (arcI f)))⟩
theorem band255 (x : Int) : 0 ≤ band x 255 ∧ band x 255 ≤ 255 := by
  have h : (BitVec.ofInt 64 x &&& BitVec.ofInt 64 255).toNat ≤ 255 := by
    rw [BitVec.toNat_and]
    exact Nat.le_trans Nat.and_le_right (by decide)
  unfold band
  rw [W_id (by omega) (by omega)]
  omega
theorem arcI_bd (f : Int) : 0 ≤ arcI f ∧ arcI f < 12 := by
  have a := band255 f
  have b := Int.tmod_nonneg (a := band f 255) 12 a.1
  have c := (tmod_bd (band f 255) (n := 12) (by decide)).2
  unfold arcI; omega
def arcIx (f : Int) : Prop := 0 ≤ arcI f ∧ arcI f < ((12 : Nat) : Int)
theorem n16 : W (15 + 1) ≠ 0 := by decide
theorem n4e8 : W (400000000 + 1) ≠ 0 := by decide
theorem arc_ok (c : P2) (f t s : Int) (sm : Bool) : CallOk Try.prog 34 [pt c, vi f, vi t, vi s, vb sm] (.tuple ⟨[pt (arcC c sm), pt (arcAt c f s sm), pt (arcAt c t s sm)]⟩) :=
  fnOkS (fuel := 16) (tbOf_ok tbA_ok) mo Try.func34 (by kernel_rfl) (by kernel_rfl) (by kernel_rfl)
    (show _ = [arcIx f, arcIx t, W (400000000 + 1) ≠ 0, sm = true → W (15 + 1) ≠ 0] by kernel_rfl) ⟨arcI_bd f, arcI_bd t, n4e8, fun _ => n16, trivial⟩
def tbR9 : List Entry := (34, en5 dP dI dI dI dB (fun c f t s sm => .tuple ⟨[pt (arcC c sm), pt (arcAt c f s sm), pt (arcAt c t s sm)]⟩)) :: tbA9
theorem tbR9_ok : ∀ e ∈ tbR9, EntryOk Try.prog e := List.forall_mem_cons.2 ⟨en5_ok dP_eq dI_eq dI_eq dI_eq dB_eq arc_ok, tbA9_ok⟩
/-- what an arc is: a centre, k times two of the points of the circle of 5 -/
structure Circ (u : P2) : Prop where
  x : -5 ≤ u.x ∧ u.x ≤ 5
  y : -5 ≤ u.y ∧ u.y ≤ 5
  n : u.x * u.x + u.y * u.y = 25
def circ (f : Int) : P2 := ⟨circX (arcI f), circY (arcI f)⟩
theorem circ_ok (f : Int) : Circ (circ f) := by
  have h := arcI_bd f
  have : arcI f = 0 ∨ arcI f = 1 ∨ arcI f = 2 ∨ arcI f = 3 ∨ arcI f = 4 ∨ arcI f = 5 ∨ arcI f = 6 ∨ arcI f = 7 ∨ arcI f = 8 ∨ arcI f = 9 ∨ arcI f = 10 ∨ arcI f = 11 := by omega
  unfold circ
  rcases this with h | h | h | h | h | h | h | h | h | h | h | h <;> rw [h] <;> exact ⟨by decide, by decide, by decide⟩
theorem arcK0_bd (s : Int) : 1 ≤ arcK0 s ∧ arcK0 s ≤ 20000000 := by
  have h0 : 0 ≤ U s := by rw [U_eq]; omega
  have a := Int.tmod_nonneg (a := U s) 20000000 h0
  have b := (tmod_bd (U s) (n := 20000000) (by decide)).2
  unfold arcK0
  rw [W_id (x := (U s).tmod 20000000) (by omega) (by omega), W_id (by omega) (by omega)]; omega
theorem arcK1_bd (s : Int) : 1 ≤ arcK1 s ∧ arcK1 s ≤ 4 := by
  have a := band3 (arcK0 s)
  unfold arcK1; rw [W_id (by omega) (by omega)]; omega
def arcK (s : Int) (sm : Bool) : Int := bif sm then arcK1 s else arcK0 s
theorem arcK_bd (s : Int) (sm : Bool) : 1 ≤ arcK s sm ∧ arcK s sm ≤ 20000000 := by
  have a := arcK0_bd s; have b := arcK1_bd s
  cases sm
  · exact a
  · exact ⟨b.1, by show arcK1 s ≤ _; omega⟩
theorem arcC_r (c : P2) (sm : Bool) : (-400000000 ≤ (arcC c sm).x ∧ (arcC c sm).x ≤ 400000000) ∧ (-400000000 ≤ (arcC c sm).y ∧ (arcC c sm).y ≤ 400000000) := by
  have a := lClose_r c (n := 400000000) (by decide) (by decide)
  have b := lClose_r (arcC0 c) (n := 15) (by decide) (by decide)
  cases sm
  · exact a
  · show (_ ≤ (arcC1 c).x ∧ (arcC1 c).x ≤ _) ∧ (_ ≤ (arcC1 c).y ∧ (arcC1 c).y ≤ _)
    unfold arcC1; omega
theorem arcC_s (c : P2) : (-15 ≤ (arcC c true).x ∧ (arcC c true).x ≤ 15) ∧ (-15 ≤ (arcC c true).y ∧ (arcC c true).y ≤ 15) := lClose_r (arcC0 c) (n := 15) (by decide) (by decide)
/-- the point of the arc, without wraps -/
def onC (c : P2) (k : Int) (u : P2) : P2 := ⟨c.x + k * u.x, c.y + k * u.y⟩
theorem arcAt_eq (c : P2) (f s : Int) (sm : Bool) : arcAt c f s sm = onC (arcC c sm) (arcK s sm) (circ f) := by
  have h := circ_ok f
  have kk := arcK_bd s sm
  have cc := arcC_r c sm
  have x := mul_bd (A := 20000000) (B := 5) (x := arcK s sm) (y := (circ f).x) (by omega) (by omega) h.x.1 h.x.2
  have y := mul_bd (A := 20000000) (B := 5) (x := arcK s sm) (y := (circ f).y) (by omega) (by omega) h.y.1 h.y.2
  have e : arcAt c f s sm = ⟨W ((arcC c sm).x + W (arcK s sm * (circ f).x)), W ((arcC c sm).y + W (arcK s sm * (circ f).y))⟩ := by cases sm <;> rfl
  rw [e, W_id (x := arcK s sm * (circ f).x) (by omega) (by omega), W_id (x := arcK s sm * (circ f).y) (by omega) (by omega), W_id (by omega) (by omega), W_id (by omega) (by omega)]
  rfl
theorem onC_r {c : P2} {k : Int} {u : P2} (hc : (-400000000 ≤ c.x ∧ c.x ≤ 400000000) ∧ (-400000000 ≤ c.y ∧ c.y ≤ 400000000)) (hk : 1 ≤ k ∧ k ≤ 20000000) (hu : Circ u) : PR (onC c k u) ∧ distI (onC c k u) c = 25 * (k * k) := by
  have x := mul_bd (A := 20000000) (B := 5) (x := k) (y := u.x) (by omega) (by omega) hu.x.1 hu.x.2
  have y := mul_bd (A := 20000000) (B := 5) (x := k) (y := u.y) (by omega) (by omega) hu.y.1 hu.y.2
  refine ⟨⟨⟨by unfold onC; dsimp only; omega, by unfold onC; dsimp only; omega⟩, ⟨by unfold onC; dsimp only; omega, by unfold onC; dsimp only; omega⟩⟩, ?_⟩
  have e : distI (onC c k u) c = k * k * (u.x * u.x + u.y * u.y) := by unfold distI onC; dsimp only; grind
  rw [e, hu.n]; omega

/-! ### rings -/
def outI (d rr r : Int) : Bool := decide (rr - r * r - d ≤ 0 ∨ (rr - r * r - d) * (rr - r * r - d) ≤ 4 * d * (r * r))
def insI (d rr r : Int) : Bool := decide (d - rr - r * r ≤ 0 ∨ (d - rr - r * r) * (d - rr - r * r) ≤ 4 * rr * (r * r))
theorem outside_eq {d rr r : Int} (h0 : 0 ≤ d) (h1 : d ≤ 4000000000000000000) (h2 : 0 ≤ rr) (h3 : rr ≤ 4000000000000000000) (h4 : 1 ≤ r) (h5 : r ≤ 1073741824) : outside d rr r = outI d rr r := by
  have s := sq_bd (A := 1073741824) (x := r) (by omega) h5
  unfold outside outI
  rw [square_eq (by omega) (by omega), W_id (x := rr - r * r) (by omega) (by omega), W_id (x := rr - r * r - d) (by omega) (by omega), U_id (x := d) (by omega) (by omega), U_id (x := 4 * d) (by omega) (by omega), U_id (x := r * r) (by omega) (by omega)]
  dsimp only
  rw [wle (by omega) (by omega) ⟨by omega, by omega⟩ ⟨by omega, by omega⟩, orB_eq, ← Bool.decide_or]
theorem inside_eq {d rr r : Int} (h0 : 0 ≤ d) (h1 : d ≤ 4000000000000000000) (h2 : 0 ≤ rr) (h3 : rr ≤ 4000000000000000000) (h4 : 1 ≤ r) (h5 : r ≤ 1073741824) : inside d rr r = insI d rr r := by
  have s := sq_bd (A := 1073741824) (x := r) (by omega) h5
  unfold inside insI
  rw [square_eq (by omega) (by omega), W_id (x := d - rr) (by omega) (by omega), W_id (x := d - rr - r * r) (by omega) (by omega), U_id (x := rr) (by omega) (by omega), U_id (x := 4 * rr) (by omega) (by omega), U_id (x := r * r) (by omega) (by omega)]
  dsimp only
  rw [wle (by omega) (by omega) ⟨by omega, by omega⟩ ⟨by omega, by omega⟩, orB_eq, ← Bool.decide_or]
theorem outI_mono {d d' rr r : Int} (h : d ≤ d') (k : outI d rr r = true) : outI d' rr r = true := by
  unfold outI at *
  rw [decide_eq_true_eq] at *
  by_cases z : rr - r * r - d' ≤ 0
  · exact .inl z
  · refine .inr ?_
    rcases k with k | k
    · omega
    · have a := sq_le (x := rr - r * r - d') (y := rr - r * r - d) (by omega) (by omega)
      have b := Int.mul_le_mul_of_nonneg_right (show 4 * d ≤ 4 * d' by omega) (sq_nn r)
      omega
theorem insI_mono {d d' rr r : Int} (h : d' ≤ d) (k : insI d rr r = true) : insI d' rr r = true := by
  unfold insI at *
  rw [decide_eq_true_eq] at *
  by_cases z : d' - rr - r * r ≤ 0
  · exact .inl z
  · refine .inr ?_
    rcases k with k | k
    · omega
    · have a := sq_le (x := d' - rr - r * r) (y := d - rr - r * r) (by omega) (by omega)
      omega
def sectI (p c a e : P2) : Bool :=
  decide (same a e) || (if crossI c a e < 0 then decide (crossI c a p ≥ 0) || decide (crossI c p e ≥ 0) else decide (crossI c a p ≥ 0) && decide (crossI c p e ≥ 0))
theorem sector_eq {p c a e : P2} (hp : PR p) (hc : PR c) (ha : PR a) (he : PR e) : sector p c a e = sectI p c a e := by
  unfold sector sectI ringGreat
  rw [ptEq_eq, (cross_eq hc ha he).1, (cross_eq hc ha hp).1, (cross_eq hc hp he).1, orB_eq, andB_eq]
  by_cases s : same a e
  · simp [s]
  · by_cases k : crossI c a e < 0 <;> simp [s, k]
def okI (c a e : P2) : Prop := distI a c ≠ 0 ∧ distI a c = distI e c
theorem ringOk_eq {c a e : P2} (hc : PR c) (ha : PR a) (he : PR e) : ringOk c a e = true ↔ okI c a e := by
  have e1 := near_eq (b := ⟨c.x, c.y, c.x, c.y⟩) ⟨hc.x, hc.y, hc.x, hc.y⟩ ha
  have e2 := near_eq (b := ⟨c.x, c.y, c.x, c.y⟩) ⟨hc.x, hc.y, hc.x, hc.y⟩ he
  unfold ringOk ringApart okI
  rw [e1.1, e2.1, dist_near, dist_near, andB_eq]
  simp
def ringI (p c a e : P2) (r : Int) : Bool := decide (distI p a ≤ r * r) || decide (distI p e ≤ r * r) || (sectI p c a e && outI (distI p c) (distI a c) r && insI (distI p c) (distI a c) r)
theorem ringHas_eq {p c a e : P2} {r : Int} (hp : PR p) (hc : PR c) (ha : PR a) (he : PR e) (ok : okI c a e) (h4 : 1 ≤ r) (h5 : r ≤ 1073741824) (hd : distI p c ≤ 4000000000000000000) (hr : distI a c ≤ 4000000000000000000) : ringHas p c a e r = ringI p c a e r := by
  have e1 := near_eq (b := ⟨c.x, c.y, c.x, c.y⟩) ⟨hc.x, hc.y, hc.x, hc.y⟩ hp
  have e2 := near_eq (b := ⟨c.x, c.y, c.x, c.y⟩) ⟨hc.x, hc.y, hc.x, hc.y⟩ ha
  unfold ringHas ringI
  rw [(ringOk_eq hc ha he).2 ok, decide_eq_false (show ¬ r < 1 by omega)]
  unfold ringApart
  rw [e1.1, e2.1, dist_near, dist_near, discHas_eq hp ha h4 (by omega), discHas_eq hp he h4 (by omega), sector_eq hp hc ha he, outside_eq (dist_nn _ _) hd (dist_nn _ _) hr h4 h5, inside_eq (dist_nn _ _) hd (dist_nn _ _) hr h4 h5]
  simp only [orB_eq, andB_eq, Bool.not_true, Bool.or_false, bif_f]
  cases (decide (distI p a ≤ r * r) || decide (distI p e ≤ r * r)) <;> rfl
/-- within the sector, off it -/
def liIn (b : B4) (c a e : P2) : Bool := decide (same a e) || (if crossI c a e < 0 then all4 (fun q => decide (crossI c a q ≥ 0)) b || all4 (fun q => decide (crossI c q e ≥ 0)) b else all4 (fun q => decide (crossI c a q ≥ 0)) b && all4 (fun q => decide (crossI c q e ≥ 0)) b)
def liOff (b : B4) (c a e : P2) : Bool := !(decide (same a e)) && (if crossI c a e < 0 then all4 (fun q => decide (crossI c a q < 0)) b && all4 (fun q => decide (crossI c q e < 0)) b else all4 (fun q => decide (crossI c a q < 0)) b || all4 (fun q => decide (crossI c q e < 0)) b)
theorem not_any (f : P2 → Bool) (b : B4) : (!(any4 f b)) = all4 (fun q => !(f q)) b := by
  unfold any4 all4
  dsimp only
  cases f ⟨b.x0, b.y0⟩ <;> cases f ⟨b.x1, b.y0⟩ <;> cases f ⟨b.x0, b.y1⟩ <;> cases f ⟨b.x1, b.y1⟩ <;> rfl
theorem lies_eq {b : B4} {c a e : P2} (hb : BR b) (hc : PR c) (ha : PR a) (he : PR e) : liesIn b c a e = liIn b c a e ∧ liesOff b c a e = liOff b c a e := by
  have u0 : all4 (fun q => !(decide (cross c a q < 0))) b = all4 (fun q => decide (crossI c a q ≥ 0)) b := all4_congr hb fun q hq => by rw [(cross_eq hc ha hq).1, ← decide_not]; exact decide_eq_decide.2 (by omega)
  have v0 : all4 (fun q => !(decide (cross c q e < 0))) b = all4 (fun q => decide (crossI c q e ≥ 0)) b := all4_congr hb fun q hq => by rw [(cross_eq hc hq he).1, ← decide_not]; exact decide_eq_decide.2 (by omega)
  have u4 : all4 (fun q => decide (cross c a q < 0)) b = all4 (fun q => decide (crossI c a q < 0)) b := all4_congr hb fun q hq => by rw [(cross_eq hc ha hq).1]
  have v4 : all4 (fun q => decide (cross c q e < 0)) b = all4 (fun q => decide (crossI c q e < 0)) b := all4_congr hb fun q hq => by rw [(cross_eq hc hq he).1]
  unfold liesIn liesOff liIn liOff ringGreat
  dsimp only
  rw [cnt4_none, cnt4_none, cnt4_all, cnt4_all, not_any, not_any, u0, v0, u4, v4, ptEq_eq, (cross_eq hc ha he).1]
  simp only [orB_eq, andB_eq]
  by_cases s : same a e
  · simp [s]
  · by_cases k : crossI c a e < 0 <;> simp [s, k]
def ringCl (b : B4) (c a e : P2) (r : Int) : Int :=
  if mostI b a ≤ r * r ∨ mostI b e ≤ r * r then 2 else
  if liIn b c a e && outI (nearI b c) (distI a c) r && insI (mostI b c) (distI a c) r then 2 else
  if nearI b a ≤ r * r ∨ nearI b e ≤ r * r then 1 else
  if liOff b c a e || !(insI (nearI b c) (distI a c) r) || !(outI (mostI b c) (distI a c) r) then 0 else 1
theorem near_most {b : B4} {p : P2} (hx : b.x0 ≤ b.x1) (hy : b.y0 ≤ b.y1) : nearI b p ≤ mostI b p := by
  have q1 : hasI b ⟨b.x0, b.y0⟩ := ⟨by simp, hx, by simp, hy⟩
  have := near_le (p := p) q1; have := most_ge (p := p) q1; omega
theorem ringClass_eq {b : B4} {c a e : P2} {r : Int} (hb : BR b) (hc : PR c) (ha : PR a) (he : PR e) (ok : okI c a e) (hx : b.x0 ≤ b.x1) (hy : b.y0 ≤ b.y1) (h4 : 1 ≤ r) (h5 : r ≤ 1073741824) (hd : mostI b c ≤ 4000000000000000000) (hr : distI a c ≤ 4000000000000000000) : ringClass b c a e r = ringCl b c a e r := by
  have e2 := near_eq (b := ⟨c.x, c.y, c.x, c.y⟩) ⟨hc.x, hc.y, hc.x, hc.y⟩ ha
  have hn := near_eq hb hc
  have hm := most_eq hb hc
  have nm := near_most (p := c) hx hy
  have na := near_most (p := a) hx hy
  have ne_ := near_most (p := e) hx hy
  have hh : boxHas b ⟨b.x0, b.y0⟩ = true := (boxHas_eq _ _).2 ⟨by simp, hx, by simp, hy⟩
  unfold ringClass ringCl
  rw [(ringOk_eq hc ha he).2 ok, decide_eq_false (show ¬ r < 1 by omega), hh]
  unfold ringApart
  rw [e2.1, dist_near, hn.1, hm.1, discClass_eq hb ha hx hy h4 (by omega), discClass_eq hb he hx hy h4 (by omega), (lies_eq hb hc ha he).1, (lies_eq hb hc ha he).2,
    outside_eq hn.2.1 (by omega) (dist_nn _ _) hr h4 h5, outside_eq hm.2.1 hd (dist_nn _ _) hr h4 h5, inside_eq hn.2.1 (by omega) (dist_nn _ _) hr h4 h5, inside_eq hm.2.1 hd (dist_nn _ _) hr h4 h5]
  simp only [orB_eq, andB_eq, Bool.not_true, Bool.or_false, bif_f]
  generalize nearI b a = NA at *
  generalize nearI b e = NE at *
  generalize mostI b a = MA at *
  generalize mostI b e = ME at *
  generalize r * r = R at *
  have f1 : ((if NA > R then 0 else if MA ≤ R then 2 else 1 : Int) == 2 || (if NE > R then 0 else if ME ≤ R then 2 else 1 : Int) == 2) = decide (MA ≤ R ∨ ME ≤ R) := by
    rw [Bool.eq_iff_iff]
    simp only [Bool.or_eq_true, beq_iff_eq, decide_eq_true_eq]
    constructor
    · rintro (k | k)
      · split at k
        · cases k
        · split at k
          · left; assumption
          · cases k
      · split at k
        · cases k
        · split at k
          · right; assumption
          · cases k
    · rintro (k | k)
      · left; rw [if_neg (by omega), if_pos k]
      · right; rw [if_neg (by omega), if_pos k]
  have f2 : ((if NA > R then 0 else if MA ≤ R then 2 else 1 : Int) != 0 || (if NE > R then 0 else if ME ≤ R then 2 else 1 : Int) != 0) = decide (NA ≤ R ∨ NE ≤ R) := by
    rw [Bool.eq_iff_iff]
    simp only [Bool.or_eq_true, bne_iff_ne, decide_eq_true_eq]
    constructor
    · rintro (k | k)
      · left; split at k
        · exact absurd rfl k
        · omega
      · right; split at k
        · exact absurd rfl k
        · omega
    · rintro (k | k)
      · left; rw [if_neg (by omega)]; split <;> decide
      · right; rw [if_neg (by omega)]; split <;> decide
  rw [f1, f2]
  by_cases k1 : MA ≤ R ∨ ME ≤ R
  · rw [decide_eq_true k1, if_pos k1]; rfl
  · rw [decide_eq_false k1, if_neg k1, bif_f]
    cases k2 : (liIn b c a e && outI (nearI b c) (distI a c) r && insI (mostI b c) (distI a c) r)
    · simp only [bif_f, Bool.false_eq_true, if_false]
      by_cases k3 : NA ≤ R ∨ NE ≤ R
      · rw [decide_eq_true k3, if_pos k3]; rfl
      · rw [decide_eq_false k3, if_neg k3, bif_f]
        cases (liOff b c a e || !insI (nearI b c) (distI a c) r || !outI (mostI b c) (distI a c) r) <;> rfl
    · rfl
theorem cross_sw (c a q : P2) : crossI c a q = -crossI c q a := by unfold crossI; grind
theorem liIn_has {b : B4} {q c a e : P2} (hq : hasI b q) (h : liIn b c a e = true) : sectI q c a e = true := by
  have u : all4 (fun q => decide (crossI c a q ≥ 0)) b = true → crossI c a q ≥ 0 := fun k => by
    obtain ⟨k', hc, hl⟩ := cross_le c a hq
    have := all4_iff.1 k k' hc
    simp only [decide_eq_true_eq] at this; omega
  have v : all4 (fun q => decide (crossI c q e ≥ 0)) b = true → crossI c q e ≥ 0 := fun k => by
    obtain ⟨k', hc, hl⟩ := cross_ge c e hq
    have := all4_iff.1 k k' hc
    simp only [decide_eq_true_eq] at this
    rw [cross_sw c k' e] at this; rw [cross_sw c q e]; omega
  unfold liIn at h; unfold sectI
  by_cases s : same a e
  · simp [s]
  · by_cases w : crossI c a e < 0
    · simp only [s, w, decide_false, Bool.false_or, if_true, Bool.or_eq_true, decide_eq_true_eq] at *
      rcases h with h | h
      · exact .inl (u h)
      · exact .inr (v h)
    · simp only [s, w, decide_false, Bool.false_or, if_false, Bool.and_eq_true, decide_eq_true_eq] at *
      exact ⟨u h.1, v h.2⟩
theorem liOff_has {b : B4} {q c a e : P2} (hq : hasI b q) (h : liOff b c a e = true) : sectI q c a e = false := by
  have u : all4 (fun q => decide (crossI c a q < 0)) b = true → ¬ crossI c a q ≥ 0 := fun k => by
    obtain ⟨k', hc, hl⟩ := cross_ge c a hq
    have := all4_iff.1 k k' hc
    simp only [decide_eq_true_eq] at this; omega
  have v : all4 (fun q => decide (crossI c q e < 0)) b = true → ¬ crossI c q e ≥ 0 := fun k => by
    obtain ⟨k', hc, hl⟩ := cross_le c e hq
    have := all4_iff.1 k k' hc
    simp only [decide_eq_true_eq] at this
    rw [cross_sw c k' e] at this; rw [cross_sw c q e]; omega
  unfold liOff at h; unfold sectI
  by_cases s : same a e
  · simp [s] at h
  · by_cases w : crossI c a e < 0
    · simp only [s, w, decide_false, Bool.not_false, Bool.true_and, Bool.false_or, if_true, Bool.and_eq_true, Bool.or_eq_false_iff, decide_eq_false_iff_not] at *
      exact ⟨u h.1, v h.2⟩
    · simp only [s, w, decide_false, Bool.not_false, Bool.true_and, Bool.false_or, if_false, Bool.or_eq_true, Bool.and_eq_false_iff, decide_eq_false_iff_not] at *
      rcases h with h | h
      · exact .inl (u h)
      · exact .inr (v h)
theorem ring_in {b : B4} {q c a e : P2} {r : Int} (hq : hasI b q) (h : ringCl b c a e r = 2) : ringI q c a e r = true := by
  have n := near_le (p := c) hq; have m := most_ge (p := c) hq
  have ma := most_ge (p := a) hq; have me := most_ge (p := e) hq
  rw [distI_comm] at n m ma me
  unfold ringCl at h; unfold ringI
  split at h
  · rename_i k
    rcases k with k | k
    · rw [decide_eq_true (show distI q a ≤ r * r by omega)]; rfl
    · rw [decide_eq_true (show distI q e ≤ r * r by omega)]; simp
  · split at h
    · rename_i k
      simp only [Bool.and_eq_true] at k
      rw [liIn_has hq k.1.1, outI_mono n k.1.2, insI_mono m k.2]; simp
    · split at h
      · cases h
      · split at h <;> cases h
theorem ring_out {b : B4} {q c a e : P2} {r : Int} (hq : hasI b q) (h : ringCl b c a e r = 0) : ringI q c a e r = false := by
  have n := near_le (p := c) hq; have m := most_ge (p := c) hq
  have na := near_le (p := a) hq; have ne_ := near_le (p := e) hq
  rw [distI_comm] at n m na ne_
  unfold ringCl at h; unfold ringI
  split at h
  · cases h
  · split at h
    · cases h
    · split at h
      · cases h
      · rename_i k
        split at h
        · rename_i z
          rw [decide_eq_false (show ¬ distI q a ≤ r * r by omega), decide_eq_false (show ¬ distI q e ≤ r * r by omega)]
          simp only [Bool.or_eq_true, Bool.not_eq_true'] at z
          simp only [Bool.false_or, Bool.and_eq_false_iff]
          rcases z with (z | z) | z
          · exact .inl (.inl (liOff_has hq z))
          · refine .inr ?_
            rw [Bool.eq_false_iff] at z ⊢
            exact fun y => z (insI_mono n y)
          · refine .inl (.inr ?_)
            rw [Bool.eq_false_iff] at z ⊢
            exact fun y => z (outI_mono m y)
        · cases h
theorem ringCl_012 (b : B4) (c a e : P2) (r : Int) : ringCl b c a e r = 0 ∨ ringCl b c a e r = 1 ∨ ringCl b c a e r = 2 := by
  unfold ringCl; split
  · simp
  · split
    · simp
    · split
      · simp
      · split <;> simp
def ringSure0 (b : B4) (c a e : P2) (r x y : Int) : Bool :=
  let k := ringClass b c a e r
  let i := ringHas (lIn b x y) c a e r
  andB (andB (andB (andB (orB (k != 2) i) (orB (k != 0) (!i))) (decide (k ≥ 0))) (decide (k ≤ 2))) true
def ringSure (b : B4) (c : P2) (r f t s x y : Int) (small : Bool) : Bool :=
  bif small then ringSure0 (lSmall (lBox b)) (arcC c small) (arcAt c f s small) (arcAt c t s small) (lSmR (lR r) 30) x y else ringSure0 (lBox b) (arcC c small) (arcAt c f s small) (arcAt c t s small) (lR r) x y
theorem most_far {b : B4} {c : P2} (hx0 : -536870912 ≤ b.x0) (hx : b.x0 ≤ b.x1) (hx1 : b.x1 ≤ 536870912) (hy0 : -536870912 ≤ b.y0) (hy : b.y0 ≤ b.y1) (hy1 : b.y1 ≤ 536870912) (hc : (-400000000 ≤ c.x ∧ c.x ≤ 400000000) ∧ (-400000000 ≤ c.y ∧ c.y ≤ 400000000)) : mostI b c ≤ 4000000000000000000 := by
  have e : ∀ v lo hi : Int, -400000000 ≤ v → v ≤ 400000000 → -536870912 ≤ lo → lo ≤ hi → hi ≤ 536870912 → reachI v lo hi * reachI v lo hi ≤ 1000000000 * 1000000000 := fun v lo hi a b c d f =>
    (sq_bd (A := 1000000000) (by unfold reachI; omega) (by unfold reachI; omega)).2
  have a1 := e c.x b.x0 b.x1 hc.1.1 hc.1.2 hx0 hx hx1
  have a2 := e c.y b.y0 b.y1 hc.2.1 hc.2.2 hy0 hy hy1
  unfold mostI; omega
theorem arc_facts (c : P2) (f s : Int) (sm : Bool) : PR (arcAt c f s sm) ∧ distI (arcAt c f s sm) (arcC c sm) = 25 * (arcK s sm * arcK s sm) ∧ 1 ≤ arcK s sm * arcK s sm ∧ arcK s sm * arcK s sm ≤ 400000000000000 := by
  rw [arcAt_eq]
  have k := arcK_bd s sm
  have o := onC_r (arcC_r c sm) k (circ_ok f)
  have q := sq_bd (A := 20000000) (x := arcK s sm) (by omega) k.2
  have p := Int.mul_pos (show 0 < arcK s sm by omega) (show 0 < arcK s sm by omega)
  exact ⟨o.1, o.2, by omega, by omega⟩
theorem arc_okI (c : P2) (f t s : Int) (sm : Bool) : okI (arcC c sm) (arcAt c f s sm) (arcAt c t s sm) := by
  have a := arc_facts c f s sm; have b := arc_facts c t s sm
  unfold okI; omega
theorem ringSure0_true {b : B4} (c : P2) (f t s : Int) (sm : Bool) {r : Int} (x y : Int) (hb : Fits b) (h4 : 1 ≤ r) (h5 : r ≤ 1073741824) : ringSure0 b (arcC c sm) (arcAt c f s sm) (arcAt c t s sm) r x y = true := by
  have hB : BR b := ⟨⟨by have := hb.x0; omega, by have := hb.x; have := hb.x1; omega⟩, ⟨by have := hb.y0; omega, by have := hb.y; have := hb.y1; omega⟩, ⟨by have := hb.x0; have := hb.x; omega, by have := hb.x1; omega⟩, ⟨by have := hb.y0; have := hb.y; omega, by have := hb.y1; omega⟩⟩
  have hq := (lIn_has x y hB hb.x hb.y).1
  have hQ := PR_has hB hq
  have hc := arcC_r c sm
  have hC : PR (arcC c sm) := PR_of hc (by decide)
  have a := arc_facts c f s sm; have e := arc_facts c t s sm
  have ok := arc_okI c f t s sm
  have mf := most_far hb.x0 hb.x hb.x1 hb.y0 hb.y hb.y1 hc
  have hd := most_ge (p := arcC c sm) hq
  rw [distI_comm] at hd
  unfold ringSure0
  dsimp only
  rw [ringClass_eq hB hC a.1 e.1 ok hb.x hb.y h4 h5 mf (by omega), ringHas_eq hQ hC a.1 e.1 ok h4 h5 (by omega) (by omega)]
  have f2 : ringCl b (arcC c sm) (arcAt c f s sm) (arcAt c t s sm) r = 2 → ringI (lIn b x y) (arcC c sm) (arcAt c f s sm) (arcAt c t s sm) r = true := ring_in hq
  have f0 : ringCl b (arcC c sm) (arcAt c f s sm) (arcAt c t s sm) r = 0 → ringI (lIn b x y) (arcC c sm) (arcAt c f s sm) (arcAt c t s sm) r = false := ring_out hq
  rcases ringCl_012 b (arcC c sm) (arcAt c f s sm) (arcAt c t s sm) r with k | k | k
  · rw [k, f0 k]; rfl
  · rw [k]; rfl
  · rw [k, f2 k]; rfl
theorem ringSure_true (b : B4) (c : P2) (r f t s x y : Int) (small : Bool) : ringSure b c r f t s x y small = true := by
  have hr := lR_bd r
  unfold ringSure
  cases small
  · exact ringSure0_true c f t s false x y (lBox_fits b) hr.1 (by omega)
  · have e := lSmR_bd (r := lR r) (m := 30) (by omega) (by decide) (by decide)
    have h := lSmall_r (lBox b)
    exact ringSure0_true c f t s true x y ⟨by omega, by omega, by omega, by omega, by omega, by omega⟩ e.1 (by omega)
theorem ringSure_ok (b : B4) (c : P2) (r f t s x y : Int) (small : Bool) : CallOk Try.prog 12 [bx b, pt c, vi r, vi f, vi t, vi s, vi x, vi y, vb small] (vb true) := by
  rw [← ringSure_true b c r f t s x y small]
  exact fnOkS (fuel := 16) (tbOf_ok tbR9_ok) mo Try.func12 (by kernel_rfl) (by kernel_rfl) (by kernel_rfl) (show _ = [small = true → lInOk (lSmall (lBox b)), small = false → lInOk (lBox b)] by kernel_rfl) ⟨fun _ => lSmall_In _, fun _ => lBox_In _, trivial⟩
end Go.Proofs.Ytidgkcefjfdcbaa
