/-
  OWN WORK. Joined by merge.py: Rgn.
-/
import Derived.Test.YthnenjodighlmaaQI
/-! ## Rgn -/
namespace Go.Proofs.Ythnenjodighlmaa
open Go Go.RowKit Sym
set_option maxRecDepth 100000

def tabRh : Dyn.Tabs := Dyn.nwT (Dyn.tabsX tbF [(29, en0R (rB true))] [(31, enCovP)] drMt dtyG false) nwM
theorem tabRh_ok : Dyn.TabsOk Try.prog tabRh := Dyn.nwT_ok (Dyn.tabsX_ok tbF_ok (List.forall_mem_cons.2 ⟨en0R_ok awake23, fun _ h => by cases h⟩) (List.forall_mem_cons.2 ⟨enCovP_ok, fun _ h => by cases h⟩)) nwM_ok
def hvD (d : Int) : Int := W (band d 3 + 1)
def hvN (d : Int) : Int := shlI 1 (hvD d)
def hvK (z : Int) : Int := W (band z 255 + 2)
def hvE (d a z : Int) : Int := W ((band a 255).tmod (W (hvN d + 1)) * hvK z)
def hvY (d z : Int) : Int := W (W (hvN d * hvK z) + 9)
def hvL (e y : Int) : Shp := p4L ⟨-9, -9⟩ ⟨e, -9⟩ ⟨e, y⟩ ⟨-9, y⟩
def hvR (e y : Int) : Dyn.DC := .row 1 (p4R ⟨-9, -9⟩ ⟨e, -9⟩ ⟨e, y⟩ ⟨-9, y⟩)
def hvB (m : Int) : B4 := ⟨0, 0, m, m⟩
def hvV (r : ExR) (a n : Int) : Bool :=
  bif bif r.e == 0 then (bif r.lo == (bif a == n then W (W (n - 1) * n) else W (imax (W (a - 1)) 0 * n)) then bif r.hi == W (imin (W (a + 1)) n * n) then true else false else false) else false then true else false
def hvO (D N K E Y : Int) : Dyn.RO :=
  .side [0 ≤ IntKind.u64.wrap D] (.side [W (N + 1) ≠ 0] (.side [0 ≤ D ∧ D ≤ 6, DLe (hvR E Y) (hvR E Y)] (.side [K ≠ 0] (.leaf (rB (hvV (coverF (capM 100000) D (hvL E Y) (hvB (W (N * K))) 0) (W (E.tdiv K)) N))))))
theorem hv_O (d a z : Int) : (Dyn.dfun Try.prog tabRh Dyn.noLp 6 Try.f9 [dvI d, dvI a, dvI z]).ro Try.prog Try.f9.results = hvO (hvD d) (hvN d) (hvK z) (hvE d a z) (hvY d z) := by kernel_rfl
/-! ### plain: the polygon from -9 to e -/
def hvC (e y : Int) : Ctr := p4C ⟨-9, -9⟩ ⟨e, -9⟩ ⟨e, y⟩ ⟨-9, y⟩
def hvS (e y : Int) : Shp := p4S ⟨-9, -9⟩ ⟨e, -9⟩ ⟨e, y⟩ ⟨-9, y⟩
theorem touch4 (s : B4) (a b c d : P2) : touchI s (p4C a b c d) = (false || ((((false || meetsI s a b) || meetsI s b c) || meetsI s c d) || meetsI s d a)) := by kernel_rfl
theorem odd4 (p : P2) (a b c d : P2) : oddI p (p4C a b c d) = xor false (xor (xor (xor (xor false (crossesI p a b)) (crossesI p b c)) (crossesI p c d)) (crossesI p d a)) := by kernel_rfl
theorem sep_meets {b : B4} {p q : P2} (h : sepI b p q = true) : meetsI b p q = false := by unfold meetsI; rw [h]; rfl
structure HvB (e y : Int) (b : B4) : Prop where
  e0 : 0 ≤ e
  x0 : 0 ≤ b.x0
  x : b.x0 ≤ b.x1
  y0 : 0 ≤ b.y0
  yy : b.y0 ≤ b.y1
  y1 : b.y1 + 9 ≤ y
theorem hv_touch {e y : Int} {b : B4} (h : HvB e y b) : touchI b (hvC e y) = decide (b.x0 ≤ e ∧ e ≤ b.x1) := by
  obtain ⟨h1, h2, h3, h4, h5, h6⟩ := h
  have m1 : meetsI b ⟨-9, -9⟩ ⟨e, -9⟩ = false := sep_meets (by unfold sepI; simp only [Bool.or_eq_true, decide_eq_true_eq]; left; right; omega)
  have m3 : meetsI b ⟨e, y⟩ ⟨-9, y⟩ = false := sep_meets (by unfold sepI; simp only [Bool.or_eq_true, decide_eq_true_eq]; right; omega)
  have m4 : meetsI b ⟨-9, y⟩ ⟨-9, -9⟩ = false := sep_meets (by unfold sepI; simp only [Bool.or_eq_true, decide_eq_true_eq]; left; left; left; omega)
  unfold hvC
  rw [touch4, m1, m3, m4]
  simp only [Bool.false_or, Bool.or_false]
  by_cases k : b.x0 ≤ e ∧ e ≤ b.x1
  · rw [decide_eq_true k]
    refine meets_two (p := ⟨b.x1, b.y0⟩) (q := ⟨b.x0, b.y0⟩) ⟨h3, Int.le_refl _, Int.le_refl _, h5⟩ ⟨Int.le_refl _, h3, Int.le_refl _, h5⟩ ?_ ?_ (sep_no (by dsimp only; omega) (by dsimp only; omega) (by dsimp only; omega) (by dsimp only; omega))
    · exact right_of (by dsimp only; omega) (by dsimp only; omega) k.2 k.2
    · have e1 : crossI ⟨e, -9⟩ ⟨e, y⟩ ⟨b.x0, b.y0⟩ = (y + 9) * (e - b.x0) := by unfold crossI; dsimp only; grind
      rw [e1]
      exact Int.mul_nonneg (by omega) (by omega)
  · rw [decide_eq_false k]
    refine sep_meets ?_
    unfold sepI
    simp only [Bool.or_eq_true, decide_eq_true_eq]
    by_cases k1 : e < b.x0
    · left; left; left; omega
    · left; left; right; omega
theorem hv_odd {e y : Int} {b : B4} (h : HvB e y b) : oddI ⟨b.x0, b.y0⟩ (hvC e y) = decide (b.x0 < e) := by
  obtain ⟨h1, h2, h3, h4, h5, h6⟩ := h
  unfold hvC
  rw [odd4, crossesI_h, crossesI_v, crossesI_h, crossesI_v]
  rw [decide_eq_false (show ¬ (min y (-9) ≤ (⟨b.x0, b.y0⟩ : P2).y ∧ (⟨b.x0, b.y0⟩ : P2).y < max y (-9) ∧ (⟨b.x0, b.y0⟩ : P2).x < -9) by dsimp only; omega)]
  simp only [Bool.false_xor, Bool.xor_false]
  exact decide_eq_decide.2 (by first | omega | (dsimp only; omega))
def HvE (e y : Int) : Prop := 0 ≤ e ∧ e ≤ 10000 ∧ 0 ≤ y ∧ y ≤ 10000
theorem hv_fine {e y : Int} (h : HvE e y) : Fine (PB 10000) (hvS e y) 2 := by
  obtain ⟨h1, h2, h3, h4⟩ := h
  refine .inr (.inr (.inr (.inr (.inl ⟨rfl, rfl, rfl, rfl, rfl, rfl, show 1 ≤ 4 by decide, fun i _ => ⟨show 4 ≤ 12 by decide, fun k hk => ?_⟩⟩))))
  have hk : k < 4 := hk
  rcases (show k = 0 ∨ k = 1 ∨ k = 2 ∨ k = 3 by omega) with rfl | rfl | rfl | rfl
  · show PB 10000 ⟨-9, -9⟩; unfold PB; dsimp only; omega
  · show PB 10000 ⟨e, -9⟩; unfold PB; dsimp only; omega
  · show PB 10000 ⟨e, y⟩; unfold PB; dsimp only; omega
  · show PB 10000 ⟨-9, y⟩; unfold PB; dsimp only; omega
theorem hv_ok {e y : Int} (h : HvE e y) : okS (hvS e y) = true := (fine_valid (fun p hp => PB_near (by decide) hp) _ 2 0 1000 (hv_fine h) (by decide) (by decide) (by decide) (by decide) (by decide)).1
theorem hv_prc {e y : Int} (h : HvE e y) : PRC (hvC e y) := by
  obtain ⟨h1, h2, h3, h4⟩ := h
  refine ⟨fun i _ k hk => ?_⟩
  have hk : k < 4 := hk
  rcases (show k = 0 ∨ k = 1 ∨ k = 2 ∨ k = 3 by omega) with rfl | rfl | rfl | rfl
  · exact PB_R (show PB FF ⟨-9, -9⟩ by unfold PB FF; dsimp only; omega)
  · exact PB_R (show PB FF ⟨e, -9⟩ by unfold PB FF; dsimp only; omega)
  · exact PB_R (show PB FF ⟨e, y⟩ by unfold PB FF; dsimp only; omega)
  · exact PB_R (show PB FF ⟨-9, y⟩ by unfold PB FF; dsimp only; omega)
theorem hv_figC {e y : Int} (h : HvE e y) (b : B4) : figClassC (hvS e y) b = polyClassF b (hvC e y) := by unfold figClassC; rw [hv_ok h]; rfl
theorem hv_cls {e y : Int} {b : B4} (h : HvE e y) (hb : HvB e y b) (hf : Fits b) : pClassC (hvL e y) b = if b.x0 ≤ e ∧ e ≤ b.x1 then 1 else if b.x0 < e then 2 else 0 := by
  have hh : boxHas b ⟨b.x0, b.y0⟩ = true := (boxHas_eq _ _).2 ⟨Int.le_refl _, hb.x, Int.le_refl _, hb.yy⟩
  have pr : PR ⟨b.x0, b.y0⟩ := PB_R (by have := hf.x0; have := hf.x; have := hf.x1; have := hf.y0; have := hf.y; have := hf.y1; unfold PB FF; dsimp only; omega)
  show foldF 0 (figClassC (hvS e y) b) true = _
  rw [hv_figC h]
  unfold polyClassF
  rw [touchF_eq (fitsBR hf) hb.x hb.yy (hv_prc h), oddF_eq pr (hv_prc h), hv_touch hb, hv_odd hb, hh]
  by_cases k : b.x0 ≤ e ∧ e ≤ b.x1
  · rw [decide_eq_true k, if_pos k]; rfl
  · rw [decide_eq_false k, if_neg k]
    by_cases k2 : b.x0 < e
    · rw [decide_eq_true k2, if_pos k2]; rfl
    · rw [decide_eq_false k2, if_neg k2]; rfl
theorem hv_good {e y : Int} (h : HvE e y) : GoodO (hvL e y) := by
  have eB : figBndC (hvS e y) = bndF (hvS e y) := by unfold figBndC; rw [hv_ok h, cond_true]
  have eC : ∀ b, figClassC (hvS e y) b = classF (hvS e y) b := fun b => by unfold figClassC; rw [hv_ok h, Bool.not_true, cond_false]
  refine ⟨fun i _ b q hs hb hq => ?_, fun i _ h0 b hb => ?_, fun i _ hh b hb ha q hs hq => ?_⟩
  · show Ref (figClassC (hvS e y) b) (figClassC (hvS e y) q)
    rw [hv_figC h, hv_figC h]
    exact ref_poly hs (fitsBR hb) (fitsBR hq) (hv_prc h)
  · have h0 : (figBndC (hvS e y)).2 = false := h0
    show figClassC (hvS e y) b = 0
    rw [eB] at h0
    rw [eC]
    exact none_off (B := 10000) (by decide) hb _ _ (hv_fine h) h0
  · have hh : hbF (hvS e y) = false := hh
    have ha : apart (figBndC (hvS e y)).1 b = true := ha
    show figClassC (hvS e y) q = 0
    rw [eB] at ha
    rw [eC]
    exact free_off (B := 10000) (by decide) hq _ _ (hv_fine h) hh fun h2 => Off.box hs (apart_off ((fine_bnd (B := 10000) (by decide) _ _ (hv_fine h)).2 h2) hb ha)
/-! ### plain: the count -/
def clI (q t : Int) : Int := if t < 0 then 0 else if q < t then q else t
theorem cl_sum {q t : Int} (hq : 0 ≤ q) : clI q t + clI q (t - q) = clI (2 * q) t := by
  unfold clI
  repeat' split
  all_goals omega
def twoI (d : Nat) : Int := ((2 ^ d : Nat) : Int)
theorem two_s (d : Nat) : twoI (d + 1) = 2 * twoI d := by unfold twoI; rw [Nat.pow_succ]; omega
theorem two_p : ∀ d, 1 ≤ twoI d
  | 0 => by decide
  | d + 1 => by have := two_p d; rw [two_s]; omega
theorem cells_two : ∀ d, cellsN d = twoI d * twoI d
  | 0 => by decide
  | d + 1 => by rw [cells_step, two_s, cells_two d]; grind
theorem ltk {k u v : Int} (hk : 1 ≤ k) : u * k < v * k ↔ u < v := ⟨fun h => Int.lt_of_mul_lt_mul_right h (by omega), fun h => Int.mul_lt_mul_of_pos_right h (by omega)⟩
theorem lek {k u v : Int} (hk : 1 ≤ k) : u * k ≤ v * k ↔ u ≤ v := ⟨fun h => Int.le_of_mul_le_mul_right h (by omega), fun h => Int.mul_le_mul_of_nonneg_right h (by omega)⟩
theorem hv_count {k a y : Int} (hk : 1 ≤ k) (hE : HvE (a * k) y) (h0 : 0 ≤ a * k) : ∀ d b X V, Dv d b → b.x0 = X * k → b.x1 = (X + twoI d) * k → b.y0 = V * k → b.y1 = (V + twoI d) * k → 0 ≤ b.x0 → 0 ≤ b.y0 → b.y1 + 9 ≤ y →
    cnN (pClassC (hvL (a * k) y)) d b = (twoI d * clI (twoI d) (a - 1 - X), twoI d * clI (twoI d) (a + 1 - X)) := by
  have cls : ∀ d b X V, Dv d b → b.x0 = X * k → b.x1 = (X + twoI d) * k → b.y0 = V * k → b.y1 = (V + twoI d) * k → 0 ≤ b.x0 → 0 ≤ b.y0 → b.y1 + 9 ≤ y →
      pClassC (hvL (a * k) y) b = if X ≤ a ∧ a ≤ X + twoI d then 1 else if X < a then 2 else 0 := fun d b X V hd e0 e1 e2 e3 p0 p1 p2 => by
    have hf := hd.1
    rw [hv_cls hE ⟨h0, p0, hf.x, p1, hf.y, p2⟩ hf, e0, e1]
    have i1 := @lek k X a hk
    have i2 := @lek k a (X + twoI d) hk
    have i3 := @ltk k X a hk
    by_cases c1 : X ≤ a ∧ a ≤ X + twoI d
    · rw [if_pos c1, if_pos ⟨i1.2 c1.1, i2.2 c1.2⟩]
    · rw [if_neg c1, if_neg (fun h => c1 ⟨i1.1 h.1, i2.1 h.2⟩)]
      by_cases c2 : X < a
      · rw [if_pos c2, if_pos (i3.2 c2)]
      · rw [if_neg c2, if_neg (fun h => c2 (i3.1 h))]
  intro d
  induction d with
  | zero =>
    intro b X V hd e0 e1 e2 e3 p0 p1 p2
    have c := cls 0 b X V hd e0 e1 e2 e3 p0 p1 p2
    have t0 : twoI 0 = 1 := by decide
    unfold cnN
    rw [c, t0, show cellsN 0 = 1 from rfl]
    by_cases c1 : X ≤ a ∧ a ≤ X + 1
    · rw [if_pos c1]
      show ((0 : Int), (1 : Int)) = _
      unfold clI
      refine Prod.ext ?_ ?_
      · dsimp only; repeat' split
        all_goals omega
      · dsimp only; repeat' split
        all_goals omega
    · rw [if_neg c1]
      by_cases c2 : X < a
      · rw [if_pos c2]
        show ((1 : Int), (1 : Int)) = _
        unfold clI
        refine Prod.ext ?_ ?_
        · dsimp only; repeat' split
          all_goals omega
        · dsimp only; repeat' split
          all_goals omega
      · rw [if_neg c2]
        show ((0 : Int), (0 : Int)) = _
        unfold clI
        refine Prod.ext ?_ ?_
        · dsimp only; repeat' split
          all_goals omega
        · dsimp only; repeat' split
          all_goals omega
  | succ d ih =>
    intro b X V hd e0 e1 e2 e3 p0 p1 p2
    have c := cls (d + 1) b X V hd e0 e1 e2 e3 p0 p1 p2
    have tp := two_p d
    have ts := two_s d
    rw [show cnN (pClassC (hvL (a * k) y)) (d + 1) b = bif pClassC (hvL (a * k) y) b == 0 then (0, 0) else bif pClassC (hvL (a * k) y) b == 2 then (cellsN (d + 1), cellsN (d + 1)) else add4 fun i => cnN (pClassC (hvL (a * k) y)) d (spB b i) from rfl, c]
    by_cases c1 : X ≤ a ∧ a ≤ X + twoI (d + 1)
    · rw [if_pos c1]
      show (add4 fun i => cnN (pClassC (hvL (a * k) y)) d (spB b i)) = _
      obtain ⟨mx, my, ⟨x1, x2⟩, ⟨y1, y2⟩, s0, s1, s2, s3⟩ := hd.half
      have ex : mx = (X + twoI d) * k := by
        have : 2 * mx = 2 * ((X + twoI d) * k) := by rw [x2, e0, e1, ts]; grind
        omega
      have ey : my = (V + twoI d) * k := by
        have : 2 * my = 2 * ((V + twoI d) * k) := by rw [y2, e2, e3, ts]; grind
        omega
      have ex1 : b.x1 = (X + twoI d + twoI d) * k := by rw [e1, ts, show X + 2 * twoI d = X + twoI d + twoI d by omega]
      have ey1 : b.y1 = (V + twoI d + twoI d) * k := by rw [e3, ts, show V + 2 * twoI d = V + twoI d + twoI d by omega]
      have hy := hd.1.y
      have q0 := ih (spB b 0) X V (hd.sub 0).1 (by rw [s0]; exact e0) (by rw [s0]; exact ex) (by rw [s0]; exact e2) (by rw [s0]; exact ey) (by rw [s0]; exact p0) (by rw [s0]; exact p1) (by rw [s0]; dsimp only; omega)
      have q1 := ih (spB b 1) (X + twoI d) V (hd.sub 1).1 (by rw [s1]; exact ex) (by rw [s1]; exact ex1) (by rw [s1]; exact e2) (by rw [s1]; exact ey) (by rw [s1]; dsimp only; omega) (by rw [s1]; exact p1) (by rw [s1]; dsimp only; omega)
      have q2 := ih (spB b 2) X (V + twoI d) (hd.sub 2).1 (by rw [s2]; exact e0) (by rw [s2]; exact ex) (by rw [s2]; exact ey) (by rw [s2]; exact ey1) (by rw [s2]; exact p0) (by rw [s2]; dsimp only; omega) (by rw [s2]; exact p2)
      have q3 := ih (spB b 3) (X + twoI d) (V + twoI d) (hd.sub 3).1 (by rw [s3 0]; exact ex) (by rw [s3 0]; exact ex1) (by rw [s3 0]; exact ey) (by rw [s3 0]; exact ey1) (by rw [s3 0]; dsimp only; omega) (by rw [s3 0]; dsimp only; omega) (by rw [s3 0]; exact p2)
      unfold add4
      dsimp only
      rw [q0, q1, q2, q3, ts]
      have k1 := cl_sum (q := twoI d) (t := a - 1 - X) (by omega)
      have k2 := cl_sum (q := twoI d) (t := a + 1 - X) (by omega)
      rw [← k1, ← k2, show a - 1 - (X + twoI d) = a - 1 - X - twoI d by omega, show a + 1 - (X + twoI d) = a + 1 - X - twoI d by omega]
      refine Prod.ext ?_ ?_
      · dsimp only; grind
      · dsimp only; grind
    · rw [if_neg c1]
      by_cases c2 : X < a
      · rw [if_pos c2]
        show (cellsN (d + 1), cellsN (d + 1)) = _
        rw [cells_two, show clI (twoI (d + 1)) (a - 1 - X) = twoI (d + 1) by (unfold clI; repeat' split) <;> omega, show clI (twoI (d + 1)) (a + 1 - X) = twoI (d + 1) by (unfold clI; repeat' split) <;> omega]
      · rw [if_neg c2]
        show ((0 : Int), (0 : Int)) = _
        rw [show clI (twoI (d + 1)) (a - 1 - X) = 0 by (unfold clI; repeat' split) <;> omega, show clI (twoI (d + 1)) (a + 1 - X) = 0 by (unfold clI; repeat' split) <;> omega, Int.mul_zero]
theorem rastHalves_ok (d a z : Int) : Dyn.CallD Try.prog 9 [dvI d, dvI a, dvI z] (rB true) := by
  refine Dyn.dcontract (lp := Dyn.noLp) (fuel := 6) tabRh_ok mo Try.func9 (by kernel_rfl) (c := bodyD Try.f9.body) (by kernel_rfl) (fun w0 => Dyn.noLp_ok _ w0) (by kernel_rfl) (hv_O d a z) ?_
  have b1 : 0 ≤ band d 3 ∧ band d 3 ≤ 3 := bandLe d 3 (by decide)
  have b2 : 0 ≤ band a 255 ∧ band a 255 ≤ 255 := bandLe a 255 (by decide)
  have b3 : 0 ≤ band z 255 ∧ band z 255 ≤ 255 := bandLe z 255 (by decide)
  obtain ⟨D, hD, eD⟩ : ∃ D : Nat, (1 ≤ D ∧ D ≤ 4) ∧ hvD d = (D : Int) := ⟨(band d 3 + 1).toNat, by omega, by unfold hvD; rw [W_id (by omega) (by omega)]; omega⟩
  have eN : hvN d = twoI D := by
    unfold hvN
    rw [eD, shl_eq (by omega) (by decide) (by decide), Int.one_mul]; rfl
  have pN : 2 ≤ twoI D ∧ twoI D ≤ 16 := by
    rcases (show D = 1 ∨ D = 2 ∨ D = 3 ∨ D = 4 by omega) with rfl | rfl | rfl | rfl <;> decide
  have eK : hvK z = band z 255 + 2 := by unfold hvK; exact W_id (by omega) (by omega)
  obtain ⟨K, hK, eK'⟩ : ∃ K : Int, (2 ≤ K ∧ K ≤ 257) ∧ hvK z = K := ⟨_, by omega, eK⟩
  obtain ⟨t, ht, et⟩ : ∃ t : Int, (0 ≤ t ∧ t ≤ twoI D) ∧ hvE d a z = t * K := by
    have e1 : W (hvN d + 1) = twoI D + 1 := by rw [eN]; exact W_id (by omega) (by omega)
    have e2 : (band a 255).tmod (twoI D + 1) = band a 255 % (twoI D + 1) := Int.tmod_eq_emod_of_nonneg b2.1
    have e3 := Int.emod_nonneg (band a 255) (show twoI D + 1 ≠ 0 by omega)
    have e4 := Int.emod_lt_of_pos (band a 255) (show 0 < twoI D + 1 by omega)
    refine ⟨band a 255 % (twoI D + 1), by omega, ?_⟩
    unfold hvE
    rw [e1, e2, eK']
    have m1 : 0 ≤ band a 255 % (twoI D + 1) * K := Int.mul_nonneg e3 (by omega)
    have m2 : band a 255 % (twoI D + 1) * K ≤ 16 * 257 := Int.mul_le_mul (by omega) hK.2 (by omega) (by omega)
    exact W_id (by omega) (by omega)
  have mNK : twoI D * K ≤ 16 * 257 := Int.mul_le_mul pN.2 hK.2 (by omega) (by omega)
  have mNK0 : 4 ≤ twoI D * K := Int.mul_le_mul pN.1 hK.1 (by omega) (by omega)
  have mE : t * K ≤ 16 * 257 := Int.mul_le_mul (by omega) hK.2 (by omega) (by omega)
  have mE0 : 0 ≤ t * K := Int.mul_nonneg ht.1 (by omega)
  have eY : hvY d z = twoI D * K + 9 := by
    unfold hvY
    rw [eN, eK', W_id (x := twoI D * K) (by omega) (by omega), W_id (by omega) (by omega)]
  rw [eD, eN, eK', et, eY]
  unfold hvO
  have eNK : W (twoI D * K) = twoI D * K := W_id (by omega) (by omega)
  have eA : W ((t * K).tdiv K) = t := by rw [Int.mul_tdiv_cancel _ (by omega)]; exact W_id (by omega) (by omega)
  rw [eNK, eA]
  have hE : HvE (t * K) (twoI D * K + 9) := by unfold HvE; omega
  have dv : Dv D (hvB (twoI D * K)) := ⟨⟨by unfold hvB; dsimp only; omega, by unfold hvB; dsimp only; omega, by unfold hvB; dsimp only; omega, by unfold hvB; dsimp only; omega, by unfold hvB; dsimp only; omega, by unfold hvB; dsimp only; omega⟩, K, K, by omega, by omega, by show twoI D * K - 0 = K * twoI D; rw [Int.mul_comm]; omega, by show twoI D * K - 0 = K * twoI D; rw [Int.mul_comm]; omega⟩
  have st := st_bd D (by omega)
  have ok := coverF_ok (most := capM 100000) (D := D) (by omega) (by decide) (hv_good hE) dv (Int.le_trans st (by decide))
  rw [hv_count (k := K) (a := t) (by omega) hE mE0 D (hvB (twoI D * K)) 0 0 dv (by show (0 : Int) = 0 * K; rw [Int.zero_mul]) (by show twoI D * K = (0 + twoI D) * K; rw [Int.zero_add]) (by show (0 : Int) = 0 * K; rw [Int.zero_mul]) (by show twoI D * K = (0 + twoI D) * K; rw [Int.zero_add]) (Int.le_refl _) (Int.le_refl _) (by show twoI D * K + 9 ≤ _; omega)] at ok
  refine ⟨⟨u64_pos _, trivial⟩, ⟨by rw [W_id (by omega) (by omega)]; omega, trivial⟩, ⟨by omega, .refl _, trivial⟩, ⟨by omega, trivial⟩, ?_⟩
  have sq : ∀ v : Int, 0 ≤ v ∧ v ≤ 16 → 0 ≤ v * twoI D ∧ v * twoI D ≤ 256 := fun v hv => ⟨Int.mul_nonneg hv.1 (by omega), by have := Int.mul_le_mul hv.2 pN.2 (by omega) (show (0:Int) ≤ 16 by omega); omega⟩
  have lo : (bif t == twoI D then W (W (twoI D - 1) * twoI D) else W (imax (W (t - 1)) 0 * twoI D)) = twoI D * clI (twoI D) (t - 1 - 0) := by
    have w1 : W (t - 1) = t - 1 := W_id (by omega) (by omega)
    have w2 : W (twoI D - 1) = twoI D - 1 := W_id (by omega) (by omega)
    rw [w1, w2]
    by_cases c : t = twoI D
    · rw [show (t == twoI D) = true by simpa using c, show clI (twoI D) (t - 1 - 0) = twoI D - 1 by (unfold clI; repeat' split) <;> omega, Int.mul_comm (twoI D) (twoI D - 1)]
      have := sq (twoI D - 1) (by omega)
      exact W_id (by omega) (by omega)
    · rw [show (t == twoI D) = false by simpa using c, show imax (t - 1) 0 = clI (twoI D) (t - 1 - 0) by (unfold clI imax; repeat' split) <;> omega, Int.mul_comm (twoI D)]
      have := sq (clI (twoI D) (t - 1 - 0)) (by (unfold clI; repeat' split) <;> omega)
      exact W_id (by omega) (by omega)
  have hi : W (imin (W (t + 1)) (twoI D) * twoI D) = twoI D * clI (twoI D) (t + 1 - 0) := by
    rw [W_id (x := t + 1) (by omega) (by omega), show imin (t + 1) (twoI D) = clI (twoI D) (t + 1 - 0) by (unfold clI imin; repeat' split) <;> omega, Int.mul_comm (twoI D)]
    have := sq (clI (twoI D) (t + 1 - 0)) (by (unfold clI; repeat' split) <;> omega)
    exact W_id (by omega) (by omega)
  unfold hvV
  rw [lo, hi, ok.e, ok.lo, ok.hi]
  simp only [beq_self_eq_true, cond_true]
  exact ro_leaf rfl
end Go.Proofs.Ythnenjodighlmaa
