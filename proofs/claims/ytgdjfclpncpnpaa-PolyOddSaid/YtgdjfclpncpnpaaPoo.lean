/-
  OWN WORK. The law PolyOdd.
-/
import Derived.Test.YtgdjfclpncpnpaaPoi
namespace Go.Proofs.Ytgdjfclpncpnpaa
open Go Go.RowKit Sym

def rowX (b : B4) : Dyn.DC := litRow [litP b.x0 b.y0, litP b.x1 b.y0, litP b.x1 b.y1, litP b.x0 b.y1]
def rowY (b : B4) : Dyn.DC := litRow [litP b.x0 b.y1, litP b.x1 b.y1, litP b.x1 b.y0, litP b.x0 b.y0]
def poF1 (a : B4) : Nat → List Dyn.DC := Dyn.pickL 0 [[rowX a]]
def poF2 (a : B4) : Nat → List Dyn.DC := Dyn.pickL 0 [[rowX a], [rowX a]]
def poF3 (a b : B4) : Nat → List Dyn.DC := Dyn.pickL 0 [[rowX a], [rowY b]]
def edgeF (a : B4) (p : P2) : Bool := bif rBoxHas a p then (bif (bif (bif p.x == a.x0 then true else p.x == a.x1) then true else p.y == a.y0) then true else p.y == a.y1) else false
def poC1 (a : B4) (p : P2) : Bool := polyHasF p (ctrOf 1 (poF1 a)) == rBoxHas a p
def poC2 (a : B4) (p : P2) : Bool := polyHasF p (ctrOf 2 (poF2 a)) == edgeF a p
def poC3 (a b : B4) (p : P2) : Bool := polyHasF p (ctrOf 2 (poF3 a b)) == (bif (bif edgeF a p then true else edgeF b p) then true else !(rBoxHas a p == rBoxHas b p))
def poO (a b : B4) (p : P2) : Dyn.RO :=
  .ite (poC1 a p)
    (.ite (poC2 a p)
      (.side [CtrB (ctrOf 1 (poF1 a)), ctrIs 1 (poF1 a), poC1 a p = true, CtrB (ctrOf 2 (poF2 a)), ctrIs 2 (poF2 a), poC2 a p = true, CtrB (ctrOf 2 (poF3 a b)), ctrIs 2 (poF3 a b)] (.leaf (rB (bif poC3 a b p then true else false))))
      (.side [CtrB (ctrOf 1 (poF1 a)), ctrIs 1 (poF1 a), poC1 a p = true, CtrB (ctrOf 2 (poF2 a)), ctrIs 2 (poF2 a), poC2 a p = false] (.leaf (rB (bif false then true else false)))))
    (.ite false
      (.side [CtrB (ctrOf 1 (poF1 a)), ctrIs 1 (poF1 a), poC1 a p = false, false = true, CtrB (ctrOf 2 (poF3 a b)), ctrIs 2 (poF3 a b)] (.leaf (rB (bif poC3 a b p then true else false))))
      (.side [CtrB (ctrOf 1 (poF1 a)), ctrIs 1 (poF1 a), poC1 a p = false, false = false] (.leaf (rB (bif false then true else false)))))
theorem po_O (a b : B4) (p : P2) : (Dyn.dfun Try.prog tabS Dyn.noLp 3 Try.f12 [dvX a, dvX b, dvP p]).ro Try.prog Try.f12.results = .side [W (30 + 1) ≠ 0] (poO (lSmall a) (lSmall b) (lClose p 30)) := by kernel_rfl
/-! ### the plain law -/
def t4 (f : P2 → P2 → Bool) (a b c d : P2) : Bool := (((false || f a b) || f b c) || f c d) || f d a
def o4 (f : P2 → P2 → Bool) (a b c d : P2) : Bool := xor (xor (xor (xor false (f a b)) (f b c)) (f c d)) (f d a)
theorem touch1 (s : B4) (a : B4) : touchF s (ctrOf 1 (poF1 a)) = (false || t4 (meets s) ⟨a.x0, a.y0⟩ ⟨a.x1, a.y0⟩ ⟨a.x1, a.y1⟩ ⟨a.x0, a.y1⟩) := by kernel_rfl
theorem touch2 (s : B4) (a : B4) : touchF s (ctrOf 2 (poF2 a)) = ((false || t4 (meets s) ⟨a.x0, a.y0⟩ ⟨a.x1, a.y0⟩ ⟨a.x1, a.y1⟩ ⟨a.x0, a.y1⟩) || t4 (meets s) ⟨a.x0, a.y0⟩ ⟨a.x1, a.y0⟩ ⟨a.x1, a.y1⟩ ⟨a.x0, a.y1⟩) := by kernel_rfl
theorem touch3 (s : B4) (a b : B4) : touchF s (ctrOf 2 (poF3 a b)) = ((false || t4 (meets s) ⟨a.x0, a.y0⟩ ⟨a.x1, a.y0⟩ ⟨a.x1, a.y1⟩ ⟨a.x0, a.y1⟩) || t4 (meets s) ⟨b.x0, b.y1⟩ ⟨b.x1, b.y1⟩ ⟨b.x1, b.y0⟩ ⟨b.x0, b.y0⟩) := by kernel_rfl
theorem odd1 (p : P2) (a : B4) : oddF p (ctrOf 1 (poF1 a)) = xor false (o4 (crossesF p) ⟨a.x0, a.y0⟩ ⟨a.x1, a.y0⟩ ⟨a.x1, a.y1⟩ ⟨a.x0, a.y1⟩) := by kernel_rfl
theorem odd2 (p : P2) (a : B4) : oddF p (ctrOf 2 (poF2 a)) = xor (xor false (o4 (crossesF p) ⟨a.x0, a.y0⟩ ⟨a.x1, a.y0⟩ ⟨a.x1, a.y1⟩ ⟨a.x0, a.y1⟩)) (o4 (crossesF p) ⟨a.x0, a.y0⟩ ⟨a.x1, a.y0⟩ ⟨a.x1, a.y1⟩ ⟨a.x0, a.y1⟩) := by kernel_rfl
theorem odd3 (p : P2) (a b : B4) : oddF p (ctrOf 2 (poF3 a b)) = xor (xor false (o4 (crossesF p) ⟨a.x0, a.y0⟩ ⟨a.x1, a.y0⟩ ⟨a.x1, a.y1⟩ ⟨a.x0, a.y1⟩)) (o4 (crossesF p) ⟨b.x0, b.y1⟩ ⟨b.x1, b.y1⟩ ⟨b.x1, b.y0⟩ ⟨b.x0, b.y0⟩) := by kernel_rfl
structure Sq (a : B4) : Prop where
  r : BR a
  x : a.x0 ≤ a.x1
  y : a.y0 ≤ a.y1
def edgeI (a : B4) (p : P2) : Prop := hasI a p ∧ (p.x = a.x0 ∨ p.x = a.x1 ∨ p.y = a.y0 ∨ p.y = a.y1)
instance (a : B4) (p : P2) : Decidable (edgeI a p) := by unfold edgeI hasI; infer_instance
instance (a : B4) (p : P2) : Decidable (hasI a p) := by unfold hasI; infer_instance
theorem meets_on {p a e : P2} (hp : PR p) (ha : PR a) (he : PR e) : meets (spotF p) a e = onI p a e := by
  rw [meets_eq (b := spotF p) ⟨hp.x, hp.y, hp.x, hp.y⟩ ha he (Int.le_refl _) (Int.le_refl _)]
  exact spot_meets p a e
theorem t4_up {a : B4} {p : P2} (h : Sq a) (hp : PR p) : t4 (meets (spotF p)) ⟨a.x0, a.y0⟩ ⟨a.x1, a.y0⟩ ⟨a.x1, a.y1⟩ ⟨a.x0, a.y1⟩ = decide (edgeI a p) := by
  obtain ⟨⟨r1, r2, r3, r4⟩, hx, hy⟩ := h
  unfold t4
  rw [meets_on hp ⟨r1, r2⟩ ⟨r3, r2⟩, meets_on hp ⟨r3, r2⟩ ⟨r3, r4⟩, meets_on hp ⟨r3, r4⟩ ⟨r1, r4⟩, meets_on hp ⟨r1, r4⟩ ⟨r1, r2⟩, onI_h, onI_v, onI_h, onI_v, Bool.eq_iff_iff]
  simp only [Bool.or_eq_true, decide_eq_true_eq, Bool.false_eq_true, false_or]
  unfold edgeI hasI
  omega
theorem t4_dn {a : B4} {p : P2} (h : Sq a) (hp : PR p) : t4 (meets (spotF p)) ⟨a.x0, a.y1⟩ ⟨a.x1, a.y1⟩ ⟨a.x1, a.y0⟩ ⟨a.x0, a.y0⟩ = decide (edgeI a p) := by
  obtain ⟨⟨r1, r2, r3, r4⟩, hx, hy⟩ := h
  unfold t4
  rw [meets_on hp ⟨r1, r4⟩ ⟨r3, r4⟩, meets_on hp ⟨r3, r4⟩ ⟨r3, r2⟩, meets_on hp ⟨r3, r2⟩ ⟨r1, r2⟩, meets_on hp ⟨r1, r2⟩ ⟨r1, r4⟩, onI_h, onI_v, onI_h, onI_v, Bool.eq_iff_iff]
  simp only [Bool.or_eq_true, decide_eq_true_eq, Bool.false_eq_true, false_or]
  unfold edgeI hasI
  omega
def inI (a : B4) (p : P2) : Prop := a.y0 ≤ p.y ∧ p.y < a.y1 ∧ a.x0 ≤ p.x ∧ p.x < a.x1
instance (a : B4) (p : P2) : Decidable (inI a p) := by unfold inI; infer_instance
theorem xor_dec {a b : Prop} [Decidable a] [Decidable b] : xor (decide a) (decide b) = decide ((a ∧ ¬ b) ∨ (¬ a ∧ b)) := by
  by_cases h : a <;> by_cases k : b <;> simp [h, k]
theorem o4_up {a : B4} {p : P2} (h : Sq a) (hp : PR p) : o4 (crossesF p) ⟨a.x0, a.y0⟩ ⟨a.x1, a.y0⟩ ⟨a.x1, a.y1⟩ ⟨a.x0, a.y1⟩ = decide (inI a p) := by
  obtain ⟨⟨r1, r2, r3, r4⟩, hx, hy⟩ := h
  unfold o4
  rw [crossesF_eq hp ⟨r1, r2⟩ ⟨r3, r2⟩, crossesF_eq hp ⟨r3, r2⟩ ⟨r3, r4⟩, crossesF_eq hp ⟨r3, r4⟩ ⟨r1, r4⟩, crossesF_eq hp ⟨r1, r4⟩ ⟨r1, r2⟩, crossesI_h, crossesI_v, crossesI_h, crossesI_v, Bool.eq_iff_iff]
  rw [Bool.xor_false, Bool.xor_false, Bool.false_xor, xor_dec]
  simp only [decide_eq_true_eq]
  unfold inI
  omega
theorem o4_dn {a : B4} {p : P2} (h : Sq a) (hp : PR p) : o4 (crossesF p) ⟨a.x0, a.y1⟩ ⟨a.x1, a.y1⟩ ⟨a.x1, a.y0⟩ ⟨a.x0, a.y0⟩ = decide (inI a p) := by
  obtain ⟨⟨r1, r2, r3, r4⟩, hx, hy⟩ := h
  unfold o4
  rw [crossesF_eq hp ⟨r1, r4⟩ ⟨r3, r4⟩, crossesF_eq hp ⟨r3, r4⟩ ⟨r3, r2⟩, crossesF_eq hp ⟨r3, r2⟩ ⟨r1, r2⟩, crossesF_eq hp ⟨r1, r2⟩ ⟨r1, r4⟩, crossesI_h, crossesI_v, crossesI_h, crossesI_v, Bool.eq_iff_iff]
  rw [Bool.xor_false, Bool.xor_false, Bool.false_xor, xor_dec]
  simp only [decide_eq_true_eq]
  unfold inI
  omega
theorem rBoxHas_dec (a : B4) (p : P2) : rBoxHas a p = decide (hasI a p) := by
  rw [Bool.eq_iff_iff]; unfold rBoxHas
  simp only [andB_eq, Bool.and_eq_true, decide_eq_true_eq]
  unfold hasI
  omega
theorem edgeF_dec (a : B4) (p : P2) : edgeF a p = decide (edgeI a p) := by
  rw [Bool.eq_iff_iff]; unfold edgeF
  rw [rBoxHas_dec]
  simp only [Bool.cond_true_left, Bool.cond_false_right, Bool.and_eq_true, Bool.or_eq_true, decide_eq_true_eq, beq_iff_eq]
  unfold edgeI hasI
  omega
theorem po_all {a b : B4} {p : P2} (ha : Sq a) (hb : Sq b) (hp : PR p) : poC1 a p = true ∧ poC2 a p = true ∧ poC3 a b p = true := by
  unfold poC1 poC2 poC3 polyHasF
  simp only [orB_eq]
  rw [touch1, touch2, touch3, odd1, odd2, odd3, t4_up ha hp, t4_dn hb hp, o4_up ha hp, o4_dn hb hp, rBoxHas_dec, rBoxHas_dec, edgeF_dec, edgeF_dec]
  have h1 : edgeI a p → hasI a p := fun h => h.1
  have h2 : hasI a p → ¬ edgeI a p → inI a p := by unfold hasI edgeI inI hasI; omega
  have h3 : inI a p → hasI a p := by unfold hasI inI; omega
  have k1 : edgeI b p → hasI b p := fun h => h.1
  have k2 : hasI b p → ¬ edgeI b p → inI b p := by unfold hasI edgeI inI hasI; omega
  have k3 : inI b p → hasI b p := by unfold hasI inI; omega
  by_cases e1 : edgeI a p <;> by_cases e2 : hasI a p <;> by_cases e3 : inI a p <;> by_cases g1 : edgeI b p <;> by_cases g2 : hasI b p <;> by_cases g3 : inI b p <;> simp_all
theorem ctrB_lit {n : Nat} {f : Nat → List Dyn.DC} (hn : n ≤ 2) (h : ∀ i, i < n → (ctrOf n f).m i = 4) : CtrB (ctrOf n f) := ⟨by show n ≤ _; omega, fun i hi => by rw [h i hi]; decide⟩
theorem two_cases {i : Nat} (h : i < 2) : i = 0 ∨ i = 1 := by omega
theorem po_B1 (a : B4) : CtrB (ctrOf 1 (poF1 a)) := ctrB_lit (by decide) fun i hi => by obtain rfl : i = 0 := by omega
                                                                                        rfl
theorem po_B2 (a : B4) : CtrB (ctrOf 2 (poF2 a)) := ctrB_lit (by decide) fun i hi => by rcases two_cases hi with rfl | rfl <;> rfl
theorem po_B3 (a b : B4) : CtrB (ctrOf 2 (poF3 a b)) := ctrB_lit (by decide) fun i hi => by rcases two_cases hi with rfl | rfl <;> rfl
theorem po_I1 (a : B4) : ctrIs 1 (poF1 a) := fun i hi => by
  obtain rfl : i = 0 := by omega
  show poF1 a 0 = _
  kernel_rfl
theorem po_I2 (a : B4) : ctrIs 2 (poF2 a) := fun i hi => by
  rcases two_cases hi with rfl | rfl <;> (show poF2 a _ = _; kernel_rfl)
theorem po_I3 (a b : B4) : ctrIs 2 (poF3 a b) := fun i hi => by
  rcases two_cases hi with rfl | rfl <;> (show poF3 a b _ = _; kernel_rfl)
theorem polyOdd_ok (a b : B4) (p : P2) : CallOk Try.prog 12 [bx a, bx b, pt p] (vb true) := by
  have sa := lSmall_r a
  have sb := lSmall_r b
  have sp := lClose_r p (n := 30) (by decide) (by decide)
  have hA : Sq (lSmall a) := ⟨⟨⟨by omega, by omega⟩, ⟨by omega, by omega⟩, ⟨by omega, by omega⟩, ⟨by omega, by omega⟩⟩, by omega, by omega⟩
  have hB : Sq (lSmall b) := ⟨⟨⟨by omega, by omega⟩, ⟨by omega, by omega⟩, ⟨by omega, by omega⟩, ⟨by omega, by omega⟩⟩, by omega, by omega⟩
  have hP : PR (lClose p 30) := ⟨⟨by omega, by omega⟩, ⟨by omega, by omega⟩⟩
  obtain ⟨c1, c2, c3⟩ := po_all hA hB hP
  refine callOk_D (ds := [dvX a, dvX b, dvP p]) (fun w F => ⟨den_X a w F, den_X b w F, den_P p w F, trivial⟩) (Dyn.dcontract (lp := Dyn.noLp) (fuel := 3) (X := tabS) tabS_ok mo Try.func12 (by kernel_rfl) (c := bodyD Try.f12.body) (by kernel_rfl) (fun w0 => Dyn.noLp_ok _ w0) (by kernel_rfl) (po_O a b p) ?_)
  refine ⟨⟨by decide, trivial⟩, fun _ => ⟨fun _ => ⟨⟨po_B1 _, po_I1 _, c1, po_B2 _, po_I2 _, c2, po_B3 _ _, po_I3 _ _, trivial⟩, ?_⟩, fun h => ?_⟩, fun h => ?_⟩
  · rw [c3]; exact Dyn.RVLe.refl (rB true)
  · rw [c2] at h; cases h
  · rw [c1] at h; cases h
end Go.Proofs.Ytgdjfclpncpnpaa
