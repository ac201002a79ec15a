/-
  OWN WORK. The law PolySure.
-/
import Derived.Test.YtgdjfclpncpnpaaPos
import Derived.Test.YtgdjfclpncpnpaaDisd
namespace Go.Proofs.Ytgdjfclpncpnpaa
open Go Go.RowKit Sym

/-- what a class says of a point -/
theorem polyClass_sure {b : B4} {l : Ctr} {q : P2} (hb : BR b) (hx : b.x0 ≤ b.x1) (hy : b.y0 ≤ b.y1) (hl : PRC l) (hq : hasI b q) :
    (polyClassF b l = 0 ∧ polyHasF q l = false) ∨ polyClassF b l = 1 ∨ (polyClassF b l = 2 ∧ polyHasF q l = true) := by
  have hQ := PR_of_has hb hq
  have hC : hasI b ⟨b.x0, b.y0⟩ := ⟨Int.le_refl _, hx, Int.le_refl _, hy⟩
  unfold polyClassF polyHasF
  rw [touchF_eq hb hx hy hl, touchF_eq (b := spotF q) ⟨hQ.x, hQ.y, hQ.x, hQ.y⟩ (Int.le_refl _) (Int.le_refl _) hl, oddF_eq hQ hl, oddF_eq (PR_of_has hb hC) hl, (boxHas_eq b ⟨b.x0, b.y0⟩).2 hC]
  cases h : touchI b l with
  | true => exact .inr (.inl rfl)
  | false =>
    rw [show touchI (spotF q) l = false from touch_spot h hq, odd_box h hC hq]
    cases oddI q l
    · exact .inl ⟨rfl, rfl⟩
    · exact .inr (.inr ⟨rfl, rfl⟩)
theorem tamP_r (l : Ctr) (sm : Bool) (i k : Nat) : PR (tamP l sm i k) := by
  have h := lPt_r (l.p i k)
  have g := lClose_r (lPt (l.p i k)) (n := 20) (by decide) (by decide)
  unfold tamP
  cases sm
  · exact ⟨⟨by show _ ≤ (lPt (l.p i k)).x; omega, by show (lPt (l.p i k)).x ≤ _; omega⟩, ⟨by show _ ≤ (lPt (l.p i k)).y; omega, by show (lPt (l.p i k)).y ≤ _; omega⟩⟩
  · exact ⟨⟨by show _ ≤ (lClose (lPt (l.p i k)) 20).x; omega, by show (lClose (lPt (l.p i k)) 20).x ≤ _; omega⟩, ⟨by show _ ≤ (lClose (lPt (l.p i k)) 20).y; omega, by show (lClose (lPt (l.p i k)) 20).y ≤ _; omega⟩⟩
theorem tameC_r (l : Ctr) (sm : Bool) : PRC (tameC l sm) := ⟨fun i _ k _ => tamP_r l sm i k⟩
theorem tameC_B (l : Ctr) (sm : Bool) : CtrB (tameC l sm) := ⟨by show min l.n 4 ≤ _; omega, fun i _ => by show min (l.m i) 12 ≤ _; omega⟩
def polySure0 (b : B4) (l : Ctr) (x y : Int) : Bool :=
  let k := polyClassF b l
  let i := polyHasF (lIn b x y) l
  andB (andB (andB (andB (orB (k != 2) i) (orB (k != 0) (!i))) (decide (k ≥ 0))) (decide (k ≤ 2))) true
def polySureB (b : B4) (l : Ctr) (x y : Int) (sm : Bool) : Bool := bif sm then polySure0 (lSmall (lBox b)) (tameC l sm) x y else polySure0 (lBox b) (tameC l sm) x y
theorem polySure0_true {b : B4} {l : Ctr} (x y : Int) (hb : BR b) (hx : b.x0 ≤ b.x1) (hy : b.y0 ≤ b.y1) (hl : PRC l) : polySure0 b l x y = true := by
  have hq := (lIn_has x y hb hx hy).1
  unfold polySure0
  dsimp only
  rcases polyClass_sure hb hx hy hl hq with ⟨h, k⟩ | h | ⟨h, k⟩
  · rw [h, k]; rfl
  · rw [h]; rfl
  · rw [h, k]; rfl
theorem polySureB_true (b : B4) (l : Ctr) (x y : Int) (sm : Bool) : polySureB b l x y sm = true := by
  unfold polySureB
  cases sm
  · have h := lBox_r b
    exact polySure0_true x y (lBox_R b) h.2.1 h.2.2.2.2.1 (tameC_r l false)
  · have h := lSmall_r (lBox b)
    exact polySure0_true x y (lSmall_R (lBox b)) h.2.2.1 h.2.2.2.2.2.2.1 (tameC_r l true)
theorem polySure_ok (b : B4) (l : Ctr) (x y : Int) (sm : Bool) : Dyn.CallD Try.prog 10 [dvX b, dvC l, dvI x, dvI y, dvB sm] (rB true) := by
  rw [← polySureB_true b l x y sm]
  exact Dyn.dcontractV (lp := Dyn.noLp) (fuel := 3) (X := tabS) tabS_ok mo Try.func10 (by kernel_rfl) (c := bodyD Try.f10.body) (by kernel_rfl) (fun w0 => Dyn.noLp_ok _ w0)
    (by kernel_rfl) (by kernel_rfl) (show _ = [ctrSelf l, sm = true → CtrB (tameC l sm), sm = true → ctrSelf (tameC l sm), sm = true → lInOk (lSmall (lBox b)), sm = true → CtrB (tameC l sm), sm = true → ctrSelf (tameC l sm), sm = false → CtrB (tameC l sm), sm = false → ctrSelf (tameC l sm), sm = false → lInOk (lBox b), sm = false → CtrB (tameC l sm), sm = false → ctrSelf (tameC l sm)] by kernel_rfl)
    ⟨ctrSelf_ok _, fun _ => tameC_B _ _, fun _ => ctrSelf_ok _, fun _ => lSmall_In _, fun _ => tameC_B _ _, fun _ => ctrSelf_ok _, fun _ => tameC_B _ _, fun _ => ctrSelf_ok _, fun _ => lBox_In _, fun _ => tameC_B _ _, fun _ => ctrSelf_ok _, trivial⟩
end Go.Proofs.Ytgdjfclpncpnpaa
