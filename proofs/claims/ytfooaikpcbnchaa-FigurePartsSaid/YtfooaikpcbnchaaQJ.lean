/-
  OWN WORK. Joined by merge.py: Plc Cnt Fpl.
-/
import Derived.Test.YtfooaikpcbnchaaQE
import Derived.WalkKit
import Derived.ProofKit
import Derived.Test.YtfooaikpcbnchaaQH
import Derived.Test.YtfooaikpcbnchaaQI
/-! ## Plc -/
namespace Go.Proofs.Ytfooaikpcbnchaa
open Go Go.RowKit Sym
set_option maxRecDepth 100000

theorem place_walk (b off n cap : Nat) (hn : 0 < n) (w : World) : Calls Try.prog 74 #[.slice (some ⟨b, off, none⟩) n cap] w fun e w' => e = .returned (.agg #[.pointer (some ⟨b, off, none⟩), .int .i64 (n : Int)]) ∧ Below w.heap.size w w' := by
  go_enter Try.func74, Try.ntmps74
  go_wp2
  simp [bodyPost, results, Try.results74, go_sem]
  exact Dyn.push_below _ _
theorem place_ok : Dyn.PlaceP Try.prog 74 := fun b off n cap hn => call_ok Try.func74 (by kernel_rfl) (by kernel_rfl) fun w => place_walk b off n cap hn w
end Go.Proofs.Ytfooaikpcbnchaa

/-! ## Cnt -/
namespace Go.Proofs.Ytfooaikpcbnchaa
open Go Go.RowKit Sym
set_option maxRecDepth 100000

def rowD : Nat → List Dyn.DC := Dyn.pickL 0 [rawP true 5, rawP false 2]
def isPl (K : Nat) : Bool := Nat.beq K 74
theorem isPl_ok : ∀ K, isPl K = true → Dyn.PlaceP Try.prog K := fun K h => by
  have := Nat.eq_of_beq_eq_true h
  subst this
  exact place_ok
noncomputable def tabCp : Dyn.Tabs := Dyn.extT (Dyn.tabs tbF [] noD dtyS) isPl
theorem tabCp_ok : Dyn.TabsOk Try.prog tabCp := Dyn.extT_ok (Dyn.tabs_ok tbF_ok (fun _ h => by cases h)) isPl_ok
theorem countD : Dyn.CallD Try.prog 56 [.one (.row 2 rowD)] (rI 2) :=
  Dyn.dcontract (lp := Dyn.noLp) (fuel := 4) tabCp_ok mo Try.func56 (by kernel_rfl) (c := bodyD Try.f56.body) (by kernel_rfl) (fun w0 => Dyn.noLp_ok _ w0) (by kernel_rfl)
    (O := .side [0 < 2] (.side [(0 : Int) ≤ 0 ∧ (0 : Int) < ((2 : Nat) : Int)] (.side [0 ≤ IntKind.i64.wrap (0 + 1) ∧ IntKind.i64.wrap (0 + 1) < ((2 : Nat) : Int)] (.side [0 < 2] (.leaf (rI (plusF (plusF 0 (plusF 1 0)) (plusF 1 0)))))))) (by kernel_rfl)
    ⟨⟨by decide, trivial⟩, ⟨by decide, trivial⟩, ⟨by decide, trivial⟩, ⟨by decide, trivial⟩, ro_leaf (congrArg rI (by decide +kernel))⟩
def enCp : Dyn.EntryD := (56, fun args => match args with
  | [.one (.row n f)] => some (rI 2, [n = 2 ∧ f = rowD])
  | _ => none)
theorem enCp_ok : Dyn.EntryDOk Try.prog enCp := fun args r ps h hp => by
  unfold enCp at h
  dsimp only at h
  split at h
  · simp only [Option.some.injEq, Prod.mk.injEq] at h
    obtain ⟨rfl, rfl⟩ := h
    obtain ⟨⟨rfl, rfl⟩, -⟩ := hp
    exact countD
  · cases h
noncomputable def tabCo : Dyn.Tabs := Dyn.tabs tbF [enCp] noD dtyS
theorem tabCo_ok : Dyn.TabsOk Try.prog tabCo := Dyn.tabs_ok tbF_ok (List.forall_mem_cons.2 ⟨enCp_ok, fun _ h => by cases h⟩)
theorem count10 : Count10 :=
  Dyn.dcontract (lp := Dyn.noLp) (fuel := 4) tabCo_ok mo Try.func35 (by kernel_rfl) (c := bodyD Try.f35.body) (by kernel_rfl) (fun w0 => Dyn.noLp_ok _ w0) (by kernel_rfl)
    (O := .side [2 = 2 ∧ rowD = rowD] (.leaf (rI (plusF 1 2)))) (by kernel_rfl) ⟨⟨⟨rfl, rfl⟩, trivial⟩, ro_leaf (congrArg rI (by decide +kernel))⟩
theorem awake10 : Dyn.CallD Try.prog 26 [] (rB true) := awake10_ok count10
end Go.Proofs.Ytfooaikpcbnchaa

/-! ## Fpl -/
namespace Go.Proofs.Ytfooaikpcbnchaa
open Go Go.RowKit Sym
set_option maxRecDepth 100000
theorem figParts_ok (s : Shp) (hs : ShW s) (t : Shp) (ht : ShW t) (b : B4) (p : P2) : Dyn.CallD Try.prog 8 [dvS (toSh s), dvS (toSh t), dvX b, dvP p] (rB true) := figParts_ok' awake10 (toSh s) (toSh t) (PdW_mk hs) (PdW_mk ht) b p
end Go.Proofs.Ytfooaikpcbnchaa
