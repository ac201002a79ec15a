/-
  Proved: the law RastMeter returns true for every input and leaves its arguments as they were.
  No condition: every input.
-/
import Derived.Test.YthnenjodighlmaaRows
import Derived.Test.YthnenjodighlmaaQE
import Derived.Test.YthnenjodighlmaaQK
namespace Go.Proofs.Ythnenjodighlmaa.lawRastMeter
open Go Go.ChangeShapes Go.WideShapes Go.ChangeAt Go.RowKit Sym

theorem own : ownKnob Try.prog.godebug = none := by kernel_rfl
theorem laidOut : laidOutB Try.prog = true := by kernel_rfl
theorem readable : (Try.f6.params.toList.all fun t => Try.prog.readableRec t && decide (t < Try.prog.types.size)) = true := by kernel_rfl

set_option maxRecDepth 100000 in
theorem lifted (os : Os) (started : os.Started) (H : Type) (enc : TypeId × Value → H) :
    ReturnsInHanded {} Try.checked os 6 .any (Rows.rastMeterSpec.pre6 enc Try.prog Try.f6 Rows.rastMeterRow.domain false) (Rows.rastMeterSpec.post enc Try.prog Try.f6 false true false false) := by
  refine returnsInHanded_of_change (C := Try.checked) own started (by kernel_rfl) Try.func6
    (ChangeSpec.witness6 (enc := enc) (C := Try.checked) false ⟨#[], #[.int .i64 0, .int .i64 0], []⟩ 12 (by kernel_rfl) (by kernel_rfl) (by kernel_rfl) (by kernel_rfl)) ?_
  intro W base args ds gs before hval0 hW hcnd _
  have hval : ∀ (j : Nat) t v, Try.f6.params[j]? = some t → args[j]? = some v → Value.okWide Try.prog W .any base t v := hval0
  have hW' := hW
  obtain ⟨p, q, hA0, hV, rfl, hfz, hnd⟩ := hW
  obtain ⟨rfl, rfl⟩ := trodVars_none hV
  have hA : DataW.TrodAll enc Try.prog W 0 (fun _ => true) true Try.f6.params.toList args.toList ds p := hA0
  have hA1 := hA
  rw [Try.params6] at hA hval
  obtain ⟨v0, vs0, d0, ds0, p0, q0, hargs, rfl, rfl, h0, r0⟩ := trodAll_cons hA
  obtain ⟨v1, vs1, d1, ds1, p1, q1, rfl, rfl, rfl, h1, r1⟩ := trodAll_cons r0
  obtain ⟨rfl, rfl, rfl⟩ := trodAll_nil r1
  obtain rfl : args = #[v0, v1] := by cases args; simp_all
  obtain ⟨a0, rfl⟩ := open_I Try.underlying3 (hval 0 3 v0 rfl rfl) h0
  obtain ⟨a1, rfl⟩ := open_I Try.underlying3 (hval 1 3 v1 rfl rfl) h1
  have hr : ∀ t ∈ Try.f6.params.toList, Try.prog.readableRec t = true ∧ t < Try.prog.types.size := fun t ht => by
    have := List.all_eq_true.1 readable t ht
    simpa using this
  refine (calls_of_okD (us := [vi a0, vi a1]) Try.func6 (by kernel_rfl) (by kernel_rfl) (rastMeter_ok a0 a1) W ⟨den_I a0 W _, den_I a1 W _, trivial⟩).mono fun e W' ⟨he, hg⟩ => ?_
  subst he
  simp only [List.append_nil] at hW' hA1 ⊢
  exact ⟨_, rfl, law_post laidOut rfl Try.underlying4 hr rfl rfl hW' hA1 hg⟩

theorem over : Rows.rastMeterRow.holds Try.pinned (OpenSpec.ofChange Rows.rastMeterSpec) :=
  OpenClaim.holds_of_wide 6 Try.f6 rfl rfl rfl rfl rfl rfl rfl ⟨rfl, rfl, rfl, rfl, rfl⟩ rfl rfl rfl rfl rfl (by kernel_rfl) Try.func6 (by kernel_rfl)
    (of_decide_eq_true (by kernel_rfl)) (by unfold Func.isWrapper; first | (rw [if_pos (by decide +kernel)]; kernel_rfl) | (rw [if_neg (by decide +kernel)]; exact ⟨rfl, rfl⟩))
    (fun os started H enc _ => lifted os started H enc)

theorem proved : Rows.RastMeterSaid := over
#print axioms proved
end Go.Proofs.Ythnenjodighlmaa.lawRastMeter
