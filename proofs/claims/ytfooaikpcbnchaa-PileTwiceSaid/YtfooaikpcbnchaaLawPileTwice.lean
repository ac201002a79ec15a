/-
  Proved: the law PileTwice returns true for every input and leaves its arguments as they were.
  No condition: every input.
-/
import Derived.Test.YtfooaikpcbnchaaRows
import Derived.Test.YtfooaikpcbnchaaQF
import Derived.Test.YtfooaikpcbnchaaQI
namespace Go.Proofs.Ytfooaikpcbnchaa.lawPileTwice
open Go Go.ChangeShapes Go.WideShapes Go.ChangeAt Go.RowKit Sym

theorem own : ownKnob Try.prog.godebug = none := by kernel_rfl
theorem laidOut : laidOutB Try.prog = true := by kernel_rfl
theorem readable : (Try.f10.params.toList.all fun t => Try.prog.readableRec t && decide (t < Try.prog.types.size)) = true := by kernel_rfl

set_option maxRecDepth 100000 in
theorem lifted (os : Os) (started : os.Started) (H : Type) (enc : TypeId × Value → H) :
    ReturnsInHanded {} Try.checked os 10 .any (Rows.pileTwiceSpec.pre6 enc Try.prog Try.f10 Rows.pileTwiceRow.domain false) (Rows.pileTwiceSpec.post enc Try.prog Try.f10 false true false false) := by
  refine returnsInHanded_of_change (C := Try.checked) own started (by kernel_rfl) Try.func10
    (ChangeSpec.witness6 (enc := enc) (C := Try.checked) false ⟨#[], #[.slice none 0 0, .agg #[.int .i64 0, .int .i64 0, .int .i64 0, .int .i64 0, .int .i64 0, .int .i64 0, .int .i64 0, .int .i64 0, .slice none 0 0, .slice none 0 0], .agg #[.int .i64 0, .int .i64 0, .int .i64 0, .int .i64 0], .int .i64 0, .int .i64 0], []⟩ 12 (by kernel_rfl) (by kernel_rfl) (by kernel_rfl) (by kernel_rfl)) ?_
  intro W base args ds gs before hval0 hW hcnd _
  have hval : ∀ (j : Nat) t v, Try.f10.params[j]? = some t → args[j]? = some v → Value.okWide Try.prog W .any base t v := hval0
  have hW' := hW
  obtain ⟨p, q, hA0, hV, rfl, hfz, hnd⟩ := hW
  obtain ⟨rfl, rfl⟩ := trodVars_none hV
  have hA : DataW.TrodAll enc Try.prog W 0 (fun _ => true) true Try.f10.params.toList args.toList ds p := hA0
  have hA1 := hA
  rw [Try.params10] at hA hval
  obtain ⟨v0, vs0, d0, ds0, p0, q0, hargs, rfl, rfl, h0, r0⟩ := trodAll_cons hA
  obtain ⟨v1, vs1, d1, ds1, p1, q1, rfl, rfl, rfl, h1, r1⟩ := trodAll_cons r0
  obtain ⟨v2, vs2, d2, ds2, p2, q2, rfl, rfl, rfl, h2, r2⟩ := trodAll_cons r1
  obtain ⟨v3, vs3, d3, ds3, p3, q3, rfl, rfl, rfl, h3, r3⟩ := trodAll_cons r2
  obtain ⟨v4, vs4, d4, ds4, p4, q4, rfl, rfl, rfl, h4, r4⟩ := trodAll_cons r3
  obtain ⟨rfl, rfl, rfl⟩ := trodAll_nil r4
  obtain rfl : args = #[v0, v1, v2, v3, v4] := by cases args; simp_all
  obtain ⟨a0, w0, e0⟩ := open_O shT Try.underlying63 (by kernel_rfl) ⟨_, _, Try.underlying67, rfl, rfl, rfl, rfl⟩ (hval 0 63 v0 rfl rfl) h0
  obtain ⟨a1, w1, e1⟩ := open_S shT (hval 1 29 v1 rfl rfl) h1
  obtain ⟨a2, rfl⟩ := open_X Try.underlying47 (by kernel_rfl) (by kernel_rfl) Try.underlying2 Try.underlying2 Try.underlying2 Try.underlying2 (hval 2 47 v2 rfl rfl) h2
  obtain ⟨a3, rfl⟩ := open_I Try.underlying2 (hval 3 2 v3 rfl rfl) h3
  obtain ⟨a4, rfl⟩ := open_I Try.underlying2 (hval 4 2 v4 rfl rfl) h4
  have hr : ∀ t ∈ Try.f10.params.toList, Try.prog.readableRec t = true ∧ t < Try.prog.types.size := fun t ht => by
    have := List.all_eq_true.1 readable t ht
    simpa using this
  refine (calls_of_okR (us := [v0, v1, bx a2, vi a3, vi a4]) Try.func10 (by kernel_rfl) (by kernel_rfl) (pileTwice_ok a0 w0 a1 w1 a2 a3 a4) W ⟨e0, e1, den_X a2 W _, den_I a3 W _, den_I a4 W _, trivial⟩).mono fun e W' ⟨he, hg⟩ => ?_
  subst he
  simp only [List.append_nil] at hW' hA1 ⊢
  exact ⟨_, rfl, law_post laidOut rfl Try.underlying4 hr rfl rfl hW' hA1 hg⟩

theorem over : Rows.pileTwiceRow.holds Try.pinned (OpenSpec.ofChange Rows.pileTwiceSpec) :=
  OpenClaim.holds_of_wide 10 Try.f10 rfl rfl rfl rfl rfl rfl rfl ⟨rfl, rfl, rfl, rfl, rfl⟩ rfl rfl rfl rfl rfl (by kernel_rfl) Try.func10 (by kernel_rfl)
    (of_decide_eq_true (by kernel_rfl)) (by unfold Func.isWrapper; first | (rw [if_pos (by decide +kernel)]; kernel_rfl) | (rw [if_neg (by decide +kernel)]; exact ⟨rfl, rfl⟩))
    (fun os started H enc _ => lifted os started H enc)

theorem proved : Rows.PileTwiceSaid := over
#print axioms proved
end Go.Proofs.Ytfooaikpcbnchaa.lawPileTwice
