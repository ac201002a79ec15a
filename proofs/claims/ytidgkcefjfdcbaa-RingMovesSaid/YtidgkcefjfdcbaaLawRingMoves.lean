/-
  Proved: the law RingMoves returns true for every input and leaves its arguments as they were.
  No condition: every input.
-/
import Derived.Test.YtidgkcefjfdcbaaRows
import Derived.Test.YtidgkcefjfdcbaaRow
import Derived.Test.YtidgkcefjfdcbaaRir
namespace Go.Proofs.Ytidgkcefjfdcbaa.lawRingMoves
open Go Go.ChangeShapes Go.WideShapes Go.ChangeAt Go.RowKit Sym

theorem own : ownKnob Try.prog.godebug = none := by kernel_rfl
theorem laidOut : laidOutB Try.prog = true := by kernel_rfl
theorem readable : (Try.f11.params.toList.all fun t => Try.prog.readableRec t && decide (t < Try.prog.types.size)) = true := by kernel_rfl
theorem walk (a0 : B4) (a1 : P2) (a2 : Int) (a3 : Int) (a4 : Int) (a5 : Int) (a6 : P2) (a7 : P2) (a8 : Int) (w : World) : Calls Try.prog 11 #[bx a0, pt a1, vi a2, vi a3, vi a4, vi a5, pt a6, pt a7, vi a8] w fun e w' => e = .returned (.bool true) ∧ Below w.heap.size w w' :=
  calls_of_ok Try.func11 (by kernel_rfl) (by kernel_rfl) (ringMoves_ok a0 a1 a2 a3 a4 a5 a6 a7 a8) w

set_option maxRecDepth 100000 in
theorem lifted (os : Os) (started : os.Started) (H : Type) (enc : TypeId × Value → H) :
    ReturnsInHanded {} Try.checked os 11 .any (Rows.ringMovesSpec.pre6 enc Try.prog Try.f11 Rows.ringMovesRow.domain false) (Rows.ringMovesSpec.post enc Try.prog Try.f11 false true false false) := by
  refine returnsInHanded_of_change (C := Try.checked) own started (by kernel_rfl) Try.func11
    (ChangeSpec.witness6 (enc := enc) (C := Try.checked) false ⟨#[], #[.agg #[.int .i64 0, .int .i64 0, .int .i64 0, .int .i64 0], .agg #[.int .i64 0, .int .i64 0], .int .i64 0, .int .i64 0, .int .i64 0, .int .i64 0, .agg #[.int .i64 0, .int .i64 0], .agg #[.int .i64 0, .int .i64 0], .int .i64 0], []⟩ 12 (by kernel_rfl) (by kernel_rfl) (by kernel_rfl) (by kernel_rfl)) ?_
  intro W base args ds gs before hval0 hW hcnd _
  have hval : ∀ (j : Nat) t v, Try.f11.params[j]? = some t → args[j]? = some v → Value.okWide Try.prog W .any base t v := hval0
  have hW' := hW
  obtain ⟨p, q, hA0, hV, rfl, hfz, hnd⟩ := hW
  obtain ⟨rfl, rfl⟩ := trodVars_none hV
  have hA : DataW.TrodAll enc Try.prog W 0 (fun _ => true) true Try.f11.params.toList args.toList ds p := hA0
  have hA1 := hA
  rw [Try.params11] at hA hval
  obtain ⟨v0, vs0, d0, ds0, p0, q0, hargs, rfl, rfl, h0, r0⟩ := trodAll_cons hA
  obtain ⟨v1, vs1, d1, ds1, p1, q1, rfl, rfl, rfl, h1, r1⟩ := trodAll_cons r0
  obtain ⟨v2, vs2, d2, ds2, p2, q2, rfl, rfl, rfl, h2, r2⟩ := trodAll_cons r1
  obtain ⟨v3, vs3, d3, ds3, p3, q3, rfl, rfl, rfl, h3, r3⟩ := trodAll_cons r2
  obtain ⟨v4, vs4, d4, ds4, p4, q4, rfl, rfl, rfl, h4, r4⟩ := trodAll_cons r3
  obtain ⟨v5, vs5, d5, ds5, p5, q5, rfl, rfl, rfl, h5, r5⟩ := trodAll_cons r4
  obtain ⟨v6, vs6, d6, ds6, p6, q6, rfl, rfl, rfl, h6, r6⟩ := trodAll_cons r5
  obtain ⟨v7, vs7, d7, ds7, p7, q7, rfl, rfl, rfl, h7, r7⟩ := trodAll_cons r6
  obtain ⟨v8, vs8, d8, ds8, p8, q8, rfl, rfl, rfl, h8, r8⟩ := trodAll_cons r7
  obtain ⟨rfl, rfl, rfl⟩ := trodAll_nil r8
  obtain rfl : args = #[v0, v1, v2, v3, v4, v5, v6, v7, v8] := by cases args; simp_all
  obtain ⟨a0, rfl⟩ := open_X Try.underlying23 (by kernel_rfl) (by kernel_rfl) Try.underlying2 Try.underlying2 Try.underlying2 Try.underlying2 (hval 0 23 v0 rfl rfl) h0
  obtain ⟨a1, rfl⟩ := open_P Try.underlying25 (by kernel_rfl) (by kernel_rfl) Try.underlying2 Try.underlying2 (hval 1 25 v1 rfl rfl) h1
  obtain ⟨a2, rfl⟩ := open_I Try.underlying2 (hval 2 2 v2 rfl rfl) h2
  obtain ⟨a3, rfl⟩ := open_I Try.underlying3 (hval 3 3 v3 rfl rfl) h3
  obtain ⟨a4, rfl⟩ := open_I Try.underlying3 (hval 4 3 v4 rfl rfl) h4
  obtain ⟨a5, rfl⟩ := open_I Try.underlying2 (hval 5 2 v5 rfl rfl) h5
  obtain ⟨a6, rfl⟩ := open_P Try.underlying25 (by kernel_rfl) (by kernel_rfl) Try.underlying2 Try.underlying2 (hval 6 25 v6 rfl rfl) h6
  obtain ⟨a7, rfl⟩ := open_P Try.underlying25 (by kernel_rfl) (by kernel_rfl) Try.underlying2 Try.underlying2 (hval 7 25 v7 rfl rfl) h7
  obtain ⟨a8, rfl⟩ := open_I Try.underlying2 (hval 8 2 v8 rfl rfl) h8
  have hr : ∀ t ∈ Try.f11.params.toList, Try.prog.readableRec t = true ∧ t < Try.prog.types.size := fun t ht => by
    have := List.all_eq_true.1 readable t ht
    simpa using this
  refine (walk a0 a1 a2 a3 a4 a5 a6 a7 a8 W).mono fun e W' ⟨he, hg⟩ => ?_
  subst he
  simp only [List.append_nil] at hW' hA1 ⊢
  exact ⟨_, rfl, law_post laidOut rfl Try.underlying4 hr rfl rfl hW' hA1 hg⟩

theorem over : Rows.ringMovesRow.holds Try.pinned (OpenSpec.ofChange Rows.ringMovesSpec) :=
  OpenClaim.holds_of_wide 11 Try.f11 rfl rfl rfl rfl rfl rfl rfl ⟨rfl, rfl, rfl, rfl, rfl⟩ rfl rfl rfl rfl rfl (by kernel_rfl) Try.func11 (by kernel_rfl)
    (of_decide_eq_true (by kernel_rfl)) (by unfold Func.isWrapper; first | (rw [if_pos (by decide +kernel)]; kernel_rfl) | (rw [if_neg (by decide +kernel)]; exact ⟨rfl, rfl⟩))
    (fun os started H enc _ => lifted os started H enc)

theorem proved : Rows.RingMovesSaid := over
#print axioms proved
end Go.Proofs.Ytidgkcefjfdcbaa.lawRingMoves
