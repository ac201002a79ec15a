/-
  Proved: the law RastSure returns true for every input and leaves its arguments as they were.
  No condition: every input.
-/
import Derived.Test.YthnenjodighlmaaGreatRows
import Derived.Test.YthnenjodighlmaaGreatQF
import Derived.Test.YthnenjodighlmaaGreatQJ
namespace Go.Proofs.YthnenjodighlmaaGreat.lawRastSure
open Go Go.ChangeShapes Go.WideShapes Go.ChangeAt Go.RowKit Sym

theorem own : ownKnob Tryz.prog.godebug = none := by kernel_rfl
theorem laidOut : laidOutB Tryz.prog = true := by kernel_rfl
theorem readable : (Tryz.f3.params.toList.all fun t => Tryz.prog.readableRec t && decide (t < Tryz.prog.types.size)) = true := by kernel_rfl

set_option maxRecDepth 100000 in
theorem lifted (os : Os) (started : os.Started) (H : Type) (enc : TypeId × Value → H) :
    ReturnsInHanded {} Tryz.checked os 3 .any (Rows.rastSureSpec.pre6 enc Tryz.prog Tryz.f3 Rows.rastSureRow.domain false) (Rows.rastSureSpec.post enc Tryz.prog Tryz.f3 false true false false) := by
  refine returnsInHanded_of_change (C := Tryz.checked) own started (by kernel_rfl) Tryz.func3
    (ChangeSpec.witness6 (enc := enc) (C := Tryz.checked) false ⟨#[], #[.slice none 0 0, .int .i64 0, .int .i64 0, .int .i64 0, .int .i64 0, .bool false], []⟩ 12 (by kernel_rfl) (by kernel_rfl) (by kernel_rfl) (by kernel_rfl)) ?_
  intro W base args ds gs before hval0 hW hcnd _
  have hval : ∀ (j : Nat) t v, Tryz.f3.params[j]? = some t → args[j]? = some v → Value.okWide Tryz.prog W .any base t v := hval0
  have hW' := hW
  obtain ⟨p, q, hA0, hV, rfl, hfz, hnd⟩ := hW
  obtain ⟨rfl, rfl⟩ := trodVars_none hV
  have hA : DataW.TrodAll enc Tryz.prog W 0 (fun _ => true) true Tryz.f3.params.toList args.toList ds p := hA0
  have hA1 := hA
  rw [Tryz.params3] at hA hval
  obtain ⟨v0, vs0, d0, ds0, p0, q0, hargs, rfl, rfl, h0, r0⟩ := trodAll_cons hA
  obtain ⟨v1, vs1, d1, ds1, p1, q1, rfl, rfl, rfl, h1, r1⟩ := trodAll_cons r0
  obtain ⟨v2, vs2, d2, ds2, p2, q2, rfl, rfl, rfl, h2, r2⟩ := trodAll_cons r1
  obtain ⟨v3, vs3, d3, ds3, p3, q3, rfl, rfl, rfl, h3, r3⟩ := trodAll_cons r2
  obtain ⟨v4, vs4, d4, ds4, p4, q4, rfl, rfl, rfl, h4, r4⟩ := trodAll_cons r3
  obtain ⟨v5, vs5, d5, ds5, p5, q5, rfl, rfl, rfl, h5, r5⟩ := trodAll_cons r4
  obtain ⟨rfl, rfl, rfl⟩ := trodAll_nil r5
  obtain rfl : args = #[v0, v1, v2, v3, v4, v5] := by cases args; simp_all
  obtain ⟨a0, w0, e0⟩ := open_O shT Tryz.underlying22 (by kernel_rfl) ⟨_, _, Tryz.underlying47, rfl, rfl, rfl, rfl⟩ (hval 0 22 v0 rfl rfl) h0
  obtain ⟨a1, rfl⟩ := open_I Tryz.underlying2 (hval 1 2 v1 rfl rfl) h1
  obtain ⟨a2, rfl⟩ := open_I Tryz.underlying2 (hval 2 2 v2 rfl rfl) h2
  obtain ⟨a3, rfl⟩ := open_I Tryz.underlying2 (hval 3 2 v3 rfl rfl) h3
  obtain ⟨a4, rfl⟩ := open_I Tryz.underlying3 (hval 4 3 v4 rfl rfl) h4
  obtain ⟨a5, rfl⟩ := open_B Tryz.underlying4 (hval 5 4 v5 rfl rfl) h5
  have hr : ∀ t ∈ Tryz.f3.params.toList, Tryz.prog.readableRec t = true ∧ t < Tryz.prog.types.size := fun t ht => by
    have := List.all_eq_true.1 readable t ht
    simpa using this
  refine (calls_of_okD (us := [v0, vi a1, vi a2, vi a3, vi a4, vb a5]) Tryz.func3 (by kernel_rfl) (by kernel_rfl) (rastSure_ok a0 w0 a1 a2 a3 a4 a5) W ⟨e0, den_I a1 W _, den_I a2 W _, den_I a3 W _, den_I a4 W _, den_B a5 W _, trivial⟩).mono fun e W' ⟨he, hg⟩ => ?_
  subst he
  simp only [List.append_nil] at hW' hA1 ⊢
  exact ⟨_, rfl, law_post laidOut rfl Tryz.underlying4 hr rfl rfl hW' hA1 hg⟩

theorem over : Rows.rastSureRow.holds Tryz.pinned (OpenSpec.ofChange Rows.rastSureSpec) :=
  OpenClaim.holds_of_wide 3 Tryz.f3 rfl rfl rfl rfl rfl rfl rfl ⟨rfl, rfl, rfl, rfl, rfl⟩ rfl rfl rfl rfl rfl (by kernel_rfl) Tryz.func3 (by kernel_rfl)
    (of_decide_eq_true (by kernel_rfl)) (by unfold Func.isWrapper; first | (rw [if_pos (by decide +kernel)]; kernel_rfl) | (rw [if_neg (by decide +kernel)]; exact ⟨rfl, rfl⟩))
    (fun os started H enc _ => lifted os started H enc)

theorem proved : Rows.RastSureSaid := over
#print axioms proved
end Go.Proofs.YthnenjodighlmaaGreat.lawRastSure
