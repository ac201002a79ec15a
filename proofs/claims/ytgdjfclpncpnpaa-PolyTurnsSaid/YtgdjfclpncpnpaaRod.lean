/-
  OWN WORK. What a row's argument of contours shows; from a contract over what arguments show to a call.
-/
import Derived.Test.YtgdjfclpncpnpaaDgo
import Derived.Test.YtgdjfclpncpnpaaRow
import Derived.Deep.Slices
import Derived.Deep.SlicePairs
import Derived.WideShapes
namespace Go.Proofs.Ytgdjfclpncpnpaa
open Go Go.ChangeShapes Go.WideShapes Go.ChangeAt Go.RowKit Go.Joins Go.Deep

section
variable {H : Type} {enc : TypeId × Value → H} {P : Program} {w : World} {base : Nat} {spare : Nat → Bool} {held : Bool}
def intOf : Value → Int
  | .int _ x => x
  | _ => 0
theorem addr_cell {a : Addr} {i : Nat} {v : Value} (h : w.cell? (a.add i) = some v) : (a.add i).block < w.heap.size ∧ (i = 0 → a.spot = none) := by
  unfold World.cell? at h
  split at h
  · rename_i c x y hb
    split at h
    · cases h
    · rename_i hs
      refine ⟨(Array.getElem?_eq_some_iff.1 hb).1, fun e => ?_⟩
      subst e
      simp only [Addr.add, if_true] at hs
      simpa using hs
  · cases h
theorem addr_none {a : Addr} (h : a.spot = none) : a = ⟨a.block, a.off, none⟩ := by cases a; simp_all
theorem addr_add (b off i : Nat) : (Addr.add ⟨b, off, none⟩ i) = ⟨b, off + i, none⟩ := by
  unfold Addr.add
  split
  · rename_i h; subst h; rfl
  · rfl
theorem row_P {t e : TypeId} {f0 f1 : Field} {fuel : Nat} {v : Value} {x : DataW H × List MemPlace} (ht : P.underlying t = some (.slice e)) (he : P.underlying e = some (.struct #[f0, f1]))
    (ce : P.cellsOf e = 2) (o0 : f0.offset = 0) (o1 : f1.offset = 1) (c0 : P.cellsOf f0.type = 1) (c1 : P.cellsOf f1.type = 1) (k0 : P.underlying f0.type = some (.int .i64)) (k1 : P.underlying f1.type = some (.int .i64))
    (h : DataW.trod enc P w base spare held fuel t [v] = some x) : ∃ n, ∃ p : Nat → P2, Dyn.DenC w (fun b => b < w.heap.size) (cRow n p) v := by
  rcases open_slice_pairs ht he ce o0 o1 c0 c1 h with ⟨h, _⟩ | ⟨a, len, cap, m, n, V0, V1, D0, D1, P0, P1, h, hb, hl, hcap, hm, hx, hall⟩
  · simp only [List.cons.injEq, and_true] at h
    subst h
    exact ⟨0, fun _ => ⟨0, 0⟩, .nil _ none 0⟩
  · simp only [List.cons.injEq, and_true] at h
    subst h
    have hlm : len ≤ m := by rw [hm]; split <;> omega
    by_cases hz : len = 0
    · subst hz
      exact ⟨0, fun _ => ⟨0, 0⟩, .nil _ (some a) cap⟩
    · have h0 := (hall 0 (by omega)).1
      obtain ⟨hlt, hsp⟩ := addr_cell h0
      have hsp := hsp (by omega)
      have ea := addr_none hsp
      obtain ⟨b, off, sp⟩ := a
      dsimp only at hsp
      subst hsp
      simp only [addr_add] at hall hlt
      refine ⟨len, fun i => ⟨intOf (V0 i), intOf (V1 i)⟩, .row len _ b off cap 2 (fun i j => if j = 0 then V0 i else V1 i) hlt (fun i hi => ⟨rfl, fun j hj => ?_⟩) (fun i j hi hj => ?_)⟩
      · obtain ⟨h1, h2, _, _⟩ := hall i (by omega)
        rcases (show j = 0 ∨ j = 1 by omega) with rfl | rfl
        · rw [if_pos rfl]; exact h1
        · rw [if_neg (by decide), Nat.add_assoc]; exact h2
      · obtain ⟨_, _, h3, h4⟩ := hall i (by omega)
        obtain ⟨x3, e3, _⟩ := DataW.trod_int k0 h3
        obtain ⟨x4, e4, _⟩ := DataW.trod_int k1 h4
        simp only [List.cons.injEq, and_true] at e3 e4
        rcases (show j = 0 ∨ j = 1 by omega) with rfl | rfl
        · rw [if_pos rfl]; show Dyn.DenC _ _ (.p (vi (intOf (V0 i)))) (V0 i); rw [e3]; exact Dyn.DenC.p (.int .i64 x3) rfl
        · rw [if_neg (by decide)]; show Dyn.DenC _ _ (.p (vi (intOf (V1 i)))) (V1 i); rw [e4]; exact Dyn.DenC.p (.int .i64 x4) rfl
theorem open_C {r : Reach} {b0 : Nat} {t e2 e : TypeId} {f0 f1 : Field} {v : Value} {d : DataW H} {ps : List MemPlace} (ht : P.underlying t = some (.slice e2)) (hc2 : P.cellsOf e2 = 1) (ht2 : P.underlying e2 = some (.slice e)) (he : P.underlying e = some (.struct #[f0, f1]))
    (ce : P.cellsOf e = 2) (o0 : f0.offset = 0) (o1 : f1.offset = 1) (c0 : P.cellsOf f0.type = 1) (c1 : P.cellsOf f1.type = 1) (k0 : P.underlying f0.type = some (.int .i64)) (k1 : P.underlying f1.type = some (.int .i64))
    (hval : Value.okWide P w r b0 t v) (hd : DataW.Trod enc P w base spare held t v d ps) : ∃ l : Ctr, Dyn.DenV w (fun b => b < w.heap.size) (dvC l) v := by
  obtain ⟨a, len, cap, rfl⟩ := okWide_slice ht hval
  obtain ⟨fuel, hf⟩ := hd
  rcases open_slice1 ht hc2 hf with ⟨h, _⟩ | ⟨a', len', cap', m, n, V, D, Pl, h, hb, hl, hcap, hm, hx, hall⟩
  · simp only [Value.cells, List.cons.injEq, and_true] at h
    rw [h]
    exact ⟨⟨0, fun _ => 0, fun _ _ => ⟨0, 0⟩⟩, .nil _ none 0⟩
  · simp only [Value.cells, List.cons.injEq, and_true] at h
    rw [h]
    have hlm : len' ≤ m := by rw [hm]; split <;> omega
    by_cases hz : len' = 0
    · subst hz
      exact ⟨⟨0, fun _ => 0, fun _ _ => ⟨0, 0⟩⟩, .nil _ (some a') cap'⟩
    · have h0 := (hall 0 (by omega)).1
      obtain ⟨hlt, hsp⟩ := addr_cell h0
      have hsp := hsp rfl
      obtain ⟨b, off, sp⟩ := a'
      dsimp only at hsp
      subst hsp
      simp only [addr_add] at hall hlt
      haveI : Inhabited (Nat × (Nat → P2)) := ⟨0, fun _ => ⟨0, 0⟩⟩
      obtain ⟨g, hg⟩ := choose_lt (α := Nat × (Nat → P2)) (n := len') (p := fun i q => Dyn.DenC w (fun b => b < w.heap.size) (cRow q.1 q.2) (V i)) (fun i hi => by
        obtain ⟨q, p, hq⟩ := row_P ht2 he ce o0 o1 c0 c1 k0 k1 (hall i (by omega)).2
        exact ⟨(q, p), hq⟩)
      refine ⟨⟨len', fun i => (g i).1, fun i => (g i).2⟩, .row len' _ b off cap' 1 (fun i _ => V i) hlt (fun i hi => ⟨rfl, fun j hj => ?_⟩) (fun i j hi hj => ?_)⟩
      · obtain rfl : j = 0 := by omega
        rw [Nat.mul_one, Nat.add_zero]; exact (hall i (by omega)).1
      · obtain rfl : j = 0 := by omega
        exact hg i hi
end
/-- a law's contract over what its arguments show, as a call -/
theorem calls_of_okD {P : Program} {K : Nat} {fn : Func} (hf : P.funcs[K]? = some fn) (hb : fn.body.isNone = false) (hn : (fn.name == "runtime.NumGoroutine") = false) {ds : List Dyn.DV} {us : List Value} {v : Value} (h : Dyn.CallD P K ds (.val (.one (.p v)))) (w : World) (hd : Dyn.DenVs w (fun b => b < w.heap.size) ds us) :
    Calls P K us.toArray w fun e w' => e = .returned v ∧ Below w.heap.size w w' := by
  have hr : (callFunc K us.toArray).run P w = .ok (.enter K us.toArray) w := by
    unfold callFunc
    simp only [Sem.run_bind, run_program, Result.andThen_ok, hf, hn, hb]
    simp
  have := h w _ us (fun b hb => hb) hd
  rw [hr] at this
  refine this.2.mono ?_
  rintro e w' ⟨u, rfl, h1, h2⟩
  cases h1
  exact ⟨rfl, h2⟩
end Go.Proofs.Ytgdjfclpncpnpaa
