/-
  OWN WORK. Joined by merge.py: Plc Rgc.
-/
import Derived.Test.YthnenjodighlmaaQE
import Derived.WalkKit
import Derived.ProofKit
import Derived.Laws.LoneSync
import Derived.Deep.RegionWith
/-! ## Plc -/
namespace Go.Proofs.Ythnenjodighlmaa
open Go Go.RowKit Sym
set_option maxRecDepth 100000

end Go.Proofs.Ythnenjodighlmaa

/-! ## Rgc -/
namespace Go.Proofs.Ythnenjodighlmaa
open Go Go.RowKit Sym
set_option maxRecDepth 100000

theorem run_enter {P : Program} {K : Nat} {fn : Func} (hf : P.funcs[K]? = some fn) (hn : (fn.name == "runtime.NumGoroutine") = false) (hb : fn.body.isSome = true) {us : Array Value} {w : World} : (callFunc K us).run P w = .ok (.enter K us) w := by
  obtain ⟨c, hc⟩ := Option.isSome_iff_exists.1 hb
  unfold callFunc
  simp only [Sem.run_bind, run_program, Result.andThen_ok, hf, hn, hc]
  simp
theorem callX_walk {P : Program} {K : Nat} {fn : Func} (hf : P.funcs[K]? = some fn) (hn : (fn.name == "runtime.NumGoroutine") = false) (hb : fn.body.isSome = true) {az : List Dyn.LA} {lent : Dyn.Lent} {u : Value} {out : List (List Value)}
    (h : ∀ (w : World) (F : Nat → Prop) (bs : List Nat) (us : List Value), Dyn.LentAt w bs lent → Dyn.DenLAs w F bs az us → Calls P K us.toArray w fun e w'' => e = .returned u ∧ Dyn.LentPost w w'' bs (Dyn.zipL lent out)) : Dyn.CallX P K az lent u out := by
  intro w F bs us hF hnd hdis hla hden
  rw [run_enter hf hn hb]
  exact ⟨rfl, h w F bs us hla hden⟩
/-- what a block of two cells shows -/
theorem cell0 {w : World} {b : Nat} {t : TypeId} {m a : Value} (h : w.heap[b]? = some (.cells [m, a].toArray t (0, 0))) : w.cell? ⟨b, 0, none⟩ = some m := by simp [World.cell?, h]
theorem cell1 {w : World} {b : Nat} {t : TypeId} {m a : Value} (h : w.heap[b]? = some (.cells [m, a].toArray t (0, 0))) : w.cell? ⟨b, 1, none⟩ = some a := by simp [World.cell?, h]
theorem froz1 {w : World} {b i : Nat} {t : TypeId} {m a : Value} (h : w.heap[b]? = some (.cells [m, a].toArray t (0, 0))) : w.frozen? ⟨b, i, none⟩ = false := by simp [World.frozen?, h]
theorem set1 {w : World} {b : Nat} {t : TypeId} {m a v : Value} (h : w.heap[b]? = some (.cells [m, a].toArray t (0, 0))) : (w.setCell ⟨b, 1, none⟩ v).heap[b]? = some (.cells [m, v].toArray t (0, 0)) := by
  simp [World.setCell, Array.getElem?_modify, h]
theorem setO {w : World} {b k i : Nat} {v : Value} (h : k ≠ b) : (w.setCell ⟨b, i, none⟩ v).heap[k]? = w.heap[k]? := by
  simp [World.setCell, Array.getElem?_modify, Ne.symm h]
theorem post_set {w w2 : World} {b : Nat} {t : TypeId} {m a v : Value} (h : w.heap[b]? = some (.cells [m, a].toArray t (0, 0))) (h1 : w2.heap = (w.setCell ⟨b, 1, none⟩ v).heap) (h2 : w2.os = w.os) (h3 : w2.tape = w.tape) (h4 : w2.output = w.output) : Dyn.LentPost w w2 [b] [(t, [m, v])] :=
  ⟨h2, h3, h4, by rw [h1, World.size_setCell]; exact Nat.le_refl _, fun k _ hk => by rw [h1]; exact setO (by simpa using hk), by rw [h1]; exact set1 h, trivial⟩
theorem lent1 {w : World} {F : Nat → Prop} {bs : List Nat} {us : List Value} {t : TypeId} {cs : List Value} {off : Nat} {l : List Dyn.LA} (hla : Dyn.LentAt w bs [(t, cs)]) (hden : Dyn.DenLAs w F bs (.lp 0 off :: l) us) : ∃ b vs, bs = [b] ∧ w.heap[b]? = some (.cells cs.toArray t (0, 0)) ∧ us = .pointer (some ⟨b, off, none⟩) :: vs ∧ Dyn.DenLAs w F [b] l vs := by
  match bs, hla with
  | [b], hla =>
    match us, hden with
    | u :: vs, hden =>
      obtain ⟨⟨b', h1, h2⟩, h3⟩ := hden
      simp only [List.getElem?_cons_zero, Option.some.injEq] at h1
      subst h1; subst h2
      exact ⟨b, vs, rfl, hla.1, rfl, h3⟩
def capM (x : Int) : Int := imax 0 (imin x 100000000)
theorem capM_1 {x : Int} (h : 100000000 < x) : capM x = 100000000 := by unfold capM imax imin; repeat' split <;> omega
theorem capM_2 {x : Int} (h : x ≤ 100000000) (h2 : 0 < x) : capM x = x := by unfold capM imax imin; repeat' split <;> omega
theorem capM_3 {x : Int} (h : x ≤ 0) : capM x = 0 := by unfold capM imax imin; repeat' split <;> omega
theorem heap_new (w : World) (o : Obj) : (w.alloc o).heap[w.heap.size]? = some o := by
  show (w.heap.push o)[w.heap.size]? = some o
  rw [Array.getElem?_push, if_pos rfl]
theorem newMeter_walk (x : Int) (w : World) : Calls Try.prog 26 #[vi x] w fun e w' => e = .returned (.pointer (some ⟨w.heap.size, 0, none⟩)) ∧ w' = w.alloc (.cells #[vi (capM x), vi 0] 97) := by
  go_enter Try.func26, Try.ntmps26
  go_wp2
  all_goals simp [bodyPost, results, Try.results26, go_sem]
  · rw [capM_1 h]
  · rename_i h2; rw [capM_2 h2 h]
  · rw [capM_3 h]
def nwM (K : Nat) : Option (Value → Option (TypeId × List Value)) := bif Nat.beq K 26 then some (fun v => match v with
  | .int .i64 x => some (97, [vi (capM x), vi 0])
  | _ => none) else none
theorem nwM_ok : ∀ K f, nwM K = some f → Dyn.NewP Try.prog K f := fun K f h u t cs hf w => by
  unfold nwM at h
  cases hk : Nat.beq K 26 with
  | false => rw [hk] at h; cases h
  | true =>
    rw [hk] at h
    have e := Nat.eq_of_beq_eq_true hk
    subst e
    simp only [cond_true, Option.some.injEq] at h
    subst h
    dsimp only at hf
    split at hf
    · rename_i x
      simp only [Option.some.injEq, Prod.mk.injEq] at hf
      obtain ⟨rfl, rfl⟩ := hf
      rw [run_enter Try.func26 (by kernel_rfl) (by kernel_rfl)]
      refine ⟨rfl, (newMeter_walk x w).mono ?_⟩
      rintro e w'' ⟨rfl, rfl⟩
      refine ⟨w.heap.size, rfl, heap_new w _, Nat.le_refl _, by rw [World.size_alloc]; omega, rfl, rfl, rfl, by rw [World.size_alloc]; omega, fun k hk => ?_⟩
      simp only [World.alloc, Array.getElem?_push]
      rw [if_neg (by omega)]
    · cases hf
theorem run_add {P : Program} (a d : Int) (w : World) : (Op.intArith .add .i64 a d).run P w = .ok (.int .i64 (W (a + d))) w := rfl
theorem add_walk (b : Nat) (m a d : Int) (t : TypeId) (w : World) (h : w.heap[b]? = some (.cells [vi m, vi a].toArray t (0, 0))) : Calls Try.prog 49 #[.pointer (some ⟨b, 1, none⟩), vi d] w fun e w' => e = .returned (vi (W (a + d))) ∧ w' = w.setCell ⟨b, 1, none⟩ (vi (W (a + d))) := by
  have hc : w.cell? ⟨b, 1, none⟩ = some (.int .i64 a) := cell1 h
  have hz : w.frozen? ⟨b, 1, none⟩ = false := froz1 h
  have hadd := run_call_add (P := Try.prog) Try.func66 (by kernel_rfl) (by kernel_rfl) (by kernel_rfl) .i64 (by kernel_rfl) (y := d) (s := W (a + d)) hc hz (run_add a d w)
  go_enter Try.func49, Try.ntmps49
  go_wp2
  simp [bodyPost, results, Try.results49, go_sem]
theorem load_walk (b off : Nat) (a : Int) (w : World) (hc : w.cell? ⟨b, off, none⟩ = some (.int .i64 a)) : Calls Try.prog 50 #[.pointer (some ⟨b, off, none⟩)] w fun e w' => e = .returned (vi a) ∧ w' = w := by
  have hl := run_call_load (P := Try.prog) Try.func67 (by kernel_rfl) (by kernel_rfl) (by kernel_rfl) .i64 (by kernel_rfl) hc
  go_enter Try.func50, Try.ntmps50
  go_wp2
  simp [bodyPost, results, Try.results50, go_sem]
set_option maxHeartbeats 4000000 in
theorem take_walk (b : Nat) (m a : Int) (t : TypeId) (w : World) (h : w.heap[b]? = some (.cells [vi m, vi a].toArray t (0, 0))) : Calls Try.prog 27 #[.pointer (some ⟨b, 0, none⟩)] w fun e w' => e = .returned (vb (decide (W (a + 1) ≤ m))) ∧ Dyn.LentPost w w' [b] [(t, [vi m, vi (W (a + 1))])] := by
  have c0 : w.cell? ⟨b, 0, none⟩ = some (.int .i64 m) := cell0 h
  have c1 : w.cell? ⟨b, 1, none⟩ = some (.int .i64 a) := cell1 h
  go_enter Try.func27, Try.ntmps27
  go_wp2
  have c0' : ∀ v : Value, (w.drew.setCell ⟨b, 1, none⟩ v).cell? ⟨b, 0, none⟩ = some (.int .i64 m) := fun v => by rw [World.cell?_setCell_other _ _ _ _ (by simp)]; exact c0
  go_region_with (go_at_call 49; refine (add_walk b m a 1 t w.drew h).mono ?_; rintro e w'' ⟨rfl, rfl⟩)
  all_goals go_wp2
  all_goals simp [bodyPost, results, Try.results27, go_sem]
  all_goals exact post_set h rfl rfl rfl rfl
theorem take_x (m a : Int) : Dyn.CallX Try.prog 27 [.lp 0 0] [(97, [vi m, vi a])] (vb (decide (W (a + 1) ≤ m))) [[vi m, vi (W (a + 1))]] :=
  callX_walk Try.func27 (by kernel_rfl) (by kernel_rfl) fun w F bs us hla hden => by
    obtain ⟨b, vs, rfl, hb, rfl, hd⟩ := lent1 hla hden
    cases vs with
    | nil => exact take_walk b m a _ w hb
    | cons v vs => exact hd.elim
theorem imin_l {a m : Int} (h : m < a) : m = imin a m := by unfold imin; split <;> omega
theorem imin_r {a m : Int} (h : a ≤ m) : a = imin a m := by unfold imin; split <;> omega
set_option maxHeartbeats 4000000 in
theorem used_walk (b off : Nat) (m a : Int) (w : World) (c0 : w.cell? ⟨b, off, none⟩ = some (.int .i64 m)) (c1 : w.cell? ⟨b, off + 1, none⟩ = some (.int .i64 a)) : Calls Try.prog 28 #[.pointer (some ⟨b, off, none⟩)] w fun e w' => e = .returned (vi (imin a m)) ∧ w' = w.drew := by
  go_enter Try.func28, Try.ntmps28
  go_wp2
  have c0' : w.drew.cell? ⟨b, off, none⟩ = some (.int .i64 m) := c0
  have c1' : w.drew.cell? ⟨b, off + 1, none⟩ = some (.int .i64 a) := c1
  go_region_with (go_at_call 50; refine (load_walk b (off + 1) a w.drew c1').mono ?_; rintro e w'' ⟨rfl, rfl⟩)
  all_goals go_wp2
  all_goals simp [bodyPost, results, Try.results28, go_sem]
  all_goals first | exact imin_l (by assumption) | exact imin_r (by assumption)
end Go.Proofs.Ythnenjodighlmaa
