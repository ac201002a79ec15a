/-
  OWN WORK. Joined by merge.py: Pib Pic Fin Fio Poi Pos Pou Fis Pid Ctt Fip Fiq Fit Dla Dle Awt Cnt Pie Pif.
-/
import Derived.Test.YthnenjodighlmaaQE
import Derived.RangeFuncNested
import Derived.RangeFuncBound
import Derived.RangeFuncCalls
import Derived.RangeFuncLeaves
import Derived.RangeFuncBox
import Derived.Shelf.Abstract
import Derived.Shelf.RegionOpen
import Derived.WalkKit
import Derived.OwnWalkIn
import Derived.TacticsInMore
import Derived.LoopNIn
import Derived.LoopIn
import Derived.Deep.WholeRow
import Derived.Test.YthnenjodighlmaaQH
import Derived.Test.YthnenjodighlmaaQF
import Derived.Test.YthnenjodighlmaaQG
import Derived.Test.YthnenjodighlmaaQI
/-! ## Pib -/
namespace Go.Proofs.Ythnenjodighlmaa
open Go Go.RowKit Go.Shelf
set_option maxRecDepth 100000

attribute [local go_sem] Oper.semAt_some

/-- what has come when k rounds are over: f 0, .., f (k - 1) -/
def upto {α : Type} (f : Nat → α) (k : Nat) : List α := (List.range k).map f
theorem upto_succ {α : Type} (f : Nat → α) (k : Nat) : upto f (k + 1) = upto f k ++ [f k] := by simp [upto, List.range_succ]
theorem upto_length {α : Type} (f : Nat → α) (k : Nat) : (upto f k).length = k := by simp [upto]
/-- the cells of an object -/
def obA (g : Nat → Nat → Value) (i : Nat) : Array Value := #[g i 0, g i 1, g i 2, g i 3, g i 4, g i 5, g i 6, g i 7, g i 8, g i 9, g i 10]
theorem backward_in (F : Fence) (n : Nat) (h5 : F.fn 47) (hro : F.round = none) (a : Option Addr) (len cap : Nat) (w : World) :
    CallsIn F n Try.prog 47 #[.slice a len cap] w fun e w' => e = .returned (.func (.func 64) #[] #[.pointer (some ⟨w.heap.size, 0, none⟩)]) ∧ w' = w.alloc (.cells #[.slice a len cap] 44) := by
  refine callsIn_of_wp Try.func47 rfl h5 ?_ hro
  simp only [Try.ntmps47, List.size_toArray, List.length_cons, List.length_nil, Nat.reduceAdd, Nat.reduceSub, Array.replicate_succ, Array.replicate_zero, List.push_toArray, List.append_toArray, List.nil_append, List.cons_append]
  gi_wp2
  go_ret
  exact ⟨rfl, rfl⟩
set_option maxHeartbeats 2000000 in
theorem back1_nil (F : Fence) (n : Nat) (h8 : F.fn 64) (hro : F.round = none) (l Bs : Nat) (a : Option Addr) (cap : Nat) {α : Type} (J : List α → World → Prop) (W : World) (hBs : W.cell? ⟨Bs, 0, none⟩ = some (.slice a 0 cap)) (h0 : J [] W) :
    CallsIn F n Try.prog 64 #[.func (.yield l) #[] #[], .pointer (some ⟨Bs, 0, none⟩)] W fun e W' => (∃ v, e = .returned v) ∧ J [] W' := by
  refine callsIn_of_wp Try.func64 rfl h8 ?_ hro
  simp only [Try.ntmps64, List.size_toArray, List.length_cons, List.length_nil, Nat.reduceAdd, Nat.reduceSub, Array.replicate_succ, Array.replicate_zero, List.push_toArray, List.append_toArray, List.nil_append, List.cons_append]
  gi_wp2
  gi_loopw [3] (fun i wr => i = .int .i64 (-1) ∧ J [] wr) (fun _ _ => 0)
  case atStart => exact ⟨rfl, h0⟩
  case round =>
    obtain ⟨rfl, hJs⟩ := hrel
    gi_wp2
    go_end0
    exact ⟨⟨_, rfl⟩, hJs⟩
set_option maxHeartbeats 4000000 in
/-- the closure, from the last element to the first -/
theorem back1_in (F : Fence) (n : Nat) (h8 : F.fn 64) (hro : F.round = none) (hn : 1 ≤ n) (l Bs n₀ b off len cap : Nat) (g : Nat → Nat → Value) (hp : 0 < len) (hlen : len ≤ 1000000000) (hb : b < n₀) (hB2 : Bs < n₀) (J Jx : List { j : Nat // j < len } → World → Prop)
    (hY : ∀ pre x W, J pre W → pre.length < len → YieldAt F (n - 1) Try.prog l #[.int .i64 (x.1 : Int), .agg (obA g x.1)] W fun e W' =>
      (e = .returned (.bool true) ∧ J (pre ++ [x]) W' ∧ Below n₀ W W') ∨ (e = .returned (.bool false) ∧ Jx (pre ++ [x]) W'))
    (W : World) (hBs : W.cell? ⟨Bs, 0, none⟩ = some (.slice (some ⟨b, off, none⟩) len cap)) (hc : ∀ i, i < len → ∀ j, j < 11 → W.cell? ⟨b, off + i * 11 + j, none⟩ = some (g i j)) (h0 : J [] W) :
    CallsIn F n Try.prog 64 #[.func (.yield l) #[] #[], .pointer (some ⟨Bs, 0, none⟩)] W fun e W' => (∃ v, e = .returned v) ∧
      ((∃ ys, ys = upto (fun k => (⟨len - 1 - k, by omega⟩ : { j : Nat // j < len })) len ∧ J ys W') ∨ (∃ pre, (∃ k, k ≤ len ∧ pre = upto (fun k => (⟨len - 1 - k, by omega⟩ : { j : Nat // j < len })) k) ∧ Jx pre W')) := by
  refine callsIn_of_wp Try.func64 rfl h8 ?_ hro
  simp only [Try.ntmps64, List.size_toArray, List.length_cons, List.length_nil, Nat.reduceAdd, Nat.reduceSub, Array.replicate_succ, Array.replicate_zero, List.push_toArray, List.append_toArray, List.nil_append, List.cons_append]
  gi_wp2
  gi_loopw [3] (fun i wr => ∃ k : Nat, k ≤ len ∧ i = .int .i64 ((len : Int) - 1 - k) ∧ J (upto (fun k => (⟨len - 1 - k, by omega⟩ : { j : Nat // j < len })) k) wr ∧ Below n₀ W wr)
    (fun i _ => (intOf i + 1).toNat)
  case atStart => exact ⟨0, Nat.zero_le _, by simp, h0, Below.refl _ _⟩
  case round =>
    obtain ⟨k, hk, rfl, hJs, hnx⟩ := hrel
    by_cases hlt : k < len
    · obtain ⟨fn, tmps, assign, body, hy, hR⟩ := hY _ (⟨len - 1 - k, by omega⟩ : { j : Nat // j < len }) wr hJs (by rw [upto_length]; exact hlt)
      dsimp only at hy
      have hi : ((len : Int) - 1 - k) = ((len - 1 - k : Nat) : Int) := by omega
      rw [hi]
      have cc : ∀ j, j < 11 → wr.cell? ⟨b, off + (len - 1 - k) * 11 + j, none⟩ = some (g (len - 1 - k) j) := fun j hj => (hnx.cell (p := ⟨b, off + (len - 1 - k) * 11 + j, none⟩) hb).trans (hc _ (by omega) j hj)
      have hBs' := (hnx.cell (p := ⟨Bs, 0, none⟩) hB2).trans hBs
      have cc0 := cc 0 (by decide)
      have cc1 := cc 1 (by decide)
      have cc2 := cc 2 (by decide)
      have cc3 := cc 3 (by decide)
      have cc4 := cc 4 (by decide)
      have cc5 := cc 5 (by decide)
      have cc6 := cc 6 (by decide)
      have cc7 := cc 7 (by decide)
      have cc8 := cc 8 (by decide)
      have cc9 := cc 9 (by decide)
      have cc10 := cc 10 (by decide)
      rw [Nat.add_zero] at cc0
      clear cc
      unfold obA at hy
      gi_wp2
      refine hR.mono ?_
      rintro e W3 (⟨rfl, hJ3, hk3⟩ | ⟨rfl, hJx3⟩)
      · gi_wp2
        go_roundw
        case rel => exact ⟨k + 1, by omega, by simp; omega, by rw [upto_succ]; exact hJ3, hnx.trans hk3⟩
        case measure => (simp [intOf]; try omega)
      · gi_wp2
        refine bodyPost_ret (results_none rfl _ _ _) rfl ?_
        exact ⟨⟨_, rfl⟩, .inr ⟨_, ⟨k + 1, by omega, (upto_succ _ _).symm⟩, hJx3⟩⟩
    · obtain rfl : k = len := by omega
      gi_wp2
      go_end0
      exact ⟨⟨_, rfl⟩, .inl ⟨_, rfl, hJs⟩⟩
/-- the value of a row of objects, its cells in a block below n₀ -/
def Objs (n₀ : Nat) (W : World) (oa : Option Addr) (len : Nat) (g : Nat → Nat → Value) : Prop :=
  len = 0 ∨ ∃ b off, oa = some ⟨b, off, none⟩ ∧ b < n₀ ∧ ∀ i, i < len → ∀ j, j < 11 → W.cell? ⟨b, off + i * 11 + j, none⟩ = some (g i j)
theorem Objs.below {n₀ : Nat} {A B : World} (h : Below n₀ A B) {oa : Option Addr} {len : Nat} {g : Nat → Nat → Value} : Objs n₀ A oa len g → Objs n₀ B oa len g
  | .inl e => .inl e
  | .inr ⟨b, off, e, hb, hc⟩ => .inr ⟨b, off, e, hb, fun i hi j hj => (h.cell (p := ⟨b, off + i * 11 + j, none⟩) hb).trans (hc i hi j hj)⟩
theorem Objs.up {n₀ n₁ : Nat} (h : n₀ ≤ n₁) {W : World} {oa : Option Addr} {len : Nat} {g : Nat → Nat → Value} : Objs n₀ W oa len g → Objs n₁ W oa len g
  | .inl e => .inl e
  | .inr ⟨b, off, e, hb, hc⟩ => .inr ⟨b, off, e, by omega, hc⟩
def bkF (len : Nat) (hp : 0 < len) (k : Nat) : { j : Nat // j < len } := ⟨len - 1 - k, by omega⟩
theorem back_stops (F : Fence) (n : Nat) (h8 : F.fn 64) (hro : F.round = none) (hn : 1 ≤ n) (Bs n₀ : Nat) (oa : Option Addr) (len cap : Nat) (hlen : len ≤ 1000000000) (g : Nat → Nat → Value) (w : World) (hB2 : Bs < n₀) (hn₀ : n₀ ≤ w.heap.size)
    (hc : w.cell? ⟨Bs, 0, none⟩ = some (.slice oa len cap)) (hI : Objs n₀ w oa len g) :
    SeqStopsK F n Try.prog 64 #[.pointer (some ⟨Bs, 0, none⟩)] (fun x : { j : Nat // j < len } => #[Value.int .i64 (x.1 : Int), Value.agg (obA g x.1)]) (Below n₀) (fun ys => ∀ j, (h : j < len) → ⟨j, h⟩ ∈ ys)
      (fun pre => ∃ k, k ≤ len ∧ ∃ hp : 0 < len, pre = upto (bkF len hp) k) len w := fun l J Jx W hW _ _ hY h0 => by
  have hc' := (hW.cell (p := ⟨Bs, 0, none⟩) (by show Bs < _; omega)).trans hc
  rcases hI.below (hW.mono hn₀) with rfl | ⟨b, off, rfl, hb, hcs⟩
  · exact (back1_nil F n h8 hro l Bs oa cap J W hc' h0).mono fun e W' ⟨he, hj⟩ => ⟨he, .inl ⟨_, fun j h => absurd h (Nat.not_lt_zero j), hj⟩⟩
  · by_cases hp : 0 < len
    · refine (back1_in F n h8 hro hn l Bs n₀ b off len cap g hp hlen hb hB2 J Jx hY W hc' hcs h0).mono ?_
      rintro e W' ⟨he, ⟨ys, rfl, hj⟩ | ⟨pre, ⟨k, hk, rfl⟩, hj⟩⟩
      · refine ⟨he, .inl ⟨_, fun j h => ?_, hj⟩⟩
        simp only [upto, List.mem_map, List.mem_range]
        exact ⟨len - 1 - j, by omega, Subtype.ext (by show len - 1 - (len - 1 - j) = j; omega)⟩
      · exact ⟨he, .inr ⟨_, ⟨k, hk, hp, rfl⟩, hj⟩⟩
    · obtain rfl : len = 0 := by omega
      exact (back1_nil F n h8 hro l Bs _ cap J W hc' h0).mono fun e W' ⟨he, hj⟩ => ⟨he, .inl ⟨_, fun j h => absurd h (Nat.not_lt_zero j), hj⟩⟩
end Go.Proofs.Ythnenjodighlmaa

/-! ## Pic -/
namespace Go.Proofs.Ythnenjodighlmaa
open Go Go.RowKit Go.Shelf
set_option maxRecDepth 100000

attribute [local go_sem] Oper.semAt_some

theorem uponIn_of {F : Fence} {n : Nat} {P : Program} {o : Oper} {a : Act} {K : Act → World → Prop} {Q : Exit → Act → World → Prop} {r r' : Result Next} (h : r = r') (k : Oper.uponIn F n P o a K Q r') : Oper.uponIn F n P o a K Q r := h ▸ k
def PilRes (len : Nat) (hasV addV : Nat → Bool) (r : Bool) : Prop := (r = false ∧ ∀ j, j < len → hasV j = false) ∨ ∃ k, k < len ∧ r = addV (len - 1 - k) ∧ hasV (len - 1 - k) = true ∧ ∀ j, j < k → hasV (len - 1 - j) = false
set_option maxHeartbeats 4000000 in
theorem has_in (F : Fence) (n : Nat) (hF : ∀ f, F.fn f) (hro : F.round = none) (hn : 4 ≤ n) (oa : Option Addr) (len cap : Nat) (hlen : len ≤ 1000000000) (g : Nat → Nat → Value) (x y : Int) (hasV addV : Nat → Bool) (w : World) (hI : Objs w.heap.size w oa len g) (hg : ∀ j, j < len → g j 0 = .bool (addV j)) (ho : ∀ i, i < len → ∀ j, j < 11 → (g i j).oneCell' = true)
    (hH : ∀ j, j < len → ∀ W m, Below w.heap.size w W → CallsIn F m Try.prog 48 #[.agg #[g j 1, g j 2, g j 3, g j 4, g j 5, g j 6, g j 7, g j 8, g j 9, g j 10], .agg #[.int .i64 x, .int .i64 y]] W fun e W' => e = .returned (.bool (hasV j)) ∧ Below W.heap.size W W') :
    CallsIn F n Try.prog 23 #[.slice oa len cap, .agg #[.int .i64 x, .int .i64 y]] w fun e W' => (∃ r, e = .returned (.bool r) ∧ PilRes len hasV addV r) ∧ Below w.heap.size w W' := by
  have h1 : 1 ≤ n := by omega
  refine callsIn_of_wp_marks Try.func23 rfl (hF _) ?_ hro
  simp only [Try.ntmps23, List.size_toArray, List.length_cons, List.length_nil, Nat.reduceAdd, Nat.reduceSub, Array.replicate_succ, Array.replicate_zero, List.push_toArray, List.append_toArray, List.nil_append, List.cons_append]
  gi_wp2_with (gi_at_call 47; refine (backward_in F (n - 1) (hF _) hro _ _ _ _).mono ?_; rintro e w' ⟨rfl, rfl⟩)
  have bP := ((Boxed.new w 23 (.int .i64 x)).alloc (.cells #[.bool false] 4))
  obtain ⟨W0, hW0⟩ : ∃ W0, ((w.alloc (.cells #[.int .i64 x, .int .i64 y] 23)).alloc (.cells #[.bool false] 4)).alloc (.cells #[.slice oa len cap] 44) = W0 := ⟨_, rfl⟩
  have hB0 : Below w.heap.size w W0 := by
    rw [← hW0]
    exact (((Below.refl _ w).alloc (Nat.le_refl _) _).alloc (by simp) _).alloc (by simp; omega) _
  have hsz : W0.heap.size = w.heap.size + 3 := by rw [← hW0]; simp
  have cX : W0.cell? ⟨w.heap.size, 0, none⟩ = some (.int .i64 x) := by
    rw [← hW0]
    have hb : Below (w.heap.size + 1) (w.alloc (.cells #[.int .i64 x, .int .i64 y] 23)) (((w.alloc (.cells #[.int .i64 x, .int .i64 y] 23)).alloc (.cells #[.bool false] 4)).alloc (.cells #[.slice oa len cap] 44)) := ((Below.refl _ _).alloc (by simp) _).alloc (by simp) _
    rw [hb.cell (p := ⟨w.heap.size, 0, none⟩) (Nat.lt_succ_self _)]
    rw [World.cell?, World.alloc_heap_new]; rfl
  have cY : W0.cell? ⟨w.heap.size, 1, none⟩ = some (.int .i64 y) := by
    rw [← hW0]
    have hb : Below (w.heap.size + 1) (w.alloc (.cells #[.int .i64 x, .int .i64 y] 23)) (((w.alloc (.cells #[.int .i64 x, .int .i64 y] 23)).alloc (.cells #[.bool false] 4)).alloc (.cells #[.slice oa len cap] 44)) := ((Below.refl _ _).alloc (by simp) _).alloc (by simp) _
    rw [hb.cell (p := ⟨w.heap.size, 1, none⟩) (Nat.lt_succ_self _)]
    rw [World.cell?, World.alloc_heap_new]; rfl
  have bR : Boxed W0 (w.heap.size + 1) 4 (.bool false) := by
    rw [← hW0]
    have := (Boxed.new (w.alloc (.cells #[.int .i64 x, .int .i64 y] 23)) 4 (.bool false)).alloc (.cells #[.slice oa len cap] 44)
    simpa using this
  have bN : Boxed W0 (w.heap.size + 1 + 1) 44 (.slice oa len cap) := by
    rw [← hW0]
    have := Boxed.new ((w.alloc (.cells #[.int .i64 x, .int .i64 y] 23)).alloc (.cells #[.bool false] 4)) 44 (.slice oa len cap)
    simpa using this
  rw [hW0]
  clear hW0
  refine wpIn_rangeFunc_ownH hro h1 (gf := 64) (lb := #[.pointer (some ⟨w.heap.size + 1 + 1, 0, none⟩)]) rfl (hF _) (enters_of Try.func64 (by kernel_rfl) rfl)
    (back_stops F (n - 1) (hF _) hro (by omega) (w.heap.size + 1 + 1) W0.heap.size oa len cap hlen g W0 (by omega) (Nat.le_refl _) bN.cell ((hI.below hB0).up (by omega))) belowK_t (belowK_b (Nat.le_refl _)) (Below.refl _ _) (fun _ => rfl)
    (fun pre W => (∀ x ∈ pre, hasV x.1 = false) ∧ Below W0.heap.size W0 W)
    (fun c pre W => (c = .ret ∧ ∃ ini last, pre = ini ++ [last] ∧ (∀ x ∈ ini, hasV x.1 = false) ∧ hasV last.1 = true ∧ W.cell? ⟨w.heap.size + 1, 0, none⟩ = some (.bool (addV last.1))) ∧ Below w.heap.size w W)
    (OwnFrom.and (ownFrom_pure _ _) (ownFrom_below (Nat.le_refl _) (Nat.le_refl _)))
    (fun c => OwnFrom.and (Own.from (fun s A B row hs hg hr => by obtain ⟨hc, ini, last, e1, e2, e3, e4⟩ := hs; exact ⟨hc, ini, last, e1, e2, e3, cell_kept e4 hg hr⟩) _) (ownFrom_below (by omega) (by omega)))
    ⟨by simp, Below.refl _ _⟩
    (fun z a' W => ∃ Bx, W0.heap.size ≤ Bx ∧ Bx < W.heap.size ∧ (∀ j v, (obA g z.1).toList[j]? = some v → W.cell? ⟨Bx, j, none⟩ = some v) ∧ a' = { tmps := #[.slice oa len cap, .agg #[.int .i64 x, .int .i64 y], undef, .pointer (some ⟨w.heap.size, 0, none⟩), .pointer (some ⟨w.heap.size + 1, 0, none⟩), undef, .pointer (some ⟨Bx, 0, none⟩), .slice oa len cap, .func (.func 64) #[] #[.pointer (some ⟨w.heap.size + 1 + 1, 0, none⟩)], .int .i64 (z.1 : Int), .agg (obA g z.1), undef, undef, undef, undef, undef, undef], defers := [] })
    (fun z a' _ X Y row hs hg hr => by obtain ⟨Bx, h1, h2, h3, h4⟩ := hs; exact ⟨Bx, h1, Nat.lt_of_lt_of_le h2 hg.size, fun j v hv => cell_kept (h3 j v hv) hg (fun r e => (hr r e).2), h4⟩)
    ?assign ?body ?done ?stop
  case assign =>
    rintro l pre z W K ⟨hp, hB1⟩ hK
    have o0 := ho z.1 z.2 0 (by decide)
    have o1 := ho z.1 z.2 1 (by decide)
    have o2 := ho z.1 z.2 2 (by decide)
    have o3 := ho z.1 z.2 3 (by decide)
    have o4 := ho z.1 z.2 4 (by decide)
    have o5 := ho z.1 z.2 5 (by decide)
    have o6 := ho z.1 z.2 6 (by decide)
    have o7 := ho z.1 z.2 7 (by decide)
    have o8 := ho z.1 z.2 8 (by decide)
    have o9 := ho z.1 z.2 9 (by decide)
    have o10 := ho z.1 z.2 10 (by decide)
    unfold obA
    gi_wp2
    refine uponIn_of (r' := .ok Next.skip (W.alloc (.cells (obA g z.1) 62))) ?_ ?_
    · have q := run_storeVar_new (P := Try.prog) W 62 #[.bool false, .int .i64 0, .int .i64 0, .int .i64 0, .int .i64 0, .int .i64 0, .int .i64 0, .int .i64 0, .int .i64 0, .slice none 0 0, .slice none 0 0] (obA g z.1) (by kernel_rfl) rfl (by simp [obA, o0, o1, o2, o3, o4, o5, o6, o7, o8, o9, o10])
      unfold obA at q ⊢
      simp [go_sem] at q
      rw [q]; rfl
    · gi_wp2
      refine hK _ _ ((KeepsOthers.alloc _ _).from _) ((Below.refl _ W).alloc hB1.size _) ⟨hp, hB1.alloc hB1.size _⟩ ⟨W.heap.size, hB1.size, by simp, fun j v hv => ?_, rfl⟩
      rw [World.cell?, World.alloc_heap_new]
      simpa using hv
  case body =>
    rintro l pre z a' W hl ⟨r, hr⟩ ⟨hp, hB1⟩ ⟨Bx, hBx, hlt, hcs, rfl⟩ hlen
    have h1' : 1 ≤ n - 1 - 1 := by omega
    have c0 : W.cell? ⟨Bx, 0, none⟩ = some (g z.1 0) := hcs 0 _ rfl
    have c1 : W.cell? ⟨Bx, 1, none⟩ = some (g z.1 1) := hcs 1 _ rfl
    have c2 : W.cell? ⟨Bx, 2, none⟩ = some (g z.1 2) := hcs 2 _ rfl
    have c3 : W.cell? ⟨Bx, 3, none⟩ = some (g z.1 3) := hcs 3 _ rfl
    have c4 : W.cell? ⟨Bx, 4, none⟩ = some (g z.1 4) := hcs 4 _ rfl
    have c5 : W.cell? ⟨Bx, 5, none⟩ = some (g z.1 5) := hcs 5 _ rfl
    have c6 : W.cell? ⟨Bx, 6, none⟩ = some (g z.1 6) := hcs 6 _ rfl
    have c7 : W.cell? ⟨Bx, 7, none⟩ = some (g z.1 7) := hcs 7 _ rfl
    have c8 : W.cell? ⟨Bx, 8, none⟩ = some (g z.1 8) := hcs 8 _ rfl
    have c9 : W.cell? ⟨Bx, 9, none⟩ = some (g z.1 9) := hcs 9 _ rfl
    have c10 : W.cell? ⟨Bx, 10, none⟩ = some (g z.1 10) := hcs 10 _ rfl
    clear hcs
    rw [hg z.1 z.2] at c0
    have dX := (hB1.cell (p := ⟨w.heap.size, 0, none⟩) (by show w.heap.size < _; omega)).trans cX
    have dY := (hB1.cell (p := ⟨w.heap.size, 1, none⟩) (by show w.heap.size < _; omega)).trans cY
    have dR : Boxed W (w.heap.size + 1) 4 (.bool false) := (hB1.block _ (by omega)).trans bR
    have hH' := fun m => hH z.1 z.2 W m (hB0.trans (hB1.mono (by omega)))
    gi_wp2_with (gi_at_call 48; refine (CallsIn.inRound l (hH' _)).mono ?_; rintro e w' ⟨rfl, hBw⟩; have e0 := (hBw.cell (p := ⟨Bx, 0, none⟩) hlt).trans c0; have dR2 : Boxed w' (w.heap.size + 1) 4 (.bool false) := (hBw.block _ dR.lt).trans dR; have e1 := dR2.cell; have e2 := dR2.frozen)
    · have hv : hasV z.1 = true := by assumption
      have hk : KeepsFrom W0.heap.size W w' := ⟨hBw.size, fun k o _ hk _ => (hBw.block k (Array.getElem?_eq_some_iff.1 hk).1).trans hk⟩
      have hW := hB1.size
      have hb : Below w.heap.size w w' := (hB0.trans (hB1.mono (by omega))).trans (hBw.mono (by omega))
      exact ⟨hk.trans ((KeepsOthers.setCell _ _ _).from _), ⟨rfl, pre, z, rfl, hp, hv, World.cell?_setCell_same' _ _ _ (by rw [e1]; rfl)⟩, hb.setCell (p := ⟨w.heap.size + 1, 0, none⟩) (by show w.heap.size ≤ w.heap.size + 1; omega) _⟩
    · have hv : hasV z.1 = false := by assumption
      have hk : KeepsFrom W0.heap.size W w' := ⟨hBw.size, fun k o _ hk _ => (hBw.block k (Array.getElem?_eq_some_iff.1 hk).1).trans hk⟩
      have hW := hB1.size
      exact ⟨hk, hBw.mono hW, fun u hu => (List.mem_append.1 hu).elim (hp u) (fun e => by simp at e; subst e; exact hv), hB1.trans (hBw.mono hW)⟩
  case done =>
    rintro D ys W hD hS ⟨hp, hB1⟩ hK
    have dR : Boxed W (w.heap.size + 1) 4 (.bool false) := (hB1.block _ (by omega)).trans bR
    have e1 := dR.cell
    have e2 := dR.frozen
    gi_wp2
    have hK' := (KeepsOthers.setCell W ⟨w.heap.size + 1, 0, none⟩ (.bool false)).same D _ hK rfl
    refine ⟨by simp, .inl ⟨_, _, rfl, run_takeDeferred hK', ?_⟩⟩
    have hc5 := cell_kept (World.cell?_setCell_same' W ⟨w.heap.size + 1, 0, none⟩ (.bool false) (by rw [e1]; rfl)) (grownBy_putObj' _ D (.deferred none)) (fun r e => by cases e; exact ⟨_, hK', rfl⟩)
    have hb : Below w.heap.size w W := hB0.trans (hB1.mono (by omega))
    refine ⟨.bool false, ?_, ⟨false, rfl, .inl ⟨rfl, fun j hj => hp ⟨j, hj⟩ (hS j hj)⟩⟩, (hb.setCell (p := ⟨w.heap.size + 1, 0, none⟩) (by show w.heap.size ≤ w.heap.size + 1; omega) _).trans (belowK_b (w := w) (Nat.le_refl _) _ D _ _ (by omega) hK' rfl rfl)⟩
    simp [results, Try.f23, go_sem, hc5]
  case stop =>
    rintro D c pre W hD ⟨k, hk, hp0, rfl⟩ ⟨⟨rfl, ini, last, e1, e2, e3, hcr⟩, hB⟩ hK
    gi_wp2
    refine ⟨by simp, .inl ⟨_, _, rfl, run_takeDeferred hK, ?_⟩⟩
    have hc5 := cell_kept hcr (grownBy_putObj' _ D (.deferred none)) (fun r e => by cases e; exact ⟨_, hK, rfl⟩)
    obtain ⟨k', rfl⟩ : ∃ k', k = k' + 1 := by
      cases k with
      | zero => simp [upto] at e1
      | succ k' => exact ⟨k', rfl⟩
    rw [upto_succ] at e1
    obtain ⟨rfl, e5⟩ := List.append_inj' e1 rfl
    obtain rfl : bkF len hp0 k' = last := by simpa using e5
    refine ⟨.bool (addV (len - 1 - k')), ?_, ⟨_, rfl, .inr ⟨k', by omega, rfl, e3, fun j hj => e2 (bkF len hp0 j) (by simp only [upto, List.mem_map, List.mem_range]; exact ⟨j, hj, rfl⟩)⟩⟩, hB.trans (belowK_b (w := w) (Nat.le_refl _) W D _ _ (by omega) hK rfl rfl)⟩
    simp [results, Try.f23, go_sem, hc5, bkF]
end Go.Proofs.Ythnenjodighlmaa

/-! ## Fin -/
namespace Go.Proofs.Ythnenjodighlmaa
open Go Go.RowKit Sym
set_option maxRecDepth 100000

/-! ### fine shapes -/
def FinC (P : P2 → Prop) (l : Ctr) : Prop := l.n ≤ 4 ∧ ∀ i, i < l.n → l.m i ≤ 12 ∧ ∀ k, k < l.m i → P (l.p i k)
def Fine (P : P2 → Prop) : Shp → Int → Prop
  | .nil, _ => False
  | .mk k a b c r l n _ sub, d =>
    (k = 1 ∧ b = ze ∧ c = ze ∧ l = zeC ∧ n = 0 ∧ P a ∧ widF r = true) ∨
    (k = 3 ∧ c = ze ∧ l = zeC ∧ n = 0 ∧ P a ∧ P b ∧ widF r = true) ∨
    (k = 4 ∧ c = ze ∧ l = zeC ∧ n = 0 ∧ P a ∧ P b ∧ widF r = true ∧ a ≠ b) ∨
    (k = 5 ∧ l = zeC ∧ n = 0 ∧ P a ∧ P b ∧ P c ∧ widF r = true ∧ okI c a b) ∨
    (k = 2 ∧ a = ze ∧ b = ze ∧ c = ze ∧ r = 0 ∧ n = 0 ∧ FinC P l) ∨
    (k = 6 ∧ a = ze ∧ b = ze ∧ c = ze ∧ r = 0 ∧ l = zeC ∧ d ≤ 5 ∧ ((n : Int) ≤ 4 - d ∨ n ≤ 1) ∧ ∀ i, i < n → Fine P (sub i) (d + 1))
/-- how many shapes there are at most, from depth d on -/
def Nd (d : Int) : Int := if d ≥ 6 then 1 else if d = 5 then 2 else if d = 4 then 3 else if d = 3 then 4 else if d = 2 then 9 else if d = 1 then 28 else 113
theorem Nd_one (d : Int) : 1 ≤ Nd d ∧ Nd d ≤ 113 := by unfold Nd; repeat' split <;> first | omega | (constructor <;> omega)
theorem Nd_step {d m : Int} (h0 : 0 ≤ d) (h5 : d ≤ 5) (h1 : 0 ≤ m) (h2 : m ≤ 4 - d ∨ m ≤ 1) : 1 + m * Nd (d + 1) ≤ Nd d := by
  have : d = 0 ∨ d = 1 ∨ d = 2 ∨ d = 3 ∨ d = 4 ∨ d = 5 := by omega
  rcases this with rfl | rfl | rfl | rfl | rfl | rfl
  · rw [show Nd (0 + 1) = 28 by decide, show Nd 0 = 113 by decide]; omega
  · rw [show Nd (1 + 1) = 9 by decide, show Nd 1 = 28 by decide]; omega
  · rw [show Nd (2 + 1) = 4 by decide, show Nd 2 = 9 by decide]; omega
  · rw [show Nd (3 + 1) = 3 by decide, show Nd 3 = 4 by decide]; omega
  · rw [show Nd (4 + 1) = 2 by decide, show Nd 4 = 3 by decide]; omega
  · rw [show Nd (5 + 1) = 1 by decide, show Nd 5 = 2 by decide]; omega
theorem runN_inv {α : Type} {g : Nat → α → Bool × α} (I : Nat → α → Prop) {a : α} (h0 : I 0 a) : ∀ n, (∀ i x, i < n → I i x → (g i x).1 = true ∧ I (i + 1) (g i x).2) → (runN g a n).1 = true ∧ I n (runN g a n).2
  | 0, _ => ⟨rfl, h0⟩
  | n + 1, h => by
    have k := runN_inv I h0 n (fun i x hi => h i x (by omega))
    have e : runN g a n = (true, (runN g a n).2) := Prod.ext k.1 rfl
    rw [runN_go e]
    exact h n _ (by omega) k.2
theorem ctg_fine {P : P2 → Prop} (hP : ∀ p, P p → nearF p = true) {l : Ctr} (h : FinC P l) : contoursF l = true := by
  unfold contoursF
  refine (runN_inv (fun i (left : Int) => 1000 - 12 * (i : Int) ≤ left ∧ left ≤ 1000) ⟨by omega, by omega⟩ l.n (fun i x hi hx => ?_)).1
  have hm := h.2 i hi
  have hn := h.1
  unfold ctgO
  rw [decide_eq_false (show ¬ (l.m i : Int) > x by omega)]
  refine ⟨?_, ?_⟩
  · show (runN (ctgI l i) () (l.m i)).1 = true
    exact (runN_inv (fun _ _ => True) trivial (l.m i) (fun k _ hk _ => ⟨hP _ (hm.2 k hk), trivial⟩)).1
  · show 1000 - 12 * ((i + 1 : Nat) : Int) ≤ W (x - l.m i) ∧ W (x - l.m i) ≤ 1000
    rw [W_id (by omega) (by omega)]; omega
theorem near_PR {p : P2} (h : nearF p = true) : PR p := by
  unfold nearF at h
  rw [andB_eq, andB_eq, andB_eq, Bool.and_eq_true, Bool.and_eq_true, Bool.and_eq_true, decide_eq_true_eq, decide_eq_true_eq, decide_eq_true_eq, decide_eq_true_eq] at h
  exact ⟨⟨by omega, by omega⟩, ⟨by omega, by omega⟩⟩
theorem eqP_iff {a b : P2} : (bif a.x == b.x then bif a.y == b.y then true else false else false) = true ↔ a = b := by
  obtain ⟨x, y⟩ := a
  obtain ⟨x', y'⟩ := b
  by_cases h : x = x'
  · by_cases k : y = y'
    · subst h; subst k; simp
    · simp [h, k]
  · simp [h]
theorem bare_1 (a : P2) (r : Int) (add : Nat → Bool) (sub : Nat → Shp) : bareF (toSh (.mk 1 a ze ze r zeC 0 add sub)) = true := by kernel_rfl
theorem bare_3 (a b : P2) (r : Int) (add : Nat → Bool) (sub : Nat → Shp) : bareF (toSh (.mk 3 a b ze r zeC 0 add sub)) = true := by kernel_rfl
theorem bare_4 (a b : P2) (r : Int) (add : Nat → Bool) (sub : Nat → Shp) : bareF (toSh (.mk 4 a b ze r zeC 0 add sub)) = true := by kernel_rfl
theorem bare_5 (a b c : P2) (r : Int) (add : Nat → Bool) (sub : Nat → Shp) : bareF (toSh (.mk 5 a b c r zeC 0 add sub)) = true := by kernel_rfl
theorem bare_2 (l : Ctr) (add : Nat → Bool) (sub : Nat → Shp) : bareF (toSh (.mk 2 ze ze ze 0 l 0 add sub)) = true := by kernel_rfl
theorem bare_6 (n : Nat) (add : Nat → Bool) (sub : Nat → Shp) : bareF (toSh (.mk 6 ze ze ze 0 zeC n add sub)) = true := by kernel_rfl
theorem fine_valid {P : P2 → Prop} (hP : ∀ p, P p → nearF p = true) : ∀ (s : Shp) (d forms left : Int), Fine P s d → 0 ≤ d → 0 ≤ forms → forms ≤ d → Nd d ≤ left → left ≤ 1000 →
    (validF s forms left).1 = true ∧ left - Nd d ≤ (validF s forms left).2 ∧ (validF s forms left).2 ≤ left := by
  intro s
  induction s with
  | nil => intro d forms left h; exact h.elim
  | mk k a b c r l n add sub ih =>
    intro d forms left h h0 hf hfd hl h1
    have nd := Nd_one d
    have nn := Nd_one (d + 1)
    have e1 : decide (left < 1) = false := decide_eq_false (by omega)
    have e2 : W (left - 1) = left - 1 := W_id (by omega) (by omega)
    have fin : ∀ v : Bool × Int, v = (true, left - 1) → v.1 = true ∧ left - Nd d ≤ v.2 ∧ v.2 ≤ left := fun v hv => by subst hv; exact ⟨rfl, by dsimp only; omega, by dsimp only; omega⟩
    rcases h with ⟨rfl, rfl, rfl, rfl, rfl, ha, hr⟩ | ⟨rfl, rfl, rfl, rfl, ha, hb, hr⟩ | ⟨rfl, rfl, rfl, rfl, ha, hb, hr, hn⟩ | ⟨rfl, rfl, rfl, ha, hb, hc, hr, ho⟩ | ⟨rfl, rfl, rfl, rfl, rfl, rfl, hc⟩ | ⟨rfl, rfl, rfl, rfl, rfl, rfl, h5, hm, hs⟩
    · refine fin _ ?_
      simp only [validF]
      rw [e1, bare_1, e2, hP a ha, hr]; rfl
    · refine fin _ ?_
      simp only [validF]
      rw [e1, bare_3, e2, hP a ha, hP b hb, hr]; rfl
    · refine fin _ ?_
      simp only [validF]
      rw [e1, bare_4, e2, hP a ha, hP b hb, hr, show (bif a.x == b.x then bif a.y == b.y then true else false else false) = false by rw [Bool.eq_false_iff]; exact fun q => hn (eqP_iff.1 q)]; rfl
    · refine fin _ ?_
      simp only [validF]
      rw [e1, bare_5, e2, hP a ha, hP b hb, hP c hc, hr, (ringOk_eq (near_PR (hP c hc)) (near_PR (hP a ha)) (near_PR (hP b hb))).2 ho]; rfl
    · refine fin _ ?_
      simp only [validF]
      rw [e1, bare_2, e2, ctg_fine hP hc]; rfl
    · have st := Nd_step h0 h5 (show 0 ≤ (n : Int) by omega) (by omega)
      have key := runN_inv (g := fun i lf => validF (sub i) (W (forms + 1)) lf) (a := left - 1) (fun i (lf : Int) => left - 1 - (i : Int) * Nd (d + 1) ≤ lf ∧ lf ≤ left - 1) ⟨by omega, by omega⟩ n (fun i x hi hx => by
        have a1 : ((i + 1 : Nat) : Int) * Nd (d + 1) ≤ (n : Int) * Nd (d + 1) := Int.mul_le_mul_of_nonneg_right (by omega) (by omega)
        have a2 : ((i + 1 : Nat) : Int) * Nd (d + 1) = (i : Int) * Nd (d + 1) + Nd (d + 1) := by rw [show ((i + 1 : Nat) : Int) = (i : Int) + 1 by omega, Int.add_mul, Int.one_mul]
        have w : W (forms + 1) = forms + 1 := W_id (by omega) (by omega)
        have q := ih i (d + 1) (forms + 1) x (hs i hi) (by omega) (by omega) (by omega) (by omega) (by omega)
        rw [w]
        refine ⟨q.1, ?_, ?_⟩
        · omega
        · omega)
      have ev : validF (.mk 6 ze ze ze 0 zeC n add sub) forms left = runN (fun i lf => validF (sub i) (W (forms + 1)) lf) (left - 1) n := by
        simp only [validF]
        rw [e1, bare_6, e2, decide_eq_false (show ¬ forms ≥ 8 by omega)]; rfl
      rw [ev]
      exact ⟨key.1, by omega, by omega⟩
theorem fine_ok {P : P2 → Prop} (hP : ∀ p, P p → nearF p = true) {s : Shp} (h : Fine P s 0) : okE (toSh s) = true := by
  unfold okE
  rw [vE_eq]
  exact (fine_valid hP s 0 0 1000 h (by decide) (by decide) (by decide) (by decide) (by decide)).1
end Go.Proofs.Ythnenjodighlmaa

/-! ## Fio -/
namespace Go.Proofs.Ythnenjodighlmaa
open Go Go.RowKit Sym
set_option maxRecDepth 100000

/-- no farther out than B -/
def PB (B : Int) (p : P2) : Prop := (-B ≤ p.x ∧ p.x ≤ B) ∧ (-B ≤ p.y ∧ p.y ≤ B)
theorem PB_near {B : Int} (h : B ≤ 536870912) {p : P2} (k : PB B p) : nearF p = true := by
  unfold nearF
  rw [decide_eq_true (show p.x ≥ -536870912 by have := k.1; omega), decide_eq_true (show p.x ≤ 536870912 by have := k.1; omega), decide_eq_true (show p.y ≥ -536870912 by have := k.2; omega), decide_eq_true (show p.y ≤ 536870912 by have := k.2; omega)]
  rfl
/-- how far out a tame shape goes -/
def tmX (sm : Bool) : Int := bif sm then 40 else 536870912
theorem at_PB (p : P2) (sm : Bool) : PB (tmX sm) (atP p sm) := by
  cases sm
  · exact lPt_r p
  · have h := lClose_r p (n := 20) (by decide) (by decide)
    exact ⟨⟨by show (-40 : Int) ≤ (lClose p 20).x; omega, by show (lClose p 20).x ≤ (40 : Int); omega⟩, ⟨by show (-40 : Int) ≤ (lClose p 20).y; omega, by show (lClose p 20).y ≤ (40 : Int); omega⟩⟩
theorem at_PB0 (p : P2) (sm : Bool) : (-536870912 ≤ (atP p sm).x ∧ (atP p sm).x ≤ 536870912) := by
  have h := at_PB p sm
  cases sm
  · exact h.1
  · have := h.1; unfold tmX at this; simp only [cond_true] at this; omega
theorem tmB_ok (s : Sh) (sm : Bool) : PB (tmX sm) (tmB s sm) ∧ atP s.a sm ≠ tmB s sm := by
  have hb := at_PB s.b sm
  have h0 := at_PB0 s.b sm
  have hx : 40 ≤ tmX sm := by cases sm <;> decide
  unfold tmB
  cases e : eqP (atP s.a sm) (atP s.b sm)
  · refine ⟨hb, fun q => ?_⟩
    rw [Bool.eq_false_iff] at e
    exact e (eqP_iff.2 q)
  · have ea : atP s.a sm = atP s.b sm := eqP_iff.1 e
    cases g : decide ((atP s.b sm).x > 0)
    · rw [decide_eq_false_iff_not] at g
      have w : W ((atP s.b sm).x + 1) = (atP s.b sm).x + 1 := W_id (by omega) (by omega)
      refine ⟨⟨⟨by show _ ≤ W ((atP s.b sm).x + 1); rw [w]; have := hb.1; omega, by show W ((atP s.b sm).x + 1) ≤ _; rw [w]; omega⟩, hb.2⟩, fun q => ?_⟩
      have : (atP s.a sm).x = W ((atP s.b sm).x + 1) := congrArg P2.x q
      rw [ea, w] at this; omega
    · rw [decide_eq_true_eq] at g
      have w : W ((atP s.b sm).x - 1) = (atP s.b sm).x - 1 := W_id (by omega) (by omega)
      refine ⟨⟨⟨by show _ ≤ W ((atP s.b sm).x - 1); rw [w]; omega, by show W ((atP s.b sm).x - 1) ≤ _; rw [w]; have := hb.1; omega⟩, hb.2⟩, fun q => ?_⟩
      have : (atP s.a sm).x = W ((atP s.b sm).x - 1) := congrArg P2.x q
      rw [ea, w] at this; omega
theorem tmR_ok (s : Sh) (sm : Bool) : widF (tmR s sm) = true := by
  have h := lR_bd s.r
  unfold widF
  cases sm
  · show andB (decide (lR s.r ≥ 1)) (decide (lR s.r ≤ 536870912)) = true
    rw [decide_eq_true (show lR s.r ≥ 1 by omega), decide_eq_true h.2]; rfl
  · have h1 := Int.tmod_nonneg (a := lR s.r) 15 (by omega)
    have h2 := (tmod_bd (lR s.r) (n := 15) (by decide)).2
    show andB (decide (W ((lR s.r).tmod 15 + 1) ≥ 1)) (decide (W ((lR s.r).tmod 15 + 1) ≤ 536870912)) = true
    rw [W_id (by omega) (by omega), decide_eq_true (show (lR s.r).tmod 15 + 1 ≥ 1 by omega), decide_eq_true (show (lR s.r).tmod 15 + 1 ≤ 536870912 by omega)]; rfl
theorem arcC_PB (c : P2) (sm : Bool) : PB (tmX sm) (arcC c sm) := by
  cases sm
  · have h := arcC_r c false
    exact ⟨⟨by show (-536870912 : Int) ≤ _; omega, by show _ ≤ (536870912 : Int); omega⟩, ⟨by show (-536870912 : Int) ≤ _; omega, by show _ ≤ (536870912 : Int); omega⟩⟩
  · have h := arcC_s c
    exact ⟨⟨by show (-40 : Int) ≤ _; omega, by show _ ≤ (40 : Int); omega⟩, ⟨by show (-40 : Int) ≤ _; omega, by show _ ≤ (40 : Int); omega⟩⟩
theorem arcAt_PB (c : P2) (f s : Int) (sm : Bool) : PB (tmX sm) (arcAt c f s sm) := by
  rw [arcAt_eq]
  have h := circ_ok f
  cases sm
  · have hc := arcC_r c false
    have kk := arcK_bd s false
    have x := mul_bd (A := 20000000) (B := 5) (x := arcK s false) (y := (circ f).x) (by omega) (by omega) h.x.1 h.x.2
    have y := mul_bd (A := 20000000) (B := 5) (x := arcK s false) (y := (circ f).y) (by omega) (by omega) h.y.1 h.y.2
    exact ⟨⟨by show (-536870912 : Int) ≤ (arcC c false).x + _; omega, by show (arcC c false).x + _ ≤ (536870912 : Int); omega⟩, ⟨by show (-536870912 : Int) ≤ (arcC c false).y + _; omega, by show (arcC c false).y + _ ≤ (536870912 : Int); omega⟩⟩
  · have hc := arcC_s c
    have kk := arcK1_bd s
    have x := mul_bd (A := 4) (B := 5) (x := arcK1 s) (y := (circ f).x) (by omega) (by omega) h.x.1 h.x.2
    have y := mul_bd (A := 4) (B := 5) (x := arcK1 s) (y := (circ f).y) (by omega) (by omega) h.y.1 h.y.2
    exact ⟨⟨by show (-40 : Int) ≤ (arcC c true).x + arcK1 s * (circ f).x; omega, by show (arcC c true).x + arcK1 s * (circ f).x ≤ (40 : Int); omega⟩, ⟨by show (-40 : Int) ≤ (arcC c true).y + arcK1 s * (circ f).y; omega, by show (arcC c true).y + arcK1 s * (circ f).y ≤ (40 : Int); omega⟩⟩
theorem arc_okJ (c : P2) (f t s : Int) (sm : Bool) : okI (arcC c sm) (arcAt c f s sm) (arcAt c t s sm) := by
  have kk := arcK_bd s sm
  have a := (onC_r (arcC_r c sm) kk (circ_ok f)).2
  have b := (onC_r (arcC_r c sm) kk (circ_ok t)).2
  rw [arcAt_eq, arcAt_eq]
  have p : 1 ≤ arcK s sm * arcK s sm := Int.le_trans (show (1 : Int) ≤ 1 * 1 by decide) (Int.mul_le_mul kk.1 kk.1 (by decide) (by omega))
  exact ⟨by rw [a]; omega, by rw [a, b]⟩
theorem tameC_Fin (l : Ctr) (sm : Bool) : FinC (PB (tmX sm)) (tameC l sm) := by
  refine ⟨by show min l.n 4 ≤ 4; omega, fun i _ => ⟨by show min (l.m i) 12 ≤ 12; omega, fun k _ => ?_⟩⟩
  cases sm
  · exact lPt_r (l.p i k)
  · have h := lClose_r (lPt (l.p i k)) (n := 20) (by decide) (by decide)
    exact ⟨⟨by show (-40 : Int) ≤ (lClose (lPt (l.p i k)) 20).x; omega, by show (lClose (lPt (l.p i k)) 20).x ≤ (40 : Int); omega⟩, ⟨by show (-40 : Int) ≤ (lClose (lPt (l.p i k)) 20).y; omega, by show (lClose (lPt (l.p i k)) 20).y ≤ (40 : Int); omega⟩⟩
theorem tmK0_bd (s : Sh) : 1 ≤ tmK0 s ∧ tmK0 s ≤ 6 := by
  have a := tmod_bd s.k (n := 6) (by decide)
  have w : W (s.k.tmod 6 + 6) = s.k.tmod 6 + 6 := W_id (by omega) (by omega)
  have b := Int.tmod_nonneg (a := s.k.tmod 6 + 6) 6 (by omega)
  have c := (tmod_bd (s.k.tmod 6 + 6) (n := 6) (by decide)).2
  unfold tmK0
  rw [w, W_id (by omega) (by omega)]; omega
theorem tmKk_bd (s : Sh) (d : Int) : (1 ≤ tmKk s d ∧ tmKk s d ≤ 6) ∧ (tmKk s d = 6 → d ≤ 5) := by
  have a := tmK0_bd s
  unfold tmKk
  by_cases h : d > 5
  · rw [decide_eq_true h]
    cases g : tmK0 s == 6
    · refine ⟨a, fun e => ?_⟩
      have e : tmK0 s = 6 := e
      rw [e] at g; cases g
    · exact ⟨by show (1 : Int) ≤ 1 ∧ (1 : Int) ≤ 6; omega, fun e => by cases e⟩
  · rw [decide_eq_false h]
    exact ⟨a, fun _ => by omega⟩
theorem tame_fine (sm : Bool) : ∀ (s : Shp) (d : Int), ShB s → 0 ≤ d → d ≤ 6 → Fine (PB (tmX sm)) (tameS s sm d) d := by
  intro s
  induction s with
  | nil => intro d h; exact h.elim
  | mk k a b c r l n add sub ih =>
    intro d h h0 h6
    have kk := tmKk_bd ⟨k, a, b, c, r, l, n, noF⟩ d
    have kb := tmB_ok ⟨k, a, b, c, r, l, n, noF⟩ sm
    have kr := tmR_ok ⟨k, a, b, c, r, l, n, noF⟩ sm
    simp only [tameS]
    generalize tmKk ⟨k, a, b, c, r, l, n, noF⟩ d = K at *
    have : K = 1 ∨ K = 2 ∨ K = 3 ∨ K = 4 ∨ K = 5 ∨ K = 6 := by omega
    rcases this with rfl | rfl | rfl | rfl | rfl | rfl
    · exact .inl ⟨rfl, rfl, rfl, rfl, rfl, at_PB a sm, kr⟩
    · exact .inr (.inr (.inr (.inr (.inl ⟨rfl, rfl, rfl, rfl, rfl, rfl, tameC_Fin l sm⟩))))
    · exact .inr (.inl ⟨rfl, rfl, rfl, rfl, at_PB a sm, kb.1, kr⟩)
    · exact .inr (.inr (.inl ⟨rfl, rfl, rfl, rfl, at_PB a sm, kb.1, kr, kb.2⟩))
    · exact .inr (.inr (.inr (.inl ⟨rfl, rfl, rfl, arcAt_PB _ _ _ _, arcAt_PB _ _ _ _, arcC_PB _ _, kr, arc_okJ _ _ _ _ _⟩)))
    · have h5 := kk.2 rfl
      have w : W (4 - d) = 4 - d := W_id (by omega) (by omega)
      have wd : W (d + 1) = d + 1 := W_id (by omega) (by omega)
      have hn : tmN ⟨k, a, b, c, r, l, n, noF⟩ d = min n (imax (4 - d) 1).toNat := by unfold tmN; rw [w]
      refine .inr (.inr (.inr (.inr (.inr ⟨rfl, rfl, rfl, rfl, rfl, rfl, h5, ?_, fun i hi => ?_⟩))))
      · rw [hn]; unfold imax; split <;> omega
      · rw [wd]
        exact ih i (d + 1) (h.2.2 i (by rw [hn] at hi; omega)) (by omega) (by omega)
end Go.Proofs.Ythnenjodighlmaa

/-! ## Poi -/
namespace Go.Proofs.Ythnenjodighlmaa
open Go Go.RowKit Sym

def crossesI (p a e : P2) : Bool := (decide (a.y > p.y) != decide (e.y > p.y)) && (if e.y > a.y then decide (crossI a e p > 0) else decide (crossI a e p < 0))
theorem crossesF_eq {p a e : P2} (hp : PR p) (ha : PR a) (he : PR e) : crossesF p a e = crossesI p a e := by
  unfold crossesF crossesI
  rw [(cross_eq ha he hp).1]
  by_cases k : e.y > a.y
  · simp only [k, decide_true, if_true]
    cases decide (a.y > p.y) <;> cases decide (e.y > p.y) <;> rfl
  · simp only [k, decide_false, if_false]
    cases decide (a.y > p.y) <;> cases decide (e.y > p.y) <;> rfl
def spotB (p : P2) : B4 := ⟨p.x, p.y, p.x, p.y⟩
/-- a point lies on an edge -/
def onI (p a e : P2) : Bool := decide (min a.x e.x ≤ p.x ∧ p.x ≤ max a.x e.x ∧ min a.y e.y ≤ p.y ∧ p.y ≤ max a.y e.y ∧ crossI a e p = 0)
theorem spot_meets (p a e : P2) : meetsI (spotB p) a e = onI p a e := by
  have h : ∀ f : P2 → Bool, all4 f (spotB p) = f p := fun f => by unfold all4 spotB; dsimp only; cases f ⟨p.x, p.y⟩ <;> rfl
  unfold meetsI
  rw [h, h]
  rw [Bool.eq_iff_iff]
  unfold sepI onI spotB
  simp only [Bool.and_eq_true, Bool.not_eq_true', Bool.or_eq_false_iff, decide_eq_false_iff_not, decide_eq_true_eq]
  omega
/-! ### rectangles -/
theorem onI_h {p : P2} {x0 x1 y : Int} : onI p ⟨x0, y⟩ ⟨x1, y⟩ = decide (min x0 x1 ≤ p.x ∧ p.x ≤ max x0 x1 ∧ p.y = y) := by
  unfold onI crossI
  dsimp only
  refine decide_eq_decide.2 ⟨fun ⟨h1, h2, h3, h4, _⟩ => ⟨h1, h2, by omega⟩, fun ⟨h1, h2, h3⟩ => ⟨h1, h2, by omega, by omega, by rw [h3, Int.sub_self, Int.mul_zero, Int.zero_mul]; rfl⟩⟩
theorem onI_v {p : P2} {x y0 y1 : Int} : onI p ⟨x, y0⟩ ⟨x, y1⟩ = decide (p.x = x ∧ min y0 y1 ≤ p.y ∧ p.y ≤ max y0 y1) := by
  unfold onI crossI
  dsimp only
  refine decide_eq_decide.2 ⟨fun ⟨h1, h2, h3, h4, _⟩ => ⟨by omega, h3, h4⟩, fun ⟨h1, h2, h3⟩ => ⟨by omega, by omega, h2, h3, by rw [h1, Int.sub_self, Int.mul_zero, Int.zero_mul]; rfl⟩⟩
theorem crossesI_h {p : P2} {x0 x1 y : Int} : crossesI p ⟨x0, y⟩ ⟨x1, y⟩ = false := by
  unfold crossesI; simp
theorem crossesI_v {p : P2} {x y0 y1 : Int} : crossesI p ⟨x, y0⟩ ⟨x, y1⟩ = decide (min y0 y1 ≤ p.y ∧ p.y < max y0 y1 ∧ p.x < x) := by
  have e : crossI ⟨x, y0⟩ ⟨x, y1⟩ p = (y1 - y0) * (x - p.x) := by unfold crossI; dsimp only; grind
  unfold crossesI
  dsimp only
  rw [e, Bool.eq_iff_iff]
  by_cases k : y1 > y0
  · have s : (y1 - y0) * (x - p.x) > 0 ↔ p.x < x := by
      constructor
      · intro h
        rcases (show p.x < x ∨ x ≤ p.x by omega) with g | g
        · exact g
        · have := Int.mul_nonneg (show 0 ≤ y1 - y0 by omega) (show 0 ≤ p.x - x by omega)
          have e : (y1 - y0) * (p.x - x) = -((y1 - y0) * (x - p.x)) := by grind
          omega
      · intro h; exact Int.mul_pos (by omega) (by omega)
    simp only [k, if_true, Bool.and_eq_true, bne_iff_ne, ne_eq, decide_eq_decide, decide_eq_true_eq, s]
    omega
  · by_cases k' : y0 > y1
    · have s : (y1 - y0) * (x - p.x) < 0 ↔ p.x < x := by
        have e : (y1 - y0) * (x - p.x) = -((y0 - y1) * (x - p.x)) := by grind
        rw [e]
        constructor
        · intro h
          rcases (show p.x < x ∨ x ≤ p.x by omega) with g | g
          · exact g
          · have := Int.mul_nonneg (show 0 ≤ y0 - y1 by omega) (show 0 ≤ p.x - x by omega)
            have e : (y0 - y1) * (p.x - x) = -((y0 - y1) * (x - p.x)) := by grind
            omega
        · intro h
          have := Int.mul_pos (show 0 < y0 - y1 by omega) (show 0 < x - p.x by omega)
          omega
      simp only [k, if_false, Bool.and_eq_true, bne_iff_ne, ne_eq, decide_eq_decide, decide_eq_true_eq, s]
      omega
    · have : y0 = y1 := by omega
      subst this
      simp
      omega
theorem xor_dc {a b : Prop} [Decidable a] [Decidable b] : xor (decide a) (decide b) = decide ((a ∧ ¬ b) ∨ (¬ a ∧ b)) := by
  by_cases h : a <;> by_cases k : b <;> simp [h, k]
end Go.Proofs.Ythnenjodighlmaa

/-! ## Pos -/
namespace Go.Proofs.Ythnenjodighlmaa
open Go Go.RowKit Sym

theorem meetsI_swp (b : B4) (p q : P2) : meetsI b q p = meetsI b p q := by
  have e : ∀ c, crossI q p c = -(crossI p q c) := fun c => by unfold crossI; grind
  unfold meetsI sepI
  rw [show all4 (fun c => decide (crossI q p c > 0)) b = all4 (fun c => decide (crossI p q c < 0)) b from by
    unfold all4; simp only [e, show ∀ x : Int, decide (-x > 0) = decide (x < 0) from fun x => by rw [Bool.eq_iff_iff]; simp only [decide_eq_true_eq]; omega]]
  rw [show all4 (fun c => decide (crossI q p c < 0)) b = all4 (fun c => decide (crossI p q c > 0)) b from by
    unfold all4; simp only [e, show ∀ x : Int, decide (-x < 0) = decide (x > 0) from fun x => by rw [Bool.eq_iff_iff]; simp only [decide_eq_true_eq]; omega]]
  rw [Int.max_comm q.x, Int.max_comm q.y, Int.min_comm q.x, Int.min_comm q.y]
  cases all4 (fun c => decide (crossI p q c > 0)) b <;> cases all4 (fun c => decide (crossI p q c < 0)) b <;> rfl
theorem crossesI_swp (p a e : P2) : crossesI p e a = crossesI p a e := by
  have h : crossI e a p = -(crossI a e p) := by unfold crossI; grind
  unfold crossesI
  rw [h, Bool.eq_iff_iff]
  by_cases k : e.y > a.y <;> by_cases k' : a.y > e.y <;> simp only [k, k', if_true, if_false, Bool.and_eq_true, bne_iff_ne, ne_eq, decide_eq_decide, decide_eq_true_eq] <;> omega
/-- an edge meets a box of which it has a point on each side -/
theorem meets_two {b : B4} {a e p q : P2} (hp : hasI b p) (hq : hasI b q) (h0 : crossI a e p ≤ 0) (h1 : 0 ≤ crossI a e q) (hs : sepI b a e = false) : meetsI b a e = true := by
  obtain ⟨k, hk, hl⟩ := cross_le a e hp
  obtain ⟨k', hk', hl'⟩ := cross_ge a e hq
  have f1 : all4 (fun c => decide (crossI a e c > 0)) b = false := by
    rw [Bool.eq_false_iff]; intro h
    have := all4_iff.1 h k hk
    simp only [decide_eq_true_eq] at this; omega
  have f2 : all4 (fun c => decide (crossI a e c < 0)) b = false := by
    rw [Bool.eq_false_iff]; intro h
    have := all4_iff.1 h k' hk'
    simp only [decide_eq_true_eq] at this; omega
  unfold meetsI
  rw [hs, f1, f2]; rfl
theorem sep_no {b : B4} {a e : P2} (h1 : b.x0 ≤ max a.x e.x) (h2 : min a.x e.x ≤ b.x1) (h3 : b.y0 ≤ max a.y e.y) (h4 : min a.y e.y ≤ b.y1) : sepI b a e = false := by
  unfold sepI
  simp only [Bool.or_eq_false_iff, decide_eq_false_iff_not]
  omega
/-- left of an edge that goes up -/
theorem left_of {a e p : P2} (h1 : a.y ≤ p.y) (h2 : p.y ≤ e.y) (h : a.y < e.y) (hx : p.x < a.x) (hx' : p.x < e.x) : 0 < crossI a e p := by
  have e0 : crossI a e p = (e.x - p.x) * (p.y - a.y) + (a.x - p.x) * (e.y - p.y) := by unfold crossI; grind
  have p1 := Int.mul_nonneg (show 0 ≤ e.x - p.x by omega) (show 0 ≤ p.y - a.y by omega)
  have p2 := Int.mul_nonneg (show 0 ≤ a.x - p.x by omega) (show 0 ≤ e.y - p.y by omega)
  rcases (show a.y < p.y ∨ p.y < e.y by omega) with k | k
  · have := Int.mul_pos (show 0 < e.x - p.x by omega) (show 0 < p.y - a.y by omega); omega
  · have := Int.mul_pos (show 0 < a.x - p.x by omega) (show 0 < e.y - p.y by omega); omega
theorem right_of {a e p : P2} (h1 : a.y ≤ p.y) (h2 : p.y ≤ e.y) (hx : a.x ≤ p.x) (hx' : e.x ≤ p.x) : crossI a e p ≤ 0 := by
  have e0 : crossI a e p = -((p.x - e.x) * (p.y - a.y)) - (p.x - a.x) * (e.y - p.y) := by unfold crossI; grind
  have p1 := Int.mul_nonneg (show 0 ≤ p.x - e.x by omega) (show 0 ≤ p.y - a.y by omega)
  have p2 := Int.mul_nonneg (show 0 ≤ p.x - a.x by omega) (show 0 ≤ e.y - p.y by omega)
  omega
theorem crosses_up {p a e : P2} (h : a.y ≤ e.y) : crossesI p a e = true ↔ a.y ≤ p.y ∧ p.y < e.y ∧ 0 < crossI a e p := by
  unfold crossesI
  by_cases k : e.y > a.y
  · simp only [k, if_true, Bool.and_eq_true, bne_iff_ne, ne_eq, decide_eq_decide, decide_eq_true_eq]; omega
  · simp only [k, if_false, Bool.and_eq_true, bne_iff_ne, ne_eq, decide_eq_decide, decide_eq_true_eq]; omega
/-- moved to the side -/
theorem cross_side {b : B4} {a e p q : P2} (hp : hasI b p) (hq : hasI b q) (hy : p.y = q.y) (hm : meetsI b a e = false) : crossesI p a e = crossesI q a e := by
  have one : ∀ {a e : P2}, a.y ≤ e.y → meetsI b a e = false → ∀ {p q : P2}, hasI b p → hasI b q → p.y = q.y → crossesI p a e = true → crossesI q a e = true := by
    intro a e h hm p q hp hq hy hc
    obtain ⟨c1, c2, c3⟩ := (crosses_up h).1 hc
    refine (crosses_up h).2 ⟨by omega, by omega, ?_⟩
    rcases (show 0 < crossI a e q ∨ crossI a e q ≤ 0 by omega) with g | g
    · exact g
    · exfalso
      have hs : sepI b a e = false := by
        unfold hasI at hp hq
        refine sep_no ?_ ?_ (by omega) (by omega)
        · rcases (show b.x0 ≤ max a.x e.x ∨ max a.x e.x < b.x0 by omega) with k | k
          · exact k
          · have := right_of (a := a) (e := e) (p := p) (by omega) (by omega) (by omega) (by omega); omega
        · rcases (show min a.x e.x ≤ b.x1 ∨ b.x1 < min a.x e.x by omega) with k | k
          · exact k
          · have := left_of (a := a) (e := e) (p := q) (by omega) (by omega) (by omega) (by omega) (by omega); omega
      rw [meets_two hq hp g (by omega) hs] at hm; cases hm
  rw [Bool.eq_iff_iff]
  rcases Int.le_total a.y e.y with h | h
  · exact ⟨one h hm hp hq hy, one h hm hq hp hy.symm⟩
  · rw [← crossesI_swp p, ← crossesI_swp q]
    rw [← meetsI_swp] at hm
    exact ⟨one h hm hp hq hy, one h hm hq hp hy.symm⟩
/-- right of the way up from height v to height v' -/
def stripB (u v v' : Int) (w : P2) : Bool := decide (v < w.y ∧ w.y ≤ v' ∧ u < w.x)
theorem cross_end (a e : P2) (u : Int) : crossI a e ⟨u, e.y⟩ = (e.y - a.y) * (e.x - u) ∧ crossI a e ⟨u, a.y⟩ = (e.y - a.y) * (a.x - u) := by
  unfold crossI; dsimp only; constructor <;> grind
theorem mul_sign {t x : Int} (h : 0 ≤ t) : (0 < x ∧ 0 ≤ t * x) ∨ (x = 0 ∧ t * x = 0) ∨ (x < 0 ∧ t * x ≤ 0) := by
  rcases (show 0 < x ∨ x = 0 ∨ x < 0 by omega) with k | k | k
  · exact .inl ⟨k, Int.mul_nonneg h (by omega)⟩
  · subst k; exact .inr (.inl ⟨rfl, Int.mul_zero _⟩)
  · have := Int.mul_nonneg h (show 0 ≤ -x by omega)
    rw [Int.mul_neg] at this; exact .inr (.inr ⟨k, by omega⟩)
/-- who is where: heights -/
theorem rise_cases {ay ey ax ex u v v' G1 G2 : Int} (h : ay ≤ ey) (hv : v ≤ v')
    (hC : ay ≤ v → v' < ey → (0 < G1 ↔ 0 < G2)) (hD : ay ≤ v → v < ey → ey ≤ v' → (0 < G1 ↔ u < ex)) (hE : v < ay → ay ≤ v' → v' < ey → (0 < G2 ↔ u < ax)) (hF : v < ay → ey ≤ v' → (u < ax ↔ u < ex)) :
    xor (decide (ay ≤ v ∧ v < ey ∧ 0 < G1)) (decide (ay ≤ v' ∧ v' < ey ∧ 0 < G2)) = xor (decide (v < ay ∧ ay ≤ v' ∧ u < ax)) (decide (v < ey ∧ ey ≤ v' ∧ u < ex)) := by
  have D : ∀ {a b : Prop} [Decidable a] [Decidable b], (a ↔ b) → decide a = decide b := fun h => decide_eq_decide.2 h
  have N : ∀ {a : Prop} [Decidable a], ¬ a → decide a = false := fun h => decide_eq_false h
  rcases (show ey ≤ v ∨ v' < ay ∨ (ay ≤ v ∧ v' < ey) ∨ (ay ≤ v ∧ v < ey ∧ ey ≤ v') ∨ (v < ay ∧ ay ≤ v' ∧ v' < ey) ∨ (v < ay ∧ ey ≤ v') by omega) with k | k | ⟨k1, k2⟩ | ⟨k1, k2, k3⟩ | ⟨k1, k2, k3⟩ | ⟨k1, k2⟩
  · rw [N (show ¬ (ay ≤ v ∧ v < ey ∧ 0 < G1) by omega), N (show ¬ (ay ≤ v' ∧ v' < ey ∧ 0 < G2) by omega), N (show ¬ (v < ay ∧ ay ≤ v' ∧ u < ax) by omega), N (show ¬ (v < ey ∧ ey ≤ v' ∧ u < ex) by omega)]
  · rw [N (show ¬ (ay ≤ v ∧ v < ey ∧ 0 < G1) by omega), N (show ¬ (ay ≤ v' ∧ v' < ey ∧ 0 < G2) by omega), N (show ¬ (v < ay ∧ ay ≤ v' ∧ u < ax) by omega), N (show ¬ (v < ey ∧ ey ≤ v' ∧ u < ex) by omega)]
  · have := hC k1 k2
    rw [D (show (ay ≤ v ∧ v < ey ∧ 0 < G1) ↔ 0 < G1 from ⟨fun z => z.2.2, fun z => ⟨k1, by omega, z⟩⟩), D (show (ay ≤ v' ∧ v' < ey ∧ 0 < G2) ↔ 0 < G1 from ⟨fun z => this.2 z.2.2, fun z => ⟨by omega, k2, this.1 z⟩⟩), N (show ¬ (v < ay ∧ ay ≤ v' ∧ u < ax) by omega), N (show ¬ (v < ey ∧ ey ≤ v' ∧ u < ex) by omega)]
    simp
  · have := hD k1 k2 k3
    rw [D (show (ay ≤ v ∧ v < ey ∧ 0 < G1) ↔ u < ex from ⟨fun z => this.1 z.2.2, fun z => ⟨k1, k2, this.2 z⟩⟩), N (show ¬ (ay ≤ v' ∧ v' < ey ∧ 0 < G2) by omega), N (show ¬ (v < ay ∧ ay ≤ v' ∧ u < ax) by omega), D (show (v < ey ∧ ey ≤ v' ∧ u < ex) ↔ u < ex from ⟨fun z => z.2.2, fun z => ⟨k2, k3, z⟩⟩)]
    simp
  · have := hE k1 k2 k3
    rw [N (show ¬ (ay ≤ v ∧ v < ey ∧ 0 < G1) by omega), D (show (ay ≤ v' ∧ v' < ey ∧ 0 < G2) ↔ u < ax from ⟨fun z => this.1 z.2.2, fun z => ⟨k2, k3, this.2 z⟩⟩), D (show (v < ay ∧ ay ≤ v' ∧ u < ax) ↔ u < ax from ⟨fun z => z.2.2, fun z => ⟨k1, k2, z⟩⟩), N (show ¬ (v < ey ∧ ey ≤ v' ∧ u < ex) by omega)]
    simp
  · have := hF k1 k2
    rw [N (show ¬ (ay ≤ v ∧ v < ey ∧ 0 < G1) by omega), N (show ¬ (ay ≤ v' ∧ v' < ey ∧ 0 < G2) by omega), D (show (v < ay ∧ ay ≤ v' ∧ u < ax) ↔ u < ax from ⟨fun z => z.2.2, fun z => ⟨k1, by omega, z⟩⟩), D (show (v < ey ∧ ey ≤ v' ∧ u < ex) ↔ u < ax from ⟨fun z => this.2 z.2.2, fun z => ⟨by omega, k2, this.1 z⟩⟩)]
    simp
theorem cross_rise {b : B4} {a e : P2} {u v v' : Int} (hv : v ≤ v') (hp : hasI b ⟨u, v⟩) (hq : hasI b ⟨u, v'⟩) (hm : meetsI b a e = false) : xor (crossesI ⟨u, v⟩ a e) (crossesI ⟨u, v'⟩ a e) = xor (stripB u v v' a) (stripB u v v' e) := by
  have one : ∀ {a e : P2}, a.y ≤ e.y → meetsI b a e = false → xor (crossesI ⟨u, v⟩ a e) (crossesI ⟨u, v'⟩ a e) = xor (stripB u v v' a) (stripB u v v' e) := by
    intro a e h hm
    have c1 := crosses_up (p := ⟨u, v⟩) h
    have c2 := crosses_up (p := ⟨u, v'⟩) h
    obtain ⟨ee, ea⟩ := cross_end a e u
    have se := mul_sign (t := e.y - a.y) (x := e.x - u) (by omega)
    have sa := mul_sign (t := e.y - a.y) (x := a.x - u) (by omega)
    rw [← ee] at se
    rw [← ea] at sa
    have hu : b.x0 ≤ u ∧ u ≤ b.x1 ∧ b.y0 ≤ v ∧ v' ≤ b.y1 := by unfold hasI at hp hq; dsimp only at *; omega
    have rl : ∀ y, v ≤ y → y ≤ v' → hasI b ⟨u, y⟩ := fun y h1 h2 => by unfold hasI; dsimp only; omega
    -- no two points of the way lie on both sides
    have no : ∀ y y', v ≤ y → y ≤ v' → v ≤ y' → y' ≤ v' → a.y ≤ v' → v ≤ e.y → min a.x e.x ≤ u → u ≤ max a.x e.x → ¬ (crossI a e ⟨u, y⟩ ≤ 0 ∧ 0 ≤ crossI a e ⟨u, y'⟩) := fun y y' h1 h2 h3 h4 h5 h6 h7 h8 g => by
      rw [meets_two (rl y h1 h2) (rl y' h3 h4) g.1 g.2 (sep_no (by omega) (by omega) (by omega) (by omega))] at hm; cases hm
    have lf : ∀ y, a.y ≤ y → y ≤ e.y → a.y < e.y → u < a.x → u < e.x → 0 < crossI a e ⟨u, y⟩ := fun y h1 h2 h3 h4 h5 => left_of (p := ⟨u, y⟩) h1 h2 h3 h4 h5
    have rt : ∀ y, a.y ≤ y → y ≤ e.y → a.x ≤ u → e.x ≤ u → crossI a e ⟨u, y⟩ ≤ 0 := fun y h1 h2 h4 h5 => right_of (p := ⟨u, y⟩) h1 h2 h4 h5
    dsimp only at c1 c2
    have X1 : crossesI ⟨u, v⟩ a e = decide (a.y ≤ v ∧ v < e.y ∧ 0 < crossI a e ⟨u, v⟩) := by rw [Bool.eq_iff_iff, decide_eq_true_eq]; exact c1
    have X2 : crossesI ⟨u, v'⟩ a e = decide (a.y ≤ v' ∧ v' < e.y ∧ 0 < crossI a e ⟨u, v'⟩) := by rw [Bool.eq_iff_iff, decide_eq_true_eq]; exact c2
    rw [X1, X2]
    unfold stripB
    have lr : (u < a.x ∧ u < e.x) ∨ (a.x ≤ u ∧ e.x ≤ u) ∨ (min a.x e.x ≤ u ∧ u ≤ max a.x e.x) := by omega
    refine rise_cases h hv (fun k1 k2 => ?_) (fun k1 k2 k3 => ?_) (fun k1 k2 k3 => ?_) (fun k1 k2 => ?_)
    · rcases lr with ⟨g1, g2⟩ | ⟨g1, g2⟩ | ⟨g1, g2⟩
      · exact ⟨fun _ => lf v' (by omega) (by omega) (by omega) g1 g2, fun _ => lf v (by omega) (by omega) (by omega) g1 g2⟩
      · have r1 := rt v (by omega) (by omega) g1 g2
        have r2 := rt v' (by omega) (by omega) g1 g2
        omega
      · have n1 := no v v' (Int.le_refl _) hv hv (Int.le_refl _) (by omega) (by omega) g1 g2
        have n2 := no v' v hv (Int.le_refl _) (Int.le_refl _) hv (by omega) (by omega) g1 g2
        omega
    · rcases lr with ⟨g1, g2⟩ | ⟨g1, g2⟩ | ⟨g1, g2⟩
      · exact ⟨fun _ => g2, fun _ => lf v (by omega) (by omega) (by omega) g1 g2⟩
      · have r1 := rt v (by omega) (by omega) g1 g2
        omega
      · have n1 := no v e.y (Int.le_refl _) hv (by omega) (by omega) (by omega) (by omega) g1 g2
        have n2 := no e.y v (by omega) (by omega) (Int.le_refl _) hv (by omega) (by omega) g1 g2
        omega
    · rcases lr with ⟨g1, g2⟩ | ⟨g1, g2⟩ | ⟨g1, g2⟩
      · exact ⟨fun _ => g1, fun _ => lf v' (by omega) (by omega) (by omega) g1 g2⟩
      · have r1 := rt v' (by omega) (by omega) g1 g2
        omega
      · have n1 := no v' a.y hv (Int.le_refl _) (by omega) (by omega) (by omega) (by omega) g1 g2
        have n2 := no a.y v' (by omega) (by omega) hv (Int.le_refl _) (by omega) (by omega) g1 g2
        omega
    · rcases lr with ⟨g1, g2⟩ | ⟨g1, g2⟩ | ⟨g1, g2⟩
      · omega
      · omega
      · have n1 := no a.y e.y (by omega) (by omega) (by omega) (by omega) (by omega) (by omega) g1 g2
        have n2 := no e.y a.y (by omega) (by omega) (by omega) (by omega) (by omega) (by omega) g1 g2
        omega
  rcases Int.le_total a.y e.y with h | h
  · exact one h hm
  · rw [← meetsI_swp] at hm
    rw [← crossesI_swp ⟨u, v⟩, ← crossesI_swp ⟨u, v'⟩, one h hm, Bool.xor_comm]
/-! ### contours -/
theorem parN_congr {f g : Nat → Bool} : ∀ {n : Nat}, (∀ k, k < n → f k = g k) → parN f n = parN g n
  | 0, _ => rfl
  | n + 1, h => by simp only [parN]; rw [parN_congr fun k hk => h k (by omega), h n (by omega)]
theorem anyN_congr {f g : Nat → Bool} : ∀ {n : Nat}, (∀ k, k < n → f k = g k) → anyN f n = anyN g n
  | 0, _ => rfl
  | n + 1, h => by simp only [anyN]; rw [anyN_congr fun k hk => h k (by omega), h n (by omega)]
theorem parN_xor (f g : Nat → Bool) : ∀ n, xor (parN f n) (parN g n) = parN (fun k => xor (f k) (g k)) n
  | 0 => rfl
  | n + 1 => by
    simp only [parN, ← parN_xor f g n]
    cases parN f n <;> cases parN g n <;> cases f n <;> cases g n <;> rfl
theorem parN_false : ∀ n, parN (fun _ => false) n = false
  | 0 => rfl
  | n + 1 => by simp only [parN, parN_false n]; rfl
theorem nxt_mid {m k : Nat} (h : k + 1 < m) : nxt m k = k + 1 := by
  unfold nxt
  rw [Int.tmod_eq_of_lt (by omega) (by omega)]; omega
theorem nxt_end (M : Nat) : nxt (M + 1) M = 0 := by
  unfold nxt
  rw [show ((M : Int) + 1) = ((M + 1 : Nat) : Int) by omega, Int.tmod_self]; rfl
theorem nxt_lt {m k : Nat} (h : k < m) : nxt m k < m := by
  rcases (show k + 1 < m ∨ k + 1 = m by omega) with g | g
  · rw [nxt_mid g]; exact g
  · subst g; rw [nxt_end]; omega
theorem par_way (R : Nat → Bool) : ∀ n, parN (fun k => xor (R k) (R (k + 1))) n = xor (R 0) (R n)
  | 0 => by simp [parN]
  | n + 1 => by
    simp only [parN, par_way R n]
    cases R 0 <;> cases R n <;> cases R (n + 1) <;> rfl
/-- around a contour nothing is left -/
theorem par_round (R : Nat → Bool) (m : Nat) : parN (fun k => xor (R k) (R (nxt m k))) m = false := by
  cases m with
  | zero => rfl
  | succ M =>
    simp only [parN]
    rw [parN_congr (g := fun k => xor (R k) (R (k + 1))) fun k hk => by rw [nxt_mid (by omega)], par_way, nxt_end]
    cases R 0 <;> cases R M <;> rfl
structure PRC (l : Ctr) : Prop where
  p : ∀ i, i < l.n → ∀ k, k < l.m i → PR (l.p i k)
def oddI (p : P2) (l : Ctr) : Bool := parN (fun i => parN (edgeC l (crossesI p) i) (l.m i)) l.n
def touchI (b : B4) (l : Ctr) : Bool := anyN (fun i => anyN (edgeC l (meetsI b) i) (l.m i)) l.n
theorem oddF_eq {p : P2} {l : Ctr} (hp : PR p) (hl : PRC l) : oddF p l = oddI p l := parN_congr fun i hi => parN_congr fun k hk => crossesF_eq hp (hl.p i hi k hk) (hl.p i hi _ (nxt_lt hk))
theorem touchF_eq {b : B4} {l : Ctr} (hb : BR b) (hx : b.x0 ≤ b.x1) (hy : b.y0 ≤ b.y1) (hl : PRC l) : touchF b l = touchI b l := anyN_congr fun i hi => anyN_congr fun k hk => meets_eq hb (hl.p i hi k hk) (hl.p i hi _ (nxt_lt hk)) hx hy
theorem touchI_no {b : B4} {l : Ctr} (h : touchI b l = false) : ∀ i, i < l.n → ∀ k, k < l.m i → meetsI b (l.p i k) (l.p i (nxt (l.m i) k)) = false := fun i hi k hk => by
  cases hq : meetsI b (l.p i k) (l.p i (nxt (l.m i) k)) with
  | false => rfl
  | true =>
    have : touchI b l = true := anyN_iff.2 ⟨i, hi, anyN_iff.2 ⟨k, hk, hq⟩⟩
    rw [h] at this; cases this
theorem odd_side {b : B4} {l : Ctr} {p q : P2} (h : touchI b l = false) (hp : hasI b p) (hq : hasI b q) (hy : p.y = q.y) : oddI p l = oddI q l :=
  parN_congr fun i hi => parN_congr fun k hk => cross_side hp hq hy (touchI_no h i hi k hk)
theorem odd_rise {b : B4} {l : Ctr} {u v v' : Int} (h : touchI b l = false) (hv : v ≤ v') (hp : hasI b ⟨u, v⟩) (hq : hasI b ⟨u, v'⟩) : oddI ⟨u, v⟩ l = oddI ⟨u, v'⟩ l := by
  have e : xor (oddI ⟨u, v⟩ l) (oddI ⟨u, v'⟩ l) = false := by
    unfold oddI
    rw [parN_xor, parN_congr (g := fun _ => false) fun i hi => ?_, parN_false]
    rw [parN_xor, parN_congr (f := fun k => xor (edgeC l (crossesI ⟨u, v⟩) i k) (edgeC l (crossesI ⟨u, v'⟩) i k)) (g := fun k => xor (stripB u v v' (l.p i k)) (stripB u v v' (l.p i (nxt (l.m i) k)))) fun k hk => cross_rise hv hp hq (touchI_no h i hi k hk)]
    exact par_round (fun k => stripB u v v' (l.p i k)) (l.m i)
  revert e
  cases oddI ⟨u, v⟩ l <;> cases oddI ⟨u, v'⟩ l <;> simp
/-- A box that no edge meets has one parity. -/
theorem odd_box {b : B4} {l : Ctr} {p q : P2} (h : touchI b l = false) (hp : hasI b p) (hq : hasI b q) : oddI p l = oddI q l := by
  have hm : hasI b ⟨p.x, q.y⟩ := ⟨hp.1, hp.2.1, hq.2.2.1, hq.2.2.2⟩
  have e1 : oddI p l = oddI ⟨p.x, q.y⟩ l := by
    rcases Int.le_total p.y q.y with k | k
    · exact odd_rise (u := p.x) (v := p.y) h k hp hm
    · exact (odd_rise (u := p.x) (v' := p.y) h k hm hp).symm
  rw [e1]
  exact odd_side h hm hq rfl
theorem onI_meets {b : B4} {p a e : P2} (hp : hasI b p) (h : onI p a e = true) : meetsI b a e = true := by
  unfold onI at h
  rw [decide_eq_true_eq] at h
  obtain ⟨h1, h2, h3, h4, h5⟩ := h
  unfold hasI at hp
  exact meets_two (p := p) (q := p) hp hp (by omega) (by omega) (sep_no (by omega) (by omega) (by omega) (by omega))
theorem touch_spot {b : B4} {l : Ctr} {p : P2} (h : touchI b l = false) (hp : hasI b p) : touchI (spotB p) l = false := by
  rw [Bool.eq_false_iff]
  intro hq
  obtain ⟨i, hi, hq⟩ := anyN_iff.1 hq
  obtain ⟨k, hk, hq⟩ := anyN_iff.1 hq
  have := touchI_no h i hi k hk
  unfold edgeC at hq
  rw [spot_meets] at hq
  rw [onI_meets hp hq] at this; cases this
end Go.Proofs.Ythnenjodighlmaa

/-! ## Pou -/
namespace Go.Proofs.Ythnenjodighlmaa
open Go Go.RowKit Sym
set_option maxRecDepth 100000

/-- what a class says of a point -/
theorem polyClass_sure {b : B4} {l : Ctr} {q : P2} (hb : BR b) (hx : b.x0 ≤ b.x1) (hy : b.y0 ≤ b.y1) (hl : PRC l) (hq : hasI b q) :
    (polyClassF b l = 0 ∧ polyHasF q l = false) ∨ polyClassF b l = 1 ∨ (polyClassF b l = 2 ∧ polyHasF q l = true) := by
  have hQ := PR_of_has hb hq
  have hC : hasI b ⟨b.x0, b.y0⟩ := ⟨Int.le_refl _, hx, Int.le_refl _, hy⟩
  unfold polyClassF polyHasF
  rw [touchF_eq hb hx hy hl, touchF_eq (b := spotF q) ⟨hQ.x, hQ.y, hQ.x, hQ.y⟩ (Int.le_refl _) (Int.le_refl _) hl, oddF_eq hQ hl, oddF_eq (PR_of_has hb hC) hl, (boxHas_eq b ⟨b.x0, b.y0⟩).2 hC]
  cases h : touchI b l with
  | true => exact .inr (.inl rfl)
  | false =>
    rw [show touchI (spotF q) l = false from touch_spot h hq, odd_box h hC hq]
    cases oddI q l
    · exact .inl ⟨rfl, rfl⟩
    · exact .inr (.inr ⟨rfl, rfl⟩)
theorem tamP_r (l : Ctr) (sm : Bool) (i k : Nat) : PR (tamP l sm i k) := by
  have h := lPt_r (l.p i k)
  have g := lClose_r (lPt (l.p i k)) (n := 20) (by decide) (by decide)
  unfold tamP
  cases sm
  · exact ⟨⟨by show _ ≤ (lPt (l.p i k)).x; omega, by show (lPt (l.p i k)).x ≤ _; omega⟩, ⟨by show _ ≤ (lPt (l.p i k)).y; omega, by show (lPt (l.p i k)).y ≤ _; omega⟩⟩
  · exact ⟨⟨by show _ ≤ (lClose (lPt (l.p i k)) 20).x; omega, by show (lClose (lPt (l.p i k)) 20).x ≤ _; omega⟩, ⟨by show _ ≤ (lClose (lPt (l.p i k)) 20).y; omega, by show (lClose (lPt (l.p i k)) 20).y ≤ _; omega⟩⟩
theorem tameC_r (l : Ctr) (sm : Bool) : PRC (tameC l sm) := ⟨fun i _ k _ => tamP_r l sm i k⟩
theorem tameC_B (l : Ctr) (sm : Bool) : CtrB (tameC l sm) := ⟨by show min l.n 4 ≤ _; omega, fun i _ => by show min (l.m i) 12 ≤ _; omega⟩
end Go.Proofs.Ythnenjodighlmaa

/-! ## Fis -/
namespace Go.Proofs.Ythnenjodighlmaa
open Go Go.RowKit Sym
set_option maxRecDepth 100000

/-- a class, and whether a point of the box is in it -/
structure Sure (i : Bool) (k : Int) : Prop where
  lo : 0 ≤ k
  hi : k ≤ 2
  i1 : k = 2 → i = true
  i0 : k = 0 → i = false
theorem Sure.of {i : Bool} {k : Int} (h : andB (andB (andB (andB (orB (k != 2) i) (orB (k != 0) (!i))) (decide (k ≥ 0))) (decide (k ≤ 2))) true = true) : Sure i k := by
  simp only [andB_eq, orB_eq, Bool.and_eq_true, Bool.or_eq_true, bne_iff_ne, decide_eq_true_eq, Bool.not_eq_true'] at h
  obtain ⟨⟨⟨⟨h1, h2⟩, h3⟩, h4⟩, _⟩ := h
  exact ⟨h3, h4, fun e => h1.resolve_left fun q => q e, fun e => h2.resolve_left fun q => q e⟩
theorem Sure.fold {i h : Bool} {was cls : Int} (a : Sure h was) (c : Sure i cls) (add : Bool) : Sure (bif i then add else h) (foldF was cls add) := by
  obtain ⟨a1, a2, a3, a4⟩ := a
  obtain ⟨c1, c2, c3, c4⟩ := c
  have w : was = 0 ∨ was = 1 ∨ was = 2 := by omega
  have k : cls = 0 ∨ cls = 1 ∨ cls = 2 := by omega
  rcases w with rfl | rfl | rfl <;> rcases k with rfl | rfl | rfl <;> cases add <;> cases i <;> cases h <;> simp at a3 a4 c3 c4 <;> exact ⟨by decide, by decide, by decide, by decide⟩
/-- from the first part to the last -/
def hasN (g : Nat → Bool) (add : Nat → Bool) (i : Nat) (h : Bool) : Bool := bif g i then add i else h
theorem has_back (g : Nat → Bool) (add : Nat → Bool) (n : Nat) : ∀ t, t ≤ n → (((runN (fun t (_ : Bool) => bif g (n - 1 - t) then (false, add (n - 1 - t)) else (true, false)) false t).1 = true → foldN (hasN g add) false n = foldN (hasN g add) false (n - t) ∧ (runN (fun t (_ : Bool) => bif g (n - 1 - t) then (false, add (n - 1 - t)) else (true, false)) false t).2 = false)
    ∧ ((runN (fun t (_ : Bool) => bif g (n - 1 - t) then (false, add (n - 1 - t)) else (true, false)) false t).1 = false → (runN (fun t (_ : Bool) => bif g (n - 1 - t) then (false, add (n - 1 - t)) else (true, false)) false t).2 = foldN (hasN g add) false n))
  | 0, _ => ⟨fun _ => ⟨rfl, rfl⟩, fun h => (by cases h)⟩
  | t + 1, ht => by
    have ih := has_back g add n t (by omega)
    revert ih
    generalize hr : runN (fun t (_ : Bool) => bif g (n - 1 - t) then (false, add (n - 1 - t)) else (true, false)) false t = r
    intro ih
    obtain ⟨r1, r2⟩ := r
    cases r1
    · rw [runN_stop hr (by omega : t ≤ t + 1)]
      exact ⟨fun h => (by cases h), fun _ => ih.2 rfl⟩
    · rw [runN_go hr]
      have e := (ih.1 rfl).1
      have em : n - t = (n - 1 - t) + 1 := by omega
      have e2 : foldN (hasN g add) false (n - t) = bif g (n - 1 - t) then add (n - 1 - t) else foldN (hasN g add) false (n - 1 - t) := by rw [em]; rfl
      cases q : g (n - 1 - t)
      · refine ⟨fun _ => ⟨?_, rfl⟩, fun h => (by cases h)⟩
        rw [e, e2, q, show n - (t + 1) = n - 1 - t by omega]; rfl
      · refine ⟨fun h => (by cases h), fun _ => ?_⟩
        rw [e, e2, q]; rfl
theorem has_fold (g : Nat → Bool) (add : Nat → Bool) (n : Nat) : (runN (fun t (_ : Bool) => bif g (n - 1 - t) then (false, add (n - 1 - t)) else (true, false)) false n).2 = foldN (hasN g add) false n := by
  have h := has_back g add n n (Nat.le_refl n)
  revert h
  generalize runN (fun t (_ : Bool) => bif g (n - 1 - t) then (false, add (n - 1 - t)) else (true, false)) false n = r
  intro h
  obtain ⟨r1, r2⟩ := r
  cases r1
  · exact h.2 rfl
  · have q := h.1 rfl
    rw [q.1, Nat.sub_self]; exact q.2
theorem sure_fold (f : Nat → Bool) (c : Nat → Int) (add : Nat → Bool) : ∀ n, (∀ i, i < n → Sure (f i) (c i)) → Sure (foldN (hasN f add) false n) (foldN (fun i acc => foldF acc (c i) (add i)) 0 n)
  | 0, _ => (⟨by decide, by decide, fun h => (by cases h), fun _ => rfl⟩ : Sure false 0)
  | n + 1, h => (sure_fold f c add n fun i hi => h i (by omega)).fold (h n (by omega)) (add n)
theorem disc_sure {b : B4} {c : P2} {r : Int} {x y : Int} (h : discSure0 b c r x y = true) : Sure (discHas (lIn b x y) c r) (discClass b c r) := by
  unfold discSure0 at h
  dsimp only at h
  revert h
  generalize orB _ _ = o
  cases o
  · exact Sure.of
  · intro h; cases h
theorem line_sure {b : B4} {a c : P2} {r : Int} {x y : Int} (h : lineSure0 b a c r x y = true) : Sure (lineHas (lIn b x y) a c r) (lineClass b a c r) := by
  unfold lineSure0 at h
  simp only [andB_eq, orB_eq, Bool.and_eq_true, Bool.or_eq_true, bne_iff_ne, decide_eq_true_eq, Bool.not_eq_true'] at h
  obtain ⟨⟨⟨⟨⟨_, h1⟩, h2⟩, h3⟩, h4⟩, _⟩ := h
  exact ⟨h3, h4, fun e => h1.resolve_left fun q => q e, fun e => (h2.resolve_left fun q => q e).1.1⟩
theorem bar_sure {b : B4} {a c : P2} {r : Int} {x y : Int} (h : barSure0 b a c r x y = true) : Sure (barHas (lIn b x y) a c r) (barClass b a c r) := by
  unfold barSure0 at h
  simp only [andB_eq, orB_eq, Bool.and_eq_true, Bool.or_eq_true, bne_iff_ne, decide_eq_true_eq, Bool.not_eq_true'] at h
  obtain ⟨⟨⟨⟨⟨_, h1⟩, h2⟩, h3⟩, h4⟩, _⟩ := h
  exact ⟨h3, h4, fun e => h1.resolve_left fun q => q e, fun e => (h2.resolve_left fun q => q e).1⟩
theorem wid_bd {r : Int} (h : widF r = true) : 1 ≤ r ∧ r ≤ 536870912 := by
  unfold widF at h
  rw [andB_eq, Bool.and_eq_true, decide_eq_true_eq, decide_eq_true_eq] at h
  omega
theorem tmX_le (sm : Bool) : tmX sm ≤ 536870912 := by cases sm <;> decide
theorem PB_PR {sm : Bool} {p : P2} (h : PB (tmX sm) p) : PR p := near_PR (PB_near (tmX_le sm) h)
/-- tame shapes are sure of the points of a box -/
theorem shape_sure (sm : Bool) {b : B4} (hb : BR b) (hf : Fits b) (hx : b.x0 ≤ b.x1) (hy : b.y0 ≤ b.y1) (x y : Int) : ∀ (s : Shp) (d : Int), Sure (hasF (tameS s sm d) (lIn b x y)) (classF (tameS s sm d) b) := by
  intro s
  induction s with
  | nil => intro d; exact (⟨by decide, by decide, fun h => (by cases h), fun _ => rfl⟩ : Sure false 0)
  | mk k a b' c r l n add sub ih =>
    intro d
    have kk := tmKk_bd ⟨k, a, b', c, r, l, n, noF⟩ d
    have kb := tmB_ok ⟨k, a, b', c, r, l, n, noF⟩ sm
    have kr := wid_bd (tmR_ok ⟨k, a, b', c, r, l, n, noF⟩ sm)
    have ka := PB_PR (at_PB a sm)
    simp only [tameS]
    generalize tmKk ⟨k, a, b', c, r, l, n, noF⟩ d = K at *
    have : K = 1 ∨ K = 2 ∨ K = 3 ∨ K = 4 ∨ K = 5 ∨ K = 6 := by omega
    rcases this with rfl | rfl | rfl | rfl | rfl | rfl
    · exact disc_sure (discSure0_true x y hb ka hx hy kr.1 (by omega))
    · show Sure (polyHasF (lIn b x y) (tameC l sm)) (polyClassF b (tameC l sm))
      rcases polyClass_sure hb hx hy (tameC_r l sm) (lIn_has x y hb hx hy).1 with ⟨h, k⟩ | h | ⟨h, k⟩
      · rw [h, k]; exact ⟨by decide, by decide, fun e => (by cases e), fun _ => rfl⟩
      · rw [h]; exact ⟨by decide, by decide, fun e => (by cases e), fun e => (by cases e)⟩
      · rw [h, k]; exact ⟨by decide, by decide, fun _ => rfl, fun e => (by cases e)⟩
    · exact line_sure (lineSure0_true x y hb ka (PB_PR kb.1) hx hy kr.1 (by omega))
    · exact bar_sure (barSure0_true x y hb ka (PB_PR kb.1) hx hy kr.1 (by omega))
    · exact Sure.of (ringSure0_true c (band a.x 65535) (band a.y 65535) b'.x sm x y hf kr.1 (by omega))
    · have e := has_fold (fun i => hasF (tameS (sub i) sm (W (d + 1))) (lIn b x y)) add (tmN ⟨k, a, b', c, r, l, n, noF⟩ d)
      show Sure (runN (fun t (_ : Bool) => bif hasF (tameS (sub (tmN ⟨k, a, b', c, r, l, n, noF⟩ d - 1 - t)) sm (W (d + 1))) (lIn b x y) then (false, add (tmN ⟨k, a, b', c, r, l, n, noF⟩ d - 1 - t)) else (true, false)) false (tmN ⟨k, a, b', c, r, l, n, noF⟩ d)).2 (foldN (fun i acc => foldF acc (classF (tameS (sub i) sm (W (d + 1))) b) (add i)) 0 (tmN ⟨k, a, b', c, r, l, n, noF⟩ d))
      rw [e]
      exact sure_fold _ (fun i => classF (tameS (sub i) sm (W (d + 1))) b) add _ fun i _ => ih i _
end Go.Proofs.Ythnenjodighlmaa

/-! ## Pid -/
namespace Go.Proofs.Ythnenjodighlmaa
open Go Go.RowKit Sym
set_option maxRecDepth 100000

theorem fold_top (g add : Nat → Bool) (n : Nat) : ∀ k, k ≤ n → (∀ j, j < k → g (n - 1 - j) = false) → foldN (hasN g add) false n = foldN (hasN g add) false (n - k)
  | 0, _, _ => rfl
  | k + 1, hk, h => by
    rw [fold_top g add n k (by omega) fun j hj => h j (by omega)]
    have e : n - k = (n - (k + 1)) + 1 := by omega
    rw [e]
    show hasN g add (n - (k + 1)) _ = _
    unfold hasN
    rw [show n - (k + 1) = n - 1 - k by omega, h k (by omega)]; rfl
theorem DenC.cellB {w : World} {F : Nat → Prop} {u : Value} {v : Value} (h : Dyn.DenC w F (.p v) u) : u = v := by
  cases h; rfl
theorem one_of_den {w : World} {F : Nat → Prop} {d : Dyn.DC} {u : Value} (h : Dyn.DenC w F d u) : u.oneCell' = true := by
  have := h.one
  cases u <;> simp_all [oneCellB, Value.oneCell']
theorem callD_of {P : Program} {K : Nat} {fn : Func} (hf : P.funcs[K]? = some fn) (hb : fn.body.isNone = false) (hn : (fn.name == "runtime.NumGoroutine") = false) {args : List Dyn.DV} {v : Value} (hv : oneCellB v = true)
    (h : ∀ w (F : Nat → Prop) us, (∀ b, F b → b < w.heap.size) → Dyn.DenVs w F args us → Calls P K us.toArray w (fun e w' => e = .returned v ∧ Below w.heap.size w w')) : Dyn.CallD P K args (.val (.one (.p v))) := fun w F us hF hd => by
  have hr : (callFunc K us.toArray).run P w = .ok (.enter K us.toArray) w := by
    unfold callFunc
    simp only [Sem.run_bind, run_program, Result.andThen_ok, hf, hn, hb]
    simp
  rw [hr]
  exact ⟨rfl, (h w F us hF hd).mono fun e w' ⟨he, hB⟩ => ⟨v, he, .p _ hv, hB⟩⟩
noncomputable def figHasS (s : Shp) (p : P2) : Bool := bif okE (toSh s) then hasF s p else false
noncomputable def pHas (s : Shp) (p : P2) : Bool := foldN (hasN (fun i => figHasS (suO s i) p) (adO s)) false (nuO s)
theorem PilRes.eq {n : Nat} {g add : Nat → Bool} {r : Bool} (h : PilRes n g add r) : r = foldN (hasN g add) false n := by
  rcases h with ⟨rfl, h⟩ | ⟨k, hk, rfl, h1, h2⟩
  · rw [fold_top g add n n (Nat.le_refl _) fun j hj => h _ (by omega), Nat.sub_self]; rfl
  · rw [fold_top g add n k (by omega) h2, show n - k = (n - 1 - k) + 1 by omega]
    show _ = hasN g add (n - 1 - k) _
    unfold hasN
    rw [h1]; rfl
theorem figHasE_eq (s : Shp) (p : P2) : figHasE (toSh s) p = figHasS s p := by unfold figHasE figHasS; rw [hasE_eq]
theorem pHas_ok (s : Shp) (h : ShB s) (p : P2) : Dyn.CallD Try.prog 23 [dvL (toSh s), dvP p] (rB (pHas s p)) := by
  cases s with
  | nil => exact h.elim
  | mk k a b c r l n add sub =>
    refine callD_of Try.func23 (by kernel_rfl) (by kernel_rfl) rfl fun w G us hG hd => ?_
    obtain ⟨u1, u2, rfl⟩ : ∃ u1 u2, us = [u1, u2] := by
      match us, hd with
      | [u1, u2], _ => exact ⟨u1, u2, rfl⟩
      | [], hd => exact hd.elim
      | [_], hd => exact hd.2.elim
      | _ :: _ :: _ :: _, hd => exact hd.2.2.elim
    have h1 : Dyn.DenC w G (.row n fun i => partC (add i) (toSh (sub i))) u1 := hd.1
    have e2 : u2 = .agg #[.int .i64 p.x, .int .i64 p.y] := by
      obtain ⟨us, rfl, hl⟩ := hd.2.1
      obtain ⟨us⟩ := us
      match us, hl with
      | [v1, v2], hl =>
        rw [DenC.cellB hl.1, DenC.cellB hl.2.1]
      | [], hl => exact hl.elim
      | [_], hl => exact hl.2.elim
      | _ :: _ :: _ :: _, hl => exact hl.2.2.elim
    subst e2
    obtain ⟨oa, cap, g, rfl, hO, hg⟩ : ∃ (oa : Option Addr) (cap : Nat) (g : Nat → Nat → Value), u1 = .slice oa n cap ∧ Objs w.heap.size w oa n g ∧ ∀ i j, i < n → j < 11 → Dyn.DenC w G ((partC (add i) (toSh (sub i))).getD j default) (g i j) := by
      generalize hf : (fun i => partC (add i) (toSh (sub i))) = f at h1
      cases h1 with
      | nil _ oa cap => exact ⟨oa, cap, fun _ _ => undef, rfl, .inl rfl, fun i j hi => absurd hi (Nat.not_lt_zero i)⟩
      | row _ _ b off cap size V hk hF hc hdn =>
        by_cases hz : 0 < n
        · have es : size = 11 := by rw [← (hc 0 hz).1, ← hf]; rfl
          subst es
          subst hf
          exact ⟨some ⟨b, off, none⟩, cap, V, rfl, .inr ⟨b, off, rfl, hG b hF, fun i hi j hj => (hc i hi).2 j hj⟩, fun i j hi hj => hdn i j hi hj⟩
        · obtain rfl : n = 0 := by omega
          exact ⟨_, cap, fun _ _ => undef, rfl, .inl rfl, fun i j hi => absurd hi (Nat.not_lt_zero i)⟩
    refine callsIn_wide (n := 8).1 ((has_in Fence.wide 8 (fun _ => trivial) rfl (by decide) oa n cap h.2.1 g p.x p.y (fun i => figHasS (sub i) p) add w hO (fun j hj => DenC.cellB (hg j 0 hj (by decide))) (fun i hi j hj => one_of_den (hg i j hi hj)) (fun j hj W m hB => callsIn_wide.2 ?_)).mono fun e W' hr => ?_)
    · have q := figHas_ok (toSh (sub j)) (PdS_mk (h.2.2 j hj)) p
      rw [figHasE_eq] at q
      have mono : ∀ i, i < 11 → Dyn.DenC W (fun b => b < W.heap.size) ((partC (add j) (toSh (sub j))).getD i default) (g j i) := fun i hi => (hg j i hj hi).mono fun b hb => ⟨Nat.lt_of_lt_of_le (hG b hb) hB.size, hB.block b (hG b hb)⟩
      exact calls_of_okD Try.func48 (by kernel_rfl) (by kernel_rfl) q W (us := [.agg #[g j 1, g j 2, g j 3, g j 4, g j 5, g j 6, g j 7, g j 8, g j 9, g j 10], .agg #[.int .i64 p.x, .int .i64 p.y]])
        ⟨⟨_, rfl, mono 1 (by decide), mono 2 (by decide), mono 3 (by decide), mono 4 (by decide), mono 5 (by decide), mono 6 (by decide), mono 7 (by decide), mono 8 (by decide), mono 9 (by decide), mono 10 (by decide), trivial⟩, ⟨_, rfl, .p _ rfl, .p _ rfl, trivial⟩, trivial⟩
    · obtain ⟨⟨r, rfl, hp⟩, hB⟩ := hr
      exact ⟨by rw [PilRes.eq hp]; rfl, hB⟩
end Go.Proofs.Ythnenjodighlmaa

/-! ## Ctt -/
namespace Go.Proofs.Ythnenjodighlmaa
open Go Go.RowKit Sym

inductive Pln where
  | lf
  | it (p q : Pln)
  | tt (p : Pln)
  | ff (p : Pln)
def cutP : Dyn.RO → Pln → Option Dyn.RO
  | .side ps x, p => match cutP x p with
    | some x' => some (.side ps x')
    | none => none
  | .leaf r, .lf => some (.leaf r)
  | .ite b x y, .it p q => match cutP x p, cutP y q with
    | some x', some y' => some (.ite b x' y')
    | _, _ => none
  | .ite b x y, .tt p => match b with
    | true => cutP x p
    | false => none
  | .ite b x y, .ff p => match b with
    | true => none
    | false => cutP y p
  | _, _ => none
theorem cutP_sat {Q : Dyn.RV → Prop} : ∀ {o : Dyn.RO} {p : Pln} {o' : Dyn.RO}, cutP o p = some o' → o'.sat Q → o.sat Q := by
  intro o
  induction o with
  | leaf r =>
    intro p o' h k
    cases p <;> simp only [cutP, Option.some.injEq, reduceCtorEq] at h
    subst h; exact k
  | fail => intro p o' h k; simp only [cutP, reduceCtorEq] at h
  | side ps x ih =>
    intro p o' h k
    simp only [cutP] at h
    split at h
    · rename_i x' hx
      simp only [Option.some.injEq] at h; subst h
      exact ⟨k.1, ih hx k.2⟩
    · cases h
  | ite b x y ihx ihy =>
    intro p o' h k
    cases p with
    | lf => simp only [cutP, reduceCtorEq] at h
    | it p q =>
      simp only [cutP] at h
      split at h
      · rename_i x' y' hx hy
        simp only [Option.some.injEq] at h; subst h
        exact ⟨fun hb => ihx hx (k.1 hb), fun hb => ihy hy (k.2 hb)⟩
      · cases h
    | tt p =>
      cases b with
      | true => exact ⟨fun _ => ihx h k, fun e => (by cases e)⟩
      | false => cases h
    | ff p =>
      cases b with
      | true => cases h
      | false => exact ⟨fun e => (by cases e), fun _ => ihy h k⟩
/-- a contract of which some branches are dead -/
theorem dcontractC {P : Program} {X : Dyn.Tabs} {lp : Dyn.Lp} (ht : Dyn.TabsOk P X) (hm : P.follows .mixedOrders = true) {K : Nat} {fn : Func} (hf : P.funcs[K]? = some fn) (hn : (fn.name == "runtime.NumGoroutine") = false) {c : Code} (hb : fn.body = some c) (hl : ∀ w0 : Dyn.Base P, Dyn.LpOk P w0 lp (blocksL c)) {fuel : Nat} {args : List Dyn.DV} {r : Dyn.RV} (p : Pln) (o' : Dyn.RO)
    (hp : Dyn.pOks args = true) (hO : cutP ((Dyn.dfun P X lp fuel fn args).ro P fn.results) p = some o') (hs : o'.sat fun r' => Dyn.RVLe r' r) : Dyn.CallD P K args r :=
  Dyn.dcontract (fuel := fuel) ht hm hf hn hb hl hp rfl (cutP_sat hO hs)
theorem leafR {r r' : Dyn.RV} (h : r = r') : (Dyn.RO.leaf r).sat (fun q => Dyn.RVLe q r') := by subst h; exact Dyn.RVLe.refl _
end Go.Proofs.Ythnenjodighlmaa

/-! ## Fip -/
namespace Go.Proofs.Ythnenjodighlmaa
open Go Go.RowKit Sym
set_option maxRecDepth 100000

/-- mirrored, then turned by k quarters -/
def rt (m : Bool) (k : Int) (p : P2) : P2 :=
  ⟨bif k == 1 then -p.y else bif k == 2 then -(bif m then -p.x else p.x) else bif k == 3 then p.y else (bif m then -p.x else p.x),
   bif k == 1 then (bif m then -p.x else p.x) else bif k == 2 then -p.y else bif k == 3 then -(bif m then -p.x else p.x) else p.y⟩
def Q4 (k : Int) : Prop := k = 0 ∨ k = 1 ∨ k = 2 ∨ k = 3
theorem quF_Q4 (q : Int) : Q4 (quF q) := by have := band3 q; unfold Q4 quF; omega
theorem quF_small {z : Int} (h0 : -4 ≤ z) (h1 : z ≤ 6) : quF z = z % 4 := by
  have : z = -4 ∨ z = -3 ∨ z = -2 ∨ z = -1 ∨ z = 0 ∨ z = 1 ∨ z = 2 ∨ z = 3 ∨ z = 4 ∨ z = 5 ∨ z = 6 := by omega
  rcases this with rfl | rfl | rfl | rfl | rfl | rfl | rfl | rfl | rfl | rfl | rfl <;> decide +kernel
theorem plQ_Q4 (t : Tn) : Q4 (plQ t) := quF_Q4 _
theorem rt_PB {B : Int} (m : Bool) (k : Int) {p : P2} (h : PB B p) : PB B (rt m k p) := by
  obtain ⟨⟨h1, h2⟩, h3, h4⟩ := h
  unfold rt PB
  dsimp only
  cases m <;> cases k == 1 <;> cases k == 2 <;> cases k == 3 <;> simp only [cond_true, cond_false] <;> omega
theorem P2.ext' {p q : P2} (h : p.x = q.x) (k : p.y = q.y) : p = q := by cases p; cases q; cases h; cases k; rfl
theorem turnPt_rt {p : P2} {t : Tn} (h : PB 1000000000000 p) (hu : PB 1000000000000 t.u) : turnPtF p t = ⟨(rt (plX t) (plQ t) p).x + t.u.x, (rt (plX t) (plQ t) p).y + t.u.y⟩ := by
  obtain ⟨mx, my, q, u⟩ := t
  obtain ⟨⟨h1, h2⟩, h3, h4⟩ := h
  obtain ⟨⟨u1, u2⟩, u3, u4⟩ := hu
  dsimp only at u1 u2 u3 u4
  have hq := quF_Q4 q
  unfold turnPtF plX plQ
  dsimp only
  generalize quF q = κ at *
  have w : ∀ z, -1000000000000 ≤ z → z ≤ 1000000000000 → W (0 - z) = -z := fun z a b => by rw [W_id (by omega) (by omega)]; omega
  have w2 : ∀ z v, -1000000000000 ≤ z → z ≤ 1000000000000 → -1000000000000 ≤ v → v ≤ 1000000000000 → W (z + v) = z + v := fun z v a b c d => W_id (by omega) (by omega)
  have w3 : ∀ z, 0 ≤ z → z ≤ 3 → W (z + 2) = z + 2 := fun z a b => W_id (by omega) (by omega)
  rcases hq with rfl | rfl | rfl | rfl <;> cases mx <;> cases my <;>
    simp only [cond_true, cond_false, w3 0 (by omega) (by omega), w3 1 (by omega) (by omega), w3 2 (by omega) (by omega), w3 3 (by omega) (by omega), quF_small (z := 0) (by omega) (by omega), quF_small (z := 1) (by omega) (by omega), quF_small (z := 2) (by omega) (by omega), quF_small (z := 3) (by omega) (by omega), quF_small (z := 0 + 2) (by omega) (by omega), quF_small (z := 1 + 2) (by omega) (by omega), quF_small (z := 2 + 2) (by omega) (by omega), quF_small (z := 3 + 2) (by omega) (by omega)] <;>
    refine P2.ext' ?_ ?_ <;> unfold rt <;> dsimp only <;> simp only [show ((0 : Int) == 1) = false from rfl, show ((0 : Int) == 2) = false from rfl, show ((0 : Int) == 3) = false from rfl, show ((1 : Int) == 1) = true from rfl, show ((2 : Int) == 1) = false from rfl, show ((2 : Int) == 2) = true from rfl, show ((3 : Int) == 1) = false from rfl, show ((3 : Int) == 2) = false from rfl, show ((3 : Int) == 3) = true from rfl, cond_true, cond_false, show (0 : Int) % 4 = 0 from rfl, show (1 : Int) % 4 = 1 from rfl, show (2 : Int) % 4 = 2 from rfl, show (3 : Int) % 4 = 3 from rfl, show ((0 + 2 : Int)) % 4 = 2 from rfl, show ((1 + 2 : Int)) % 4 = 3 from rfl, show ((2 + 2 : Int)) % 4 = 0 from rfl, show ((3 + 2 : Int)) % 4 = 1 from rfl, show (true == true) = true from rfl, show (true == false) = false from rfl, show (false == true) = false from rfl, show (false == false) = true from rfl, Bool.not_true, Bool.not_false] <;>
    repeat (first | rw [w p.x (by omega) (by omega)] | rw [w p.y (by omega) (by omega)] | rw [w (-p.x) (by omega) (by omega)] | rw [w (-p.y) (by omega) (by omega)] | rw [w2 _ _ (by omega) (by omega) (by omega) (by omega)] | omega)
theorem rt_comp (m n : Bool) {j k : Int} (hj : Q4 j) (hk : Q4 k) (p : P2) : rt (!(m == n)) (quF (W ((bif n then W (0 - j) else j) + k))) p = rt n k (rt m j p) := by
  have e : W ((bif n then W (0 - j) else j) + k) = (bif n then 0 - j else j) + k := by
    unfold Q4 at hj hk
    cases n
    · simp only [cond_false]; rw [W_id (by omega) (by omega)]
    · simp only [cond_true]; rw [W_id (x := 0 - j) (by omega) (by omega), W_id (by omega) (by omega)]
  rw [e, quF_small (by unfold Q4 at hj hk; cases n <;> simp only [cond_true, cond_false] <;> omega) (by unfold Q4 at hj hk; cases n <;> simp only [cond_true, cond_false] <;> omega)]
  rcases hj with rfl | rfl | rfl | rfl <;> rcases hk with rfl | rfl | rfl | rfl <;> cases m <;> cases n <;> refine P2.ext' ?_ ?_ <;> simp [rt]
theorem plQ_plain (m : Bool) {k : Int} (hk : Q4 k) (u : P2) : plX ⟨m, false, k, u⟩ = m ∧ plQ ⟨m, false, k, u⟩ = k := by
  unfold plX plQ
  refine ⟨by cases m <;> rfl, ?_⟩
  rcases hk with rfl | rfl | rfl | rfl <;> kernel_rfl
theorem then_pl (t u : Tn) : plX (thenF t u) = (!(plX t == plX u)) ∧ plQ (thenF t u) = quF (W ((bif plX u then W (0 - plQ t) else plQ t) + plQ u)) := by
  unfold thenF
  exact plQ_plain _ (quF_Q4 _) _
/-- one turn after the other is the one of both -/
theorem turn_then {p : P2} {t u : Tn} {B C D : Int} (hB : PB B p) (hC : PB C t.u) (hD : PB D u.u) (h : B + C + D ≤ 1000000000000) (b0 : 0 ≤ B) (c0 : 0 ≤ C) (d0 : 0 ≤ D) : turnPtF (turnPtF p t) u = turnPtF p (thenF t u) := by
  have mono : ∀ {X Y : Int} {q : P2}, PB X q → X ≤ Y → PB Y q := fun h k => ⟨⟨by have := h.1; omega, by have := h.1; omega⟩, ⟨by have := h.2; omega, by have := h.2; omega⟩⟩
  have r1 := rt_PB (plX t) (plQ t) hB
  have r2 := rt_PB (plX u) (plQ u) hC
  have e1 : turnPtF p t = ⟨(rt (plX t) (plQ t) p).x + t.u.x, (rt (plX t) (plQ t) p).y + t.u.y⟩ := turnPt_rt (mono hB (by omega)) (mono hC (by omega))
  have e2 : turnPtF t.u u = ⟨(rt (plX u) (plQ u) t.u).x + u.u.x, (rt (plX u) (plQ u) t.u).y + u.u.y⟩ := turnPt_rt (mono hC (by omega)) (mono hD (by omega))
  have b1 : PB (B + C) (turnPtF p t) := by
    rw [e1]
    obtain ⟨⟨a1, a2⟩, a3, a4⟩ := r1
    obtain ⟨⟨c1, c2⟩, c3, c4⟩ := hC
    exact ⟨⟨by dsimp only; omega, by dsimp only; omega⟩, ⟨by dsimp only; omega, by dsimp only; omega⟩⟩
  have b2 : PB (C + D) (thenF t u).u := by
    show PB (C + D) (turnPtF t.u u)
    rw [e2]
    obtain ⟨⟨a1, a2⟩, a3, a4⟩ := r2
    obtain ⟨⟨c1, c2⟩, c3, c4⟩ := hD
    exact ⟨⟨by dsimp only; omega, by dsimp only; omega⟩, ⟨by dsimp only; omega, by dsimp only; omega⟩⟩
  rw [turnPt_rt (p := turnPtF p t) (mono b1 (by omega)) (mono hD (by omega)), turnPt_rt (p := p) (t := thenF t u) (mono hB (by omega)) (mono b2 (by omega)), (then_pl t u).1, (then_pl t u).2, rt_comp _ _ (plQ_Q4 t) (plQ_Q4 u)]
  show (⟨_, _⟩ : P2) = ⟨_ + (turnPtF t.u u).x, _ + (turnPtF t.u u).y⟩
  rw [e2, e1]
  refine P2.ext' ?_ ?_
  · dsimp only
    unfold rt; dsimp only
    rcases plQ_Q4 u with h | h | h | h <;> rw [h] <;> cases plX u <;> simp <;> omega
  · dsimp only
    unfold rt; dsimp only
    rcases plQ_Q4 u with h | h | h | h <;> rw [h] <;> cases plX u <;> simp <;> omega
end Go.Proofs.Ythnenjodighlmaa

/-! ## Fiq -/
namespace Go.Proofs.Ythnenjodighlmaa
open Go Go.RowKit Sym
set_option maxRecDepth 100000

theorem PB_mono {X Y : Int} {q : P2} (h : PB X q) (k : X ≤ Y) : PB Y q := ⟨⟨by have := h.1; omega, by have := h.1; omega⟩, ⟨by have := h.2; omega, by have := h.2; omega⟩⟩
theorem PB_add {B C : Int} {m : Bool} {k : Int} {p u : P2} (h : PB B p) (g : PB C u) : PB (B + C) ⟨(rt m k p).x + u.x, (rt m k p).y + u.y⟩ := by
  obtain ⟨⟨a1, a2⟩, a3, a4⟩ := rt_PB m k h
  obtain ⟨⟨c1, c2⟩, c3, c4⟩ := g
  exact ⟨⟨by dsimp only; omega, by dsimp only; omega⟩, ⟨by dsimp only; omega, by dsimp only; omega⟩⟩
theorem turn_PB {B C : Int} {p : P2} {t : Tn} (h : PB B p) (g : PB C t.u) (b : B ≤ 1000000000000) (c : C ≤ 1000000000000) : PB (B + C) (turnPtF p t) := by
  rw [turnPt_rt (PB_mono h b) (PB_mono g c)]
  exact PB_add h g
theorem rt_inj {m : Bool} {k : Int} (hk : Q4 k) {p q : P2} (h : rt m k p = rt m k q) : p = q := by
  have hx := congrArg P2.x h
  have hy := congrArg P2.y h
  unfold rt at hx hy
  dsimp only at hx hy
  rcases hk with rfl | rfl | rfl | rfl <;> cases m <;> simp at hx hy <;> exact P2.ext' (by omega) (by omega)
theorem turn_inj {B C : Int} {p q : P2} {t : Tn} (h : PB B p) (h2 : PB B q) (g : PB C t.u) (b : B ≤ 1000000000000) (c : C ≤ 1000000000000) (e : turnPtF p t = turnPtF q t) : p = q := by
  rw [turnPt_rt (PB_mono h b) (PB_mono g c), turnPt_rt (PB_mono h2 b) (PB_mono g c)] at e
  have hx := congrArg P2.x e
  have hy := congrArg P2.y e
  dsimp only at hx hy
  exact rt_inj (m := plX t) (k := plQ t) (plQ_Q4 t) (P2.ext' (by omega) (by omega))
theorem turn_dist {B C : Int} {p q : P2} {t : Tn} (h : PB B p) (h2 : PB B q) (g : PB C t.u) (b : B ≤ 1000000000000) (c : C ≤ 1000000000000) : distI (turnPtF p t) (turnPtF q t) = distI p q := by
  rw [turnPt_rt (PB_mono h b) (PB_mono g c), turnPt_rt (PB_mono h2 b) (PB_mono g c)]
  unfold distI rt
  dsimp only
  rcases plQ_Q4 t with e | e | e | e <;> rw [e] <;> cases plX t <;> simp <;> grind
theorem turn_okI {B C : Int} {c p q : P2} {t : Tn} (hc : PB B c) (h : PB B p) (h2 : PB B q) (g : PB C t.u) (b : B ≤ 1000000000000) (c' : C ≤ 1000000000000) (k : okI c p q) : okI (turnPtF c t) (turnPtF p t) (turnPtF q t) := by
  unfold okI at *
  rw [turn_dist h hc g b c', turn_dist h2 hc g b c']; exact k
theorem okI_swap {c p q : P2} (k : okI c p q) : okI c q p := ⟨by rw [← k.2]; exact k.1, k.2.symm⟩
theorem turn_fine {B C : Int} {t : Tn} (g : PB C t.u) (b : B ≤ 1000000000000) (c' : C ≤ 1000000000000) : ∀ (s : Shp) (d : Int), Fine (PB B) s d → Fine (PB (B + C)) (turnS s t) d := by
  intro s
  induction s with
  | nil => intro d h; exact h.elim
  | mk k a b' c r l n add sub ih =>
    intro d h
    rcases h with ⟨rfl, rfl, rfl, rfl, rfl, ha, hr⟩ | ⟨rfl, rfl, rfl, rfl, ha, hb, hr⟩ | ⟨rfl, rfl, rfl, rfl, ha, hb, hr, hn⟩ | ⟨rfl, rfl, rfl, ha, hb, hc, hr, ho⟩ | ⟨rfl, rfl, rfl, rfl, rfl, rfl, hc⟩ | ⟨rfl, rfl, rfl, rfl, rfl, rfl, h5, hm, hs⟩
    · exact .inl ⟨rfl, rfl, rfl, rfl, rfl, turn_PB ha g b c', hr⟩
    · exact .inr (.inl ⟨rfl, rfl, rfl, rfl, turn_PB ha g b c', turn_PB hb g b c', hr⟩)
    · exact .inr (.inr (.inl ⟨rfl, rfl, rfl, rfl, turn_PB ha g b c', turn_PB hb g b c', hr, fun e => hn (turn_inj ha hb g b c' e)⟩))
    · refine .inr (.inr (.inr (.inl ?_)))
      show (5 : Int) = 5 ∧ zeC = zeC ∧ 0 = 0 ∧ PB (B + C) (bif t.mx != t.my then turnPtF b' t else turnPtF a t) ∧ PB (B + C) (bif t.mx != t.my then turnPtF a t else turnPtF b' t) ∧ PB (B + C) (turnPtF c t) ∧ widF r = true ∧ okI (turnPtF c t) (bif t.mx != t.my then turnPtF b' t else turnPtF a t) (bif t.mx != t.my then turnPtF a t else turnPtF b' t)
      have o := turn_okI hc ha hb g b c' ho
      cases t.mx != t.my
      · exact ⟨rfl, rfl, rfl, turn_PB ha g b c', turn_PB hb g b c', turn_PB hc g b c', hr, o⟩
      · exact ⟨rfl, rfl, rfl, turn_PB hb g b c', turn_PB ha g b c', turn_PB hc g b c', hr, okI_swap o⟩
    · exact .inr (.inr (.inr (.inr (.inl ⟨rfl, rfl, rfl, rfl, rfl, rfl, hc.1, fun i hi => ⟨(hc.2 i hi).1, fun k hk => turn_PB ((hc.2 i hi).2 k hk) g b c'⟩⟩))))
    · exact .inr (.inr (.inr (.inr (.inr ⟨rfl, rfl, rfl, rfl, rfl, rfl, h5, hm, fun i hi => ih i (d + 1) (hs i hi)⟩))))
/-! ### the same -/
theorem spt_of {l m : Ctr} (hn : l.n = m.n) (h : ∀ i, i < l.n → l.m i = m.m i ∧ ∀ k, k < l.m i → l.p i k = m.p i k) : sptF l m = true := by
  unfold sptF
  rw [show ((l.n : Int) != (m.n : Int)) = false by simp [hn]]
  refine (runN_inv (fun _ _ => True) trivial l.n (fun i x hi _ => ⟨?_, trivial⟩)).1
  have q := h i hi
  unfold spO
  rw [show ((l.m i : Int) != (m.m i : Int)) = false by simp [q.1]]
  refine (runN_inv (fun _ _ => True) trivial (l.m i) (fun k _ hk _ => ⟨?_, trivial⟩)).1
  show (!(!(eqP (l.p i k) (m.p i k)))) = true
  rw [q.2 k hk, show eqP (m.p i k) (m.p i k) = true from eqP_iff.2 rfl]; rfl
theorem same_mk {k : Int} {a b c : P2} {r : Int} {l l' : Ctr} {n : Nat} {add add' : Nat → Bool} {sub sub' : Nat → Shp} (hl : sptF l l' = true) (h : ∀ i, i < n → add i = add' i ∧ sameF (sub i) (sub' i) = true) : sameF (.mk k a b c r l n add sub) (.mk k a b c r l' n add' sub') = true := by
  have e : sqH ⟨k, a, b, c, r, l, n, noF⟩ ⟨k, a, b, c, r, l', n, noF⟩ = false := by
    unfold sqH sqH0
    dsimp only
    rw [hl, show eqP a a = true from eqP_iff.2 rfl, show eqP b b = true from eqP_iff.2 rfl, show eqP c c = true from eqP_iff.2 rfl, show (k != k) = false by simp, show (r != r) = false by simp, show ((n : Int) != (n : Int)) = false by simp]; rfl
  simp only [sameF]
  rw [e]
  refine (runN_inv (fun _ _ => True) trivial n (fun i x hi _ => ⟨?_, trivial⟩)).1
  have q := h i hi
  show (!(bif add i != add' i then true else !(sameF (sub i) (sub' i)))) = true
  rw [q.1, q.2, show (add' i != add' i) = false by simp]; rfl
theorem spt_refl (l : Ctr) : sptF l l = true := spt_of rfl fun _ _ => ⟨rfl, fun _ _ => rfl⟩
theorem same_leaf (k : Int) (a b c : P2) (r : Int) {l l' : Ctr} (hl : sptF l l' = true) (add add' : Nat → Bool) (sub sub' : Nat → Shp) : sameF (.mk k a b c r l 0 add sub) (.mk k a b c r l' 0 add' sub') = true := same_mk hl fun i hi => absurd hi (Nat.not_lt_zero i)
/-- turned by nothing -/
theorem turn_none {p : P2} (h : PB 1000000000000 p) : turnPtF p noT = p := by
  show (⟨W (p.x + 0), W (p.y + 0)⟩ : P2) = p
  obtain ⟨⟨a1, a2⟩, a3, a4⟩ := h
  rw [W_id (by omega) (by omega), W_id (by omega) (by omega)]
  exact P2.ext' (by dsimp only; omega) (by dsimp only; omega)
theorem same_none {B : Int} (b : B ≤ 1000000000000) : ∀ (s : Shp) (d : Int), Fine (PB B) s d → sameF (turnS s noT) s = true := by
  intro s
  induction s with
  | nil => intro d h; exact h.elim
  | mk k a b' c r l n add sub ih =>
    intro d h
    rcases h with ⟨rfl, rfl, rfl, rfl, rfl, ha, hr⟩ | ⟨rfl, rfl, rfl, rfl, ha, hb, hr⟩ | ⟨rfl, rfl, rfl, rfl, ha, hb, hr, hn⟩ | ⟨rfl, rfl, rfl, ha, hb, hc, hr, ho⟩ | ⟨rfl, rfl, rfl, rfl, rfl, rfl, hc⟩ | ⟨rfl, rfl, rfl, rfl, rfl, rfl, h5, hm, hs⟩
    · show sameF (leafS 1 (turnPtF a noT) ze ze r zeC) _ = true
      rw [turn_none (PB_mono ha b)]
      exact same_leaf _ _ _ _ _ (spt_refl _) _ _ _ _
    · show sameF (leafS 3 (turnPtF a noT) (turnPtF b' noT) ze r zeC) _ = true
      rw [turn_none (PB_mono ha b), turn_none (PB_mono hb b)]
      exact same_leaf _ _ _ _ _ (spt_refl _) _ _ _ _
    · show sameF (leafS 4 (turnPtF a noT) (turnPtF b' noT) ze r zeC) _ = true
      rw [turn_none (PB_mono ha b), turn_none (PB_mono hb b)]
      exact same_leaf _ _ _ _ _ (spt_refl _) _ _ _ _
    · show sameF (leafS 5 (turnPtF a noT) (turnPtF b' noT) (turnPtF c noT) r zeC) _ = true
      rw [turn_none (PB_mono ha b), turn_none (PB_mono hb b), turn_none (PB_mono hc b)]
      exact same_leaf _ _ _ _ _ (spt_refl _) _ _ _ _
    · show sameF (leafS 2 ze ze ze 0 (turnC l noT)) _ = true
      exact same_leaf (l := turnC l noT) (l' := l) _ _ _ _ _ (spt_of rfl fun i hi => ⟨rfl, fun k hk => turn_none (PB_mono ((hc.2 i hi).2 k hk) b)⟩) _ _ _ _
    · show sameF (.mk 6 ze ze ze 0 zeC n add (fun i => turnS (sub i) noT)) _ = true
      exact same_mk (spt_refl _) fun i hi => ⟨rfl, ih i (d + 1) (hs i hi)⟩
/-- one turn after the other -/
theorem same_then {B C D : Int} {t u : Tn} (gC : PB C t.u) (gD : PB D u.u) (h : B + C + D ≤ 1000000000000) (b0 : 0 ≤ B) (c0 : 0 ≤ C) (d0 : 0 ≤ D) : ∀ (s : Shp) (d : Int), Fine (PB B) s d → sameF (turnS (turnS s t) u) (turnS s (thenF t u)) = true := by
  intro s
  induction s with
  | nil => intro d h; exact h.elim
  | mk k a b' c r l n add sub ih =>
    intro d h'
    have T : ∀ {p : P2}, PB B p → turnPtF (turnPtF p t) u = turnPtF p (thenF t u) := fun hp => turn_then hp gC gD h b0 c0 d0
    rcases h' with ⟨rfl, rfl, rfl, rfl, rfl, ha, hr⟩ | ⟨rfl, rfl, rfl, rfl, ha, hb, hr⟩ | ⟨rfl, rfl, rfl, rfl, ha, hb, hr, hn⟩ | ⟨rfl, rfl, rfl, ha, hb, hc, hr, ho⟩ | ⟨rfl, rfl, rfl, rfl, rfl, rfl, hc⟩ | ⟨rfl, rfl, rfl, rfl, rfl, rfl, h5, hm, hs⟩
    · show sameF (leafS 1 (turnPtF (turnPtF a t) u) ze ze r zeC) (leafS 1 (turnPtF a (thenF t u)) ze ze r zeC) = true
      rw [T ha]
      exact same_leaf _ _ _ _ _ (spt_refl _) _ _ _ _
    · show sameF (leafS 3 (turnPtF (turnPtF a t) u) (turnPtF (turnPtF b' t) u) ze r zeC) (leafS 3 (turnPtF a (thenF t u)) (turnPtF b' (thenF t u)) ze r zeC) = true
      rw [T ha, T hb]
      exact same_leaf _ _ _ _ _ (spt_refl _) _ _ _ _
    · show sameF (leafS 4 (turnPtF (turnPtF a t) u) (turnPtF (turnPtF b' t) u) ze r zeC) (leafS 4 (turnPtF a (thenF t u)) (turnPtF b' (thenF t u)) ze r zeC) = true
      rw [T ha, T hb]
      exact same_leaf _ _ _ _ _ (spt_refl _) _ _ _ _
    · show sameF (leafS 5 (bif u.mx != u.my then turnPtF (bif t.mx != t.my then turnPtF a t else turnPtF b' t) u else turnPtF (bif t.mx != t.my then turnPtF b' t else turnPtF a t) u) (bif u.mx != u.my then turnPtF (bif t.mx != t.my then turnPtF b' t else turnPtF a t) u else turnPtF (bif t.mx != t.my then turnPtF a t else turnPtF b' t) u) (turnPtF (turnPtF c t) u) r zeC)
        (leafS 5 (bif (!(plX t == plX u)) != false then turnPtF b' (thenF t u) else turnPtF a (thenF t u)) (bif (!(plX t == plX u)) != false then turnPtF a (thenF t u) else turnPtF b' (thenF t u)) (turnPtF c (thenF t u)) r zeC) = true
      rw [← T ha, ← T hb, ← T hc]
      unfold plX
      have e : ∀ x y : Bool, (x != y) = !(x == y) := fun x y => rfl
      rw [e t.mx, e u.mx]
      cases t.mx == t.my <;> cases u.mx == u.my <;> exact same_leaf _ _ _ _ _ (spt_refl _) _ _ _ _
    · show sameF (leafS 2 ze ze ze 0 (turnC (turnC l t) u)) (leafS 2 ze ze ze 0 (turnC l (thenF t u))) = true
      exact same_leaf (l := turnC (turnC l t) u) (l' := turnC l (thenF t u)) _ _ _ _ _ (spt_of rfl fun i hi => ⟨rfl, fun k hk => T ((hc.2 i hi).2 k hk)⟩) _ _ _ _
    · show sameF (.mk 6 ze ze ze 0 zeC n add (fun i => turnS (turnS (sub i) t) u)) (.mk 6 ze ze ze 0 zeC n add (fun i => turnS (sub i) (thenF t u))) = true
      exact same_mk (spt_refl _) fun i hi => ⟨rfl, ih i (d + 1) (hs i hi)⟩
/-! ### moved -/
theorem fine_B {P : P2 → Prop} : ∀ (s : Shp) (d : Int), Fine P s d → 0 ≤ d → ShB s := by
  intro s
  induction s with
  | nil => intro d h; exact h.elim
  | mk k a b' c r l n add sub ih =>
    intro d h h0
    have z : ∀ i, i < 0 → ShB (sub i) := fun i hi => absurd hi (Nat.not_lt_zero i)
    rcases h with ⟨rfl, rfl, rfl, rfl, rfl, ha, hr⟩ | ⟨rfl, rfl, rfl, rfl, ha, hb, hr⟩ | ⟨rfl, rfl, rfl, rfl, ha, hb, hr, hn⟩ | ⟨rfl, rfl, rfl, ha, hb, hc, hr, ho⟩ | ⟨rfl, rfl, rfl, rfl, rfl, rfl, hc⟩ | ⟨rfl, rfl, rfl, rfl, rfl, rfl, h5, hm, hs⟩
    · exact ⟨CtrB_ze, by decide, z⟩
    · exact ⟨CtrB_ze, by decide, z⟩
    · exact ⟨CtrB_ze, by decide, z⟩
    · exact ⟨CtrB_ze, by decide, z⟩
    · exact ⟨⟨by have := hc.1; omega, fun i hi => by have := (hc.2 i hi).1; omega⟩, by decide, z⟩
    · exact ⟨CtrB_ze, by omega, fun i hi => ih i (d + 1) (hs i hi) (by omega)⟩
theorem move_fine {B C : Int} {s : Shp} {t : Tn} (h : Fine (PB B) s 0) (g : PB C t.u) (b : B ≤ 536870912) (c : B + C ≤ 536870912) (c' : C ≤ 1000000000000) : movesE (toSh s) t = true ∧ moveE (toSh s) t = toSh (turnS s t) ∧ Fine (PB (B + C)) (turnS s t) 0 := by
  have f := turn_fine g (by omega) c' s 0 h
  have e1 : okE (toSh s) = true := fine_ok (fun p hp => PB_near b hp) h
  have e2 : okE (turnE (toSh s) t) = true := by rw [turnE_eq]; exact fine_ok (fun p hp => PB_near c hp) f
  refine ⟨?_, ?_, f⟩
  · unfold movesE; rw [e1, e2]; rfl
  · unfold moveE; rw [e1, e2, turnE_eq]; rfl
theorem same_toSh (s t : Shp) : sameE (toSh s) (toSh t) = sameF s t := by unfold sameE; rw [ofSh_toSh, ofSh_toSh]
theorem tameT_PB (t : Tn) {n : Int} (h0 : 0 ≤ n) (h1 : n ≤ 9223372036854775806) : PB n (tameT t n).u := lClose_r t.u h0 h1
theorem eqT_refl (t : Tn) : eqT t t = true := by
  unfold eqT
  rw [show eqP t.u t.u = true from eqP_iff.2 rfl]
  simp
theorem qn (y : Bool) {j k : Int} (hj : Q4 j) (hk : Q4 k) : quF (W ((bif y then W (0 - j) else j) + k)) = ((bif y then -j else j) + k) % 4 := by
  have e : W ((bif y then W (0 - j) else j) + k) = (bif y then -j else j) + k := by
    unfold Q4 at hj hk
    cases y
    · simp only [cond_false]; rw [W_id (by omega) (by omega)]
    · simp only [cond_true]; rw [W_id (x := 0 - j) (by omega) (by omega), W_id (by omega) (by omega)]; omega
  rw [e, quF_small (by unfold Q4 at hj hk; cases y <;> simp only [cond_true, cond_false] <;> omega) (by unfold Q4 at hj hk; cases y <;> simp only [cond_true, cond_false] <;> omega)]
theorem then_assoc {t u v : Tn} {C : Int} (c0 : 0 ≤ C) (c1 : C ≤ 100000000000) (ht : PB C t.u) (hu : PB C u.u) (hv : PB C v.u) : thenF (thenF t u) v = thenF t (thenF u v) := by
  have a := then_pl t u
  have b := then_pl u v
  have e1 : (thenF (thenF t u) v).mx = (thenF t (thenF u v)).mx := by
    show (!(plX (thenF t u) == plX v)) = (!(plX t == plX (thenF u v)))
    rw [a.1, b.1]
    cases plX t <;> cases plX u <;> cases plX v <;> rfl
  have e2 : (thenF (thenF t u) v).q = (thenF t (thenF u v)).q := by
    show quF (W ((bif plX v then W (0 - plQ (thenF t u)) else plQ (thenF t u)) + plQ v)) = quF (W ((bif plX (thenF u v) then W (0 - plQ t) else plQ t) + plQ (thenF u v)))
    rw [qn _ (plQ_Q4 _) (plQ_Q4 _), qn _ (plQ_Q4 _) (plQ_Q4 _), a.2, b.1, b.2, qn _ (plQ_Q4 _) (plQ_Q4 _), qn _ (plQ_Q4 _) (plQ_Q4 _)]
    cases plX u <;> cases plX v <;> simp only [cond_true, cond_false, show (true == true) = true from rfl, show (true == false) = false from rfl, show (false == true) = false from rfl, show (false == false) = true from rfl, Bool.not_true, Bool.not_false] <;> omega
  have e3 : (thenF (thenF t u) v).u = (thenF t (thenF u v)).u := turn_then ht hu hv (by omega) c0 c0 c0
  revert e1 e2 e3
  show _ → _ → _ → (⟨(thenF (thenF t u) v).mx, false, (thenF (thenF t u) v).q, (thenF (thenF t u) v).u⟩ : Tn) = ⟨(thenF t (thenF u v)).mx, false, (thenF t (thenF u v)).q, (thenF t (thenF u v)).u⟩
  intro e1 e2 e3
  rw [e1, e2, e3]
theorem P2x {t u : Tn} (h1 : t.mx = u.mx) (h2 : t.my = u.my) (h3 : t.q = u.q) (h4 : t.u.x = u.u.x) (h5 : t.u.y = u.u.y) : t = u := by
  obtain ⟨a, b, c, d, e⟩ := t
  obtain ⟨a', b', c', d', e'⟩ := u
  cases h1; cases h2; cases h3; cases h4; cases h5; rfl
theorem four_none (a : Int) : thenF (thenF ⟨false, false, a, ⟨0, 0⟩⟩ ⟨false, false, a, ⟨0, 0⟩⟩) (thenF ⟨false, false, a, ⟨0, 0⟩⟩ ⟨false, false, a, ⟨0, 0⟩⟩) = noT := by
  unfold thenF plX plQ turnPtF
  dsimp only
  have h := quF_Q4 a
  generalize quF a = κ at *
  rcases h with h | h | h | h <;> subst h <;> refine P2x ?_ ?_ ?_ ?_ ?_ <;> decide +kernel
theorem twice_none (x y : Bool) : thenF ⟨x, y, 0, ⟨0, 0⟩⟩ ⟨x, y, 0, ⟨0, 0⟩⟩ = noT := by
  cases x <;> cases y <;> refine P2x ?_ ?_ ?_ ?_ ?_ <;> decide +kernel
end Go.Proofs.Ythnenjodighlmaa

/-! ## Fit -/
namespace Go.Proofs.Ythnenjodighlmaa
open Go Go.RowKit Sym
set_option maxRecDepth 100000

end Go.Proofs.Ythnenjodighlmaa

/-! ## Dla -/
namespace Go.Proofs.Ythnenjodighlmaa
open Go Go.RowKit Sym
set_option maxRecDepth 100000

inductive DLe : Dyn.DC → Dyn.DC → Prop where
  | refl (c : Dyn.DC) : DLe c c
  | row (n : Nat) (f g : Nat → List Dyn.DC) : (∀ i, i < n → (f i).length = (g i).length) → (∀ i j, i < n → j < (f i).length → DLe ((f i).getD j default) ((g i).getD j default)) → DLe (.row n f) (.row n g)
theorem DLe.den {w : World} {F : Nat → Prop} {c d : Dyn.DC} (h : DLe c d) : ∀ {u : Value}, Dyn.DenC w F c u → Dyn.DenC w F d u := by
  induction h with
  | refl c => exact fun h => h
  | row n f g hl _ ih =>
    intro u k
    cases k with
    | nil _ oa cap => exact .nil g oa cap
    | row _ _ b off cap size V hk hF hc hd =>
      refine .row n g b off cap size V hk hF (fun i hi => ⟨(hl i hi) ▸ (hc i hi).1, (hc i hi).2⟩) (fun i j hi hj => ih i j hi ?_ (hd i j hi hj))
      rw [(hc i hi).1]; exact hj
def DLL : List Dyn.DC → List Dyn.DC → Prop
  | [], [] => True
  | c :: cs, d :: ds => DLe c d ∧ DLL cs ds
  | _, _ => False
theorem DLL.refl : ∀ cs, DLL cs cs
  | [] => trivial
  | c :: cs => ⟨.refl c, DLL.refl cs⟩
theorem DLL.den {w : World} {F : Nat → Prop} : ∀ {cs ds : List Dyn.DC} {us : List Value}, DLL cs ds → Dyn.DenL w F cs us → Dyn.DenL w F ds us
  | [], [], [], _, h => h
  | [], [], _ :: _, _, h => h
  | [], _ :: _, _, h, _ => h.elim
  | _ :: _, [], _, h, _ => h.elim
  | c :: cs, d :: ds, [], _, k => k.elim
  | c :: cs, d :: ds, u :: us, h, k => ⟨h.1.den k.1, DLL.den h.2 k.2⟩
theorem DLL.get : ∀ {cs ds : List Dyn.DC}, DLL cs ds → cs.length = ds.length ∧ ∀ j, DLe (cs.getD j default) (ds.getD j default)
  | [], [], _ => ⟨rfl, fun j => .refl _⟩
  | [], _ :: _, h => h.elim
  | _ :: _, [], h => h.elim
  | c :: cs, d :: ds, h => by
    have k := DLL.get h.2
    exact ⟨congrArg Nat.succ k.1, fun j => match j with
      | 0 => h.1
      | j + 1 => k.2 j⟩
theorem DLe.rowL {n : Nat} {f g : Nat → List Dyn.DC} (h : ∀ i, i < n → DLL (f i) (g i)) : DLe (.row n f) (.row n g) := .row n f g (fun i hi => (h i hi).get.1) (fun i j hi _ => (h i hi).get.2 j)
def DVd : Dyn.DV → Dyn.DV → Prop
  | .one c, .one d => DLe c d
  | .agg cs, .agg ds => DLL cs ds
  | _, _ => False
theorem DVd.refl : ∀ v, DVd v v
  | .one c => DLe.refl c
  | .agg cs => DLL.refl cs
theorem DVd.den {w : World} {F : Nat → Prop} : ∀ {c d : Dyn.DV} {u : Value}, DVd c d → Dyn.DenV w F c u → Dyn.DenV w F d u
  | .one _, .one _, _, h, k => DLe.den h k
  | .agg _, .agg _, _, h, ⟨us, e, k⟩ => ⟨us, e, DLL.den h k⟩
  | .one _, .agg _, _, h, _ => h.elim
  | .agg _, .one _, _, h, _ => h.elim
/-- a contract, told of a first argument that shows the same -/
theorem CallD_d1 {P : Program} {K : Nat} {v v' : Dyn.DV} {l : List Dyn.DV} {r : Dyn.RV} (h : DVd v v') (k : Dyn.CallD P K (v' :: l) r) : Dyn.CallD P K (v :: l) r := fun w F us hF hd => k w F us hF (by
  cases us with
  | nil => exact hd
  | cons u us => exact ⟨DVd.den h hd.1, hd.2⟩)
theorem CallD_d2 {P : Program} {K : Nat} {v v' w w' : Dyn.DV} {l : List Dyn.DV} {r : Dyn.RV} (h : DVd v v') (h2 : DVd w w') (k : Dyn.CallD P K (v' :: w' :: l) r) : Dyn.CallD P K (v :: w :: l) r := fun ww F us hF hd => k ww F us hF (by
  cases us with
  | nil => exact hd
  | cons u us => exact (by
    cases us with
    | nil => exact ⟨DVd.den h hd.1, hd.2⟩
    | cons u2 us => exact ⟨DVd.den h hd.1, DVd.den h2 hd.2.1, hd.2.2⟩))
end Go.Proofs.Ythnenjodighlmaa

/-! ## Dle -/
namespace Go.Proofs.Ythnenjodighlmaa
open Go Go.RowKit Sym
set_option maxRecDepth 100000

/-- the form of awake of layer 10, as the program writes it, and as a shape -/
def rawP (add : Bool) (r : Int) : List Dyn.DC := [cB add, cI 1, cI 0, cI 0, cI 0, cI 0, cI 0, cI 0, cI r, .row 0 noF, .row 0 noF]
def formD : Sh := ⟨6, ze, ze, ze, 0, zeL, 2, Dyn.pickL 0 [rawP true 5, rawP false 2]⟩
def shpD : Shp := .mk 6 ze ze ze 0 zeL 2 (fun i => bif Nat.beq i 0 then true else false) (fun i => bif Nat.beq i 0 then leafS 1 ze ze ze 5 zeL else leafS 1 ze ze ze 2 zeL)
theorem formD_le : DVd (dvS formD) (dvS (toSh shpD)) := ⟨.refl _, .refl _, .refl _, .refl _, .refl _, .refl _, .refl _, .refl _, .refl _, DLe.rowL fun i hi => by
  have hi : i < 2 := hi
  match i, hi with
  | 0, _ => exact ⟨.refl _, .refl _, .refl _, .refl _, .refl _, .refl _, .refl _, .refl _, .refl _, DLe.rowL (fun i hi => absurd hi (Nat.not_lt_zero i)), DLe.rowL fun i hi => absurd hi (Nat.not_lt_zero i), trivial⟩
  | 1, _ => exact ⟨.refl _, .refl _, .refl _, .refl _, .refl _, .refl _, .refl _, .refl _, .refl _, DLe.rowL (fun i hi => absurd hi (Nat.not_lt_zero i)), DLe.rowL fun i hi => absurd hi (Nat.not_lt_zero i), trivial⟩, trivial⟩
theorem shpD_B : ShB shpD := ⟨CtrB_zeL, by decide, fun i hi => by
  match i, hi with
  | 0, _ => exact leaf_B _ _ _ _ _ CtrB_zeL
  | 1, _ => exact leaf_B _ _ _ _ _ CtrB_zeL⟩
end Go.Proofs.Ythnenjodighlmaa

/-! ## Awt -/
namespace Go.Proofs.Ythnenjodighlmaa
open Go Go.RowKit Sym
set_option maxRecDepth 100000

def selD (x : Sh) : Sh := bif Nat.beq x.n 2 then toSh shpD else x
def PdD (x : Sh) : Prop := x = formD ∨ (PdS x ∧ Nat.beq x.n 2 = false)
theorem selD_ok {P : Program} {K : Nat} {x : Sh} {l : List Dyn.DV} {R : Sh → Dyn.RV} (h : PdD x) (k : ∀ y, PdS y → Dyn.CallD P K (dvS y :: l) (R y)) : Dyn.CallD P K (dvS x :: l) (R (selD x)) := by
  rcases h with rfl | ⟨h, e⟩
  · exact CallD_d1 formD_le (k (toSh shpD) (PdS_mk shpD_B))
  · unfold selD; rw [e]; exact k x h
end Go.Proofs.Ythnenjodighlmaa

/-! ## Cnt -/
namespace Go.Proofs.Ythnenjodighlmaa
open Go Go.RowKit Sym
set_option maxRecDepth 100000

def rowD : Nat → List Dyn.DC := Dyn.pickL 0 [rawP true 5, rawP false 2]
def isPl (K : Nat) : Bool := Nat.beq K 114
theorem isPl_ok : ∀ K, isPl K = true → Dyn.PlaceP Try.prog K := fun K h => by
  have := Nat.eq_of_beq_eq_true h
  subst this
  exact place_ok
noncomputable def tabCp : Dyn.Tabs := Dyn.extT (Dyn.tabs tbF [] noD dtyS) isPl
theorem tabCp_ok : Dyn.TabsOk Try.prog tabCp := Dyn.extT_ok (Dyn.tabs_ok tbF_ok (fun _ h => by cases h)) isPl_ok
theorem countD : Dyn.CallD Try.prog 91 [.one (.row 2 rowD)] (rI 2) :=
  Dyn.dcontract (lp := Dyn.noLp) (fuel := 4) tabCp_ok mo Try.func91 (by kernel_rfl) (c := bodyD Try.f91.body) (by kernel_rfl) (fun w0 => Dyn.noLp_ok _ w0) (by kernel_rfl)
    (O := .side [0 < 2] (.side [(0 : Int) ≤ 0 ∧ (0 : Int) < ((2 : Nat) : Int)] (.side [0 ≤ IntKind.i64.wrap (0 + 1) ∧ IntKind.i64.wrap (0 + 1) < ((2 : Nat) : Int)] (.side [0 < 2] (.leaf (rI (plusF (plusF 0 (plusF 1 0)) (plusF 1 0)))))))) (by kernel_rfl)
    ⟨⟨by decide, trivial⟩, ⟨by decide, trivial⟩, ⟨by decide, trivial⟩, ⟨by decide, trivial⟩, ro_leaf (congrArg rI (by decide +kernel))⟩
def enCp : Dyn.EntryD := (91, fun args => match args with
  | [.one (.row n f)] => some (rI 2, [n = 2 ∧ f = rowD])
  | _ => none)
theorem enCp_ok : Dyn.EntryDOk Try.prog enCp := fun args r ps h hp => by
  unfold enCp at h
  dsimp only at h
  split at h
  · simp only [Option.some.injEq, Prod.mk.injEq] at h
    obtain ⟨rfl, rfl⟩ := h
    obtain ⟨⟨rfl, rfl⟩, -⟩ := hp
    exact countD
  · cases h
noncomputable def tabCo : Dyn.Tabs := Dyn.tabs tbF [enCp] noD dtyS
theorem tabCo_ok : Dyn.TabsOk Try.prog tabCo := Dyn.tabs_ok tbF_ok (List.forall_mem_cons.2 ⟨enCp_ok, fun _ h => by cases h⟩)
end Go.Proofs.Ythnenjodighlmaa

/-! ## Pie -/
namespace Go.Proofs.Ythnenjodighlmaa
open Go Go.RowKit Sym
set_option maxRecDepth 100000

def nilF0 : Nat → List Dyn.DC := fun _ => []
/-! ### a disc around (0, 0), as it is written -/
def dC (r : Int) : List Dyn.DC := [cI 1, cI 0, cI 0, cI 0, cI 0, cI 0, cI 0, cI r, .row 0 noF, .row 0 noF]
def dvDc (r : Int) : Dyn.DV := .agg (dC r)
noncomputable def tabD0 : Dyn.Tabs := Dyn.tabs tbF [] noD dtyS
theorem tabD0_ok : Dyn.TabsOk Try.prog tabD0 := Dyn.tabs_ok tbF_ok (fun _ h => by cases h)
theorem cpD_ok : Dyn.CallD Try.prog 91 [.one (.row 0 noF)] (rI 0) :=
  dcontractC (lp := Dyn.noLp) (fuel := 2) tabD0_ok mo Try.func91 (by kernel_rfl) (c := bodyD Try.f91.body) (by kernel_rfl) (fun w0 => Dyn.noLp_ok _ w0) (.tt .lf) (.leaf (rI 0)) rfl (by kernel_rfl) (leafR rfl)
def discS (r : Int) : Shp := leafS 1 ze ze ze r zeC
theorem dC_le (r : Int) : DLL (dC r) (cS (toSh (discS r))) := ⟨.refl _, .refl _, .refl _, .refl _, .refl _, .refl _, .refl _, .refl _, DLe.rowL fun i hi => absurd hi (Nat.not_lt_zero i), DLe.rowL fun i hi => absurd hi (Nat.not_lt_zero i), trivial⟩
def dD : List Dyn.DC → Option (Int × List Prop)
  | [.p (.int .i64 k), .p (.int .i64 a), .p (.int .i64 b), .p (.int .i64 c), .p (.int .i64 d), .p (.int .i64 e), .p (.int .i64 f), .p (.int .i64 r), .row nl _, .row n _] => some (r, [k = 1 ∧ a = 0 ∧ b = 0 ∧ c = 0 ∧ d = 0 ∧ e = 0 ∧ f = 0 ∧ nl = 0 ∧ n = 0])
  | _ => none
theorem dD_le {l : List Dyn.DC} {r : Int} {ps : List Prop} (h : dD l = some (r, ps)) (hp : allP ps) : DVd (.agg l) (dvDc r) := by
  unfold dD at h
  split at h
  · simp only [Option.some.injEq, Prod.mk.injEq] at h
    obtain ⟨rfl, rfl⟩ := h
    obtain ⟨⟨rfl, rfl, rfl, rfl, rfl, rfl, rfl, rfl, rfl⟩, -⟩ := hp
    exact ⟨.refl _, .refl _, .refl _, .refl _, .refl _, .refl _, .refl _, .refl _, DLe.rowL fun i hi => absurd hi (Nat.not_lt_zero i), DLe.rowL fun i hi => absurd hi (Nat.not_lt_zero i), trivial⟩
  · cases h
/-- an entry for discs around (0, 0) -/
def enDc (K : Nat) (F : Int → Dyn.RV) (q : Int → Prop) : Dyn.EntryD := (K, fun args => match args with
  | [.agg l] => match dD l with
    | some (r, ps) => some (F r, q r :: ps)
    | none => none
  | _ => none)
theorem enDc_ok {P : Program} {K : Nat} {F : Int → Dyn.RV} {q : Int → Prop} (h : ∀ r, q r → Dyn.CallD P K [dvDc r] (F r)) : Dyn.EntryDOk P (enDc K F q) := fun args r ps h1 hp => by
  unfold enDc at h1
  dsimp only at h1
  split at h1
  · split at h1
    · rename_i l r' ps' hd
      simp only [Option.some.injEq, Prod.mk.injEq] at h1
      obtain ⟨rfl, rfl⟩ := h1
      exact CallD_d1 (dD_le hd hp.2) (h r' hp.1)
    · cases h1
  · cases h1
def enCp0 : Dyn.EntryD := (91, fun args => match args with
  | [.one (.row n f)] => some (rI 0, [n = 0])
  | _ => none)
theorem row0_le {P : Program} {K n : Nat} {f g : Nat → List Dyn.DC} {r : Dyn.RV} (hn : n = 0) (h : Dyn.CallD P K [.one (.row 0 g)] r) : Dyn.CallD P K [.one (.row n f)] r := by
  subst hn
  exact CallD_le (args := [.one (.row 0 g)]) ⟨⟨rfl, fun i hi => absurd hi (Nat.not_lt_zero i)⟩, trivial⟩ h
theorem enCp0_ok : Dyn.EntryDOk Try.prog enCp0 := fun args r ps h hp => by
  unfold enCp0 at h
  dsimp only at h
  split at h
  · simp only [Option.some.injEq, Prod.mk.injEq] at h
    obtain ⟨rfl, rfl⟩ := h
    exact row0_le hp.1 cpD_ok
  · cases h
noncomputable def tabD1 : Dyn.Tabs := Dyn.tabs tbF [enCp0] noD dtyS
theorem tabD1_ok : Dyn.TabsOk Try.prog tabD1 := Dyn.tabs_ok tbF_ok (List.forall_mem_cons.2 ⟨enCp0_ok, fun _ h => by cases h⟩)
theorem ctDc_ok (r : Int) : Dyn.CallD Try.prog 76 [dvDc r] (rI 1) :=
  Dyn.dcontract (lp := Dyn.noLp) (fuel := 2) tabD1_ok mo Try.func76 (by kernel_rfl) (c := bodyD Try.f76.body) (by kernel_rfl) (fun w0 => Dyn.noLp_ok _ w0) (by kernel_rfl)
    (O := .side [0 = 0] (.leaf (rI (plusF 1 0)))) (by kernel_rfl) ⟨⟨rfl, trivial⟩, leafR (congrArg rI (by decide +kernel))⟩
theorem ctn_ok : Dyn.CallD Try.prog 77 [.one (.row 0 noF)] (.val (.one (.row 0 noF))) :=
  dcontractC (lp := Dyn.noLp) (fuel := 2) tabD0_ok mo Try.func77 (by kernel_rfl) (c := bodyD Try.f77.body) (by kernel_rfl) (fun w0 => Dyn.noLp_ok _ w0) (.tt .lf) (.leaf (.val (.one (.row 0 nilF0)))) rfl (by kernel_rfl) ⟨rfl, fun i hi => absurd hi (Nat.not_lt_zero i)⟩
def enCn0 : Dyn.EntryD := (77, fun args => match args with
  | [.one (.row n f)] => some (.val (.one (.row 0 noF)), [n = 0])
  | _ => none)
theorem enCn0_ok : Dyn.EntryDOk Try.prog enCn0 := fun args r ps h hp => by
  unfold enCn0 at h
  dsimp only at h
  split at h
  · simp only [Option.some.injEq, Prod.mk.injEq] at h
    obtain ⟨rfl, rfl⟩ := h
    exact row0_le hp.1 ctn_ok
  · cases h
def drCo (K : Nat) : Bool := Nat.beq K 77
def noPl (_ : Nat) : Bool := false
noncomputable def tabD2 : Dyn.Tabs := Dyn.extT (Dyn.tabs tbF [enDc 76 (fun _ => rI 1) (fun _ => True), enCn0] drCo dtyS) noPl
theorem tabD2_ok : Dyn.TabsOk Try.prog tabD2 := Dyn.extT_ok (Dyn.tabs_ok tbF_ok (List.forall_mem_cons.2 ⟨enDc_ok fun r _ => ctDc_ok r, List.forall_mem_cons.2 ⟨enCn0_ok, fun _ h => by cases h⟩⟩)) (fun K h => by cases h)
theorem cpy_ok (r : Int) : Dyn.CallD Try.prog 61 [dvDc r] (.val (dvDc r)) :=
  Dyn.dcontract (lp := Dyn.noLp) (fuel := 3) tabD2_ok mo Try.func61 (by kernel_rfl) (c := bodyD Try.f61.body) (by kernel_rfl) (fun w0 => Dyn.noLp_ok _ w0) (by kernel_rfl)
    (O := .side [True, (1 : Int) = 1 ∧ (0 : Int) = 0 ∧ (0 : Int) = 0 ∧ (0 : Int) = 0 ∧ (0 : Int) = 0 ∧ (0 : Int) = 0 ∧ (0 : Int) = 0 ∧ 0 = 0 ∧ 0 = 0] (.side [0 = 0] (.leaf (.val (.agg [cI 1, cI 0, cI 0, cI 0, cI 0, cI 0, cI 0, cI r, .row 0 noF, .row 0 nilF0]))))) (by kernel_rfl)
    ⟨⟨trivial, ⟨rfl, rfl, rfl, rfl, rfl, rfl, rfl, rfl, rfl⟩, trivial⟩, ⟨rfl, trivial⟩, rfl, rfl, rfl, rfl, rfl, rfl, rfl, rfl, ⟨rfl, fun _ _ => rfl⟩, ⟨rfl, fun i hi => absurd hi (Nat.not_lt_zero i)⟩, trivial⟩
/-! ### the lists of the document -/
def fL2 : Nat → List Dyn.DC := Dyn.pickL 0 [cB true :: dC 9, cB false :: dC 2]
def fH1 : Nat → List Dyn.DC := Dyn.pickL 0 [dC 1]
def dtyQ (t : TypeId) : Bool := dtyO t || Nat.beq t 83
def drCy (K : Nat) : Bool := Nat.beq K 61
def tdCy : List Dyn.EntryD := [enDc 61 (fun r => .val (dvDc r)) (fun _ => True)]
theorem tdCy_ok : ∀ e ∈ tdCy, Dyn.EntryDOk Try.prog e := List.forall_mem_cons.2 ⟨enDc_ok fun r _ => cpy_ok r, fun _ h => by cases h⟩
noncomputable def tabLs : Dyn.Tabs := Dyn.tabs tbF tdCy drCy dtyQ
theorem tabLs_ok : Dyn.TabsOk Try.prog tabLs := Dyn.tabs_ok tbF_ok tdCy_ok
def E1 : Prop := (1 : Int) = 1 ∧ (0 : Int) = 0 ∧ (0 : Int) = 0 ∧ (0 : Int) = 0 ∧ (0 : Int) = 0 ∧ (0 : Int) = 0 ∧ (0 : Int) = 0 ∧ 0 = 0 ∧ 0 = 0
theorem E1_ok : E1 := ⟨rfl, rfl, rfl, rfl, rfl, rfl, rfl, rfl, rfl⟩
def zOb : List Dyn.DC := [cB false, cI 0, cI 0, cI 0, cI 0, cI 0, cI 0, cI 0, cI 0, .row 0 nilF0, .row 0 nilF0]
def ls3 : Nat → List Dyn.DC := Dyn.appF 2 (Dyn.appF 1 (Dyn.appF 0 (fun _ => zOb) (Dyn.pickL 0 [cB true :: dC 9])) (Dyn.pickL 0 [cB false :: dC 2])) (Dyn.pickL 0 [cB false :: dC 1])
def ls_O : Dyn.RO := .side [0 ≤ (0 : Int) ∧ (0 : Int) ≤ 3 ∧ (3 : Int) ≤ 9223372036854775807 ∧ ((120 : Nat) : Int) * 3 ≤ 281474976710656]
  (.side [0 ≤ (0 : Int) ∧ (0 : Int) < 2] (.side [True, E1, szP 120 0] (.side [0 ≤ (1 : Int) ∧ (1 : Int) < 2] (.side [True, E1, szP 120 1] (.side [0 ≤ (0 : Int) ∧ (0 : Int) < 1] (.side [True, E1, szP 120 2] (.leaf (.val (.one (.row 3 ls3))))))))))
theorem lessL_ok : Dyn.CallD Try.prog 43 [.one (.row 2 fL2), .one (.row 1 fH1)] (.val (.one (.row 3 ls3))) :=
  dcontractC (lp := Dyn.noLp) (fuel := 4) tabLs_ok mo Try.func43 (by kernel_rfl) (c := bodyD Try.f43.body) (by kernel_rfl) (fun w0 => Dyn.noLp_ok _ w0) (.tt (.tt (.ff (.tt (.ff .lf))))) ls_O rfl (by kernel_rfl)
    ⟨⟨by decide, trivial⟩, ⟨by decide, trivial⟩, ⟨trivial, E1_ok, szP_ok (by decide) (by decide), trivial⟩, ⟨by decide, trivial⟩, ⟨trivial, E1_ok, szP_ok (by decide) (by decide), trivial⟩, ⟨by decide, trivial⟩, ⟨trivial, E1_ok, szP_ok (by decide) (by decide), trivial⟩, leafR rfl⟩
theorem disc_fine {r : Int} (h : 1 ≤ r ∧ r ≤ 1000) : Fine (fun p => p = ze) (discS r) 0 := .inl ⟨rfl, rfl, rfl, rfl, rfl, rfl, by unfold widF; simp only [andB_eq, Bool.and_eq_true, decide_eq_true_eq]; omega⟩
theorem disc_ok {r : Int} (h : 1 ≤ r ∧ r ≤ 1000) : okE (toSh (discS r)) = true := fine_ok (fun p hp => by subst hp; rfl) (disc_fine h)
theorem disc_B (r : Int) : ShB (discS r) := ⟨⟨by show (0 : Nat) ≤ _; decide, fun i hi => absurd hi (Nat.not_lt_zero i)⟩, by decide, fun i hi => absurd hi (Nat.not_lt_zero i)⟩
theorem bdDc_ok (r : Int) (h : 1 ≤ r ∧ r ≤ 1000) : Dyn.CallD Try.prog 16 [dvDc r] (.tup [dvX (aroundF ze ze r), dvB true]) := by
  have q := figBnd_ok (toSh (discS r)) (PdS_mk (disc_B r))
  have e : figBnd (toSh (discS r)) = (aroundF ze ze r, true) := by
    unfold figBnd
    rw [disc_ok h, bndE_eq]; rfl
  rw [e] at q
  exact CallD_d1 (show DVd (dvDc r) (dvS (toSh (discS r))) from dC_le r) q
def tdNr : List Dyn.EntryD := [enDc 16 (fun r => .tup [dvX (aroundF ze ze r), dvB true]) (fun r => 1 ≤ r ∧ r ≤ 1000), enDc 61 (fun r => .val (dvDc r)) (fun _ => True)]
theorem tdNr_ok : ∀ e ∈ tdNr, Dyn.EntryDOk Try.prog e := List.forall_mem_cons.2 ⟨enDc_ok fun r h => bdDc_ok r h, List.forall_mem_cons.2 ⟨enDc_ok fun r _ => cpy_ok r, fun _ h => by cases h⟩⟩
noncomputable def tabNr : Dyn.Tabs := Dyn.tabs tbF tdNr drCy dtyQ
theorem tabNr_ok : Dyn.TabsOk Try.prog tabNr := Dyn.tabs_ok tbF_ok tdNr_ok
def nr_O : Dyn.RO := .side [0 ≤ (0 : Int) ∧ (0 : Int) < 2] (.side [1 ≤ (9 : Int) ∧ (9 : Int) ≤ 1000, E1] (.side [0 ≤ (1 : Int) ∧ (1 : Int) < 2] (.side [1 ≤ (2 : Int) ∧ (2 : Int) ≤ 1000, E1] (.leaf (.val (.one (.row 0 nilF0)))))))
theorem nearL_ok : Dyn.CallD Try.prog 44 [.one (.row 2 fL2), dvX ⟨50, 0, 60, 0⟩] (.val (.one (.row 0 nilF0))) :=
  dcontractC (lp := Dyn.noLp) (fuel := 4) tabNr_ok mo Try.func44 (by kernel_rfl) (c := bodyD Try.f44.body) (by kernel_rfl) (fun w0 => Dyn.noLp_ok _ w0) (.tt (.ff (.tt (.ff (.ff .lf))))) nr_O rfl (by kernel_rfl)
    ⟨⟨by decide, trivial⟩, ⟨by decide, E1_ok, trivial⟩, ⟨by decide, trivial⟩, ⟨by decide, E1_ok, trivial⟩, leafR rfl⟩
def L2 : Shp := lForm 2 (fun i => Nat.beq i 0) (fun i => discS (bif Nat.beq i 0 then 9 else 2))
def L0 : Shp := lForm 0 (fun _ => false) (fun _ => .nil)
def LN (n : Nat) : Shp := bif Nat.beq n 0 then L0 else L2
theorem L2_e0 : fL2 0 = cB true :: dC 9 := by kernel_rfl
theorem L2_e1 : fL2 1 = cB false :: dC 2 := by kernel_rfl
theorem L2_le : DVd (.one (.row 2 fL2)) (dvL (toSh L2)) := DLe.rowL fun i hi => by
  have : i = 0 ∨ i = 1 := by omega
  rcases this with rfl | rfl
  · rw [L2_e0]; exact ⟨.refl _, dC_le 9⟩
  · rw [L2_e1]; exact ⟨.refl _, dC_le 2⟩
theorem L2_B : ShB L2 := ⟨⟨by decide, fun i hi => absurd hi (Nat.not_lt_zero i)⟩, by decide, fun i _ => disc_B _⟩
theorem L0_B : ShB L0 := ⟨⟨by decide, fun i hi => absurd hi (Nat.not_lt_zero i)⟩, by decide, fun i hi => absurd hi (Nat.not_lt_zero i)⟩
def RkL (n : Nat) (f : Nat → List Dyn.DC) : Prop := n = 0 ∨ (n = 2 ∧ DLe (.row n f) (.row 2 fL2))
theorem DLe.trans' {w : World} {F : Nat → Prop} {a b c : Dyn.DC} {u : Value} (h : DLe a b) (k : DLe b c) (d : Dyn.DenC w F a u) : Dyn.DenC w F c u := k.den (h.den d)
theorem RkL.call {P : Program} {K n : Nat} {f : Nat → List Dyn.DC} {l : List Dyn.DV} {r : Dyn.RV} (h : RkL n f) (k : Dyn.CallD P K (dvL (toSh (LN n)) :: l) r) : Dyn.CallD P K (.one (.row n f) :: l) r := by
  rcases h with rfl | ⟨rfl, h⟩
  · exact CallD_d1 (v' := dvL (toSh L0)) (DLe.rowL fun i hi => absurd hi (Nat.not_lt_zero i)) k
  · exact CallD_d1 (show DVd (.one (.row 2 f)) (.one (.row 2 fL2)) from h) (CallD_d1 L2_le k)
theorem LN_B (n : Nat) : ShB (LN n) := by
  unfold LN
  cases Nat.beq n 0
  · exact L2_B
  · exact L0_B
noncomputable def tdA21 : List Dyn.EntryD := [
  (23, fun args => match args with
    | [.one (.row n f), .agg [.p (.int .i64 x), .p (.int .i64 y)]] => some (rB (pHas (LN n) ⟨x, y⟩), [RkL n f])
    | _ => none),
  (22, fun args => match args with
    | [.one (.row n f), .agg [.p (.int .i64 x), .p (.int .i64 y), .p (.int .i64 z), .p (.int .i64 t)]] => some (rI (pClass (LN n) ⟨x, y, z, t⟩), [RkL n f])
    | _ => none),
  (43, fun args => match args with
    | [.one (.row n f), .one (.row m g)] => some (.val (.one (.row 3 ls3)), [DLe (.row n f) (.row 2 fL2), DLe (.row m g) (.row 1 fH1)])
    | _ => none),
  (44, fun args => match args with
    | [.one (.row n f), .agg [.p (.int .i64 x), .p (.int .i64 y), .p (.int .i64 z), .p (.int .i64 t)]] => some (.val (.one (.row 0 nilF0)), [DLe (.row n f) (.row 2 fL2), x = 50 ∧ y = 0 ∧ z = 60 ∧ t = 0])
    | _ => none)]
theorem tdA21_ok : ∀ e ∈ tdA21, Dyn.EntryDOk Try.prog e := by
  unfold tdA21
  refine List.forall_mem_cons.2 ⟨fun args r ps h hp => ?_, List.forall_mem_cons.2 ⟨fun args r ps h hp => ?_, List.forall_mem_cons.2 ⟨fun args r ps h hp => ?_, List.forall_mem_cons.2 ⟨fun args r ps h hp => ?_, fun _ h => by cases h⟩⟩⟩⟩
  · dsimp only at h
    split at h
    · simp only [Option.some.injEq, Prod.mk.injEq] at h
      obtain ⟨rfl, rfl⟩ := h
      exact hp.1.call (pHas_ok _ (LN_B _) ⟨_, _⟩)
    · cases h
  · dsimp only at h
    split at h
    · simp only [Option.some.injEq, Prod.mk.injEq] at h
      obtain ⟨rfl, rfl⟩ := h
      exact hp.1.call (pClass_ok _ (LN_B _) ⟨_, _, _, _⟩)
    · cases h
  · dsimp only at h
    split at h
    · simp only [Option.some.injEq, Prod.mk.injEq] at h
      obtain ⟨rfl, rfl⟩ := h
      exact CallD_d2 (show DVd (.one _) (.one _) from hp.1) (show DVd (.one _) (.one _) from hp.2.1) lessL_ok
    · cases h
  · dsimp only at h
    split at h
    · simp only [Option.some.injEq, Prod.mk.injEq] at h
      obtain ⟨rfl, rfl⟩ := h
      obtain ⟨h1, ⟨rfl, rfl, rfl, rfl⟩, -⟩ := hp
      exact CallD_d1 (show DVd (.one _) (.one _) from h1) nearL_ok
    · cases h
def drA21 (K : Nat) : Bool := Nat.beq K 43 || Nat.beq K 44
noncomputable def tabA21 : Dyn.Tabs := Dyn.tabs tbF tdA21 drA21 dtyQ
theorem tabA21_ok : Dyn.TabsOk Try.prog tabA21 := Dyn.tabs_ok tbF_ok tdA21_ok
theorem figHasD {r : Int} (h : 1 ≤ r ∧ r ≤ 1000) (p : P2) : figHasS (discS r) p = hasF (discS r) p := by unfold figHasS; rw [disc_ok h]; rfl
theorem figClassD {r : Int} (h : 1 ≤ r ∧ r ≤ 1000) (b : B4) : figClassS (discS r) b = classF (discS r) b := by unfold figClassS; rw [disc_ok h]; rfl
theorem pHasL2 (p : P2) : pHas (LN 2) p = bif hasF (discS 2) p then false else bif hasF (discS 9) p then true else false := by
  show (bif figHasS (discS 2) p then false else bif figHasS (discS 9) p then true else false) = _
  rw [figHasD (by decide), figHasD (by decide)]
theorem pClassL2 (b : B4) : pClass (LN 2) b = foldF (foldF 0 (classF (discS 9) b) true) (classF (discS 2) b) false := by
  show foldF (foldF 0 (figClassS (discS 9) b) true) (figClassS (discS 2) b) false = _
  rw [figClassD (by decide), figClassD (by decide)]
theorem pClassL0 (b : B4) : pClass (LN 0) b = 0 := rfl
noncomputable def aq1 : Bool := pHas (LN 2) ⟨5, 0⟩
noncomputable def aq2 : Bool := bif aq1 then !(pHas (LN 2) ⟨2, 0⟩) else false
noncomputable def aq3 : Bool := bif aq2 then pClass (LN 2) ⟨4, 0, 5, 0⟩ == 2 else false
noncomputable def aq4 : Bool := bif aq3 then pClass (LN 2) ⟨0, 0, 0, 0⟩ == 0 else false
noncomputable def aq5 : Bool := bif aq4 then pClass (LN 0) ⟨0, 0, 0, 0⟩ == 0 else false
theorem aq5_true : aq5 = true := by
  unfold aq5 aq4 aq3 aq2 aq1
  rw [pHasL2, pHasL2, pClassL2, pClassL2, pClassL0]
  decide +kernel
def gdP (g : Bool) (p : Prop) : Prop := some g = some true ∧ True → allP [p]
noncomputable def a21S : List Prop := [RkL 2 fL2, gdP aq1 (RkL 2 fL2), gdP aq2 (RkL 2 fL2), gdP aq3 (RkL 2 fL2), gdP aq4 (RkL 0 nilF0)]
noncomputable def a21O : Dyn.RO := .ite aq5
  (.side (a21S ++ [aq5 = true, DLe (.row 2 fL2) (.row 2 fL2), DLe (.row 1 fH1) (.row 1 fH1), (((3 : Nat) : Int) == 3) = true, DLe (.row 2 fL2) (.row 2 fL2), (50 : Int) = 50 ∧ (0 : Int) = 0 ∧ (60 : Int) = 60 ∧ (0 : Int) = 0]) (.leaf (rB (((0 : Nat) : Int) == 0))))
  (.side (a21S ++ [aq5 = false, false = false]) (.leaf (rB false)))
theorem awake21 : Dyn.CallD Try.prog 18 [] (rB true) := by
  have k2 : RkL 2 fL2 := .inr ⟨rfl, .refl _⟩
  refine dcontractC (lp := Dyn.noLp) (fuel := 4) tabA21_ok mo Try.func18 (by kernel_rfl) (c := bodyD Try.f18.body) (by kernel_rfl) (fun w0 => Dyn.noLp_ok _ w0) (.it (.tt .lf) (.ff .lf)) a21O rfl (by kernel_rfl) ⟨fun _ => ?_, fun h => absurd (aq5_true.symm.trans h) (by decide)⟩
  exact ⟨⟨k2, fun _ => ⟨k2, trivial⟩, fun _ => ⟨k2, trivial⟩, fun _ => ⟨k2, trivial⟩, fun _ => ⟨.inl rfl, trivial⟩, aq5_true, .refl _, .refl _, by decide, .refl _, by decide, trivial⟩, leafR rfl⟩
end Go.Proofs.Ythnenjodighlmaa

/-! ## Pif -/
namespace Go.Proofs.Ythnenjodighlmaa
open Go Go.RowKit Sym
set_option maxRecDepth 100000

theorem small21_all (x : Sh) (h : PdW x) : Dyn.CallD Try.prog 17 [dvL x] (rB (small21 (ofSh x))) := CallD_le (args := [dvL (toSh (ofSh x))]) ⟨SLe.dvL h.2, trivial⟩ (small21_ok _ h.1)
theorem tame21_all (x : Sh) (h : PdS x) (sm : Bool) : Dyn.CallD Try.prog 19 [dvL x, dvB sm] (.val (dvL (toSh (tame21 (ofSh x) sm)))) := CallD_le (args := [dvL (toSh (ofSh x)), dvB sm]) ⟨SLe.dvL h.2, Dyn.DVLe.refl _, trivial⟩ (tame21_ok _ h.1 sm)
theorem pClass_all (x : Sh) (h : PdS x) (b : B4) : Dyn.CallD Try.prog 22 [dvL x, dvX b] (rI (pClass (ofSh x) b)) := CallD_le (args := [dvL (toSh (ofSh x)), dvX b]) ⟨SLe.dvL h.2, Dyn.DVLe.refl _, trivial⟩ (pClass_ok _ h.1 b)
theorem pHas_all (x : Sh) (h : PdS x) (p : P2) : Dyn.CallD Try.prog 23 [dvL x, dvP p] (rB (pHas (ofSh x) p)) := CallD_le (args := [dvL (toSh (ofSh x)), dvP p]) ⟨SLe.dvL h.2, Dyn.DVLe.refl _, trivial⟩ (pHas_ok _ h.1 p)
noncomputable def tdPs : List Dyn.EntryD := [(18, en0R (rB true)), (17, en1D (qAnd qL PdW) fun x => rB (small21 (ofSh x))), (19, en2D (qAnd qL PdS) qB fun x q => .val (dvL (toSh (tame21 (ofSh x) q)))), (23, en2D (qAnd qL PdS) qP fun x p => rB (pHas (ofSh x) p)), (22, en2D (qAnd qL PdS) qX fun x b => rI (pClass (ofSh x) b))]
def drPs (K : Nat) : Bool := Nat.beq K 19
noncomputable def tabPs : Dyn.Tabs := Dyn.tabs tbF tdPs drPs dtyO
theorem tabPs_ok : Dyn.TabsOk Try.prog tabPs := Dyn.tabs_ok tbF_ok (List.forall_mem_cons.2 ⟨en0R_ok awake21, List.forall_mem_cons.2 ⟨en1D_ok (qAnd_ok qL_ok) fun x h => small21_all x h.1, List.forall_mem_cons.2 ⟨en2D_ok (qAnd_ok qL_ok) qB_ok fun x q h _ => tame21_all x h.1 q, List.forall_mem_cons.2 ⟨en2D_ok (qAnd_ok qL_ok) qP_ok fun x p h _ => pHas_all x h.1 p, List.forall_mem_cons.2 ⟨en2D_ok (qAnd_ok qL_ok) qX_ok fun x b h _ => pClass_all x h.1 b, fun _ h => by cases h⟩⟩⟩⟩⟩)
/-- what of it is tame -/
theorem lf_B {n : Nat} {add : Nat → Bool} {sub : Nat → Shp} (h : small21 (lForm n add sub) = true) : ShB (lForm n add sub) := by
  unfold small21 at h
  by_cases hn : ((n : Nat) : Int) > 20
  · rw [show decide ((nuO (lForm n add sub) : Int) > 20) = true from decide_eq_true hn] at h; cases h
  · rw [show decide ((nuO (lForm n add sub) : Int) > 20) = false from decide_eq_false hn] at h
    refine ⟨⟨by decide, fun i hi => absurd hi (Nat.not_lt_zero i)⟩, by omega, fun i hi => ?_⟩
    obtain ⟨u, _, k2⟩ := runN_all h i hi
    exact small_B _ 0 k2
theorem tame21_B (s : Shp) (h : ShB s) (sm : Bool) : ShB (tame21 s sm) := by
  cases s with
  | nil => exact h.elim
  | mk k a b c r l n add sub =>
    refine ⟨⟨by decide, fun i hi => absurd hi (Nat.not_lt_zero i)⟩, by show min n 12 ≤ _; omega, fun i hi => ?_⟩
    have hi' : i < min n 12 := hi
    exact fine_B _ 2 (tame_fine sm (sub i) 2 (h.2.2 i (by omega)) (by decide) (by decide)) (by decide)
theorem tame2_ok (sm : Bool) (s : Shp) (h : ShB s) : okE (toSh (tameS s sm 2)) = true := by
  unfold okE
  rw [vE_eq]
  exact (fine_valid (fun p hp => PB_near (tmX_le sm) hp) _ 2 0 1000 (tame_fine sm s 2 h (by decide) (by decide)) (by decide) (by decide) (by decide) (by decide) (by decide)).1
/-- tame objects are sure of the points of a box -/
theorem pile_sure (sm : Bool) {b : B4} (hb : BR b) (hf : Fits b) (hx : b.x0 ≤ b.x1) (hy : b.y0 ≤ b.y1) (x y : Int) (s : Shp) (h : ShB s) : Sure (pHas (tame21 s sm) (lIn b x y)) (pClass (tame21 s sm) b) := by
  cases s with
  | nil => exact h.elim
  | mk k a b' c r l n add sub =>
    show Sure (foldN (hasN (fun i => figHasS (tameS (sub i) sm 2) (lIn b x y)) add) false (min n 12)) (foldN (fun i acc => foldF acc (figClassS (tameS (sub i) sm 2) b) (add i)) 0 (min n 12))
    refine sure_fold _ (fun i => figClassS (tameS (sub i) sm 2) b) add _ fun i hi => ?_
    have ok := tame2_ok sm (sub i) (h.2.2 i (by omega))
    have e1 : figHasS (tameS (sub i) sm 2) (lIn b x y) = hasF (tameS (sub i) sm 2) (lIn b x y) := by unfold figHasS; rw [ok]; rfl
    have e2 : figClassS (tameS (sub i) sm 2) b = classF (tameS (sub i) sm 2) b := by unfold figClassS; rw [ok]; rfl
    show Sure (figHasS (tameS (sub i) sm 2) (lIn b x y)) (figClassS (tameS (sub i) sm 2) b)
    rw [e1, e2]
    exact shape_sure sm hb hf hx hy x y (sub i) 2
end Go.Proofs.Ythnenjodighlmaa
