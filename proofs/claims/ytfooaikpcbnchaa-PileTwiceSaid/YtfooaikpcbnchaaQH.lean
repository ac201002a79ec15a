/-
  OWN WORK. Joined by merge.py: Pib Pic Fin Fio Poi Pos Pou Fis Pid Cpc Cqc Fip Tuc Fiq Fit Dla Dle Bou Awt Cnt Ctt Pie Pif Cpd Cqd.
-/
import Derived.Test.YtfooaikpcbnchaaQE
import Derived.RangeFuncNested
import Derived.RangeFuncBound
import Derived.RangeFuncCalls
import Derived.RangeFuncLeaves
import Derived.RangeFuncBox
import Derived.Shelf.Abstract
import Derived.Shelf.RegionOpen
import Derived.WalkKit
import Derived.OwnWalkIn
import Derived.TacticsInMore
import Derived.LoopNIn
import Derived.LoopIn
import Derived.Deep.WholeRow
import Derived.Test.YtfooaikpcbnchaaQF
import Derived.Test.YtfooaikpcbnchaaQG
import Derived.Deep.RegionWith
import Derived.Laws.CopyOwn
import Derived.Maps.AppendAt
/-! ## Pib -/
namespace Go.Proofs.Ytfooaikpcbnchaa
open Go Go.RowKit Go.Shelf
set_option maxRecDepth 100000

attribute [local go_sem] Oper.semAt_some

/-- what has come when k rounds are over: f 0, .., f (k - 1) -/
def upto {α : Type} (f : Nat → α) (k : Nat) : List α := (List.range k).map f
theorem upto_succ {α : Type} (f : Nat → α) (k : Nat) : upto f (k + 1) = upto f k ++ [f k] := by simp [upto, List.range_succ]
theorem upto_length {α : Type} (f : Nat → α) (k : Nat) : (upto f k).length = k := by simp [upto]
/-- the cells of an object -/
def obA (g : Nat → Nat → Value) (i : Nat) : Array Value := #[g i 0, g i 1, g i 2, g i 3, g i 4, g i 5, g i 6, g i 7, g i 8, g i 9, g i 10]
theorem backward_in (F : Fence) (n : Nat) (h5 : F.fn 58) (hro : F.round = none) (a : Option Addr) (len cap : Nat) (w : World) :
    CallsIn F n Try.prog 58 #[.slice a len cap] w fun e w' => e = .returned (.func (.func 76) #[] #[.pointer (some ⟨w.heap.size, 0, none⟩)]) ∧ w' = w.alloc (.cells #[.slice a len cap] 63) := by
  refine callsIn_of_wp Try.func58 rfl h5 ?_ hro
  simp only [Try.ntmps58, List.size_toArray, List.length_cons, List.length_nil, Nat.reduceAdd, Nat.reduceSub, Array.replicate_succ, Array.replicate_zero, List.push_toArray, List.append_toArray, List.nil_append, List.cons_append]
  gi_wp2
  go_ret
  exact ⟨rfl, rfl⟩
set_option maxHeartbeats 2000000 in
theorem back1_nil (F : Fence) (n : Nat) (h8 : F.fn 76) (hro : F.round = none) (l Bs : Nat) (a : Option Addr) (cap : Nat) {α : Type} (J : List α → World → Prop) (W : World) (hBs : W.cell? ⟨Bs, 0, none⟩ = some (.slice a 0 cap)) (h0 : J [] W) :
    CallsIn F n Try.prog 76 #[.func (.yield l) #[] #[], .pointer (some ⟨Bs, 0, none⟩)] W fun e W' => (∃ v, e = .returned v) ∧ J [] W' := by
  refine callsIn_of_wp Try.func76 rfl h8 ?_ hro
  simp only [Try.ntmps76, List.size_toArray, List.length_cons, List.length_nil, Nat.reduceAdd, Nat.reduceSub, Array.replicate_succ, Array.replicate_zero, List.push_toArray, List.append_toArray, List.nil_append, List.cons_append]
  gi_wp2
  gi_loopw [3] (fun i wr => i = .int .i64 (-1) ∧ J [] wr) (fun _ _ => 0)
  case atStart => exact ⟨rfl, h0⟩
  case round =>
    obtain ⟨rfl, hJs⟩ := hrel
    gi_wp2
    go_end0
    exact ⟨⟨_, rfl⟩, hJs⟩
set_option maxHeartbeats 4000000 in
/-- the closure, from the last element to the first -/
theorem back1_in (F : Fence) (n : Nat) (h8 : F.fn 76) (hro : F.round = none) (hn : 1 ≤ n) (l Bs n₀ b off len cap : Nat) (g : Nat → Nat → Value) (hp : 0 < len) (hlen : len ≤ 1000000000) (hb : b < n₀) (hB2 : Bs < n₀) (J Jx : List { j : Nat // j < len } → World → Prop)
    (hY : ∀ pre x W, J pre W → pre.length < len → YieldAt F (n - 1) Try.prog l #[.int .i64 (x.1 : Int), .agg (obA g x.1)] W fun e W' =>
      (e = .returned (.bool true) ∧ J (pre ++ [x]) W' ∧ Below n₀ W W') ∨ (e = .returned (.bool false) ∧ Jx (pre ++ [x]) W'))
    (W : World) (hBs : W.cell? ⟨Bs, 0, none⟩ = some (.slice (some ⟨b, off, none⟩) len cap)) (hc : ∀ i, i < len → ∀ j, j < 11 → W.cell? ⟨b, off + i * 11 + j, none⟩ = some (g i j)) (h0 : J [] W) :
    CallsIn F n Try.prog 76 #[.func (.yield l) #[] #[], .pointer (some ⟨Bs, 0, none⟩)] W fun e W' => (∃ v, e = .returned v) ∧
      ((∃ ys, ys = upto (fun k => (⟨len - 1 - k, by omega⟩ : { j : Nat // j < len })) len ∧ J ys W') ∨ (∃ pre, (∃ k, k ≤ len ∧ pre = upto (fun k => (⟨len - 1 - k, by omega⟩ : { j : Nat // j < len })) k) ∧ Jx pre W')) := by
  refine callsIn_of_wp Try.func76 rfl h8 ?_ hro
  simp only [Try.ntmps76, List.size_toArray, List.length_cons, List.length_nil, Nat.reduceAdd, Nat.reduceSub, Array.replicate_succ, Array.replicate_zero, List.push_toArray, List.append_toArray, List.nil_append, List.cons_append]
  gi_wp2
  gi_loopw [3] (fun i wr => ∃ k : Nat, k ≤ len ∧ i = .int .i64 ((len : Int) - 1 - k) ∧ J (upto (fun k => (⟨len - 1 - k, by omega⟩ : { j : Nat // j < len })) k) wr ∧ Below n₀ W wr)
    (fun i _ => (intOf i + 1).toNat)
  case atStart => exact ⟨0, Nat.zero_le _, by simp, h0, Below.refl _ _⟩
  case round =>
    obtain ⟨k, hk, rfl, hJs, hnx⟩ := hrel
    by_cases hlt : k < len
    · obtain ⟨fn, tmps, assign, body, hy, hR⟩ := hY _ (⟨len - 1 - k, by omega⟩ : { j : Nat // j < len }) wr hJs (by rw [upto_length]; exact hlt)
      dsimp only at hy
      have hi : ((len : Int) - 1 - k) = ((len - 1 - k : Nat) : Int) := by omega
      rw [hi]
      have cc : ∀ j, j < 11 → wr.cell? ⟨b, off + (len - 1 - k) * 11 + j, none⟩ = some (g (len - 1 - k) j) := fun j hj => (hnx.cell (p := ⟨b, off + (len - 1 - k) * 11 + j, none⟩) hb).trans (hc _ (by omega) j hj)
      have hBs' := (hnx.cell (p := ⟨Bs, 0, none⟩) hB2).trans hBs
      have cc0 := cc 0 (by decide)
      have cc1 := cc 1 (by decide)
      have cc2 := cc 2 (by decide)
      have cc3 := cc 3 (by decide)
      have cc4 := cc 4 (by decide)
      have cc5 := cc 5 (by decide)
      have cc6 := cc 6 (by decide)
      have cc7 := cc 7 (by decide)
      have cc8 := cc 8 (by decide)
      have cc9 := cc 9 (by decide)
      have cc10 := cc 10 (by decide)
      rw [Nat.add_zero] at cc0
      clear cc
      unfold obA at hy
      gi_wp2
      refine hR.mono ?_
      rintro e W3 (⟨rfl, hJ3, hk3⟩ | ⟨rfl, hJx3⟩)
      · gi_wp2
        go_roundw
        case rel => exact ⟨k + 1, by omega, by simp; omega, by rw [upto_succ]; exact hJ3, hnx.trans hk3⟩
        case measure => (simp [intOf]; try omega)
      · gi_wp2
        refine bodyPost_ret (results_none rfl _ _ _) rfl ?_
        exact ⟨⟨_, rfl⟩, .inr ⟨_, ⟨k + 1, by omega, (upto_succ _ _).symm⟩, hJx3⟩⟩
    · obtain rfl : k = len := by omega
      gi_wp2
      go_end0
      exact ⟨⟨_, rfl⟩, .inl ⟨_, rfl, hJs⟩⟩
/-- the value of a row of objects, its cells in a block below n₀ -/
def Objs (n₀ : Nat) (W : World) (oa : Option Addr) (len : Nat) (g : Nat → Nat → Value) : Prop :=
  len = 0 ∨ ∃ b off, oa = some ⟨b, off, none⟩ ∧ b < n₀ ∧ ∀ i, i < len → ∀ j, j < 11 → W.cell? ⟨b, off + i * 11 + j, none⟩ = some (g i j)
theorem Objs.below {n₀ : Nat} {A B : World} (h : Below n₀ A B) {oa : Option Addr} {len : Nat} {g : Nat → Nat → Value} : Objs n₀ A oa len g → Objs n₀ B oa len g
  | .inl e => .inl e
  | .inr ⟨b, off, e, hb, hc⟩ => .inr ⟨b, off, e, hb, fun i hi j hj => (h.cell (p := ⟨b, off + i * 11 + j, none⟩) hb).trans (hc i hi j hj)⟩
theorem Objs.up {n₀ n₁ : Nat} (h : n₀ ≤ n₁) {W : World} {oa : Option Addr} {len : Nat} {g : Nat → Nat → Value} : Objs n₀ W oa len g → Objs n₁ W oa len g
  | .inl e => .inl e
  | .inr ⟨b, off, e, hb, hc⟩ => .inr ⟨b, off, e, by omega, hc⟩
def bkF (len : Nat) (hp : 0 < len) (k : Nat) : { j : Nat // j < len } := ⟨len - 1 - k, by omega⟩
theorem back_stops (F : Fence) (n : Nat) (h8 : F.fn 76) (hro : F.round = none) (hn : 1 ≤ n) (Bs n₀ : Nat) (oa : Option Addr) (len cap : Nat) (hlen : len ≤ 1000000000) (g : Nat → Nat → Value) (w : World) (hB2 : Bs < n₀) (hn₀ : n₀ ≤ w.heap.size)
    (hc : w.cell? ⟨Bs, 0, none⟩ = some (.slice oa len cap)) (hI : Objs n₀ w oa len g) :
    SeqStopsK F n Try.prog 76 #[.pointer (some ⟨Bs, 0, none⟩)] (fun x : { j : Nat // j < len } => #[Value.int .i64 (x.1 : Int), Value.agg (obA g x.1)]) (Below n₀) (fun ys => ∀ j, (h : j < len) → ⟨j, h⟩ ∈ ys)
      (fun pre => ∃ k, k ≤ len ∧ ∃ hp : 0 < len, pre = upto (bkF len hp) k) len w := fun l J Jx W hW _ _ hY h0 => by
  have hc' := (hW.cell (p := ⟨Bs, 0, none⟩) (by show Bs < _; omega)).trans hc
  rcases hI.below (hW.mono hn₀) with rfl | ⟨b, off, rfl, hb, hcs⟩
  · exact (back1_nil F n h8 hro l Bs oa cap J W hc' h0).mono fun e W' ⟨he, hj⟩ => ⟨he, .inl ⟨_, fun j h => absurd h (Nat.not_lt_zero j), hj⟩⟩
  · by_cases hp : 0 < len
    · refine (back1_in F n h8 hro hn l Bs n₀ b off len cap g hp hlen hb hB2 J Jx hY W hc' hcs h0).mono ?_
      rintro e W' ⟨he, ⟨ys, rfl, hj⟩ | ⟨pre, ⟨k, hk, rfl⟩, hj⟩⟩
      · refine ⟨he, .inl ⟨_, fun j h => ?_, hj⟩⟩
        simp only [upto, List.mem_map, List.mem_range]
        exact ⟨len - 1 - j, by omega, Subtype.ext (by show len - 1 - (len - 1 - j) = j; omega)⟩
      · exact ⟨he, .inr ⟨_, ⟨k, hk, hp, rfl⟩, hj⟩⟩
    · obtain rfl : len = 0 := by omega
      exact (back1_nil F n h8 hro l Bs _ cap J W hc' h0).mono fun e W' ⟨he, hj⟩ => ⟨he, .inl ⟨_, fun j h => absurd h (Nat.not_lt_zero j), hj⟩⟩
end Go.Proofs.Ytfooaikpcbnchaa

/-! ## Pic -/
namespace Go.Proofs.Ytfooaikpcbnchaa
open Go Go.RowKit Go.Shelf
set_option maxRecDepth 100000

attribute [local go_sem] Oper.semAt_some

theorem uponIn_of {F : Fence} {n : Nat} {P : Program} {o : Oper} {a : Act} {K : Act → World → Prop} {Q : Exit → Act → World → Prop} {r r' : Result Next} (h : r = r') (k : Oper.uponIn F n P o a K Q r') : Oper.uponIn F n P o a K Q r := h ▸ k
def PilRes (len : Nat) (hasV addV : Nat → Bool) (r : Bool) : Prop := (r = false ∧ ∀ j, j < len → hasV j = false) ∨ ∃ k, k < len ∧ r = addV (len - 1 - k) ∧ hasV (len - 1 - k) = true ∧ ∀ j, j < k → hasV (len - 1 - j) = false
set_option maxHeartbeats 4000000 in
theorem has_in (F : Fence) (n : Nat) (hF : ∀ f, F.fn f) (hro : F.round = none) (hn : 4 ≤ n) (oa : Option Addr) (len cap : Nat) (hlen : len ≤ 1000000000) (g : Nat → Nat → Value) (x y : Int) (hasV addV : Nat → Bool) (w : World) (hI : Objs w.heap.size w oa len g) (hg : ∀ j, j < len → g j 0 = .bool (addV j)) (ho : ∀ i, i < len → ∀ j, j < 11 → (g i j).oneCell' = true)
    (hH : ∀ j, j < len → ∀ W m, Below w.heap.size w W → CallsIn F m Try.prog 30 #[.agg #[g j 1, g j 2, g j 3, g j 4, g j 5, g j 6, g j 7, g j 8, g j 9, g j 10], .agg #[.int .i64 x, .int .i64 y]] W fun e W' => e = .returned (.bool (hasV j)) ∧ Below W.heap.size W W') :
    CallsIn F n Try.prog 41 #[.slice oa len cap, .agg #[.int .i64 x, .int .i64 y]] w fun e W' => (∃ r, e = .returned (.bool r) ∧ PilRes len hasV addV r) ∧ Below w.heap.size w W' := by
  have h1 : 1 ≤ n := by omega
  refine callsIn_of_wp_marks Try.func41 rfl (hF _) ?_ hro
  simp only [Try.ntmps41, List.size_toArray, List.length_cons, List.length_nil, Nat.reduceAdd, Nat.reduceSub, Array.replicate_succ, Array.replicate_zero, List.push_toArray, List.append_toArray, List.nil_append, List.cons_append]
  gi_wp2_with (gi_at_call 58; refine (backward_in F (n - 1) (hF _) hro _ _ _ _).mono ?_; rintro e w' ⟨rfl, rfl⟩)
  have bP := ((Boxed.new w 23 (.int .i64 x)).alloc (.cells #[.bool false] 4))
  obtain ⟨W0, hW0⟩ : ∃ W0, ((w.alloc (.cells #[.int .i64 x, .int .i64 y] 23)).alloc (.cells #[.bool false] 4)).alloc (.cells #[.slice oa len cap] 63) = W0 := ⟨_, rfl⟩
  have hB0 : Below w.heap.size w W0 := by
    rw [← hW0]
    exact (((Below.refl _ w).alloc (Nat.le_refl _) _).alloc (by simp) _).alloc (by simp; omega) _
  have hsz : W0.heap.size = w.heap.size + 3 := by rw [← hW0]; simp
  have cX : W0.cell? ⟨w.heap.size, 0, none⟩ = some (.int .i64 x) := by
    rw [← hW0]
    have hb : Below (w.heap.size + 1) (w.alloc (.cells #[.int .i64 x, .int .i64 y] 23)) (((w.alloc (.cells #[.int .i64 x, .int .i64 y] 23)).alloc (.cells #[.bool false] 4)).alloc (.cells #[.slice oa len cap] 63)) := ((Below.refl _ _).alloc (by simp) _).alloc (by simp) _
    rw [hb.cell (p := ⟨w.heap.size, 0, none⟩) (Nat.lt_succ_self _)]
    rw [World.cell?, World.alloc_heap_new]; rfl
  have cY : W0.cell? ⟨w.heap.size, 1, none⟩ = some (.int .i64 y) := by
    rw [← hW0]
    have hb : Below (w.heap.size + 1) (w.alloc (.cells #[.int .i64 x, .int .i64 y] 23)) (((w.alloc (.cells #[.int .i64 x, .int .i64 y] 23)).alloc (.cells #[.bool false] 4)).alloc (.cells #[.slice oa len cap] 63)) := ((Below.refl _ _).alloc (by simp) _).alloc (by simp) _
    rw [hb.cell (p := ⟨w.heap.size, 1, none⟩) (Nat.lt_succ_self _)]
    rw [World.cell?, World.alloc_heap_new]; rfl
  have bR : Boxed W0 (w.heap.size + 1) 4 (.bool false) := by
    rw [← hW0]
    have := (Boxed.new (w.alloc (.cells #[.int .i64 x, .int .i64 y] 23)) 4 (.bool false)).alloc (.cells #[.slice oa len cap] 63)
    simpa using this
  have bN : Boxed W0 (w.heap.size + 1 + 1) 63 (.slice oa len cap) := by
    rw [← hW0]
    have := Boxed.new ((w.alloc (.cells #[.int .i64 x, .int .i64 y] 23)).alloc (.cells #[.bool false] 4)) 63 (.slice oa len cap)
    simpa using this
  rw [hW0]
  clear hW0
  refine wpIn_rangeFunc_ownH hro h1 (gf := 76) (lb := #[.pointer (some ⟨w.heap.size + 1 + 1, 0, none⟩)]) rfl (hF _) (enters_of Try.func76 (by kernel_rfl) rfl)
    (back_stops F (n - 1) (hF _) hro (by omega) (w.heap.size + 1 + 1) W0.heap.size oa len cap hlen g W0 (by omega) (Nat.le_refl _) bN.cell ((hI.below hB0).up (by omega))) belowK_t (belowK_b (Nat.le_refl _)) (Below.refl _ _) (fun _ => rfl)
    (fun pre W => (∀ x ∈ pre, hasV x.1 = false) ∧ Below W0.heap.size W0 W)
    (fun c pre W => (c = .ret ∧ ∃ ini last, pre = ini ++ [last] ∧ (∀ x ∈ ini, hasV x.1 = false) ∧ hasV last.1 = true ∧ W.cell? ⟨w.heap.size + 1, 0, none⟩ = some (.bool (addV last.1))) ∧ Below w.heap.size w W)
    (OwnFrom.and (ownFrom_pure _ _) (ownFrom_below (Nat.le_refl _) (Nat.le_refl _)))
    (fun c => OwnFrom.and (Own.from (fun s A B row hs hg hr => by obtain ⟨hc, ini, last, e1, e2, e3, e4⟩ := hs; exact ⟨hc, ini, last, e1, e2, e3, cell_kept e4 hg hr⟩) _) (ownFrom_below (by omega) (by omega)))
    ⟨by simp, Below.refl _ _⟩
    (fun z a' W => ∃ Bx, W0.heap.size ≤ Bx ∧ Bx < W.heap.size ∧ (∀ j v, (obA g z.1).toList[j]? = some v → W.cell? ⟨Bx, j, none⟩ = some v) ∧ a' = { tmps := #[.slice oa len cap, .agg #[.int .i64 x, .int .i64 y], undef, .pointer (some ⟨w.heap.size, 0, none⟩), .pointer (some ⟨w.heap.size + 1, 0, none⟩), undef, .pointer (some ⟨Bx, 0, none⟩), .slice oa len cap, .func (.func 76) #[] #[.pointer (some ⟨w.heap.size + 1 + 1, 0, none⟩)], .int .i64 (z.1 : Int), .agg (obA g z.1), undef, undef, undef, undef, undef, undef], defers := [] })
    (fun z a' _ X Y row hs hg hr => by obtain ⟨Bx, h1, h2, h3, h4⟩ := hs; exact ⟨Bx, h1, Nat.lt_of_lt_of_le h2 hg.size, fun j v hv => cell_kept (h3 j v hv) hg (fun r e => (hr r e).2), h4⟩)
    ?assign ?body ?done ?stop
  case assign =>
    rintro l pre z W K ⟨hp, hB1⟩ hK
    have o0 := ho z.1 z.2 0 (by decide)
    have o1 := ho z.1 z.2 1 (by decide)
    have o2 := ho z.1 z.2 2 (by decide)
    have o3 := ho z.1 z.2 3 (by decide)
    have o4 := ho z.1 z.2 4 (by decide)
    have o5 := ho z.1 z.2 5 (by decide)
    have o6 := ho z.1 z.2 6 (by decide)
    have o7 := ho z.1 z.2 7 (by decide)
    have o8 := ho z.1 z.2 8 (by decide)
    have o9 := ho z.1 z.2 9 (by decide)
    have o10 := ho z.1 z.2 10 (by decide)
    unfold obA
    gi_wp2
    refine uponIn_of (r' := .ok Next.skip (W.alloc (.cells (obA g z.1) 67))) ?_ ?_
    · have q := run_storeVar_new (P := Try.prog) W 67 #[.bool false, .int .i64 0, .int .i64 0, .int .i64 0, .int .i64 0, .int .i64 0, .int .i64 0, .int .i64 0, .int .i64 0, .slice none 0 0, .slice none 0 0] (obA g z.1) (by kernel_rfl) rfl (by simp [obA, o0, o1, o2, o3, o4, o5, o6, o7, o8, o9, o10])
      unfold obA at q ⊢
      simp [go_sem] at q
      rw [q]; rfl
    · gi_wp2
      refine hK _ _ ((KeepsOthers.alloc _ _).from _) ((Below.refl _ W).alloc hB1.size _) ⟨hp, hB1.alloc hB1.size _⟩ ⟨W.heap.size, hB1.size, by simp, fun j v hv => ?_, rfl⟩
      rw [World.cell?, World.alloc_heap_new]
      simpa using hv
  case body =>
    rintro l pre z a' W hl ⟨r, hr⟩ ⟨hp, hB1⟩ ⟨Bx, hBx, hlt, hcs, rfl⟩ hlen
    have h1' : 1 ≤ n - 1 - 1 := by omega
    have c0 : W.cell? ⟨Bx, 0, none⟩ = some (g z.1 0) := hcs 0 _ rfl
    have c1 : W.cell? ⟨Bx, 1, none⟩ = some (g z.1 1) := hcs 1 _ rfl
    have c2 : W.cell? ⟨Bx, 2, none⟩ = some (g z.1 2) := hcs 2 _ rfl
    have c3 : W.cell? ⟨Bx, 3, none⟩ = some (g z.1 3) := hcs 3 _ rfl
    have c4 : W.cell? ⟨Bx, 4, none⟩ = some (g z.1 4) := hcs 4 _ rfl
    have c5 : W.cell? ⟨Bx, 5, none⟩ = some (g z.1 5) := hcs 5 _ rfl
    have c6 : W.cell? ⟨Bx, 6, none⟩ = some (g z.1 6) := hcs 6 _ rfl
    have c7 : W.cell? ⟨Bx, 7, none⟩ = some (g z.1 7) := hcs 7 _ rfl
    have c8 : W.cell? ⟨Bx, 8, none⟩ = some (g z.1 8) := hcs 8 _ rfl
    have c9 : W.cell? ⟨Bx, 9, none⟩ = some (g z.1 9) := hcs 9 _ rfl
    have c10 : W.cell? ⟨Bx, 10, none⟩ = some (g z.1 10) := hcs 10 _ rfl
    clear hcs
    rw [hg z.1 z.2] at c0
    have dX := (hB1.cell (p := ⟨w.heap.size, 0, none⟩) (by show w.heap.size < _; omega)).trans cX
    have dY := (hB1.cell (p := ⟨w.heap.size, 1, none⟩) (by show w.heap.size < _; omega)).trans cY
    have dR : Boxed W (w.heap.size + 1) 4 (.bool false) := (hB1.block _ (by omega)).trans bR
    have hH' := fun m => hH z.1 z.2 W m (hB0.trans (hB1.mono (by omega)))
    gi_wp2_with (gi_at_call 30; refine (CallsIn.inRound l (hH' _)).mono ?_; rintro e w' ⟨rfl, hBw⟩; have e0 := (hBw.cell (p := ⟨Bx, 0, none⟩) hlt).trans c0; have dR2 : Boxed w' (w.heap.size + 1) 4 (.bool false) := (hBw.block _ dR.lt).trans dR; have e1 := dR2.cell; have e2 := dR2.frozen)
    · have hv : hasV z.1 = true := by assumption
      have hk : KeepsFrom W0.heap.size W w' := ⟨hBw.size, fun k o _ hk _ => (hBw.block k (Array.getElem?_eq_some_iff.1 hk).1).trans hk⟩
      have hW := hB1.size
      have hb : Below w.heap.size w w' := (hB0.trans (hB1.mono (by omega))).trans (hBw.mono (by omega))
      exact ⟨hk.trans ((KeepsOthers.setCell _ _ _).from _), ⟨rfl, pre, z, rfl, hp, hv, World.cell?_setCell_same' _ _ _ (by rw [e1]; rfl)⟩, hb.setCell (p := ⟨w.heap.size + 1, 0, none⟩) (by show w.heap.size ≤ w.heap.size + 1; omega) _⟩
    · have hv : hasV z.1 = false := by assumption
      have hk : KeepsFrom W0.heap.size W w' := ⟨hBw.size, fun k o _ hk _ => (hBw.block k (Array.getElem?_eq_some_iff.1 hk).1).trans hk⟩
      have hW := hB1.size
      exact ⟨hk, hBw.mono hW, fun u hu => (List.mem_append.1 hu).elim (hp u) (fun e => by simp at e; subst e; exact hv), hB1.trans (hBw.mono hW)⟩
  case done =>
    rintro D ys W hD hS ⟨hp, hB1⟩ hK
    have dR : Boxed W (w.heap.size + 1) 4 (.bool false) := (hB1.block _ (by omega)).trans bR
    have e1 := dR.cell
    have e2 := dR.frozen
    gi_wp2
    have hK' := (KeepsOthers.setCell W ⟨w.heap.size + 1, 0, none⟩ (.bool false)).same D _ hK rfl
    refine ⟨by simp, .inl ⟨_, _, rfl, run_takeDeferred hK', ?_⟩⟩
    have hc5 := cell_kept (World.cell?_setCell_same' W ⟨w.heap.size + 1, 0, none⟩ (.bool false) (by rw [e1]; rfl)) (grownBy_putObj' _ D (.deferred none)) (fun r e => by cases e; exact ⟨_, hK', rfl⟩)
    have hb : Below w.heap.size w W := hB0.trans (hB1.mono (by omega))
    refine ⟨.bool false, ?_, ⟨false, rfl, .inl ⟨rfl, fun j hj => hp ⟨j, hj⟩ (hS j hj)⟩⟩, (hb.setCell (p := ⟨w.heap.size + 1, 0, none⟩) (by show w.heap.size ≤ w.heap.size + 1; omega) _).trans (belowK_b (w := w) (Nat.le_refl _) _ D _ _ (by omega) hK' rfl rfl)⟩
    simp [results, Try.f41, go_sem, hc5]
  case stop =>
    rintro D c pre W hD ⟨k, hk, hp0, rfl⟩ ⟨⟨rfl, ini, last, e1, e2, e3, hcr⟩, hB⟩ hK
    gi_wp2
    refine ⟨by simp, .inl ⟨_, _, rfl, run_takeDeferred hK, ?_⟩⟩
    have hc5 := cell_kept hcr (grownBy_putObj' _ D (.deferred none)) (fun r e => by cases e; exact ⟨_, hK, rfl⟩)
    obtain ⟨k', rfl⟩ : ∃ k', k = k' + 1 := by
      cases k with
      | zero => simp [upto] at e1
      | succ k' => exact ⟨k', rfl⟩
    rw [upto_succ] at e1
    obtain ⟨rfl, e5⟩ := List.append_inj' e1 rfl
    obtain rfl : bkF len hp0 k' = last := by simpa using e5
    refine ⟨.bool (addV (len - 1 - k')), ?_, ⟨_, rfl, .inr ⟨k', by omega, rfl, e3, fun j hj => e2 (bkF len hp0 j) (by simp only [upto, List.mem_map, List.mem_range]; exact ⟨j, hj, rfl⟩)⟩⟩, hB.trans (belowK_b (w := w) (Nat.le_refl _) W D _ _ (by omega) hK rfl rfl)⟩
    simp [results, Try.f41, go_sem, hc5, bkF]
end Go.Proofs.Ytfooaikpcbnchaa

/-! ## Fin -/
namespace Go.Proofs.Ytfooaikpcbnchaa
open Go Go.RowKit Sym
set_option maxRecDepth 100000

/-! ### fine shapes -/
def FinC (P : P2 → Prop) (l : Ctr) : Prop := l.n ≤ 4 ∧ ∀ i, i < l.n → l.m i ≤ 12 ∧ ∀ k, k < l.m i → P (l.p i k)
def Fine (P : P2 → Prop) : Shp → Int → Prop
  | .nil, _ => False
  | .mk k a b c r l n _ sub, d =>
    (k = 1 ∧ b = ze ∧ c = ze ∧ l = zeC ∧ n = 0 ∧ P a ∧ widF r = true) ∨
    (k = 3 ∧ c = ze ∧ l = zeC ∧ n = 0 ∧ P a ∧ P b ∧ widF r = true) ∨
    (k = 4 ∧ c = ze ∧ l = zeC ∧ n = 0 ∧ P a ∧ P b ∧ widF r = true ∧ a ≠ b) ∨
    (k = 5 ∧ l = zeC ∧ n = 0 ∧ P a ∧ P b ∧ P c ∧ widF r = true ∧ okI c a b) ∨
    (k = 2 ∧ a = ze ∧ b = ze ∧ c = ze ∧ r = 0 ∧ n = 0 ∧ FinC P l) ∨
    (k = 6 ∧ a = ze ∧ b = ze ∧ c = ze ∧ r = 0 ∧ l = zeC ∧ d ≤ 5 ∧ ((n : Int) ≤ 4 - d ∨ n ≤ 1) ∧ ∀ i, i < n → Fine P (sub i) (d + 1))
/-- how many shapes there are at most, from depth d on -/
def Nd (d : Int) : Int := if d ≥ 6 then 1 else if d = 5 then 2 else if d = 4 then 3 else if d = 3 then 4 else if d = 2 then 9 else if d = 1 then 28 else 113
theorem Nd_one (d : Int) : 1 ≤ Nd d ∧ Nd d ≤ 113 := by unfold Nd; repeat' split <;> first | omega | (constructor <;> omega)
theorem Nd_step {d m : Int} (h0 : 0 ≤ d) (h5 : d ≤ 5) (h1 : 0 ≤ m) (h2 : m ≤ 4 - d ∨ m ≤ 1) : 1 + m * Nd (d + 1) ≤ Nd d := by
  have : d = 0 ∨ d = 1 ∨ d = 2 ∨ d = 3 ∨ d = 4 ∨ d = 5 := by omega
  rcases this with rfl | rfl | rfl | rfl | rfl | rfl
  · rw [show Nd (0 + 1) = 28 by decide, show Nd 0 = 113 by decide]; omega
  · rw [show Nd (1 + 1) = 9 by decide, show Nd 1 = 28 by decide]; omega
  · rw [show Nd (2 + 1) = 4 by decide, show Nd 2 = 9 by decide]; omega
  · rw [show Nd (3 + 1) = 3 by decide, show Nd 3 = 4 by decide]; omega
  · rw [show Nd (4 + 1) = 2 by decide, show Nd 4 = 3 by decide]; omega
  · rw [show Nd (5 + 1) = 1 by decide, show Nd 5 = 2 by decide]; omega
theorem runN_inv {α : Type} {g : Nat → α → Bool × α} (I : Nat → α → Prop) {a : α} (h0 : I 0 a) : ∀ n, (∀ i x, i < n → I i x → (g i x).1 = true ∧ I (i + 1) (g i x).2) → (runN g a n).1 = true ∧ I n (runN g a n).2
  | 0, _ => ⟨rfl, h0⟩
  | n + 1, h => by
    have k := runN_inv I h0 n (fun i x hi => h i x (by omega))
    have e : runN g a n = (true, (runN g a n).2) := Prod.ext k.1 rfl
    rw [runN_go e]
    exact h n _ (by omega) k.2
theorem ctg_fine {P : P2 → Prop} (hP : ∀ p, P p → nearF p = true) {l : Ctr} (h : FinC P l) : contoursF l = true := by
  unfold contoursF
  refine (runN_inv (fun i (left : Int) => 1000 - 12 * (i : Int) ≤ left ∧ left ≤ 1000) ⟨by omega, by omega⟩ l.n (fun i x hi hx => ?_)).1
  have hm := h.2 i hi
  have hn := h.1
  unfold ctgO
  rw [decide_eq_false (show ¬ (l.m i : Int) > x by omega)]
  refine ⟨?_, ?_⟩
  · show (runN (ctgI l i) () (l.m i)).1 = true
    exact (runN_inv (fun _ _ => True) trivial (l.m i) (fun k _ hk _ => ⟨hP _ (hm.2 k hk), trivial⟩)).1
  · show 1000 - 12 * ((i + 1 : Nat) : Int) ≤ W (x - l.m i) ∧ W (x - l.m i) ≤ 1000
    rw [W_id (by omega) (by omega)]; omega
theorem near_PR {p : P2} (h : nearF p = true) : PR p := by
  unfold nearF at h
  rw [andB_eq, andB_eq, andB_eq, Bool.and_eq_true, Bool.and_eq_true, Bool.and_eq_true, decide_eq_true_eq, decide_eq_true_eq, decide_eq_true_eq, decide_eq_true_eq] at h
  exact ⟨⟨by omega, by omega⟩, ⟨by omega, by omega⟩⟩
theorem eqP_iff {a b : P2} : (bif a.x == b.x then bif a.y == b.y then true else false else false) = true ↔ a = b := by
  obtain ⟨x, y⟩ := a
  obtain ⟨x', y'⟩ := b
  by_cases h : x = x'
  · by_cases k : y = y'
    · subst h; subst k; simp
    · simp [h, k]
  · simp [h]
theorem bare_1 (a : P2) (r : Int) (add : Nat → Bool) (sub : Nat → Shp) : bareF (toSh (.mk 1 a ze ze r zeC 0 add sub)) = true := by kernel_rfl
theorem bare_3 (a b : P2) (r : Int) (add : Nat → Bool) (sub : Nat → Shp) : bareF (toSh (.mk 3 a b ze r zeC 0 add sub)) = true := by kernel_rfl
theorem bare_4 (a b : P2) (r : Int) (add : Nat → Bool) (sub : Nat → Shp) : bareF (toSh (.mk 4 a b ze r zeC 0 add sub)) = true := by kernel_rfl
theorem bare_5 (a b c : P2) (r : Int) (add : Nat → Bool) (sub : Nat → Shp) : bareF (toSh (.mk 5 a b c r zeC 0 add sub)) = true := by kernel_rfl
theorem bare_2 (l : Ctr) (add : Nat → Bool) (sub : Nat → Shp) : bareF (toSh (.mk 2 ze ze ze 0 l 0 add sub)) = true := by kernel_rfl
theorem bare_6 (n : Nat) (add : Nat → Bool) (sub : Nat → Shp) : bareF (toSh (.mk 6 ze ze ze 0 zeC n add sub)) = true := by kernel_rfl
theorem fine_valid {P : P2 → Prop} (hP : ∀ p, P p → nearF p = true) : ∀ (s : Shp) (d forms left : Int), Fine P s d → 0 ≤ d → 0 ≤ forms → forms ≤ d → Nd d ≤ left → left ≤ 1000 →
    (validF s forms left).1 = true ∧ left - Nd d ≤ (validF s forms left).2 ∧ (validF s forms left).2 ≤ left := by
  intro s
  induction s with
  | nil => intro d forms left h; exact h.elim
  | mk k a b c r l n add sub ih =>
    intro d forms left h h0 hf hfd hl h1
    have nd := Nd_one d
    have nn := Nd_one (d + 1)
    have e1 : decide (left < 1) = false := decide_eq_false (by omega)
    have e2 : W (left - 1) = left - 1 := W_id (by omega) (by omega)
    have fin : ∀ v : Bool × Int, v = (true, left - 1) → v.1 = true ∧ left - Nd d ≤ v.2 ∧ v.2 ≤ left := fun v hv => by subst hv; exact ⟨rfl, by dsimp only; omega, by dsimp only; omega⟩
    rcases h with ⟨rfl, rfl, rfl, rfl, rfl, ha, hr⟩ | ⟨rfl, rfl, rfl, rfl, ha, hb, hr⟩ | ⟨rfl, rfl, rfl, rfl, ha, hb, hr, hn⟩ | ⟨rfl, rfl, rfl, ha, hb, hc, hr, ho⟩ | ⟨rfl, rfl, rfl, rfl, rfl, rfl, hc⟩ | ⟨rfl, rfl, rfl, rfl, rfl, rfl, h5, hm, hs⟩
    · refine fin _ ?_
      simp only [validF]
      rw [e1, bare_1, e2, hP a ha, hr]; rfl
    · refine fin _ ?_
      simp only [validF]
      rw [e1, bare_3, e2, hP a ha, hP b hb, hr]; rfl
    · refine fin _ ?_
      simp only [validF]
      rw [e1, bare_4, e2, hP a ha, hP b hb, hr, show (bif a.x == b.x then bif a.y == b.y then true else false else false) = false by rw [Bool.eq_false_iff]; exact fun q => hn (eqP_iff.1 q)]; rfl
    · refine fin _ ?_
      simp only [validF]
      rw [e1, bare_5, e2, hP a ha, hP b hb, hP c hc, hr, (ringOk_eq (near_PR (hP c hc)) (near_PR (hP a ha)) (near_PR (hP b hb))).2 ho]; rfl
    · refine fin _ ?_
      simp only [validF]
      rw [e1, bare_2, e2, ctg_fine hP hc]; rfl
    · have st := Nd_step h0 h5 (show 0 ≤ (n : Int) by omega) (by omega)
      have key := runN_inv (g := fun i lf => validF (sub i) (W (forms + 1)) lf) (a := left - 1) (fun i (lf : Int) => left - 1 - (i : Int) * Nd (d + 1) ≤ lf ∧ lf ≤ left - 1) ⟨by omega, by omega⟩ n (fun i x hi hx => by
        have a1 : ((i + 1 : Nat) : Int) * Nd (d + 1) ≤ (n : Int) * Nd (d + 1) := Int.mul_le_mul_of_nonneg_right (by omega) (by omega)
        have a2 : ((i + 1 : Nat) : Int) * Nd (d + 1) = (i : Int) * Nd (d + 1) + Nd (d + 1) := by rw [show ((i + 1 : Nat) : Int) = (i : Int) + 1 by omega, Int.add_mul, Int.one_mul]
        have w : W (forms + 1) = forms + 1 := W_id (by omega) (by omega)
        have q := ih i (d + 1) (forms + 1) x (hs i hi) (by omega) (by omega) (by omega) (by omega) (by omega)
        rw [w]
        refine ⟨q.1, ?_, ?_⟩
        · omega
        · omega)
      have ev : validF (.mk 6 ze ze ze 0 zeC n add sub) forms left = runN (fun i lf => validF (sub i) (W (forms + 1)) lf) (left - 1) n := by
        simp only [validF]
        rw [e1, bare_6, e2, decide_eq_false (show ¬ forms ≥ 8 by omega)]; rfl
      rw [ev]
      exact ⟨key.1, by omega, by omega⟩
theorem fine_ok {P : P2 → Prop} (hP : ∀ p, P p → nearF p = true) {s : Shp} (h : Fine P s 0) : okE (toSh s) = true := by
  unfold okE
  rw [vE_eq]
  exact (fine_valid hP s 0 0 1000 h (by decide) (by decide) (by decide) (by decide) (by decide)).1
end Go.Proofs.Ytfooaikpcbnchaa

/-! ## Fio -/
namespace Go.Proofs.Ytfooaikpcbnchaa
open Go Go.RowKit Sym
set_option maxRecDepth 100000

/-- no farther out than B -/
def PB (B : Int) (p : P2) : Prop := (-B ≤ p.x ∧ p.x ≤ B) ∧ (-B ≤ p.y ∧ p.y ≤ B)
theorem PB_near {B : Int} (h : B ≤ 536870912) {p : P2} (k : PB B p) : nearF p = true := by
  unfold nearF
  rw [decide_eq_true (show p.x ≥ -536870912 by have := k.1; omega), decide_eq_true (show p.x ≤ 536870912 by have := k.1; omega), decide_eq_true (show p.y ≥ -536870912 by have := k.2; omega), decide_eq_true (show p.y ≤ 536870912 by have := k.2; omega)]
  rfl
/-- how far out a tame shape goes -/
def tmX (sm : Bool) : Int := bif sm then 40 else 536870912
theorem at_PB (p : P2) (sm : Bool) : PB (tmX sm) (atP p sm) := by
  cases sm
  · exact lPt_r p
  · have h := lClose_r p (n := 20) (by decide) (by decide)
    exact ⟨⟨by show (-40 : Int) ≤ (lClose p 20).x; omega, by show (lClose p 20).x ≤ (40 : Int); omega⟩, ⟨by show (-40 : Int) ≤ (lClose p 20).y; omega, by show (lClose p 20).y ≤ (40 : Int); omega⟩⟩
theorem at_PB0 (p : P2) (sm : Bool) : (-536870912 ≤ (atP p sm).x ∧ (atP p sm).x ≤ 536870912) := by
  have h := at_PB p sm
  cases sm
  · exact h.1
  · have := h.1; unfold tmX at this; simp only [cond_true] at this; omega
theorem tmB_ok (s : Sh) (sm : Bool) : PB (tmX sm) (tmB s sm) ∧ atP s.a sm ≠ tmB s sm := by
  have hb := at_PB s.b sm
  have h0 := at_PB0 s.b sm
  have hx : 40 ≤ tmX sm := by cases sm <;> decide
  unfold tmB
  cases e : eqP (atP s.a sm) (atP s.b sm)
  · refine ⟨hb, fun q => ?_⟩
    rw [Bool.eq_false_iff] at e
    exact e (eqP_iff.2 q)
  · have ea : atP s.a sm = atP s.b sm := eqP_iff.1 e
    cases g : decide ((atP s.b sm).x > 0)
    · rw [decide_eq_false_iff_not] at g
      have w : W ((atP s.b sm).x + 1) = (atP s.b sm).x + 1 := W_id (by omega) (by omega)
      refine ⟨⟨⟨by show _ ≤ W ((atP s.b sm).x + 1); rw [w]; have := hb.1; omega, by show W ((atP s.b sm).x + 1) ≤ _; rw [w]; omega⟩, hb.2⟩, fun q => ?_⟩
      have : (atP s.a sm).x = W ((atP s.b sm).x + 1) := congrArg P2.x q
      rw [ea, w] at this; omega
    · rw [decide_eq_true_eq] at g
      have w : W ((atP s.b sm).x - 1) = (atP s.b sm).x - 1 := W_id (by omega) (by omega)
      refine ⟨⟨⟨by show _ ≤ W ((atP s.b sm).x - 1); rw [w]; omega, by show W ((atP s.b sm).x - 1) ≤ _; rw [w]; have := hb.1; omega⟩, hb.2⟩, fun q => ?_⟩
      have : (atP s.a sm).x = W ((atP s.b sm).x - 1) := congrArg P2.x q
      rw [ea, w] at this; omega
theorem tmR_ok (s : Sh) (sm : Bool) : widF (tmR s sm) = true := by
  have h := lR_bd s.r
  unfold widF
  cases sm
  · show andB (decide (lR s.r ≥ 1)) (decide (lR s.r ≤ 536870912)) = true
    rw [decide_eq_true (show lR s.r ≥ 1 by omega), decide_eq_true h.2]; rfl
  · have h1 := Int.tmod_nonneg (a := lR s.r) 15 (by omega)
    have h2 := (tmod_bd (lR s.r) (n := 15) (by decide)).2
    show andB (decide (W ((lR s.r).tmod 15 + 1) ≥ 1)) (decide (W ((lR s.r).tmod 15 + 1) ≤ 536870912)) = true
    rw [W_id (by omega) (by omega), decide_eq_true (show (lR s.r).tmod 15 + 1 ≥ 1 by omega), decide_eq_true (show (lR s.r).tmod 15 + 1 ≤ 536870912 by omega)]; rfl
theorem arcC_PB (c : P2) (sm : Bool) : PB (tmX sm) (arcC c sm) := by
  cases sm
  · have h := arcC_r c false
    exact ⟨⟨by show (-536870912 : Int) ≤ _; omega, by show _ ≤ (536870912 : Int); omega⟩, ⟨by show (-536870912 : Int) ≤ _; omega, by show _ ≤ (536870912 : Int); omega⟩⟩
  · have h := arcC_s c
    exact ⟨⟨by show (-40 : Int) ≤ _; omega, by show _ ≤ (40 : Int); omega⟩, ⟨by show (-40 : Int) ≤ _; omega, by show _ ≤ (40 : Int); omega⟩⟩
theorem arcAt_PB (c : P2) (f s : Int) (sm : Bool) : PB (tmX sm) (arcAt c f s sm) := by
  rw [arcAt_eq]
  have h := circ_ok f
  cases sm
  · have hc := arcC_r c false
    have kk := arcK_bd s false
    have x := mul_bd (A := 20000000) (B := 5) (x := arcK s false) (y := (circ f).x) (by omega) (by omega) h.x.1 h.x.2
    have y := mul_bd (A := 20000000) (B := 5) (x := arcK s false) (y := (circ f).y) (by omega) (by omega) h.y.1 h.y.2
    exact ⟨⟨by show (-536870912 : Int) ≤ (arcC c false).x + _; omega, by show (arcC c false).x + _ ≤ (536870912 : Int); omega⟩, ⟨by show (-536870912 : Int) ≤ (arcC c false).y + _; omega, by show (arcC c false).y + _ ≤ (536870912 : Int); omega⟩⟩
  · have hc := arcC_s c
    have kk := arcK1_bd s
    have x := mul_bd (A := 4) (B := 5) (x := arcK1 s) (y := (circ f).x) (by omega) (by omega) h.x.1 h.x.2
    have y := mul_bd (A := 4) (B := 5) (x := arcK1 s) (y := (circ f).y) (by omega) (by omega) h.y.1 h.y.2
    exact ⟨⟨by show (-40 : Int) ≤ (arcC c true).x + arcK1 s * (circ f).x; omega, by show (arcC c true).x + arcK1 s * (circ f).x ≤ (40 : Int); omega⟩, ⟨by show (-40 : Int) ≤ (arcC c true).y + arcK1 s * (circ f).y; omega, by show (arcC c true).y + arcK1 s * (circ f).y ≤ (40 : Int); omega⟩⟩
theorem arc_okJ (c : P2) (f t s : Int) (sm : Bool) : okI (arcC c sm) (arcAt c f s sm) (arcAt c t s sm) := by
  have kk := arcK_bd s sm
  have a := (onC_r (arcC_r c sm) kk (circ_ok f)).2
  have b := (onC_r (arcC_r c sm) kk (circ_ok t)).2
  rw [arcAt_eq, arcAt_eq]
  have p : 1 ≤ arcK s sm * arcK s sm := Int.le_trans (show (1 : Int) ≤ 1 * 1 by decide) (Int.mul_le_mul kk.1 kk.1 (by decide) (by omega))
  exact ⟨by rw [a]; omega, by rw [a, b]⟩
theorem tameC_Fin (l : Ctr) (sm : Bool) : FinC (PB (tmX sm)) (tameC l sm) := by
  refine ⟨by show min l.n 4 ≤ 4; omega, fun i _ => ⟨by show min (l.m i) 12 ≤ 12; omega, fun k _ => ?_⟩⟩
  cases sm
  · exact lPt_r (l.p i k)
  · have h := lClose_r (lPt (l.p i k)) (n := 20) (by decide) (by decide)
    exact ⟨⟨by show (-40 : Int) ≤ (lClose (lPt (l.p i k)) 20).x; omega, by show (lClose (lPt (l.p i k)) 20).x ≤ (40 : Int); omega⟩, ⟨by show (-40 : Int) ≤ (lClose (lPt (l.p i k)) 20).y; omega, by show (lClose (lPt (l.p i k)) 20).y ≤ (40 : Int); omega⟩⟩
theorem tmK0_bd (s : Sh) : 1 ≤ tmK0 s ∧ tmK0 s ≤ 6 := by
  have a := tmod_bd s.k (n := 6) (by decide)
  have w : W (s.k.tmod 6 + 6) = s.k.tmod 6 + 6 := W_id (by omega) (by omega)
  have b := Int.tmod_nonneg (a := s.k.tmod 6 + 6) 6 (by omega)
  have c := (tmod_bd (s.k.tmod 6 + 6) (n := 6) (by decide)).2
  unfold tmK0
  rw [w, W_id (by omega) (by omega)]; omega
theorem tmKk_bd (s : Sh) (d : Int) : (1 ≤ tmKk s d ∧ tmKk s d ≤ 6) ∧ (tmKk s d = 6 → d ≤ 5) := by
  have a := tmK0_bd s
  unfold tmKk
  by_cases h : d > 5
  · rw [decide_eq_true h]
    cases g : tmK0 s == 6
    · refine ⟨a, fun e => ?_⟩
      have e : tmK0 s = 6 := e
      rw [e] at g; cases g
    · exact ⟨by show (1 : Int) ≤ 1 ∧ (1 : Int) ≤ 6; omega, fun e => by cases e⟩
  · rw [decide_eq_false h]
    exact ⟨a, fun _ => by omega⟩
theorem tame_fine (sm : Bool) : ∀ (s : Shp) (d : Int), ShB s → 0 ≤ d → d ≤ 6 → Fine (PB (tmX sm)) (tameS s sm d) d := by
  intro s
  induction s with
  | nil => intro d h; exact h.elim
  | mk k a b c r l n add sub ih =>
    intro d h h0 h6
    have kk := tmKk_bd ⟨k, a, b, c, r, l, n, noF⟩ d
    have kb := tmB_ok ⟨k, a, b, c, r, l, n, noF⟩ sm
    have kr := tmR_ok ⟨k, a, b, c, r, l, n, noF⟩ sm
    simp only [tameS]
    generalize tmKk ⟨k, a, b, c, r, l, n, noF⟩ d = K at *
    have : K = 1 ∨ K = 2 ∨ K = 3 ∨ K = 4 ∨ K = 5 ∨ K = 6 := by omega
    rcases this with rfl | rfl | rfl | rfl | rfl | rfl
    · exact .inl ⟨rfl, rfl, rfl, rfl, rfl, at_PB a sm, kr⟩
    · exact .inr (.inr (.inr (.inr (.inl ⟨rfl, rfl, rfl, rfl, rfl, rfl, tameC_Fin l sm⟩))))
    · exact .inr (.inl ⟨rfl, rfl, rfl, rfl, at_PB a sm, kb.1, kr⟩)
    · exact .inr (.inr (.inl ⟨rfl, rfl, rfl, rfl, at_PB a sm, kb.1, kr, kb.2⟩))
    · exact .inr (.inr (.inr (.inl ⟨rfl, rfl, rfl, arcAt_PB _ _ _ _, arcAt_PB _ _ _ _, arcC_PB _ _, kr, arc_okJ _ _ _ _ _⟩)))
    · have h5 := kk.2 rfl
      have w : W (4 - d) = 4 - d := W_id (by omega) (by omega)
      have wd : W (d + 1) = d + 1 := W_id (by omega) (by omega)
      have hn : tmN ⟨k, a, b, c, r, l, n, noF⟩ d = min n (imax (4 - d) 1).toNat := by unfold tmN; rw [w]
      refine .inr (.inr (.inr (.inr (.inr ⟨rfl, rfl, rfl, rfl, rfl, rfl, h5, ?_, fun i hi => ?_⟩))))
      · rw [hn]; unfold imax; split <;> omega
      · rw [wd]
        exact ih i (d + 1) (h.2.2 i (by rw [hn] at hi; omega)) (by omega) (by omega)
end Go.Proofs.Ytfooaikpcbnchaa

/-! ## Poi -/
namespace Go.Proofs.Ytfooaikpcbnchaa
open Go Go.RowKit Sym

def crossesI (p a e : P2) : Bool := (decide (a.y > p.y) != decide (e.y > p.y)) && (if e.y > a.y then decide (crossI a e p > 0) else decide (crossI a e p < 0))
def spotB (p : P2) : B4 := ⟨p.x, p.y, p.x, p.y⟩
/-! ### rectangles -/
end Go.Proofs.Ytfooaikpcbnchaa

/-! ## Pos -/
namespace Go.Proofs.Ytfooaikpcbnchaa
open Go Go.RowKit Sym

/-! ### contours -/
structure PRC (l : Ctr) : Prop where
  p : ∀ i, i < l.n → ∀ k, k < l.m i → PR (l.p i k)
def oddI (p : P2) (l : Ctr) : Bool := parN (fun i => parN (edgeC l (crossesI p) i) (l.m i)) l.n
def touchI (b : B4) (l : Ctr) : Bool := anyN (fun i => anyN (edgeC l (meetsI b) i) (l.m i)) l.n
end Go.Proofs.Ytfooaikpcbnchaa

/-! ## Pou -/
namespace Go.Proofs.Ytfooaikpcbnchaa
open Go Go.RowKit Sym
set_option maxRecDepth 100000

end Go.Proofs.Ytfooaikpcbnchaa

/-! ## Fis -/
namespace Go.Proofs.Ytfooaikpcbnchaa
open Go Go.RowKit Sym
set_option maxRecDepth 100000

/-- a class, and whether a point of the box is in it -/
structure Sure (i : Bool) (k : Int) : Prop where
  lo : 0 ≤ k
  hi : k ≤ 2
  i1 : k = 2 → i = true
  i0 : k = 0 → i = false
theorem Sure.of {i : Bool} {k : Int} (h : andB (andB (andB (andB (orB (k != 2) i) (orB (k != 0) (!i))) (decide (k ≥ 0))) (decide (k ≤ 2))) true = true) : Sure i k := by
  simp only [andB_eq, orB_eq, Bool.and_eq_true, Bool.or_eq_true, bne_iff_ne, decide_eq_true_eq, Bool.not_eq_true'] at h
  obtain ⟨⟨⟨⟨h1, h2⟩, h3⟩, h4⟩, _⟩ := h
  exact ⟨h3, h4, fun e => h1.resolve_left fun q => q e, fun e => h2.resolve_left fun q => q e⟩
/-- from the first part to the last -/
def hasN (g : Nat → Bool) (add : Nat → Bool) (i : Nat) (h : Bool) : Bool := bif g i then add i else h
theorem tmX_le (sm : Bool) : tmX sm ≤ 536870912 := by cases sm <;> decide
end Go.Proofs.Ytfooaikpcbnchaa

/-! ## Pid -/
namespace Go.Proofs.Ytfooaikpcbnchaa
open Go Go.RowKit Sym
set_option maxRecDepth 100000

theorem fold_top (g add : Nat → Bool) (n : Nat) : ∀ k, k ≤ n → (∀ j, j < k → g (n - 1 - j) = false) → foldN (hasN g add) false n = foldN (hasN g add) false (n - k)
  | 0, _, _ => rfl
  | k + 1, hk, h => by
    rw [fold_top g add n k (by omega) fun j hj => h j (by omega)]
    have e : n - k = (n - (k + 1)) + 1 := by omega
    rw [e]
    show hasN g add (n - (k + 1)) _ = _
    unfold hasN
    rw [show n - (k + 1) = n - 1 - k by omega, h k (by omega)]; rfl
theorem DenC.cellB {w : World} {F : Nat → Prop} {u : Value} {v : Value} (h : Dyn.DenC w F (.p v) u) : u = v := by
  cases h; rfl
theorem one_of_den {w : World} {F : Nat → Prop} {d : Dyn.DC} {u : Value} (h : Dyn.DenC w F d u) : u.oneCell' = true := by
  have := h.one
  cases u <;> simp_all [oneCellB, Value.oneCell']
theorem callD_of {P : Program} {K : Nat} {fn : Func} (hf : P.funcs[K]? = some fn) (hb : fn.body.isNone = false) (hn : (fn.name == "runtime.NumGoroutine") = false) {args : List Dyn.DV} {v : Value} (hv : oneCellB v = true)
    (h : ∀ w (F : Nat → Prop) us, (∀ b, F b → b < w.heap.size ∧ Dyn.PlainB w b) → Dyn.DenVs w F args us → Calls P K us.toArray w (fun e w' => e = .returned v ∧ Below w.heap.size w w')) : Dyn.CallD P K args (.val (.one (.p v))) := fun w F us hF hd => by
  have hr : (callFunc K us.toArray).run P w = .ok (.enter K us.toArray) w := by
    unfold callFunc
    simp only [Sem.run_bind, run_program, Result.andThen_ok, hf, hn, hb]
    simp
  rw [hr]
  exact ⟨rfl, (h w F us hF hd).mono fun e w' ⟨he, hB⟩ => ⟨v, he, .p _ hv, hB⟩⟩
noncomputable def figHasS (s : Shp) (p : P2) : Bool := bif okE (toSh s) then hasF s p else false
noncomputable def pHas (s : Shp) (p : P2) : Bool := foldN (hasN (fun i => figHasS (suO s i) p) (adO s)) false (nuO s)
theorem PilRes.eq {n : Nat} {g add : Nat → Bool} {r : Bool} (h : PilRes n g add r) : r = foldN (hasN g add) false n := by
  rcases h with ⟨rfl, h⟩ | ⟨k, hk, rfl, h1, h2⟩
  · rw [fold_top g add n n (Nat.le_refl _) fun j hj => h _ (by omega), Nat.sub_self]; rfl
  · rw [fold_top g add n k (by omega) h2, show n - k = (n - 1 - k) + 1 by omega]
    show _ = hasN g add (n - 1 - k) _
    unfold hasN
    rw [h1]; rfl
theorem figHasE_eq (s : Shp) (p : P2) : figHasE (toSh s) p = figHasS s p := by unfold figHasE figHasS; rw [hasE_eq]
theorem pHas_ok (s : Shp) (h : ShB s) (p : P2) : Dyn.CallD Try.prog 41 [dvL (toSh s), dvP p] (rB (pHas s p)) := by
  cases s with
  | nil => exact h.elim
  | mk k a b c r l n add sub =>
    refine callD_of Try.func41 (by kernel_rfl) (by kernel_rfl) rfl fun w G us hG hd => ?_
    obtain ⟨u1, u2, rfl⟩ : ∃ u1 u2, us = [u1, u2] := by
      match us, hd with
      | [u1, u2], _ => exact ⟨u1, u2, rfl⟩
      | [], hd => exact hd.elim
      | [_], hd => exact hd.2.elim
      | _ :: _ :: _ :: _, hd => exact hd.2.2.elim
    have h1 : Dyn.DenC w G (.row n fun i => partC (add i) (toSh (sub i))) u1 := hd.1
    have e2 : u2 = .agg #[.int .i64 p.x, .int .i64 p.y] := by
      obtain ⟨us, rfl, hl⟩ := hd.2.1
      obtain ⟨us⟩ := us
      match us, hl with
      | [v1, v2], hl =>
        rw [DenC.cellB hl.1, DenC.cellB hl.2.1]
      | [], hl => exact hl.elim
      | [_], hl => exact hl.2.elim
      | _ :: _ :: _ :: _, hl => exact hl.2.2.elim
    subst e2
    obtain ⟨oa, cap, g, rfl, hO, hg⟩ : ∃ (oa : Option Addr) (cap : Nat) (g : Nat → Nat → Value), u1 = .slice oa n cap ∧ Objs w.heap.size w oa n g ∧ ∀ i j, i < n → j < 11 → Dyn.DenC w G ((partC (add i) (toSh (sub i))).getD j default) (g i j) := by
      generalize hf : (fun i => partC (add i) (toSh (sub i))) = f at h1
      cases h1 with
      | nil _ oa cap => exact ⟨oa, cap, fun _ _ => undef, rfl, .inl rfl, fun i j hi => absurd hi (Nat.not_lt_zero i)⟩
      | row _ _ b off cap size V hk hF hc hdn =>
        by_cases hz : 0 < n
        · have es : size = 11 := by rw [← (hc 0 hz).1, ← hf]; rfl
          subst es
          subst hf
          exact ⟨some ⟨b, off, none⟩, cap, V, rfl, .inr ⟨b, off, rfl, (hG b hF).1, fun i hi j hj => (hc i hi).2 j hj⟩, fun i j hi hj => hdn i j hi hj⟩
        · obtain rfl : n = 0 := by omega
          exact ⟨_, cap, fun _ _ => undef, rfl, .inl rfl, fun i j hi => absurd hi (Nat.not_lt_zero i)⟩
    refine callsIn_wide (n := 8).1 ((has_in Fence.wide 8 (fun _ => trivial) rfl (by decide) oa n cap h.2.1 g p.x p.y (fun i => figHasS (sub i) p) add w hO (fun j hj => DenC.cellB (hg j 0 hj (by decide))) (fun i hi j hj => one_of_den (hg i j hi hj)) (fun j hj W m hB => callsIn_wide.2 ?_)).mono fun e W' hr => ?_)
    · have q := figHas_ok (toSh (sub j)) (PdS_mk (h.2.2 j hj)) p
      rw [figHasE_eq] at q
      have mono : ∀ i, i < 11 → Dyn.DenC W (fun b => b < W.heap.size ∧ Dyn.PlainB W b) ((partC (add j) (toSh (sub j))).getD i default) (g j i) := fun i hi => (hg j i hj hi).mono fun b hb => ⟨⟨Nat.lt_of_lt_of_le (hG b hb).1 hB.size, (hG b hb).2.of (hB.block b (hG b hb).1)⟩, hB.block b (hG b hb).1⟩
      exact calls_of_okD Try.func30 (by kernel_rfl) (by kernel_rfl) q W (F := fun b => b < W.heap.size ∧ Dyn.PlainB W b) (fun _ h => h) (us := [.agg #[g j 1, g j 2, g j 3, g j 4, g j 5, g j 6, g j 7, g j 8, g j 9, g j 10], .agg #[.int .i64 p.x, .int .i64 p.y]])
        ⟨⟨_, rfl, mono 1 (by decide), mono 2 (by decide), mono 3 (by decide), mono 4 (by decide), mono 5 (by decide), mono 6 (by decide), mono 7 (by decide), mono 8 (by decide), mono 9 (by decide), mono 10 (by decide), trivial⟩, ⟨_, rfl, .p _ rfl, .p _ rfl, trivial⟩, trivial⟩
    · obtain ⟨⟨r, rfl, hp⟩, hB⟩ := hr
      exact ⟨by rw [PilRes.eq hp]; rfl, hB⟩
end Go.Proofs.Ytfooaikpcbnchaa

/-! ## Cpc -/
namespace Go.Proofs.Ytfooaikpcbnchaa
open Go Go.RowKit Sym
set_option maxRecDepth 100000

theorem MapIs.kept {w w' : World} {b : Nat} {l : List (PKey × Int)} (h : MapIs w b l) (e : w'.heap[b]? = w.heap[b]?) : MapIs w' b l := by
  obtain ⟨es, clock, h1, h2⟩ := h
  exact ⟨es, clock, e.trans h1, h2⟩
theorem MapIs.lt {w : World} {b : Nat} {l : List (PKey × Int)} (h : MapIs w b l) : b < w.heap.size := by
  obtain ⟨es, clock, h1, h2⟩ := h
  exact (Array.getElem?_eq_some_iff.1 h1).1
theorem stk_map {w : World} {base e size g cap n bm : Nat} {xs : List Value} {l : List (PKey × Int)} (h : StkIs w base e size g cap n xs) (m : MapIs w bm l) : g ≠ bm := by
  rintro rfl
  obtain ⟨cur, _, h2, _⟩ := h
  obtain ⟨es, clock, m1, _⟩ := m
  rw [h2] at m1; cases m1
theorem st_len (l : List (PKey × Int)) : ∀ L : List Lev, L.length ≤ stM l L
  | [] => Nat.le_refl _
  | t :: L => by have := ms_pos t l; have := st_len l L; simp only [List.length_cons]; unfold stM; omega
theorem heap_newC (w : World) (o : Obj) : (w.alloc o).heap[w.heap.size]? = some o := by
  show (w.heap.push o)[w.heap.size]? = some o
  rw [Array.getElem?_push, if_pos rfl]
theorem new_cell (w : World) (cs : Array Value) (t : TypeId) (j : Nat) : (w.alloc (.cells cs t)).cell? ⟨w.heap.size, j, none⟩ = cs[j]? := by
  simp only [World.cell?, heap_newC, Option.isSome_none, Bool.false_eq_true, if_false]
/-- what was there since wr, but for block x -/
structure Snc (w wr W : World) (x : Option Nat) : Prop where
  below : Below w.heap.size w W
  same : ∀ q, q < wr.heap.size → some q ≠ x → W.heap[q]? = wr.heap[q]?
  size : wr.heap.size ≤ W.heap.size
theorem Snc.refl {w wr : World} (h : Below w.heap.size w wr) (x : Option Nat) : Snc w wr wr x := ⟨h, fun _ _ _ => rfl, Nat.le_refl _⟩
theorem Snc.drew {w wr W : World} {x : Option Nat} (h : Snc w wr W x) (n : Nat) : Snc w wr (W.drewN n) x := ⟨⟨h.below.os, h.below.tape, h.below.output, h.below.size, h.below.block⟩, h.same, h.size⟩
theorem Snc.alloc {w wr W : World} {x : Option Nat} (h : Snc w wr W x) (o : Obj) : Snc w wr (W.alloc o) x :=
  ⟨h.below.alloc h.below.size o, fun q hq hx => (Below.heap_alloc W o q (Nat.lt_of_lt_of_le hq h.size)).trans (h.same q hq hx), by rw [World.size_alloc]; have := h.size; omega⟩
theorem Snc.grown {w wr W W2 : World} {x : Option Nat} (h : Snc w wr W x) (hb : w.heap.size ≤ wr.heap.size) {y : Option Nat} (hg : W.grownBy W2 y) (hy : ∀ k, y = some k → w.heap.size ≤ k) (hxy : ∀ k, y = some k → k < wr.heap.size → x = some k) : Snc w wr W2 x :=
  ⟨h.below.grown hg h.below.size hy, fun q hq hx => (hg.block q (Nat.lt_of_lt_of_le hq h.size) (fun e => hx (hxy q e.symm hq).symm)).trans (h.same q hq hx), Nat.le_trans h.size hg.size⟩
theorem lv_next (t : Lev) (L : List Lev) : ((lvX (t :: L)).set (L.length * 3 + 2) (.int .i64 ((t.pre t.nx : Int) + (1 + (t.c t.nx : Int))))).set (L.length * 3 + 1) (.int .i64 ((t.nx : Int) + 1)) = lvX (t.next :: L) := by
  show ((lvX L ++ t.cells).set _ _).set _ _ = lvX L ++ t.next.cells
  have hl := lvX_len L
  rw [List.set_append_right _ _ (by omega), List.set_append_right _ _ (by omega), hl, show L.length * 3 + 2 - L.length * 3 = 2 by omega, show L.length * 3 + 1 - L.length * 3 = 1 by omega]
  congr 1
theorem pre_ge (t : Lev) : ∀ k, k ≤ t.pre k
  | 0 => Nat.le_refl _
  | k + 1 => by have := pre_ge t k; show k + 1 ≤ t.pre k + (1 + t.c k); omega
/-- the loop's head -/
def CpRel (e : TypeId) (w : World) (F : Nat → Prop) (C bm : Nat) (gk : Nat) (v : Value) (W : World) : Prop :=
  ∃ (t : Lev) (L : List Lev) (g cap : Nat) (l : List (PKey × Int)), v = .slice (some ⟨g, 0, none⟩) (L.length + 1) cap ∧ StkIs W w.heap.size e 3 g cap (L.length + 1) (lvX (t :: L)) ∧ MapIs W bm l ∧ w.heap.size ≤ bm ∧ Below w.heap.size w W ∧
    KnOk w F l (t :: L) ∧ (∀ x ∈ t :: L, x.ok w F C) ∧ (t :: L).Pairwise (fun x y => x.tot ≤ y.tot) ∧ (∀ x, (t :: L).getLast? = some x → x.tot = C) ∧ stM l (t :: L) ≤ gk ∧ gk ≤ 3 * C + 2
theorem cp_next {e : TypeId} {w wr : World} {F : Nat → Prop} {C bm gk g cap : Nat} {t : Lev} {L : List Lev} {l : List (PKey × Int)} (hstk : StkIs wr w.heap.size e 3 g cap (L.length + 1) (lvX (t :: L))) (hmap : MapIs wr bm l) (hbm : w.heap.size ≤ bm) (hbel : Below w.heap.size w wr)
    (hkn : KnOk w F l (t :: L)) (hlv : ∀ x ∈ t :: L, x.ok w F C) (hsrt : (t :: L).Pairwise (fun x y => x.tot ≤ y.tot)) (hlast : ∀ x, (t :: L).getLast? = some x → x.tot = C) (hms : stM l (t :: L) ≤ gk) (hgk : gk ≤ 3 * C + 2) (hlt : t.nx < t.n) {W : World} (hW : Snc w wr W none) :
    CpRel e w F C bm (stM l (t.next :: L)) (.slice (some ⟨g, 0, none⟩) (L.length + 1) cap) ((W.setCell ⟨g, L.length * 3 + 2, none⟩ (.int .i64 ((t.pre t.nx : Int) + (1 + (t.c t.nx : Int))))).setCell ⟨g, L.length * 3 + 1, none⟩ (.int .i64 ((t.nx : Int) + 1))) ∧ stM l (t.next :: L) < gk := by
  have hne := stk_map hstk hmap
  have hk0 := hstk.kept (hW.same g hstk.lt (by simp))
  have hlen := lvX_len (t :: L)
  simp only [List.length_cons] at hlen
  have k1 := hk0.set (j := L.length * 3 + 2) (.int .i64 ((t.pre t.nx : Int) + (1 + (t.c t.nx : Int)))) (by omega)
  have k2 := k1.set (j := L.length * 3 + 1) (.int .i64 ((t.nx : Int) + 1)) (by rw [List.length_set]; omega)
  rw [lv_next] at k2
  have hg : w.heap.size ≤ g := by obtain ⟨_, h, _⟩ := hstk; exact h
  have hb := (hW.below.setCell (p := ⟨g, L.length * 3 + 2, none⟩) hg (.int .i64 ((t.pre t.nx : Int) + (1 + (t.c t.nx : Int))))).setCell (p := ⟨g, L.length * 3 + 1, none⟩) hg (.int .i64 ((t.nx : Int) + 1))
  have hm := ms_next t l hlt
  have e1 : stM l (t :: L) = t.ms l + stM l L := rfl
  have e2 : stM l (t.next :: L) = t.next.ms l + stM l L := rfl
  refine ⟨⟨t.next, L, g, cap, l, rfl, k2, hmap.kept (((setCell_off hne.symm).trans (setCell_off hne.symm)).trans (hW.same bm hmap.lt (by simp))), hbm, hb, hkn.next, fun x hx => ?_, List.pairwise_cons.2 ⟨fun x hx => (List.pairwise_cons.1 hsrt).1 x hx, (List.pairwise_cons.1 hsrt).2⟩, fun x hx => ?_, Nat.le_refl _, by omega⟩, by omega⟩
  · rcases List.mem_cons.1 hx with rfl | hx
    · have := hlv t (List.mem_cons_self ..)
      exact ⟨this.n0, by show t.nx + 1 ≤ t.n; omega, this.hF, this.cell, this.pc, this.C⟩
    · exact hlv x (List.mem_cons_of_mem _ hx)
  · cases L with
    | nil =>
      simp only [List.getLast?_singleton, Option.some.injEq] at hx
      subst hx
      exact hlast t rfl
    | cons p L =>
      rw [List.getLast?_cons_cons] at hx
      exact hlast x (by rw [List.getLast?_cons_cons]; exact hx)
theorem cp_push {e : TypeId} {w wr : World} {F : Nat → Prop} {C bm gk g cap cb co m q : Nat} {t : Lev} {L : List Lev} {l : List (PKey × Int)} (hstk : StkIs wr w.heap.size e 3 g cap (L.length + 1) (lvX (t :: L))) (hbm : w.heap.size ≤ bm)
    (hkn : KnOk w F l (t :: L)) (hlv : ∀ x ∈ t :: L, x.ok w F C) (hsrt : (t :: L).Pairwise (fun x y => x.tot ≤ y.tot)) (hlast : ∀ x, (t :: L).getLast? = some x → x.tot = C) (hms : stM l (t :: L) ≤ gk) (hgk : gk ≤ 3 * C + 2) (hlt : t.nx < t.n)
    (ha : t.a t.nx = some ⟨cb, co, none⟩) (hm : t.m t.nx = m) (h0 : 0 < m) (hk : lkP (cb, co, m) l = none) {W2 W : World} (hmap : MapIs W2 bm (upP (cb, co, m) (-1) l)) (hne : g ≠ bm) (hbel : Below w.heap.size w W2) {v' : Value} (hw : w.heap.size ≤ W2.heap.size)
    (ho : W.ownsRow w.heap.size e 3 v' (L.length + 1 + 1) (lvX (t :: L) ++ [.slice (some ⟨cb, co, none⟩) m q, .int .i64 0, .int .i64 0])) {o : Obj} (hg : (W2.alloc o).grownBy W (some g)) :
    ∃ k, k < gk ∧ CpRel e w F C bm k v' W := by
  have pc := (hlv t (List.mem_cons_self ..)).pc t.nx hlt
  have hC : t.c t.nx ≤ t.tot := by
    have e3 := pre_mono t (i := t.nx + 1) (j := t.n) (by omega)
    have e4 : t.pre (t.nx + 1) = t.pre t.nx + (1 + t.c t.nx) := rfl
    have e5 : t.tot = t.pre t.n := rfl
    omega
  have htC := (hlv t (List.mem_cons_self ..)).C
  rw [ha, hm] at pc
  obtain ⟨u, u1, u2, u3, u4, u5, u6, u7⟩ := lev_of (cap := q) pc h0
  have hu := u7 C (by omega)
  have hkey : u.key = (cb, co, m) := by unfold Lev.key; rw [u1, u2, u3]
  have hcells : u.cells = [.slice (some ⟨cb, co, none⟩) m q, .int .i64 0, .int .i64 0] := by
    unfold Lev.cells
    rw [u1, u2, u3, u4, u5]; rfl
  have hbase : w.heap.size ≤ g := by obtain ⟨_, h, _⟩ := hstk; exact h
  obtain ⟨g', cap', rfl, hs'⟩ := StkIs.of_owns ho (by omega)
  rw [← hcells] at hs'
  have hkn0 : knB l (t.a t.nx) (t.m t.nx) = false := by
    rw [ha, hm]
    obtain ⟨m', rfl⟩ : ∃ m', m = m' + 1 := ⟨m - 1, by omega⟩
    show (lkP (cb, co, m' + 1) l).isSome = false
    rw [hk]; rfl
  have hkn1 : knB (upP (cb, co, m) (-1) l) (t.a t.nx) (t.m t.nx) = true := by
    rw [ha, hm]
    obtain ⟨m', rfl⟩ : ∃ m', m = m' + 1 := ⟨m - 1, by omega⟩
    show (lkP (cb, co, m' + 1) (upP (cb, co, m' + 1) (-1) l)).isSome = true
    rw [lk_up, if_pos rfl]; rfl
  have hM := ms_push t u l (cb, co, m) (-1) hlt hkn0 hkn1 u5 (by rw [u3]; exact h0) u6
  have hS := st_up l (cb, co, m) (-1) L
  have e1 : stM l (t :: L) = t.ms l + stM l L := rfl
  have e2 : stM (upP (cb, co, m) (-1) l) (u :: t :: L) = u.ms (upP (cb, co, m) (-1) l) + (t.ms (upP (cb, co, m) (-1) l) + stM (upP (cb, co, m) (-1) l) L) := rfl
  have hp := hkn.push hu
  rw [hkey] at hp
  refine ⟨stM (upP (cb, co, m) (-1) l) (u :: t :: L), by omega, u, t :: L, g', cap', _, rfl, hs', hmap.kept ((hg.block bm (by rw [World.size_alloc]; have := hmap.lt; omega) (fun z => hne (by cases z; rfl))).trans (Below.heap_alloc W2 o bm hmap.lt)), hbm, (hbel.alloc hbel.size o).grown hg (by rw [World.size_alloc]; omega) (fun k z => by cases z; exact hbase), hp, fun x hx => ?_, List.pairwise_cons.2 ⟨fun x hx => ?_, hsrt⟩, fun x hx => ?_, Nat.le_refl _, by omega⟩
  · rcases List.mem_cons.1 hx with rfl | hx
    · exact hu
    · exact hlv x hx
  · rw [u6]
    rcases List.mem_cons.1 hx with rfl | hx
    · exact hC
    · exact Nat.le_trans hC ((List.pairwise_cons.1 hsrt).1 x hx)
  · rw [List.getLast?_cons_cons] at hx
    exact hlast x hx
theorem place_exact (b off n cap : Nat) (hn : 0 < n) (w : World) : Calls Try.prog 74 #[.slice (some ⟨b, off, none⟩) n cap] w fun e w' => e = .returned (.agg #[.pointer (some ⟨b, off, none⟩), .int .i64 (n : Int)]) ∧ w' = w.alloc (.cells #[.pointer (some ⟨b, off, none⟩), .int .i64 (n : Int)] 109) := by
  go_enter Try.func74, Try.ntmps74
  go_wp2
  simp [bodyPost, results, Try.results74, go_sem]
theorem plus_exact (a b : Int) (ha : 0 ≤ a) (hb : 0 ≤ b) (ha2 : a ≤ 1000000000) (hb2 : b ≤ 1000000000) (w : World) : Calls Try.prog 55 #[.int .i64 a, .int .i64 b] w fun e w' => e = .returned (.int .i64 (a + b)) ∧ w' = w := by
  go_enter Try.func55, Try.ntmps55
  go_wp2
  all_goals simp [bodyPost, results, Try.results55, go_sem]
noncomputable def kF1 : Field := match Try.prog.underlying 109 with | some (.struct fs) => fs.getD 0 default | _ => default
noncomputable def kF2 : Field := match Try.prog.underlying 109 with | some (.struct fs) => fs.getD 1 default | _ => default
theorem count_keyT : KeyT Try.prog 111 109 3 45 10 kF1 kF2 := ⟨by kernel_rfl, by kernel_rfl, by kernel_rfl, ⟨.i64, by kernel_rfl⟩, by kernel_rfl, by kernel_rfl, by kernel_rfl, by kernel_rfl, by kernel_rfl, by kernel_rfl, by kernel_rfl, by kernel_rfl⟩
theorem zero_int (w : World) : (zeroValue 3).run Try.prog w = .ok (.int .i64 0) w := zero_run (by kernel_rfl)
theorem cp_upd {w wr W : World} {F : Nat → Prop} {bm : Nat} {l : List (PKey × Int)} (hF : ∀ b, F b → b < w.heap.size ∧ Dyn.PlainB w b) (hbm : w.heap.size ≤ bm) (hw : w.heap.size ≤ wr.heap.size) (hW : Snc w wr W none) (hmap : MapIs wr bm l) (hl : ∀ y ∈ l, F y.1.1) (b off n : Nat) (hk : F b) (v : Int) :
    ∃ W2, (Instr.mapUpdate 111 (.map (some bm)) (.agg #[.pointer (some ⟨b, off, none⟩), .int .i64 (n : Int)]) (.int .i64 v)).run Try.prog W = .ok () W2 ∧ MapIs W2 bm (upP (b, off, n) v l) ∧ Snc w wr W2 (some bm) ∧ W.heap.size ≤ W2.heap.size := by
  obtain ⟨W2, k1, k2, k3, k4⟩ := update_run (w := W) count_keyT (hmap.kept (hW.same _ hmap.lt (by simp))) (b, off, n) v ((hF _ hk).2.of (hW.below.block _ (hF _ hk).1)) (fun y hy => (hF _ (hl y hy)).2.of (hW.below.block _ (hF _ (hl y hy)).1))
  exact ⟨W2, k1, k2, Snc.grown ⟨hW.below, fun q hq _ => hW.same q hq (by simp), hW.size⟩ hw k3 (fun k e => by cases e; exact hbm) (fun k e _ => e), by rw [k4]; exact Nat.le_refl _⟩
theorem cp_look {w wr W : World} {F : Nat → Prop} {bm : Nat} {l : List (PKey × Int)} (hF : ∀ b, F b → b < w.heap.size ∧ Dyn.PlainB w b) (hW : Snc w wr W none) (hmap : MapIs wr bm l) (hl : ∀ y ∈ l, F y.1.1) (b off n : Nat) (hk : F b) {r : Option Int} (hr : lkP (b, off, n) l = r) :
    (Instr.lookup 111 (.map (some bm)) (.agg #[.pointer (some ⟨b, off, none⟩), .int .i64 (n : Int)]) true).run Try.prog W = .ok (.tuple #[.int .i64 (r.getD 0), .bool r.isSome]) W := by
  subst hr
  exact lookup_run (w := W) count_keyT zero_int (hmap.kept (hW.same _ hmap.lt (by simp))) (b, off, n) ((hF _ hk).2.of (hW.below.block _ (hF _ hk).1)) (fun y hy => (hF _ (hl y hy)).2.of (hW.below.block _ (hF _ (hl y hy)).1))
theorem infoLv : (Try.prog.info? 113).map (fun i => (i.zero, i.size, i.bytes)) = some (some (.agg #[.slice none 0 0, .int .i64 0, .int .i64 0]), 3, 40) := by kernel_rfl
set_option maxHeartbeats 16000000 in
theorem count_walk (F : Nat → Prop) (b off n cap : Nat) (hn : 0 < n) (C : Nat) (hC : C ≤ 100000000) (w : World) (hF : ∀ b, F b → b < w.heap.size ∧ Dyn.PlainB w b) (hpc : PC w F (some ⟨b, off, none⟩) n C) : Calls Try.prog 56 #[.slice (some ⟨b, off, none⟩) n cap] w fun e w' => e = .returned (.int .i64 (C : Int)) ∧ Below w.heap.size w w' := by
  have hFb : F b := by
    cases hpc with
    | nil => omega
    | row _ _ _ _ _ _ _ _ h => exact h
  have hm0 : MapIs (w.alloc (.map #[] 0)) w.heap.size [] := ⟨#[], 0, heap_newC w _, rfl⟩
  have hb0 : Below w.heap.size w (w.alloc (.map #[] 0)) := (Below.refl _ w).alloc (Nat.le_refl _) _
  obtain ⟨W1, hU, hM1, hg1, hs1⟩ := cp_upd (w := w) (wr := w.alloc (.map #[] 0)) (W := (w.alloc (.map #[] 0)).alloc (.cells #[.pointer (some ⟨b, off, none⟩), .int .i64 (n : Int)] 109)) hF (Nat.le_refl _) hb0.size ((Snc.refl hb0 none).alloc _) hm0 (fun y hy => by cases hy) b off n hFb (-1)
  have HM1 : Hid (MapIs W1 w.heap.size (upP (b, off, n) (-1) [])) := hM1
  have HG1 : Hid (Snc w (w.alloc (.map #[] 0)) W1 (some w.heap.size)) := hg1
  have HP : Hid (PC w F (some ⟨b, off, none⟩) n C) := hpc
  clear hM1 hg1 hpc hm0 hb0 hs1
  have hmm := @run_makeMap Try.prog
  go_enter Try.func56, Try.ntmps56
  go_wp2_with (go_at_call 74; refine (place_exact b off n cap hn _).mono ?_; rintro e w' ⟨rfl, rfl⟩)
  go_loopg [4] (3 * C + 2) (fun gk v W => CpRel 113 w F C w.heap.size gk v W)
  case atStart =>
    obtain ⟨t, t1, t2, t3, t4, t5, t6, t7⟩ := lev_of (cap := cap) HP.out hn
    have ht := t7 C (Nat.le_refl _)
    have hsz : w.heap.size < W1.heap.size := by have := HG1.out.size; rw [World.size_alloc] at this; omega
    have hcells : t.cells = [.slice (some ⟨b, off, none⟩) n cap, .int .i64 0, .int .i64 0] := by unfold Lev.cells; rw [t1, t2, t3, t4, t5]; rfl
    have hk := KnOk.push (w := w) (F := F) (C := C) (l := []) (L := []) ⟨(fun y hy => by cases hy), (fun k v h => by cases h)⟩ ht
    have hkey : t.key = (b, off, n) := by unfold Lev.key; rw [t1, t2, t3]
    rw [hkey] at hk
    have hm := ms_new t (upP (b, off, n) (-1) []) t5 (by rw [t3]; exact hn)
    refine ⟨t, [], W1.heap.size, 1, _, rfl, ⟨_, by omega, heap_newC W1 _, by decide, by decide, ?_, ?_, rfl⟩, HM1.out.kept (Below.heap_alloc W1 _ _ hsz), Nat.le_refl _, HG1.out.below.alloc (by omega) _, hk, fun x hx => ?_, List.pairwise_cons.2 ⟨fun x hx => (by cases hx), .nil⟩, fun x hx => ?_, ?_, Nat.le_refl _⟩
    · rfl
    · show _ = [] ++ t.cells
      rw [hcells]; rfl
    · rcases List.mem_cons.1 hx with rfl | hx
      · exact ht
      · cases hx
    · simp only [List.getLast?_singleton, Option.some.injEq] at hx
      subst hx; exact t6
    · show t.ms _ + 0 ≤ _
      omega
  case round =>
    obtain ⟨t, L, g, cap2, l, rfl, hstk, hmap, hbm, hbel, hkn, hlv, hsrt, hlast, hms, hgk⟩ := hrel
    have ht := hlv t (List.mem_cons_self ..)
    have hx0 : (lvX (t :: L))[L.length * 3]? = some (.slice (some ⟨t.b, t.off, none⟩) t.n t.cap) := by
      show (lvX L ++ t.cells)[L.length * 3]? = _
      rw [List.getElem?_append_right (by rw [lvX_len]; omega), lvX_len, Nat.sub_self]; rfl
    have hx1 : (lvX (t :: L))[L.length * 3 + 1]? = some (.int .i64 (t.nx : Int)) := by
      show (lvX L ++ t.cells)[L.length * 3 + 1]? = _
      rw [List.getElem?_append_right (by rw [lvX_len]; omega), lvX_len, show L.length * 3 + 1 - L.length * 3 = 1 by omega]; rfl
    have hx2 : (lvX (t :: L))[L.length * 3 + 2]? = some (.int .i64 (t.pre t.nx : Int)) := by
      show (lvX L ++ t.cells)[L.length * 3 + 2]? = _
      rw [List.getElem?_append_right (by rw [lvX_len]; omega), lvX_len, show L.length * 3 + 2 - L.length * 3 = 2 by omega]; rfl
    have hcap : (L.length : Int) ≤ (cap2 : Int) := by obtain ⟨_, _, _, h, _⟩ := hstk; omega
    have hgl : g < wr.heap.size := hstk.lt
    have c0 := hstk.cell hx0
    have c1 := hstk.cell hx1
    have c2 := hstk.cell hx2
    have z1 := hstk.froz (L.length * 3 + 1)
    have z2 := hstk.froz (L.length * 3 + 2)
    clear hx0 hx1 hx2
    have hLb : (L.length : Int) ≤ 400000000 := by
      have := st_len l (t :: L)
      simp only [List.length_cons] at this
      omega
    obtain ⟨d, hd⟩ : ∃ d, d = L.length := ⟨_, rfl⟩
    have HS0 : Hid (StkIs wr w.heap.size 113 3 g cap2 (L.length + 1) (lvX (t :: L))) := hstk
    rw [← hd] at hstk c0 c1 c2 z1 z2 hLb hcap ⊢
    have hd1 : Hid (d = L.length) := hd
    clear hd
    by_cases hlt : t.nx < t.n
    · have ci0 : wr.cell? ⟨t.b, t.off + t.nx * 11 + 10, none⟩ = some (.slice (t.a t.nx) (t.m t.nx) (t.q t.nx)) := (hbel.cell (p := ⟨t.b, _, none⟩) (hF _ ht.hF).1).trans (ht.cell _ hlt)
      have hpcn := ht.pc _ hlt
      have hdec : ((t.nx : Int) == (t.n : Int)) = false := by simp; omega
      have hlt' : (t.nx : Int) < (t.n : Int) := by omega
      have hcn : t.pre t.nx + (1 + t.c t.nx) ≤ 100000000 := by
        have e3 := pre_mono t (i := t.nx + 1) (j := t.n) (by omega)
        have e4 : t.pre (t.nx + 1) = t.pre t.nx + (1 + t.c t.nx) := rfl
        have e5 : t.tot = t.pre t.n := rfl
        have := ht.C
        omega
      have hnb : (t.nx : Int) ≤ 100000000 := by have := pre_ge t t.nx; omega
      have HL : Hid (t.nx < t.n) := hlt
      have HP2 : Hid (PC w F (t.a t.nx) (t.m t.nx) (t.c t.nx)) := hpcn
      clear hlt hpcn
      have hsnc := Snc.refl hbel none
      by_cases hm : t.m t.nx = 0
      · rw [hm] at ci0
        have hc0 : t.c t.nx = 0 := by
          have := HP2.out
          rw [hm] at this
          exact this.det (F' := F) (.nil _)
        have HM : Hid (t.m t.nx = 0) := hm
        have HC0 : Hid (t.c t.nx = 0) := hc0
        have HC : Hid (wr.cell? ⟨t.b, t.off + t.nx * 11 + 10, none⟩ = some (.slice (t.a t.nx) 0 (t.q t.nx))) := ci0
        clear ci0 hm hc0
        go_wp2
        go_quiet (fail)
        have ci := HC.out
        go_wp2
        go_quiet (fail)
        go_wp2
        have hs0 : (0 : Int) ≤ (t.pre t.nx : Int) := by omega
        have hs1' : (t.pre t.nx : Int) ≤ 100000000 := by omega
        go_region_with (go_at_call 55; refine (plus_exact _ _ (by omega) (by omega) (by omega) (by omega) _).mono ?_; rintro e w' ⟨rfl, rfl⟩)
        all_goals
          go_wp2
          go_roundg (stM l (t.next :: L))
          case measure => exact (cp_next HS0.out hmap hbm hbel hkn hlv hsrt hlast hms hgk HL.out hsnc).2
          case rel =>
            have hd := hd1.out
            subst hd
            have q := fun m => (cp_next HS0.out hmap hbm hbel hkn hlv hsrt hlast hms hgk HL.out (hsnc.drew m)).1
            simp only [HC0.out, Int.natCast_zero, Int.add_zero] at q
            exact q _
      · obtain ⟨cb, co, m, hac, hmc, hm0⟩ : ∃ cb co m, t.a t.nx = some ⟨cb, co, none⟩ ∧ t.m t.nx = m ∧ 0 < m := by
          have := HP2.out
          revert this
          generalize t.a t.nx = oa
          generalize t.c t.nx = cc
          generalize hq : t.m t.nx = m
          intro hp
          cases hp with
          | nil => exact absurd hq hm
          | row b off n _ _ _ _ h0 => exact ⟨b, off, m, rfl, rfl, h0⟩
        have hFc : F cb := by
          have := HP2.out
          rw [hac, hmc] at this
          revert this
          generalize t.c t.nx = cc
          intro hp
          cases hp with
          | nil => omega
          | row _ _ _ _ _ _ _ _ h => exact h
        rw [hac, hmc] at ci0
        have HAC : Hid (t.a t.nx = some ⟨cb, co, none⟩) := hac
        have HMC : Hid (t.m t.nx = m) := hmc
        have HC : Hid (wr.cell? ⟨t.b, t.off + t.nx * 11 + 10, none⟩ = some (.slice (some ⟨cb, co, none⟩) m (t.q t.nx))) := ci0
        have hm0' : (0 : Int) < (m : Int) := by omega
        clear ci0 hm hac hmc
        cases hk : lkP (cb, co, m) l with
        | some v =>
          have hv := hkn.child hlv (fun x hx => by
            rcases List.mem_cons.1 hx with rfl | hx
            · exact Nat.le_refl _
            · exact (List.pairwise_cons.1 hsrt).1 x hx) HL.out HAC.out HMC.out hk
          have hlook := fun (W : World) (hW : Snc w wr W none) => cp_look hF hW hmap hkn.hF cb co m hFc hk
          have HLK : Hid (∀ W, Snc w wr W none → (Instr.lookup 111 (.map (some w.heap.size)) (.agg #[.pointer (some ⟨cb, co, none⟩), .int .i64 (m : Int)]) true).run Try.prog W = .ok (.tuple #[.int .i64 (t.c t.nx : Int), .bool true]) W) := fun W hW => by
            rw [hlook W hW, hv]; rfl
          have hv1 : ((t.c t.nx : Int) == -1) = false := by rw [beq_eq_false_iff_ne]; omega
          have hvb : (t.c t.nx : Int) ≤ 100000000 := by omega
          clear hlook hv hk
          go_wp2
          go_quiet (fail)
          generalize nq = n1
          have ci := HC.out
          go_wp2
          go_quiet (fail)
          clear ci
          have hlk := fun m' : Nat => HLK.out ((wr.drewN m').alloc (.cells #[.pointer (some ⟨cb, co, none⟩), .int .i64 (m : Int)] 109)) ((hsnc.drew m').alloc _)
          go_wp2_with (go_at_call 74; refine (place_exact cb co m _ hm0 _).mono ?_; rintro e w' ⟨rfl, rfl⟩)
          clear hlk
          have hS3 : Snc w wr ((wr.drewN (n1 + nq)).alloc (.cells #[.pointer (some ⟨cb, co, none⟩), .int .i64 (m : Int)] 109)) none := (hsnc.drew _).alloc _
          generalize (wr.drewN (n1 + nq)).alloc (.cells #[.pointer (some ⟨cb, co, none⟩), .int .i64 (m : Int)] 109) = W3 at hS3 ⊢
          have k1 := (Dyn.cell_congr (hS3.same g hgl (by simp)) (d * 3 + 1)).trans c1
          have k2 := (Dyn.cell_congr (hS3.same g hgl (by simp)) (d * 3 + 2)).trans c2
          have y1 := (World.frozen?_of_block (a := ⟨g, d * 3 + 1, none⟩) (hS3.same g hgl (by simp))).trans z1
          have y2 := (World.frozen?_of_block (a := ⟨g, d * 3 + 2, none⟩) (hS3.same g hgl (by simp))).trans z2
          clear c0 c1 c2 z1 z2
          have HS3 : Hid (Snc w wr W3 none) := hS3
          clear hS3
          have hs0 : (0 : Int) ≤ (t.pre t.nx : Int) := by omega
          have hs1' : (t.pre t.nx : Int) ≤ 100000000 := by omega
          have hs2 : (0 : Int) ≤ (t.c t.nx : Int) := by omega
          have P1 := fun W => plus_exact 1 (t.c t.nx : Int) (by omega) hs2 (by omega) (by omega) W
          have P2 := fun W => plus_exact (t.pre t.nx : Int) (1 + (t.c t.nx : Int)) hs0 (by omega) (by omega) (by omega) W
          have HP1 : Hid (∀ W, Calls Try.prog 55 #[.int .i64 1, .int .i64 (t.c t.nx : Int)] W fun e w' => e = .returned (.int .i64 (1 + (t.c t.nx : Int))) ∧ w' = W) := P1
          have HP2' : Hid (∀ W, Calls Try.prog 55 #[.int .i64 (t.pre t.nx : Int), .int .i64 (1 + (t.c t.nx : Int))] W fun e w' => e = .returned (.int .i64 ((t.pre t.nx : Int) + (1 + (t.c t.nx : Int)))) ∧ w' = W) := P2
          clear P1 P2
          go_region_with (go_at_call 55; (first | (with_reducible refine (HP1.out _).mono ?_) | (with_reducible refine (HP2'.out _).mono ?_)); rintro e w' ⟨rfl, rfl⟩)
          all_goals
            go_wp2
            go_roundg (stM l (t.next :: L))
            case measure => exact (cp_next HS0.out hmap hbm hbel hkn hlv hsrt hlast hms hgk HL.out hsnc).2
            case rel =>
              have hd := hd1.out
              subst hd
              exact (cp_next HS0.out hmap hbm hbel hkn hlv hsrt hlast hms hgk HL.out (HS3.out.drew _)).1
        | none =>
          have HK : Hid (lkP (cb, co, m) l = none) := hk
          have HLK : Hid (∀ W, Snc w wr W none → (Instr.lookup 111 (.map (some w.heap.size)) (.agg #[.pointer (some ⟨cb, co, none⟩), .int .i64 (m : Int)]) true).run Try.prog W = .ok (.tuple #[.int .i64 0, .bool false]) W) := fun W hW => cp_look hF hW hmap hkn.hF cb co m hFc hk
          clear hk
          have HU2 : ∀ m' : Nat, ∃ W2, (Instr.mapUpdate 111 (.map (some w.heap.size)) (.agg #[.pointer (some ⟨cb, co, none⟩), .int .i64 (m : Int)]) (.int .i64 (-1))).run Try.prog (((wr.drewN m').alloc (.cells #[.pointer (some ⟨cb, co, none⟩), .int .i64 (m : Int)] 109)).alloc (.cells #[.pointer (some ⟨cb, co, none⟩), .int .i64 (m : Int)] 109)) = .ok () W2 ∧ MapIs W2 w.heap.size (upP (cb, co, m) (-1) l) ∧ Snc w wr W2 (some w.heap.size) ∧ _ :=
            fun m' => cp_upd hF (Nat.le_refl _) hbel.size (((hsnc.drew m').alloc _).alloc _) hmap hkn.hF cb co m hFc (-1)
          obtain ⟨fw, hfw⟩ := Classical.axiomOfChoice HU2
          have HFW : Hid (∀ m', MapIs (fw m') w.heap.size (upP (cb, co, m) (-1) l) ∧ Snc w wr (fw m') (some w.heap.size)) := fun m' => ⟨(hfw m').2.1, (hfw m').2.2.1⟩
          have HFU := fun m' => (hfw m').1
          have HO : Hid (∀ m', (fw m').ownsRow w.heap.size 113 3 (.slice (some ⟨g, 0, none⟩) (d + 1) cap2) (d + 1) (lvX (t :: L))) := fun m' => (hstk.kept ((HFW.out m').2.same g hstk.lt (fun z => stk_map hstk hmap (by cases z; rfl)))).owns
          clear hfw HU2
          obtain ⟨i0, hi, hz0, hz1, hz2⟩ := info_parts infoLv
          go_wp2
          go_quiet (fail)
          have ci := HC.out
          go_wp2
          go_quiet (fail)
          clear ci
          have hlk := fun m' : Nat => HLK.out ((wr.drewN m').alloc (.cells #[.pointer (some ⟨cb, co, none⟩), .int .i64 (m : Int)] 109)) ((hsnc.drew m').alloc _)
          go_wp2_with (first
            | (go_at_call 74; refine (place_exact cb co m _ hm0 _).mono ?_; rintro e w' ⟨rfl, rfl⟩)
            | (at_builtin; refine wpList_append_own _ rfl _ _ 114 rfl w.heap.size 113 i0 (.agg #[.slice none 0 0, .int .i64 0, .int .i64 0]) 3 40 Try.underlying114 hi hz0 hz1 hz2 rfl (by decide) _ _ _ rfl ((HO.out _).alloc _) ⟨_, 0, none⟩ 1 1 [.slice (some ⟨cb, co, none⟩) m (t.q t.nx), .int .i64 0, .int .i64 0] rfl rfl ?c1 ?c2 ?c3 ?c4 ?c5 ?_)
            | go_in)
          case c1 =>
            intro j u hj
            rw [add_off, Nat.zero_add, new_cell]
            simpa using hj
          case c2 =>
            intro u hu
            simp at hu
            rcases hu with rfl | rfl <;> rfl
          case c3 => unfold maxLen; omega
          case c4 => omega
          case c5 => rw [World.size_alloc]; exact Nat.le_succ_of_le (HFW.out _).2.below.size
          · intro v' w1 hown' hgrow _
            obtain ⟨k, hk1, hk2⟩ := cp_push (q := t.q t.nx) HS0.out (Nat.le_refl _) hkn hlv hsrt hlast hms hgk HL.out HAC.out HMC.out hm0 HK.out (HFW.out _).1 (stk_map hstk hmap) (HFW.out _).2.below (HFW.out _).2.below.size (by rw [← hd1.out]; exact hown') hgrow
            have HK1 : Hid (k < gk) := hk1
            have HK2 : Hid (CpRel 113 w F C w.heap.size k v' w1) := hk2
            clear hk1 hk2 hown' hgrow HFU
            go_wp2
            go_roundg k
            case measure => exact HK1.out
            case rel => exact HK2.out
    · have heq : t.nx = t.n := by have := ht.nx; omega
      have hdec : ((t.nx : Int) == (t.n : Int)) = true := by simp [heq]
      have H1 : Hid (t.nx = t.n) := heq
      have HU2 : ∀ m' : Nat, ∃ W2, (Instr.mapUpdate 111 (.map (some w.heap.size)) (.agg #[.pointer (some ⟨t.b, t.off, none⟩), .int .i64 (t.n : Int)]) (.int .i64 (t.pre t.nx : Int))).run Try.prog ((wr.drewN m').alloc (.cells #[.pointer (some ⟨t.b, t.off, none⟩), .int .i64 (t.n : Int)] 109)) = .ok () W2 ∧ MapIs W2 w.heap.size (upP t.key (t.pre t.nx : Int) l) ∧ Snc w wr W2 (some w.heap.size) ∧ _ :=
        fun m' => cp_upd hF (Nat.le_refl _) hbel.size (((Snc.refl hbel none).drew m').alloc _) hmap hkn.hF t.b t.off t.n ht.hF _
      obtain ⟨fw, hfw⟩ := Classical.axiomOfChoice HU2
      have HFW : Hid (∀ m', MapIs (fw m') w.heap.size (upP t.key (t.pre t.nx : Int) l) ∧ Snc w wr (fw m') (some w.heap.size)) := fun m' => ⟨(hfw m').2.1, (hfw m').2.2.1⟩
      have HFU := fun m' => (hfw m').1
      clear hfw HU2 hlt heq
      by_cases hz : d = 0
      · have hz1 : ((d : Int) == 0) = true := by simp [hz]
        have hz2 : Hid (d = 0) := hz
        clear hz
        go_wp2
        go_quiet (fail)
        go_wp2_with (go_at_call 74; refine (place_exact t.b t.off t.n t.cap ht.n0 _).mono ?_; rintro e w' ⟨rfl, rfl⟩)
        go_ret
        refine ⟨?_, (HFW.out _).2.below⟩
        show Ending.returned (.int .i64 (t.pre t.nx : Int)) = _
        have e1 : L = [] := List.length_eq_zero_iff.1 (hd1.out.symm.trans hz2.out)
        have e2 := hlast t (by rw [e1]; rfl)
        rw [show t.pre t.nx = C by rw [H1.out]; exact e2]
      · have hz1 : ((d : Int) == 0) = false := by simp [hz]
        have hz2 : Hid (d ≠ 0) := hz
        clear hz
        go_wp2
        go_quiet (fail)
        go_wp2_with (go_at_call 74; refine (place_exact t.b t.off t.n t.cap ht.n0 _).mono ?_; rintro e w' ⟨rfl, rfl⟩)
        go_roundg (stM (upP t.key (t.pre t.nx : Int) l) L)
        case measure =>
          have := st_up l t.key (t.pre t.nx : Int) L
          have := ms_pos t l
          have e : stM l (t :: L) = t.ms l + stM l L := rfl
          omega
        case rel =>
          cases L with
          | nil => exact absurd hd1.out hz2.out
          | cons p L =>
            have hd2 : d = L.length + 1 := hd1.out
            subst hd2
            have et : t.pre t.nx = t.tot := by rw [H1.out]; rfl
            have hM2 := fun m' => (HFW.out m').1
            have hS2 := fun m' => (HFW.out m').2
            rw [et] at hM2 ⊢
            refine ⟨p, L, g, cap2, _, rfl, (StkIs.pop (ys := t.cells) hstk rfl).kept ((hS2 _).same g hstk.lt (fun z => stk_map hstk hmap (by cases z; rfl))), hM2 _, Nat.le_refl _, (hS2 _).below, hkn.pop ht, fun x hx => hlv x (List.mem_cons_of_mem _ hx), (List.pairwise_cons.1 hsrt).2, fun x hx => hlast x hx, Nat.le_refl _, ?_⟩
            have := st_up l t.key (t.tot : Int) (p :: L)
            have e : stM l (t :: p :: L) = t.ms l + stM l (p :: L) := rfl
            omega
theorem count_zero (oa : Option Addr) (cap : Nat) (w : World) : Calls Try.prog 56 #[.slice oa 0 cap] w fun e w' => e = .returned (.int .i64 0) ∧ Below w.heap.size w w' := by
  go_enter Try.func56, Try.ntmps56
  go_wp2
  go_ret
  exact ⟨rfl, Below.refl _ _⟩
end Go.Proofs.Ytfooaikpcbnchaa

/-! ## Cqc -/
namespace Go.Proofs.Ytfooaikpcbnchaa
open Go Go.RowKit Sym
set_option maxRecDepth 100000

/-- a cell shows something -/
def CellD (w : World) (G : Nat → Prop) (b i : Nat) (d : Dyn.DC) : Prop := ∃ v, w.cell? ⟨b, i, none⟩ = some v ∧ Dyn.DenC w G d v
theorem CellD.mono {w w' : World} {G G' : Nat → Prop} {b i : Nat} {d : Dyn.DC} (h : CellD w G b i d) (hb : w'.heap[b]? = w.heap[b]?) (hG : ∀ b, G b → G' b ∧ w'.heap[b]? = w.heap[b]?) : CellD w' G' b i d := by
  obtain ⟨v, h1, h2⟩ := h
  exact ⟨v, (Dyn.cell_congr hb i).trans h1, h2.mono hG⟩
theorem cell_set_other {w : World} {cb co : Nat} {u : Value} {b i : Nat} (h : b ≠ cb ∨ i ≠ co) : (w.setCell ⟨cb, co, none⟩ u).cell? ⟨b, i, none⟩ = w.cell? ⟨b, i, none⟩ :=
  World.cell?_setCell_other _ _ _ _ (fun e => by cases e; rcases h with h | h <;> exact h rfl)
theorem cell_set_same {w : World} {cb co : Nat} {u v : Value} (h : w.cell? ⟨cb, co, none⟩ = some v) : (w.setCell ⟨cb, co, none⟩ u).cell? ⟨cb, co, none⟩ = some u := World.cell?_setCell_same _ _ _ h
/-- a cell is written over by what shows the same -/
theorem CellD.over {w : World} {G : Nat → Prop} {cb co : Nat} {u u' : Value} {d0 : Dyn.DC} (t0 : TyD d0) (hc : w.cell? ⟨cb, co, none⟩ = some u) (h0 : Dyn.DenC w G d0 u) (h1 : Dyn.DenC (w.setCell ⟨cb, co, none⟩ u') G d0 u') {b i : Nat} {d : Dyn.DC} (h : CellD w G b i d) (t : TyD d) :
    CellD (w.setCell ⟨cb, co, none⟩ u') G b i d := by
  obtain ⟨v, q1, q2⟩ := h
  by_cases e : b = cb ∧ i = co
  · obtain ⟨rfl, rfl⟩ := e
    rw [hc] at q1
    cases q1
    exact ⟨u', cell_set_same hc, den_det h0 t0 t q2 h1⟩
  · exact ⟨v, by rw [cell_set_other (by omega)]; exact q1, den_over t0 h0 h1 hc (cell_set_same hc) (fun b i _ h => cell_set_other h) (fun _ h => h) q2 t⟩
/-! ### jobs -/
structure Job where
  b : Nat
  off : Nat
  t : Shp
def Job.ptr (j : Job) : Value := .pointer (some ⟨j.b, j.off, none⟩)
def jbX : List Job → List Value
  | [] => []
  | j :: L => jbX L ++ [j.ptr]
theorem jbX_len : ∀ L : List Job, (jbX L).length = L.length
  | [] => rfl
  | j :: L => by simp [jbX, jbX_len L]
def jbM : List Job → Nat
  | [] => 0
  | j :: L => 1 + cntS j.t + jbM L
theorem jb_len : ∀ L : List Job, L.length ≤ jbM L
  | [] => Nat.le_refl _
  | j :: L => by have := jb_len L; simp only [List.length_cons, jbM]; omega
/-- the contours of a shape -/
def dLt (s : Shp) : Dyn.DC := cCtr (toSh s).l
/-- a block that the call itself has made, not that of its result -/
def Lo (B b : Nat) : Prop := B ≤ b ∧ b ≠ B + 1
structure JobOk (B g : Nat) (W : World) (G : Nat → Prop) (j : Job) : Prop where
  lo : Lo B j.b
  g : j.b ≠ g
  pl : Dyn.PlainB W j.b
  sh : ShB j.t
  l : CellD W G j.b (j.off + 8) (dLt j.t)
  p : CellD W G j.b (j.off + 9) (dPt j.t)
theorem plLt {W : World} {b : Nat} (h : Dyn.PlainB W b) : b < W.heap.size := by
  obtain ⟨cs, t, h⟩ := h; exact (Array.getElem?_eq_some_iff.1 h).1
theorem plSet {W : World} {b : Nat} (h : Dyn.PlainB W b) (g o : Nat) (u : Value) : Dyn.PlainB (W.setCell ⟨g, o, none⟩ u) b := by
  by_cases e : b = g
  · subst e
    obtain ⟨cs, t, h⟩ := h
    exact ⟨_, t, setCell_at h⟩
  · exact h.of (setCell_off e)
structure GOk (F : Nat → Prop) (B g : Nat) (W : World) (G : Nat → Prop) : Prop where
  pl : ∀ b, G b → Dyn.PlainB W b
  ng : ∀ b, G b → b ≠ g
  lo : ∀ b, G b → F b ∨ Lo B b
/-- the box shows the shape -/
def BoxD (W : World) (G : Nat → Prop) (Bs : Nat) (s : Shp) : Prop := ∀ i, i < 10 → CellD W G Bs i ((cS (toSh s)).getD i default)
theorem cS_ty {s : Shp} (h : ShB s) {i : Nat} (hi : i < 10) : TyD ((cS (toSh s)).getD i default) := by
  have : i = 0 ∨ i = 1 ∨ i = 2 ∨ i = 3 ∨ i = 4 ∨ i = 5 ∨ i = 6 ∨ i = 7 ∨ i = 8 ∨ i = 9 := by omega
  rcases this with rfl | rfl | rfl | rfl | rfl | rfl | rfl | rfl | rfl | rfl
  · exact .i _
  · exact .i _
  · exact .i _
  · exact .i _
  · exact .i _
  · exact .i _
  · exact .i _
  · exact .i _
  · exact .ctr _
  · exact .prt _ h
/-- all that holds, with the jobs L and the stack in block g -/
structure CqI (F : Nat → Prop) (B g : Nat) (W : World) (G : Nat → Prop) (Bs : Nat) (s : Shp) (L : List Job) : Prop where
  ok : GOk F B g W G
  lo : Lo B Bs
  ng : Bs ≠ g
  bp : Dyn.PlainB W Bs
  sh : ShB s
  box : BoxD W G Bs s
  job : ∀ j ∈ L, JobOk B g W G j
/-- a world that has grown, but for the stack's block -/
theorem CqI.grow {F : Nat → Prop} {B g g' : Nat} {W W' : World} {G : Nat → Prop} {Bs : Nat} {s : Shp} {L : List Job} (h : CqI F B g W G Bs s L) (hs : ∀ b, b < W.heap.size → b ≠ g → W'.heap[b]? = W.heap[b]?) (hg : g' = g ∨ W.heap.size ≤ g') : CqI F B g' W' G Bs s L := by
  have k : ∀ b, Dyn.PlainB W b → b ≠ g → W'.heap[b]? = W.heap[b]? ∧ b ≠ g' := fun b hb hn => ⟨hs b (plLt hb) hn, fun e => by have := plLt hb; rcases hg with hg | hg <;> omega⟩
  have kG : ∀ b, G b → G b ∧ W'.heap[b]? = W.heap[b]? := fun b hb => ⟨hb, (k b (h.ok.pl b hb) (h.ok.ng b hb)).1⟩
  have kB := k Bs h.bp h.ng
  refine ⟨⟨fun b hb => (h.ok.pl b hb).of (kG b hb).2, fun b hb => (k b (h.ok.pl b hb) (h.ok.ng b hb)).2, h.ok.lo⟩, h.lo, kB.2, h.bp.of kB.1, h.sh, fun i hi => (h.box i hi).mono kB.1 kG, fun j hj => ?_⟩
  have q := h.job j hj
  have kj := k j.b q.pl q.g
  exact ⟨q.lo, kj.2, q.pl.of kj.1, q.sh, q.l.mono kj.1 kG, q.p.mono kj.1 kG⟩
/-- more blocks are in sight -/
theorem CqI.more {F : Nat → Prop} {B g : Nat} {W : World} {G G' : Nat → Prop} {Bs : Nat} {s : Shp} {L : List Job} (h : CqI F B g W G Bs s L) (hG : ∀ b, G b → G' b) (hn : GOk F B g W G') : CqI F B g W G' Bs s L :=
  ⟨hn, h.lo, h.ng, h.bp, h.sh, fun i hi => (h.box i hi).mono rfl fun b hb => ⟨hG b hb, rfl⟩, fun j hj => ⟨(h.job j hj).lo, (h.job j hj).g, (h.job j hj).pl, (h.job j hj).sh, (h.job j hj).l.mono rfl fun b hb => ⟨hG b hb, rfl⟩, (h.job j hj).p.mono rfl fun b hb => ⟨hG b hb, rfl⟩⟩⟩
/-- one cell is written over -/
theorem CqI.set {F : Nat → Prop} {B g : Nat} {W : World} {G : Nat → Prop} {Bs : Nat} {s : Shp} {L : List Job} (h : CqI F B g W G Bs s L) {cb co : Nat} {u u' : Value} {n0 : Nat} {f0 : Nat → List Dyn.DC} {r0 : Nat} (k0 : Rk (.row n0 f0) r0) (hc : W.cell? ⟨cb, co, none⟩ = some u) (h0 : Dyn.DenC W G (.row n0 f0) u) (h2 : Dyn.DenC W G (.row n0 f0) u') :
    CqI F B g (W.setCell ⟨cb, co, none⟩ u') G Bs s L := by
  have t0 := k0.ty
  have h1 : Dyn.DenC (W.setCell ⟨cb, co, none⟩ u') G (.row n0 f0) u' := den_self k0 hc h0 h2 (cell_set_same hc) (fun b i _ h => cell_set_other h)
  exact ⟨⟨fun b hb => plSet (h.ok.pl b hb) _ _ _, h.ok.ng, h.ok.lo⟩, h.lo, h.ng, plSet h.bp _ _ _, h.sh, fun i hi => CellD.over t0 hc h0 h1 (h.box i hi) (cS_ty h.sh hi), fun j hj => ⟨(h.job j hj).lo, (h.job j hj).g, plSet (h.job j hj).pl _ _ _, (h.job j hj).sh, CellD.over t0 hc h0 h1 (h.job j hj).l (.ctr _), CellD.over t0 hc h0 h1 (h.job j hj).p (.prt _ (h.job j hj).sh)⟩⟩
theorem CqI.sub {F : Nat → Prop} {B g : Nat} {W : World} {G : Nat → Prop} {Bs : Nat} {s : Shp} {L L' : List Job} (h : CqI F B g W G Bs s L) (hL : ∀ j ∈ L', j ∈ L) : CqI F B g W G Bs s L' := ⟨h.ok, h.lo, h.ng, h.bp, h.sh, h.box, fun j hj => h.job j (hL j hj)⟩
theorem setCell_size (w : World) (a : Addr) (u : Value) : (w.setCell a u).heap.size = w.heap.size := by simp [World.setCell]
/-- the contours are written -/
theorem CqI.ctr {F : Nat → Prop} {B g : Nat} {W W1 : World} {G : Nat → Prop} {Bs : Nat} {s : Shp} {j : Job} {L : List Job} (h : CqI F B g W G Bs s (j :: L)) (hB : B + 1 < W.heap.size) (hg : g < W.heap.size) (hb : Below W.heap.size W W1) {u' : Value}
    (hu : Dyn.DenC W1 (fun b => G b ∨ (W.heap.size ≤ b ∧ b < W1.heap.size ∧ Dyn.PlainB W1 b)) (dLt j.t) u') : CqI F B g (W1.setCell ⟨j.b, j.off + 8, none⟩ u') (fun b => G b ∨ (W.heap.size ≤ b ∧ b < W1.heap.size ∧ Dyn.PlainB W1 b)) Bs s (j :: L) := by
  have q := (h.grow (g' := g) (fun b hb' _ => hb.block b hb') (.inl rfl)).more (G' := fun b => G b ∨ (W.heap.size ≤ b ∧ b < W1.heap.size ∧ Dyn.PlainB W1 b)) (fun b hb => .inl hb)
    ⟨fun b hb' => hb'.elim (fun k => (h.ok.pl b k).of (hb.block b (plLt (h.ok.pl b k)))) fun k => k.2.2, fun b hb' => hb'.elim (h.ok.ng b) fun k => by omega, fun b hb' => hb'.elim (h.ok.lo b) fun k => .inr ⟨by omega, by omega⟩⟩
  obtain ⟨u, c1, c2⟩ := (q.job j (List.mem_cons_self ..)).l
  exact q.set (.ctr _) c1 c2 hu
/-- there are no parts -/
theorem CqI.zero {F : Nat → Prop} {B g : Nat} {W : World} {G : Nat → Prop} {Bs : Nat} {s : Shp} {j : Job} {L : List Job} (h : CqI F B g W G Bs s (j :: L)) (hz : (toSh j.t).n = 0) : CqI F B g (W.setCell ⟨j.b, j.off + 9, none⟩ (.slice none 0 0)) G Bs s L := by
  have q := h.job j (List.mem_cons_self ..)
  obtain ⟨u, c1, c2⟩ := q.p
  refine (h.set (.prt _ q.sh) c1 c2 ?_).sub fun i hi => List.mem_cons_of_mem _ hi
  rw [hz]; exact .nil _ _ _
/-- the parts of a shape, in memory -/
theorem parts_of {W : World} {G : Nat → Prop} {k : Int} {a b c : P2} {r : Int} {l : Ctr} {n : Nat} {add : Nat → Bool} {sub : Nat → Shp} {pv : Value} (h : Dyn.DenC W G (dPt (.mk k a b c r l n add sub)) pv) : ∃ oa cap, pv = .slice oa n cap ∧ (0 < n → ∃ (pb po : Nat) (gv : Nat → Nat → Value), oa = some ⟨pb, po, none⟩ ∧ n ≤ cap ∧ G pb ∧
    ∀ i, i < n → ∀ j, j < 11 → W.cell? ⟨pb, po + i * 11 + j, none⟩ = some (gv i j) ∧ Dyn.DenC W G ((partC (add i) (toSh (sub i))).getD j default) (gv i j)) := by
  have h : Dyn.DenC W G (.row n fun i => partC (add i) (toSh (sub i))) pv := h
  generalize hf : (fun i => partC (add i) (toSh (sub i))) = f at h
  cases h with
  | nil f oa cap => exact ⟨oa, cap, rfl, fun h => absurd h (Nat.lt_irrefl 0)⟩
  | row _ _ b off cap size g hk hF hc hd =>
    refine ⟨_, cap, rfl, fun hn => ⟨b, off, g, rfl, hk, hF, fun i hi j hj => ?_⟩⟩
    have es : size = 11 := by rw [← (hc 0 hn).1, ← hf]; rfl
    subst es
    refine ⟨(hc i hi).2 j hj, ?_⟩
    have := hd i j hi hj
    rw [← hf] at this
    exact this
def kids (g2 : Nat) (sub : Nat → Shp) : Nat → List Job
  | 0 => []
  | k + 1 => ⟨g2, k * 11 + 1, sub k⟩ :: kids g2 sub k
theorem kids_mem {g2 : Nat} {sub : Nat → Shp} {j : Job} : ∀ {n : Nat}, j ∈ kids g2 sub n → ∃ i, i < n ∧ j = ⟨g2, i * 11 + 1, sub i⟩
  | 0, h => by cases h
  | k + 1, h => by
    rcases List.mem_cons.1 h with rfl | h
    · exact ⟨k, by omega, rfl⟩
    · obtain ⟨i, hi, e⟩ := kids_mem h
      exact ⟨i, by omega, e⟩
theorem kids_len (g2 : Nat) (sub : Nat → Shp) : ∀ n, (kids g2 sub n).length = n
  | 0 => rfl
  | k + 1 => by show (kids g2 sub k).length + 1 = _; rw [kids_len]
theorem kids_m (g2 : Nat) (sub : Nat → Shp) (L : List Job) : ∀ n, jbM (kids g2 sub n ++ L) = sumC (fun i => 1 + cntS (sub i)) n + jbM L
  | 0 => by show jbM L = 0 + jbM L; omega
  | k + 1 => by
    show 1 + cntS (sub k) + jbM (kids g2 sub k ++ L) = sumC _ k + (1 + cntS (sub k)) + jbM L
    rw [kids_m g2 sub L k]; omega
/-- a new row that holds what the parts' row holds -/
theorem CqI.newRow {F : Nat → Prop} {B g : Nat} {W W3 : World} {G : Nat → Prop} {Bs : Nat} {s : Shp} {j : Job} {L : List Job} (h : CqI F B g W G Bs s (j :: L)) (hB : B + 1 < W.heap.size) (hg : g < W.heap.size) {k : Int} {a b c : P2} {r : Int} {l : Ctr} {n : Nat} {add : Nat → Bool} {sub : Nat → Shp} (ht : j.t = .mk k a b c r l n add sub)
    {gv : Nat → Nat → Value} (hv : ∀ i, i < n → ∀ q, q < 11 → Dyn.DenC W G ((partC (add i) (toSh (sub i))).getD q default) (gv i q)) (hb : ∀ q, q < W.heap.size → W3.heap[q]? = W.heap[q]?) {g2 : Nat} (h2 : W.heap.size ≤ g2) (hp : Dyn.PlainB W3 g2) (hc : ∀ i, i < n → ∀ q, q < 11 → W3.cell? ⟨g2, i * 11 + q, none⟩ = some (gv i q)) :
    CqI F B g W3 (fun q => G q ∨ q = g2) Bs s (kids g2 sub n ++ j :: L) ∧ Dyn.DenC W3 (fun q => G q ∨ q = g2) (dPt j.t) (.slice (some ⟨g2, 0, none⟩) n n) := by
  have q := (h.grow (g' := g) (fun b hb' _ => hb b hb') (.inl rfl)).more (G' := fun b => G b ∨ b = g2) (fun b hb => .inl hb)
    ⟨fun b hb' => hb'.elim (fun k => (h.ok.pl b k).of (hb b (plLt (h.ok.pl b k)))) fun k => k ▸ hp, fun b hb' => hb'.elim (h.ok.ng b) fun k => by omega, fun b hb' => hb'.elim (h.ok.lo b) fun k => .inr ⟨by omega, by omega⟩⟩
  have hm : ∀ {d : Dyn.DC} {v : Value}, Dyn.DenC W G d v → Dyn.DenC W3 (fun q => G q ∨ q = g2) d v := fun k => k.mono fun b hb' => ⟨.inl hb', hb b (plLt (h.ok.pl b hb'))⟩
  have hsh := (h.job j (List.mem_cons_self ..)).sh
  rw [ht] at hsh
  refine ⟨⟨q.ok, q.lo, q.ng, q.bp, q.sh, q.box, fun x hx => ?_⟩, ?_⟩
  · rcases List.mem_append.1 hx with hx | hx
    · obtain ⟨i, hi, rfl⟩ := kids_mem hx
      exact ⟨⟨by show B ≤ g2; omega, by show g2 ≠ B + 1; omega⟩, by show g2 ≠ g; omega, hp, hsh.2.2 i hi, ⟨gv i 9, hc i hi 9 (by decide), hm (hv i hi 9 (by decide))⟩, ⟨gv i 10, hc i hi 10 (by decide), hm (hv i hi 10 (by decide))⟩⟩
    · exact q.job x hx
  · rw [ht]
    exact .row n _ g2 0 n 11 gv (Nat.le_refl _) (.inr rfl) (fun i hi => ⟨rfl, fun q hq => by rw [Nat.zero_add]; exact hc i hi q hq⟩) fun i q hi hq => hm (hv i hi q hq)
/-- the new row is written -/
theorem CqI.fin {F : Nat → Prop} {B g g' : Nat} {W3 W4 : World} {G : Nat → Prop} {Bs : Nat} {s : Shp} {j : Job} {K L : List Job} (h : CqI F B g W3 G Bs s (K ++ j :: L)) (hs : ∀ b, b < W3.heap.size → b ≠ g → W4.heap[b]? = W3.heap[b]?) (hg : g' = g ∨ W3.heap.size ≤ g') {v : Value} (hv : Dyn.DenC W3 G (dPt j.t) v) :
    CqI F B g' (W4.setCell ⟨j.b, j.off + 9, none⟩ v) G Bs s (K ++ L) := by
  have q := h.grow hs hg
  have qj := q.job j (by simp)
  obtain ⟨u, c1, c2⟩ := qj.p
  refine (q.set (.prt _ qj.sh) c1 c2 (hv.mono fun b hb => ⟨hb, hs b (plLt (h.ok.pl b hb)) (h.ok.ng b hb)⟩)).sub fun i hi => ?_
  rcases List.mem_append.1 hi with hi | hi
  · exact List.mem_append_left _ hi
  · exact List.mem_append_right _ (List.mem_cons_of_mem _ hi)
/-- at the loop's head -/
def CqRel (e sh : TypeId) (F : Nat → Prop) (w : World) (s : Shp) (gk : Nat) (v : Value) (W : World) : Prop :=
  ∃ (L : List Job) (g cap : Nat) (G : Nat → Prop), v = .slice (some ⟨g, 0, none⟩) L.length cap ∧ StkIs W w.heap.size e 1 g cap L.length (jbX L) ∧ CqI F w.heap.size g W G w.heap.size s L ∧ Below w.heap.size w W ∧ g ≠ w.heap.size + 1 ∧ jbM L ≤ gk ∧ gk ≤ 1 + cntS s ∧ ∃ cs, W.heap[w.heap.size + 1]? = some (.cells cs sh (0, 0)) ∧ cs.size = 10
end Go.Proofs.Ytfooaikpcbnchaa

/-! ## Fip -/
namespace Go.Proofs.Ytfooaikpcbnchaa
open Go Go.RowKit Sym
set_option maxRecDepth 100000

theorem P2.ext' {p q : P2} (h : p.x = q.x) (k : p.y = q.y) : p = q := by cases p; cases q; cases h; cases k; rfl
end Go.Proofs.Ytfooaikpcbnchaa

/-! ## Tuc -/
namespace Go.Proofs.Ytfooaikpcbnchaa
open Go Go.RowKit Sym
set_option maxRecDepth 100000

end Go.Proofs.Ytfooaikpcbnchaa

/-! ## Fiq -/
namespace Go.Proofs.Ytfooaikpcbnchaa
open Go Go.RowKit Sym
set_option maxRecDepth 100000

/-! ### the same -/
/-! ### moved -/
theorem fine_B {P : P2 → Prop} : ∀ (s : Shp) (d : Int), Fine P s d → 0 ≤ d → ShB s := by
  intro s
  induction s with
  | nil => intro d h; exact h.elim
  | mk k a b' c r l n add sub ih =>
    intro d h h0
    have z : ∀ i, i < 0 → ShB (sub i) := fun i hi => absurd hi (Nat.not_lt_zero i)
    rcases h with ⟨rfl, rfl, rfl, rfl, rfl, ha, hr⟩ | ⟨rfl, rfl, rfl, rfl, ha, hb, hr⟩ | ⟨rfl, rfl, rfl, rfl, ha, hb, hr, hn⟩ | ⟨rfl, rfl, rfl, ha, hb, hc, hr, ho⟩ | ⟨rfl, rfl, rfl, rfl, rfl, rfl, hc⟩ | ⟨rfl, rfl, rfl, rfl, rfl, rfl, h5, hm, hs⟩
    · exact ⟨CtrB_ze, by decide, z⟩
    · exact ⟨CtrB_ze, by decide, z⟩
    · exact ⟨CtrB_ze, by decide, z⟩
    · exact ⟨CtrB_ze, by decide, z⟩
    · exact ⟨⟨by have := hc.1; omega, fun i hi => by have := (hc.2 i hi).1; omega⟩, by decide, z⟩
    · exact ⟨CtrB_ze, by omega, fun i hi => ih i (d + 1) (hs i hi) (by omega)⟩
end Go.Proofs.Ytfooaikpcbnchaa

/-! ## Fit -/
namespace Go.Proofs.Ytfooaikpcbnchaa
open Go Go.RowKit Sym
set_option maxRecDepth 100000

end Go.Proofs.Ytfooaikpcbnchaa

/-! ## Dla -/
namespace Go.Proofs.Ytfooaikpcbnchaa
open Go Go.RowKit Sym
set_option maxRecDepth 100000

inductive DLe : Dyn.DC → Dyn.DC → Prop where
  | refl (c : Dyn.DC) : DLe c c
  | row (n : Nat) (f g : Nat → List Dyn.DC) : (∀ i, i < n → (f i).length = (g i).length) → (∀ i j, i < n → j < (f i).length → DLe ((f i).getD j default) ((g i).getD j default)) → DLe (.row n f) (.row n g)
theorem DLe.den {w : World} {F : Nat → Prop} {c d : Dyn.DC} (h : DLe c d) : ∀ {u : Value}, Dyn.DenC w F c u → Dyn.DenC w F d u := by
  induction h with
  | refl c => exact fun h => h
  | row n f g hl _ ih =>
    intro u k
    cases k with
    | nil _ oa cap => exact .nil g oa cap
    | row _ _ b off cap size V hk hF hc hd =>
      refine .row n g b off cap size V hk hF (fun i hi => ⟨(hl i hi) ▸ (hc i hi).1, (hc i hi).2⟩) (fun i j hi hj => ih i j hi ?_ (hd i j hi hj))
      rw [(hc i hi).1]; exact hj
def DLL : List Dyn.DC → List Dyn.DC → Prop
  | [], [] => True
  | c :: cs, d :: ds => DLe c d ∧ DLL cs ds
  | _, _ => False
theorem DLL.refl : ∀ cs, DLL cs cs
  | [] => trivial
  | c :: cs => ⟨.refl c, DLL.refl cs⟩
theorem DLL.den {w : World} {F : Nat → Prop} : ∀ {cs ds : List Dyn.DC} {us : List Value}, DLL cs ds → Dyn.DenL w F cs us → Dyn.DenL w F ds us
  | [], [], [], _, h => h
  | [], [], _ :: _, _, h => h
  | [], _ :: _, _, h, _ => h.elim
  | _ :: _, [], _, h, _ => h.elim
  | c :: cs, d :: ds, [], _, k => k.elim
  | c :: cs, d :: ds, u :: us, h, k => ⟨h.1.den k.1, DLL.den h.2 k.2⟩
theorem DLL.get : ∀ {cs ds : List Dyn.DC}, DLL cs ds → cs.length = ds.length ∧ ∀ j, DLe (cs.getD j default) (ds.getD j default)
  | [], [], _ => ⟨rfl, fun j => .refl _⟩
  | [], _ :: _, h => h.elim
  | _ :: _, [], h => h.elim
  | c :: cs, d :: ds, h => by
    have k := DLL.get h.2
    exact ⟨congrArg Nat.succ k.1, fun j => match j with
      | 0 => h.1
      | j + 1 => k.2 j⟩
theorem DLe.rowL {n : Nat} {f g : Nat → List Dyn.DC} (h : ∀ i, i < n → DLL (f i) (g i)) : DLe (.row n f) (.row n g) := .row n f g (fun i hi => (h i hi).get.1) (fun i j hi _ => (h i hi).get.2 j)
def DVd : Dyn.DV → Dyn.DV → Prop
  | .one c, .one d => DLe c d
  | .agg cs, .agg ds => DLL cs ds
  | _, _ => False
theorem DVd.refl : ∀ v, DVd v v
  | .one c => DLe.refl c
  | .agg cs => DLL.refl cs
theorem DVd.den {w : World} {F : Nat → Prop} : ∀ {c d : Dyn.DV} {u : Value}, DVd c d → Dyn.DenV w F c u → Dyn.DenV w F d u
  | .one _, .one _, _, h, k => DLe.den h k
  | .agg _, .agg _, _, h, ⟨us, e, k⟩ => ⟨us, e, DLL.den h k⟩
  | .one _, .agg _, _, h, _ => h.elim
  | .agg _, .one _, _, h, _ => h.elim
/-- a contract, told of a first argument that shows the same -/
theorem CallD_d1 {P : Program} {K : Nat} {v v' : Dyn.DV} {l : List Dyn.DV} {r : Dyn.RV} (h : DVd v v') (k : Dyn.CallD P K (v' :: l) r) : Dyn.CallD P K (v :: l) r := fun w F us hF hd => k w F us hF (by
  cases us with
  | nil => exact hd
  | cons u us => exact ⟨DVd.den h hd.1, hd.2⟩)
theorem CallD_d2 {P : Program} {K : Nat} {v v' w w' : Dyn.DV} {l : List Dyn.DV} {r : Dyn.RV} (h : DVd v v') (h2 : DVd w w') (k : Dyn.CallD P K (v' :: w' :: l) r) : Dyn.CallD P K (v :: w :: l) r := fun ww F us hF hd => k ww F us hF (by
  cases us with
  | nil => exact hd
  | cons u us => exact (by
    cases us with
    | nil => exact ⟨DVd.den h hd.1, hd.2⟩
    | cons u2 us => exact ⟨DVd.den h hd.1, DVd.den h2 hd.2.1, hd.2.2⟩))
end Go.Proofs.Ytfooaikpcbnchaa

/-! ## Dle -/
namespace Go.Proofs.Ytfooaikpcbnchaa
open Go Go.RowKit Sym
set_option maxRecDepth 100000

end Go.Proofs.Ytfooaikpcbnchaa

/-! ## Bou -/
namespace Go.Proofs.Ytfooaikpcbnchaa
open Go Go.RowKit Sym
set_option maxRecDepth 100000

def ruM (a : Int × Int) : Int := W ((W (a.1 + a.2)).tdiv 2)
def ruStep (v : Int) (a : Int × Int) : Int × Int := (bif decide (W (ruM a * ruM a) ≥ v) then a.1 else W (ruM a + 1), bif decide (W (ruM a * ruM a) ≥ v) then ruM a else a.2)
def ruG (v : Int) (_ : Nat) (a : Int × Int) : Int × Int := ruStep v a
def ruCnt (v : Int) : Nat → Int × Int → Nat
  | 0, _ => 0
  | f + 1, a => if a.1 < a.2 then ruCnt v f (ruStep v a) + 1 else 0
def ruA : Int × Int := (0, 2147483648)
def ruN (v : Int) : Nat := ruCnt v 32 ruA
/-- the least whole number whose square is not less than v -/
def rupF (v : Int) : Int := (foldN (ruG v) ruA (ruN v)).1
def ruI (a : Int × Int) : Prop := 0 ≤ a.1 ∧ a.1 ≤ a.2 ∧ a.2 ≤ 2147483648
theorem ruM_eq {a : Int × Int} (h : ruI a) : ruM a = (a.1 + a.2) / 2 := by
  obtain ⟨h1, h2, h3⟩ := h
  unfold ruM
  rw [W_id (x := a.1 + a.2) (by omega) (by omega), Int.tdiv_eq_ediv_of_nonneg (by omega), W_id (by omega) (by omega)]
theorem ru_step {v : Int} {a : Int × Int} (h : ruI a) (hlt : a.1 < a.2) : ruI (ruStep v a) ∧ 2 * ((ruStep v a).2 - (ruStep v a).1) ≤ a.2 - a.1 := by
  have m := ruM_eq h
  obtain ⟨h1, h2, h3⟩ := h
  have w : W (ruM a + 1) = ruM a + 1 := by rw [m]; exact W_id (by omega) (by omega)
  unfold ruStep ruI
  rw [w]
  cases decide (W (ruM a * ruM a) ≥ v)
  · exact ⟨⟨by dsimp only [cond_false]; omega, by dsimp only [cond_false]; omega, by dsimp only [cond_false]; omega⟩, by dsimp only [cond_false]; omega⟩
  · exact ⟨⟨by dsimp only [cond_true]; omega, by dsimp only [cond_true]; omega, by dsimp only [cond_true]; omega⟩, by dsimp only [cond_true]; omega⟩
theorem foldN_ru (v : Int) (a : Int × Int) : ∀ k, foldN (ruG v) a (k + 1) = foldN (ruG v) (ruStep v a) k
  | 0 => rfl
  | k + 1 => by
    show ruG v (k + 1) (foldN (ruG v) a (k + 1)) = ruG v k (foldN (ruG v) (ruStep v a) k)
    rw [foldN_ru v a k]; rfl
theorem ru_run (v : Int) : ∀ (f : Nat) (a : Int × Int), ruI a → a.2 - a.1 < 2 ^ f → (∀ k, k < ruCnt v f a → (foldN (ruG v) a k).1 < (foldN (ruG v) a k).2) ∧ ¬ (foldN (ruG v) a (ruCnt v f a)).1 < (foldN (ruG v) a (ruCnt v f a)).2
  | 0, a, h, hf => by
    refine ⟨fun k hk => absurd hk (Nat.not_lt_zero k), ?_⟩
    show ¬ a.1 < a.2
    have : (2 : Int) ^ 0 = 1 := by decide
    omega
  | f + 1, a, h, hf => by
    by_cases hlt : a.1 < a.2
    · have st := ru_step (v := v) h hlt
      have e : (2 : Int) ^ (f + 1) = 2 * 2 ^ f := by rw [Int.pow_succ, Int.mul_comm]
      have ih := ru_run v f (ruStep v a) st.1 (by omega)
      have c : ruCnt v (f + 1) a = ruCnt v f (ruStep v a) + 1 := by simp only [ruCnt]; rw [if_pos hlt]
      rw [c]
      refine ⟨fun k hk => ?_, ?_⟩
      · cases k with
        | zero => exact hlt
        | succ k => rw [foldN_ru]; exact ih.1 k (by omega)
      · rw [foldN_ru]; exact ih.2
    · have c : ruCnt v (f + 1) a = 0 := by simp only [ruCnt]; rw [if_neg hlt]
      rw [c]
      exact ⟨fun k hk => absurd hk (Nat.not_lt_zero k), hlt⟩
theorem ru_all (v : Int) : (∀ k, k < ruN v → (foldN (ruG v) ruA k).1 < (foldN (ruG v) ruA k).2) ∧ ¬ (foldN (ruG v) ruA (ruN v)).1 < (foldN (ruG v) ruA (ruN v)).2 := ru_run v 32 ruA ⟨by decide, by decide, by decide⟩ (by decide)
def ruS (v : Int) (a : Int × Int) : Dyn.St := mkS 22 [(0, sI v), (2, .k (vi 0)), (3, sI a.1), (4, sI a.2)] []
def ruK : List Nat := [0, 2, 3, 4]
def ruB (v : Int) (a : Int × Int) : Dyn.Out := .ite (decide (a.1 < a.2)) (.leaf .normal (ruS v (ruStep v a))) (.leaf (.exit 0) (ruS v a))
theorem ru_B (v : Int) (a : Int × Int) : (Dyn.lexec Try.prog tabF0 Dyn.noLp 3 (unloopD (blkD Try.f62.body 0)) .leaf (ruS v a)).rl (keepR 22 [] [] ruK [2]) = ruB v a := by kernel_rfl
def ruLp (v : Int) : Dyn.Lp := fun id st => match id with
  | 0 => some (.side [keepA 22 [] [] ruK (2 ^ 3 + 2 ^ 4) st = ruS v ruA] (.leaf .normal (ruS v (foldN (ruG v) ruA (ruN v)))))
  | _ => none
theorem ru_blocks : blocksL (bodyD Try.f62.body) = [(0, .loop (unloopD (blkD Try.f62.body 0))), (1, blkD Try.f62.body 1)] := by kernel_rfl
theorem ru_b0 : blocksL (unloopD (blkD Try.f62.body 0)) = [(1, blkD Try.f62.body 1)] := by kernel_rfl
theorem ru_loop (v : Int) (w0 : Dyn.Base Try.prog) (st : Dyn.St) (o : Dyn.Out) (h : ruLp v 0 st = some o) : Dyn.BlockSound Try.prog w0 0 (.loop (unloopD (blkD Try.f62.body 0))) st o := by
  simp only [ruLp, Option.some.injEq] at h
  subst h
  refine side_one fun hS => ?_
  refine fold_block (fuel := 3) tabF0_ok mo (lp := Dyn.noLp) (by rw [ru_b0]; exact lpOk_cons (fun s o h => by cases h) lpOk_nil) (fun _ a => ruS v a) (ruN v) (ruG v) ruA (keepR 22 [] [] ruK [2]) (keepR_ent 22 _ _ _ _) (fun _ a => ruB v a) (fun _ a => ru_B v a) (fun i hi => ?_) ?_ (hS ▸ keepA_ent 22 _ _ _ _ st)
  · exact ⟨fun _ => ⟨rfl, Dyn.Fits.refl _⟩, fun hf => absurd ((ru_all v).1 i hi) (by simpa using hf)⟩
  · exact ⟨fun ht => absurd (by simpa using ht) (ru_all v).2, fun _ => ⟨rfl, Dyn.Fits.refl _⟩⟩
theorem rootUp_ok (v : Int) : Dyn.CallD Try.prog 62 [dvI v] (rI (rupF v)) :=
  Dyn.dcontract (lp := ruLp v) (fuel := 3) (X := tabF0) tabF0_ok mo Try.func62 (by kernel_rfl) (c := bodyD Try.f62.body) (by kernel_rfl)
    (fun w0 => by rw [ru_blocks]; exact lpOk_cons (ru_loop v w0) (lpOk_cons (fun s o h => by cases h) lpOk_nil))
    (by kernel_rfl) (O := .side [ruS v ruA = ruS v ruA] (.leaf (rI (rupF v)))) (by kernel_rfl) ⟨⟨rfl, trivial⟩, rfl⟩
/-! ### take -/
def tkF (f : Bool) (a b : B4) : B4 := ⟨bif f then imin a.x0 b.x0 else b.x0, bif f then imin a.y0 b.y0 else b.y0, bif f then imax a.x1 b.x1 else b.x1, bif f then imax a.y1 b.y1 else b.y1⟩
def bxV (b : B4) : List Value := [vi b.x0, vi b.y0, vi b.x1, vi b.y1]
def tkL (f : Bool) (a : B4) : Dyn.Lent := [(4, [vb f]), (47, bxV a)]
theorem tk_O (f : Bool) (a b : B4) : (Dyn.dfunX Try.prog tabF0 Dyn.noLp 3 Try.f63 (tkL f a) [.d (dvX b), .lp 0 0, .lp 1 0]).rx Try.prog (tkL f a) Try.f63.results
    = .ite f (.leaf (.tuple ⟨[]⟩) [[vb true], bxV (tkF true a b)]) (.leaf (.tuple ⟨[]⟩) [[vb true], bxV (tkF false a b)]) := by kernel_rfl
theorem take_ok (f : Bool) (a b : B4) : Dyn.CallX Try.prog 63 [.d (dvX b), .lp 0 0, .lp 1 0] (tkL f a) (.tuple ⟨[]⟩) [[vb true], bxV (tkF f a b)] :=
  Dyn.xcontract (lp := Dyn.noLp) (fuel := 3) (X := tabF0) tabF0_ok mo Try.func63 (by kernel_rfl) (c := bodyD Try.f63.body) (by kernel_rfl) (fun w0 => Dyn.noLp_ok _ w0)
    (by kernel_rfl) (by kernel_rfl) (by kernel_rfl) (tk_O f a b) ⟨fun h => by subst h; exact ⟨rfl, rfl⟩, fun h => by subst h; exact ⟨rfl, rfl⟩⟩
def enTk : List Dyn.LA → Dyn.Lent → Option (Value × List (List Value) × List Prop)
  | [.d u, .lp 0 0, .lp 1 0], [(t, [.bool f]), (t2, [.int .i64 x0, .int .i64 y0, .int .i64 x1, .int .i64 y1])] => match aX u, Nat.beq t 4, Nat.beq t2 47 with
    | some b, true, true => some (.tuple ⟨[]⟩, [[vb true], bxV (tkF f ⟨x0, y0, x1, y1⟩ b)], [])
    | _, _, _ => none
  | _, _ => none
theorem CallX_le1 {P : Program} {K : Nat} {u u' : Dyn.DV} {l : List Dyn.LA} {lent : Dyn.Lent} {r : Value} {o : List (List Value)} (h1 : Dyn.DVLe u u') (k : Dyn.CallX P K (.d u' :: l) lent r o) : Dyn.CallX P K (.d u :: l) lent r o := fun w F bs us hF hn hd hl hden => k w F bs us hF hn hd hl (by
  cases us with
  | nil => exact hden
  | cons x us => exact ⟨Dyn.DenV_le h1 hden.1, hden.2⟩)
theorem enTk_ok : Dyn.EntryXOk Try.prog (63, enTk) := fun as' lent u out ps h hp => by
  dsimp only at h
  unfold enTk at h
  split at h
  · rename_i t f t2 x0 y0 x1 y1
    split at h
    · rename_i b hb ht ht2
      have e1 := Nat.eq_of_beq_eq_true ht
      have e2 := Nat.eq_of_beq_eq_true ht2
      subst e1; subst e2
      simp only [Option.some.injEq, Prod.mk.injEq] at h
      obtain ⟨rfl, rfl, rfl⟩ := h
      exact CallX_le1 (aX_eq hb) (take_ok f ⟨x0, y0, x1, y1⟩ b)
    · cases h
  · cases h
def BdOk (x : Sh) (g : Sh → B4 × Bool) : Prop := Dyn.CallD Try.prog 51 [dvS x] (.tup [dvX (g x).1, dvB (g x).2])
def tdBd (Pd : Sh → Prop) (g : Sh → B4 × Bool) : List Dyn.EntryD := [(62, en1D qI fun v => rI (rupF v)), (51, en1D (qAnd qS Pd) fun x => .tup [dvX (g x).1, dvB (g x).2])]
def drBd (K : Nat) : Bool := Nat.beq K 63
def tabBd (Pd : Sh → Prop) (g : Sh → B4 × Bool) : Dyn.Tabs := Dyn.tabsX tbF (tdBd Pd g) [(63, enTk)] drBd dtyS true
theorem tabBd_ok {Pd : Sh → Prop} {g : Sh → B4 × Bool} (ih : ∀ x, Pd x → BdOk x g) : Dyn.TabsOk Try.prog (tabBd Pd g) :=
  Dyn.tabsX_ok tbF_ok (List.forall_mem_cons.2 ⟨en1D_ok qI_ok fun v _ => rootUp_ok v, List.forall_mem_cons.2 ⟨en1D_ok (qAnd_ok qS_ok) fun x h => ih x h.1, fun _ h => by cases h⟩⟩) (List.forall_mem_cons.2 ⟨enTk_ok, fun _ h => by cases h⟩)
def bdQ : Bool × B4 := (false, ⟨0, 0, 0, 0⟩)
def bdI (l : Ctr) (i k : Nat) (q : Bool × B4) : Bool × B4 := (true, tkF q.1 q.2 (aroundF (l.p i k) (l.p i k) 0))
def bdO (l : Ctr) (i : Nat) (q : Bool × B4) : Bool × B4 := foldN (bdI l i) q (l.m i)
def bdP (g : Sh → B4 × Bool) (sh : Nat → Sh) (add : Nat → Bool) (i : Nat) (q : Bool × B4) : Bool × B4 := bif !(add i) then q else bif (g (sh i)).2 then (true, tkF q.1 q.2 (g (sh i)).1) else q
def sFn : Dyn.SV := .v (.func (.func 63) ⟨[]⟩ ⟨[.pointer (some ⟨4, 0, none⟩), .pointer (some ⟨3, 0, none⟩)]⟩)
def bdH (s : Sh) (q : Bool × B4) : List (Option Dyn.HE) := [some (.deep (cS s)), some (.cells 29 (shV 0 8 s)), some (.cells 47 [vi 0, vi 0, vi 0, vi 0]), some (.cells 47 (bxV q.2)), some (.cells 4 [vb q.1])]
def bdL : List (Nat × Dyn.SV) := [(1, sL 1), (2, sL 2), (3, .k (vb false)), (6, sL 3), (7, sL 4), (8, sFn)]
def bdS (s : Sh) (q : Bool × B4) (i : Int) : Dyn.St := mkS 114 (bdL ++ [(72, sH 0 8 s.l.n), (73, sI s.l.n), (74, sI i)]) (bdH s q)
def bdT (s : Sh) (q : Bool × B4) (i j : Int) : Dyn.St := mkS 114 (bdL ++ [(10, sH 5 0 (s.l.m i.toNat)), (72, sH 0 8 s.l.n), (73, sI s.l.n), (74, sI i), (78, sH 5 0 (s.l.m i.toNat)), (79, sI (s.l.m i.toNat)), (80, sI j)]) (bdH s q ++ [some (.deep [cRow (s.l.m i.toNat) (s.l.p i.toNat)])])
def bdU (s : Sh) (q : Bool × B4) (i : Int) : Dyn.St := mkS 114 (bdL ++ [(92, sH 0 9 s.n), (93, sI s.n), (94, sI i)]) (bdH s q)
def bdK0 : List Nat := [1, 2, 3, 6, 7, 8, 72, 73, 74]
def bdK1 : List Nat := [1, 2, 3, 6, 7, 8, 10, 72, 73, 74, 78, 79, 80]
def bdK2 : List Nat := [1, 2, 3, 6, 7, 8, 92, 93, 94]
def accB (st : Dyn.St) : Bool × B4 := match st.heap.getD 3 none, st.heap.getD 4 none with
  | some (.cells _ [.int _ x0, .int _ y0, .int _ x1, .int _ y1]), some (.cells _ [.bool f]) => (f, ⟨x0, y0, x1, y1⟩)
  | _, _ => bdQ
def bdLp (g : Sh → B4 × Bool) (sh : Nat → Sh) (add : Nat → Bool) (s : Sh) : Dyn.Lp := fun id st => match id with
  | 1 => some (.side [keepA 114 [0, 1, 2, 4, 5] [] bdK0 (2 ^ 74) st = bdS s bdQ 0] (.leaf .normal (bdS s (foldN (bdO s.l) bdQ s.l.n) s.l.n)))
  | 3 =>
    let q := accB st
    let i := intD (st.slots.getD 74 .junk)
    some (.side [keepA 114 [0, 1, 2, 3, 4] [10] bdK1 (2 ^ 80) st = bdT s q i 0, 0 ≤ i ∧ i < s.l.n] (.leaf .normal (bdT s (bdO s.l i.toNat q) i (s.l.m i.toNat))))
  | 5 =>
    let q := accB st
    some (.side [keepA 114 [0, 1, 2, 3, 4] [] bdK2 (2 ^ 94) st = bdU s q 0] (.leaf .normal (bdU s (foldN (bdP g sh add) q s.n) s.n)))
  | _ => none
def bdBi (s : Sh) (q : Bool × B4) (i j : Nat) : Dyn.Out :=
  .ite (decide ((j : Int) < s.l.m i)) (.side [0 ≤ (j : Int) ∧ (j : Int) < s.l.m i] (.leaf .normal (bdT s (bdI s.l i j q) i (W (j + 1))))) (.leaf (.exit 3) (bdT s q i j))
def bdBo (s : Sh) (q : Bool × B4) (i : Nat) : Dyn.Out :=
  .ite (decide ((i : Int) < s.l.n)) (.side [0 ≤ (i : Int) ∧ (i : Int) < s.l.n] (.side [bdT s q i 0 = bdT s q i 0, 0 ≤ (i : Int) ∧ (i : Int) < s.l.n] (.leaf .normal (bdS s (bdO s.l i q) (W (i + 1)))))) (.leaf (.exit 1) (bdS s q i))
def bdBp (Pd : Sh → Prop) (g : Sh → B4 × Bool) (sh : Nat → Sh) (add : Nat → Bool) (s : Sh) (q : Bool × B4) (i : Nat) : Dyn.Out :=
  .ite (decide ((i : Int) < s.n)) (.side [0 ≤ (i : Int) ∧ (i : Int) < s.n] (.ite (!(add i)) (.leaf .normal (bdU s q (W (i + 1)))) (.side [Pd (sh i), ctrSelf (sh i).l] (.ite (g (sh i)).2 (.leaf .normal (bdU s (true, tkF q.1 q.2 (g (sh i)).1) (W (i + 1)))) (.leaf .normal (bdU s q (W (i + 1)))))))) (.leaf (.exit 5) (bdU s q i))
theorem bd_Bi (Pd : Sh → Prop) (g : Sh → B4 × Bool) (sh : Nat → Sh) (add : Nat → Bool) (s : Sh) (q : Bool × B4) (i j : Nat) : (Dyn.lexec Try.prog (tabBd Pd g) (bdLp g sh add s) 3 (unloopD (blkD Try.f51.body 3)) .leaf (bdT s q i j)).rl (keepR 114 [0, 1, 2, 3, 4] [10] bdK1 []) = bdBi s q i j := by kernel_rfl
theorem bd_Bo (Pd : Sh → Prop) (g : Sh → B4 × Bool) (sh : Nat → Sh) (add : Nat → Bool) (s : Sh) (q : Bool × B4) (i : Nat) : (Dyn.lexec Try.prog (tabBd Pd g) (bdLp g sh add s) 3 (unloopD (blkD Try.f51.body 1)) .leaf (bdS s q i)).rl (keepR 114 [0, 1, 2, 3, 4] [] bdK0 []) = bdBo s q i := by kernel_rfl
theorem bd_Bp (Pd : Sh → Prop) (g : Sh → B4 × Bool) (k : Int) (a b c : P2) (r : Int) (l : Ctr) (n : Nat) (add : Nat → Bool) (sh : Nat → Sh) (q : Bool × B4) (i : Nat) : (Dyn.lexec Try.prog (tabBd Pd g) (bdLp g sh add (mkSh k a b c r l n add sh)) 3 (unloopD (blkD Try.f51.body 5)) .leaf (bdU (mkSh k a b c r l n add sh) q i)).rl (keepR 114 [0, 1, 2, 3, 4] [] bdK2 []) = bdBp Pd g sh add (mkSh k a b c r l n add sh) q i := by kernel_rfl
theorem bd_blocks : blocksL (bodyD Try.f51.body) = [(0, blkD Try.f51.body 0), (1, .loop (unloopD (blkD Try.f51.body 1))), (2, blkD Try.f51.body 2), (3, .loop (unloopD (blkD Try.f51.body 3))), (4, blkD Try.f51.body 4), (5, .loop (unloopD (blkD Try.f51.body 5))), (6, blkD Try.f51.body 6)] := by kernel_rfl
theorem bd_b1 : blocksL (unloopD (blkD Try.f51.body 1)) = [(2, blkD Try.f51.body 2), (3, .loop (unloopD (blkD Try.f51.body 3))), (4, blkD Try.f51.body 4)] := by kernel_rfl
theorem bd_b3 : blocksL (unloopD (blkD Try.f51.body 3)) = [(4, blkD Try.f51.body 4)] := by kernel_rfl
theorem bd_b5 : blocksL (unloopD (blkD Try.f51.body 5)) = [(6, blkD Try.f51.body 6)] := by kernel_rfl
theorem bd_inner {Pd : Sh → Prop} {g : Sh → B4 × Bool} (ih : ∀ x, Pd x → BdOk x g) (sh : Nat → Sh) (add : Nat → Bool) (s : Sh) (hl : CtrB s.l) (w0 : Dyn.Base Try.prog) (st : Dyn.St) (o : Dyn.Out)
    (h : bdLp g sh add s 3 st = some o) : Dyn.BlockSound Try.prog w0 3 (.loop (unloopD (blkD Try.f51.body 3))) st o := by
  simp only [bdLp, Option.some.injEq] at h
  subst h
  refine side_two fun hS hi => ?_
  revert hS hi
  generalize intD (st.slots.getD 74 .junk) = i'
  generalize accB st = q
  intro hS hi
  obtain ⟨i, rfl⟩ : ∃ i : Nat, i' = (i : Int) := ⟨i'.toNat, by omega⟩
  have hm : s.l.m i ≤ 1000000000 := hl.2 i (by omega)
  refine fold_block (fuel := 3) (tabBd_ok ih) mo (lp := bdLp g sh add s) (by rw [bd_b3]; exact lpOk_cons (fun s o h => by cases h) lpOk_nil) (fun j q => bdT s q i j) (s.l.m i) (bdI s.l i) q (keepR 114 [0, 1, 2, 3, 4] [10] bdK1 []) (keepR_ent 114 _ _ _ _) (fun j q => bdBi s q i j) (fun j q => bd_Bi Pd g sh add s q i j) (fun j hj => ?_) ?_ (hS ▸ keepA_ent 114 _ _ _ _ st)
  · refine ⟨fun _ => ⟨⟨⟨by omega, by omega⟩, trivial⟩, rfl, ?_⟩, fun hf => ?_⟩
    · rw [Wn1 hj hm]; exact Dyn.Fits.refl _
    · rw [decide_eq_false_iff_not] at hf; omega
  · refine ⟨fun ht => ?_, fun _ => ⟨rfl, Dyn.Fits.refl _⟩⟩
    rw [decide_eq_true_eq] at ht; omega
theorem bd_outer {Pd : Sh → Prop} {g : Sh → B4 × Bool} (ih : ∀ x, Pd x → BdOk x g) (sh : Nat → Sh) (add : Nat → Bool) (s : Sh) (hl : CtrB s.l) (w0 : Dyn.Base Try.prog) (st : Dyn.St) (o : Dyn.Out)
    (h : bdLp g sh add s 1 st = some o) : Dyn.BlockSound Try.prog w0 1 (.loop (unloopD (blkD Try.f51.body 1))) st o := by
  simp only [bdLp, Option.some.injEq] at h
  subst h
  refine side_one fun hS => ?_
  refine fold_block (fuel := 3) (tabBd_ok ih) mo (lp := bdLp g sh add s) (by rw [bd_b1]; exact lpOk_cons (fun s o h => by cases h) (lpOk_cons (bd_inner ih sh add s hl w0) (lpOk_cons (fun s o h => by cases h) lpOk_nil))) (fun i q => bdS s q i) s.l.n (bdO s.l) bdQ (keepR 114 [0, 1, 2, 3, 4] [] bdK0 []) (keepR_ent 114 _ _ _ _) (fun i q => bdBo s q i) (fun i q => bd_Bo Pd g sh add s q i) (fun i hi => ?_) ?_ (hS ▸ keepA_ent 114 _ _ _ _ st)
  · have hb : 0 ≤ (i : Int) ∧ (i : Int) < s.l.n := ⟨by omega, by omega⟩
    refine ⟨fun _ => ⟨⟨hb, trivial⟩, ⟨rfl, hb, trivial⟩, rfl, ?_⟩, fun hf => ?_⟩
    · rw [Wn1 hi hl.1]; exact Dyn.Fits.refl _
    · rw [decide_eq_false_iff_not] at hf; omega
  · refine ⟨fun ht => ?_, fun _ => ⟨rfl, Dyn.Fits.refl _⟩⟩
    rw [decide_eq_true_eq] at ht; omega
theorem bd_parts {Pd : Sh → Prop} {g : Sh → B4 × Bool} (ih : ∀ x, Pd x → BdOk x g) (k : Int) (a b c : P2) (r : Int) (l : Ctr) (n : Nat) (add : Nat → Bool) (sh : Nat → Sh) (hn : n ≤ 1000000000) (hP : ∀ i, i < n → Pd (sh i)) (w0 : Dyn.Base Try.prog) (st : Dyn.St) (o : Dyn.Out)
    (h : bdLp g sh add (mkSh k a b c r l n add sh) 5 st = some o) : Dyn.BlockSound Try.prog w0 5 (.loop (unloopD (blkD Try.f51.body 5))) st o := by
  simp only [bdLp, Option.some.injEq] at h
  subst h
  refine side_one fun hS => ?_
  revert hS
  generalize accB st = q0
  intro hS
  refine fold_block (fuel := 3) (tabBd_ok ih) mo (lp := bdLp g sh add (mkSh k a b c r l n add sh)) (by rw [bd_b5]; exact lpOk_cons (fun s o h => by cases h) lpOk_nil) (fun i q => bdU (mkSh k a b c r l n add sh) q i) n (bdP g sh add) q0 (keepR 114 [0, 1, 2, 3, 4] [] bdK2 []) (keepR_ent 114 _ _ _ _) (fun i q => bdBp Pd g sh add (mkSh k a b c r l n add sh) q i) (fun i q => bd_Bp Pd g k a b c r l n add sh q i) (fun i hi => ?_) ?_ (hS ▸ keepA_ent 114 _ _ _ _ st)
  · have hb : 0 ≤ (i : Int) ∧ (i : Int) < (n : Int) := ⟨by omega, by omega⟩
    generalize foldN (bdP g sh add) q0 i = q
    unfold bdP
    refine ⟨fun _ => ⟨⟨hb, trivial⟩, fun hx => ⟨rfl, ?_⟩, fun hx => ⟨⟨hP i hi, ctrSelf_ok _, trivial⟩, fun hy => ⟨rfl, ?_⟩, fun hy => ⟨rfl, ?_⟩⟩⟩, fun hf => ?_⟩
    · rw [Wn1 hi hn, hx]; exact Dyn.Fits.refl _
    · rw [Wn1 hi hn, hx, hy]; exact Dyn.Fits.refl _
    · rw [Wn1 hi hn, hx, hy]; exact Dyn.Fits.refl _
    · rw [decide_eq_false_iff_not] at hf
      exact absurd hb.2 hf
  · refine ⟨fun ht => ?_, fun _ => ⟨rfl, Dyn.Fits.refl _⟩⟩
    rw [decide_eq_true_eq] at ht
    exact absurd (show (n : Int) < (n : Int) from ht) (by omega)
def bdR (s : Sh) : Int := W (s.r + rupF (W (W (W (s.a.x - s.c.x) * W (s.a.x - s.c.x)) + W (W (s.a.y - s.c.y) * W (s.a.y - s.c.y)))))
def bdAll (g : Sh → B4 × Bool) (sh : Nat → Sh) (add : Nat → Bool) (s : Sh) : Bool × B4 := foldN (bdP g sh add) (foldN (bdO s.l) bdQ s.l.n) s.n
def bdOO (g : Sh → B4 × Bool) (sh : Nat → Sh) (add : Nat → Bool) (s : Sh) : Dyn.RO :=
  .ite (s.k == 1) (.leaf (.tup [dvX (aroundF s.a s.a s.r), dvB true]))
  (.ite (bif s.k == 3 then s.k == 3 else s.k == 4) (.leaf (.tup [dvX (aroundF s.a s.b s.r), dvB true]))
  (.ite (s.k == 5) (.leaf (.tup [dvX (aroundF s.c s.c (bdR s)), dvB true]))
  (.side [bdS s bdQ 0 = bdS s bdQ 0] (.side [bdU s (foldN (bdO s.l) bdQ s.l.n) 0 = bdU s (foldN (bdO s.l) bdQ s.l.n) 0] (.leaf (.tup [dvX (bdAll g sh add s).2, dvB (bdAll g sh add s).1]))))))
theorem bd_OO (Pd : Sh → Prop) (g : Sh → B4 × Bool) (sh : Nat → Sh) (add : Nat → Bool) (s : Sh) : (Dyn.dfun Try.prog (tabBd Pd g) (bdLp g sh add s) 3 Try.f51 [dvS s]).ro Try.prog Try.f51.results = bdOO g sh add s := by kernel_rfl
def boundsG (g : Sh → B4 × Bool) (sh : Nat → Sh) (add : Nat → Bool) (s : Sh) : B4 × Bool :=
  bif s.k == 1 then (aroundF s.a s.a s.r, true) else bif bif s.k == 3 then s.k == 3 else s.k == 4 then (aroundF s.a s.b s.r, true) else bif s.k == 5 then (aroundF s.c s.c (bdR s), true) else ((bdAll g sh add s).2, (bdAll g sh add s).1)
theorem bd_sat (g : Sh → B4 × Bool) (sh : Nat → Sh) (add : Nat → Bool) (s : Sh) : (bdOO g sh add s).sat fun r => Dyn.RVLe r (.tup [dvX (boundsG g sh add s).1, dvB (boundsG g sh add s).2]) := by
  unfold boundsG
  refine ⟨fun h => ?_, fun h => ⟨fun h2 => ?_, fun h2 => ⟨fun h3 => ?_, fun h3 => ⟨⟨rfl, trivial⟩, ⟨rfl, trivial⟩, ?_⟩⟩⟩⟩
  · rw [h]; exact ⟨Dyn.DVLe.refl _, rfl, trivial⟩
  · rw [h, h2]; exact ⟨Dyn.DVLe.refl _, rfl, trivial⟩
  · rw [h, h2, h3]; exact ⟨Dyn.DVLe.refl _, rfl, trivial⟩
  · rw [h, h2, h3]; exact ⟨Dyn.DVLe.refl _, Dyn.DVLe.refl _, trivial⟩
theorem bounds_lvl {Pd : Sh → Prop} {g : Sh → B4 × Bool} (ih : ∀ x, Pd x → BdOk x g) (k : Int) (a b c : P2) (r : Int) (l : Ctr) (n : Nat) (add : Nat → Bool) (sh : Nat → Sh) (hl : CtrB l) (hn : n ≤ 1000000000) (hP : ∀ i, i < n → Pd (sh i)) :
    Dyn.CallD Try.prog 51 [dvS (mkSh k a b c r l n add sh)] (.tup [dvX (boundsG g sh add (mkSh k a b c r l n add sh)).1, dvB (boundsG g sh add (mkSh k a b c r l n add sh)).2]) :=
  Dyn.dcontract (lp := bdLp g sh add (mkSh k a b c r l n add sh)) (fuel := 3) (tabBd_ok ih) mo Try.func51 (by kernel_rfl) (c := bodyD Try.f51.body) (by kernel_rfl)
    (fun w0 => by
      rw [bd_blocks]
      exact lpOk_cons (fun s o h => by cases h) (lpOk_cons (bd_outer ih sh add _ hl w0) (lpOk_cons (fun s o h => by cases h) (lpOk_cons (bd_inner ih sh add _ hl w0) (lpOk_cons (fun s o h => by cases h) (lpOk_cons (bd_parts ih k a b c r l n add sh hn hP w0) (lpOk_cons (fun s o h => by cases h) lpOk_nil)))))))
    (by kernel_rfl) (bd_OO Pd g sh add _) (bd_sat g sh add (mkSh k a b c r l n add sh))
/-- bounds, all the way down -/
def bndF : Shp → B4 × Bool
  | .nil => (⟨0, 0, 0, 0⟩, false)
  | .mk k a b c r l n add sub =>
    bif k == 1 then (aroundF a a r, true) else bif bif k == 3 then k == 3 else k == 4 then (aroundF a b r, true) else bif k == 5 then (aroundF c c (bdR ⟨k, a, b, c, r, l, n, noF⟩), true) else
    ((foldN (fun i q => bif !(add i) then q else bif (bndF (sub i)).2 then (true, tkF q.1 q.2 (bndF (sub i)).1) else q) (foldN (bdO l) bdQ l.n) n).2, (foldN (fun i q => bif !(add i) then q else bif (bndF (sub i)).2 then (true, tkF q.1 q.2 (bndF (sub i)).1) else q) (foldN (bdO l) bdQ l.n) n).1)
noncomputable def bndE (x : Sh) : B4 × Bool := bndF (ofSh x)
theorem bndE_eq (s : Shp) : bndE (toSh s) = bndF s := by unfold bndE; rw [ofSh_toSh]
theorem bndF_lvl (k : Int) (a b c : P2) (r : Int) (l : Ctr) (n : Nat) (add : Nat → Bool) (sub : Nat → Shp) : bndF (.mk k a b c r l n add sub) = boundsG bndE (fun i => toSh (sub i)) add (mkSh k a b c r l n add (fun i => toSh (sub i))) := by
  unfold boundsG bdAll bdP
  simp only [bndE_eq]
  rfl
theorem bnd_ok : ∀ s : Shp, ShB s → BdOk (toSh s) bndE := by
  intro s
  induction s with
  | nil => intro h; exact h.elim
  | mk k a b c r l n add sub ih =>
    intro h
    unfold BdOk
    rw [bndE_eq, bndF_lvl]
    exact bounds_lvl (Pd := fun x => ∃ i, i < n ∧ x = toSh (sub i)) (fun x hx => by
      obtain ⟨i, hi, rfl⟩ := hx
      exact ih i (h.2.2 i hi)) k a b c r l n add (fun i => toSh (sub i)) h.1 h.2.1 (fun i hi => ⟨i, hi, rfl⟩)
theorem bnd_all : ∀ x, PdS x → BdOk x bndE := fun x hx => by
  have k := bnd_ok _ hx.1
  unfold BdOk at k
  rw [show bndE (toSh (ofSh x)) = bndE x by unfold bndE; rw [ofSh_toSh]] at k
  exact CallD_le (args := [dvS (toSh (ofSh x))]) ⟨SLe.dv hx.2, trivial⟩ k
noncomputable def figBnd (x : Sh) : B4 × Bool := bif okE x then bndE x else (⟨0, 0, 0, 0⟩, false)
noncomputable def tdBb : List Dyn.EntryD := [(48, en1D (qAnd qS PdS) fun x => rB (okE x)), (51, en1D (qAnd qS PdS) fun x => .tup [dvX (bndE x).1, dvB (bndE x).2])]
noncomputable def tabBb : Dyn.Tabs := Dyn.tabs tbF tdBb noD dtyS
theorem tabBb_ok : Dyn.TabsOk Try.prog tabBb := Dyn.tabs_ok tbF_ok (List.forall_mem_cons.2 ⟨en1D_ok (qAnd_ok qS_ok) fun x h => figOk_ok x h.1, List.forall_mem_cons.2 ⟨en1D_ok (qAnd_ok qS_ok) fun x h => bnd_all x h.1, fun _ h => by cases h⟩⟩)
noncomputable def bbO (x : Sh) : Dyn.RO := .side [PdS x, ctrSelf x.l] (.ite (!(okE x)) (.leaf (.tup [dvX ⟨0, 0, 0, 0⟩, dvB false])) (.side [PdS x, ctrSelf x.l] (.leaf (.tup [dvX (bndE x).1, dvB (bndE x).2]))))
theorem bb_O (x : Sh) : (Dyn.dfun Try.prog tabBb Dyn.noLp 3 Try.f25 [dvS x]).ro Try.prog Try.f25.results = bbO x := by kernel_rfl
theorem figBnd_ok (x : Sh) (h : PdS x) : Dyn.CallD Try.prog 25 [dvS x] (.tup [dvX (figBnd x).1, dvB (figBnd x).2]) :=
  Dyn.dcontract (lp := Dyn.noLp) (fuel := 3) tabBb_ok mo Try.func25 (by kernel_rfl) (c := bodyD Try.f25.body) (by kernel_rfl) (fun w0 => Dyn.noLp_ok _ w0) (by kernel_rfl) (bb_O x) (by
    unfold figBnd
    refine ⟨⟨h, ctrSelf_ok _, trivial⟩, fun h1 => ?_, fun h1 => ⟨⟨h, ctrSelf_ok _, trivial⟩, ?_⟩⟩
    · rw [show okE x = false by simpa using h1]; exact ⟨Dyn.DVLe.refl _, rfl, trivial⟩
    · rw [show okE x = true by simpa using h1]; exact ⟨Dyn.DVLe.refl _, Dyn.DVLe.refl _, trivial⟩)
end Go.Proofs.Ytfooaikpcbnchaa

/-! ## Awt -/
namespace Go.Proofs.Ytfooaikpcbnchaa
open Go Go.RowKit Sym
set_option maxRecDepth 100000

end Go.Proofs.Ytfooaikpcbnchaa

/-! ## Cnt -/
namespace Go.Proofs.Ytfooaikpcbnchaa
open Go Go.RowKit Sym
set_option maxRecDepth 100000

end Go.Proofs.Ytfooaikpcbnchaa

/-! ## Ctt -/
namespace Go.Proofs.Ytfooaikpcbnchaa
open Go Go.RowKit Sym

inductive Pln where
  | lf
  | it (p q : Pln)
  | tt (p : Pln)
  | ff (p : Pln)
def cutP : Dyn.RO → Pln → Option Dyn.RO
  | .side ps x, p => match cutP x p with
    | some x' => some (.side ps x')
    | none => none
  | .leaf r, .lf => some (.leaf r)
  | .ite b x y, .it p q => match cutP x p, cutP y q with
    | some x', some y' => some (.ite b x' y')
    | _, _ => none
  | .ite b x y, .tt p => match b with
    | true => cutP x p
    | false => none
  | .ite b x y, .ff p => match b with
    | true => none
    | false => cutP y p
  | _, _ => none
theorem cutP_sat {Q : Dyn.RV → Prop} : ∀ {o : Dyn.RO} {p : Pln} {o' : Dyn.RO}, cutP o p = some o' → o'.sat Q → o.sat Q := by
  intro o
  induction o with
  | leaf r =>
    intro p o' h k
    cases p <;> simp only [cutP, Option.some.injEq, reduceCtorEq] at h
    subst h; exact k
  | fail => intro p o' h k; simp only [cutP, reduceCtorEq] at h
  | side ps x ih =>
    intro p o' h k
    simp only [cutP] at h
    split at h
    · rename_i x' hx
      simp only [Option.some.injEq] at h; subst h
      exact ⟨k.1, ih hx k.2⟩
    · cases h
  | ite b x y ihx ihy =>
    intro p o' h k
    cases p with
    | lf => simp only [cutP, reduceCtorEq] at h
    | it p q =>
      simp only [cutP] at h
      split at h
      · rename_i x' y' hx hy
        simp only [Option.some.injEq] at h; subst h
        exact ⟨fun hb => ihx hx (k.1 hb), fun hb => ihy hy (k.2 hb)⟩
      · cases h
    | tt p =>
      cases b with
      | true => exact ⟨fun _ => ihx h k, fun e => (by cases e)⟩
      | false => cases h
    | ff p =>
      cases b with
      | true => cases h
      | false => exact ⟨fun e => (by cases e), fun _ => ihy h k⟩
/-- a contract of which some branches are dead -/
theorem dcontractC {P : Program} {X : Dyn.Tabs} {lp : Dyn.Lp} (ht : Dyn.TabsOk P X) (hm : P.follows .mixedOrders = true) {K : Nat} {fn : Func} (hf : P.funcs[K]? = some fn) (hn : (fn.name == "runtime.NumGoroutine") = false) {c : Code} (hb : fn.body = some c) (hl : ∀ w0 : Dyn.Base P, Dyn.LpOk P w0 lp (blocksL c)) {fuel : Nat} {args : List Dyn.DV} {r : Dyn.RV} (p : Pln) (o' : Dyn.RO)
    (hp : Dyn.pOks args = true) (hO : cutP ((Dyn.dfun P X lp fuel fn args).ro P fn.results) p = some o') (hs : o'.sat fun r' => Dyn.RVLe r' r) : Dyn.CallD P K args r :=
  Dyn.dcontract (fuel := fuel) ht hm hf hn hb hl hp rfl (cutP_sat hO hs)
theorem leafR {r r' : Dyn.RV} (h : r = r') : (Dyn.RO.leaf r).sat (fun q => Dyn.RVLe q r') := by subst h; exact Dyn.RVLe.refl _
end Go.Proofs.Ytfooaikpcbnchaa

/-! ## Pie -/
namespace Go.Proofs.Ytfooaikpcbnchaa
open Go Go.RowKit Sym
set_option maxRecDepth 100000

def nilF0 : Nat → List Dyn.DC := fun _ => []
/-! ### a disc around (0, 0), as it is written -/
def dC (r : Int) : List Dyn.DC := [cI 1, cI 0, cI 0, cI 0, cI 0, cI 0, cI 0, cI r, .row 0 noF, .row 0 noF]
def dvDc (r : Int) : Dyn.DV := .agg (dC r)
noncomputable def tabD0 : Dyn.Tabs := Dyn.tabs tbF [] noD dtyS
theorem tabD0_ok : Dyn.TabsOk Try.prog tabD0 := Dyn.tabs_ok tbF_ok (fun _ h => by cases h)
theorem cpD_ok : Dyn.CallD Try.prog 56 [.one (.row 0 noF)] (rI 0) :=
  dcontractC (lp := Dyn.noLp) (fuel := 2) tabD0_ok mo Try.func56 (by kernel_rfl) (c := bodyD Try.f56.body) (by kernel_rfl) (fun w0 => Dyn.noLp_ok _ w0) (.tt .lf) (.leaf (rI 0)) rfl (by kernel_rfl) (leafR rfl)
def discS (r : Int) : Shp := leafS 1 ze ze ze r zeC
theorem dC_le (r : Int) : DLL (dC r) (cS (toSh (discS r))) := ⟨.refl _, .refl _, .refl _, .refl _, .refl _, .refl _, .refl _, .refl _, DLe.rowL fun i hi => absurd hi (Nat.not_lt_zero i), DLe.rowL fun i hi => absurd hi (Nat.not_lt_zero i), trivial⟩
def dD : List Dyn.DC → Option (Int × List Prop)
  | [.p (.int .i64 k), .p (.int .i64 a), .p (.int .i64 b), .p (.int .i64 c), .p (.int .i64 d), .p (.int .i64 e), .p (.int .i64 f), .p (.int .i64 r), .row nl _, .row n _] => some (r, [k = 1 ∧ a = 0 ∧ b = 0 ∧ c = 0 ∧ d = 0 ∧ e = 0 ∧ f = 0 ∧ nl = 0 ∧ n = 0])
  | _ => none
theorem dD_le {l : List Dyn.DC} {r : Int} {ps : List Prop} (h : dD l = some (r, ps)) (hp : allP ps) : DVd (.agg l) (dvDc r) := by
  unfold dD at h
  split at h
  · simp only [Option.some.injEq, Prod.mk.injEq] at h
    obtain ⟨rfl, rfl⟩ := h
    obtain ⟨⟨rfl, rfl, rfl, rfl, rfl, rfl, rfl, rfl, rfl⟩, -⟩ := hp
    exact ⟨.refl _, .refl _, .refl _, .refl _, .refl _, .refl _, .refl _, .refl _, DLe.rowL fun i hi => absurd hi (Nat.not_lt_zero i), DLe.rowL fun i hi => absurd hi (Nat.not_lt_zero i), trivial⟩
  · cases h
/-- an entry for discs around (0, 0) -/
def enDc (K : Nat) (F : Int → Dyn.RV) (q : Int → Prop) : Dyn.EntryD := (K, fun args => match args with
  | [.agg l] => match dD l with
    | some (r, ps) => some (F r, q r :: ps)
    | none => none
  | _ => none)
theorem enDc_ok {P : Program} {K : Nat} {F : Int → Dyn.RV} {q : Int → Prop} (h : ∀ r, q r → Dyn.CallD P K [dvDc r] (F r)) : Dyn.EntryDOk P (enDc K F q) := fun args r ps h1 hp => by
  unfold enDc at h1
  dsimp only at h1
  split at h1
  · split at h1
    · rename_i l r' ps' hd
      simp only [Option.some.injEq, Prod.mk.injEq] at h1
      obtain ⟨rfl, rfl⟩ := h1
      exact CallD_d1 (dD_le hd hp.2) (h r' hp.1)
    · cases h1
  · cases h1
def enCp0 : Dyn.EntryD := (56, fun args => match args with
  | [.one (.row n f)] => some (rI 0, [n = 0])
  | _ => none)
theorem row0_le {P : Program} {K n : Nat} {f g : Nat → List Dyn.DC} {r : Dyn.RV} (hn : n = 0) (h : Dyn.CallD P K [.one (.row 0 g)] r) : Dyn.CallD P K [.one (.row n f)] r := by
  subst hn
  exact CallD_le (args := [.one (.row 0 g)]) ⟨⟨rfl, fun i hi => absurd hi (Nat.not_lt_zero i)⟩, trivial⟩ h
theorem enCp0_ok : Dyn.EntryDOk Try.prog enCp0 := fun args r ps h hp => by
  unfold enCp0 at h
  dsimp only at h
  split at h
  · simp only [Option.some.injEq, Prod.mk.injEq] at h
    obtain ⟨rfl, rfl⟩ := h
    exact row0_le hp.1 cpD_ok
  · cases h
noncomputable def tabD1 : Dyn.Tabs := Dyn.tabs tbF [enCp0] noD dtyS
theorem tabD1_ok : Dyn.TabsOk Try.prog tabD1 := Dyn.tabs_ok tbF_ok (List.forall_mem_cons.2 ⟨enCp0_ok, fun _ h => by cases h⟩)
theorem ctDc_ok (r : Int) : Dyn.CallD Try.prog 35 [dvDc r] (rI 1) :=
  Dyn.dcontract (lp := Dyn.noLp) (fuel := 2) tabD1_ok mo Try.func35 (by kernel_rfl) (c := bodyD Try.f35.body) (by kernel_rfl) (fun w0 => Dyn.noLp_ok _ w0) (by kernel_rfl)
    (O := .side [0 = 0] (.leaf (rI (plusF 1 0)))) (by kernel_rfl) ⟨⟨rfl, trivial⟩, leafR (congrArg rI (by decide +kernel))⟩
theorem ctn_ok : Dyn.CallD Try.prog 75 [.one (.row 0 noF)] (.val (.one (.row 0 noF))) :=
  dcontractC (lp := Dyn.noLp) (fuel := 2) tabD0_ok mo Try.func75 (by kernel_rfl) (c := bodyD Try.f75.body) (by kernel_rfl) (fun w0 => Dyn.noLp_ok _ w0) (.tt .lf) (.leaf (.val (.one (.row 0 nilF0)))) rfl (by kernel_rfl) ⟨rfl, fun i hi => absurd hi (Nat.not_lt_zero i)⟩
def enCn0 : Dyn.EntryD := (75, fun args => match args with
  | [.one (.row n f)] => some (.val (.one (.row 0 noF)), [n = 0])
  | _ => none)
theorem enCn0_ok : Dyn.EntryDOk Try.prog enCn0 := fun args r ps h hp => by
  unfold enCn0 at h
  dsimp only at h
  split at h
  · simp only [Option.some.injEq, Prod.mk.injEq] at h
    obtain ⟨rfl, rfl⟩ := h
    exact row0_le hp.1 ctn_ok
  · cases h
def drCo (K : Nat) : Bool := Nat.beq K 75
def noPl (_ : Nat) : Bool := false
noncomputable def tabD2 : Dyn.Tabs := Dyn.extT (Dyn.tabs tbF [enDc 35 (fun _ => rI 1) (fun _ => True), enCn0] drCo dtyS) noPl
theorem tabD2_ok : Dyn.TabsOk Try.prog tabD2 := Dyn.extT_ok (Dyn.tabs_ok tbF_ok (List.forall_mem_cons.2 ⟨enDc_ok fun r _ => ctDc_ok r, List.forall_mem_cons.2 ⟨enCn0_ok, fun _ h => by cases h⟩⟩)) (fun K h => by cases h)
theorem cpy_ok (r : Int) : Dyn.CallD Try.prog 57 [dvDc r] (.val (dvDc r)) :=
  Dyn.dcontract (lp := Dyn.noLp) (fuel := 3) tabD2_ok mo Try.func57 (by kernel_rfl) (c := bodyD Try.f57.body) (by kernel_rfl) (fun w0 => Dyn.noLp_ok _ w0) (by kernel_rfl)
    (O := .side [True, (1 : Int) = 1 ∧ (0 : Int) = 0 ∧ (0 : Int) = 0 ∧ (0 : Int) = 0 ∧ (0 : Int) = 0 ∧ (0 : Int) = 0 ∧ (0 : Int) = 0 ∧ 0 = 0 ∧ 0 = 0] (.side [0 = 0] (.leaf (.val (.agg [cI 1, cI 0, cI 0, cI 0, cI 0, cI 0, cI 0, cI r, .row 0 noF, .row 0 nilF0]))))) (by kernel_rfl)
    ⟨⟨trivial, ⟨rfl, rfl, rfl, rfl, rfl, rfl, rfl, rfl, rfl⟩, trivial⟩, ⟨rfl, trivial⟩, rfl, rfl, rfl, rfl, rfl, rfl, rfl, rfl, ⟨rfl, fun _ _ => rfl⟩, ⟨rfl, fun i hi => absurd hi (Nat.not_lt_zero i)⟩, trivial⟩
/-! ### the lists of the document -/
def fL2 : Nat → List Dyn.DC := Dyn.pickL 0 [cB true :: dC 9, cB false :: dC 2]
def fH1 : Nat → List Dyn.DC := Dyn.pickL 0 [dC 1]
def dtyQ (t : TypeId) : Bool := dtyO t || Nat.beq t 69
def drCy (K : Nat) : Bool := Nat.beq K 57
def tdCy : List Dyn.EntryD := [enDc 57 (fun r => .val (dvDc r)) (fun _ => True)]
theorem tdCy_ok : ∀ e ∈ tdCy, Dyn.EntryDOk Try.prog e := List.forall_mem_cons.2 ⟨enDc_ok fun r _ => cpy_ok r, fun _ h => by cases h⟩
noncomputable def tabLs : Dyn.Tabs := Dyn.tabs tbF tdCy drCy dtyQ
theorem tabLs_ok : Dyn.TabsOk Try.prog tabLs := Dyn.tabs_ok tbF_ok tdCy_ok
def E1 : Prop := (1 : Int) = 1 ∧ (0 : Int) = 0 ∧ (0 : Int) = 0 ∧ (0 : Int) = 0 ∧ (0 : Int) = 0 ∧ (0 : Int) = 0 ∧ (0 : Int) = 0 ∧ 0 = 0 ∧ 0 = 0
theorem E1_ok : E1 := ⟨rfl, rfl, rfl, rfl, rfl, rfl, rfl, rfl, rfl⟩
def zOb : List Dyn.DC := [cB false, cI 0, cI 0, cI 0, cI 0, cI 0, cI 0, cI 0, cI 0, .row 0 nilF0, .row 0 nilF0]
def ls3 : Nat → List Dyn.DC := Dyn.appF 2 (Dyn.appF 1 (Dyn.appF 0 (fun _ => zOb) (Dyn.pickL 0 [cB true :: dC 9])) (Dyn.pickL 0 [cB false :: dC 2])) (Dyn.pickL 0 [cB false :: dC 1])
def ls_O : Dyn.RO := .side [0 ≤ (0 : Int) ∧ (0 : Int) ≤ 3 ∧ (3 : Int) ≤ 9223372036854775807 ∧ ((120 : Nat) : Int) * 3 ≤ 281474976710656]
  (.side [0 ≤ (0 : Int) ∧ (0 : Int) < 2] (.side [True, E1, szP 120 0] (.side [0 ≤ (1 : Int) ∧ (1 : Int) < 2] (.side [True, E1, szP 120 1] (.side [0 ≤ (0 : Int) ∧ (0 : Int) < 1] (.side [True, E1, szP 120 2] (.leaf (.val (.one (.row 3 ls3))))))))))
theorem lessL_ok : Dyn.CallD Try.prog 39 [.one (.row 2 fL2), .one (.row 1 fH1)] (.val (.one (.row 3 ls3))) :=
  dcontractC (lp := Dyn.noLp) (fuel := 4) tabLs_ok mo Try.func39 (by kernel_rfl) (c := bodyD Try.f39.body) (by kernel_rfl) (fun w0 => Dyn.noLp_ok _ w0) (.tt (.tt (.ff (.tt (.ff .lf))))) ls_O rfl (by kernel_rfl)
    ⟨⟨by decide, trivial⟩, ⟨by decide, trivial⟩, ⟨trivial, E1_ok, szP_ok (by decide) (by decide), trivial⟩, ⟨by decide, trivial⟩, ⟨trivial, E1_ok, szP_ok (by decide) (by decide), trivial⟩, ⟨by decide, trivial⟩, ⟨trivial, E1_ok, szP_ok (by decide) (by decide), trivial⟩, leafR rfl⟩
theorem disc_fine {r : Int} (h : 1 ≤ r ∧ r ≤ 1000) : Fine (fun p => p = ze) (discS r) 0 := .inl ⟨rfl, rfl, rfl, rfl, rfl, rfl, by unfold widF; simp only [andB_eq, Bool.and_eq_true, decide_eq_true_eq]; omega⟩
theorem disc_ok {r : Int} (h : 1 ≤ r ∧ r ≤ 1000) : okE (toSh (discS r)) = true := fine_ok (fun p hp => by subst hp; rfl) (disc_fine h)
theorem disc_B (r : Int) : ShB (discS r) := ⟨⟨by show (0 : Nat) ≤ _; decide, fun i hi => absurd hi (Nat.not_lt_zero i)⟩, by decide, fun i hi => absurd hi (Nat.not_lt_zero i)⟩
theorem bdDc_ok (r : Int) (h : 1 ≤ r ∧ r ≤ 1000) : Dyn.CallD Try.prog 25 [dvDc r] (.tup [dvX (aroundF ze ze r), dvB true]) := by
  have q := figBnd_ok (toSh (discS r)) (PdS_mk (disc_B r))
  have e : figBnd (toSh (discS r)) = (aroundF ze ze r, true) := by
    unfold figBnd
    rw [disc_ok h, bndE_eq]; rfl
  rw [e] at q
  exact CallD_d1 (show DVd (dvDc r) (dvS (toSh (discS r))) from dC_le r) q
def tdNr : List Dyn.EntryD := [enDc 25 (fun r => .tup [dvX (aroundF ze ze r), dvB true]) (fun r => 1 ≤ r ∧ r ≤ 1000), enDc 57 (fun r => .val (dvDc r)) (fun _ => True)]
theorem tdNr_ok : ∀ e ∈ tdNr, Dyn.EntryDOk Try.prog e := List.forall_mem_cons.2 ⟨enDc_ok fun r h => bdDc_ok r h, List.forall_mem_cons.2 ⟨enDc_ok fun r _ => cpy_ok r, fun _ h => by cases h⟩⟩
noncomputable def tabNr : Dyn.Tabs := Dyn.tabs tbF tdNr drCy dtyQ
theorem tabNr_ok : Dyn.TabsOk Try.prog tabNr := Dyn.tabs_ok tbF_ok tdNr_ok
def nr_O : Dyn.RO := .side [0 ≤ (0 : Int) ∧ (0 : Int) < 2] (.side [1 ≤ (9 : Int) ∧ (9 : Int) ≤ 1000, E1] (.side [0 ≤ (1 : Int) ∧ (1 : Int) < 2] (.side [1 ≤ (2 : Int) ∧ (2 : Int) ≤ 1000, E1] (.leaf (.val (.one (.row 0 nilF0)))))))
theorem nearL_ok : Dyn.CallD Try.prog 42 [.one (.row 2 fL2), dvX ⟨50, 0, 60, 0⟩] (.val (.one (.row 0 nilF0))) :=
  dcontractC (lp := Dyn.noLp) (fuel := 4) tabNr_ok mo Try.func42 (by kernel_rfl) (c := bodyD Try.f42.body) (by kernel_rfl) (fun w0 => Dyn.noLp_ok _ w0) (.tt (.ff (.tt (.ff (.ff .lf))))) nr_O rfl (by kernel_rfl)
    ⟨⟨by decide, trivial⟩, ⟨by decide, E1_ok, trivial⟩, ⟨by decide, trivial⟩, ⟨by decide, E1_ok, trivial⟩, leafR rfl⟩
def L2 : Shp := lForm 2 (fun i => Nat.beq i 0) (fun i => discS (bif Nat.beq i 0 then 9 else 2))
def L0 : Shp := lForm 0 (fun _ => false) (fun _ => .nil)
def LN (n : Nat) : Shp := bif Nat.beq n 0 then L0 else L2
theorem L2_e0 : fL2 0 = cB true :: dC 9 := by kernel_rfl
theorem L2_e1 : fL2 1 = cB false :: dC 2 := by kernel_rfl
theorem L2_le : DVd (.one (.row 2 fL2)) (dvL (toSh L2)) := DLe.rowL fun i hi => by
  have : i = 0 ∨ i = 1 := by omega
  rcases this with rfl | rfl
  · rw [L2_e0]; exact ⟨.refl _, dC_le 9⟩
  · rw [L2_e1]; exact ⟨.refl _, dC_le 2⟩
theorem L2_B : ShB L2 := ⟨⟨by decide, fun i hi => absurd hi (Nat.not_lt_zero i)⟩, by decide, fun i _ => disc_B _⟩
theorem L0_B : ShB L0 := ⟨⟨by decide, fun i hi => absurd hi (Nat.not_lt_zero i)⟩, by decide, fun i hi => absurd hi (Nat.not_lt_zero i)⟩
def RkL (n : Nat) (f : Nat → List Dyn.DC) : Prop := n = 0 ∨ (n = 2 ∧ DLe (.row n f) (.row 2 fL2))
theorem RkL.call {P : Program} {K n : Nat} {f : Nat → List Dyn.DC} {l : List Dyn.DV} {r : Dyn.RV} (h : RkL n f) (k : Dyn.CallD P K (dvL (toSh (LN n)) :: l) r) : Dyn.CallD P K (.one (.row n f) :: l) r := by
  rcases h with rfl | ⟨rfl, h⟩
  · exact CallD_d1 (v' := dvL (toSh L0)) (DLe.rowL fun i hi => absurd hi (Nat.not_lt_zero i)) k
  · exact CallD_d1 (show DVd (.one (.row 2 f)) (.one (.row 2 fL2)) from h) (CallD_d1 L2_le k)
theorem LN_B (n : Nat) : ShB (LN n) := by
  unfold LN
  cases Nat.beq n 0
  · exact L2_B
  · exact L0_B
noncomputable def tdA21 : List Dyn.EntryD := [
  (41, fun args => match args with
    | [.one (.row n f), .agg [.p (.int .i64 x), .p (.int .i64 y)]] => some (rB (pHas (LN n) ⟨x, y⟩), [RkL n f])
    | _ => none),
  (40, fun args => match args with
    | [.one (.row n f), .agg [.p (.int .i64 x), .p (.int .i64 y), .p (.int .i64 z), .p (.int .i64 t)]] => some (rI (pClass (LN n) ⟨x, y, z, t⟩), [RkL n f])
    | _ => none),
  (39, fun args => match args with
    | [.one (.row n f), .one (.row m g)] => some (.val (.one (.row 3 ls3)), [DLe (.row n f) (.row 2 fL2), DLe (.row m g) (.row 1 fH1)])
    | _ => none),
  (42, fun args => match args with
    | [.one (.row n f), .agg [.p (.int .i64 x), .p (.int .i64 y), .p (.int .i64 z), .p (.int .i64 t)]] => some (.val (.one (.row 0 nilF0)), [DLe (.row n f) (.row 2 fL2), x = 50 ∧ y = 0 ∧ z = 60 ∧ t = 0])
    | _ => none)]
theorem tdA21_ok : ∀ e ∈ tdA21, Dyn.EntryDOk Try.prog e := by
  unfold tdA21
  refine List.forall_mem_cons.2 ⟨fun args r ps h hp => ?_, List.forall_mem_cons.2 ⟨fun args r ps h hp => ?_, List.forall_mem_cons.2 ⟨fun args r ps h hp => ?_, List.forall_mem_cons.2 ⟨fun args r ps h hp => ?_, fun _ h => by cases h⟩⟩⟩⟩
  · dsimp only at h
    split at h
    · simp only [Option.some.injEq, Prod.mk.injEq] at h
      obtain ⟨rfl, rfl⟩ := h
      exact hp.1.call (pHas_ok _ (LN_B _) ⟨_, _⟩)
    · cases h
  · dsimp only at h
    split at h
    · simp only [Option.some.injEq, Prod.mk.injEq] at h
      obtain ⟨rfl, rfl⟩ := h
      exact hp.1.call (pClass_ok _ (LN_B _) ⟨_, _, _, _⟩)
    · cases h
  · dsimp only at h
    split at h
    · simp only [Option.some.injEq, Prod.mk.injEq] at h
      obtain ⟨rfl, rfl⟩ := h
      exact CallD_d2 (show DVd (.one _) (.one _) from hp.1) (show DVd (.one _) (.one _) from hp.2.1) lessL_ok
    · cases h
  · dsimp only at h
    split at h
    · simp only [Option.some.injEq, Prod.mk.injEq] at h
      obtain ⟨rfl, rfl⟩ := h
      obtain ⟨h1, ⟨rfl, rfl, rfl, rfl⟩, -⟩ := hp
      exact CallD_d1 (show DVd (.one _) (.one _) from h1) nearL_ok
    · cases h
def drA21 (K : Nat) : Bool := Nat.beq K 39 || Nat.beq K 42
noncomputable def tabA21 : Dyn.Tabs := Dyn.tabs tbF tdA21 drA21 dtyQ
theorem tabA21_ok : Dyn.TabsOk Try.prog tabA21 := Dyn.tabs_ok tbF_ok tdA21_ok
theorem figHasD {r : Int} (h : 1 ≤ r ∧ r ≤ 1000) (p : P2) : figHasS (discS r) p = hasF (discS r) p := by unfold figHasS; rw [disc_ok h]; rfl
theorem figClassD {r : Int} (h : 1 ≤ r ∧ r ≤ 1000) (b : B4) : figClassS (discS r) b = classF (discS r) b := by unfold figClassS; rw [disc_ok h]; rfl
theorem pHasL2 (p : P2) : pHas (LN 2) p = bif hasF (discS 2) p then false else bif hasF (discS 9) p then true else false := by
  show (bif figHasS (discS 2) p then false else bif figHasS (discS 9) p then true else false) = _
  rw [figHasD (by decide), figHasD (by decide)]
theorem pClassL2 (b : B4) : pClass (LN 2) b = foldF (foldF 0 (classF (discS 9) b) true) (classF (discS 2) b) false := by
  show foldF (foldF 0 (figClassS (discS 9) b) true) (figClassS (discS 2) b) false = _
  rw [figClassD (by decide), figClassD (by decide)]
theorem pClassL0 (b : B4) : pClass (LN 0) b = 0 := rfl
noncomputable def aq1 : Bool := pHas (LN 2) ⟨5, 0⟩
noncomputable def aq2 : Bool := bif aq1 then !(pHas (LN 2) ⟨2, 0⟩) else false
noncomputable def aq3 : Bool := bif aq2 then pClass (LN 2) ⟨4, 0, 5, 0⟩ == 2 else false
noncomputable def aq4 : Bool := bif aq3 then pClass (LN 2) ⟨0, 0, 0, 0⟩ == 0 else false
noncomputable def aq5 : Bool := bif aq4 then pClass (LN 0) ⟨0, 0, 0, 0⟩ == 0 else false
theorem aq5_true : aq5 = true := by
  unfold aq5 aq4 aq3 aq2 aq1
  rw [pHasL2, pHasL2, pClassL2, pClassL2, pClassL0]
  decide +kernel
def gdP (g : Bool) (p : Prop) : Prop := some g = some true ∧ True → allP [p]
noncomputable def a21S : List Prop := [RkL 2 fL2, gdP aq1 (RkL 2 fL2), gdP aq2 (RkL 2 fL2), gdP aq3 (RkL 2 fL2), gdP aq4 (RkL 0 nilF0)]
noncomputable def a21O : Dyn.RO := .ite aq5
  (.side (a21S ++ [aq5 = true, DLe (.row 2 fL2) (.row 2 fL2), DLe (.row 1 fH1) (.row 1 fH1), (((3 : Nat) : Int) == 3) = true, DLe (.row 2 fL2) (.row 2 fL2), (50 : Int) = 50 ∧ (0 : Int) = 0 ∧ (60 : Int) = 60 ∧ (0 : Int) = 0]) (.leaf (rB (((0 : Nat) : Int) == 0))))
  (.side (a21S ++ [aq5 = false, false = false]) (.leaf (rB false)))
theorem awake21 : Dyn.CallD Try.prog 37 [] (rB true) := by
  have k2 : RkL 2 fL2 := .inr ⟨rfl, .refl _⟩
  refine dcontractC (lp := Dyn.noLp) (fuel := 4) tabA21_ok mo Try.func37 (by kernel_rfl) (c := bodyD Try.f37.body) (by kernel_rfl) (fun w0 => Dyn.noLp_ok _ w0) (.it (.tt .lf) (.ff .lf)) a21O rfl (by kernel_rfl) ⟨fun _ => ?_, fun h => absurd (aq5_true.symm.trans h) (by decide)⟩
  exact ⟨⟨k2, fun _ => ⟨k2, trivial⟩, fun _ => ⟨k2, trivial⟩, fun _ => ⟨k2, trivial⟩, fun _ => ⟨.inl rfl, trivial⟩, aq5_true, .refl _, .refl _, by decide, .refl _, by decide, trivial⟩, leafR rfl⟩
end Go.Proofs.Ytfooaikpcbnchaa

/-! ## Pif -/
namespace Go.Proofs.Ytfooaikpcbnchaa
open Go Go.RowKit Sym
set_option maxRecDepth 100000

/-- what of it is tame -/
theorem lf_B {n : Nat} {add : Nat → Bool} {sub : Nat → Shp} (h : small21 (lForm n add sub) = true) : ShB (lForm n add sub) := by
  unfold small21 at h
  by_cases hn : ((n : Nat) : Int) > 20
  · rw [show decide ((nuO (lForm n add sub) : Int) > 20) = true from decide_eq_true hn] at h; cases h
  · rw [show decide ((nuO (lForm n add sub) : Int) > 20) = false from decide_eq_false hn] at h
    refine ⟨⟨by decide, fun i hi => absurd hi (Nat.not_lt_zero i)⟩, by omega, fun i hi => ?_⟩
    obtain ⟨u, _, k2⟩ := runN_all h i hi
    exact small_B _ 0 k2
theorem tame2_ok (sm : Bool) (s : Shp) (h : ShB s) : okE (toSh (tameS s sm 2)) = true := by
  unfold okE
  rw [vE_eq]
  exact (fine_valid (fun p hp => PB_near (tmX_le sm) hp) _ 2 0 1000 (tame_fine sm s 2 h (by decide) (by decide)) (by decide) (by decide) (by decide) (by decide) (by decide)).1
end Go.Proofs.Ytfooaikpcbnchaa

/-! ## Cpd -/
namespace Go.Proofs.Ytfooaikpcbnchaa
open Go Go.RowKit Sym
set_option maxRecDepth 100000

def PdC (x : Sh) : Prop := cntS (ofSh x) ≤ 100000000
theorem countParts_ok (s : Shp) (h : ShB s) (hc : cntS s ≤ 100000000) : Dyn.CallD Try.prog 56 [dvL (toSh s)] (rI (cntS s : Int)) :=
  callD_of Try.func56 (by kernel_rfl) (by kernel_rfl) rfl fun w F us hF hd => by
    match us, hd with
    | [u], hd =>
      obtain ⟨oa, cap, rfl, pc⟩ := den_PC s h (show Dyn.DenC w F (.row (toSh s).n (toSh s).f) u from hd.1)
      by_cases hz : (toSh s).n = 0
      · rw [hz] at pc ⊢
        have e : cntS s = 0 := pc.det (F' := F) (.nil oa)
        rw [e]
        exact count_zero oa cap w
      · generalize hq : (toSh s).n = n at *
        have pc' := pc
        generalize hcc : cntS s = c at *
        cases pc' with
        | nil => exact absurd rfl hz
        | row b off _ a m q c h0 => exact count_walk F b off n cap h0 _ hc w hF pc
    | [], hd => exact hd.elim
    | _ :: _ :: _, hd => exact hd.2.elim
noncomputable def enCpE : Dyn.EntryD := (56, en1D (qAnd (qAnd qL PdS) PdC) fun x => rI (cntS (ofSh x) : Int))
theorem enCpE_ok : Dyn.EntryDOk Try.prog enCpE := en1D_ok (qAnd_ok (qAnd_ok qL_ok)) fun x h => CallD_le (args := [dvL (toSh (ofSh x))]) ⟨SLe.dvL h.2.1.2, trivial⟩ (countParts_ok _ h.2.1.1 h.1)
noncomputable def tabCn : Dyn.Tabs := Dyn.tabs tbF [enCpE] noD dtyS
theorem tabCn_ok : Dyn.TabsOk Try.prog tabCn := Dyn.tabs_ok tbF_ok (List.forall_mem_cons.2 ⟨enCpE_ok, fun _ h => by cases h⟩)
noncomputable def cnO (s : Sh) : Dyn.RO := .side [PdC (obX s.n s.f), PdS (obX s.n s.f)] (.leaf (rI (plusF 1 (cntS (ofSh (obX s.n s.f)) : Int))))
theorem cn_O (s : Sh) : (Dyn.dfun Try.prog tabCn Dyn.noLp 4 Try.f35 [dvS s]).ro Try.prog Try.f35.results = cnO s := by kernel_rfl
theorem count_ok (s : Shp) (h : ShB s) (hc : cntS s ≤ 100000000) : Dyn.CallD Try.prog 35 [dvS (toSh s)] (rI (1 + (cntS s : Int))) := by
  cases s with
  | nil => exact h.elim
  | mk k a b c r l n add sub =>
    have e : ofSh (obX n fun i => partC (add i) (toSh (sub i))) = lForm n add sub := ofSh_toSh (lForm n add sub)
    have hB : ShB (lForm n add sub) := ⟨CtrB_ze, h.2.1, h.2.2⟩
    have ec : cntS (lForm n add sub) = cntS (.mk k a b c r l n add sub) := rfl
    refine Dyn.dcontract (lp := Dyn.noLp) (fuel := 4) tabCn_ok mo Try.func35 (by kernel_rfl) (c := bodyD Try.f35.body) (by kernel_rfl) (fun w0 => Dyn.noLp_ok _ w0) (by kernel_rfl) (cn_O (toSh (.mk k a b c r l n add sub))) ?_
    refine ⟨⟨by show cntS (ofSh (obX n fun i => partC (add i) (toSh (sub i)))) ≤ _; rw [e]; exact hc, PdS_mk hB, trivial⟩, ro_leaf (congrArg rI ?_)⟩
    show plusF 1 (cntS (ofSh (obX n fun i => partC (add i) (toSh (sub i)))) : Int) = _
    rw [e, ec]
    have hb : (cntS (.mk k a b c r l n add sub) : Int) ≤ 100000000 := by omega
    have h0 : (0 : Int) ≤ (cntS (.mk k a b c r l n add sub) : Int) := by omega
    generalize (cntS (.mk k a b c r l n add sub) : Int) = x at *
    unfold plusF
    rw [W_id (x := 9223372036854775807 - x) (by omega) (by omega), decide_eq_false (by omega), W_id (by omega) (by omega)]; rfl
end Go.Proofs.Ytfooaikpcbnchaa

/-! ## Cqd -/
namespace Go.Proofs.Ytfooaikpcbnchaa
open Go Go.RowKit Sym
set_option maxRecDepth 100000

/-- 'copy' of elements of several cells, onto a whole new row -/
theorem wpList_copyK {P : Program} {w : World} {ops : Array Oper} {rest : List Oper} {o : Oper} {a : Act} {Q : Exit → Act → World → Prop} (hgd : o.guard = none) (d s : Operand) (dT sT : TypeId)
    (ho : o.op = .call { callee := .builtin .copy, args := #[d, s], argTypes := #[dT, sT] }) (elem : TypeId) (hu : P.underlying dT = some (.slice elem)) (size : Nat) (hsz : (P.info? elem).map (·.size) = some size)
    (g n dCap : Nat) (ad : Addr) (sCap : Nat) (hd : a.eval d = .slice (some ⟨g, 0, none⟩) n dCap) (hs : a.eval s = .slice (some ad) n sCap)
    (cur : Array Value) (t : TypeId) (hg : w.heap[g]? = some (.cells cur t (0, 0))) (hcur : cur.size = n * size) (cs : List Value) (hn : cs.length = n * size)
    (hsrc : ∀ j v, cs[j]? = some v → w.cell? (ad.add j) = some v) (h1 : ∀ v ∈ cs, v.oneCell' = true)
    (h : wpList P ops Q rest (a.put o.dst (goInt n)) (w.setRow g cs.toArray)) : wpList P ops Q (o :: rest) a w := by
  refine wpList_plain hgd fun K hK => ?_
  have hrun : (Builtin.copy_ #[dT, sT] o.type #[.slice (some ⟨g, 0, none⟩) n dCap, .slice (some ad) n sCap]).run P w = .ok (goInt n) (w.setRow g cs.toArray) := by
    have hl := run_loadCells_list (P := P) w ad cs hsrc
    have hst := run_storeCells_at P g 0 t cs 0 cur w hg (by omega) h1
    have e : (cur.toList.take (0 + 0) ++ cs ++ cur.toList.drop (0 + 0 + cs.length)).toArray = cs.toArray := by
      rw [List.drop_eq_nil_of_le (by rw [Array.length_toList]; omega)]; simp
    rw [e] at hst
    cases hq : P.info? elem with
    | none => simp [hq] at hsz
    | some i =>
      have hi : i.size = size := by simpa [hq] using hsz
      rw [hn] at hl
      simp [Builtin.copy_, run_underlying hu, Builtin.lenOf, Builtin.firstCells, sizeOf, typeInfo, hq, hi, hl, hst]
  unfold Oper.wp
  simp [execOp, ho, resolve, invoke, builtin, hd, hs, hrun, Result.andThen]
  exact hK _ _ h
/-- a contract, as a call -/
theorem calls_D {P : Program} {K : Nat} {fn : Func} (hf : P.funcs[K]? = some fn) (hb : fn.body.isNone = false) (hn : (fn.name == "runtime.NumGoroutine") = false) {ds : List Dyn.DV} {us : List Value} {r : Dyn.RV} (h : Dyn.CallD P K ds r) (w : World) {F : Nat → Prop} (hF : ∀ b, F b → b < w.heap.size ∧ Dyn.PlainB w b) (hd : Dyn.DenVs w F ds us) :
    Calls P K us.toArray w fun e w' => ∃ u, e = .returned u ∧ Dyn.DenR w' (fun b => F b ∨ (w.heap.size ≤ b ∧ b < w'.heap.size ∧ Dyn.PlainB w' b)) r u ∧ Below w.heap.size w w' := by
  have hr : (callFunc K us.toArray).run P w = .ok (.enter K us.toArray) w := by
    unfold callFunc
    simp only [Sem.run_bind, run_program, Result.andThen_ok, hf, hn, hb]
    simp
  have := h w F us hF hd
  rw [hr] at this
  exact this.2
noncomputable def pF1 : Field := match Try.prog.underlying 122 with | some (.struct fs) => fs.getD 0 default | _ => default
noncomputable def pF2 : Field := match Try.prog.underlying 122 with | some (.struct fs) => fs.getD 1 default | _ => default
theorem copy_keyT : KeyT Try.prog 117 122 27 45 10 pF1 pF2 := ⟨by kernel_rfl, by kernel_rfl, by kernel_rfl, ⟨.i64, by kernel_rfl⟩, by kernel_rfl, by kernel_rfl, by kernel_rfl, by kernel_rfl, by kernel_rfl, by kernel_rfl, by kernel_rfl, by kernel_rfl⟩
theorem zero_parts (w : World) : (zeroValue 27).run Try.prog w = .ok (.slice none 0 0) w := zero_run (by kernel_rfl)
theorem copy_look (b off n : Nat) (w : World) : (Instr.lookup 117 (.map none) (.agg #[.pointer (some ⟨b, off, none⟩), .int .i64 (n : Int)]) true).run Try.prog w = .ok (.tuple #[.slice none 0 0, .bool false]) w := by
  exact lookup_nil copy_keyT (zero_parts w) (b, off, n)
theorem infoPart : (Try.prog.info? 45).map (fun i => (i.zero, i.size, i.bytes)) = some (some (.agg #[.bool false, .int .i64 0, .int .i64 0, .int .i64 0, .int .i64 0, .int .i64 0, .int .i64 0, .int .i64 0, .int .i64 0, .slice none 0 0, .slice none 0 0]), 11, 120) := by kernel_rfl
theorem infoPtr : (Try.prog.info? 118).map (fun i => (i.zero, i.size, i.bytes)) = some (some (.pointer none), 1, 8) := by kernel_rfl
def zPart : Array Value := #[.bool false, .int .i64 0, .int .i64 0, .int .i64 0, .int .i64 0, .int .i64 0, .int .i64 0, .int .i64 0, .int .i64 0, .slice none 0 0, .slice none 0 0]
theorem copy_make (n : Nat) (hn : n ≤ 1000000000) (w : World) : (Instr.makeSlice 27 (.int .i64 (n : Int)) (.int .i64 (n : Int))).run Try.prog w = .ok (.slice (some ⟨w.heap.size, 0, none⟩) n n) (w.alloc (.cells (madeCells zPart (n * 11)) 45)) := by
  obtain ⟨i0, hi, hz0, hz1, hz2⟩ := info_parts infoPart
  have h := run_make (P := Try.prog) w 27 45 i0 _ Try.underlying27 hi hz0 .i64 .i64 (n : Int) (n : Int) (by omega) (Int.le_refl _) (by rw [hz2]; omega) (by omega)
  rw [Int.toNat_natCast, hz1] at h
  exact h
/-- what stands before the walk -/
theorem copy_start (e sh : TypeId) {F : Nat → Prop} {w W1 : World} (hF : ∀ b, F b → b < w.heap.size ∧ Dyn.PlainB w b) {s : Shp} (hs : ShB s) {cells : List Value} (hl : cells.length = 10) (hd : Dyn.DenL w F (cS (toSh s)) cells) {z : Array Value} (hz : z.size = 10)
    (hb : Below ((w.alloc (.cells cells.toArray sh)).alloc (.cells z sh)).heap.size ((w.alloc (.cells cells.toArray sh)).alloc (.cells z sh)) W1) : CqRel e sh F w s (1 + cntS s) (.slice (some ⟨W1.heap.size, 0, none⟩) 1 1) (W1.alloc (.cells #[.pointer (some ⟨w.heap.size, 0, none⟩)] e)) := by
  have sz2 : ((w.alloc (.cells cells.toArray sh)).alloc (.cells z sh)).heap.size = w.heap.size + 2 := by rw [World.size_alloc, World.size_alloc]
  have hW : w.heap.size + 2 ≤ W1.heap.size := by have := hb.size; omega
  have old : ∀ q, q < W1.heap.size → (W1.alloc (.cells #[.pointer (some ⟨w.heap.size, 0, none⟩)] e)).heap[q]? = W1.heap[q]? := fun q hq => Below.heap_alloc W1 _ q hq
  have h1 : (W1.alloc (.cells #[.pointer (some ⟨w.heap.size, 0, none⟩)] e)).heap[w.heap.size]? = some (.cells cells.toArray sh (0, 0)) := by
    rw [old _ (by omega), hb.block _ (by omega), Below.heap_alloc _ _ _ (by rw [World.size_alloc]; omega)]
    exact heap_newC w _
  have h2 : (W1.alloc (.cells #[.pointer (some ⟨w.heap.size, 0, none⟩)] e)).heap[w.heap.size + 1]? = some (.cells z sh (0, 0)) := by
    rw [old _ (by omega), hb.block _ (by omega)]
    have := heap_newC (w.alloc (.cells cells.toArray sh)) (.cells z sh)
    rw [World.size_alloc] at this
    exact this
  have h0 : ∀ q, q < w.heap.size → (W1.alloc (.cells #[.pointer (some ⟨w.heap.size, 0, none⟩)] e)).heap[q]? = w.heap[q]? := fun q hq => by
    rw [old _ (by omega), hb.block _ (by omega), Below.heap_alloc _ _ _ (by rw [World.size_alloc]; omega), Below.heap_alloc _ _ _ hq]
  have box : BoxD (W1.alloc (.cells #[.pointer (some ⟨w.heap.size, 0, none⟩)] e)) F w.heap.size s := fun i hi => by
    have e1 : (cS (toSh s))[i]? = some ((cS (toSh s)).getD i default) := by
      rw [List.getD_eq_getElem?_getD]
      cases q : (cS (toSh s))[i]? with
      | none => have := List.getElem?_eq_none_iff.1 q; have e : (cS (toSh s)).length = 10 := rfl; omega
      | some d => rfl
    obtain ⟨u, u1, u2⟩ := Dyn.DenL.at_ hd i _ e1
    refine ⟨u, ?_, u2.mono fun b hb' => ⟨hb', h0 b (hF b hb').1⟩⟩
    simp only [World.cell?, h1, Option.isSome_none, Bool.false_eq_true, if_false]
    simpa using u1
  have hbw : Below w.heap.size w (W1.alloc (.cells #[.pointer (some ⟨w.heap.size, 0, none⟩)] e)) :=
    ((((Below.refl _ w).alloc (Nat.le_refl _) _).alloc (by rw [World.size_alloc]; omega) _).trans (hb.mono (by omega))).alloc (by omega) _
  refine ⟨[⟨w.heap.size, 0, s⟩], W1.heap.size, 1, F, rfl, ⟨_, by omega, heap_newC W1 _, Nat.le_refl _, by decide, rfl, rfl, rfl⟩,
    ⟨⟨fun b hb' => (hF b hb').2.of (h0 b (hF b hb').1), fun b hb' => by have := (hF b hb').1; omega, fun b hb' => .inl hb'⟩, ⟨Nat.le_refl _, by omega⟩, by omega, ⟨_, _, h1⟩, hs, box, fun j hj => ?_⟩, hbw, by omega, by show 1 + cntS s + 0 ≤ _; omega, Nat.le_refl _, _, h2, hz⟩
  rcases List.mem_cons.1 hj with rfl | hj
  · refine ⟨⟨Nat.le_refl _, ?_⟩, ?_, ⟨_, _, h1⟩, hs, box 8 (by decide), box 9 (by decide)⟩
    · show w.heap.size ≠ w.heap.size + 1; omega
    · show w.heap.size ≠ W1.heap.size; omega
  · cases hj
/-- what the box shows, with all done -/
theorem copy_end {F : Nat → Prop} {w W : World} (hF : ∀ b, F b → b < w.heap.size ∧ Dyn.PlainB w b) {s : Shp} {g : Nat} {G : Nat → Prop} {L : List Job} (h : CqI F w.heap.size g W G w.heap.size s L) {cells : List Value} (hl : cells.length = 10) (hc : ∀ j u, cells[j]? = some u → W.cell? ⟨w.heap.size, j, none⟩ = some u) {W' : World} (hW : ∀ q, q ≠ w.heap.size + 1 → W'.heap[q]? = W.heap[q]?) :
    Dyn.DenR W' (fun b => F b ∨ (w.heap.size ≤ b ∧ b < W'.heap.size ∧ Dyn.PlainB W' b)) (.val (dvS (toSh s))) (.agg cells.toArray) := by
  have e10 : (cS (toSh s)).length = 10 := rfl
  refine ⟨_, rfl, Dyn.DenL.of (by rw [e10]; simpa using hl) fun j d hj => ?_⟩
  have hj10 : j < 10 := by rw [← e10]; exact (List.getElem?_eq_some_iff.1 hj).1
  obtain ⟨v, v1, v2⟩ := h.box j hj10
  have ed : (cS (toSh s)).getD j default = d := by rw [List.getD_eq_getElem?_getD, hj]; rfl
  rw [ed] at v2
  have hu : cells[j]? = some (cells[j]'(by omega)) := List.getElem?_eq_getElem (by omega)
  have := hc j _ hu
  rw [v1] at this
  refine ⟨v, by rw [List.toList_toArray, hu, this], v2.mono fun b hb => ?_⟩
  have hne : b ≠ w.heap.size + 1 := by
    rcases h.ok.lo b hb with k | k
    · have := (hF b k).1; omega
    · exact k.2
  have hp : Dyn.PlainB W' b := (h.ok.pl b hb).of (hW b hne)
  refine ⟨?_, hW b hne⟩
  rcases h.ok.lo b hb with k | k
  · exact .inl k
  · exact .inr ⟨k.1, plLt hp, hp⟩
theorem copy_res {w W : World} {sh : TypeId} (h : ∃ cs, W.heap[w.heap.size + 1]? = some (.cells cs sh (0, 0)) ∧ cs.size = 10) (i : Nat) (hi : i < 10) : ∃ x, W.cell? ⟨w.heap.size + 1, i, none⟩ = some x := by
  obtain ⟨cs, h1, h2⟩ := h
  exact ⟨cs[i]'(by omega), by simp [World.cell?, h1, h2, hi]⟩
theorem copy_ten {W : World} {b : Nat} {v0 v1 v2 v3 v4 v5 v6 v7 v8 v9 : Value} (h0 : W.cell? ⟨b, 0, none⟩ = some v0) (h1 : W.cell? ⟨b, 1, none⟩ = some v1) (h2 : W.cell? ⟨b, 2, none⟩ = some v2) (h3 : W.cell? ⟨b, 3, none⟩ = some v3) (h4 : W.cell? ⟨b, 4, none⟩ = some v4)
    (h5 : W.cell? ⟨b, 5, none⟩ = some v5) (h6 : W.cell? ⟨b, 6, none⟩ = some v6) (h7 : W.cell? ⟨b, 7, none⟩ = some v7) (h8 : W.cell? ⟨b, 8, none⟩ = some v8) (h9 : W.cell? ⟨b, 9, none⟩ = some v9) : ∀ j u, [v0, v1, v2, v3, v4, v5, v6, v7, v8, v9][j]? = some u → W.cell? ⟨b, j, none⟩ = some u := by
  intro j u hj
  have : j = 0 ∨ j = 1 ∨ j = 2 ∨ j = 3 ∨ j = 4 ∨ j = 5 ∨ j = 6 ∨ j = 7 ∨ j = 8 ∨ j = 9 := by
    have := (List.getElem?_eq_some_iff.1 hj).1
    simp only [List.length_cons, List.length_nil] at this; omega
  rcases this with rfl | rfl | rfl | rfl | rfl | rfl | rfl | rfl | rfl | rfl <;> cases hj <;> assumption
theorem hide {p : Prop} (h : p) : Hid p := h
theorem plFroz {W : World} {b : Nat} (h : Dyn.PlainB W b) (o : Nat) : W.frozen? ⟨b, o, none⟩ = false := by
  obtain ⟨cs, t, h⟩ := h; simp [World.frozen?, h]
/-- the cells of a shape -/
def shC (k : Int) (a b c : P2) (r : Int) (lv pv : Value) : List Value := [.int .i64 k, .int .i64 a.x, .int .i64 a.y, .int .i64 b.x, .int .i64 b.y, .int .i64 c.x, .int .i64 c.y, .int .i64 r, lv, pv]
theorem shC_den {w : World} {F : Nat → Prop} {k : Int} {a b c : P2} {r : Int} {l : Ctr} {n : Nat} {add : Nat → Bool} {sub : Nat → Shp} {lv pv : Value} (hl : Dyn.DenC w F (cCtr l) lv) (hp : Dyn.DenC w F (dPt (.mk k a b c r l n add sub)) pv) : Dyn.DenL w F (cS (toSh (.mk k a b c r l n add sub))) (shC k a b c r lv pv) :=
  ⟨.p _ rfl, .p _ rfl, .p _ rfl, .p _ rfl, .p _ rfl, .p _ rfl, .p _ rfl, .p _ rfl, hl, hp, trivial⟩
theorem copy_count {k : Int} {a b c : P2} {r : Int} {l : Ctr} {n : Nat} {add : Nat → Bool} {sub : Nat → Shp} (hs : ShB (.mk k a b c r l n add sub)) (hcn : cntS (.mk k a b c r l n add sub) ≤ 100000000) {w : World} {F : Nat → Prop} (hF : ∀ b, F b → b < w.heap.size ∧ Dyn.PlainB w b) {lv pv : Value}
    (hl : Dyn.DenC w F (cCtr l) lv) (hp : Dyn.DenC w F (dPt (.mk k a b c r l n add sub)) pv) {W : World} (hW : Below w.heap.size w W) :
    Calls Try.prog 35 #[.agg (shC k a b c r lv pv).toArray] W fun e w' => e = .returned (.int .i64 (1 + (cntS (.mk k a b c r l n add sub) : Int))) ∧ Below W.heap.size W w' := by
  have hm : ∀ b, F b → F b ∧ W.heap[b]? = w.heap[b]? := fun b hb => ⟨hb, hW.block b (hF b hb).1⟩
  refine (calls_D (us := [.agg (shC k a b c r lv pv).toArray]) Try.func35 (by kernel_rfl) (by kernel_rfl) (count_ok _ hs hcn) W (F := F) (fun b hb => ⟨by have := (hF b hb).1; have := hW.size; omega, (hF b hb).2.of (hm b hb).2⟩) ⟨⟨_, rfl, shC_den (r := r) (hl.mono hm) (hp.mono hm)⟩, trivial⟩).mono ?_
  rintro e w' ⟨u, rfl, hu, hb⟩
  refine ⟨?_, hb⟩
  have e : u = _ := den_p hu
  rw [e]
theorem infoPart1 : (Try.prog.info? 45).map (·.size) = some 11 := by kernel_rfl
/-- the cells of the parts -/
theorem cq_row {F : Nat → Prop} {B g : Nat} {W : World} {G : Nat → Prop} {Bs : Nat} {s : Shp} {jb jo : Nat} {k : Int} {a b c : P2} {r : Int} {l : Ctr} {n : Nat} {add : Nat → Bool} {sub : Nat → Shp} {L : List Job} (h : CqI F B g W G Bs s (⟨jb, jo, .mk k a b c r l n add sub⟩ :: L)) {pb po pc : Nat} (hc : W.cell? ⟨jb, jo + 9, none⟩ = some (.slice (some ⟨pb, po, none⟩) n pc)) (hn : 0 < n) :
    ∃ (gv : Nat → Nat → Value) (CS : List Value), CS.length = n * 11 ∧ (∀ i, i < n → ∀ q, q < 11 → CS[i * 11 + q]? = some (gv i q)) ∧ (∀ v ∈ CS, v.oneCell' = true) ∧ (∀ j v, CS[j]? = some v → W.cell? ⟨pb, po + j, none⟩ = some v) ∧ (∀ i, i < n → ∀ q, q < 11 → Dyn.DenC W G ((partC (add i) (toSh (sub i))).getD q default) (gv i q)) ∧ pb < W.heap.size := by
  obtain ⟨pv, p1, p2⟩ := (h.job _ (List.mem_cons_self ..)).p
  have e : pv = .slice (some ⟨pb, po, none⟩) n pc := Option.some.inj (p1.symm.trans hc)
  subst e
  obtain ⟨oa, cap, e, q⟩ := parts_of p2
  obtain ⟨pb', po', gv, rfl, _, hG, hv⟩ := q hn
  cases e
  have dv : ∀ j, j < n * 11 → j / 11 < n ∧ j % 11 < 11 ∧ j / 11 * 11 + j % 11 = j := fun j hj => ⟨by omega, by omega, by omega⟩
  refine ⟨gv, (List.range (n * 11)).map fun j => gv (j / 11) (j % 11), by simp, fun i hi q hq => ?_, fun v hv' => ?_, fun j v hj => ?_, fun i hi q hq => (hv i hi q hq).2, plLt (h.ok.pl pb hG)⟩
  · rw [List.getElem?_map, List.getElem?_range (by omega)]
    show some (gv ((i * 11 + q) / 11) ((i * 11 + q) % 11)) = _
    rw [show (i * 11 + q) / 11 = i by omega, show (i * 11 + q) % 11 = q by omega]
  · simp only [List.mem_map, List.mem_range] at hv'
    obtain ⟨j, hj, rfl⟩ := hv'
    exact one_of_den (hv _ (dv j hj).1 _ (dv j hj).2.1).2
  · by_cases hl : j < n * 11
    · rw [List.getElem?_map, List.getElem?_range hl] at hj
      have hj' := Option.some.inj hj
      have z := (hv _ (dv j hl).1 _ (dv j hl).2.1).1
      rw [Nat.add_assoc, (dv j hl).2.2] at z
      exact z.trans (congrArg some hj')
    · rw [List.getElem?_eq_none (by simp; omega)] at hj; cases hj
/-- a round at a shape that has no parts -/
theorem cq_zero {e sh : TypeId} {F : Nat → Prop} {w wr w1 : World} {s : Shp} {gk g cap d : Nat} {G : Nat → Prop} {jb jo : Nat} {k : Int} {a b c : P2} {r : Int} {l : Ctr} {n : Nat} {add : Nat → Bool} {sub : Nat → Shp} {L : List Job} {u : Value}
    (HK : StkIs wr w.heap.size e 1 g cap (L.length + 1) (jbX (⟨jb, jo, .mk k a b c r l n add sub⟩ :: L))) (HI : CqI F w.heap.size g wr G w.heap.size s (⟨jb, jo, .mk k a b c r l n add sub⟩ :: L)) (HB : Below w.heap.size w wr) (HG : g ≠ w.heap.size + 1 ∧ jbM (⟨jb, jo, .mk k a b c r l n add sub⟩ :: L) ≤ gk ∧ gk ≤ 1 + cntS s)
    (HR : ∃ cs, wr.heap[w.heap.size + 1]? = some (.cells cs sh (0, 0)) ∧ cs.size = 10) (HD : d = L.length) (HB1 : Below wr.heap.size wr w1) (HU : Dyn.DenC w1 (fun b => G b ∨ (wr.heap.size ≤ b ∧ b < w1.heap.size ∧ Dyn.PlainB w1 b)) (cCtr l) u) (HZ : n = 0) :
    CqRel e sh F w s (jbM L) (.slice (some ⟨g, 0, none⟩) d cap) ((w1.setCell ⟨jb, jo + 8, none⟩ u).setCell ⟨jb, jo + 9, none⟩ (.slice none 0 0)) := by
  subst HD
  obtain ⟨cs, hr1, hr2⟩ := HR
  have hrl : w.heap.size + 1 < wr.heap.size := (Array.getElem?_eq_some_iff.1 hr1).1
  have hgl := HK.lt
  have hj := HI.job _ (List.mem_cons_self ..)
  have i1 := (CqI.ctr HI hrl hgl HB1 HU).zero HZ
  have kp : ∀ q, q ≠ jb → q < wr.heap.size → ((w1.setCell ⟨jb, jo + 8, none⟩ u).setCell ⟨jb, jo + 9, none⟩ (.slice none 0 0)).heap[q]? = wr.heap[q]? := fun q hq hl => ((setCell_off hq).trans (setCell_off hq)).trans (HB1.block q hl)
  have hb : Below w.heap.size w ((w1.setCell ⟨jb, jo + 8, none⟩ u).setCell ⟨jb, jo + 9, none⟩ (.slice none 0 0)) := ((HB.trans (HB1.mono HB.size)).setCell (p := ⟨jb, _, none⟩) hj.lo.1 _).setCell (p := ⟨jb, _, none⟩) hj.lo.1 _
  refine ⟨L, g, cap, _, rfl, (HK.pop (ys := [Job.ptr _]) rfl).kept (kp g (fun e => hj.g e.symm) hgl), i1, hb, HG.1, Nat.le_refl _, ?_, cs, (kp _ (fun e => hj.lo.2 e.symm) hrl).trans hr1, hr2⟩
  have e : jbM (⟨jb, jo, .mk k a b c r l n add sub⟩ :: L) = 1 + cntS (.mk k a b c r l n add sub) + jbM L := rfl
  have := HG.2
  omega
theorem ten_of : ∀ l : List Value, l.length = 10 → ∃ x0 x1 x2 x3 x4 x5 x6 x7 x8 x9, l = [x0, x1, x2, x3, x4, x5, x6, x7, x8, x9]
  | [x0, x1, x2, x3, x4, x5, x6, x7, x8, x9], _ => ⟨x0, x1, x2, x3, x4, x5, x6, x7, x8, x9, rfl⟩
/-- ten cells written -/
theorem ten_set {w W : World} {sh : TypeId} (h : ∃ cs, W.heap[w.heap.size + 1]? = some (.cells cs sh (0, 0)) ∧ cs.size = 10) (v0 v1 v2 v3 v4 v5 v6 v7 v8 v9 : Value) :
    ((((((((((W.setCell ⟨w.heap.size + 1, 0, none⟩ v0).setCell ⟨w.heap.size + 1, 1, none⟩ v1).setCell ⟨w.heap.size + 1, 2, none⟩ v2).setCell ⟨w.heap.size + 1, 3, none⟩ v3).setCell ⟨w.heap.size + 1, 4, none⟩ v4).setCell ⟨w.heap.size + 1, 5, none⟩ v5).setCell ⟨w.heap.size + 1, 6, none⟩ v6).setCell ⟨w.heap.size + 1, 7, none⟩ v7).setCell ⟨w.heap.size + 1, 8, none⟩ v8).setCell ⟨w.heap.size + 1, 9, none⟩ v9).heap[w.heap.size + 1]? = some (.cells #[v0, v1, v2, v3, v4, v5, v6, v7, v8, v9] sh (0, 0)) := by
  obtain ⟨cs, h1, h2⟩ := h
  obtain ⟨x0, x1, x2, x3, x4, x5, x6, x7, x8, x9, e⟩ := ten_of cs.toList (by simpa using h2)
  have ec : cs = #[x0, x1, x2, x3, x4, x5, x6, x7, x8, x9] := by rw [← Array.toArray_toList (xs := cs), e]
  subst ec
  rw [setCell_at (setCell_at (setCell_at (setCell_at (setCell_at (setCell_at (setCell_at (setCell_at (setCell_at (setCell_at h1)))))))))]
  simp
theorem ten_off {W : World} {b q : Nat} (hq : q ≠ b) (v0 v1 v2 v3 v4 v5 v6 v7 v8 v9 : Value) : ((((((((((W.setCell ⟨b, 0, none⟩ v0).setCell ⟨b, 1, none⟩ v1).setCell ⟨b, 2, none⟩ v2).setCell ⟨b, 3, none⟩ v3).setCell ⟨b, 4, none⟩ v4).setCell ⟨b, 5, none⟩ v5).setCell ⟨b, 6, none⟩ v6).setCell ⟨b, 7, none⟩ v7).setCell ⟨b, 8, none⟩ v8).setCell ⟨b, 9, none⟩ v9).heap[q]? = W.heap[q]? := by
  rw [setCell_off hq, setCell_off hq, setCell_off hq, setCell_off hq, setCell_off hq, setCell_off hq, setCell_off hq, setCell_off hq, setCell_off hq, setCell_off hq]
theorem ten_below {B : Nat} {w W : World} {b : Nat} (h : Below B w W) (hb : B ≤ b) (v0 v1 v2 v3 v4 v5 v6 v7 v8 v9 : Value) : Below B w ((((((((((W.setCell ⟨b, 0, none⟩ v0).setCell ⟨b, 1, none⟩ v1).setCell ⟨b, 2, none⟩ v2).setCell ⟨b, 3, none⟩ v3).setCell ⟨b, 4, none⟩ v4).setCell ⟨b, 5, none⟩ v5).setCell ⟨b, 6, none⟩ v6).setCell ⟨b, 7, none⟩ v7).setCell ⟨b, 8, none⟩ v8).setCell ⟨b, 9, none⟩ v9) :=
  (((((((((h.setCell (p := ⟨b, 0, none⟩) hb _).setCell (p := ⟨b, 1, none⟩) hb _).setCell (p := ⟨b, 2, none⟩) hb _).setCell (p := ⟨b, 3, none⟩) hb _).setCell (p := ⟨b, 4, none⟩) hb _).setCell (p := ⟨b, 5, none⟩) hb _).setCell (p := ⟨b, 6, none⟩) hb _).setCell (p := ⟨b, 7, none⟩) hb _).setCell (p := ⟨b, 8, none⟩) hb _).setCell (p := ⟨b, 9, none⟩) hb _
/-- the inner loop's head: the stack has i of the new jobs -/
def CqIn (e : TypeId) (B g : Nat) (w w4 : World) (g2 n : Nat) (sub : Nat → Shp) (L : List Job) (gk : Nat) (v iv : Value) (W : World) : Prop :=
  ∃ i g' cap' : Nat, iv = .int .i64 (i : Int) ∧ i + gk = n ∧ v = .slice (some ⟨g', 0, none⟩) (L.length + i) cap' ∧ StkIs W B e 1 g' cap' (L.length + i) (jbX (kids g2 sub i ++ L)) ∧ (∀ q, q < w4.heap.size → q ≠ g → W.heap[q]? = w4.heap[q]?) ∧ (g' = g ∨ w4.heap.size ≤ g') ∧ w4.heap.size ≤ W.heap.size ∧ Below B w W
/-- the copy's world -/
structure Row4 (w w3 w4 : World) (B : Nat) (pt : TypeId) (CS : List Value) : Prop where
  old : ∀ q, q < w3.heap.size → w4.heap[q]? = w3.heap[q]?
  new : w4.heap[w3.heap.size]? = some (.cells CS.toArray pt (0, 0))
  size : w4.heap.size = w3.heap.size + 1
  below : Below B w w4
theorem row4 {w w3 : World} {B : Nat} {pt : TypeId} {z : Array Value} (CS : List Value) (hb : Below B w w3) (hB : B ≤ w3.heap.size) : Row4 w w3 ((w3.alloc (.cells z pt)).setRow w3.heap.size CS.toArray) B pt CS where
  old := fun q hq => (setRow_other (w3.alloc (.cells z pt)) w3.heap.size q CS.toArray (by omega)).trans (Below.heap_alloc w3 _ q hq)
  new := setRow_heap _ _ _ _ _ _ (heap_newC w3 _)
  size := by
    have : ((w3.alloc (.cells z pt)).setRow w3.heap.size CS.toArray).heap.size = (w3.alloc (.cells z pt)).heap.size := by simp [World.setRow]
    rw [this, World.size_alloc]
  below := below_setRow (hb.alloc hB _) hB _
theorem cq_in0 {e pt : TypeId} {w wr w3 w4 : World} {g cap d : Nat} {j : Job} {L : List Job} {sub : Nat → Shp} {n g2 : Nat} {CS : List Value} (HK : StkIs wr w.heap.size e 1 g cap (L.length + 1) (jbX (j :: L))) (HD : d = L.length) (R : Row4 w w3 w4 w.heap.size pt CS) (hg : w4.heap[g]? = wr.heap[g]?) :
    CqIn e w.heap.size g w w4 g2 n sub L n (.slice (some ⟨g, 0, none⟩) d cap) (.int .i64 0) w4 := by
  subst HD
  exact ⟨0, g, cap, rfl, by omega, rfl, (HK.pop (ys := [j.ptr]) rfl).kept hg, fun _ _ _ => rfl, .inl rfl, Nat.le_refl _, R.below⟩
theorem cq_in1 {e : TypeId} {B g : Nat} {w w4 W w1 : World} {g2 n i g' cap' gk : Nat} {sub : Nat → Shp} {L : List Job} {v' : Value} {o : Obj} (hB : B ≤ W.heap.size) (hi : i < n) (hgk : i + gk = n) (hs : StkIs W B e 1 g' cap' (L.length + i) (jbX (kids g2 sub i ++ L))) (hk : ∀ q, q < w4.heap.size → q ≠ g → W.heap[q]? = w4.heap[q]?) (hg : g' = g ∨ w4.heap.size ≤ g') (hz : w4.heap.size ≤ W.heap.size) (hb : Below B w W)
    (ho : w1.ownsRow B e 1 v' (L.length + i + 1) (jbX (kids g2 sub i ++ L) ++ [.pointer (some ⟨g2, i * 11 + 1, none⟩)])) (hgr : (W.alloc o).grownBy w1 (some g')) (hat : v'.ownBlock = some g' ∨ v'.ownBlock = some (W.alloc o).heap.size) :
    ∃ k, k < gk ∧ CqIn e B g w w4 g2 n sub L k v' (.int .i64 ((i : Int) + 1)) w1 := by
  obtain ⟨g1, c1, rfl, hs1⟩ := StkIs.of_owns ho (by omega)
  have hgB : B ≤ g' := by obtain ⟨_, h, _⟩ := hs; exact h
  have hsz : (W.alloc o).heap.size = W.heap.size + 1 := World.size_alloc _ _
  refine ⟨gk - 1, by omega, i + 1, g1, c1, by simp, by omega, rfl, hs1, fun q hq hn => ?_, ?_, ?_, (hb.alloc hB o).grown hgr (by omega) (fun k e => by cases e; exact hgB)⟩
  · rw [hgr.block q (by omega) (fun e => by cases e; rcases hg with hg | hg <;> omega), Below.heap_alloc W o q (by omega)]
    exact hk q hq hn
  · rcases hat with hat | hat
    · have : g1 = g' := by simpa [Value.ownBlock] using hat
      omega
    · have : g1 = (W.alloc o).heap.size := by simpa [Value.ownBlock] using hat
      omega
  · have := hgr.size; omega
/-- a round at a shape that has parts -/
theorem cq_fin {e sh pt : TypeId} {F : Nat → Prop} {w w2 w3 w4 W : World} {s : Shp} {gk g : Nat} {G : Nat → Prop} {jb jo : Nat} {k : Int} {a b c : P2} {r : Int} {l : Ctr} {n : Nat} {add : Nat → Bool} {sub : Nat → Shp} {L : List Job} {gv : Nat → Nat → Value} {CS : List Value}
    (HI : CqI F w.heap.size g w2 G w.heap.size s (⟨jb, jo, .mk k a b c r l n add sub⟩ :: L)) (HG : g ≠ w.heap.size + 1 ∧ jbM (⟨jb, jo, .mk k a b c r l n add sub⟩ :: L) ≤ gk ∧ gk ≤ 1 + cntS s) (hgl : g < w2.heap.size)
    (HR : ∃ cs, w2.heap[w.heap.size + 1]? = some (.cells cs sh (0, 0)) ∧ cs.size = 10) (H3 : ∀ q, q < w2.heap.size → w3.heap[q]? = w2.heap[q]?) (H3s : w3.heap.size = w2.heap.size + 1) (R : Row4 w w3 w4 w.heap.size pt CS) (HC : ∀ i, i < n → ∀ q, q < 11 → CS[i * 11 + q]? = some (gv i q)) (HV : ∀ i, i < n → ∀ q, q < 11 → Dyn.DenC w2 G ((partC (add i) (toSh (sub i))).getD q default) (gv i q))
    {v : Value} {i g' cap' : Nat} (hi : i = n) (hv : v = .slice (some ⟨g', 0, none⟩) (L.length + i) cap') (hs : StkIs W w.heap.size e 1 g' cap' (L.length + i) (jbX (kids w3.heap.size sub i ++ L))) (hk : ∀ q, q < w4.heap.size → q ≠ g → W.heap[q]? = w4.heap[q]?) (hg : g' = g ∨ w4.heap.size ≤ g') (hb : Below w.heap.size w W) :
    CqRel e sh F w s (jbM (kids w3.heap.size sub n ++ L)) v (W.setCell ⟨jb, jo + 9, none⟩ (.slice (some ⟨w3.heap.size, 0, none⟩) n n)) := by
  subst hi; subst hv
  obtain ⟨cs, hr1, hr2⟩ := HR
  have hrl : w.heap.size + 1 < w2.heap.size := (Array.getElem?_eq_some_iff.1 hr1).1
  have hz := R.size
  have hj := HI.job _ (List.mem_cons_self ..)
  have hjl : jb < w2.heap.size := plLt hj.pl
  have hjg : jb ≠ g := hj.g
  have I4 := HI.newRow (W3 := w4) (g2 := w3.heap.size) hrl hgl rfl HV (fun q hq => (R.old q (by omega)).trans (H3 q hq)) (by omega) ⟨_, _, R.new⟩ (fun i hi q hq => by
    simp only [World.cell?, R.new, Option.isSome_none, Bool.false_eq_true, if_false]
    simpa using HC i hi q hq)
  have I5 := I4.1.fin hk hg I4.2
  have w2w : ∀ q, q < w2.heap.size → q ≠ g → q ≠ jb → (W.setCell ⟨jb, jo + 9, none⟩ (.slice (some ⟨w3.heap.size, 0, none⟩) i i)).heap[q]? = w2.heap[q]? := fun q hq hn hj => (setCell_off hj).trans ((hk q (by omega) hn).trans ((R.old q (by omega)).trans (H3 q hq)))
  have hgj : g' ≠ jb := by rcases hg with hg | hg <;> omega
  have hgr : g' ≠ w.heap.size + 1 := by rcases hg with hg | hg <;> have := HG.1 <;> omega
  have hl : (kids w3.heap.size sub i ++ L).length = L.length + i := by rw [List.length_append, kids_len]; omega
  have hm := kids_m w3.heap.size sub L i
  have e : jbM (⟨jb, jo, .mk k a b c r l i add sub⟩ :: L) = 1 + sumC (fun i => 1 + cntS (sub i)) i + jbM L := rfl
  refine ⟨kids w3.heap.size sub i ++ L, g', cap', _, by rw [hl], by rw [hl]; exact hs.kept (setCell_off hgj), I5, hb.setCell (p := ⟨jb, _, none⟩) hj.lo.1 _, hgr, Nat.le_refl _, ?_, cs, (w2w _ hrl (fun e => HG.1 e.symm) (fun e => hj.lo.2 e.symm)).trans hr1, hr2⟩
  have := HG.2
  omega
end Go.Proofs.Ytfooaikpcbnchaa
