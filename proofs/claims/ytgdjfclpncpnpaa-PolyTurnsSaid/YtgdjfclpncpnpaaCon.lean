/-
  OWN WORK, written by wip/gen.py. The contracts of the scalar functions: each is what the kernel reckons the Go text to on open terms.
-/
import Derived.Test.YtgdjfclpncpnpaaGeo
import Derived.Test.YtgdjfclpncpnpaaProg
import Derived.KernelRfl
namespace Go.Proofs.Ytgdjfclpncpnpaa
open Go Go.RowKit Sym

theorem mo : Try.prog.follows .mixedOrders = true := by kernel_rfl
def tb0 : List Entry := []
theorem tb0_ok : ∀ e ∈ tb0, EntryOk Try.prog e := fun e he => by cases he
theorem box_within_ok (a : Int) : CallOk Try.prog 54 [vi a] (vb (within a)) := fnOk (fuel := 16) (tbOf_ok tb0_ok) mo Try.func54 (by kernel_rfl) (by kernel_rfl) (by kernel_rfl) (by kernel_rfl)
theorem box_gap_ok (a : Int) (b : Int) (c : Int) : CallOk Try.prog 52 [vi a, vi b, vi c] (vi (gap a b c)) := fnOk (fuel := 16) (tbOf_ok tb0_ok) mo Try.func52 (by kernel_rfl) (by kernel_rfl) (by kernel_rfl) (by kernel_rfl)
theorem box_reach_ok (a : Int) (b : Int) (c : Int) : CallOk Try.prog 53 [vi a, vi b, vi c] (vi (reach a b c)) := fnOk (fuel := 16) (tbOf_ok tb0_ok) mo Try.func53 (by kernel_rfl) (by kernel_rfl) (by kernel_rfl) (by kernel_rfl)
theorem box_Has_ok (a : B4) (b : P2) : CallOk Try.prog 27 [bx a, pt b] (vb (boxHas a b)) := fnOk (fuel := 16) (tbOf_ok tb0_ok) mo Try.func27 (by kernel_rfl) (by kernel_rfl) (by kernel_rfl) (by kernel_rfl)
theorem box_empty_ok (a : B4) : CallOk Try.prog 51 [bx a] (vb (emptyBx a)) := fnOk (fuel := 16) (tbOf_ok tb0_ok) mo Try.func51 (by kernel_rfl) (by kernel_rfl) (by kernel_rfl) (by kernel_rfl)
theorem box_Corners_ok (a : B4) : CallOk Try.prog 34 [bx a] (corners a) := fnOk (fuel := 16) (tbOf_ok tb0_ok) mo Try.func34 (by kernel_rfl) (by kernel_rfl) (by kernel_rfl) (by kernel_rfl)
theorem box_Cross_ok (a : P2) (b : P2) (c : P2) : CallOk Try.prog 36 [pt a, pt b, pt c] (vi (cross a b c)) := fnOk (fuel := 16) (tbOf_ok tb0_ok) mo Try.func36 (by kernel_rfl) (by kernel_rfl) (by kernel_rfl) (by kernel_rfl)
theorem disc_square_ok (a : Int) : CallOk Try.prog 47 [vi a] (vi (square a)) := fnOk (fuel := 16) (tbOf_ok tb0_ok) mo Try.func47 (by kernel_rfl) (by kernel_rfl) (by kernel_rfl) (by kernel_rfl)
theorem wide_Abs_ok (a : Int) : CallOk Try.prog 72 [vi a] (vu (wabs a)) := fnOk (fuel := 16) (tbOf_ok tb0_ok) mo Try.func72 (by kernel_rfl) (by kernel_rfl) (by kernel_rfl) (by kernel_rfl)
theorem bits_Mul64_ok (a : Int) (b : Int) : CallOk Try.prog 73 [vu a, vu b] (.tuple ⟨[vu (mulHi a b), vu (mulLo a b)]⟩) := fnOk (fuel := 16) (tbOf_ok tb0_ok) mo Try.func73 (by kernel_rfl) (by kernel_rfl) (by kernel_rfl) (by kernel_rfl)
theorem cmp_isNaN_uint64_ok (a : Int) : CallOk Try.prog 75 [vu a] (vb (a != a)) := fnOk (fuel := 16) (tbOf_ok tb0_ok) mo Try.func75 (by kernel_rfl) (by kernel_rfl) (by kernel_rfl) (by kernel_rfl)
theorem bar_void_ok (a : P2) (b : P2) (c : Int) : CallOk Try.prog 58 [pt a, pt b, vi c] (vb (barVoid a b c)) := fnOk (fuel := 16) (tbOf_ok tb0_ok) mo Try.func58 (by kernel_rfl) (by kernel_rfl) (by kernel_rfl) (by kernel_rfl)
theorem bar_past_ok (a : P2) (b : P2) (c : P2) : CallOk Try.prog 60 [pt a, pt b, pt c] (vi (past a b c)) := fnOk (fuel := 16) (tbOf_ok tb0_ok) mo Try.func60 (by kernel_rfl) (by kernel_rfl) (by kernel_rfl) (by kernel_rfl)
theorem poly_spot_ok (a : P2) : CallOk Try.prog 57 [pt a] (bx ⟨a.x, a.y, a.x, a.y⟩) := fnOk (fuel := 16) (tbOf_ok tb0_ok) mo Try.func57 (by kernel_rfl) (by kernel_rfl) (by kernel_rfl) (by kernel_rfl)
theorem heliographref1_Abs_ok (a : Int) : CallOk Try.prog 74 [vi a] (vu (rAbs a)) := fnOk (fuel := 16) (tbOf_ok tb0_ok) mo Try.func74 (by kernel_rfl) (by kernel_rfl) (by kernel_rfl) (by kernel_rfl)
theorem heliographref1_Mul_ok (a : Int) (b : Int) : CallOk Try.prog 70 [vu a, vu b] (wd (rMul a b)) := fnOk (fuel := 16) (tbOf_ok tb0_ok) mo Try.func70 (by kernel_rfl) (by kernel_rfl) (by kernel_rfl) (by kernel_rfl)
theorem heliographref1_Cmp_ok (a : W2) (b : W2) : CallOk Try.prog 68 [wd a, wd b] (vi (rCmp a b)) := fnOk (fuel := 16) (tbOf_ok tb0_ok) mo Try.func68 (by kernel_rfl) (by kernel_rfl) (by kernel_rfl) (by kernel_rfl)
theorem heliographref1_BoxHas_ok (a : B4) (b : P2) : CallOk Try.prog 41 [bx a, pt b] (vb (rBoxHas a b)) := fnOk (fuel := 16) (tbOf_ok tb0_ok) mo Try.func41 (by kernel_rfl) (by kernel_rfl) (by kernel_rfl) (by kernel_rfl)
theorem heliographref1_Corners_ok (a : B4) : CallOk Try.prog 26 [bx a] (corners a) := fnOk (fuel := 16) (tbOf_ok tb0_ok) mo Try.func26 (by kernel_rfl) (by kernel_rfl) (by kernel_rfl) (by kernel_rfl)
theorem heliographref1_Dist_ok (a : P2) (b : P2) : CallOk Try.prog 50 [pt a, pt b] (vi (rDist a b)) := fnOk (fuel := 16) (tbOf_ok tb0_ok) mo Try.func50 (by kernel_rfl) (by kernel_rfl) (by kernel_rfl) (by kernel_rfl)
theorem heliographref1_Cross_ok (a : P2) (b : P2) (c : P2) : CallOk Try.prog 62 [pt a, pt b, pt c] (vi (cross a b c)) := fnOk (fuel := 16) (tbOf_ok tb0_ok) mo Try.func62 (by kernel_rfl) (by kernel_rfl) (by kernel_rfl) (by kernel_rfl)
theorem heliographref1_Dot_ok (a : P2) (b : P2) (c : P2) : CallOk Try.prog 61 [pt a, pt b, pt c] (vi (rDot a b c)) := fnOk (fuel := 16) (tbOf_ok tb0_ok) mo Try.func61 (by kernel_rfl) (by kernel_rfl) (by kernel_rfl) (by kernel_rfl)
theorem heliographlaw4_Pt_ok (a : P2) : CallOk Try.prog 15 [pt a] (pt (lPt a)) := fnOk (fuel := 16) (tbOf_ok tb0_ok) mo Try.func15 (by kernel_rfl) (by kernel_rfl) (by kernel_rfl) (by kernel_rfl)
theorem heliographlaw5_R_ok (a : Int) : CallOk Try.prog 16 [vi a] (vi (lR a)) := fnOk (fuel := 16) (tbOf_ok tb0_ok) mo Try.func16 (by kernel_rfl) (by kernel_rfl) (by kernel_rfl) (by kernel_rfl)
theorem heliographlaw5_Small_ok (a : B4) : CallOk Try.prog 21 [bx a] (bx (lSmall a)) := fnOk (fuel := 16) (tbOf_ok tb0_ok) mo Try.func21 (by kernel_rfl) (by kernel_rfl) (by kernel_rfl) (by kernel_rfl)
def tb1_0 : List Entry := (54, en1 dI (fun a => vb (within a))) :: tb0
theorem tb1_0_ok : ∀ e ∈ tb1_0, EntryOk Try.prog e := List.forall_mem_cons.2 ⟨en1_ok dI_eq box_within_ok, tb0_ok⟩
def tb1_1 : List Entry := (52, en3 dI dI dI (fun a b c => vi (gap a b c))) :: tb1_0
theorem tb1_1_ok : ∀ e ∈ tb1_1, EntryOk Try.prog e := List.forall_mem_cons.2 ⟨en3_ok dI_eq dI_eq dI_eq box_gap_ok, tb1_0_ok⟩
def tb1_2 : List Entry := (53, en3 dI dI dI (fun a b c => vi (reach a b c))) :: tb1_1
theorem tb1_2_ok : ∀ e ∈ tb1_2, EntryOk Try.prog e := List.forall_mem_cons.2 ⟨en3_ok dI_eq dI_eq dI_eq box_reach_ok, tb1_1_ok⟩
def tb1_3 : List Entry := (27, en2 dBx dP (fun a b => vb (boxHas a b))) :: tb1_2
theorem tb1_3_ok : ∀ e ∈ tb1_3, EntryOk Try.prog e := List.forall_mem_cons.2 ⟨en2_ok dBx_eq dP_eq box_Has_ok, tb1_2_ok⟩
def tb1_4 : List Entry := (51, en1 dBx (fun a => vb (emptyBx a))) :: tb1_3
theorem tb1_4_ok : ∀ e ∈ tb1_4, EntryOk Try.prog e := List.forall_mem_cons.2 ⟨en1_ok dBx_eq box_empty_ok, tb1_3_ok⟩
def tb1_5 : List Entry := (34, en1 dBx (fun a => corners a)) :: tb1_4
theorem tb1_5_ok : ∀ e ∈ tb1_5, EntryOk Try.prog e := List.forall_mem_cons.2 ⟨en1_ok dBx_eq box_Corners_ok, tb1_4_ok⟩
def tb1_6 : List Entry := (36, en3 dP dP dP (fun a b c => vi (cross a b c))) :: tb1_5
theorem tb1_6_ok : ∀ e ∈ tb1_6, EntryOk Try.prog e := List.forall_mem_cons.2 ⟨en3_ok dP_eq dP_eq dP_eq box_Cross_ok, tb1_5_ok⟩
def tb1_7 : List Entry := (47, en1 dI (fun a => vi (square a))) :: tb1_6
theorem tb1_7_ok : ∀ e ∈ tb1_7, EntryOk Try.prog e := List.forall_mem_cons.2 ⟨en1_ok dI_eq disc_square_ok, tb1_6_ok⟩
def tb1_8 : List Entry := tb1_7
theorem tb1_8_ok : ∀ e ∈ tb1_8, EntryOk Try.prog e := tb1_7_ok
def tb1_9 : List Entry := (72, en1 dI (fun a => vu (wabs a))) :: tb1_8
theorem tb1_9_ok : ∀ e ∈ tb1_9, EntryOk Try.prog e := List.forall_mem_cons.2 ⟨en1_ok dI_eq wide_Abs_ok, tb1_8_ok⟩
def tb1_10 : List Entry := (73, en2 dU dU (fun a b => .tuple ⟨[vu (mulHi a b), vu (mulLo a b)]⟩)) :: tb1_9
theorem tb1_10_ok : ∀ e ∈ tb1_10, EntryOk Try.prog e := List.forall_mem_cons.2 ⟨en2_ok dU_eq dU_eq bits_Mul64_ok, tb1_9_ok⟩
def tb1_11 : List Entry := (75, en1 dU (fun a => vb (a != a))) :: tb1_10
theorem tb1_11_ok : ∀ e ∈ tb1_11, EntryOk Try.prog e := List.forall_mem_cons.2 ⟨en1_ok dU_eq cmp_isNaN_uint64_ok, tb1_10_ok⟩
def tb1_12 : List Entry := (58, en3 dP dP dI (fun a b c => vb (barVoid a b c))) :: tb1_11
theorem tb1_12_ok : ∀ e ∈ tb1_12, EntryOk Try.prog e := List.forall_mem_cons.2 ⟨en3_ok dP_eq dP_eq dI_eq bar_void_ok, tb1_11_ok⟩
def tb1_13 : List Entry := (60, en3 dP dP dP (fun a b c => vi (past a b c))) :: tb1_12
theorem tb1_13_ok : ∀ e ∈ tb1_13, EntryOk Try.prog e := List.forall_mem_cons.2 ⟨en3_ok dP_eq dP_eq dP_eq bar_past_ok, tb1_12_ok⟩
def tb1_14 : List Entry := (57, en1 dP (fun a => bx ⟨a.x, a.y, a.x, a.y⟩)) :: tb1_13
theorem tb1_14_ok : ∀ e ∈ tb1_14, EntryOk Try.prog e := List.forall_mem_cons.2 ⟨en1_ok dP_eq poly_spot_ok, tb1_13_ok⟩
def tb1_15 : List Entry := (74, en1 dI (fun a => vu (rAbs a))) :: tb1_14
theorem tb1_15_ok : ∀ e ∈ tb1_15, EntryOk Try.prog e := List.forall_mem_cons.2 ⟨en1_ok dI_eq heliographref1_Abs_ok, tb1_14_ok⟩
def tb1_16 : List Entry := (70, en2 dU dU (fun a b => wd (rMul a b))) :: tb1_15
theorem tb1_16_ok : ∀ e ∈ tb1_16, EntryOk Try.prog e := List.forall_mem_cons.2 ⟨en2_ok dU_eq dU_eq heliographref1_Mul_ok, tb1_15_ok⟩
def tb1_17 : List Entry := (68, en2 dW dW (fun a b => vi (rCmp a b))) :: tb1_16
theorem tb1_17_ok : ∀ e ∈ tb1_17, EntryOk Try.prog e := List.forall_mem_cons.2 ⟨en2_ok dW_eq dW_eq heliographref1_Cmp_ok, tb1_16_ok⟩
def tb1_18 : List Entry := (41, en2 dBx dP (fun a b => vb (rBoxHas a b))) :: tb1_17
theorem tb1_18_ok : ∀ e ∈ tb1_18, EntryOk Try.prog e := List.forall_mem_cons.2 ⟨en2_ok dBx_eq dP_eq heliographref1_BoxHas_ok, tb1_17_ok⟩
def tb1_19 : List Entry := tb1_18
theorem tb1_19_ok : ∀ e ∈ tb1_19, EntryOk Try.prog e := tb1_18_ok
def tb1_20 : List Entry := (26, en1 dBx (fun a => corners a)) :: tb1_19
theorem tb1_20_ok : ∀ e ∈ tb1_20, EntryOk Try.prog e := List.forall_mem_cons.2 ⟨en1_ok dBx_eq heliographref1_Corners_ok, tb1_19_ok⟩
def tb1_21 : List Entry := (50, en2 dP dP (fun a b => vi (rDist a b))) :: tb1_20
theorem tb1_21_ok : ∀ e ∈ tb1_21, EntryOk Try.prog e := List.forall_mem_cons.2 ⟨en2_ok dP_eq dP_eq heliographref1_Dist_ok, tb1_20_ok⟩
def tb1_22 : List Entry := (62, en3 dP dP dP (fun a b c => vi (cross a b c))) :: tb1_21
theorem tb1_22_ok : ∀ e ∈ tb1_22, EntryOk Try.prog e := List.forall_mem_cons.2 ⟨en3_ok dP_eq dP_eq dP_eq heliographref1_Cross_ok, tb1_21_ok⟩
def tb1_23 : List Entry := (61, en3 dP dP dP (fun a b c => vi (rDot a b c))) :: tb1_22
theorem tb1_23_ok : ∀ e ∈ tb1_23, EntryOk Try.prog e := List.forall_mem_cons.2 ⟨en3_ok dP_eq dP_eq dP_eq heliographref1_Dot_ok, tb1_22_ok⟩
def tb1_24 : List Entry := tb1_23
theorem tb1_24_ok : ∀ e ∈ tb1_24, EntryOk Try.prog e := tb1_23_ok
def tb1_25 : List Entry := (15, en1 dP (fun a => pt (lPt a))) :: tb1_24
theorem tb1_25_ok : ∀ e ∈ tb1_25, EntryOk Try.prog e := List.forall_mem_cons.2 ⟨en1_ok dP_eq heliographlaw4_Pt_ok, tb1_24_ok⟩
def tb1_26 : List Entry := (16, en1 dI (fun a => vi (lR a))) :: tb1_25
theorem tb1_26_ok : ∀ e ∈ tb1_26, EntryOk Try.prog e := List.forall_mem_cons.2 ⟨en1_ok dI_eq heliographlaw5_R_ok, tb1_25_ok⟩
def tb1_27 : List Entry := (21, en1 dBx (fun a => bx (lSmall a))) :: tb1_26
theorem tb1_27_ok : ∀ e ∈ tb1_27, EntryOk Try.prog e := List.forall_mem_cons.2 ⟨en1_ok dBx_eq heliographlaw5_Small_ok, tb1_26_ok⟩
def tb1 : List Entry := tb1_27
theorem tb1_ok : ∀ e ∈ tb1, EntryOk Try.prog e := tb1_27_ok
theorem box_Ok_ok (a : B4) : CallOk Try.prog 33 [bx a] (vb (boxOk a)) := fnOk (fuel := 16) (tbOf_ok tb1_ok) mo Try.func33 (by kernel_rfl) (by kernel_rfl) (by kernel_rfl) (by kernel_rfl)
theorem box_Near_ok (a : B4) (b : P2) : CallOk Try.prog 30 [bx a, pt b] (vi (near a b)) := fnOk (fuel := 16) (tbOf_ok tb1_ok) mo Try.func30 (by kernel_rfl) (by kernel_rfl) (by kernel_rfl) (by kernel_rfl)
theorem box_Most_ok (a : B4) (b : P2) : CallOk Try.prog 31 [bx a, pt b] (vi (most a b)) := fnOk (fuel := 16) (tbOf_ok tb1_ok) mo Try.func31 (by kernel_rfl) (by kernel_rfl) (by kernel_rfl) (by kernel_rfl)
theorem box_Apart_ok (a : B4) (b : B4) : CallOk Try.prog 28 [bx a, bx b] (vb (apart a b)) := fnOk (fuel := 16) (tbOf_ok tb1_ok) mo Try.func28 (by kernel_rfl) (by kernel_rfl) (by kernel_rfl) (by kernel_rfl)
theorem box_Meets_ok (a : B4) (b : P2) (c : P2) : CallOk Try.prog 35 [bx a, pt b, pt c] (vb (meets a b c)) := fnOk (fuel := 16) (tbOf_ok tb1_ok) mo Try.func35 (by kernel_rfl) (by kernel_rfl) (by kernel_rfl) (by kernel_rfl)
theorem wide_Mul_ok (a : Int) (b : Int) : CallOk Try.prog 67 [vu a, vu b] (wd (wmul a b)) := fnOk (fuel := 16) (tbOf_ok tb1_ok) mo Try.func67 (by kernel_rfl) (by kernel_rfl) (by kernel_rfl) (by kernel_rfl)
theorem cmp_Compare_uint64_ok (a : Int) (b : Int) : CallOk Try.prog 71 [vu a, vu b] (vi (ucmp a b)) := fnOk (fuel := 16) (tbOf_ok tb1_ok) mo Try.func71 (by kernel_rfl) (by kernel_rfl) (by kernel_rfl) (by kernel_rfl)
theorem heliographref1_Sq_ok (a : Int) : CallOk Try.prog 69 [vi a] (wd (rSq a)) := fnOk (fuel := 16) (tbOf_ok tb1_ok) mo Try.func69 (by kernel_rfl) (by kernel_rfl) (by kernel_rfl) (by kernel_rfl)
theorem heliographref1_Near_ok (a : B4) (b : P2) : CallOk Try.prog 48 [bx a, pt b] (vi (rNear a b)) := fnOk (fuel := 16) (tbOf_ok tb1_ok) mo Try.func48 (by kernel_rfl) (by kernel_rfl) (by kernel_rfl) (by kernel_rfl)
theorem heliographref1_Most_ok (a : B4) (b : P2) : CallOk Try.prog 49 [bx a, pt b] (vi (rMost a b)) := fnOk (fuel := 16) (tbOf_ok tb1_ok) mo Try.func49 (by kernel_rfl) (by kernel_rfl) (by kernel_rfl) (by kernel_rfl)
theorem heliographref1_DiscHas_ok (a : P2) (b : P2) (c : Int) : CallOk Try.prog 24 [pt a, pt b, vi c] (vb (rDiscHas a b c)) := fnOk (fuel := 16) (tbOf_ok tb1_ok) mo Try.func24 (by kernel_rfl) (by kernel_rfl) (by kernel_rfl) (by kernel_rfl)
theorem heliographlaw4_Box_ok (a : B4) : CallOk Try.prog 20 [bx a] (bx (lBox a)) := fnOk (fuel := 16) (tbOf_ok tb1_ok) mo Try.func20 (by kernel_rfl) (by kernel_rfl) (by kernel_rfl) (by kernel_rfl)
def tb2_0 : List Entry := (33, en1 dBx (fun a => vb (boxOk a))) :: tb1
theorem tb2_0_ok : ∀ e ∈ tb2_0, EntryOk Try.prog e := List.forall_mem_cons.2 ⟨en1_ok dBx_eq box_Ok_ok, tb1_ok⟩
def tb2_1 : List Entry := (30, en2 dBx dP (fun a b => vi (near a b))) :: tb2_0
theorem tb2_1_ok : ∀ e ∈ tb2_1, EntryOk Try.prog e := List.forall_mem_cons.2 ⟨en2_ok dBx_eq dP_eq box_Near_ok, tb2_0_ok⟩
def tb2_2 : List Entry := (31, en2 dBx dP (fun a b => vi (most a b))) :: tb2_1
theorem tb2_2_ok : ∀ e ∈ tb2_2, EntryOk Try.prog e := List.forall_mem_cons.2 ⟨en2_ok dBx_eq dP_eq box_Most_ok, tb2_1_ok⟩
def tb2_3 : List Entry := (28, en2 dBx dBx (fun a b => vb (apart a b))) :: tb2_2
theorem tb2_3_ok : ∀ e ∈ tb2_3, EntryOk Try.prog e := List.forall_mem_cons.2 ⟨en2_ok dBx_eq dBx_eq box_Apart_ok, tb2_2_ok⟩
def tb2_4 : List Entry := (35, en3 dBx dP dP (fun a b c => vb (meets a b c))) :: tb2_3
theorem tb2_4_ok : ∀ e ∈ tb2_4, EntryOk Try.prog e := List.forall_mem_cons.2 ⟨en3_ok dBx_eq dP_eq dP_eq box_Meets_ok, tb2_3_ok⟩
def tb2_5 : List Entry := (67, en2 dU dU (fun a b => wd (wmul a b))) :: tb2_4
theorem tb2_5_ok : ∀ e ∈ tb2_5, EntryOk Try.prog e := List.forall_mem_cons.2 ⟨en2_ok dU_eq dU_eq wide_Mul_ok, tb2_4_ok⟩
def tb2_6 : List Entry := (71, en2 dU dU (fun a b => vi (ucmp a b))) :: tb2_5
theorem tb2_6_ok : ∀ e ∈ tb2_6, EntryOk Try.prog e := List.forall_mem_cons.2 ⟨en2_ok dU_eq dU_eq cmp_Compare_uint64_ok, tb2_5_ok⟩
def tb2_7 : List Entry := tb2_6
theorem tb2_7_ok : ∀ e ∈ tb2_7, EntryOk Try.prog e := tb2_6_ok
def tb2_8 : List Entry := (69, en1 dI (fun a => wd (rSq a))) :: tb2_7
theorem tb2_8_ok : ∀ e ∈ tb2_8, EntryOk Try.prog e := List.forall_mem_cons.2 ⟨en1_ok dI_eq heliographref1_Sq_ok, tb2_7_ok⟩
def tb2_9 : List Entry := (48, en2 dBx dP (fun a b => vi (rNear a b))) :: tb2_8
theorem tb2_9_ok : ∀ e ∈ tb2_9, EntryOk Try.prog e := List.forall_mem_cons.2 ⟨en2_ok dBx_eq dP_eq heliographref1_Near_ok, tb2_8_ok⟩
def tb2_10 : List Entry := (49, en2 dBx dP (fun a b => vi (rMost a b))) :: tb2_9
theorem tb2_10_ok : ∀ e ∈ tb2_10, EntryOk Try.prog e := List.forall_mem_cons.2 ⟨en2_ok dBx_eq dP_eq heliographref1_Most_ok, tb2_9_ok⟩
def tb2_11 : List Entry := tb2_10
theorem tb2_11_ok : ∀ e ∈ tb2_11, EntryOk Try.prog e := tb2_10_ok
def tb2_12 : List Entry := (24, en3 dP dP dI (fun a b c => vb (rDiscHas a b c))) :: tb2_11
theorem tb2_12_ok : ∀ e ∈ tb2_12, EntryOk Try.prog e := List.forall_mem_cons.2 ⟨en3_ok dP_eq dP_eq dI_eq heliographref1_DiscHas_ok, tb2_11_ok⟩
def tb2_13 : List Entry := (20, en1 dBx (fun a => bx (lBox a))) :: tb2_12
theorem tb2_13_ok : ∀ e ∈ tb2_13, EntryOk Try.prog e := List.forall_mem_cons.2 ⟨en1_ok dBx_eq heliographlaw4_Box_ok, tb2_12_ok⟩
def tb2 : List Entry := tb2_13
theorem tb2_ok : ∀ e ∈ tb2, EntryOk Try.prog e := tb2_13_ok
theorem wide_Sq_ok (a : Int) : CallOk Try.prog 66 [vi a] (wd (wsq a)) := fnOk (fuel := 16) (tbOf_ok tb2_ok) mo Try.func66 (by kernel_rfl) (by kernel_rfl) (by kernel_rfl) (by kernel_rfl)
theorem wide_Cmp_ok (a : W2) (b : W2) : CallOk Try.prog 65 [wd a, wd b] (vi (wcmp a b)) := fnOk (fuel := 16) (tbOf_ok tb2_ok) mo Try.func65 (by kernel_rfl) (by kernel_rfl) (by kernel_rfl) (by kernel_rfl)
theorem disc_Has_ok (a : P2) (b : P2) (c : Int) : CallOk Try.prog 18 [pt a, pt b, vi c] (vb (discHas a b c)) := fnOk (fuel := 16) (tbOf_ok tb2_ok) mo Try.func18 (by kernel_rfl) (by kernel_rfl) (by kernel_rfl) (by kernel_rfl)
theorem disc_Class_ok (a : B4) (b : P2) (c : Int) : CallOk Try.prog 17 [bx a, pt b, vi c] (vi (discClass a b c)) := fnOk (fuel := 16) (tbOf_ok tb2_ok) mo Try.func17 (by kernel_rfl) (by kernel_rfl) (by kernel_rfl) (by kernel_rfl)
theorem heliographref1_Disc_ok (a : B4) (b : P2) (c : Int) : CallOk Try.prog 23 [bx a, pt b, vi c] (vi (rDisc a b c)) := fnOk (fuel := 16) (tbOf_ok tb2_ok) mo Try.func23 (by kernel_rfl) (by kernel_rfl) (by kernel_rfl) (by kernel_rfl)
theorem heliographref1_within_ok (a : Int) (b : Int) (c : Int) : CallOk Try.prog 63 [vi a, vi b, vi c] (vb (rWithin a b c)) := fnOk (fuel := 16) (tbOf_ok tb2_ok) mo Try.func63 (by kernel_rfl) (by kernel_rfl) (by kernel_rfl) (by kernel_rfl)
def tb3_0 : List Entry := (66, en1 dI (fun a => wd (wsq a))) :: tb2
theorem tb3_0_ok : ∀ e ∈ tb3_0, EntryOk Try.prog e := List.forall_mem_cons.2 ⟨en1_ok dI_eq wide_Sq_ok, tb2_ok⟩
def tb3_1 : List Entry := (65, en2 dW dW (fun a b => vi (wcmp a b))) :: tb3_0
theorem tb3_1_ok : ∀ e ∈ tb3_1, EntryOk Try.prog e := List.forall_mem_cons.2 ⟨en2_ok dW_eq dW_eq wide_Cmp_ok, tb3_0_ok⟩
def tb3_2 : List Entry := (18, en3 dP dP dI (fun a b c => vb (discHas a b c))) :: tb3_1
theorem tb3_2_ok : ∀ e ∈ tb3_2, EntryOk Try.prog e := List.forall_mem_cons.2 ⟨en3_ok dP_eq dP_eq dI_eq disc_Has_ok, tb3_1_ok⟩
def tb3_3 : List Entry := (17, en3 dBx dP dI (fun a b c => vi (discClass a b c))) :: tb3_2
theorem tb3_3_ok : ∀ e ∈ tb3_3, EntryOk Try.prog e := List.forall_mem_cons.2 ⟨en3_ok dBx_eq dP_eq dI_eq disc_Class_ok, tb3_2_ok⟩
def tb3_4 : List Entry := tb3_3
theorem tb3_4_ok : ∀ e ∈ tb3_4, EntryOk Try.prog e := tb3_3_ok
def tb3_5 : List Entry := tb3_4
theorem tb3_5_ok : ∀ e ∈ tb3_5, EntryOk Try.prog e := tb3_4_ok
def tb3_6 : List Entry := tb3_5
theorem tb3_6_ok : ∀ e ∈ tb3_6, EntryOk Try.prog e := tb3_5_ok
def tb3_7 : List Entry := (23, en3 dBx dP dI (fun a b c => vi (rDisc a b c))) :: tb3_6
theorem tb3_7_ok : ∀ e ∈ tb3_7, EntryOk Try.prog e := List.forall_mem_cons.2 ⟨en3_ok dBx_eq dP_eq dI_eq heliographref1_Disc_ok, tb3_6_ok⟩
def tb3_8 : List Entry := (63, en3 dI dI dI (fun a b c => vb (rWithin a b c))) :: tb3_7
theorem tb3_8_ok : ∀ e ∈ tb3_8, EntryOk Try.prog e := List.forall_mem_cons.2 ⟨en3_ok dI_eq dI_eq dI_eq heliographref1_within_ok, tb3_7_ok⟩
def tb3 : List Entry := tb3_8
theorem tb3_ok : ∀ e ∈ tb3, EntryOk Try.prog e := tb3_8_ok
theorem bar_beside_ok (a : P2) (b : P2) (c : P2) (d : Int) : CallOk Try.prog 59 [pt a, pt b, pt c, vi d] (vi (beside a b c d)) := fnOk (fuel := 16) (tbOf_ok tb3_ok) mo Try.func59 (by kernel_rfl) (by kernel_rfl) (by kernel_rfl) (by kernel_rfl)
theorem heliographref1_BarHas_ok (a : P2) (b : P2) (c : P2) (d : Int) : CallOk Try.prog 46 [pt a, pt b, pt c, vi d] (vb (rBarHas a b c d)) := fnOk (fuel := 16) (tbOf_ok tb3_ok) mo Try.func46 (by kernel_rfl) (by kernel_rfl) (by kernel_rfl) (by kernel_rfl)
def tb4_0 : List Entry := (59, en4 dP dP dP dI (fun a b c d => vi (beside a b c d))) :: tb3
theorem tb4_0_ok : ∀ e ∈ tb4_0, EntryOk Try.prog e := List.forall_mem_cons.2 ⟨en4_ok dP_eq dP_eq dP_eq dI_eq bar_beside_ok, tb3_ok⟩
def tb4_1 : List Entry := tb4_0
theorem tb4_1_ok : ∀ e ∈ tb4_1, EntryOk Try.prog e := tb4_0_ok
def tb4_2 : List Entry := tb4_1
theorem tb4_2_ok : ∀ e ∈ tb4_2, EntryOk Try.prog e := tb4_1_ok
def tb4_3 : List Entry := tb4_2
theorem tb4_3_ok : ∀ e ∈ tb4_3, EntryOk Try.prog e := tb4_2_ok
def tb4_4 : List Entry := tb4_3
theorem tb4_4_ok : ∀ e ∈ tb4_4, EntryOk Try.prog e := tb4_3_ok
def tb4_5 : List Entry := tb4_4
theorem tb4_5_ok : ∀ e ∈ tb4_5, EntryOk Try.prog e := tb4_4_ok
def tb4_6 : List Entry := tb4_5
theorem tb4_6_ok : ∀ e ∈ tb4_6, EntryOk Try.prog e := tb4_5_ok
def tb4_7 : List Entry := (46, en4 dP dP dP dI (fun a b c d => vb (rBarHas a b c d))) :: tb4_6
theorem tb4_7_ok : ∀ e ∈ tb4_7, EntryOk Try.prog e := List.forall_mem_cons.2 ⟨en4_ok dP_eq dP_eq dP_eq dI_eq heliographref1_BarHas_ok, tb4_6_ok⟩
def tb4 : List Entry := tb4_7
theorem tb4_ok : ∀ e ∈ tb4, EntryOk Try.prog e := tb4_7_ok
theorem bar_Has_ok (a : P2) (b : P2) (c : P2) (d : Int) : CallOk Try.prog 42 [pt a, pt b, pt c, vi d] (vb (barHas a b c d)) := fnOk (fuel := 16) (tbOf_ok tb4_ok) mo Try.func42 (by kernel_rfl) (by kernel_rfl) (by kernel_rfl) (by kernel_rfl)
theorem heliographref1_Bar_ok (a : B4) (b : P2) (c : P2) (d : Int) : CallOk Try.prog 45 [bx a, pt b, pt c, vi d] (vi (rBar a b c d)) := fnOk (fuel := 16) (tbOf_ok tb4_ok) mo Try.func45 (by kernel_rfl) (by kernel_rfl) (by kernel_rfl) (by kernel_rfl)
def tb5_0 : List Entry := (42, en4 dP dP dP dI (fun a b c d => vb (barHas a b c d))) :: tb4
theorem tb5_0_ok : ∀ e ∈ tb5_0, EntryOk Try.prog e := List.forall_mem_cons.2 ⟨en4_ok dP_eq dP_eq dP_eq dI_eq bar_Has_ok, tb4_ok⟩
def tb5_1 : List Entry := tb5_0
theorem tb5_1_ok : ∀ e ∈ tb5_1, EntryOk Try.prog e := tb5_0_ok
def tb5_2 : List Entry := tb5_1
theorem tb5_2_ok : ∀ e ∈ tb5_2, EntryOk Try.prog e := tb5_1_ok
def tb5_3 : List Entry := tb5_2
theorem tb5_3_ok : ∀ e ∈ tb5_3, EntryOk Try.prog e := tb5_2_ok
def tb5_4 : List Entry := tb5_3
theorem tb5_4_ok : ∀ e ∈ tb5_4, EntryOk Try.prog e := tb5_3_ok
def tb5_5 : List Entry := (45, en4 dBx dP dP dI (fun a b c d => vi (rBar a b c d))) :: tb5_4
theorem tb5_5_ok : ∀ e ∈ tb5_5, EntryOk Try.prog e := List.forall_mem_cons.2 ⟨en4_ok dBx_eq dP_eq dP_eq dI_eq heliographref1_Bar_ok, tb5_4_ok⟩
def tb5 : List Entry := tb5_5
theorem tb5_ok : ∀ e ∈ tb5, EntryOk Try.prog e := tb5_5_ok
end Go.Proofs.Ytgdjfclpncpnpaa
