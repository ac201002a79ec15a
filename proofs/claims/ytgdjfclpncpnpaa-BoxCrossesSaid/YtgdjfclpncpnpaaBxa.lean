/-
  OWN WORK. The law BoxApart: what its loops over whole points find.
-/
import Derived.Test.YtgdjfclpncpnpaaDgo
import Derived.Test.YtgdjfclpncpnpaaBox
namespace Go.Proofs.Ytgdjfclpncpnpaa
open Go Go.RowKit Sym

/-- a contract over plain values as one of the first executor's -/
theorem callOk_D {P : Program} {K : Nat} {ds : List Dyn.DV} {us : List Value} {v : Value} (h : ∀ w F, Dyn.DenVs w F ds us) (hd : Dyn.CallD P K ds (.val (.one (.p v)))) : CallOk P K us v := fun w => by
  have k := hd w (fun _ => False) us (fun b hb => hb.elim) (h w _)
  split at k
  · rename_i u w' heq
    rw [heq]
    obtain ⟨k1, k2⟩ := k
    cases k1
    exact ⟨rfl, k2⟩
  · rename_i f ax w1 heq
    rw [heq]
    obtain ⟨rfl, k⟩ := k
    refine ⟨rfl, k.mono ?_⟩
    rintro e w2 ⟨u, rfl, h1, h2⟩
    cases h1
    exact ⟨rfl, h2⟩
  · exact k.elim
theorem den_X (b : B4) (w : World) (F : Nat → Prop) : Dyn.DenV w F (dvX b) (bx b) := ⟨_, rfl, .p _ rfl, .p _ rfl, .p _ rfl, .p _ rfl, trivial⟩
theorem den_P (p : P2) (w : World) (F : Nat → Prop) : Dyn.DenV w F (dvP p) (pt p) := ⟨_, rfl, .p _ rfl, .p _ rfl, trivial⟩
theorem den_I (x : Int) (w : World) (F : Nat → Prop) : Dyn.DenV w F (dvI x) (vi x) := .p _ rfl
theorem den_B (x : Bool) (w : World) (F : Nat → Prop) : Dyn.DenV w F (dvB x) (vb x) := .p _ rfl

def noE (_ : Nat) : Bool := false
def tabA4 : Dyn.Tabs := Dyn.tabs tbA4 [] noE noE
theorem tabA4_ok : Dyn.TabsOk Try.prog tabA4 := Dyn.tabs_ok tbA4_ok (fun _ h => by cases h)
/-- a box close to the origin, of few whole points -/
def sm6 (b : B4) (n : Int) : B4 := ⟨b.x0.tmod 6, b.y0.tmod 6, W (b.x0.tmod 6 + band b.x1 n), W (b.y0.tmod 6 + band b.y1 n)⟩
theorem sm6_r {b : B4} {n : Int} (hn : n = 7 ∨ n = 3) : -5 ≤ (sm6 b n).x0 ∧ (sm6 b n).x0 ≤ 5 ∧ (sm6 b n).x0 ≤ (sm6 b n).x1 ∧ (sm6 b n).x1 ≤ (sm6 b n).x0 + 7 ∧ -5 ≤ (sm6 b n).y0 ∧ (sm6 b n).y0 ≤ 5 ∧ (sm6 b n).y0 ≤ (sm6 b n).y1 ∧ (sm6 b n).y1 ≤ (sm6 b n).y0 + 7 := by
  have a := tmod_bd b.x0 (n := 6) (by decide)
  have c := tmod_bd b.y0 (n := 6) (by decide)
  have d : 0 ≤ band b.x1 n ∧ band b.x1 n ≤ 7 := by
    rcases hn with rfl | rfl
    · exact band7 _
    · have := band3 b.x1; omega
  have e : 0 ≤ band b.y1 n ∧ band b.y1 n ≤ 7 := by
    rcases hn with rfl | rfl
    · exact band7 _
    · have := band3 b.y1; omega
  have e1 : W (b.x0.tmod 6 + band b.x1 n) = b.x0.tmod 6 + band b.x1 n := W_id (by omega) (by omega)
  have e2 : W (b.y0.tmod 6 + band b.y1 n) = b.y0.tmod 6 + band b.y1 n := W_id (by omega) (by omega)
  unfold sm6
  dsimp only
  rw [e1, e2]
  omega
def rowLen (lo hi : Int) : Nat := (hi + 1 - lo).toNat
theorem foldN_any (f : Nat → Bool) (q : Bool) : ∀ n, foldN (fun k q => q || f k) q n = (q || anyN f n)
  | 0 => by simp [foldN, anyN]
  | n + 1 => by simp only [foldN, anyN, foldN_any f q n, Bool.or_assoc]
def baRow (a b : B4) (x : Int) (j : Nat) : Bool := boxHas b ⟨x, a.y0 + j⟩
def baAll (a b : B4) : Bool := anyN (fun i => anyN (baRow a b (a.x0 + i)) (rowLen a.y0 a.y1)) (rowLen a.x0 a.x1)
def baH (a b : B4) : List (Option Dyn.HE) := [some (.cells 28 [vi a.x0, vi a.y0, vi a.x1, vi a.y1]), some (.cells 28 [vi b.x0, vi b.y0, vi b.x1, vi b.y1])]
def baS (a b : B4) (x : Int) (q : Bool) : Dyn.St := mkS 97 [(2, sL 0), (3, sL 1), (4, .k (vb false)), (5, sB q), (6, sI x)] (baH a b)
def baT (a b : B4) (x y : Int) (q : Bool) : Dyn.St := mkS 97 [(2, sL 0), (3, sL 1), (4, .k (vb false)), (5, sB q), (6, sI x), (7, sI y)] (baH a b)
def baLp (a b : B4) : Dyn.Lp := fun id s => match id with
  | 0 => some (.side [keepS 97 [0, 1] [2, 3, 4, 5, 6] 32 s = baS a b a.x0 false] (.leaf .normal (baS a b (a.x0 + (rowLen a.x0 a.x1 : Nat)) (baAll a b))))
  | 2 =>
    let x := intD (s.slots.getD 6 .junk)
    let q := boolD (s.slots.getD 5 .junk)
    some (.side [keepS 97 [0, 1] [2, 3, 4, 5, 6, 7] 0 s = baT a b x a.y0 q] (.leaf .normal (baT a b x (a.y0 + (rowLen a.y0 a.y1 : Nat)) (q || anyN (baRow a b x) (rowLen a.y0 a.y1)))))
  | _ => none
def baB1 (a b : B4) (x y : Int) (q : Bool) : Dyn.Out :=
  .ite (decide (y ≤ a.y1)) (.leaf .normal (baT a b x (W (y + 1)) (bif q then true else boxHas b ⟨x, y⟩))) (.leaf (.exit 2) (baT a b x y q))
def baB0 (a b : B4) (x : Int) (q : Bool) : Dyn.Out :=
  .ite (decide (x ≤ a.x1)) (.side [baT a b x a.y0 q = baT a b x a.y0 q] (.leaf .normal (baS a b (W (x + 1)) (q || anyN (baRow a b x) (rowLen a.y0 a.y1))))) (.leaf (.exit 0) (baS a b x q))
theorem ba_B1 (a b : B4) (x y : Int) (q : Bool) : (Dyn.lexec Try.prog tabA4 (baLp a b) 3 (unloopD (blkD Try.f7.body 2)) .leaf (baT a b x y q)).rl (fun _ => keepS 97 [0, 1] [2, 3, 4, 5, 6, 7] 0) = baB1 a b x y q := by kernel_rfl
theorem ba_B0 (a b : B4) (x : Int) (q : Bool) : (Dyn.lexec Try.prog tabA4 (baLp a b) 3 (unloopD (blkD Try.f7.body 0)) .leaf (baS a b x q)).rl (fun _ => keepS 97 [0, 1] [2, 3, 4, 5, 6] 0) = baB0 a b x q := by kernel_rfl
theorem ba_blocks : blocksL (bodyD Try.f7.body) = [(0, .loop (unloopD (blkD Try.f7.body 0))), (1, blkD Try.f7.body 1), (2, .loop (unloopD (blkD Try.f7.body 2))), (3, blkD Try.f7.body 3)] := by kernel_rfl
theorem ba_b0 : blocksL (unloopD (blkD Try.f7.body 0)) = [(1, blkD Try.f7.body 1), (2, .loop (unloopD (blkD Try.f7.body 2))), (3, blkD Try.f7.body 3)] := by kernel_rfl
theorem ba_b2 : blocksL (unloopD (blkD Try.f7.body 2)) = [(3, blkD Try.f7.body 3)] := by kernel_rfl
theorem bif_orT (q r : Bool) : (bif q then true else r) = (q || r) := by cases q <;> rfl
/-- few whole points -/
def Few (b : B4) : Prop := -100 ≤ b.x0 ∧ b.x0 ≤ b.x1 ∧ b.x1 ≤ 100 ∧ -100 ≤ b.y0 ∧ b.y0 ≤ b.y1 ∧ b.y1 ≤ 100
theorem sm6_few {b : B4} {n : Int} (hn : n = 7 ∨ n = 3) : Few (sm6 b n) := by
  have := sm6_r (b := b) hn
  unfold Few; omega
theorem ba_inner (a b : B4) (ha : Few a) (w0 : Dyn.Base Try.prog) (s : Dyn.St) (o : Dyn.Out) (h : baLp a b 2 s = some o) : Dyn.BlockSound Try.prog w0 2 (.loop (unloopD (blkD Try.f7.body 2))) s o := by
  simp only [baLp, Option.some.injEq] at h
  subst h
  refine side_one fun hS => ?_
  revert hS
  generalize intD (s.slots.getD 6 .junk) = x
  generalize boolD (s.slots.getD 5 .junk) = q
  intro hS
  obtain ⟨h1, h2, h3, h4, h5, h6⟩ := ha
  rw [← foldN_any]
  refine fold_block (fuel := 3) tabA4_ok mo (lp := baLp a b) (by rw [ba_b2]; exact lpOk_cons (fun s o h => by cases h) lpOk_nil) (fun j (q : Bool) => baT a b x (a.y0 + (j : Nat)) q) (rowLen a.y0 a.y1) (fun k q => q || baRow a b x k) q (fun _ s => keepS 97 [0, 1] [2, 3, 4, 5, 6, 7] 0 s) (fun _ s => keepS_ent 97 (by decide) _ 0 s) (fun j q => baB1 a b x (a.y0 + (j : Nat)) q) (fun j q => ba_B1 a b x _ q) (fun j hj => ?_) ?_ ?_
  · generalize foldN (fun k q => q || baRow a b x k) q j = q
    unfold rowLen at hj
    have e1 : W (a.y0 + (j : Int) + 1) = a.y0 + ((j + 1 : Nat) : Int) := by rw [W_id (by omega) (by omega)]; omega
    refine ⟨fun _ => ⟨rfl, ?_⟩, fun hf => ?_⟩
    · rw [e1, bif_orT]; exact Dyn.Fits.refl _
    · rw [decide_eq_false_iff_not] at hf; omega
  · refine ⟨fun ht => ?_, fun _ => ⟨rfl, Dyn.Fits.refl _⟩⟩
    rw [decide_eq_true_eq] at ht; unfold rowLen at ht; omega
  · have e : a.y0 + ((0 : Nat) : Int) = a.y0 := by omega
    rw [e]; exact hS ▸ keepS_ent 97 (by decide) _ _ s
theorem ba_outer (a b : B4) (ha : Few a) (w0 : Dyn.Base Try.prog) (s : Dyn.St) (o : Dyn.Out) (h : baLp a b 0 s = some o) : Dyn.BlockSound Try.prog w0 0 (.loop (unloopD (blkD Try.f7.body 0))) s o := by
  simp only [baLp, Option.some.injEq] at h
  subst h
  refine side_one fun hS => ?_
  have hA := ha
  obtain ⟨h1, h2, h3, h4, h5, h6⟩ := ha
  rw [show baAll a b = foldN (fun k q => q || anyN (baRow a b (a.x0 + (k : Nat))) (rowLen a.y0 a.y1)) false (rowLen a.x0 a.x1) from by rw [foldN_any]; rfl]
  refine fold_block (fuel := 3) tabA4_ok mo (lp := baLp a b) (by rw [ba_b0]; exact lpOk_cons (fun s o h => by cases h) (lpOk_cons (ba_inner a b hA w0) (lpOk_cons (fun s o h => by cases h) lpOk_nil))) (fun i (q : Bool) => baS a b (a.x0 + (i : Nat)) q) (rowLen a.x0 a.x1) (fun k q => q || anyN (baRow a b (a.x0 + (k : Nat))) (rowLen a.y0 a.y1)) false (fun _ s => keepS 97 [0, 1] [2, 3, 4, 5, 6] 0 s) (fun _ s => keepS_ent 97 (by decide) _ 0 s) (fun i q => baB0 a b (a.x0 + (i : Nat)) q) (fun i q => ba_B0 a b _ q) (fun i hi => ?_) ?_ ?_
  · generalize foldN (fun k q => q || anyN (baRow a b (a.x0 + (k : Nat))) (rowLen a.y0 a.y1)) false i = q
    unfold rowLen at hi
    have e1 : W (a.x0 + (i : Int) + 1) = a.x0 + ((i + 1 : Nat) : Int) := by rw [W_id (by omega) (by omega)]; omega
    refine ⟨fun _ => ⟨⟨rfl, trivial⟩, rfl, ?_⟩, fun hf => ?_⟩
    · rw [e1]; exact Dyn.Fits.refl _
    · rw [decide_eq_false_iff_not] at hf; omega
  · refine ⟨fun ht => ?_, fun _ => ⟨rfl, Dyn.Fits.refl _⟩⟩
    rw [decide_eq_true_eq] at ht; unfold rowLen at ht; omega
  · have e : a.x0 + ((0 : Nat) : Int) = a.x0 := by omega
    rw [e]; exact hS ▸ keepS_ent 97 (by decide) _ _ s
/-- two boxes share a whole point, or are apart -/
theorem baAll_iff {a b : B4} (ha : Few a) (hb : Few b) : baAll a b = !(apart a b) := by
  obtain ⟨h1, h2, h3, h4, h5, h6⟩ := ha
  obtain ⟨k1, k2, k3, k4, k5, k6⟩ := hb
  rw [Bool.eq_iff_iff]
  unfold baAll
  rw [anyN_iff]
  have e : (!(apart a b)) = true ↔ b.x0 ≤ a.x1 ∧ a.x0 ≤ b.x1 ∧ b.y0 ≤ a.y1 ∧ a.y0 ≤ b.y1 := by
    unfold apart emptyBx
    simp only [orB_eq, Bool.not_eq_true', Bool.or_eq_false_iff, decide_eq_false_iff_not]
    omega
  rw [e]
  constructor
  · rintro ⟨i, hi, hj⟩
    obtain ⟨j, hj, h⟩ := anyN_iff.1 hj
    have := (boxHas_eq _ _).1 h
    unfold hasI at this; unfold rowLen at hi hj
    dsimp only at this
    omega
  · rintro ⟨g1, g2, g3, g4⟩
    refine ⟨(max a.x0 b.x0 - a.x0).toNat, by unfold rowLen; omega, anyN_iff.2 ⟨(max a.y0 b.y0 - a.y0).toNat, by unfold rowLen; omega, (boxHas_eq _ _).2 ?_⟩⟩
    unfold hasI; dsimp only
    omega
theorem apart_self {a : B4} (ha : Few a) : apart a a = false := by
  obtain ⟨h1, h2, h3, h4, h5, h6⟩ := ha
  unfold apart emptyBx
  simp only [orB_eq, Bool.or_eq_false_iff, decide_eq_false_iff_not]
  omega
theorem apart_comm (a b : B4) : apart a b = apart b a := by
  unfold apart
  simp only [orB_eq]
  cases emptyBx a <;> cases emptyBx b <;> cases decide (a.x1 < b.x0) <;> cases decide (b.x1 < a.x0) <;> cases decide (a.y1 < b.y0) <;> cases decide (b.y1 < a.y0) <;> rfl
def boxApartB (a0 b0 : B4) : Bool :=
  let a := sm6 a0 7
  let b := sm6 b0 7
  bif (bif (bif (apart a b == !(baAll a b)) then (apart b a == !(baAll a b)) else false) then !(apart a a) else false) then true else false
theorem boxApartB_true (a b : B4) : boxApartB a b = true := by
  unfold boxApartB
  dsimp only
  rw [apart_comm (sm6 b 7), apart_self (sm6_few (.inl rfl)), baAll_iff (sm6_few (.inl rfl)) (sm6_few (.inl rfl))]
  cases apart (sm6 a 7) (sm6 b 7) <;> rfl
theorem boxApart_ok (a b : B4) : CallOk Try.prog 7 [bx a, bx b] (vb true) := by
  rw [← boxApartB_true a b]
  exact callOk_D (ds := [dvX a, dvX b]) (fun w F => ⟨den_X a w F, den_X b w F, trivial⟩) (Dyn.dcontractV (lp := baLp (sm6 a 7) (sm6 b 7)) (fuel := 3) (X := tabA4) tabA4_ok mo Try.func7 (by kernel_rfl) (c := bodyD Try.f7.body) (by kernel_rfl)
    (fun w0 => by rw [ba_blocks]; exact lpOk_cons (ba_outer _ _ (sm6_few (.inl rfl)) w0) (lpOk_cons (fun s o h => by cases h) (lpOk_cons (ba_inner _ _ (sm6_few (.inl rfl)) w0) (lpOk_cons (fun s o h => by cases h) lpOk_nil))))
    (by kernel_rfl) (by kernel_rfl) (show _ = [baS (sm6 a 7) (sm6 b 7) (sm6 a 7).x0 false = baS (sm6 a 7) (sm6 b 7) (sm6 a 7).x0 false] by kernel_rfl) ⟨rfl, trivial⟩)
/-! ### BoxCrosses -/
def bcHit (m : Bool) (p q : P2) (x y : Int) : Bool :=
  bif (bif (bif (bif (bif cross p q ⟨x, y⟩ == 0 then decide (x ≥ imin p.x q.x) else false) then decide (x ≤ imax p.x q.x) else false) then decide (y ≥ imin p.y q.y) else false) then decide (y ≤ imax p.y q.y) else false) then !m else false
def bcRow (b : B4) (p q : P2) (m : Bool) (x : Int) (j : Nat) : Bool := bcHit m p q x (b.y0 + j)
def bcAll (b : B4) (p q : P2) (m : Bool) : Bool := anyN (fun i => anyN (bcRow b p q m (b.x0 + i)) (rowLen b.y0 b.y1)) (rowLen b.x0 b.x1)
def bcH (b : B4) (p q : P2) : List (Option Dyn.HE) := [some (.cells 28 [vi b.x0, vi b.y0, vi b.x1, vi b.y1]), some (.cells 23 [vi p.x, vi p.y]), some (.cells 23 [vi q.x, vi q.y])]
def bcS (b : B4) (p q : P2) (m : Bool) (x : Int) : Dyn.St := mkS 153 [(3, sL 0), (4, sL 1), (5, sL 2), (6, .k (vb false)), (7, sB m), (9, sI x)] (bcH b p q)
def bcT (b : B4) (p q : P2) (m : Bool) (x y : Int) : Dyn.St := mkS 153 [(3, sL 0), (4, sL 1), (5, sL 2), (6, .k (vb false)), (7, sB m), (9, sI x), (10, sI y)] (bcH b p q)
def bcR : Dyn.St := mkS 153 [(6, .k (vb false))] []
def bcLp (b : B4) (p q : P2) (m : Bool) : Dyn.Lp := fun id s => match id with
  | 0 => some (.side [keepS 153 [0, 1, 2] [3, 4, 5, 6, 7, 9] 0 s = bcS b p q m b.x0] (.ite (bcAll b p q m) (.leaf .ret bcR) (.leaf .normal (bcS b p q m (b.x0 + (rowLen b.x0 b.x1 : Nat))))))
  | 2 =>
    let x := intD (s.slots.getD 9 .junk)
    some (.side [keepS 153 [0, 1, 2] [3, 4, 5, 6, 7, 9, 10] 0 s = bcT b p q m x b.y0] (.ite (anyN (bcRow b p q m x) (rowLen b.y0 b.y1)) (.leaf .ret bcR) (.leaf .normal (bcT b p q m x (b.y0 + (rowLen b.y0 b.y1 : Nat))))))
  | _ => none
def bcK (ks : List Nat) : AExit → Dyn.St → Dyn.St
  | .ret, s => keepS 153 [] [6] 0 s
  | _, s => keepS 153 [0, 1, 2] ks 0 s
theorem bcK_ent {P : Program} {w0 : Dyn.Base P} (ks : List Nat) (e : AExit) (s : Dyn.St) : Dyn.Ent w0 s (bcK ks e s) := by
  cases e
  · exact keepS_ent 153 (by decide) ks 0 s
  · exact keepS_ent 153 (by decide) ks 0 s
  · exact keepS_ent 153 (by decide) [6] 0 s
def bcB1 (b : B4) (p q : P2) (m : Bool) (x y : Int) : Dyn.Out :=
  .ite (decide (y ≤ b.y1)) (.ite (bcHit m p q x y) (.leaf .ret bcR) (.leaf .normal (bcT b p q m x (W (y + 1))))) (.leaf (.exit 2) (bcT b p q m x y))
def bcB0 (b : B4) (p q : P2) (m : Bool) (x : Int) : Dyn.Out :=
  .ite (decide (x ≤ b.x1)) (.side [bcT b p q m x b.y0 = bcT b p q m x b.y0] (.ite (anyN (bcRow b p q m x) (rowLen b.y0 b.y1)) (.leaf .ret bcR) (.leaf .normal (bcS b p q m (W (x + 1)))))) (.leaf (.exit 0) (bcS b p q m x))
theorem bc_B1 (b : B4) (p q : P2) (m : Bool) (x y : Int) : (Dyn.lexec Try.prog tabA4 (bcLp b p q m) 3 (unloopD (blkD Try.f9.body 2)) .leaf (bcT b p q m x y)).rl (bcK [3, 4, 5, 6, 7, 9, 10]) = bcB1 b p q m x y := by kernel_rfl
theorem bc_B0 (b : B4) (p q : P2) (m : Bool) (x : Int) : (Dyn.lexec Try.prog tabA4 (bcLp b p q m) 3 (unloopD (blkD Try.f9.body 0)) .leaf (bcS b p q m x)).rl (bcK [3, 4, 5, 6, 7, 9]) = bcB0 b p q m x := by kernel_rfl
theorem bc_blocks : blocksL (bodyD Try.f9.body) = [(0, .loop (unloopD (blkD Try.f9.body 0))), (1, blkD Try.f9.body 1), (2, .loop (unloopD (blkD Try.f9.body 2))), (3, blkD Try.f9.body 3)] := by kernel_rfl
theorem bc_b0 : blocksL (unloopD (blkD Try.f9.body 0)) = [(1, blkD Try.f9.body 1), (2, .loop (unloopD (blkD Try.f9.body 2))), (3, blkD Try.f9.body 3)] := by kernel_rfl
theorem bc_b2 : blocksL (unloopD (blkD Try.f9.body 2)) = [(3, blkD Try.f9.body 3)] := by kernel_rfl
theorem bc_inner (b : B4) (p q : P2) (m : Bool) (hb : Few b) (w0 : Dyn.Base Try.prog) (s : Dyn.St) (o : Dyn.Out) (h : bcLp b p q m 2 s = some o) : Dyn.BlockSound Try.prog w0 2 (.loop (unloopD (blkD Try.f9.body 2))) s o := by
  simp only [bcLp, Option.some.injEq] at h
  subst h
  refine side_one fun hS => ?_
  revert hS
  generalize intD (s.slots.getD 9 .junk) = x
  intro hS
  obtain ⟨h1, h2, h3, h4, h5, h6⟩ := hb
  refine any_block (fuel := 3) tabA4_ok mo (lp := bcLp b p q m) (by rw [bc_b2]; exact lpOk_cons (fun s o h => by cases h) lpOk_nil) (fun j => bcT b p q m x (b.y0 + (j : Nat))) (rowLen b.y0 b.y1) (bcRow b p q m x) bcR (bcK [3, 4, 5, 6, 7, 9, 10]) (bcK_ent _) (fun j => bcB1 b p q m x (b.y0 + (j : Nat))) (fun j => bc_B1 b p q m x _) (fun j hj => ?_) ?_ ?_
  · unfold rowLen at hj
    have e1 : W (b.y0 + (j : Int) + 1) = b.y0 + ((j + 1 : Nat) : Int) := by rw [W_id (by omega) (by omega)]; omega
    refine ⟨fun _ => ⟨fun ht => .inr ⟨rfl, ht, rfl⟩, fun hf => .inl ⟨rfl, hf, ?_⟩⟩, fun hf => ?_⟩
    · rw [e1]; exact Dyn.Fits.refl _
    · rw [decide_eq_false_iff_not] at hf; omega
  · refine ⟨fun ht => ?_, fun _ => ⟨rfl, Dyn.Fits.refl _⟩⟩
    rw [decide_eq_true_eq] at ht; unfold rowLen at ht; omega
  · have e : b.y0 + ((0 : Nat) : Int) = b.y0 := by omega
    rw [e]; exact hS ▸ keepS_ent 153 (by decide) _ _ s
theorem bc_outer (b : B4) (p q : P2) (m : Bool) (hb : Few b) (w0 : Dyn.Base Try.prog) (s : Dyn.St) (o : Dyn.Out) (h : bcLp b p q m 0 s = some o) : Dyn.BlockSound Try.prog w0 0 (.loop (unloopD (blkD Try.f9.body 0))) s o := by
  simp only [bcLp, Option.some.injEq] at h
  subst h
  refine side_one fun hS => ?_
  have hB := hb
  obtain ⟨h1, h2, h3, h4, h5, h6⟩ := hb
  refine any_block (fuel := 3) tabA4_ok mo (lp := bcLp b p q m) (by rw [bc_b0]; exact lpOk_cons (fun s o h => by cases h) (lpOk_cons (bc_inner b p q m hB w0) (lpOk_cons (fun s o h => by cases h) lpOk_nil))) (fun i => bcS b p q m (b.x0 + (i : Nat))) (rowLen b.x0 b.x1) (fun i => anyN (bcRow b p q m (b.x0 + (i : Nat))) (rowLen b.y0 b.y1)) bcR (bcK [3, 4, 5, 6, 7, 9]) (bcK_ent _) (fun i => bcB0 b p q m (b.x0 + (i : Nat))) (fun i => bc_B0 b p q m _) (fun i hi => ?_) ?_ ?_
  · unfold rowLen at hi
    have e1 : W (b.x0 + (i : Int) + 1) = b.x0 + ((i + 1 : Nat) : Int) := by rw [W_id (by omega) (by omega)]; omega
    refine ⟨fun _ => ⟨⟨rfl, trivial⟩, fun ht => .inr ⟨rfl, ht, rfl⟩, fun hf => .inl ⟨rfl, hf, ?_⟩⟩, fun hf => ?_⟩
    · rw [e1]; exact Dyn.Fits.refl _
    · rw [decide_eq_false_iff_not] at hf; omega
  · refine ⟨fun ht => ?_, fun _ => ⟨rfl, Dyn.Fits.refl _⟩⟩
    rw [decide_eq_true_eq] at ht; unfold rowLen at ht; omega
  · have e : b.x0 + ((0 : Nat) : Int) = b.x0 := by omega
    rw [e]; exact hS ▸ keepS_ent 153 (by decide) _ _ s
theorem meetsI_swap (b : B4) (p q : P2) : meetsI b q p = meetsI b p q := by
  have e : ∀ c, crossI q p c = -(crossI p q c) := fun c => by unfold crossI; grind
  unfold meetsI sepI
  rw [show all4 (fun c => decide (crossI q p c > 0)) b = all4 (fun c => decide (crossI p q c < 0)) b from by
    unfold all4; simp only [e, show ∀ x : Int, decide (-x > 0) = decide (x < 0) from fun x => by rw [Bool.eq_iff_iff]; simp only [decide_eq_true_eq]; omega]]
  rw [show all4 (fun c => decide (crossI q p c < 0)) b = all4 (fun c => decide (crossI p q c > 0)) b from by
    unfold all4; simp only [e, show ∀ x : Int, decide (-x < 0) = decide (x > 0) from fun x => by rw [Bool.eq_iff_iff]; simp only [decide_eq_true_eq]; omega]]
  rw [Int.max_comm q.x, Int.max_comm q.y, Int.min_comm q.x, Int.min_comm q.y]
  cases all4 (fun c => decide (crossI p q c > 0)) b <;> cases all4 (fun c => decide (crossI p q c < 0)) b <;> rfl
theorem meetsI_mirror (b : B4) (p q : P2) : meetsI ⟨-b.x1, b.y0, -b.x0, b.y1⟩ ⟨-p.x, p.y⟩ ⟨-q.x, q.y⟩ = meetsI b p q := by
  have e : ∀ x y : Int, crossI ⟨-p.x, p.y⟩ ⟨-q.x, q.y⟩ ⟨-x, y⟩ = -(crossI p q ⟨x, y⟩) := fun x y => by unfold crossI; dsimp only; grind
  have d1 : ∀ x : Int, decide (-x > 0) = decide (x < 0) := fun x => by rw [Bool.eq_iff_iff]; simp only [decide_eq_true_eq]; omega
  have d2 : ∀ x : Int, decide (-x < 0) = decide (x > 0) := fun x => by rw [Bool.eq_iff_iff]; simp only [decide_eq_true_eq]; omega
  have a1 : all4 (fun c => decide (crossI ⟨-p.x, p.y⟩ ⟨-q.x, q.y⟩ c > 0)) ⟨-b.x1, b.y0, -b.x0, b.y1⟩ = all4 (fun c => decide (crossI p q c < 0)) b := by
    unfold all4; dsimp only
    simp only [e, d1]
    cases decide (crossI p q ⟨b.x0, b.y0⟩ < 0) <;> cases decide (crossI p q ⟨b.x1, b.y0⟩ < 0) <;> cases decide (crossI p q ⟨b.x0, b.y1⟩ < 0) <;> cases decide (crossI p q ⟨b.x1, b.y1⟩ < 0) <;> rfl
  have a2 : all4 (fun c => decide (crossI ⟨-p.x, p.y⟩ ⟨-q.x, q.y⟩ c < 0)) ⟨-b.x1, b.y0, -b.x0, b.y1⟩ = all4 (fun c => decide (crossI p q c > 0)) b := by
    unfold all4; dsimp only
    simp only [e, d2]
    cases decide (crossI p q ⟨b.x0, b.y0⟩ > 0) <;> cases decide (crossI p q ⟨b.x1, b.y0⟩ > 0) <;> cases decide (crossI p q ⟨b.x0, b.y1⟩ > 0) <;> cases decide (crossI p q ⟨b.x1, b.y1⟩ > 0) <;> rfl
  have a3 : sepI ⟨-b.x1, b.y0, -b.x0, b.y1⟩ ⟨-p.x, p.y⟩ ⟨-q.x, q.y⟩ = sepI b p q := by
    rw [Bool.eq_iff_iff]; unfold sepI; dsimp only
    simp only [Bool.or_eq_true, decide_eq_true_eq]
    omega
  unfold meetsI
  rw [a1, a2, a3]
  cases all4 (fun c => decide (crossI p q c > 0)) b <;> cases all4 (fun c => decide (crossI p q c < 0)) b <;> rfl
theorem meetsI_on {b : B4} {p q o : P2} (h : hasI b o) (hc : crossI p q o = 0) (h1 : min p.x q.x ≤ o.x) (h2 : o.x ≤ max p.x q.x) (h3 : min p.y q.y ≤ o.y) (h4 : o.y ≤ max p.y q.y) : meetsI b p q = true := by
  have e : ∀ c, crossI p q c = crossI o ⟨o.x + (q.x - p.x), o.y + (q.y - p.y)⟩ c := fun c => by
    have : crossI p q c = crossI o ⟨o.x + (q.x - p.x), o.y + (q.y - p.y)⟩ c + crossI p q o := by unfold crossI; grind
    omega
  have k := sides_in (q := ⟨o.x + (q.x - p.x), o.y + (q.y - p.y)⟩) h
  have s : sepI b p q = false := by
    unfold hasI at h
    unfold sepI
    simp only [Bool.or_eq_false_iff, decide_eq_false_iff_not]
    omega
  unfold meetsI
  simp only [e]
  rw [s, k.1, k.2]; rfl
def bcBad (b : B4) (p q : P2) (m : Bool) : Bool := bif (bif !(meets b q p == m) then true else !(meets ⟨W (0 - b.x1), b.y0, W (0 - b.x0), b.y1⟩ ⟨W (0 - p.x), p.y⟩ ⟨W (0 - q.x), q.y⟩ == m)) then true else (bif !(meets b p p) then boxHas b p else false)
def boxCrossesB (b0 : B4) (p0 q0 : P2) : Bool :=
  let b := sm6 b0 3
  let p := lClose p0 9
  let q := lClose q0 9
  let m := meets b p q
  bif bcBad b p q m then false else (bif bcAll b p q m then false else true)
theorem lClose9 (p : P2) : -9 ≤ (lClose p 9).x ∧ (lClose p 9).x ≤ 9 ∧ -9 ≤ (lClose p 9).y ∧ (lClose p 9).y ≤ 9 := by
  have a := tmod_bd p.x (n := 10) (by decide)
  have c := tmod_bd p.y (n := 10) (by decide)
  have e : W (9 + 1) = 10 := by decide
  unfold lClose; dsimp only
  rw [e]; omega
theorem boxCrossesB_true (b0 : B4) (p0 q0 : P2) : boxCrossesB b0 p0 q0 = true := by
  unfold boxCrossesB bcBad
  dsimp only
  have hb := sm6_few (b := b0) (n := 3) (.inr rfl)
  have hp := lClose9 p0
  have hq := lClose9 q0
  generalize sm6 b0 3 = b at *
  generalize lClose p0 9 = p at *
  generalize lClose q0 9 = q at *
  obtain ⟨h1, h2, h3, h4, h5, h6⟩ := hb
  have hB : BR b := ⟨⟨by omega, by omega⟩, ⟨by omega, by omega⟩, ⟨by omega, by omega⟩, ⟨by omega, by omega⟩⟩
  have hP : PR p := ⟨⟨by omega, by omega⟩, ⟨by omega, by omega⟩⟩
  have hQ : PR q := ⟨⟨by omega, by omega⟩, ⟨by omega, by omega⟩⟩
  have w1 : W (0 - b.x1) = -b.x1 := by rw [W_id (by omega) (by omega)]; omega
  have w2 : W (0 - b.x0) = -b.x0 := by rw [W_id (by omega) (by omega)]; omega
  have w3 : W (0 - p.x) = -p.x := by rw [W_id (by omega) (by omega)]; omega
  have w4 : W (0 - q.x) = -q.x := by rw [W_id (by omega) (by omega)]; omega
  rw [w1, w2, w3, w4, meets_eq hB hQ hP h2 h5, meets_eq hB hP hQ h2 h5, meets_eq hB hP hP h2 h5, meets_eq (b := ⟨-b.x1, b.y0, -b.x0, b.y1⟩) ⟨⟨by dsimp only; omega, by dsimp only; omega⟩, ⟨by dsimp only; omega, by dsimp only; omega⟩, ⟨by dsimp only; omega, by dsimp only; omega⟩, ⟨by dsimp only; omega, by dsimp only; omega⟩⟩ (p := ⟨-p.x, p.y⟩) ⟨⟨by dsimp only; omega, by dsimp only; omega⟩, ⟨by dsimp only; omega, by dsimp only; omega⟩⟩ (q := ⟨-q.x, q.y⟩) ⟨⟨by dsimp only; omega, by dsimp only; omega⟩, ⟨by dsimp only; omega, by dsimp only; omega⟩⟩ (by dsimp only; omega) (by dsimp only; omega), meetsI_swap, meetsI_mirror]
  have e1 : (bif !(meetsI b p p) then boxHas b p else false) = false := by
    cases h : boxHas b p with
    | false => cases meetsI b p p <;> rfl
    | true => rw [meetsI_in p ((boxHas_eq _ _).1 h)]; rfl
  have e2 : bcAll b p q (meetsI b p q) = false := by
    rw [Bool.eq_false_iff]
    intro h
    obtain ⟨i, hi, h⟩ := anyN_iff.1 h
    obtain ⟨j, hj, h⟩ := anyN_iff.1 h
    unfold bcRow bcHit at h
    simp only [Bool.cond_false_right, Bool.and_eq_true, beq_iff_eq, decide_eq_true_eq, imin_eq, imax_eq, Bool.not_eq_true'] at h
    obtain ⟨⟨⟨⟨⟨g1, g2⟩, g3⟩, g4⟩, g5⟩, g6⟩ := h
    unfold rowLen at hi hj
    have hO : PR ⟨b.x0 + (i : Int), b.y0 + (j : Int)⟩ := ⟨⟨by dsimp only; omega, by dsimp only; omega⟩, ⟨by dsimp only; omega, by dsimp only; omega⟩⟩
    rw [(cross_eq hP hQ hO).1] at g1
    rw [meetsI_on (o := ⟨b.x0 + (i : Int), b.y0 + (j : Int)⟩) ⟨by dsimp only; omega, by dsimp only; omega, by dsimp only; omega, by dsimp only; omega⟩ g1 (by dsimp only; omega) (by dsimp only; omega) (by dsimp only; omega) (by dsimp only; omega)] at g6
    cases g6
  rw [e1, e2]
  simp
theorem boxCrosses_ok (b : B4) (p q : P2) : CallOk Try.prog 9 [bx b, pt p, pt q] (vb true) := by
  rw [← boxCrossesB_true b p q]
  exact callOk_D (ds := [dvX b, dvP p, dvP q]) (fun w F => ⟨den_X b w F, den_P p w F, den_P q w F, trivial⟩) (Dyn.dcontractV (lp := bcLp (sm6 b 3) (lClose p 9) (lClose q 9) (meets (sm6 b 3) (lClose p 9) (lClose q 9))) (fuel := 3) (X := tabA4) tabA4_ok mo Try.func9 (by kernel_rfl) (c := bodyD Try.f9.body) (by kernel_rfl)
    (fun w0 => by rw [bc_blocks]; exact lpOk_cons (bc_outer _ _ _ _ (sm6_few (.inr rfl)) w0) (lpOk_cons (fun s o h => by cases h) (lpOk_cons (bc_inner _ _ _ _ (sm6_few (.inr rfl)) w0) (lpOk_cons (fun s o h => by cases h) lpOk_nil))))
    (by kernel_rfl) (by kernel_rfl) (show _ = [W (9 + 1) ≠ 0, W (9 + 1) ≠ 0, bcBad (sm6 b 3) (lClose p 9) (lClose q 9) (meets (sm6 b 3) (lClose p 9) (lClose q 9)) = false → bcS (sm6 b 3) (lClose p 9) (lClose q 9) (meets (sm6 b 3) (lClose p 9) (lClose q 9)) (sm6 b 3).x0 = bcS (sm6 b 3) (lClose p 9) (lClose q 9) (meets (sm6 b 3) (lClose p 9) (lClose q 9)) (sm6 b 3).x0] by kernel_rfl) ⟨by decide, by decide, fun _ => rfl, trivial⟩)
end Go.Proofs.Ytgdjfclpncpnpaa
