/-
  OWN WORK. The law PolyTurns: what its loops make.
-/
import Derived.Test.YtgdjfclpncpnpaaPou
namespace Go.Proofs.Ytgdjfclpncpnpaa
open Go Go.RowKit Sym

def rotI (m : Nat) (fr : Int) (k : Nat) : Int := (W ((k : Int) + band fr 255)).tmod (m : Int)
def bakI (m : Nat) (k : Nat) : Int := W (W ((m : Int) - 1) - (k : Int))
def ptO (L : Ctr) (fr : Int) (i k : Nat) : P2 := L.p i (rotI (L.m i) fr k).toNat
def ptM (L : Ctr) (fr : Int) (u : P2) (i k : Nat) : P2 := ⟨W ((ptO L fr i k).x + u.x), W ((ptO L fr i k).y + u.y)⟩
def ptT (L : Ctr) (fr : Int) (i k : Nat) : P2 := ⟨W (0 - (ptO L fr i k).y), (ptO L fr i k).x⟩
def ptW (L : Ctr) (i k : Nat) : P2 := L.p i (bakI (L.m i) k).toNat
def rvI (n t : Nat) : Nat := ((n : Int) - 1 - (t : Int)).toNat
def rowOf (L : Ctr) (g : Nat → Nat → P2) (t : Nat) : List Dyn.DC := [cRow (L.m (rvI L.n t)) (g (rvI L.n t))]
def ptH (L : Ctr) (b : B4) (p u : P2) : List (Option Dyn.HE) := [some (.deep [cCtr L]), some (.cells 28 [vi b.x0, vi b.y0, vi b.x1, vi b.y1]), some (.cells 23 [vi p.x, vi p.y]), some (.cells 23 [vi u.x, vi u.y])]
def ptE (f : Nat → List Dyn.DC) (e : TypeId) (n : Nat) : Option Dyn.HE := some (.own e n f)
structure Fs where
  a : Nat → List Dyn.DC
  b : Nat → List Dyn.DC
  c : Nat → List Dyn.DC
  d : Nat → List Dyn.DC
def ptFs (L : Ctr) (fr : Int) (u : P2) : Fs := ⟨rowOf L (ptO L fr), rowOf L (ptM L fr u), rowOf L (ptT L fr), rowOf L (ptW L)⟩
def ptGs (L : Ctr) (fr : Int) (u : P2) (i : Nat) : Fs := ⟨fun k => cP (ptO L fr i k), fun k => cP (ptM L fr u i k), fun k => cP (ptT L fr i k), fun k => cP (ptW L i k)⟩
def ptS (L : Ctr) (b : B4) (p u : P2) (fr i : Int) (t : Nat) (F : Fs) : Dyn.St := mkS 230 [(1, sH 0 0 L.n), (3, sI fr), (5, sL 1), (7, sL 2), (9, sL 3), (10, .k (vb false)), (11, sH 4 0 t), (12, sH 5 0 t), (13, sH 6 0 t), (14, sH 7 0 t), (15, sI i)] (ptH L b p u ++ [some (.own 24 t F.a), some (.own 24 t F.b), some (.own 24 t F.c), some (.own 24 t F.d)])
def ptU (L : Ctr) (b : B4) (p u : P2) (fr i : Int) (t : Nat) (F : Fs) (k : Int) (n : Nat) (G : Fs) : Dyn.St := mkS 230 [(1, sH 0 0 L.n), (3, sI fr), (5, sL 1), (7, sL 2), (9, sL 3), (10, .k (vb false)), (11, sH 4 0 t), (12, sH 5 0 t), (13, sH 6 0 t), (14, sH 7 0 t), (15, sI i), (16, sH 8 0 n), (17, sH 9 0 n), (18, sH 10 0 n), (19, sH 11 0 n), (20, sI (L.m i.toNat)), (21, sI k)] (ptH L b p u ++ [some (.own 24 t F.a), some (.own 24 t F.b), some (.own 24 t F.c), some (.own 24 t F.d), some (.own 23 n G.a), some (.own 23 n G.b), some (.own 23 n G.c), some (.own 23 n G.d)])
def lenD : Dyn.SV → Nat
  | .v (.slice _ n _) => n
  | _ => 0
def ptK0 : List Nat := [1, 3, 5, 7, 9, 10, 11, 12, 13, 14, 15]
def ptK1 : List Nat := [1, 3, 5, 7, 9, 10, 11, 12, 13, 14, 15, 16, 17, 18, 19, 20, 21]
def nil4 (i : Nat) (e : TypeId) (F : Fs) (s : Dyn.St) : Dyn.St := Dyn.nilSlot (i + 3) e F.d (Dyn.nilSlot (i + 2) e F.c (Dyn.nilSlot (i + 1) e F.b (Dyn.nilSlot i e F.a s)))
def ptLp (L : Ctr) (b : B4) (p u : P2) (fr : Int) : Dyn.Lp := fun id s => match id with
  | 0 => some (.side [nil4 11 24 (ptFs L fr u) (keepS 230 [10, 1, 2, 3] ptK0 0 s) = ptS L b p u fr (W ((L.n : Int) - 1)) 0 (ptFs L fr u)] (.leaf .normal (ptS L b p u fr ((L.n : Int) - 1 - (L.n : Nat)) L.n (ptFs L fr u))))
  | 2 =>
    let i := intD (s.slots.getD 15 .junk)
    let t := lenD (s.slots.getD 11 .junk)
    some (.side [nil4 16 23 (ptGs L fr u i.toNat) (keepS 230 [0, 1, 2, 3, 4, 5, 6, 7] ptK1 2097152 s) = ptU L b p u fr i t (ptFs L fr u) 0 0 (ptGs L fr u i.toNat), 0 ≤ i ∧ i < L.n] (.leaf .normal (ptU L b p u fr i t (ptFs L fr u) (L.m i.toNat : Nat) (L.m i.toNat) (ptGs L fr u i.toNat))))
  | _ => none
theorem band255' (x : Int) : 0 ≤ band x 255 ∧ band x 255 ≤ 255 := by
  have h : (BitVec.ofInt 64 x &&& BitVec.ofInt 64 255).toNat ≤ 255 := by
    rw [BitVec.toNat_and]
    exact Nat.le_trans Nat.and_le_right (by decide)
  unfold band
  rw [W_id (by omega) (by omega)]
  omega
def apG (G : Fs) (k : Nat) (L : Ctr) (fr : Int) (u : P2) (i : Nat) : Fs := ⟨Dyn.appF k G.a (fun _ => cP (ptO L fr i k)), Dyn.appF k G.b (fun _ => cP (ptM L fr u i k)), Dyn.appF k G.c (fun _ => cP (ptT L fr i k)), Dyn.appF k G.d (fun _ => cP (ptW L i k))⟩
def apF (G : Fs) (t : Nat) (L : Ctr) (fr : Int) (u : P2) (i : Nat) : Fs := ⟨Dyn.appF t G.a (fun _ => [cRow (L.m i) (ptO L fr i)]), Dyn.appF t G.b (fun _ => [cRow (L.m i) (ptM L fr u i)]), Dyn.appF t G.c (fun _ => [cRow (L.m i) (ptT L fr i)]), Dyn.appF t G.d (fun _ => [cRow (L.m i) (ptW L i)])⟩
def ptB1 (L : Ctr) (b : B4) (p u : P2) (fr i : Int) (t k : Nat) : Dyn.Out :=
  .ite (decide ((k : Int) < L.m i.toNat)) (.side [0 ≤ i ∧ i < L.n, (L.m i.toNat : Int) ≠ 0, 0 ≤ rotI (L.m i.toNat) fr k ∧ rotI (L.m i.toNat) fr k < L.m i.toNat]
    (.side [szP 16 k] (.side [szP 16 k] (.side [szP 16 k] (.side [0 ≤ i ∧ i < L.n, 0 ≤ bakI (L.m i.toNat) k ∧ bakI (L.m i.toNat) k < L.m i.toNat, szP 16 k]
    (.leaf .normal (ptU L b p u fr i t (ptFs L fr u) (W ((k : Int) + 1)) (k + 1) (apG (ptGs L fr u i.toNat) k L fr u i.toNat))))))))
    (.leaf (.exit 2) (ptU L b p u fr i t (ptFs L fr u) k k (ptGs L fr u i.toNat)))
def ptB0 (L : Ctr) (b : B4) (p u : P2) (fr i : Int) (t : Nat) : Dyn.Out :=
  .ite (decide (i ≥ 0)) (.side [0 ≤ i ∧ i < L.n] (.side [ptU L b p u fr i t (ptFs L fr u) 0 0 (ptGs L fr u i.toNat) = ptU L b p u fr i t (ptFs L fr u) 0 0 (ptGs L fr u i.toNat), 0 ≤ i ∧ i < L.n] (.side [szP 24 t, szP 24 t, szP 24 t, szP 24 t]
    (.leaf .normal (ptS L b p u fr (W (i - 1)) (t + 1) (apF (ptFs L fr u) t L fr u i.toNat))))))
    (.leaf (.exit 0) (ptS L b p u fr i t (ptFs L fr u)))
theorem pt_B1 (L : Ctr) (b : B4) (p u : P2) (fr i : Int) (t k : Nat) : (Dyn.lexec Try.prog tabS (ptLp L b p u fr) 3 (unloopD (blkD Try.f11.body 2)) .leaf (ptU L b p u fr i t (ptFs L fr u) k k (ptGs L fr u i.toNat))).rl (fun _ s => keepA 230 [0, 1, 2, 3, 4, 5, 6, 7] [16, 17, 18, 19] ptK1 0 s) = ptB1 L b p u fr i t k := by kernel_rfl
theorem pt_B0 (L : Ctr) (b : B4) (p u : P2) (fr i : Int) (t : Nat) : (Dyn.lexec Try.prog tabS (ptLp L b p u fr) 3 (unloopD (blkD Try.f11.body 0)) .leaf (ptS L b p u fr i t (ptFs L fr u))).rl (fun _ s => keepA 230 [0, 1, 2, 3] [11, 12, 13, 14] ptK0 0 s) = ptB0 L b p u fr i t := by kernel_rfl
theorem pt_blocks : blocksL (bodyD Try.f11.body) = [(0, .loop (unloopD (blkD Try.f11.body 0))), (1, blkD Try.f11.body 1), (2, .loop (unloopD (blkD Try.f11.body 2))), (3, blkD Try.f11.body 3)] := by kernel_rfl
theorem pt_b0 : blocksL (unloopD (blkD Try.f11.body 0)) = [(1, blkD Try.f11.body 1), (2, .loop (unloopD (blkD Try.f11.body 2))), (3, blkD Try.f11.body 3)] := by kernel_rfl
theorem pt_b2 : blocksL (unloopD (blkD Try.f11.body 2)) = [(3, blkD Try.f11.body 3)] := by kernel_rfl
theorem rotI_in {m : Nat} {fr : Int} {k : Nat} (hk : k < m) (hm : m ≤ 1000000000) : 0 ≤ rotI m fr k ∧ rotI m fr k < m := by
  have h := band255' fr
  have e : W ((k : Int) + band fr 255) = (k : Int) + band fr 255 := W_id (by omega) (by omega)
  unfold rotI
  rw [e]
  exact ⟨Int.tmod_nonneg _ (by omega), Int.tmod_lt_of_pos _ (by omega)⟩
theorem bakI_in {m k : Nat} (hk : k < m) (hm : m ≤ 1000000000) : bakI m k = (m : Int) - 1 - k := by
  unfold bakI
  rw [W_id (x := (m : Int) - 1) (by omega) (by omega), W_id (by omega) (by omega)]
theorem pt_inner (L : Ctr) (b : B4) (p u : P2) (fr : Int) (hl : CtrB L) (w0 : Dyn.Base Try.prog) (s : Dyn.St) (o : Dyn.Out) (h : ptLp L b p u fr 2 s = some o) : Dyn.BlockSound Try.prog w0 2 (.loop (unloopD (blkD Try.f11.body 2))) s o := by
  simp only [ptLp, Option.some.injEq] at h
  subst h
  refine side_two fun hS hi => ?_
  revert hS hi
  generalize intD (s.slots.getD 15 .junk) = i
  generalize lenD (s.slots.getD 11 .junk) = t
  intro hS hi
  have hm : L.m i.toNat ≤ 1000000000 := hl.2 _ (by omega)
  refine fold_block (fuel := 3) tabS_ok mo (lp := ptLp L b p u fr) (by rw [pt_b2]; exact lpOk_cons (fun s o h => by cases h) lpOk_nil) (fun k (_ : Unit) => ptU L b p u fr i t (ptFs L fr u) k k (ptGs L fr u i.toNat)) (L.m i.toNat) (fun _ _ => ()) () (fun _ s => keepA 230 [0, 1, 2, 3, 4, 5, 6, 7] [16, 17, 18, 19] ptK1 0 s) (fun _ s => keepA_ent 230 _ _ _ 0 s) (fun k _ => ptB1 L b p u fr i t k) (fun k _ => pt_B1 L b p u fr i t k) (fun k hk => ?_) ?_ ?_
  · have e1 : W ((k : Int) + 1) = ((k + 1 : Nat) : Int) := by rw [W_id (by omega) (by omega)]; omega
    have z : szP 16 k := szP_ok (by decide) (by omega)
    refine ⟨fun _ => ⟨⟨hi, by omega, rotI_in hk hm, trivial⟩, ⟨z, trivial⟩, ⟨z, trivial⟩, ⟨z, trivial⟩, ⟨hi, by rw [bakI_in hk hm]; omega, z, trivial⟩, rfl, ?_⟩, fun hf => ?_⟩
    · rw [e1]
      exact ⟨rfl, Dyn.HeLe.refl _, Dyn.HeLe.refl _, Dyn.HeLe.refl _, Dyn.HeLe.refl _, Dyn.HeLe.refl _, Dyn.HeLe.refl _, Dyn.HeLe.refl _, Dyn.HeLe.refl _, le_app (n := k) (f := (ptGs L fr u i.toNat).a) (g := fun _ => cP (ptO L fr i.toNat k)) rfl, le_app (n := k) (f := (ptGs L fr u i.toNat).b) (g := fun _ => cP (ptM L fr u i.toNat k)) rfl, le_app (n := k) (f := (ptGs L fr u i.toNat).c) (g := fun _ => cP (ptT L fr i.toNat k)) rfl, le_app (n := k) (f := (ptGs L fr u i.toNat).d) (g := fun _ => cP (ptW L i.toNat k)) rfl, trivial⟩
    · rw [decide_eq_false_iff_not] at hf; omega
  · refine ⟨fun ht => ?_, fun _ => ⟨rfl, Dyn.Fits.refl _⟩⟩
    rw [decide_eq_true_eq] at ht; omega
  · refine hS ▸ (keepS_ent 230 (σ := [0, 1, 2, 3, 4, 5, 6, 7]) (by decide) ptK1 2097152 s).trans ?_
    exact (((Dyn.Ent.nilSlot (P := Try.prog) (k := 1) (by kernel_rfl) _ _).trans (Dyn.Ent.nilSlot (P := Try.prog) (k := 1) (by kernel_rfl) _ _)).trans (Dyn.Ent.nilSlot (P := Try.prog) (k := 1) (by kernel_rfl) _ _)).trans (Dyn.Ent.nilSlot (P := Try.prog) (k := 1) (by kernel_rfl) _ _)
theorem pt_outer (L : Ctr) (b : B4) (p u : P2) (fr : Int) (hl : CtrB L) (w0 : Dyn.Base Try.prog) (s : Dyn.St) (o : Dyn.Out) (h : ptLp L b p u fr 0 s = some o) : Dyn.BlockSound Try.prog w0 0 (.loop (unloopD (blkD Try.f11.body 0))) s o := by
  simp only [ptLp, Option.some.injEq] at h
  subst h
  refine side_one fun hS => ?_
  have hn := hl.1
  refine fold_block (fuel := 3) tabS_ok mo (lp := ptLp L b p u fr) (by rw [pt_b0]; exact lpOk_cons (fun s o h => by cases h) (lpOk_cons (pt_inner L b p u fr hl w0) (lpOk_cons (fun s o h => by cases h) lpOk_nil))) (fun t (_ : Unit) => ptS L b p u fr ((L.n : Int) - 1 - (t : Nat)) t (ptFs L fr u)) L.n (fun _ _ => ()) () (fun _ s => keepA 230 [0, 1, 2, 3] [11, 12, 13, 14] ptK0 0 s) (fun _ s => keepA_ent 230 _ _ _ 0 s) (fun t _ => ptB0 L b p u fr ((L.n : Int) - 1 - (t : Nat)) t) (fun t _ => pt_B0 L b p u fr _ t) (fun t ht => ?_) ?_ ?_
  · have e1 : W ((L.n : Int) - 1 - (t : Int) - 1) = (L.n : Int) - 1 - ((t + 1 : Nat) : Int) := by rw [W_id (by omega) (by omega)]; omega
    have z : szP 24 t := szP_ok (by decide) (by omega)
    refine ⟨fun _ => ⟨⟨⟨by omega, by omega⟩, trivial⟩, ⟨rfl, ⟨by omega, by omega⟩, trivial⟩, ⟨z, z, z, z, trivial⟩, rfl, ?_⟩, fun hf => ?_⟩
    · rw [e1]
      exact ⟨rfl, Dyn.HeLe.refl _, Dyn.HeLe.refl _, Dyn.HeLe.refl _, Dyn.HeLe.refl _, le_app (n := t) (f := (ptFs L fr u).a) (g := fun _ => [cRow (L.m (rvI L.n t)) (ptO L fr (rvI L.n t))]) rfl, le_app (n := t) (f := (ptFs L fr u).b) (g := fun _ => [cRow (L.m (rvI L.n t)) (ptM L fr u (rvI L.n t))]) rfl, le_app (n := t) (f := (ptFs L fr u).c) (g := fun _ => [cRow (L.m (rvI L.n t)) (ptT L fr (rvI L.n t))]) rfl, le_app (n := t) (f := (ptFs L fr u).d) (g := fun _ => [cRow (L.m (rvI L.n t)) (ptW L (rvI L.n t))]) rfl, trivial⟩
    · rw [decide_eq_false_iff_not] at hf; omega
  · refine ⟨fun ht => ?_, fun _ => ⟨rfl, Dyn.Fits.refl _⟩⟩
    rw [decide_eq_true_eq] at ht; omega
  · have e : (L.n : Int) - 1 - ((0 : Nat) : Int) = W ((L.n : Int) - 1) := by rw [W_id (by omega) (by omega)]; omega
    rw [e]
    refine hS ▸ (keepS_ent 230 (σ := [10, 1, 2, 3]) (by decide) ptK0 0 s).trans ?_
    exact (((Dyn.Ent.nilSlot (P := Try.prog) (k := 0) (by kernel_rfl) _ _).trans (Dyn.Ent.nilSlot (P := Try.prog) (k := 0) (by kernel_rfl) _ _)).trans (Dyn.Ent.nilSlot (P := Try.prog) (k := 0) (by kernel_rfl) _ _)).trans (Dyn.Ent.nilSlot (P := Try.prog) (k := 0) (by kernel_rfl) _ _)
def ctX (L : Ctr) (g : Nat → Nat → P2) : Ctr := ⟨L.n, fun t => L.m (rvI L.n t), fun t => g (rvI L.n t)⟩
def qmB (u : P2) (b : B4) : B4 := ⟨W (b.x0 + u.x), W (b.y0 + u.y), W (b.x1 + u.x), W (b.y1 + u.y)⟩
def qtB (b : B4) : B4 := ⟨W (0 - b.y1), b.x0, W (0 - b.y0), b.x1⟩
def qmP (u q : P2) : P2 := ⟨W (q.x + u.x), W (q.y + u.y)⟩
def qtP (q : P2) : P2 := ⟨W (0 - q.y), q.x⟩
def ptA1 (L : Ctr) (b : B4) (fr : Int) : Bool := polyClassF b (ctX L (ptO L fr)) == polyClassF b L
def ptA2 (L : Ctr) (p : P2) (fr : Int) : Bool := polyHasF p (ctX L (ptO L fr)) == polyHasF p L
def ptA3 (L : Ctr) (b : B4) : Bool := polyClassF b (ctX L (ptW L)) == polyClassF b L
def ptA4 (L : Ctr) (p : P2) : Bool := polyHasF p (ctX L (ptW L)) == polyHasF p L
def ptA5 (L : Ctr) (b : B4) (fr : Int) (u : P2) : Bool := polyClassF (qmB u b) (ctX L (ptM L fr u)) == polyClassF b L
def ptA6 (L : Ctr) (p : P2) (fr : Int) (u : P2) : Bool := polyHasF (qmP u p) (ctX L (ptM L fr u)) == polyHasF p L
def ptA7 (L : Ctr) (b : B4) (fr : Int) : Bool := polyClassF (qtB b) (ctX L (ptT L fr)) == polyClassF b L
def ptA8 (L : Ctr) (p : P2) (fr : Int) : Bool := polyHasF (qtP p) (ctX L (ptT L fr)) == polyHasF p L
def ptC2 (L : Ctr) (b : B4) (p : P2) (fr : Int) : Bool := bif ptA1 L b fr then ptA2 L p fr else false
def ptC3 (L : Ctr) (b : B4) (p : P2) (fr : Int) : Bool := bif ptC2 L b p fr then ptA3 L b else false
def ptC4 (L : Ctr) (b : B4) (p : P2) (fr : Int) : Bool := bif ptC3 L b p fr then ptA4 L p else false
def ptC5 (L : Ctr) (b : B4) (p : P2) (fr : Int) (u : P2) : Bool := bif ptC4 L b p fr then ptA5 L b fr u else false
def ptC6 (L : Ctr) (b : B4) (p : P2) (fr : Int) (u : P2) : Bool := bif ptC5 L b p fr u then ptA6 L p fr u else false
def ptC7 (L : Ctr) (b : B4) (p : P2) (fr : Int) (u : P2) : Bool := bif ptC6 L b p fr u then ptA7 L b fr else false
def ptC8 (L : Ctr) (b : B4) (p : P2) (fr : Int) (u : P2) : Bool := bif ptC7 L b p fr u then ptA8 L p fr else false
def ptOk (c : Bool) (l : Ctr) : Prop := some c = some true ∧ True → Sym.allP [CtrB l, ctrSelf l]
theorem ptOk_ok (c : Bool) {l : Ctr} (h : CtrB l) : ptOk c l := fun _ => ⟨h, ctrSelf_ok l, trivial⟩
theorem ctX_B {L : Ctr} (h : CtrB L) (g : Nat → Nat → P2) : CtrB (ctX L g) := ⟨h.1, fun t ht => h.2 (rvI L.n t) (by have ht' : t < L.n := ht; unfold rvI; omega)⟩
def ptSide (L0 L : Ctr) (b : B4) (p u : P2) (fr : Int) : List Prop := [W (20 + 1) ≠ 0, ctrSelf L0, W (100000000 + 1) ≠ 0, ptS L b p u fr (W ((L.n : Int) - 1)) 0 (ptFs L fr u) = ptS L b p u fr (W ((L.n : Int) - 1)) 0 (ptFs L fr u), CtrB L, ctrSelf L, CtrB L, ctrSelf L, CtrB (ctX L (ptO L fr)), ctrSelf (ctX L (ptO L fr)),
  ptOk (ptA1 L b fr) (ctX L (ptO L fr)), ptOk (ptC2 L b p fr) (ctX L (ptW L)), ptOk (ptC3 L b p fr) (ctX L (ptW L)), ptOk (ptC4 L b p fr) (ctX L (ptM L fr u)), ptOk (ptC5 L b p fr u) (ctX L (ptM L fr u)), ptOk (ptC6 L b p fr u) (ctX L (ptT L fr)), ptOk (ptC7 L b p fr u) (ctX L (ptT L fr))]
theorem pt_val (b : B4) (L : Ctr) (p : P2) (fr : Int) (u : P2) : ((Dyn.dfun Try.prog tabS (ptLp (tameC L true) (lSmall b) (lClose p 20) (lClose u 100000000) fr) 3 Try.f11 [dvX b, dvC L, dvP p, dvI fr, dvP u]).ro Try.prog Try.f11.results).val = some (vb (bif ptC8 (tameC L true) (lSmall b) (lClose p 20) fr (lClose u 100000000) then true else false)) := by kernel_rfl
theorem pt_side (b : B4) (L : Ctr) (p : P2) (fr : Int) (u : P2) : ((Dyn.dfun Try.prog tabS (ptLp (tameC L true) (lSmall b) (lClose p 20) (lClose u 100000000) fr) 3 Try.f11 [dvX b, dvC L, dvP p, dvI fr, dvP u]).ro Try.prog Try.f11.results).sideList = ptSide L (tameC L true) (lSmall b) (lClose p 20) (lClose u 100000000) fr := by kernel_rfl
theorem ptSide_ok (L0 : Ctr) {L : Ctr} (h : CtrB L) (b : B4) (p u : P2) (fr : Int) : Sym.allP (ptSide L0 L b p u fr) :=
  ⟨by decide, ctrSelf_ok _, by decide, rfl, h, ctrSelf_ok _, h, ctrSelf_ok _, ctX_B h _, ctrSelf_ok _, ptOk_ok _ (ctX_B h _), ptOk_ok _ (ctX_B h _), ptOk_ok _ (ctX_B h _), ptOk_ok _ (ctX_B h _), ptOk_ok _ (ctX_B h _), ptOk_ok _ (ctX_B h _), ptOk_ok _ (ctX_B h _), trivial⟩
end Go.Proofs.Ytgdjfclpncpnpaa
