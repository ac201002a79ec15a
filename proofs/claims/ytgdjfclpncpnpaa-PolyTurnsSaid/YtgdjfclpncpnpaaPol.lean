/-
  OWN WORK. Contours: contracts of poly.crosses, odd, touches, Has, Class.
-/
import Derived.Test.YtgdjfclpncpnpaaDgo
import Derived.Test.YtgdjfclpncpnpaaLem
namespace Go.Proofs.Ytgdjfclpncpnpaa
open Go Go.RowKit Sym

def crossesF (p a e : P2) : Bool := bif (decide (a.y > p.y) == decide (e.y > p.y)) then false else bif decide (e.y > a.y) then decide (cross a e p > 0) else decide (cross a e p < 0)
theorem crosses_ok (p a e : P2) : CallOk Try.prog 64 [pt p, pt a, pt e] (vb (crossesF p a e)) :=
  fnOk (fuel := 16) (tbOf_ok tbA_ok) mo Try.func64 (by kernel_rfl) (by kernel_rfl) (by kernel_rfl) (by kernel_rfl)
def tbP : List Entry := (64, en3 dP dP dP (fun p a e => vb (crossesF p a e))) :: tbA
theorem tbP_ok : ∀ e ∈ tbP, EntryOk Try.prog e := List.forall_mem_cons.2 ⟨en3_ok dP_eq dP_eq dP_eq crosses_ok, tbA_ok⟩
/-- types that show slices -/
def dtyP (t : TypeId) : Bool := Nat.beq t 24 || Nat.beq t 52
def noD (_ : Nat) : Bool := false
def tabP : Dyn.Tabs := Dyn.tabs tbP [] noD dtyP
theorem tabP_ok : Dyn.TabsOk Try.prog tabP := Dyn.tabs_ok tbP_ok (fun _ h => by cases h)

/-! ### odd -/
def nxt (m k : Nat) : Nat := (((k : Int) + 1).tmod (m : Int)).toNat
def edgeC (l : Ctr) (f : P2 → P2 → Bool) (i k : Nat) : Bool := f (l.p i k) (l.p i (nxt (l.m i) k))
def oddF (p : P2) (l : Ctr) : Bool := parN (fun i => parN (edgeC l (crossesF p) i) (l.m i)) l.n
def oddH (p : P2) (l : Ctr) : List (Option Dyn.HE) := [some (.deep [cCtr l]), some (.cells 23 [vi p.x, vi p.y])]
def oddS (p : P2) (l : Ctr) (i : Int) (q : Bool) : Dyn.St := mkS 39 [(0, sV (pt p)), (1, sH 0 0 l.n), (2, sL 1), (4, .k (vb false)), (5, sB q), (10, sH 0 0 l.n), (11, sI l.n), (12, sI i)] (oddH p l)
def oddT (p : P2) (l : Ctr) (i j : Int) (q : Bool) : Dyn.St := mkS 39 [(0, sV (pt p)), (1, sH 0 0 l.n), (2, sL 1), (4, .k (vb false)), (5, sB q), (7, sH 2 0 (l.m i.toNat)), (10, sH 0 0 l.n), (11, sI l.n), (12, sI i), (16, sH 2 0 (l.m i.toNat)), (17, sI (l.m i.toNat)), (18, sI j)] (oddH p l ++ [some (.deep [cRow (l.m i.toNat) (l.p i.toNat)])])
def oddK0 : List Nat := [0, 1, 2, 4, 5, 10, 11, 12]
def oddK1 : List Nat := [0, 1, 2, 4, 5, 7, 10, 11, 12, 16, 17, 18]
def oddLp (p : P2) (l : Ctr) : Dyn.Lp := fun id s => match id with
  | 0 => some (.side [keepS 39 [0, 1] oddK0 4128 s = oddS p l 0 false] (.leaf .normal (oddS p l l.n (oddF p l))))
  | 2 =>
    let i := intD (s.slots.getD 12 .junk)
    let q := boolD (s.slots.getD 5 .junk)
    some (.side [keepS 39 [0, 1, 3] oddK1 262144 s = oddT p l i 0 q, 0 ≤ i ∧ i < l.n] (.leaf .normal (oddT p l i (l.m i.toNat) (xor q (parN (edgeC l (crossesF p) i.toNat) (l.m i.toNat))))))
  | _ => none
def oddB1 (p : P2) (l : Ctr) (i : Int) (k : Nat) (q : Bool) : Dyn.Out :=
  let m : Int := l.m i.toNat
  let r : Int := (W ((k : Int) + 1)).tmod m
  .ite (decide ((k : Int) < m)) (.side [0 ≤ (k : Int) ∧ (k : Int) < m] (.side [m ≠ 0, 0 ≤ r ∧ r < m]
    (.leaf .normal (oddT p l i (W ((k : Int) + 1)) (bif crossesF p (l.p i.toNat k) (l.p i.toNat r.toNat) then !q else q))))) (.leaf (.exit 2) (oddT p l i k q))
def oddB0 (p : P2) (l : Ctr) (k : Nat) (q : Bool) : Dyn.Out :=
  .ite (decide ((k : Int) < l.n)) (.side [0 ≤ (k : Int) ∧ (k : Int) < l.n] (.side [oddT p l k 0 q = oddT p l k 0 q, 0 ≤ (k : Int) ∧ (k : Int) < l.n]
    (.leaf .normal (oddS p l (W ((k : Int) + 1)) (xor q (parN (edgeC l (crossesF p) k) (l.m k))))))) (.leaf (.exit 0) (oddS p l k q))
theorem odd_blocks : blocksL (bodyD Try.f56.body) = [(0, .loop (unloopD (blkD Try.f56.body 0))), (1, blkD Try.f56.body 1), (2, .loop (unloopD (blkD Try.f56.body 2))), (3, blkD Try.f56.body 3)] := by kernel_rfl
theorem odd_b0 : blocksL (unloopD (blkD Try.f56.body 0)) = [(1, blkD Try.f56.body 1), (2, .loop (unloopD (blkD Try.f56.body 2))), (3, blkD Try.f56.body 3)] := by kernel_rfl
theorem odd_b2 : blocksL (unloopD (blkD Try.f56.body 2)) = [(3, blkD Try.f56.body 3)] := by kernel_rfl
theorem odd_B1 (p : P2) (l : Ctr) (i : Int) (k : Nat) (q : Bool) : (Dyn.lexec Try.prog tabP (oddLp p l) 3 (unloopD (blkD Try.f56.body 2)) .leaf (oddT p l i k q)).rl (fun _ => keepS 39 [0, 1, 2] oddK1 0) = oddB1 p l i k q := by kernel_rfl
theorem odd_B0 (p : P2) (l : Ctr) (k : Nat) (q : Bool) : (Dyn.lexec Try.prog tabP (oddLp p l) 3 (unloopD (blkD Try.f56.body 0)) .leaf (oddS p l k q)).rl (fun _ => keepS 39 [0, 1] oddK0 0) = oddB0 p l k q := by kernel_rfl
theorem nxt_wrap {k m : Nat} (hk : k < m) (hm : m ≤ 1000000000) : W ((k : Int) + 1) = ((k + 1 : Nat) : Int) ∧ (m : Int) ≠ 0 ∧ (0 ≤ (W ((k : Int) + 1)).tmod m ∧ (W ((k : Int) + 1)).tmod m < m) ∧ ((W ((k : Int) + 1)).tmod m).toNat = nxt m k := by
  have e : W ((k : Int) + 1) = (k : Int) + 1 := W_id (by omega) (by omega)
  rw [e]
  exact ⟨by omega, by omega, ⟨Int.tmod_nonneg _ (by omega), Int.tmod_lt_of_pos _ (by omega)⟩, rfl⟩
theorem bif_xor (c q : Bool) : (bif c then !q else q) = xor q c := by cases c <;> cases q <;> rfl
theorem odd_inner (p : P2) (l : Ctr) (hl : CtrB l) (w0 : Dyn.Base Try.prog) (s : Dyn.St) (o : Dyn.Out) (h : oddLp p l 2 s = some o) : Dyn.BlockSound Try.prog w0 2 (.loop (unloopD (blkD Try.f56.body 2))) s o := by
  simp only [oddLp, Option.some.injEq] at h
  subst h
  refine side_two fun hS hi => ?_
  revert hS hi
  generalize intD (s.slots.getD 12 .junk) = i
  generalize boolD (s.slots.getD 5 .junk) = q
  intro hS hi
  have hm : l.m i.toNat ≤ 1000000000 := hl.2 _ (by omega)
  refine count_block (fuel := 3) tabP_ok mo (lp := oddLp p l) (by rw [odd_b2]; exact lpOk_cons (fun s o h => by cases h) lpOk_nil) (fun k (q : Bool) => oddT p l i k q) (l.m i.toNat) (fun k q' => q' = xor q (parN (edgeC l (crossesF p) i.toNat) k))
    (fun _ => keepS 39 [0, 1, 2] oddK1 0) (fun _ s => keepS_ent 39 (by decide) _ 0 s) (fun k q => oddB1 p l i k q) (fun e s => e = .exit 2 ∧ s = oddT p l i (l.m i.toNat) (xor q (parN (edgeC l (crossesF p) i.toNat) (l.m i.toNat)))) (odd_B1 p l i) ?_ ?_
    (a0 := q) (by simp [parN]) (hS ▸ keepS_ent 39 (by decide) _ _ s) ?_
  · intro k q' hk hq
    subst hq
    obtain ⟨e1, e2, e3, e4⟩ := nxt_wrap hk hm
    unfold oddB1
    dsimp only
    have e5 : (bif crossesF p (l.p i.toNat k) (l.p i.toNat ((W ((k : Int) + 1)).tmod (l.m i.toNat : Int)).toNat) then !(xor q (parN (edgeC l (crossesF p) i.toNat) k)) else xor q (parN (edgeC l (crossesF p) i.toNat) k)) = xor q (parN (edgeC l (crossesF p) i.toNat) (k + 1)) := by
      rw [bif_xor, e4, Bool.xor_assoc]; rfl
    refine ⟨fun _ => ⟨⟨⟨by omega, by omega⟩, trivial⟩, ⟨e2, e3, trivial⟩, ⟨_, rfl, ?_⟩⟩, fun hf => ?_⟩
    · rw [e5, e1]; exact Dyn.Fits.refl _
    · rw [decide_eq_false_iff_not] at hf; omega
  · intro q' hq
    subst hq
    unfold oddB1
    dsimp only
    refine ⟨fun ht => ?_, fun _ => ⟨rfl, rfl⟩⟩
    rw [decide_eq_true_eq] at ht; omega
  · intro F hF ho e s hE
    obtain ⟨rfl, rfl⟩ := hE
    dsimp only
    rw [if_pos rfl]; exact ho
theorem odd_outer (p : P2) (l : Ctr) (hl : CtrB l) (w0 : Dyn.Base Try.prog) (s : Dyn.St) (o : Dyn.Out) (h : oddLp p l 0 s = some o) : Dyn.BlockSound Try.prog w0 0 (.loop (unloopD (blkD Try.f56.body 0))) s o := by
  simp only [oddLp, Option.some.injEq] at h
  subst h
  refine side_one fun hS => ?_
  have hn := hl.1
  refine count_block (fuel := 3) tabP_ok mo (lp := oddLp p l) (by rw [odd_b0]; exact lpOk_cons (fun s o h => by cases h) (lpOk_cons (odd_inner p l hl w0) (lpOk_cons (fun s o h => by cases h) lpOk_nil))) (fun k (q : Bool) => oddS p l k q) l.n (fun k q' => q' = parN (fun i => parN (edgeC l (crossesF p) i) (l.m i)) k)
    (fun _ => keepS 39 [0, 1] oddK0 0) (fun _ s => keepS_ent 39 (by decide) _ 0 s) (fun k q => oddB0 p l k q) (fun e s => e = .exit 0 ∧ s = oddS p l l.n (oddF p l)) (odd_B0 p l) ?_ ?_
    (a0 := false) rfl (hS ▸ keepS_ent 39 (by decide) _ _ s) ?_
  · intro k q' hk hq
    subst hq
    have e1 : W ((k : Int) + 1) = ((k + 1 : Nat) : Int) := by rw [W_id (by omega) (by omega)]; omega
    unfold oddB0
    refine ⟨fun _ => ⟨⟨⟨by omega, by omega⟩, trivial⟩, ⟨rfl, ⟨by omega, by omega⟩, trivial⟩, ⟨_, rfl, ?_⟩⟩, fun hf => ?_⟩
    · rw [e1]; exact Dyn.Fits.refl _
    · rw [decide_eq_false_iff_not] at hf; omega
  · intro q' hq
    subst hq
    unfold oddB0
    refine ⟨fun ht => ?_, fun _ => ⟨rfl, rfl⟩⟩
    rw [decide_eq_true_eq] at ht; omega
  · intro F hF ho e s hE
    obtain ⟨rfl, rfl⟩ := hE
    dsimp only
    rw [if_pos rfl]; exact ho
theorem odd_ok (p : P2) (l : Ctr) (hl : CtrB l) : Dyn.CallD Try.prog 56 [dvP p, dvC l] (rB (oddF p l)) :=
  Dyn.dcontractV (lp := oddLp p l) (fuel := 3) (X := tabP) tabP_ok mo Try.func56 (by kernel_rfl) (c := bodyD Try.f56.body) (by kernel_rfl)
    (fun w0 => by rw [odd_blocks]; exact lpOk_cons (odd_outer p l hl w0) (lpOk_cons (fun s o h => by cases h) (lpOk_cons (odd_inner p l hl w0) (lpOk_cons (fun s o h => by cases h) lpOk_nil))))
    (by kernel_rfl) (by kernel_rfl) (show _ = [oddS p l 0 false = oddS p l 0 false] by kernel_rfl) ⟨rfl, trivial⟩
/-! ### touches -/
def touchF (b : B4) (l : Ctr) : Bool := anyN (fun i => anyN (edgeC l (meets b) i) (l.m i)) l.n
def touH (b : B4) (l : Ctr) : List (Option Dyn.HE) := [some (.deep [cCtr l]), some (.cells 28 [vi b.x0, vi b.y0, vi b.x1, vi b.y1])]
def touS (b : B4) (l : Ctr) (i : Int) : Dyn.St := mkS 35 [(0, sV (bx b)), (1, sH 0 0 l.n), (2, sL 1), (4, .k (vb false)), (9, sH 0 0 l.n), (10, sI l.n), (11, sI i)] (touH b l)
def touT (b : B4) (l : Ctr) (i j : Int) : Dyn.St := mkS 35 [(0, sV (bx b)), (1, sH 0 0 l.n), (2, sL 1), (4, .k (vb false)), (6, sH 2 0 (l.m i.toNat)), (9, sH 0 0 l.n), (10, sI l.n), (11, sI i), (15, sH 2 0 (l.m i.toNat)), (16, sI (l.m i.toNat)), (17, sI j)] (touH b l ++ [some (.deep [cRow (l.m i.toNat) (l.p i.toNat)])])
def touR : Dyn.St := mkS 35 [(4, .k (vb true))] []
def touK0 : List Nat := [0, 1, 2, 4, 9, 10, 11]
def touK1 : List Nat := [0, 1, 2, 4, 6, 9, 10, 11, 15, 16, 17]
def touLp (b : B4) (l : Ctr) : Dyn.Lp := fun id s => match id with
  | 0 => some (.side [keepS 35 [0, 1] touK0 2048 s = touS b l 0] (.ite (touchF b l) (.leaf .ret touR) (.leaf .normal (touS b l l.n))))
  | 2 =>
    let i := intD (s.slots.getD 11 .junk)
    some (.side [keepS 35 [0, 1, 3] touK1 131072 s = touT b l i 0, 0 ≤ i ∧ i < l.n] (.ite (anyN (edgeC l (meets b) i.toNat) (l.m i.toNat)) (.leaf .ret touR) (.leaf .normal (touT b l i (l.m i.toNat)))))
  | _ => none
def retS (n : Nat) (σ ks : List Nat) (r : Nat) : AExit → Dyn.St → Dyn.St
  | .ret, s => keepS n [] [r] 0 s
  | _, s => keepS n σ ks 0 s
theorem retS_ent {P : Program} {w0 : Dyn.Base P} (n : Nat) {σ : List Nat} (hσ : σ.Nodup) (ks : List Nat) (r : Nat) (e : AExit) (s : Dyn.St) : Dyn.Ent w0 s (retS n σ ks r e s) := by
  cases e
  · exact keepS_ent n hσ ks 0 s
  · exact keepS_ent n hσ ks 0 s
  · exact keepS_ent n (by decide) [r] 0 s
def touB1 (b : B4) (l : Ctr) (i : Int) (k : Nat) : Dyn.Out :=
  let m : Int := l.m i.toNat
  let r : Int := (W ((k : Int) + 1)).tmod m
  .ite (decide ((k : Int) < m)) (.side [0 ≤ (k : Int) ∧ (k : Int) < m] (.side [m ≠ 0, 0 ≤ r ∧ r < m]
    (.ite (meets b (l.p i.toNat k) (l.p i.toNat r.toNat)) (.leaf .ret touR) (.leaf .normal (touT b l i (W ((k : Int) + 1))))))) (.leaf (.exit 2) (touT b l i k))
def touB0 (b : B4) (l : Ctr) (k : Nat) : Dyn.Out :=
  .ite (decide ((k : Int) < l.n)) (.side [0 ≤ (k : Int) ∧ (k : Int) < l.n] (.side [touT b l k 0 = touT b l k 0, 0 ≤ (k : Int) ∧ (k : Int) < l.n]
    (.ite (anyN (edgeC l (meets b) k) (l.m k)) (.leaf .ret touR) (.leaf .normal (touS b l (W ((k : Int) + 1))))))) (.leaf (.exit 0) (touS b l k))
theorem tou_B1 (b : B4) (l : Ctr) (i : Int) (k : Nat) : (Dyn.lexec Try.prog tabP (touLp b l) 3 (unloopD (blkD Try.f55.body 2)) .leaf (touT b l i k)).rl (retS 35 [0, 1, 2] touK1 4) = touB1 b l i k := by kernel_rfl
theorem tou_B0 (b : B4) (l : Ctr) (k : Nat) : (Dyn.lexec Try.prog tabP (touLp b l) 3 (unloopD (blkD Try.f55.body 0)) .leaf (touS b l k)).rl (retS 35 [0, 1] touK0 4) = touB0 b l k := by kernel_rfl
theorem tou_blocks : blocksL (bodyD Try.f55.body) = [(0, .loop (unloopD (blkD Try.f55.body 0))), (1, blkD Try.f55.body 1), (2, .loop (unloopD (blkD Try.f55.body 2))), (3, blkD Try.f55.body 3)] := by kernel_rfl
theorem tou_b0 : blocksL (unloopD (blkD Try.f55.body 0)) = [(1, blkD Try.f55.body 1), (2, .loop (unloopD (blkD Try.f55.body 2))), (3, blkD Try.f55.body 3)] := by kernel_rfl
theorem tou_b2 : blocksL (unloopD (blkD Try.f55.body 2)) = [(3, blkD Try.f55.body 3)] := by kernel_rfl
theorem tou_inner (b : B4) (l : Ctr) (hl : CtrB l) (w0 : Dyn.Base Try.prog) (s : Dyn.St) (o : Dyn.Out) (h : touLp b l 2 s = some o) : Dyn.BlockSound Try.prog w0 2 (.loop (unloopD (blkD Try.f55.body 2))) s o := by
  simp only [touLp, Option.some.injEq] at h
  subst h
  refine side_two fun hS hi => ?_
  revert hS hi
  generalize intD (s.slots.getD 11 .junk) = i
  intro hS hi
  have hm : l.m i.toNat ≤ 1000000000 := hl.2 _ (by omega)
  refine any_block (fuel := 3) tabP_ok mo (lp := touLp b l) (by rw [tou_b2]; exact lpOk_cons (fun s o h => by cases h) lpOk_nil) (fun k => touT b l i k) (l.m i.toNat) (edgeC l (meets b) i.toNat) touR (retS 35 [0, 1, 2] touK1 4) (retS_ent 35 (by decide) _ _) (touB1 b l i) (tou_B1 b l i) (fun k hk => ?_) ?_ (hS ▸ keepS_ent 35 (by decide) _ _ s)
  · obtain ⟨e1, e2, e3, e4⟩ := nxt_wrap hk hm
    refine ⟨fun _ => ⟨⟨⟨by omega, by omega⟩, trivial⟩, ⟨e2, e3, trivial⟩, fun ht => .inr ⟨rfl, ?_, rfl⟩, fun hf => .inl ⟨rfl, ?_, ?_⟩⟩, fun hf => ?_⟩
    · rw [e4] at ht; exact ht
    · rw [e4] at hf; exact hf
    · rw [e1]; exact Dyn.Fits.refl _
    · rw [decide_eq_false_iff_not] at hf; omega
  · refine ⟨fun ht => ?_, fun _ => ⟨rfl, Dyn.Fits.refl _⟩⟩
    rw [decide_eq_true_eq] at ht; omega
theorem tou_outer (b : B4) (l : Ctr) (hl : CtrB l) (w0 : Dyn.Base Try.prog) (s : Dyn.St) (o : Dyn.Out) (h : touLp b l 0 s = some o) : Dyn.BlockSound Try.prog w0 0 (.loop (unloopD (blkD Try.f55.body 0))) s o := by
  simp only [touLp, Option.some.injEq] at h
  subst h
  refine side_one fun hS => ?_
  have hn := hl.1
  refine any_block (fuel := 3) tabP_ok mo (lp := touLp b l) (by rw [tou_b0]; exact lpOk_cons (fun s o h => by cases h) (lpOk_cons (tou_inner b l hl w0) (lpOk_cons (fun s o h => by cases h) lpOk_nil))) (fun k => touS b l k) l.n (fun i => anyN (edgeC l (meets b) i) (l.m i)) touR (retS 35 [0, 1] touK0 4) (retS_ent 35 (by decide) _ _) (touB0 b l) (tou_B0 b l) (fun k hk => ?_) ?_ (hS ▸ keepS_ent 35 (by decide) _ _ s)
  · have e1 : W ((k : Int) + 1) = ((k + 1 : Nat) : Int) := by rw [W_id (by omega) (by omega)]; omega
    refine ⟨fun _ => ⟨⟨⟨by omega, by omega⟩, trivial⟩, ⟨rfl, ⟨by omega, by omega⟩, trivial⟩, fun ht => .inr ⟨rfl, ht, rfl⟩, fun hf => .inl ⟨rfl, hf, ?_⟩⟩, fun hf => ?_⟩
    · rw [e1]; exact Dyn.Fits.refl _
    · rw [decide_eq_false_iff_not] at hf; omega
  · refine ⟨fun ht => ?_, fun _ => ⟨rfl, Dyn.Fits.refl _⟩⟩
    rw [decide_eq_true_eq] at ht; omega
theorem touches_ok (b : B4) (l : Ctr) (hl : CtrB l) : Dyn.CallD Try.prog 55 [dvX b, dvC l] (rB (bif touchF b l then true else false)) :=
  Dyn.dcontractV (lp := touLp b l) (fuel := 3) (X := tabP) tabP_ok mo Try.func55 (by kernel_rfl) (c := bodyD Try.f55.body) (by kernel_rfl)
    (fun w0 => by rw [tou_blocks]; exact lpOk_cons (tou_outer b l hl w0) (lpOk_cons (fun s o h => by cases h) (lpOk_cons (tou_inner b l hl w0) (lpOk_cons (fun s o h => by cases h) lpOk_nil))))
    (by kernel_rfl) (by kernel_rfl) (show _ = [touS b l 0 = touS b l 0] by kernel_rfl) ⟨rfl, trivial⟩
/-! ### Has, Class -/
def spotF (p : P2) : B4 := ⟨p.x, p.y, p.x, p.y⟩
theorem spot_ok (p : P2) : CallOk Try.prog 57 [pt p] (bx (spotF p)) :=
  fnOk (fuel := 16) (tbOf_ok tbA_ok) mo Try.func57 (by kernel_rfl) (by kernel_rfl) (by kernel_rfl) (by kernel_rfl)
theorem bif_tf (b : Bool) : (bif b then true else false) = b := by cases b <;> rfl
theorem touches_ok' (b : B4) (l : Ctr) (hl : CtrB l) : Dyn.CallD Try.prog 55 [dvX b, dvC l] (rB (touchF b l)) := by
  have := touches_ok b l hl
  rwa [bif_tf] at this
def tbQ : List Entry := (57, en1 dP (fun p => bx (spotF p))) :: tbP
theorem tbQ_ok : ∀ e ∈ tbQ, EntryOk Try.prog e := List.forall_mem_cons.2 ⟨en1_ok dP_eq spot_ok, tbP_ok⟩
def tdQ : List Dyn.EntryD := [(56, enPC fun p l => rB (oddF p l)), (55, enXC fun b l => rB (touchF b l))]
theorem tdQ_ok : ∀ e ∈ tdQ, Dyn.EntryDOk Try.prog e := List.forall_mem_cons.2 ⟨enPC_ok odd_ok, List.forall_mem_cons.2 ⟨enXC_ok touches_ok', fun _ h => by cases h⟩⟩
def tabQ : Dyn.Tabs := Dyn.tabs tbQ tdQ noD dtyP
theorem tabQ_ok : Dyn.TabsOk Try.prog tabQ := Dyn.tabs_ok tbQ_ok tdQ_ok
def ctrSelf (l : Ctr) : Prop := ∀ i, i < l.n → [cRow (l.m i) (l.p i)] = [cRow (l.m i) (l.p i)]
theorem ctrSelf_ok (l : Ctr) : ctrSelf l := fun _ _ => rfl
def polyHasF (p : P2) (l : Ctr) : Bool := orB (touchF (spotF p) l) (oddF p l)
theorem polyHas_ok (p : P2) (l : Ctr) (hl : CtrB l) : Dyn.CallD Try.prog 39 [dvP p, dvC l] (rB (polyHasF p l)) :=
  Dyn.dcontractV (lp := Dyn.noLp) (fuel := 3) (X := tabQ) tabQ_ok mo Try.func39 (by kernel_rfl) (c := bodyD Try.f39.body) (by kernel_rfl) (fun w0 => Dyn.noLp_ok _ w0)
    (by kernel_rfl) (by kernel_rfl) (show _ = [CtrB l, ctrSelf l, some (touchF (spotF p) l) = some false ∧ True → Sym.allP [CtrB l, ctrSelf l]] by kernel_rfl) ⟨hl, ctrSelf_ok l, fun _ => ⟨hl, ctrSelf_ok l, trivial⟩, trivial⟩
def polyClassF (b : B4) (l : Ctr) : Int := bif touchF b l then 1 else bif andB (boxHas b ⟨b.x0, b.y0⟩) (oddF ⟨b.x0, b.y0⟩ l) then 2 else 0
theorem polyClass_ok (b : B4) (l : Ctr) (hl : CtrB l) : Dyn.CallD Try.prog 38 [dvX b, dvC l] (rI (polyClassF b l)) :=
  Dyn.dcontractV (lp := Dyn.noLp) (fuel := 3) (X := tabQ) tabQ_ok mo Try.func38 (by kernel_rfl) (c := bodyD Try.f38.body) (by kernel_rfl) (fun w0 => Dyn.noLp_ok _ w0)
    (by kernel_rfl) (by kernel_rfl) (show _ = [CtrB l, ctrSelf l, touchF b l = false → (some (boxHas b ⟨b.x0, b.y0⟩) = some true ∧ True → Sym.allP [CtrB l, ctrSelf l])] by kernel_rfl) ⟨hl, ctrSelf_ok l, fun _ _ => ⟨hl, ctrSelf_ok l, trivial⟩, trivial⟩
/-! ### Tame -/
def tamP (l : Ctr) (sm : Bool) (i k : Nat) : P2 := ⟨bif sm then (lClose (lPt (l.p i k)) 20).x else (lPt (l.p i k)).x, bif sm then (lClose (lPt (l.p i k)) 20).y else (lPt (l.p i k)).y⟩
def tameC (l : Ctr) (sm : Bool) : Ctr := ⟨min l.n 4, fun i => min (l.m i) 12, tamP l sm⟩
def tabT : Dyn.Tabs := Dyn.tabs tbA [] noD dtyP
theorem tabT_ok : Dyn.TabsOk Try.prog tabT := Dyn.tabs_ok tbA_ok (fun _ h => by cases h)
def tamF (l : Ctr) (sm : Bool) (i : Nat) : List Dyn.DC := [cRow (min (l.m i) 12) (tamP l sm i)]
def tamG (l : Ctr) (sm : Bool) (i : Nat) (k : Nat) : List Dyn.DC := cP (tamP l sm i k)
def tamS (l : Ctr) (sm : Bool) (t : Int) (i : Nat) : Dyn.St := mkS 53 [(0, sH 0 0 l.n), (1, sB sm), (4, .k (.slice none 0 0)), (5, sH 1 0 i), (6, sI t)] [some (.deep [cCtr l]), some (.own 24 i (tamF l sm))]
def tamT (l : Ctr) (sm : Bool) (t : Int) (i : Nat) (u : Int) (j : Nat) : Dyn.St := mkS 53 [(0, sH 0 0 l.n), (1, sB sm), (4, .k (.slice none 0 0)), (5, sH 1 0 i), (6, sI t), (7, sH 2 0 j), (8, sI u)] [some (.deep [cCtr l]), some (.own 24 i (tamF l sm)), some (.own 23 j (tamG l sm i))]
def tamK0 : List Nat := [0, 1, 4, 5, 6]
def tamK1 : List Nat := [0, 1, 4, 5, 6, 7, 8]
def tamLp (l : Ctr) (sm : Bool) : Dyn.Lp := fun id s => match id with
  | 0 => some (.side [Dyn.nilSlot 5 24 (tamF l sm) (keepS 53 [0] tamK0 64 s) = tamS l sm 0 0] (.leaf .normal (tamS l sm (min l.n 4 : Nat) (min l.n 4))))
  | 2 =>
    let t := intD (s.slots.getD 6 .junk)
    some (.side [Dyn.nilSlot 7 23 (tamG l sm t.toNat) (keepS 53 [0, 1] tamK1 256 s) = tamT l sm t t.toNat 0 0, 0 ≤ t ∧ t < l.n] (.leaf .normal (tamT l sm t t.toNat (min (l.m t.toNat) 12 : Nat) (min (l.m t.toNat) 12))))
  | _ => none
def szP (b n : Nat) : Prop := ((n + 1 : Nat) : Int) * (b : Int) ≤ 140737488355328 ∧ ((n + 1 : Nat) : Int) ≤ 9223372036854775807
theorem szP_ok {b n : Nat} (hb : b ≤ 1000) (hn : n ≤ 1000000000) : szP b n := by
  refine ⟨?_, by omega⟩
  have : (n + 1) * b ≤ 1000000001 * 1000 := Nat.mul_le_mul (by omega) hb
  have h2 : ((n + 1 : Nat) : Int) * (b : Int) = (((n + 1) * b : Nat) : Int) := by rw [Int.natCast_mul]
  rw [h2]; omega
def tamU (l : Ctr) (sm : Bool) (t : Int) (i : Nat) (u : Int) (j : Nat) (q : P2) : Dyn.St := mkS 53 [(0, sH 0 0 l.n), (1, sB sm), (4, .k (.slice none 0 0)), (5, sH 1 0 i), (6, sI t), (7, sH 2 0 (j + 1)), (8, sI u)] [some (.deep [cCtr l]), some (.own 24 i (tamF l sm)), some (.own 23 (j + 1) (Dyn.appF j (tamG l sm i) (fun _ => cP q)))]
def tamV (l : Ctr) (sm : Bool) (t : Int) (i : Nat) : Dyn.St := mkS 53 [(0, sH 0 0 l.n), (1, sB sm), (4, .k (.slice none 0 0)), (5, sH 1 0 (i + 1)), (6, sI t)] [some (.deep [cCtr l]), some (.own 24 (i + 1) (Dyn.appF i (tamF l sm) (fun _ => tamF l sm i)))]
def tamB1 (l : Ctr) (sm : Bool) (t : Int) (i : Nat) (j : Nat) : Dyn.Out :=
  .side [0 ≤ t ∧ t < l.n] (.ite (bif decide ((j : Int) < l.m t.toNat) then decide ((j : Int) < 12) else false)
    (.side [0 ≤ t ∧ t < l.n, 0 ≤ (j : Int) ∧ (j : Int) < l.m t.toNat]
      (.ite sm (.side [W (20 + 1) ≠ 0] (.side [szP 16 j] (.leaf .normal (tamU l sm t i (W ((j : Int) + 1)) j (lClose (lPt (l.p t.toNat j)) 20)))))
        (.side [szP 16 j] (.leaf .normal (tamU l sm t i (W ((j : Int) + 1)) j (lPt (l.p t.toNat j)))))))
    (.leaf (.exit 2) (tamT l sm t i j j)))
def tamB0 (l : Ctr) (sm : Bool) (i : Nat) : Dyn.Out :=
  .ite (bif decide ((i : Int) < l.n) then decide ((i : Int) < 4) else false)
    (.side [tamT l sm i i 0 0 = tamT l sm i i 0 0, 0 ≤ (i : Int) ∧ (i : Int) < l.n] (.side [szP 24 i] (.leaf .normal (tamV l sm (W ((i : Int) + 1)) i)))) (.leaf (.exit 0) (tamS l sm i i))
theorem tam_B1 (l : Ctr) (sm : Bool) (t : Int) (i : Nat) (j : Nat) : (Dyn.lexec Try.prog tabT (tamLp l sm) 3 (unloopD (blkD Try.f37.body 2)) .leaf (tamT l sm t i j j)).rl (fun _ s => keepA 53 [0, 1] [7] tamK1 0 s) = tamB1 l sm t i j := by kernel_rfl
theorem tam_B0 (l : Ctr) (sm : Bool) (i : Nat) : (Dyn.lexec Try.prog tabT (tamLp l sm) 3 (unloopD (blkD Try.f37.body 0)) .leaf (tamS l sm i i)).rl (fun _ s => keepA 53 [0] [5] tamK0 0 s) = tamB0 l sm i := by kernel_rfl
theorem tam_blocks : blocksL (bodyD Try.f37.body) = [(0, .loop (unloopD (blkD Try.f37.body 0))), (1, blkD Try.f37.body 1), (2, .loop (unloopD (blkD Try.f37.body 2))), (3, blkD Try.f37.body 3)] := by kernel_rfl
theorem tam_b0 : blocksL (unloopD (blkD Try.f37.body 0)) = [(1, blkD Try.f37.body 1), (2, .loop (unloopD (blkD Try.f37.body 2))), (3, blkD Try.f37.body 3)] := by kernel_rfl
theorem tam_b2 : blocksL (unloopD (blkD Try.f37.body 2)) = [(3, blkD Try.f37.body 3)] := by kernel_rfl
theorem and_iff {a b : Prop} [Decidable a] [Decidable b] : (bif decide a then decide b else false) = true ↔ a ∧ b := by
  by_cases h : a <;> simp [h]
theorem tam_cell (l : Ctr) (i j : Nat) : (cP (lClose (lPt (l.p i j)) 20) = tamG l true i j) ∧ cP (lPt (l.p i j)) = tamG l false i j := ⟨rfl, rfl⟩
theorem tam_inner (l : Ctr) (sm : Bool) (w0 : Dyn.Base Try.prog) (s : Dyn.St) (o : Dyn.Out) (h : tamLp l sm 2 s = some o) : Dyn.BlockSound Try.prog w0 2 (.loop (unloopD (blkD Try.f37.body 2))) s o := by
  simp only [tamLp, Option.some.injEq] at h
  subst h
  refine side_two fun hS hi => ?_
  revert hS hi
  generalize intD (s.slots.getD 6 .junk) = t
  intro hS hi
  refine fold_block (fuel := 3) tabT_ok mo (lp := tamLp l sm) (by rw [tam_b2]; exact lpOk_cons (fun s o h => by cases h) lpOk_nil) (fun j (_ : Unit) => tamT l sm t t.toNat j j) (min (l.m t.toNat) 12) (fun _ _ => ()) () (fun _ s => keepA 53 [0, 1] [7] tamK1 0 s) (fun _ s => keepA_ent 53 _ _ _ 0 s) (fun j _ => tamB1 l sm t t.toNat j) (fun j _ => tam_B1 l sm t t.toNat j) (fun j hj => ?_) ?_ (hS ▸ (keepS_ent 53 (by decide) _ _ s).trans (Dyn.Ent.nilSlot (P := Try.prog) (k := 1) (by kernel_rfl) _ _))
  · have e1 : W ((j : Int) + 1) = ((j + 1 : Nat) : Int) := by rw [W_id (by omega) (by omega)]; omega
    have fit : ∀ q, cP q = tamG l sm t.toNat j → Dyn.Fits (tamU l sm t t.toNat (W ((j : Int) + 1)) j q) (tamT l sm t t.toNat ((j + 1 : Nat) : Int) (j + 1)) := fun q hq => by
      rw [e1]
      exact ⟨rfl, Dyn.HeLe.refl _, Dyn.HeLe.refl _, le_app hq, trivial⟩
    refine ⟨⟨hi, trivial⟩, fun _ => ⟨⟨hi, ⟨by omega, by omega⟩, trivial⟩, fun hs => ⟨⟨by decide, trivial⟩, ⟨szP_ok (by decide) (by omega), trivial⟩, rfl, ?_⟩, fun hs => ⟨⟨szP_ok (by decide) (by omega), trivial⟩, rfl, ?_⟩⟩, fun hf => ?_⟩
    · subst hs; exact fit _ rfl
    · subst hs; exact fit _ rfl
    · rw [Bool.eq_false_iff] at hf
      exact absurd (and_iff.2 ⟨by omega, by omega⟩) hf
  · refine ⟨⟨hi, trivial⟩, fun ht => ?_, fun _ => ⟨rfl, Dyn.Fits.refl _⟩⟩
    have := and_iff.1 ht
    omega
theorem tam_outer (l : Ctr) (sm : Bool) (w0 : Dyn.Base Try.prog) (s : Dyn.St) (o : Dyn.Out) (h : tamLp l sm 0 s = some o) : Dyn.BlockSound Try.prog w0 0 (.loop (unloopD (blkD Try.f37.body 0))) s o := by
  simp only [tamLp, Option.some.injEq] at h
  subst h
  refine side_one fun hS => ?_
  refine fold_block (fuel := 3) tabT_ok mo (lp := tamLp l sm) (by rw [tam_b0]; exact lpOk_cons (fun s o h => by cases h) (lpOk_cons (tam_inner l sm w0) (lpOk_cons (fun s o h => by cases h) lpOk_nil))) (fun i (_ : Unit) => tamS l sm i i) (min l.n 4) (fun _ _ => ()) () (fun _ s => keepA 53 [0] [5] tamK0 0 s) (fun _ s => keepA_ent 53 _ _ _ 0 s) (fun i _ => tamB0 l sm i) (fun i _ => tam_B0 l sm i) (fun i hi => ?_) ?_ (hS ▸ (keepS_ent 53 (by decide) _ _ s).trans (Dyn.Ent.nilSlot (P := Try.prog) (k := 0) (by kernel_rfl) _ _))
  · have e1 : W ((i : Int) + 1) = ((i + 1 : Nat) : Int) := by rw [W_id (by omega) (by omega)]; omega
    refine ⟨fun _ => ⟨⟨rfl, ⟨by omega, by omega⟩, trivial⟩, ⟨szP_ok (by decide) (by omega), trivial⟩, rfl, ?_⟩, fun hf => ?_⟩
    · rw [e1]; exact ⟨rfl, Dyn.HeLe.refl _, le_app rfl, trivial⟩
    · rw [Bool.eq_false_iff] at hf
      exact absurd (and_iff.2 ⟨by omega, by omega⟩) hf
  · refine ⟨fun ht => ?_, fun _ => ⟨rfl, Dyn.Fits.refl _⟩⟩
    have := and_iff.1 ht
    omega
theorem tame_ok (l : Ctr) (sm : Bool) : Dyn.CallD Try.prog 37 [dvC l, dvB sm] (.val (dvC (tameC l sm))) :=
  Dyn.dcontract (lp := tamLp l sm) (fuel := 3) (X := tabT) tabT_ok mo Try.func37 (by kernel_rfl) (c := bodyD Try.f37.body) (by kernel_rfl)
    (fun w0 => by rw [tam_blocks]; exact lpOk_cons (tam_outer l sm w0) (lpOk_cons (fun s o h => by cases h) (lpOk_cons (tam_inner l sm w0) (lpOk_cons (fun s o h => by cases h) lpOk_nil))))
    (by kernel_rfl) (O := .side [tamS l sm 0 0 = tamS l sm 0 0] (.leaf (.val (.one (.row (min l.n 4) (tamF l sm)))))) (by kernel_rfl) ⟨⟨rfl, trivial⟩, rfl, fun _ _ => rfl⟩
/-! ### the table of contours -/
def enXCi (F : B4 → Ctr → Dyn.RV) := enXC F
def aC0 : Dyn.DV → Option (Ctr × List Prop)
  | .one (.row n f) => some (ctrOf n f, [ctrIs n f])
  | _ => none
theorem aC0_eq {d : Dyn.DV} {x : Ctr} {ps : List Prop} (h : aC0 d = some (x, ps)) (hp : allP ps) : Dyn.DVLe d (dvC x) := by
  unfold aC0 at h; split at h
  · simp only [Option.some.injEq, Prod.mk.injEq] at h
    obtain ⟨rfl, rfl⟩ := h
    exact ⟨rfl, hp.1⟩
  · cases h
def enCB (F : Ctr → Bool → Dyn.RV) : List Dyn.DV → Option (Dyn.RV × List Prop)
  | [a, b] => match aC0 a, aB b with
    | some (l, ps), some x => some (F l x, ps)
    | _, _ => none
  | _ => none
theorem enCB_ok {P : Program} {K : Nat} {F : Ctr → Bool → Dyn.RV} (h : ∀ l x, Dyn.CallD P K [dvC l, dvB x] (F l x)) : Dyn.EntryDOk P (K, enCB F) := fun args r ps hr hp => by
  dsimp only at hr
  unfold enCB at hr
  split at hr
  · split at hr
    · rename_i l ps' x hl hx
      simp only [Option.some.injEq, Prod.mk.injEq] at hr
      obtain ⟨rfl, rfl⟩ := hr
      exact CallD_le (args := [dvC l, dvB x]) ⟨aC0_eq hl hp, aB_eq hx, trivial⟩ (h l x)
    · cases hr
  · cases hr
def tdR : List Dyn.EntryD := [(39, enPC fun p l => rB (polyHasF p l)), (38, enXC fun b l => rI (polyClassF b l))]
theorem tdR_ok : ∀ e ∈ tdR, Dyn.EntryDOk Try.prog e := List.forall_mem_cons.2 ⟨enPC_ok polyHas_ok, List.forall_mem_cons.2 ⟨enXC_ok polyClass_ok, fun _ h => by cases h⟩⟩
def tabR : Dyn.Tabs := Dyn.tabs tbA tdR noD dtyP
theorem tabR_ok : Dyn.TabsOk Try.prog tabR := Dyn.tabs_ok tbA_ok tdR_ok
def litP (x y : Int) : List Dyn.DC := cP ⟨x, y⟩
def litRow (l : List (List Dyn.DC)) : Dyn.DC := .row l.length (Dyn.pickL 0 l)
def awL : List (List Dyn.DC) := [[litRow [litP 0 0, litP 8 0, litP 8 8, litP 0 8]], [litRow [litP 2 2, litP 4 2, litP 4 4, litP 2 4]]]
def awC : Ctr := ctrOf 2 (Dyn.pickL 0 awL)
def nilC : Ctr := ctrOf 0 (fun _ => [])
theorem awC_B : CtrB awC := ⟨by decide, fun i hi => by
  have : i = 0 ∨ i = 1 := by have hi' : i < 2 := hi; omega
  rcases this with rfl | rfl <;> (show 4 ≤ 1000000000; decide)⟩
theorem awC_is : ctrIs 2 (Dyn.pickL 0 awL) := fun i hi => by
  have : i = 0 ∨ i = 1 := by omega
  rcases this with rfl | rfl <;> (show Dyn.pickL 0 awL _ = _; kernel_rfl)
theorem nilC_B : CtrB nilC := ⟨by decide, fun i hi => by have hi' : i < 0 := hi; omega⟩
theorem nilC_is : ctrIs 0 (fun _ => []) := fun i hi => by omega
def awS : Prop := some true = some true ∧ True → Sym.allP [CtrB awC, ctrIs 2 (Dyn.pickL 0 awL)]
theorem awS_ok : awS := fun _ => ⟨awC_B, awC_is, trivial⟩
theorem awake6_ok : Dyn.CallD Try.prog 40 [] (rB true) :=
  Dyn.dcontractV (lp := Dyn.noLp) (fuel := 3) (X := tabR) tabR_ok mo Try.func40 (by kernel_rfl) (c := bodyD Try.f40.body) (by kernel_rfl) (fun w0 => Dyn.noLp_ok _ w0)
    (by kernel_rfl) (by kernel_rfl) (show _ = [CtrB awC, ctrIs 2 (Dyn.pickL 0 awL), awS, awS, awS, awS, some true = some true ∧ True → Sym.allP [CtrB nilC, ctrIs 0 (fun _ => [])]] by kernel_rfl) ⟨awC_B, awC_is, awS_ok, awS_ok, awS_ok, awS_ok, fun _ => ⟨nilC_B, nilC_is, trivial⟩, trivial⟩
/-! ### the law PolySure -/
def en0D (r : Dyn.RV) : List Dyn.DV → Option (Dyn.RV × List Prop)
  | [] => some (r, [])
  | _ => none
theorem en0D_ok {P : Program} {K : Nat} {r : Dyn.RV} (h : Dyn.CallD P K [] r) : Dyn.EntryDOk P (K, en0D r) := fun args r' ps hr hp => by
  dsimp only at hr
  unfold en0D at hr
  split at hr
  · simp only [Option.some.injEq, Prod.mk.injEq] at hr
    rw [← hr.1]; exact h
  · cases hr
def tdS : List Dyn.EntryD := (40, en0D (rB true)) :: (37, enCB fun l x => .val (dvC (tameC l x))) :: tdR
theorem tdS_ok : ∀ e ∈ tdS, Dyn.EntryDOk Try.prog e := List.forall_mem_cons.2 ⟨en0D_ok awake6_ok, List.forall_mem_cons.2 ⟨enCB_ok tame_ok, tdR_ok⟩⟩
def dresS (K : Nat) : Bool := Nat.beq K 37
def tabS : Dyn.Tabs := Dyn.tabs tbA tdS dresS dtyP
theorem tabS_ok : Dyn.TabsOk Try.prog tabS := Dyn.tabs_ok tbA_ok tdS_ok
end Go.Proofs.Ytgdjfclpncpnpaa
