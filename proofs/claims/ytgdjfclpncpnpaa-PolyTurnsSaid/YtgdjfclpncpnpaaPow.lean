/-
  OWN WORK. The law PolyTurns.
-/
import Derived.Test.YtgdjfclpncpnpaaPov
import Derived.Test.YtgdjfclpncpnpaaPot
namespace Go.Proofs.Ytgdjfclpncpnpaa
open Go Go.RowKit Sym

/-- the same contours, as far as they go -/
structure CEq (l l' : Ctr) : Prop where
  n : l.n = l'.n
  m : ∀ i, i < l.n → l.m i = l'.m i
  p : ∀ i, i < l.n → ∀ k, k < l.m i → l.p i k = l'.p i k
theorem CEq.acc {l l' : Ctr} (h : CEq l l') (op : Bool → Bool → Bool) (f : P2 → P2 → Bool) : accC op f l = accC op f l' := by
  unfold accC
  rw [← h.n]
  refine accN_congr fun i hi => ?_
  rw [← h.m i hi]
  refine accN_congr fun k hk => ?_
  unfold edgeC
  rw [← h.m i hi, h.p i hi k hk, h.p i hi _ (nxt_lt hk)]
theorem cls_acc {l l' : Ctr} (h : ∀ op f, ACM op → (∀ a e, f a e = f e a) → accC op f l = accC op f l') (b : B4) : clsC b l = clsC b l' := by
  unfold clsC
  rw [touchI_acc, touchI_acc, oddI_acc, oddI_acc, h _ _ acm_or fun a e => meetsI_swp b e a, h _ _ acm_xor fun a e => crossesI_swp _ e a]
theorem has_acc {l l' : Ctr} (h : ∀ op f, ACM op → (∀ a e, f a e = f e a) → accC op f l = accC op f l') (p : P2) : hasC p l = hasC p l' := by
  unfold hasC
  rw [touchI_acc, touchI_acc, oddI_acc, oddI_acc, h _ _ acm_or fun a e => meetsI_swp _ e a, h _ _ acm_xor fun a e => crossesI_swp _ e a]
theorem rvI_eq {n t : Nat} (h : t < n) : rvI n t = n - 1 - t := by unfold rvI; omega
theorem rot_eq {L : Ctr} (hl : CtrB L) (fr : Int) : CEq (ctX L (ptO L fr)) ⟨L.n, fun t => L.m (L.n - 1 - t), fun t k => L.p (L.n - 1 - t) ((k + (band fr 255).toNat) % L.m (L.n - 1 - t))⟩ where
  n := rfl
  m i hi := by show L.m (rvI L.n i) = L.m (L.n - 1 - i); rw [rvI_eq (show i < L.n from hi)]
  p i hi k hk := by
    have hi' : i < L.n := hi
    have hk' : k < L.m (rvI L.n i) := hk
    show L.p (rvI L.n i) (rotI (L.m (rvI L.n i)) fr k).toNat = L.p (L.n - 1 - i) ((k + (band fr 255).toNat) % L.m (L.n - 1 - i))
    rw [rvI_eq hi'] at hk' ⊢
    have hm : L.m (L.n - 1 - i) ≤ 1000000000 := hl.2 _ (by omega)
    have hb := band255' fr
    congr 1
    unfold rotI
    rw [W_id (by omega) (by omega), Int.tmod_eq_emod_of_nonneg (by omega)]
    generalize L.m (L.n - 1 - i) = m at *
    obtain ⟨s, hs⟩ : ∃ s : Nat, band fr 255 = (s : Int) := ⟨(band fr 255).toNat, by omega⟩
    rw [hs, Int.toNat_natCast, ← Int.natCast_add, ← Int.natCast_emod, Int.toNat_natCast]
theorem bak_eq {L : Ctr} (hl : CtrB L) : CEq (ctX L (ptW L)) ⟨L.n, fun t => L.m (L.n - 1 - t), fun t k => L.p (L.n - 1 - t) (L.m (L.n - 1 - t) - 1 - k)⟩ where
  n := rfl
  m i hi := by show L.m (rvI L.n i) = L.m (L.n - 1 - i); rw [rvI_eq (show i < L.n from hi)]
  p i hi k hk := by
    have hi' : i < L.n := hi
    have hk' : k < L.m (rvI L.n i) := hk
    show L.p (rvI L.n i) (bakI (L.m (rvI L.n i)) k).toNat = L.p (L.n - 1 - i) (L.m (L.n - 1 - i) - 1 - k)
    rw [rvI_eq hi'] at hk' ⊢
    rw [bakI_in hk' (hl.2 _ (by omega))]
    congr 1
    omega
theorem rot_acc {L : Ctr} (hl : CtrB L) (fr : Int) (op : Bool → Bool → Bool) (f : P2 → P2 → Bool) (A : ACM op) : accC op f (ctX L (ptO L fr)) = accC op f L := ((rot_eq hl fr).acc op f).trans (accC_rot A f L _)
theorem bak_acc {L : Ctr} (hl : CtrB L) (op : Bool → Bool → Bool) (f : P2 → P2 → Bool) (A : ACM op) (hf : ∀ a e, f a e = f e a) : accC op f (ctX L (ptW L)) = accC op f L := ((bak_eq hl).acc op f).trans (accC_back A f hf L)
/-- contours near the middle -/
structure Nr (n : Int) (p : P2) : Prop where
  x : -n ≤ p.x ∧ p.x ≤ n
  y : -n ≤ p.y ∧ p.y ≤ n
theorem Nr.r {n : Int} {p : P2} (h : Nr n p) (hn : n ≤ 1000000000) : PR p := ⟨⟨by have := h.x; omega, by have := h.x; omega⟩, ⟨by have := h.y; omega, by have := h.y; omega⟩⟩
def NC (n : Int) (l : Ctr) : Prop := ∀ i, i < l.n → ∀ k, k < l.m i → Nr n (l.p i k)
theorem NC.r {n : Int} {l : Ctr} (h : NC n l) (hn : n ≤ 1000000000) : PRC l := ⟨fun i hi k hk => (h i hi k hk).r hn⟩
theorem NC.rot {n : Int} {L : Ctr} (hl : CtrB L) (h : NC n L) (fr : Int) : NC n (ctX L (ptO L fr)) := fun i hi k hk => by
  have hi' : i < L.n := hi
  have hk' : k < L.m (rvI L.n i) := hk
  rw [rvI_eq hi'] at hk'
  have hm : L.m (L.n - 1 - i) ≤ 1000000000 := hl.2 _ (by omega)
  have := rotI_in (fr := fr) hk' hm
  show Nr n (L.p (rvI L.n i) (rotI (L.m (rvI L.n i)) fr k).toNat)
  rw [rvI_eq hi']
  exact h _ (by omega) _ (by omega)
theorem NC.bak {n : Int} {L : Ctr} (hl : CtrB L) (h : NC n L) : NC n (ctX L (ptW L)) := fun i hi k hk => by
  have hi' : i < L.n := hi
  have hk' : k < L.m (rvI L.n i) := hk
  rw [rvI_eq hi'] at hk'
  have hm : L.m (L.n - 1 - i) ≤ 1000000000 := hl.2 _ (by omega)
  have := bakI_in hk' hm
  show Nr n (L.p (rvI L.n i) (bakI (L.m (rvI L.n i)) k).toNat)
  rw [rvI_eq hi']
  exact h _ (by omega) _ (by omega)
theorem qmP_eq {u q : P2} (hu : Nr 100000000 u) (hq : Nr 100 q) : qmP u q = tmP u q := by
  obtain ⟨a, b⟩ := hu; obtain ⟨c, d⟩ := hq
  unfold qmP tmP
  rw [W_id (by omega) (by omega), W_id (by omega) (by omega)]
theorem qtP_eq {q : P2} (hq : Nr 100 q) : qtP q = tqP q := by
  obtain ⟨c, d⟩ := hq
  unfold qtP tqP
  rw [W_id (by omega) (by omega), Int.zero_sub]
theorem tmP_N {u q : P2} (hu : Nr 100000000 u) (hq : Nr 100 q) : Nr 100000100 (tmP u q) := by
  obtain ⟨a, b⟩ := hu; obtain ⟨c, d⟩ := hq
  exact ⟨by unfold tmP; dsimp only; omega, by unfold tmP; dsimp only; omega⟩
theorem tqP_N {n : Int} {q : P2} (hq : Nr n q) : Nr n (tqP q) := by
  obtain ⟨c, d⟩ := hq
  exact ⟨by unfold tqP; dsimp only; omega, by unfold tqP; dsimp only; omega⟩
theorem map_eq {T T' : P2 → P2} {l : Ctr} (h : ∀ i, i < l.n → ∀ k, k < l.m i → T (l.p i k) = T' (l.p i k)) : CEq (mapC T l) (mapC T' l) := ⟨rfl, fun _ _ => rfl, h⟩
theorem CEq.nc {n : Int} {l l' : Ctr} (e : CEq l l') (h : NC n l') : NC n l := fun i hi k hk => by rw [e.p i hi k hk]; exact h i (e.n ▸ hi) k (e.m i hi ▸ hk)
theorem NC.map {n n' : Int} {l : Ctr} {T : P2 → P2} (h : NC n l) (hT : ∀ p, Nr n p → Nr n' (T p)) : NC n' (mapC T l) := fun i hi k hk => hT _ (h i hi k hk)
structure PtOk (L : Ctr) (b : B4) (p u : P2) : Prop where
  l : CtrB L
  L : NC 100 L
  b : -19 ≤ b.x0 ∧ b.x0 ≤ b.x1 ∧ b.x1 ≤ 26 ∧ -19 ≤ b.y0 ∧ b.y0 ≤ b.y1 ∧ b.y1 ≤ 26
  p : Nr 100 p
  u : Nr 100000000 u
theorem pt_all {L : Ctr} {b : B4} {p u : P2} (h : PtOk L b p u) (fr : Int) : ptC8 L b p fr u = true := by
  obtain ⟨hl, hL, hb, hp, hu⟩ := h
  have hbR : BR b := ⟨⟨by omega, by omega⟩, ⟨by omega, by omega⟩, ⟨by omega, by omega⟩, ⟨by omega, by omega⟩⟩
  have hR := hL.r (by decide)
  have hpR := hp.r (by decide)
  have hO := hL.rot hl fr
  have hOR := hO.r (by decide)
  have hWR := (hL.bak hl).r (by decide)
  have k0 := clsC_eq hbR hb.2.1 hb.2.2.2.2.1 hR
  have i0 := hasC_eq hpR hR
  have cO : ∀ b, clsC b (ctX L (ptO L fr)) = clsC b L := fun b => cls_acc (fun op f A _ => rot_acc hl fr op f A) b
  have iO : ∀ p, hasC p (ctX L (ptO L fr)) = hasC p L := fun p => has_acc (fun op f A _ => rot_acc hl fr op f A) p
  have cW : ∀ b, clsC b (ctX L (ptW L)) = clsC b L := fun b => cls_acc (fun op f A hf => bak_acc hl op f A hf) b
  have iW : ∀ p, hasC p (ctX L (ptW L)) = hasC p L := fun p => has_acc (fun op f A hf => bak_acc hl op f A hf) p
  have eM : CEq (ctX L (ptM L fr u)) (mapC (tmP u) (ctX L (ptO L fr))) := map_eq (T := qmP u) (l := ctX L (ptO L fr)) fun i hi k hk => qmP_eq hu (hO i hi k hk)
  have eT : CEq (ctX L (ptT L fr)) (mapC tqP (ctX L (ptO L fr))) := map_eq (T := qtP) (l := ctX L (ptO L fr)) fun i hi k hk => qtP_eq (hO i hi k hk)
  have hMR := (eM.nc (hO.map (n' := 100000100) fun p hp => tmP_N hu hp)).r (by decide)
  have hTR := (eT.nc (hO.map (n' := 100) fun p hp => tqP_N hp)).r (by decide)
  have eB : qmB u b = tmB u b := by
    obtain ⟨a1, a2⟩ := hu
    unfold qmB tmB
    rw [W_id (by omega) (by omega), W_id (by omega) (by omega), W_id (by omega) (by omega), W_id (by omega) (by omega)]
  have eB' : qtB b = tqB b := by
    unfold qtB tqB
    rw [W_id (by omega) (by omega), W_id (by omega) (by omega), Int.zero_sub, Int.zero_sub]
  have eP := qmP_eq hu hp
  have eP' := qtP_eq hp
  have bM : BR (tmB u b) ∧ (tmB u b).x0 ≤ (tmB u b).x1 ∧ (tmB u b).y0 ≤ (tmB u b).y1 := by
    obtain ⟨a1, a2⟩ := hu
    unfold tmB
    exact ⟨⟨⟨by dsimp only; omega, by dsimp only; omega⟩, ⟨by dsimp only; omega, by dsimp only; omega⟩, ⟨by dsimp only; omega, by dsimp only; omega⟩, ⟨by dsimp only; omega, by dsimp only; omega⟩⟩, by dsimp only; omega, by dsimp only; omega⟩
  have bT : BR (tqB b) ∧ (tqB b).x0 ≤ (tqB b).x1 ∧ (tqB b).y0 ≤ (tqB b).y1 := by
    unfold tqB
    exact ⟨⟨⟨by dsimp only; omega, by dsimp only; omega⟩, ⟨by dsimp only; omega, by dsimp only; omega⟩, ⟨by dsimp only; omega, by dsimp only; omega⟩, ⟨by dsimp only; omega, by dsimp only; omega⟩⟩, by dsimp only; omega, by dsimp only; omega⟩
  have a1 : ptA1 L b fr = true := by unfold ptA1; rw [clsC_eq hbR hb.2.1 hb.2.2.2.2.1 hOR, cO, k0]; simp
  have a2 : ptA2 L p fr = true := by unfold ptA2; rw [hasC_eq hpR hOR, iO, i0]; simp
  have a3 : ptA3 L b = true := by unfold ptA3; rw [clsC_eq hbR hb.2.1 hb.2.2.2.2.1 hWR, cW, k0]; simp
  have a4 : ptA4 L p = true := by unfold ptA4; rw [hasC_eq hpR hWR, iW, i0]; simp
  have a5 : ptA5 L b fr u = true := by
    unfold ptA5
    rw [eB, clsC_eq bM.1 bM.2.1 bM.2.2 hMR, cls_acc (fun op f _ _ => eM.acc op f), clsC_tm, cO, k0]; simp
  have a6 : ptA6 L p fr u = true := by
    unfold ptA6
    rw [eP, hasC_eq ((tmP_N hu hp).r (by decide)) hMR, has_acc (fun op f _ _ => eM.acc op f), hasC_tm, iO, i0]; simp
  have a7 : ptA7 L b fr = true := by
    unfold ptA7
    rw [eB', clsC_eq bT.1 bT.2.1 bT.2.2 hTR, cls_acc (fun op f _ _ => eT.acc op f), clsC_tq hb.2.1 hb.2.2.2.2.1, cO, k0]; simp
  have a8 : ptA8 L p fr = true := by
    unfold ptA8
    rw [eP', hasC_eq ((tqP_N hp).r (by decide)) hTR, has_acc (fun op f _ _ => eT.acc op f), hasC_tq, iO, i0]; simp
  unfold ptC8 ptC7 ptC6 ptC5 ptC4 ptC3 ptC2
  rw [a1, a2, a3, a4, a5, a6, a7, a8]; rfl
theorem polyTurns_ok (b : B4) (L : Ctr) (p : P2) (fr : Int) (u : P2) : Dyn.CallD Try.prog 11 [dvX b, dvC L, dvP p, dvI fr, dvP u] (rB true) := by
  have hl := tameC_B L true
  have sb := lSmall_r b
  have sp := lClose_r p (n := 20) (by decide) (by decide)
  have su := lClose_r u (n := 100000000) (by decide) (by decide)
  have e := pt_all (L := tameC L true) (b := lSmall b) (p := lClose p 20) (u := lClose u 100000000) ⟨hl, fun i _ k _ => by
    have g := lClose_r (lPt (L.p i k)) (n := 20) (by decide) (by decide)
    exact ⟨by show _ ≤ (lClose (lPt (L.p i k)) 20).x ∧ (lClose (lPt (L.p i k)) 20).x ≤ _; omega, by show _ ≤ (lClose (lPt (L.p i k)) 20).y ∧ (lClose (lPt (L.p i k)) 20).y ≤ _; omega⟩, by omega, ⟨by omega, by omega⟩, ⟨by omega, by omega⟩⟩ fr
  have v := pt_val b L p fr u
  rw [e] at v
  exact Dyn.dcontractV (lp := ptLp (tameC L true) (lSmall b) (lClose p 20) (lClose u 100000000) fr) (fuel := 3) (X := tabS) tabS_ok mo Try.func11 (by kernel_rfl) (c := bodyD Try.f11.body) (by kernel_rfl)
    (fun w0 => by rw [pt_blocks]; exact lpOk_cons (pt_outer (tameC L true) _ _ _ fr hl w0) (lpOk_cons (fun s o h => by cases h) (lpOk_cons (pt_inner (tameC L true) _ _ _ fr hl w0) (lpOk_cons (fun s o h => by cases h) lpOk_nil))))
    (by kernel_rfl) v (pt_side b L p fr u) (ptSide_ok L hl _ _ _ fr)
end Go.Proofs.Ytgdjfclpncpnpaa
