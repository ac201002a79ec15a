/-
  OWN WORK. Joined by merge.py: Plc Cnt Pie Pif Raw Tue Cpa Cpb Cpc Cpd Tup Rio Rim Pov Tuf Fir Tum Tun Tuq.
-/
import Derived.Test.YtfooaikpcbnchaaQE
import Derived.WalkKit
import Derived.ProofKit
import Derived.Test.YtfooaikpcbnchaaQG
import Derived.Test.YtfooaikpcbnchaaQF
import Derived.LaidEql
import Derived.MapKept
import Derived.Deep.LoopGhost
import Derived.Deep.QuietTactic
import Derived.BigQuiet
import Derived.StillTailTactics
import Derived.Maps.Own
import Derived.Carry
import Derived.Deep.RegionWith
/-! ## Plc -/
namespace Go.Proofs.Ytfooaikpcbnchaa
open Go Go.RowKit Sym
set_option maxRecDepth 100000

end Go.Proofs.Ytfooaikpcbnchaa

/-! ## Cnt -/
namespace Go.Proofs.Ytfooaikpcbnchaa
open Go Go.RowKit Sym
set_option maxRecDepth 100000

end Go.Proofs.Ytfooaikpcbnchaa

/-! ## Pie -/
namespace Go.Proofs.Ytfooaikpcbnchaa
open Go Go.RowKit Sym
set_option maxRecDepth 100000

/-! ### a disc around (0, 0), as it is written -/
def dC (r : Int) : List Dyn.DC := [cI 1, cI 0, cI 0, cI 0, cI 0, cI 0, cI 0, cI r, .row 0 noF, .row 0 noF]
def discS (r : Int) : Shp := leafS 1 ze ze ze r zeC
theorem dC_le (r : Int) : DLL (dC r) (cS (toSh (discS r))) := ⟨.refl _, .refl _, .refl _, .refl _, .refl _, .refl _, .refl _, .refl _, DLe.rowL fun i hi => absurd hi (Nat.not_lt_zero i), DLe.rowL fun i hi => absurd hi (Nat.not_lt_zero i), trivial⟩
/-! ### the lists of the document -/
def fL2 : Nat → List Dyn.DC := Dyn.pickL 0 [cB true :: dC 9, cB false :: dC 2]
def E1 : Prop := (1 : Int) = 1 ∧ (0 : Int) = 0 ∧ (0 : Int) = 0 ∧ (0 : Int) = 0 ∧ (0 : Int) = 0 ∧ (0 : Int) = 0 ∧ (0 : Int) = 0 ∧ 0 = 0 ∧ 0 = 0
def L2 : Shp := lForm 2 (fun i => Nat.beq i 0) (fun i => discS (bif Nat.beq i 0 then 9 else 2))
def L0 : Shp := lForm 0 (fun _ => false) (fun _ => .nil)
def LN (n : Nat) : Shp := bif Nat.beq n 0 then L0 else L2
theorem L2_e0 : fL2 0 = cB true :: dC 9 := by kernel_rfl
theorem L2_e1 : fL2 1 = cB false :: dC 2 := by kernel_rfl
theorem L2_le : DVd (.one (.row 2 fL2)) (dvL (toSh L2)) := DLe.rowL fun i hi => by
  have : i = 0 ∨ i = 1 := by omega
  rcases this with rfl | rfl
  · rw [L2_e0]; exact ⟨.refl _, dC_le 9⟩
  · rw [L2_e1]; exact ⟨.refl _, dC_le 2⟩
def RkL (n : Nat) (f : Nat → List Dyn.DC) : Prop := n = 0 ∨ (n = 2 ∧ DLe (.row n f) (.row 2 fL2))
theorem RkL.call {P : Program} {K n : Nat} {f : Nat → List Dyn.DC} {l : List Dyn.DV} {r : Dyn.RV} (h : RkL n f) (k : Dyn.CallD P K (dvL (toSh (LN n)) :: l) r) : Dyn.CallD P K (.one (.row n f) :: l) r := by
  rcases h with rfl | ⟨rfl, h⟩
  · exact CallD_d1 (v' := dvL (toSh L0)) (DLe.rowL fun i hi => absurd hi (Nat.not_lt_zero i)) k
  · exact CallD_d1 (show DVd (.one (.row 2 f)) (.one (.row 2 fL2)) from h) (CallD_d1 L2_le k)
end Go.Proofs.Ytfooaikpcbnchaa

/-! ## Pif -/
namespace Go.Proofs.Ytfooaikpcbnchaa
open Go Go.RowKit Sym
set_option maxRecDepth 100000

end Go.Proofs.Ytfooaikpcbnchaa

/-! ## Raw -/
namespace Go.Proofs.Ytfooaikpcbnchaa
open Go Go.RowKit Sym
set_option maxRecDepth 100000

theorem CallR_le {P : Program} {K : Nat} {args args' : List Dyn.DV} {r : Dyn.RV} (h : Dyn.DVsLe args' args) (k : Dyn.CallR P K args r) : Dyn.CallR P K args' r := fun w F us hF hd => k w F us hF (Dyn.DenVs_le h hd)
theorem CallR_rle {P : Program} {K : Nat} {args : List Dyn.DV} {r r' : Dyn.RV} (h : Dyn.RVLe r r') (k : Dyn.CallR P K args r) : Dyn.CallR P K args r' := fun w F us hF hd => by
  have := k w F us hF hd
  split at this
  · rename_i u w' hr
    exact ⟨Dyn.DenR_le h this.1, this.2⟩
  · rename_i f as' w' hr
    refine ⟨this.1, this.2.mono fun e w'' he => ?_⟩
    obtain ⟨u, h1, h2, h3⟩ := he
    exact ⟨u, h1, Dyn.DenR_le h h2, h3⟩
  · exact this.elim
theorem en2R_ok {P : Program} {K : Nat} {α β : Type} {q : Dec α} {q2 : Dec β} {e : α → Dyn.DV} {e2 : β → Dyn.DV} {p : α → Prop} {p2 : β → Prop} {F : α → β → Dyn.RV} (hq : DecOk q e p) (hq2 : DecOk q2 e2 p2) (h : ∀ x y, p x → p2 y → Dyn.CallR P K [e x, e2 y] (F x y)) : Dyn.EntryROk P (K, en2D q q2 F) := fun args r ps hr hp => by
  dsimp only at hr
  unfold en2D at hr
  split at hr
  · split at hr
    · rename_i x ps' y qs' hx hy
      simp only [Option.some.injEq, Prod.mk.injEq] at hr
      obtain ⟨rfl, rfl⟩ := hr
      rw [allP_append] at hp
      obtain ⟨h1, h2⟩ := hq _ _ _ hx hp.1
      obtain ⟨h3, h4⟩ := hq2 _ _ _ hy hp.2
      exact CallR_le (args := [e x, e2 y]) ⟨h1, h3, trivial⟩ (h x y h2 h4)
    · cases hr
  · cases hr
theorem en3R_ok {P : Program} {K : Nat} {α β γ : Type} {q : Dec α} {q2 : Dec β} {q3 : Dec γ} {e : α → Dyn.DV} {e2 : β → Dyn.DV} {e3 : γ → Dyn.DV} {p : α → Prop} {p2 : β → Prop} {p3 : γ → Prop} {F : α → β → γ → Dyn.RV} (hq : DecOk q e p) (hq2 : DecOk q2 e2 p2) (hq3 : DecOk q3 e3 p3)
    (h : ∀ x y z, p x → p2 y → p3 z → Dyn.CallR P K [e x, e2 y, e3 z] (F x y z)) : Dyn.EntryROk P (K, en3D q q2 q3 F) := fun args r ps hr hp => by
  dsimp only at hr
  unfold en3D at hr
  split at hr
  · split at hr
    · rename_i x ps' y qs' z rs' hx hy hz
      simp only [Option.some.injEq, Prod.mk.injEq] at hr
      obtain ⟨rfl, rfl⟩ := hr
      rw [allP_append, allP_append] at hp
      obtain ⟨h1, h2⟩ := hq _ _ _ hx hp.1.1
      obtain ⟨h3, h4⟩ := hq2 _ _ _ hy hp.1.2
      obtain ⟨h5, h6⟩ := hq3 _ _ _ hz hp.2
      exact CallR_le (args := [e x, e2 y, e3 z]) ⟨h1, h3, h5, trivial⟩ (h x y z h2 h4 h6)
    · cases hr
  · cases hr
def tamSR (l : Ctr) (sm : Bool) (t : Int) (i : Nat) : Dyn.St := mkS 53 [(0, sH 0 0 l.n), (1, sB sm), (4, .k (.slice none 0 0)), (5, sH 1 0 i), (6, sI t)] [some (.raw [cCtr l]), some (.own 78 i (tamF l sm))]
def tamTR (l : Ctr) (sm : Bool) (t : Int) (i : Nat) (u : Int) (j : Nat) : Dyn.St := mkS 53 [(0, sH 0 0 l.n), (1, sB sm), (4, .k (.slice none 0 0)), (5, sH 1 0 i), (6, sI t), (7, sH 2 0 j), (8, sI u)] [some (.raw [cCtr l]), some (.own 78 i (tamF l sm)), some (.own 23 j (tamG l sm i))]
def tamLpR (l : Ctr) (sm : Bool) : Dyn.Lp := fun id s => match id with
  | 0 => some (.side [Dyn.nilSlot 5 78 (tamF l sm) (keepS 53 [0] tamK0 64 s) = tamSR l sm 0 0] (.leaf .normal (tamSR l sm (min l.n 4 : Nat) (min l.n 4))))
  | 2 =>
    let t := intD (s.slots.getD 6 .junk)
    some (.side [Dyn.nilSlot 7 23 (tamG l sm t.toNat) (keepS 53 [0, 1] tamK1 256 s) = tamTR l sm t t.toNat 0 0, 0 ≤ t ∧ t < l.n] (.leaf .normal (tamTR l sm t t.toNat (min (l.m t.toNat) 12 : Nat) (min (l.m t.toNat) 12))))
  | _ => none
def tamUR (l : Ctr) (sm : Bool) (t : Int) (i : Nat) (u : Int) (j : Nat) (q : P2) : Dyn.St := mkS 53 [(0, sH 0 0 l.n), (1, sB sm), (4, .k (.slice none 0 0)), (5, sH 1 0 i), (6, sI t), (7, sH 2 0 (j + 1)), (8, sI u)] [some (.raw [cCtr l]), some (.own 78 i (tamF l sm)), some (.own 23 (j + 1) (Dyn.appF j (tamG l sm i) (fun _ => cP q)))]
def tamVR (l : Ctr) (sm : Bool) (t : Int) (i : Nat) : Dyn.St := mkS 53 [(0, sH 0 0 l.n), (1, sB sm), (4, .k (.slice none 0 0)), (5, sH 1 0 (i + 1)), (6, sI t)] [some (.raw [cCtr l]), some (.own 78 (i + 1) (Dyn.appF i (tamF l sm) (fun _ => tamF l sm i)))]
def tamB1R (l : Ctr) (sm : Bool) (t : Int) (i : Nat) (j : Nat) : Dyn.Out :=
  .side [0 ≤ t ∧ t < l.n] (.ite (bif decide ((j : Int) < l.m t.toNat) then decide ((j : Int) < 12) else false)
    (.side [0 ≤ t ∧ t < l.n, 0 ≤ (j : Int) ∧ (j : Int) < l.m t.toNat]
      (.ite sm (.side [W (20 + 1) ≠ 0] (.side [szP 16 j] (.leaf .normal (tamUR l sm t i (W ((j : Int) + 1)) j (lClose (lPt (l.p t.toNat j)) 20)))))
        (.side [szP 16 j] (.leaf .normal (tamUR l sm t i (W ((j : Int) + 1)) j (lPt (l.p t.toNat j)))))))
    (.leaf (.exit 2) (tamTR l sm t i j j)))
def tamB0R (l : Ctr) (sm : Bool) (i : Nat) : Dyn.Out :=
  .ite (bif decide ((i : Int) < l.n) then decide ((i : Int) < 4) else false)
    (.side [tamTR l sm i i 0 0 = tamTR l sm i i 0 0, 0 ≤ (i : Int) ∧ (i : Int) < l.n] (.side [szP 24 i] (.leaf .normal (tamVR l sm (W ((i : Int) + 1)) i)))) (.leaf (.exit 0) (tamSR l sm i i))
theorem tam_B1R (l : Ctr) (sm : Bool) (t : Int) (i : Nat) (j : Nat) : (Dyn.lexec Try.prog tabT (tamLpR l sm) 3 (unloopD (blkD Try.f45.body 2)) .leaf (tamTR l sm t i j j)).rl (fun _ s => keepA 53 [0, 1] [7] tamK1 0 s) = tamB1R l sm t i j := by kernel_rfl
theorem tam_B0R (l : Ctr) (sm : Bool) (i : Nat) : (Dyn.lexec Try.prog tabT (tamLpR l sm) 3 (unloopD (blkD Try.f45.body 0)) .leaf (tamSR l sm i i)).rl (fun _ s => keepA 53 [0] [5] tamK0 0 s) = tamB0R l sm i := by kernel_rfl
theorem tam_innerR (l : Ctr) (sm : Bool) (w0 : Dyn.Base Try.prog) (s : Dyn.St) (o : Dyn.Out) (h : tamLpR l sm 2 s = some o) : Dyn.BlockSound Try.prog w0 2 (.loop (unloopD (blkD Try.f45.body 2))) s o := by
  simp only [tamLpR, Option.some.injEq] at h
  subst h
  refine side_two fun hS hi => ?_
  revert hS hi
  generalize intD (s.slots.getD 6 .junk) = t
  intro hS hi
  refine fold_block (fuel := 3) tabT_ok mo (lp := tamLpR l sm) (by rw [tam_b2]; exact lpOk_cons (fun s o h => by cases h) lpOk_nil) (fun j (_ : Unit) => tamTR l sm t t.toNat j j) (min (l.m t.toNat) 12) (fun _ _ => ()) () (fun _ s => keepA 53 [0, 1] [7] tamK1 0 s) (fun _ s => keepA_ent 53 _ _ _ 0 s) (fun j _ => tamB1R l sm t t.toNat j) (fun j _ => tam_B1R l sm t t.toNat j) (fun j hj => ?_) ?_ (hS ▸ (keepS_ent 53 (by decide) _ _ s).trans (Dyn.Ent.nilSlot (P := Try.prog) (k := 1) (by kernel_rfl) _ _))
  · have e1 : W ((j : Int) + 1) = ((j + 1 : Nat) : Int) := by rw [W_id (by omega) (by omega)]; omega
    have fit : ∀ q, cP q = tamG l sm t.toNat j → Dyn.Fits (tamUR l sm t t.toNat (W ((j : Int) + 1)) j q) (tamTR l sm t t.toNat ((j + 1 : Nat) : Int) (j + 1)) := fun q hq => by
      rw [e1]
      exact ⟨rfl, Dyn.HeLe.refl _, Dyn.HeLe.refl _, le_app hq, trivial⟩
    refine ⟨⟨hi, trivial⟩, fun _ => ⟨⟨hi, ⟨by omega, by omega⟩, trivial⟩, fun hs => ⟨⟨by decide, trivial⟩, ⟨szP_ok (by decide) (by omega), trivial⟩, rfl, ?_⟩, fun hs => ⟨⟨szP_ok (by decide) (by omega), trivial⟩, rfl, ?_⟩⟩, fun hf => ?_⟩
    · subst hs; exact fit _ rfl
    · subst hs; exact fit _ rfl
    · rw [Bool.eq_false_iff] at hf
      exact absurd (and_iff.2 ⟨by omega, by omega⟩) hf
  · refine ⟨⟨hi, trivial⟩, fun ht => ?_, fun _ => ⟨rfl, Dyn.Fits.refl _⟩⟩
    have := and_iff.1 ht
    omega
theorem tam_outerR (l : Ctr) (sm : Bool) (w0 : Dyn.Base Try.prog) (s : Dyn.St) (o : Dyn.Out) (h : tamLpR l sm 0 s = some o) : Dyn.BlockSound Try.prog w0 0 (.loop (unloopD (blkD Try.f45.body 0))) s o := by
  simp only [tamLpR, Option.some.injEq] at h
  subst h
  refine side_one fun hS => ?_
  refine fold_block (fuel := 3) tabT_ok mo (lp := tamLpR l sm) (by rw [tam_b0]; exact lpOk_cons (fun s o h => by cases h) (lpOk_cons (tam_innerR l sm w0) (lpOk_cons (fun s o h => by cases h) lpOk_nil))) (fun i (_ : Unit) => tamSR l sm i i) (min l.n 4) (fun _ _ => ()) () (fun _ s => keepA 53 [0] [5] tamK0 0 s) (fun _ s => keepA_ent 53 _ _ _ 0 s) (fun i _ => tamB0R l sm i) (fun i _ => tam_B0R l sm i) (fun i hi => ?_) ?_ (hS ▸ (keepS_ent 53 (by decide) _ _ s).trans (Dyn.Ent.nilSlot (P := Try.prog) (k := 0) (by kernel_rfl) _ _))
  · have e1 : W ((i : Int) + 1) = ((i + 1 : Nat) : Int) := by rw [W_id (by omega) (by omega)]; omega
    refine ⟨fun _ => ⟨⟨rfl, ⟨by omega, by omega⟩, trivial⟩, ⟨szP_ok (by decide) (by omega), trivial⟩, rfl, ?_⟩, fun hf => ?_⟩
    · rw [e1]; exact ⟨rfl, Dyn.HeLe.refl _, le_app rfl, trivial⟩
    · rw [Bool.eq_false_iff] at hf
      exact absurd (and_iff.2 ⟨by omega, by omega⟩) hf
  · refine ⟨fun ht => ?_, fun _ => ⟨rfl, Dyn.Fits.refl _⟩⟩
    have := and_iff.1 ht
    omega
theorem tame_okR (l : Ctr) (sm : Bool) : Dyn.CallR Try.prog 45 [dvC l, dvB sm] (.val (dvC (tameC l sm))) :=
  Dyn.rcontract (lp := tamLpR l sm) (fuel := 3) (X := tabT) tabT_ok mo Try.func45 (by kernel_rfl) (c := bodyD Try.f45.body) (by kernel_rfl)
    (fun w0 => by rw [tam_blocks]; exact lpOk_cons (tam_outerR l sm w0) (lpOk_cons (fun s o h => by cases h) (lpOk_cons (tam_innerR l sm w0) (lpOk_cons (fun s o h => by cases h) lpOk_nil))))
    (by kernel_rfl) (O := .side [tamSR l sm 0 0 = tamSR l sm 0 0] (.leaf (.val (.one (.row (min l.n 4) (tamF l sm)))))) (by kernel_rfl) ⟨⟨rfl, trivial⟩, rfl, fun _ _ => rfl⟩
def SmOkR (x : Sh) (g : Sh → Int → Bool) : Prop := ∀ d, Dyn.CallR Try.prog 14 [dvS x, dvI d] (rB (g x d))
def tabSmR (Pd : Sh → Prop) (g : Sh → Int → Bool) : Dyn.Tabs := Dyn.trT (Dyn.tabs tbF [] noD dtyP) (tdSm Pd g)
theorem tabSm_okR {Pd : Sh → Prop} {g : Sh → Int → Bool} (ih : ∀ x, Pd x → SmOkR x g) : Dyn.TabsOk Try.prog (tabSmR Pd g) :=
  Dyn.trT_ok (Dyn.tabs_ok tbF_ok (fun _ h => by cases h)) (List.forall_mem_cons.2 ⟨en2R_ok (qAnd_ok qS_ok) qI_ok fun x p h _ => ih x h.1 p, fun _ h => by cases h⟩)
def smHR (s : Sh) : List (Option Dyn.HE) := [some (.raw (cS s)), some (.cells 29 (shV 0 8 s))]
def smSR (s : Sh) (deep i : Int) : Dyn.St := mkS 52 [(1, sI deep), (2, sL 1), (4, .k (vb false)), (5, sI i)] (smHR s)
def smTR (s : Sh) (deep i : Int) : Dyn.St := mkS 52 [(1, sI deep), (2, sL 1), (4, .k (vb false)), (6, sI i)] (smHR s)
def smLpR (g : Sh → Int → Bool) (sh : Nat → Sh) (s : Sh) (deep : Int) : Dyn.Lp := fun id st => match id with
  | 0 => some (.side [keepA 52 [0, 1] [] smK0 (2 ^ 5) st = smSR s deep 0, s.l.n ≤ 12] (.ite (runN (smL s.l) () s.l.n).1 (.leaf .normal (smSR s deep s.l.n)) (.leaf .ret smR)))
  | 2 => some (.side [keepA 52 [0, 1] [] smK1 (2 ^ 6) st = smTR s deep 0, s.n ≤ 12] (.ite (runN (smP g sh deep) () s.n).1 (.leaf .normal (smTR s deep s.n)) (.leaf .ret smR)))
  | _ => none
def smB0R (s : Sh) (deep : Int) (i : Nat) : Dyn.Out :=
  .ite (decide ((i : Int) < s.l.n)) (.side [0 ≤ (i : Int) ∧ (i : Int) < s.l.n] (.ite (decide ((s.l.m i : Int) > 40)) (.leaf .ret smR) (.leaf .normal (smSR s deep (W (i + 1)))))) (.leaf (.exit 0) (smSR s deep i))
def smB2R (Pd : Sh → Prop) (g : Sh → Int → Bool) (sh : Nat → Sh) (s : Sh) (deep : Int) (i : Nat) : Dyn.Out :=
  .ite (decide ((i : Int) < s.n)) (.side [0 ≤ (i : Int) ∧ (i : Int) < s.n, Pd (sh i), ctrSelf (sh i).l] (.ite (!(g (sh i) (W (deep + 1)))) (.leaf .ret smR) (.leaf .normal (smTR s deep (W (i + 1)))))) (.leaf (.exit 2) (smTR s deep i))
theorem sm_B0R (Pd : Sh → Prop) (g : Sh → Int → Bool) (sh : Nat → Sh) (s : Sh) (deep : Int) (i : Nat) : (Dyn.lexec Try.prog (tabSmR Pd g) (smLpR g sh s deep) 3 (unloopD (blkD Try.f14.body 0)) .leaf (smSR s deep i)).rl (keepR 52 [0, 1] [] smK0 [4]) = smB0R s deep i := by kernel_rfl
def tabSnR (Pd : Sh → Prop) (g : Sh → Int → Bool) : Dyn.Tabs := Dyn.trT (Dyn.tabs tbF [] noD dtyS) (tdSm Pd g)
theorem tabSn_okR {Pd : Sh → Prop} {g : Sh → Int → Bool} (ih : ∀ x, Pd x → SmOkR x g) : Dyn.TabsOk Try.prog (tabSnR Pd g) :=
  Dyn.trT_ok (Dyn.tabs_ok tbF_ok (fun _ h => by cases h)) (List.forall_mem_cons.2 ⟨en2R_ok (qAnd_ok qS_ok) qI_ok fun x p h _ => ih x h.1 p, fun _ h => by cases h⟩)
theorem sm_B2R (Pd : Sh → Prop) (g : Sh → Int → Bool) (k : Int) (a b c : P2) (r : Int) (l : Ctr) (n : Nat) (add : Nat → Bool) (sh : Nat → Sh) (deep : Int) (i : Nat) :
    (Dyn.lexec Try.prog (tabSnR Pd g) (smLpR g sh (mkSh k a b c r l n add sh) deep) 3 (unloopD (blkD Try.f14.body 2)) .leaf (smTR (mkSh k a b c r l n add sh) deep i)).rl (keepR 52 [0, 1] [] smK1 [4]) = smB2R Pd g sh (mkSh k a b c r l n add sh) deep i := by kernel_rfl
theorem sm_loop0R {Pd : Sh → Prop} {g : Sh → Int → Bool} (ih : ∀ x, Pd x → SmOkR x g) (sh : Nat → Sh) (s : Sh) (deep : Int) (w0 : Dyn.Base Try.prog) (st : Dyn.St) (o : Dyn.Out) (h : smLpR g sh s deep 0 st = some o) : Dyn.BlockSound Try.prog w0 0 (.loop (unloopD (blkD Try.f14.body 0))) st o := by
  simp only [smLpR, Option.some.injEq] at h
  subst h
  refine side_two fun hS hn => ?_
  refine run_block (fuel := 3) (tabSm_okR ih) mo (lp := smLpR g sh s deep) (by rw [sm_b0]; exact lpOk_cons (fun s o h => by cases h) lpOk_nil) (fun i (_ : Unit) => smSR s deep i) s.l.n (smL s.l) () (fun _ => smR) (keepR 52 [0, 1] [] smK0 [4]) (keepR_ent 52 _ _ _ _) (fun i _ => smB0R s deep i) (fun i _ => sm_B0R Pd g sh s deep i) (fun i a hi ha => ?_) (fun a ha => ?_) (hS ▸ keepA_ent 52 _ _ _ _ st)
  · refine ⟨fun _ => ⟨⟨⟨by omega, by omega⟩, trivial⟩, fun hx => .inr ⟨rfl, ?_, Dyn.Fits.refl _⟩, fun hx => .inl ⟨rfl, ?_, ?_⟩⟩, fun hf => ?_⟩
    · unfold smL; rw [hx]; rfl
    · unfold smL; rw [hx]; rfl
    · rw [Wn1 hi (by omega)]; exact Dyn.Fits.refl _
    · rw [decide_eq_false_iff_not] at hf; omega
  · refine ⟨fun ht => ?_, fun _ => ⟨rfl, Dyn.Fits.refl _⟩⟩
    rw [decide_eq_true_eq] at ht; omega
theorem sm_loop2R {Pd : Sh → Prop} {g : Sh → Int → Bool} (ih : ∀ x, Pd x → SmOkR x g) (k : Int) (a b c : P2) (r : Int) (l : Ctr) (n : Nat) (add : Nat → Bool) (sh : Nat → Sh) (hP : ∀ i, i < n → Pd (sh i)) (deep : Int) (w0 : Dyn.Base Try.prog) (st : Dyn.St) (o : Dyn.Out) (h : smLpR g sh (mkSh k a b c r l n add sh) deep 2 st = some o) : Dyn.BlockSound Try.prog w0 2 (.loop (unloopD (blkD Try.f14.body 2))) st o := by
  simp only [smLpR, Option.some.injEq] at h
  subst h
  refine side_two fun hS hn => ?_
  have hn' : n ≤ 12 := hn
  refine run_block (fuel := 3) (tabSn_okR ih) mo (lp := smLpR g sh (mkSh k a b c r l n add sh) deep) (by rw [sm_b2]; exact lpOk_cons (fun s o h => by cases h) lpOk_nil) (fun i (_ : Unit) => smTR (mkSh k a b c r l n add sh) deep i) n (smP g sh deep) () (fun _ => smR) (keepR 52 [0, 1] [] smK1 [4]) (keepR_ent 52 _ _ _ _) (fun i _ => smB2R Pd g sh (mkSh k a b c r l n add sh) deep i) (fun i _ => sm_B2R Pd g k a b c r l n add sh deep i) (fun i a hi ha => ?_) (fun a ha => ?_) (hS ▸ keepA_ent 52 _ _ _ _ st)
  · refine ⟨fun _ => ⟨⟨⟨by omega, by show (i : Int) < (n : Int); omega⟩, hP i hi, ctrSelf_ok _, trivial⟩, fun hx => .inr ⟨rfl, ?_, Dyn.Fits.refl _⟩, fun hx => .inl ⟨rfl, ?_, ?_⟩⟩, fun hf => ?_⟩
    · simpa [smP] using hx
    · simpa [smP] using hx
    · rw [Wn1 hi (by omega)]; exact Dyn.Fits.refl _
    · rw [decide_eq_false_iff_not] at hf
      exact absurd (show (i : Int) < (n : Int) by omega) hf
  · refine ⟨fun ht => ?_, fun _ => ⟨rfl, Dyn.Fits.refl _⟩⟩
    rw [decide_eq_true_eq] at ht
    exact absurd (show (n : Int) < (n : Int) from ht) (by omega)
def tabS0R (Pd : Sh → Prop) (g : Sh → Int → Bool) : Dyn.Tabs := Dyn.trT (Dyn.tabs tbF [] noD noD) (tdSm Pd g)
theorem tabS0_okR {Pd : Sh → Prop} {g : Sh → Int → Bool} (ih : ∀ x, Pd x → SmOkR x g) : Dyn.TabsOk Try.prog (tabS0R Pd g) :=
  Dyn.trT_ok (Dyn.tabs_ok tbF_ok (fun _ h => by cases h)) (List.forall_mem_cons.2 ⟨en2R_ok (qAnd_ok qS_ok) qI_ok fun x p h _ => ih x h.1 p, fun _ h => by cases h⟩)
def smOR (g : Sh → Int → Bool) (sh : Nat → Sh) (s : Sh) (deep : Int) : Dyn.RO :=
  .ite (smBig s deep) (.leaf (rB false)) (.side [smSR s deep 0 = smSR s deep 0, s.l.n ≤ 12] (.ite (runN (smL s.l) () s.l.n).1 (.side [smTR s deep 0 = smTR s deep 0, s.n ≤ 12] (.ite (runN (smP g sh deep) () s.n).1 (.leaf (rB true)) (.leaf (rB false)))) (.leaf (rB false))))
theorem sm_OR (Pd : Sh → Prop) (g : Sh → Int → Bool) (sh : Nat → Sh) (s : Sh) (deep : Int) : (Dyn.rfun Try.prog (tabS0R Pd g) (smLpR g sh s deep) 3 Try.f14 [dvS s, dvI deep]).ro Try.prog Try.f14.results = smOR g sh s deep := by kernel_rfl
theorem sm_satR (g : Sh → Int → Bool) (sh : Nat → Sh) (s : Sh) (deep : Int) : (smOR g sh s deep).sat fun r => Dyn.RVLe r (rB (smallG g sh s deep)) := by
  have e : smallG g sh s deep = bif smBig s deep then false else bif (runN (smL s.l) () s.l.n).1 then (runN (smP g sh deep) () s.n).1 else false := rfl
  rw [e]
  have hb : smBig s deep = false → s.l.n ≤ 12 ∧ s.n ≤ 12 := fun h => by
    unfold smBig at h
    by_cases h1 : ((s.n : Int) > 12)
    · rw [decide_eq_true h1] at h; cases h
    · by_cases h2 : ((s.l.n : Int) > 12)
      · rw [decide_eq_true h2, decide_eq_false h1] at h; cases h
      · omega
  refine ⟨fun h => ?_, fun h => ⟨⟨rfl, (hb h).1, trivial⟩, fun h2 => ⟨⟨rfl, (hb h).2, trivial⟩, fun h3 => ?_, fun h3 => ?_⟩, fun h2 => ?_⟩⟩
  · rw [h]; exact ro_leaf rfl
  · rw [h, h2, h3]; exact ro_leaf rfl
  · rw [h, h2, h3]; exact ro_leaf rfl
  · rw [h, h2]; exact ro_leaf rfl
theorem small_lvlR {Pd : Sh → Prop} {g : Sh → Int → Bool} (ih : ∀ x, Pd x → SmOkR x g) (k : Int) (a b c : P2) (r : Int) (l : Ctr) (n : Nat) (add : Nat → Bool) (sh : Nat → Sh) (hP : ∀ i, i < n → Pd (sh i)) (deep : Int) :
    Dyn.CallR Try.prog 14 [dvS (mkSh k a b c r l n add sh), dvI deep] (rB (smallG g sh (mkSh k a b c r l n add sh) deep)) :=
  Dyn.rcontract (lp := smLpR g sh (mkSh k a b c r l n add sh) deep) (fuel := 3) (tabS0_okR ih) mo Try.func14 (by kernel_rfl) (c := bodyD Try.f14.body) (by kernel_rfl)
    (fun w0 => by rw [sm_blocks]; exact lpOk_cons (sm_loop0R ih sh _ deep w0) (lpOk_cons (fun s o h => by cases h) (lpOk_cons (sm_loop2R ih k a b c r l n add sh hP deep w0) (lpOk_cons (fun s o h => by cases h) lpOk_nil))))
    (by kernel_rfl) (sm_OR Pd g sh _ deep) (sm_satR g sh _ deep)
theorem small_okR : ∀ s : Shp, ShW s → SmOkR (toSh s) smallE := by
  intro s
  induction s with
  | nil => intro h; exact h.elim
  | mk k a b c r l n add sub ih =>
    intro h d
    rw [smallE_eq, smallF_lvl]
    exact small_lvlR (Pd := fun x => ∃ i, i < n ∧ x = toSh (sub i)) (fun x hx => by
      obtain ⟨i, hi, rfl⟩ := hx
      exact ih i (h i hi)) k a b c r l n add (fun i => toSh (sub i)) (fun i hi => ⟨i, hi, rfl⟩) d
theorem small_allR : ∀ x, PdW x → SmOkR x smallE := fun x hx d => by
  have k := small_okR _ hx.1 d
  rw [show smallE (toSh (ofSh x)) d = smallE x d by unfold smallE; rw [ofSh_toSh]] at k
  exact CallR_le (args := dvS (toSh (ofSh x)) :: [dvI d]) ⟨SLe.dv hx.2, Dyn.DVLe.refl _, trivial⟩ k
def tdTmR (Pd : Sh → Prop) (g : Sh → Bool → Int → Sh) : List Dyn.EntryD := [(45, en2D qC qB fun l q => .val (dvC (tameC l q))), (18, en3D (qAnd qS Pd) qB qI fun x q d => .val (dvS (g x q d)))]
def tabTmR (Pd : Sh → Prop) (g : Sh → Bool → Int → Sh) : Dyn.Tabs := Dyn.trT (Dyn.tabs tbT [(43, enPb fun p q => RV.pt (atP p q))] drTm dtyS) (tdTmR Pd g)
theorem tabTm_okR {Pd : Sh → Prop} {g : Sh → Bool → Int → Sh} (ih : ∀ x, Pd x → ∀ sm d, Dyn.CallR Try.prog 18 [dvS x, dvB sm, dvI d] (.val (dvS (g x sm d)))) : Dyn.TabsOk Try.prog (tabTmR Pd g) :=
  Dyn.trT_ok (Dyn.tabs_ok tbT_ok (List.forall_mem_cons.2 ⟨enPb_ok at_ok, fun _ h => by cases h⟩)) (List.forall_mem_cons.2 ⟨en2R_ok qC_ok qB_ok fun l q _ _ => tame_okR l q, List.forall_mem_cons.2 ⟨en3R_ok (qAnd_ok qS_ok) qB_ok qI_ok fun x q d h _ _ => ih x h.1 q d, fun _ h => by cases h⟩⟩)
def tmSR (s : Sh) (sm : Bool) (d i : Int) (n : Nat) (f : Nat → List Dyn.DC) : Dyn.St := mkS 154 [(2, sI d), (3, sL 1), (4, sL 2), (6, sL 3), (8, sL 4), (10, sI i)]
  [some (.raw (cS s)), some (.cells 29 (shV 0 8 s)), some (.cells 4 [vb sm]), some (.cells 29 tmZ), some (.cells 29 (tmO10 (tmKk s d) 5 n)), some (.own 45 n f)]
def tmLpR (g : Sh → Bool → Int → Sh) (sh : Nat → Sh) (add : Nat → Bool) (s : Sh) (sm : Bool) (d : Int) : Dyn.Lp := fun id st => match id with
  | 1 => some (.side [Dyn.nilCell 4 9 45 (tmF g sh add sm d) (keepA 154 [0, 1, 2] [6, 8] tmK (2 ^ 10) st) = tmSR s sm d 0 0 (tmF g sh add sm d)] (.leaf .normal (tmSR s sm d (tmN s d : Nat) (tmN s d) (tmF g sh add sm d))))
  | _ => none
def tmBdR (Pd : Sh → Prop) (g : Sh → Bool → Int → Sh) (sh : Nat → Sh) (add : Nat → Bool) (s : Sh) (sm : Bool) (d : Int) (i : Nat) : Dyn.Out :=
  .ite (bif decide ((i : Int) < s.n) then decide ((i : Int) < imax (W (4 - d)) 1) else false)
    (.side [0 ≤ (i : Int) ∧ (i : Int) < s.n, 0 ≤ (i : Int) ∧ (i : Int) < s.n, Pd (sh i), ctrSelf (sh i).l, szP 120 i] (.leaf .normal (tmSR s sm d (W (i + 1)) (i + 1) (Dyn.appF i (tmF g sh add sm d) (fun _ => tmF g sh add sm d i)))))
    (.leaf (.exit 1) (tmSR s sm d i i (tmF g sh add sm d)))
theorem tm_BdR (Pd : Sh → Prop) (g : Sh → Bool → Int → Sh) (k : Int) (a b c : P2) (r : Int) (l : Ctr) (n : Nat) (add : Nat → Bool) (sh : Nat → Sh) (sm : Bool) (d : Int) (i : Nat) :
    (Dyn.lexec Try.prog (tabTmR Pd g) (tmLpR g sh add (mkSh k a b c r l n add sh) sm d) 3 (unloopD (blkD Try.f18.body 1)) .leaf (tmSR (mkSh k a b c r l n add sh) sm d i i (tmF g sh add sm d))).rl (keepCR 154 [0, 1, 2, 3, 4] [] [(4, 9)] tmK [] []) = tmBdR Pd g sh add (mkSh k a b c r l n add sh) sm d i := by kernel_rfl
theorem tm_loopR {Pd : Sh → Prop} {g : Sh → Bool → Int → Sh} (ih : ∀ x, Pd x → ∀ sm d, Dyn.CallR Try.prog 18 [dvS x, dvB sm, dvI d] (.val (dvS (g x sm d)))) (k : Int) (a b c : P2) (r : Int) (l : Ctr) (n : Nat) (add : Nat → Bool) (sh : Nat → Sh) (hn : n ≤ 1000000000) (hP : ∀ i, i < n → Pd (sh i)) (sm : Bool) (d : Int) (w0 : Dyn.Base Try.prog) (st : Dyn.St) (o : Dyn.Out)
    (h : tmLpR g sh add (mkSh k a b c r l n add sh) sm d 1 st = some o) : Dyn.BlockSound Try.prog w0 1 (.loop (unloopD (blkD Try.f18.body 1))) st o := by
  simp only [tmLpR, Option.some.injEq] at h
  subst h
  refine side_one fun hS => ?_
  have hN : tmN (mkSh k a b c r l n add sh) d = min n (imax (W (4 - d)) 1).toNat := rfl
  have hM : 1 ≤ imax (W (4 - d)) 1 := by unfold imax; split <;> omega
  refine fold_block (fuel := 3) (tabTm_okR ih) mo (lp := tmLpR g sh add (mkSh k a b c r l n add sh) sm d) (by rw [tm_b1]; exact lpOk_cons (fun s o h => by cases h) lpOk_nil) (fun i (_ : Unit) => tmSR (mkSh k a b c r l n add sh) sm d i i (tmF g sh add sm d)) (tmN (mkSh k a b c r l n add sh) d) (fun _ _ => ()) () (keepCR 154 [0, 1, 2, 3, 4] [] [(4, 9)] tmK [] []) (keepCR_ent 154 _ _ _ _ _ _) (fun i _ => tmBdR Pd g sh add (mkSh k a b c r l n add sh) sm d i) (fun i _ => tm_BdR Pd g k a b c r l n add sh sm d i) (fun i hi => ?_) ?_ (hS ▸ (keepA_ent 154 _ _ _ _ st).trans (Dyn.Ent.nilCell (P := Try.prog) (k := 10) (by kernel_rfl) _ _))
  · rw [hN] at hi
    refine ⟨fun _ => ⟨⟨⟨by omega, by show (i : Int) < (n : Int); omega⟩, ⟨by omega, by show (i : Int) < (n : Int); omega⟩, hP i (by omega), ctrSelf_ok _, szP_ok (by decide) (by omega), trivial⟩, rfl, ?_⟩, fun hf => ?_⟩
    · rw [Wn1 (show i < n by omega) hn]
      exact ⟨rfl, Dyn.HeLe.refl _, Dyn.HeLe.refl _, Dyn.HeLe.refl _, Dyn.HeLe.refl _, Dyn.HeLe.refl _, le_app rfl, trivial⟩
    · rw [Bool.eq_false_iff] at hf
      exact absurd (and_iff.2 ⟨show (i : Int) < (n : Int) by omega, by omega⟩) hf
  · refine ⟨fun ht => ?_, fun _ => ⟨rfl, Dyn.Fits.refl _⟩⟩
    have ht := and_iff.1 ht
    have h1 : ((tmN (mkSh k a b c r l n add sh) d : Nat) : Int) < (n : Int) := ht.1
    have h2 := ht.2
    rw [hN] at h1 h2
    omega
def tmRkR (g : Sh → Bool → Int → Sh) (sh : Nat → Sh) (add : Nat → Bool) (s : Sh) (sm : Bool) (d r : Int) : Dyn.RO :=
  .ite (tmKk s d == 1) (.leaf (rvT (tmKk s d) (atP s.a sm) ze ze r nilR 0 noF))
  (.ite (bif tmKk s d == 3 then tmKk s d == 3 else tmKk s d == 4)
    (.ite (bif eqP (atP s.a sm) (atP s.b sm) then decide ((atP s.b sm).x > 0) else false) (.leaf (rvT (tmKk s d) (atP s.a sm) ⟨W ((atP s.b sm).x - 1), (atP s.b sm).y⟩ ze r nilR 0 noF))
      (.ite (eqP (atP s.a sm) (atP s.b sm)) (.leaf (rvT (tmKk s d) (atP s.a sm) ⟨W ((atP s.b sm).x + 1), (atP s.b sm).y⟩ ze r nilR 0 noF)) (.leaf (rvT (tmKk s d) (atP s.a sm) (atP s.b sm) ze r nilR 0 noF))))
  (.ite (tmKk s d == 5) (.leaf (rvT (tmKk s d) (arcAt s.c (band s.a.x 65535) s.b.x sm) (arcAt s.c (band s.a.y 65535) s.b.x sm) (arcC s.c sm) r nilR 0 noF))
  (.ite (tmKk s d == 2) (.side [ctrSelf s.l] (.leaf (rvT (tmKk s d) ze ze ze 0 (cCtr (tameC s.l sm)) 0 noF)))
  (.side [tmSR s sm d 0 0 (tmF g sh add sm d) = tmSR s sm d 0 0 (tmF g sh add sm d)] (.leaf (rvT (tmKk s d) ze ze ze 0 nilR (tmN s d) (tmF g sh add sm d)))))))
theorem tm_OR (Pd : Sh → Prop) (g : Sh → Bool → Int → Sh) (sh : Nat → Sh) (add : Nat → Bool) (s : Sh) (sm : Bool) (d : Int) : (Dyn.rfun Try.prog (tabTmR Pd g) (tmLpR g sh add s sm d) 3 Try.f18 [dvS s, dvB sm, dvI d]).ro Try.prog Try.f18.results = .ite sm (tmRkR g sh add s sm d (W ((lR s.r).tmod 15 + 1))) (tmRkR g sh add s sm d (lR s.r)) := by kernel_rfl
theorem tm_satkR (g : Sh → Bool → Int → Sh) (sh : Nat → Sh) (add : Nat → Bool) (s : Sh) (sm : Bool) (d : Int) : (tmRkR g sh add s sm d (tmR s sm)).sat fun r => Dyn.RVLe r (.val (dvS (tameG g sh add s sm d))) := by
  unfold tameG
  refine ⟨fun h => ?_, fun h => ⟨fun h2 => ⟨fun h3 => ?_, fun h3 => ⟨fun h4 => ?_, fun h4 => ?_⟩⟩, fun h2 => ⟨fun h3 => ?_, fun h3 => ⟨fun h4 => ⟨⟨ctrSelf_ok _, trivial⟩, ?_⟩, fun h4 => ⟨⟨rfl, trivial⟩, ?_⟩⟩⟩⟩⟩
  · rw [h]; exact rvT_le rfl rfl rfl rfl rfl nilR_le rfl fun _ _ => rfl
  · rw [h, h2]; exact rvT_le rfl rfl (by show tmB s sm = _; unfold tmB; rw [h3]; rfl) rfl rfl nilR_le rfl fun _ _ => rfl
  · rw [h, h2]; exact rvT_le rfl rfl (by show tmB s sm = _; unfold tmB; rw [h3, h4]; rfl) rfl rfl nilR_le rfl fun _ _ => rfl
  · rw [h, h2]; exact rvT_le rfl rfl (by show tmB s sm = _; unfold tmB; rw [h3, h4]; rfl) rfl rfl nilR_le rfl fun _ _ => rfl
  · rw [h, h2, h3]; exact rvT_le rfl rfl rfl rfl rfl nilR_le rfl fun _ _ => rfl
  · rw [h, h2, h3, h4]; exact rvT_le rfl rfl rfl rfl rfl (Dyn.DCLe.refl _) rfl fun _ _ => rfl
  · rw [h, h2, h3, h4]; exact rvT_le rfl rfl rfl rfl rfl nilR_le rfl fun _ _ => rfl
theorem tame_lvlR {Pd : Sh → Prop} {g : Sh → Bool → Int → Sh} (ih : ∀ x, Pd x → ∀ sm d, Dyn.CallR Try.prog 18 [dvS x, dvB sm, dvI d] (.val (dvS (g x sm d)))) (k : Int) (a b c : P2) (r : Int) (l : Ctr) (n : Nat) (add : Nat → Bool) (sh : Nat → Sh) (hn : n ≤ 1000000000) (hP : ∀ i, i < n → Pd (sh i)) (sm : Bool) (d : Int) :
    Dyn.CallR Try.prog 18 [dvS (mkSh k a b c r l n add sh), dvB sm, dvI d] (.val (dvS (tameG g sh add (mkSh k a b c r l n add sh) sm d))) :=
  Dyn.rcontract (lp := tmLpR g sh add (mkSh k a b c r l n add sh) sm d) (fuel := 3) (tabTm_okR ih) mo Try.func18 (by kernel_rfl) (c := bodyD Try.f18.body) (by kernel_rfl)
    (fun w0 => by rw [tm_blocks]; exact lpOk_cons (fun s o h => by cases h) (lpOk_cons (tm_loopR ih k a b c r l n add sh hn hP sm d w0) (lpOk_cons (fun s o h => by cases h) lpOk_nil)))
    (by kernel_rfl) (tm_OR Pd g sh add _ sm d) (by
      cases sm
      · exact ⟨fun h => (by cases h), fun _ => tm_satkR g sh add _ false d⟩
      · exact ⟨fun _ => tm_satkR g sh add _ true d, fun h => (by cases h)⟩)
theorem tameE_okR : ∀ s : Shp, ShB s → ∀ sm d, Dyn.CallR Try.prog 18 [dvS (toSh s), dvB sm, dvI d] (.val (dvS (tameE (toSh s) sm d))) := by
  intro s
  induction s with
  | nil => intro h; exact h.elim
  | mk k a b c r l n add sub ih =>
    intro h sm d
    rw [tameE_eq]
    refine CallR_rle (r := .val (dvS (tameG tameE (fun i => toSh (sub i)) add (mkSh k a b c r l n add (fun i => toSh (sub i))) sm d))) (tameS_lvl k a b c r l n add sub sm d) ?_
    exact tame_lvlR (Pd := fun x => ∃ i, i < n ∧ x = toSh (sub i)) (fun x hx => by
      obtain ⟨i, hi, rfl⟩ := hx
      exact ih i (h.2.2 i hi)) k a b c r l n add (fun i => toSh (sub i)) h.2.1 (fun i hi => ⟨i, hi, rfl⟩) sm d
theorem tame_allR : ∀ x, PdS x → ∀ sm d, Dyn.CallR Try.prog 18 [dvS x, dvB sm, dvI d] (.val (dvS (tameE x sm d))) := fun x hx sm d => by
  have k := tameE_okR _ hx.1 sm d
  rw [show tameE (toSh (ofSh x)) sm d = tameE x sm d by unfold tameE; rw [ofSh_toSh]] at k
  exact CallR_le (args := dvS (toSh (ofSh x)) :: [dvB sm, dvI d]) ⟨SLe.dv hx.2, Dyn.DVLe.refl _, Dyn.DVLe.refl _, trivial⟩ k
end Go.Proofs.Ytfooaikpcbnchaa

/-! ## Tue -/
namespace Go.Proofs.Ytfooaikpcbnchaa
open Go Go.RowKit Sym
set_option maxRecDepth 100000

def tbU : List Entry := (16, en2p dT dI (fun _ n => W (n + 1) ≠ 0) (fun t n => tn (tameT t n))) :: tbF
theorem tbU_ok : ∀ e ∈ tbU, EntryOk Try.prog e := List.forall_mem_cons.2 ⟨en2p_ok dT_eq dI_eq tameT_ok, tbF_ok⟩
def drY (K : Nat) : Bool := Nat.beq K 20 || Nat.beq K 18
def an (a b : Bool) : Bool := bif a then b else false
end Go.Proofs.Ytfooaikpcbnchaa

/-! ## Cpa -/
namespace Go.Proofs.Ytfooaikpcbnchaa
open Go Go.RowKit Sym
set_option maxRecDepth 100000

def sumC (f : Nat → Nat) : Nat → Nat
  | 0 => 0
  | n + 1 => sumC f n + f n
theorem sumC_congr {f g : Nat → Nat} : ∀ {n}, (∀ i, i < n → f i = g i) → sumC f n = sumC g n
  | 0, _ => rfl
  | n + 1, h => by unfold sumC; rw [sumC_congr fun i hi => h i (by omega), h n (by omega)]
/-- the shapes of a shape's parts -/
def cntS : Shp → Nat
  | .nil => 0
  | .mk _ _ _ _ _ _ n _ sub => sumC (fun i => 1 + cntS (sub i)) n
/-- a list of n parts at an address shows c shapes -/
inductive PC (w : World) (F : Nat → Prop) : Option Addr → Nat → Nat → Prop where
  | nil (oa : Option Addr) : PC w F oa 0 0
  | row (b off n : Nat) (a : Nat → Option Addr) (m q c : Nat → Nat) : 0 < n → F b → (∀ i, i < n → w.cell? ⟨b, off + i * 11 + 10, none⟩ = some (.slice (a i) (m i) (q i))) →
      (∀ i, i < n → PC w F (a i) (m i) (c i)) → PC w F (some ⟨b, off, none⟩) n (sumC (fun i => 1 + c i) n)
theorem PC.mono {w w' : World} {F F' : Nat → Prop} (h : ∀ b, F b → F' b ∧ w'.heap[b]? = w.heap[b]?) {oa : Option Addr} {n c : Nat} (k : PC w F oa n c) : PC w' F' oa n c := by
  induction k with
  | nil oa => exact .nil oa
  | row b off n a m q c hn hF hc _ ih => exact .row b off n a m q c hn (h b hF).1 (fun i hi => (Dyn.cell_congr (h b hF).2 _).trans (hc i hi)) ih
theorem PC.det {w : World} {F F' : Nat → Prop} {oa : Option Addr} {n c : Nat} (k : PC w F oa n c) : ∀ {c' : Nat}, PC w F' oa n c' → c = c' := by
  induction k with
  | nil oa =>
    intro c' k'
    cases k' with
    | nil => rfl
    | row b off n a m q c hn => exact absurd hn (Nat.lt_irrefl 0)
  | row b off n a m q c hn hF hc _ ih =>
    intro c' k'
    cases k' with
    | nil => exact absurd hn (Nat.lt_irrefl 0)
    | row _ _ _ a' m' q' d hn' hF' hc' hs =>
      refine sumC_congr fun i hi => ?_
      have e := (hc i hi).symm.trans (hc' i hi)
      simp only [Option.some.injEq, Value.slice.injEq] at e
      obtain ⟨e1, e2, _⟩ := e
      have := hs i hi
      rw [← e1, ← e2] at this
      rw [ih i hi this]
/-- what shows the parts of a shape shows that many -/
theorem den_PC {w : World} {F : Nat → Prop} : ∀ (s : Shp), ShB s → ∀ {v : Value}, Dyn.DenC w F (.row (toSh s).n (toSh s).f) v → ∃ oa cap, v = .slice oa (toSh s).n cap ∧ PC w F oa (toSh s).n (cntS s) := by
  intro s
  induction s with
  | nil => intro h; exact h.elim
  | mk k a b c r l n add sub ih =>
    intro hB v h
    have h : Dyn.DenC w F (.row n fun i => partC (add i) (toSh (sub i))) v := h
    show ∃ oa cap, v = .slice oa n cap ∧ PC w F oa n (sumC (fun i => 1 + cntS (sub i)) n)
    generalize hf : (fun i => partC (add i) (toSh (sub i))) = f at h
    cases h with
    | nil f oa cap => exact ⟨oa, cap, rfl, .nil oa⟩
    | row _ _ b off cap size g hk hF hc hd =>
      refine ⟨_, cap, rfl, ?_⟩
      by_cases hz : n = 0
      · subst hz; exact .nil _
      · have es : size = 11 := by rw [← (hc 0 (by omega)).1, ← hf]; rfl
        subst es
        have key : ∀ i, i < n → ∃ oa cap, g i 10 = .slice oa (toSh (sub i)).n cap ∧ PC w F oa (toSh (sub i)).n (cntS (sub i)) := fun i hi => by
          have := hd i 10 hi (by decide)
          rw [← hf] at this
          exact ih i (hB.2.2 i hi) this
        have ch : ∃ (a : Nat → Option Addr) (q : Nat → Nat), ∀ i, i < n → g i 10 = .slice (a i) (toSh (sub i)).n (q i) ∧ PC w F (a i) (toSh (sub i)).n (cntS (sub i)) := by
          refine ⟨fun i => (match g i 10 with | .slice oa _ _ => oa | _ => none), fun i => (match g i 10 with | .slice _ _ q => q | _ => 0), fun i hi => ?_⟩
          obtain ⟨oa, cap, e, p⟩ := key i hi
          dsimp only
          rw [e]; exact ⟨rfl, p⟩
        obtain ⟨a, q, h⟩ := ch
        exact .row b off n a _ q _ (by omega) hF (fun i hi => by rw [(hc i hi).2 10 (by decide), (h i hi).1]) (fun i hi => (h i hi).2)

/-! ### a map of numbers, by its entries -/
abbrev PKey := Nat × Nat × Nat
def keyV (k : PKey) : Value := .agg #[.pointer (some ⟨k.1, k.2.1, none⟩), .int .i64 (k.2.2 : Int)]
def lkP (k : PKey) : List (PKey × Int) → Option Int
  | [] => none
  | x :: l => if x.1 = k then some x.2 else lkP k l
def ixP (k : PKey) : List (PKey × Int) → Option Nat
  | [] => none
  | x :: l => if x.1 = k then some 0 else (ixP k l).map (· + 1)
def upP (k : PKey) (v : Int) : List (PKey × Int) → List (PKey × Int)
  | [] => [(k, v)]
  | x :: l => if x.1 = k then (k, v) :: l else x :: upP k v l
theorem lk_up (k : PKey) (v : Int) (k' : PKey) : ∀ l, lkP k' (upP k v l) = if k = k' then some v else lkP k' l
  | [] => by simp only [upP, lkP]
  | x :: l => by
    unfold upP
    by_cases e : x.1 = k
    · rw [if_pos e]
      simp only [lkP]
      by_cases e' : k = k'
      · rw [if_pos e', if_pos e']
      · rw [if_neg e', if_neg e', if_neg (fun z => e' (e.symm.trans z))]
    · rw [if_neg e]
      simp only [lkP]
      by_cases e' : x.1 = k'
      · rw [if_pos e', if_pos e', if_neg (fun z => e (e'.trans z.symm))]
      · rw [if_neg e', if_neg e']; exact lk_up k v k' l
/-- a block is a map with these entries -/
def MapIs (w : World) (b : Nat) (l : List (PKey × Int)) : Prop :=
  ∃ es clock, w.heap[b]? = some (.map es clock) ∧ es.toList.map (fun e => (e.key, e.val)) = l.map (fun x => (keyV x.1, .int .i64 x.2))
/-- a type of maps from an address and a number -/
structure KeyT (P : Program) (t k e el size : Nat) (f1 f2 : Field) : Prop where
  m : P.underlying t = some (.map k e)
  s : P.underlying k = some (.struct #[f1, f2])
  p : P.underlying f1.type = some (.pointer el)
  q : ∃ i, P.underlying f2.type = some (.int i)
  z : sizeO P el = some (size + 1)
  n1 : (f1.name != "_") = true
  n2 : (f2.name != "_") = true
  o1 : f1.offset = 0
  o2 : f2.offset = 1
  h : P.stoodInHeld k = false
  a1 : isAggB P f1.type = some false
  a2 : isAggB P f2.type = some false
section
variable {P : Program} {t k e el size : Nat} {f1 f2 : Field} {w : World}
theorem key_check (T : KeyT P t k e el size f1 f2) (x : PKey) (em : Bool) : (Instr.checkKey em 10000 k (keyV x)).run P w = .ok () w := by
  have p1 : (part f1.type #[Value.pointer (some ⟨x.1, x.2.1, none⟩), .int .i64 (x.2.2 : Int)] f1.offset).run P w = .ok (.pointer (some ⟨x.1, x.2.1, none⟩)) w := part_run (by unfold partOf; rw [T.a1, T.o1]; rfl)
  have p2 : (part f2.type #[Value.pointer (some ⟨x.1, x.2.1, none⟩), .int .i64 (x.2.2 : Int)] f2.offset).run P w = .ok (.int .i64 (x.2.2 : Int)) w := part_run (by unfold partOf; rw [T.a2, T.o2]; rfl)
  have n1' : f1.name ≠ "_" := by simpa using T.n1
  have n2' : f2.name ≠ "_" := by simpa using T.n2
  obtain ⟨i, hq⟩ := T.q
  have c1 : ∀ d, (Instr.checkKey em (d + 1) f1.type (.pointer (some ⟨x.1, x.2.1, none⟩))).run P w = .ok () w := fun d => by simp [Instr.checkKey, run_underlying T.p]
  have c2 : ∀ d, (Instr.checkKey em (d + 1) f2.type (.int .i64 (x.2.2 : Int))).run P w = .ok () w := fun d => by simp [Instr.checkKey, run_underlying hq]
  show (Instr.checkKey em (9998 + 2) k _).run P w = _
  unfold keyV
  rw [Instr.checkKey]
  simp [run_underlying T.s, n1', n2', p1, p2, c1 9998, c2 9998]
theorem key_equal (T : KeyT P t k e el size f1 f2) (x y : PKey) (hx : Dyn.PlainB w x.1) (hy : Dyn.PlainB w y.1) : (Op.equal k (keyV x) (keyV y)).run P w = .ok (decide (x = y)) w := by
  have p1 : ∀ x : PKey, (part f1.type #[Value.pointer (some ⟨x.1, x.2.1, none⟩), .int .i64 (x.2.2 : Int)] f1.offset).run P w = .ok (.pointer (some ⟨x.1, x.2.1, none⟩)) w := fun x => part_run (by unfold partOf; rw [T.a1, T.o1]; rfl)
  have p2 : ∀ x : PKey, (part f2.type #[Value.pointer (some ⟨x.1, x.2.1, none⟩), .int .i64 (x.2.2 : Int)] f2.offset).run P w = .ok (.int .i64 (x.2.2 : Int)) w := fun x => part_run (by unfold partOf; rw [T.a2, T.o2]; rfl)
  have n1' : f1.name ≠ "_" := by simpa using T.n1
  have n2' : f2.name ≠ "_" := by simpa using T.n2
  obtain ⟨i, hq⟩ := T.q
  obtain ⟨b1, o1, m1⟩ := x
  obtain ⟨b2, o2, m2⟩ := y
  obtain ⟨c1, t1, hx⟩ := hx
  obtain ⟨c2, t2, hy⟩ := hy
  dsimp only at hx hy
  have e1 : ∀ d, (Op.equalIn (d + 1) f1.type (.pointer (some ⟨b1, o1, none⟩)) (.pointer (some ⟨b2, o2, none⟩))).run P w = .ok (decide (b1 = b2 ∧ o1 = o2)) w := by
    intro d
    by_cases he : b1 = b2 ∧ o1 = o2
    · obtain ⟨rfl, rfl⟩ := he
      simp [Op.equalIn, run_underlying T.p, sizeOf_run T.z, run_sameAddr_same]
    · have hne : (⟨b1, o1, none⟩ : Addr) ≠ ⟨b2, o2, none⟩ := fun z => he (by simpa using z)
      simp [Op.equalIn, run_underlying T.p, sizeOf_run T.z, run_sameAddr_other w hne hx hy, he]
  have e2 : ∀ d, (Op.equalIn (d + 1) f2.type (.int .i64 (m1 : Int)) (.int .i64 (m2 : Int))).run P w = .ok (decide (m1 = m2)) w := by
    intro d
    have e : ((m1 : Int) == (m2 : Int)) = decide (m1 = m2) := by rw [Bool.eq_iff_iff]; simp only [beq_iff_eq, decide_eq_true_eq]; omega
    simp [Op.equalIn, run_underlying hq, e]
  show (Op.equalIn (9998 + 2) k _ _).run P w = _
  unfold keyV
  rw [Op.equalIn]
  by_cases h1 : b1 = b2 ∧ o1 = o2
  · by_cases h2 : m1 = m2
    · obtain ⟨rfl, rfl⟩ := h1
      subst h2
      simp [run_underlying T.s, T.h, n1', n2', p1 (b1, o1, m1), p2 (b1, o1, m1), e1 9998, e2 9998]
    · obtain ⟨rfl, rfl⟩ := h1
      simp [run_underlying T.s, T.h, n1', n2', p1 (b1, o1, m1), p2 (b1, o1, m1), p1 (b1, o1, m2), p2 (b1, o1, m2), e1 9998, e2 9998, h2]
  · have : ¬ ((b1, o1, m1) : PKey) = (b2, o2, m2) := fun z => h1 (by simp only [Prod.mk.injEq] at z; exact ⟨z.1, z.2.1⟩)
    simp [run_underlying T.s, T.h, n1', n2', p1 (b1, o1, m1), p1 (b2, o2, m2), e1 9998, h1, this]
theorem find_run (T : KeyT P t k e el size f1 f2) (x : PKey) (hx : Dyn.PlainB w x.1) : ∀ (es : List MapEntry) (l : List (PKey × Int)) (i : Nat), es.map (fun e => (e.key, e.val)) = l.map (fun x => (keyV x.1, .int .i64 x.2)) → (∀ y ∈ l, Dyn.PlainB w y.1.1) →
    (Instr.findAsking k (keyV x) es i).run P w = .ok ((ixP x l).map fun j => (i + j, .int .i64 ((lkP x l).getD 0))) w
  | [], [], i, _, _ => rfl
  | [], _ :: _, _, h, _ => by simp at h
  | _ :: _, [], _, h, _ => by simp at h
  | a :: es, y :: l, i, h, hp => by
    simp only [List.map_cons, List.cons.injEq, Prod.mk.injEq] at h
    obtain ⟨⟨hk, hv⟩, hr⟩ := h
    have he := key_equal (w := w) T x y.1 hx (hp y (by simp))
    have ih := find_run T x hx es l (i + 1) hr fun z hz => hp z (by simp [hz])
    rw [Instr.findAsking]
    simp only [Sem.run_bind, hk, he, Result.andThen_ok]
    by_cases e : x = y.1
    · have e' : y.1 = x := e.symm
      simp [ixP, lkP, e, hv]
    · have e' : ¬ y.1 = x := fun z => e z.symm
      simp only [ixP, lkP, e', e, if_false, decide_false, Bool.false_eq_true, ih]
      congr 1
      cases ixP x l <;> simp [Nat.add_comm, Nat.add_left_comm]
theorem findKey_run (T : KeyT P t k e el size f1 f2) (x : PKey) (hx : Dyn.PlainB w x.1) (es : List MapEntry) (l : List (PKey × Int)) (h : es.map (fun e => (e.key, e.val)) = l.map (fun x => (keyV x.1, .int .i64 x.2))) (hp : ∀ y ∈ l, Dyn.PlainB w y.1.1) :
    (Instr.findKey k (keyV x) es).run P w = .ok ((ixP x l).map fun j => (j, .int .i64 ((lkP x l).getD 0))) w := by
  have q := find_run (w := w) T x hx es l 0 h hp
  simp only [Nat.zero_add] at q
  unfold Instr.findKey
  simp only [Sem.run_bind, run_underlying T.s, Result.andThen_ok]
  cases es with
  | nil =>
    cases l with
    | nil => rfl
    | cons y l => simp at h
  | cons a es =>
    have : Instr.findNow (.struct #[f1, f2]) (keyV x) (a :: es) 0 = none := by unfold keyV; simp [Instr.findNow, Instr.sameNow]
    rw [this]; exact q
theorem ix_lk (x : PKey) : ∀ l : List (PKey × Int), (ixP x l = none ↔ lkP x l = none)
  | [] => by simp [ixP, lkP]
  | y :: l => by
    unfold ixP lkP
    by_cases e : y.1 = x
    · simp [e]
    · rw [if_neg e, if_neg e, ← ix_lk x l]; simp
/-- 'v, ok := m[k]' -/
theorem lookup_run (T : KeyT P t k e el size f1 f2) (hz : ∀ w, (zeroValue e).run P w = .ok (.int .i64 0) w) {b : Nat} {l : List (PKey × Int)} (hm : MapIs w b l) (x : PKey) (hx : Dyn.PlainB w x.1) (hp : ∀ y ∈ l, Dyn.PlainB w y.1.1) :
    (Instr.lookup t (.map (some b)) (keyV x) true).run P w = .ok (.tuple #[.int .i64 ((lkP x l).getD 0), .bool (lkP x l).isSome]) w := by
  obtain ⟨es, clock, hb, hl⟩ := hm
  have hf := findKey_run (w := w) T x hx es.toList l hl hp
  have hi := ix_lk x l
  unfold Instr.lookup
  simp only [Sem.run_bind, run_underlying T.m, Result.andThen_ok, MapKept.run_getObj_map hb, Sem.run_pure, key_check T x, hf]
  cases hq : ixP x l with
  | none =>
    rw [hi.1 hq]
    simp [hz]
  | some j =>
    have : lkP x l ≠ none := fun z => by rw [hi.2 z] at hq; cases hq
    cases hv : lkP x l with
    | none => exact absurd hv this
    | some v => simp
theorem same_key (x : PKey) : Instr.sameBits 10000 (keyV x) (keyV x) = true := by
  unfold keyV; simp [Instr.sameBits]
theorem up_ix (x : PKey) (v : Int) : ∀ (es : List MapEntry) (l : List (PKey × Int)) (f : MapEntry → MapEntry), es.map (fun e => (e.key, e.val)) = l.map (fun x => (keyV x.1, .int .i64 x.2)) → (∀ a, ((f a).key, (f a).val) = (keyV x, .int .i64 v)) →
    ∀ j, ixP x l = some j → (es.modify j f).map (fun e => (e.key, e.val)) = (upP x v l).map (fun x => (keyV x.1, .int .i64 x.2)) ∧ ∃ a, es[j]? = some a ∧ a.key = keyV x
  | [], [], f, _, _, j, h => by simp [ixP] at h
  | [], _ :: _, _, h, _, _, _ => by simp at h
  | _ :: _, [], _, h, _, _, _ => by simp at h
  | a :: es, y :: l, f, h, hf, j, hj => by
    simp only [List.map_cons, List.cons.injEq, Prod.mk.injEq] at h
    obtain ⟨⟨hk, hv⟩, hr⟩ := h
    unfold ixP at hj
    unfold upP
    by_cases e : y.1 = x
    · rw [if_pos e] at hj ⊢
      simp only [Option.some.injEq] at hj; subst hj
      simp only [List.modify_zero_cons, List.map_cons, hr]
      rw [hf a]
      exact ⟨rfl, a, rfl, by rw [hk, e]⟩
    · rw [if_neg e] at hj ⊢
      cases hq : ixP x l with
      | none => rw [hq] at hj; simp at hj
      | some i =>
        rw [hq] at hj
        simp only [Option.map_some, Option.some.injEq] at hj; subst hj
        obtain ⟨i1, a', i2, i3⟩ := up_ix x v es l f hr hf i hq
        simp only [List.modify_succ_cons, List.map_cons, i1, hk, hv]
        exact ⟨trivial, a', by simpa using i2, i3⟩
theorem up_none (x : PKey) (v : Int) : ∀ l : List (PKey × Int), ixP x l = none → upP x v l = l ++ [(x, v)]
  | [], _ => rfl
  | y :: l, h => by
    unfold ixP at h
    unfold upP
    by_cases e : y.1 = x
    · rw [if_pos e] at h; cases h
    · rw [if_neg e] at h ⊢
      rw [up_none x v l (by simpa using h)]; rfl
/-- 'm[k] = v' -/
theorem update_run (T : KeyT P t k e el size f1 f2) {b : Nat} {l : List (PKey × Int)} (hm : MapIs w b l) (x : PKey) (v : Int) (hx : Dyn.PlainB w x.1) (hp : ∀ y ∈ l, Dyn.PlainB w y.1.1) :
    ∃ w', (Instr.mapUpdate t (.map (some b)) (keyV x) (.int .i64 v)).run P w = .ok () w' ∧ MapIs w' b (upP x v l) ∧ w.grownBy w' (some b) ∧ w'.heap.size = w.heap.size := by
  obtain ⟨es, clock, hb, hl⟩ := hm
  have hf := findKey_run (w := w) T x hx es.toList l hl hp
  have hlt : b < w.heap.size := (Array.getElem?_eq_some_iff.1 hb).1
  have post : ∀ o : Obj, w.grownBy { w with heap := w.heap.setIfInBounds b o } (some b) ∧ ({ w with heap := w.heap.setIfInBounds b o } : World).heap.size = w.heap.size := fun o =>
    ⟨⟨rfl, rfl, rfl, by simp, fun i hi hn => by
      show (w.heap.setIfInBounds b o)[i]? = _
      rw [Array.getElem?_setIfInBounds, if_neg (fun e => hn (by rw [e]))]⟩, by simp⟩
  have at_ : ∀ o : Obj, ({ w with heap := w.heap.setIfInBounds b o } : World).heap[b]? = some o := fun o => by
    show (w.heap.setIfInBounds b o)[b]? = _
    rw [Array.getElem?_setIfInBounds, if_pos rfl, if_pos hlt]
  cases hq : ixP x l with
  | none =>
    rw [hq] at hf
    refine ⟨{ w with heap := w.heap.setIfInBounds b (.map (es.push { key := keyV x, val := .int .i64 v, born := clock }) (clock + 1)) }, ?_, ⟨_, _, at_ _, ?_⟩, (post _).1, (post _).2⟩
    · unfold Instr.mapUpdate
      simp [run_underlying T.m, MapKept.run_getObj_map hb, key_check T x, hf, MapKept.run_setObj_map _ hb]
    · rw [Array.toList_push, List.map_append, hl, up_none x v l hq]; simp
  | some j =>
    rw [hq] at hf
    obtain ⟨i1, a, i2, i3⟩ := up_ix x v es.toList l (fun q => { q with key := keyV x, val := .int .i64 v }) hl (fun _ => rfl) j hq
    have i2' : es[j]? = some a := by rw [← Array.getElem?_toList]; exact i2
    refine ⟨{ w with heap := w.heap.setIfInBounds b (.map (es.modify j fun q => { q with key := keyV x, val := .int .i64 v }) clock) }, ?_, ⟨_, _, at_ _, ?_⟩, (post _).1, (post _).2⟩
    · unfold Instr.mapUpdate
      simp [run_underlying T.m, MapKept.run_getObj_map hb, key_check T x, hf, i2', i3, Instr.keyThatStays, same_key, MapKept.run_setObj_map _ hb]
    · rw [Array.toList_modify]; exact i1
end
end Go.Proofs.Ytfooaikpcbnchaa

/-! ## Cpb -/
namespace Go.Proofs.Ytfooaikpcbnchaa
open Go Go.RowKit Sym
set_option maxRecDepth 100000

/-! ### a stack of rows of cells -/
def StkIs (w : World) (base e size g cap n : Nat) (xs : List Value) : Prop :=
  ∃ cur, base ≤ g ∧ w.heap[g]? = some (.cells cur e (0, 0)) ∧ n ≤ cap ∧ cap ≤ maxLen ∧ cur.size = cap * size ∧ cur.toList.take (n * size) = xs ∧ xs.length = n * size
theorem StkIs.owns {w : World} {base e size g cap n : Nat} {xs : List Value} (h : StkIs w base e size g cap n xs) : w.ownsRow base e size (.slice (some ⟨g, 0, none⟩) n cap) n xs := by
  obtain ⟨cur, h1, h2, h3, h4, h5, h6, h7⟩ := h
  exact ⟨h7, .inr ⟨g, cap, cur, rfl, h1, h2, h3, h4, h5, h6⟩⟩
theorem StkIs.of_owns {w : World} {base e size n : Nat} {v : Value} {xs : List Value} (h : w.ownsRow base e size v n xs) (hn : 0 < n) : ∃ g cap, v = .slice (some ⟨g, 0, none⟩) n cap ∧ StkIs w base e size g cap n xs := by
  rcases h.2 with ⟨_, hz⟩ | ⟨g, cap, cur, rfl, h1, h2, h3, h4, h5, h6⟩
  · omega
  · exact ⟨g, cap, rfl, cur, h1, h2, h3, h4, h5, h6, h.1⟩
theorem StkIs.kept {w w' : World} {base e size g cap n : Nat} {xs : List Value} (h : StkIs w base e size g cap n xs) (hg : w'.heap[g]? = w.heap[g]?) : StkIs w' base e size g cap n xs := by
  obtain ⟨cur, h1, h2, h3⟩ := h
  exact ⟨cur, h1, hg.trans h2, h3⟩
theorem StkIs.lt {w : World} {base e size g cap n : Nat} {xs : List Value} (h : StkIs w base e size g cap n xs) : g < w.heap.size := by
  obtain ⟨cur, h1, h2, h3⟩ := h
  exact (Array.getElem?_eq_some_iff.1 h2).1
theorem StkIs.cell {w : World} {base e size g cap n : Nat} {xs : List Value} (h : StkIs w base e size g cap n xs) {j : Nat} {u : Value} (hj : xs[j]? = some u) : w.cell? ⟨g, j, none⟩ = some u := by
  obtain ⟨cur, h1, h2, h3, h4, h5, h6, h7⟩ := h
  rw [← h6, List.getElem?_take] at hj
  split at hj
  · simpa [World.cell?, h2] using hj
  · cases hj
theorem StkIs.froz {w : World} {base e size g cap n : Nat} {xs : List Value} (h : StkIs w base e size g cap n xs) (j : Nat) : w.frozen? ⟨g, j, none⟩ = false := by
  obtain ⟨cur, h1, h2, h3⟩ := h
  simp [World.frozen?, h2]
theorem setCell_at {w : World} {g j : Nat} {cur : Array Value} {e : TypeId} {v : Value} (h : w.heap[g]? = some (.cells cur e (0, 0))) : (w.setCell ⟨g, j, none⟩ v).heap[g]? = some (.cells (cur.setIfInBounds j v) e (0, 0)) := by
  simp [World.setCell, Array.getElem?_modify, h]
theorem setCell_off {w : World} {g j k : Nat} {v : Value} (h : k ≠ g) : (w.setCell ⟨g, j, none⟩ v).heap[k]? = w.heap[k]? := by
  simp [World.setCell, Array.getElem?_modify, Ne.symm h]
theorem StkIs.set {w : World} {base e size g cap n : Nat} {xs : List Value} (h : StkIs w base e size g cap n xs) {j : Nat} (u : Value) (hj : j < xs.length) : StkIs (w.setCell ⟨g, j, none⟩ u) base e size g cap n (xs.set j u) := by
  obtain ⟨cur, h1, h2, h3, h4, h5, h6, h7⟩ := h
  refine ⟨cur.setIfInBounds j u, h1, setCell_at h2, h3, h4, by simp [h5], ?_, by simp [h7]⟩
  rw [Array.toList_setIfInBounds, List.take_set, h6]
theorem StkIs.pop {w : World} {base e size g cap n : Nat} {xs ys : List Value} (h : StkIs w base e size g cap (n + 1) (xs ++ ys)) (hy : ys.length = size) : StkIs w base e size g cap n xs := by
  obtain ⟨cur, h1, h2, h3, h4, h5, h6, h7⟩ := h
  have hx : xs.length = n * size := by rw [List.length_append, hy, Nat.add_mul, Nat.one_mul] at h7; omega
  refine ⟨cur, h1, h2, by omega, h4, h5, ?_, hx⟩
  have := congrArg (List.take (n * size)) h6
  rw [List.take_take, Nat.min_eq_left (by rw [Nat.add_mul]; omega)] at this
  rw [this, ← hx, List.take_left']
  rfl
/-! ### levels -/
structure Lev where
  b : Nat
  off : Nat
  n : Nat
  cap : Nat
  nx : Nat
  a : Nat → Option Addr
  m : Nat → Nat
  q : Nat → Nat
  c : Nat → Nat
def Lev.pre (t : Lev) (k : Nat) : Nat := sumC (fun i => 1 + t.c i) k
def Lev.tot (t : Lev) : Nat := t.pre t.n
def Lev.key (t : Lev) : PKey := (t.b, t.off, t.n)
def Lev.cells (t : Lev) : List Value := [.slice (some ⟨t.b, t.off, none⟩) t.n t.cap, .int .i64 (t.nx : Int), .int .i64 (t.pre t.nx : Int)]
def lvX : List Lev → List Value
  | [] => []
  | t :: L => lvX L ++ t.cells
theorem lvX_len : ∀ L : List Lev, (lvX L).length = L.length * 3
  | [] => rfl
  | t :: L => by simp only [lvX, List.length_append, lvX_len L, List.length_cons]; show L.length * 3 + 3 = _; omega
structure Lev.ok (w : World) (F : Nat → Prop) (C : Nat) (t : Lev) : Prop where
  n0 : 0 < t.n
  nx : t.nx ≤ t.n
  hF : F t.b
  cell : ∀ i, i < t.n → w.cell? ⟨t.b, t.off + i * 11 + 10, none⟩ = some (.slice (t.a i) (t.m i) (t.q i))
  pc : ∀ i, i < t.n → PC w F (t.a i) (t.m i) (t.c i)
  C : t.tot ≤ C
theorem Lev.ok.tpc {w : World} {F : Nat → Prop} {C : Nat} {t : Lev} (h : t.ok w F C) : PC w F (some ⟨t.b, t.off, none⟩) t.n t.tot := .row t.b t.off t.n t.a t.m t.q t.c h.n0 h.hF h.cell h.pc
/-- a list of parts that is there, as a level -/
theorem lev_of {w : World} {F : Nat → Prop} {b off n c cap : Nat} (h : PC w F (some ⟨b, off, none⟩) n c) (hn : 0 < n) : ∃ t : Lev, t.b = b ∧ t.off = off ∧ t.n = n ∧ t.cap = cap ∧ t.nx = 0 ∧ t.tot = c ∧ ∀ C, c ≤ C → t.ok w F C := by
  cases h with
  | nil => omega
  | row _ _ _ a m q c hn hF hc hp => exact ⟨⟨b, off, n, cap, 0, a, m, q, c⟩, rfl, rfl, rfl, rfl, rfl, rfl, fun C hC => ⟨hn, Nat.zero_le _, hF, hc, hp, hC⟩⟩
def knB (l : List (PKey × Int)) (oa : Option Addr) (m : Nat) : Bool := match oa, m with
  | some a, m + 1 => (lkP (a.block, a.off, m + 1) l).isSome
  | _, _ => true
def Lev.ms (t : Lev) (l : List (PKey × Int)) : Nat := if t.nx < t.n then 1 + (if knB l (t.a t.nx) (t.m t.nx) = true then 1 else 3 * (1 + t.c t.nx)) + 3 * (t.tot - t.pre (t.nx + 1)) else 1
def stM (l : List (PKey × Int)) : List Lev → Nat
  | [] => 0
  | t :: L => t.ms l + stM l L
theorem pre_mono (t : Lev) {i j : Nat} (h : i ≤ j) : t.pre i ≤ t.pre j := by
  induction j with
  | zero => obtain rfl : i = 0 := by omega
            exact Nat.le_refl _
  | succ j ih =>
    by_cases e : i = j + 1
    · subst e; exact Nat.le_refl _
    · have := ih (by omega)
      show t.pre i ≤ t.pre j + (1 + t.c j); omega
theorem kn_up (l : List (PKey × Int)) (k : PKey) (v : Int) {oa : Option Addr} {m : Nat} (h : knB l oa m = true) : knB (upP k v l) oa m = true := by
  unfold knB at h ⊢
  split
  · rename_i a m
    dsimp only at h
    rw [lk_up]
    split
    · rfl
    · exact h
  · rfl
theorem ms_up (t : Lev) (l : List (PKey × Int)) (k : PKey) (v : Int) : t.ms (upP k v l) ≤ t.ms l := by
  unfold Lev.ms
  split
  · by_cases h : knB l (t.a t.nx) (t.m t.nx) = true
    · rw [if_pos h, if_pos (kn_up l k v h)]; exact Nat.le_refl _
    · rw [if_neg h]; split <;> omega
  · exact Nat.le_refl _
theorem st_up (l : List (PKey × Int)) (k : PKey) (v : Int) : ∀ L, stM (upP k v l) L ≤ stM l L
  | [] => Nat.le_refl _
  | t :: L => by have := ms_up t l k v; have := st_up l k v L; unfold stM; omega
def Lev.next (t : Lev) : Lev := { t with nx := t.nx + 1 }
theorem ms_next (t : Lev) (l : List (PKey × Int)) (h : t.nx < t.n) : t.next.ms l < t.ms l := by
  have p := pre_mono t (i := t.nx + 1) (j := t.n) (by omega)
  unfold Lev.ms
  rw [if_pos h]
  show (if t.nx + 1 < t.n then 1 + (if knB l (t.a (t.nx + 1)) (t.m (t.nx + 1)) = true then 1 else 3 * (1 + t.c (t.nx + 1))) + 3 * (t.tot - t.pre (t.nx + 1 + 1)) else 1) < _
  split
  · rename_i h2
    have p2 := pre_mono t (i := t.nx + 1 + 1) (j := t.n) (by omega)
    have e : t.pre (t.nx + 1 + 1) = t.pre (t.nx + 1) + (1 + t.c (t.nx + 1)) := rfl
    have e2 : t.tot = t.pre t.n := rfl
    split <;> split <;> omega
  · split <;> omega
theorem ms_new (u : Lev) (l : List (PKey × Int)) (h : u.nx = 0) (hn : 0 < u.n) : u.ms l ≤ 1 + 3 * u.tot := by
  unfold Lev.ms
  rw [h, if_pos hn, show u.pre (0 + 1) = u.pre 1 from rfl]
  have p := pre_mono u (i := 1) (j := u.n) (by omega)
  have e : u.pre 1 = 1 + u.c 0 := by show 0 + (1 + u.c 0) = _; omega
  have e2 : u.tot = u.pre u.n := rfl
  split <;> omega
theorem ms_push (t u : Lev) (l : List (PKey × Int)) (k : PKey) (v : Int) (h : t.nx < t.n) (h1 : knB l (t.a t.nx) (t.m t.nx) = false) (h2 : knB (upP k v l) (t.a t.nx) (t.m t.nx) = true) (hu : u.nx = 0) (hn : 0 < u.n) (hc : u.tot = t.c t.nx) : u.ms (upP k v l) + t.ms (upP k v l) < t.ms l := by
  have := ms_new u (upP k v l) hu hn
  have e : t.ms (upP k v l) = 1 + 1 + 3 * (t.tot - t.pre (t.nx + 1)) := by unfold Lev.ms; rw [if_pos h, if_pos h2]
  have e2 : t.ms l = 1 + 3 * (1 + t.c t.nx) + 3 * (t.tot - t.pre (t.nx + 1)) := by unfold Lev.ms; rw [if_pos h, if_neg (by rw [h1]; decide)]
  omega
theorem ms_pos (t : Lev) (l : List (PKey × Int)) : 1 ≤ t.ms l := by unfold Lev.ms; split <;> omega
/-- what is known is so -/
structure KnOk (w : World) (F : Nat → Prop) (l : List (PKey × Int)) (L : List Lev) : Prop where
  hF : ∀ y ∈ l, F y.1.1
  v : ∀ k v, lkP k l = some v → (v = -1 ∧ ∃ t ∈ L, t.key = k) ∨ ∃ c : Nat, v = (c : Int) ∧ PC w F (some ⟨k.1, k.2.1, none⟩) k.2.2 c
theorem upP_mem {k : PKey} {v : Int} : ∀ {l : List (PKey × Int)} {y : PKey × Int}, y ∈ upP k v l → y.1 = k ∨ y ∈ l
  | [], y, h => by simp only [upP, List.mem_singleton] at h; exact .inl (by rw [h])
  | x :: l, y, h => by
    unfold upP at h
    split at h
    · rcases List.mem_cons.1 h with rfl | h
      · exact .inl rfl
      · exact .inr (List.mem_cons_of_mem _ h)
    · rcases List.mem_cons.1 h with rfl | h
      · exact .inr (List.mem_cons_self ..)
      · exact (upP_mem h).imp id (List.mem_cons_of_mem _)
theorem KnOk.pop {w : World} {F : Nat → Prop} {C : Nat} {l : List (PKey × Int)} {t : Lev} {L : List Lev} (h : KnOk w F l (t :: L)) (ht : t.ok w F C) : KnOk w F (upP t.key (t.tot : Int) l) L := by
  refine ⟨fun y hy => ?_, fun k v hk => ?_⟩
  · rcases upP_mem hy with e | e
    · rw [e]; exact ht.hF
    · exact h.hF y e
  · rw [lk_up] at hk
    split at hk
    · rename_i e
      simp only [Option.some.injEq] at hk
      subst e
      exact .inr ⟨t.tot, hk.symm, ht.tpc⟩
    · rename_i e
      rcases h.v k v hk with ⟨rfl, t', ht', rfl⟩ | h2
      · rcases List.mem_cons.1 ht' with rfl | ht'
        · exact absurd rfl e
        · exact .inl ⟨rfl, t', ht', rfl⟩
      · exact .inr h2
theorem KnOk.push {w : World} {F : Nat → Prop} {C : Nat} {l : List (PKey × Int)} {u : Lev} {L : List Lev} (h : KnOk w F l L) (hu : u.ok w F C) : KnOk w F (upP u.key (-1) l) (u :: L) := by
  refine ⟨fun y hy => ?_, fun k v hk => ?_⟩
  · rcases upP_mem hy with e | e
    · rw [e]; exact hu.hF
    · exact h.hF y e
  · rw [lk_up] at hk
    split at hk
    · rename_i e
      simp only [Option.some.injEq] at hk
      exact .inl ⟨hk.symm, u, List.mem_cons_self .., e⟩
    · rcases h.v k v hk with ⟨rfl, t', ht', e⟩ | h2
      · exact .inl ⟨rfl, t', List.mem_cons_of_mem _ ht', e⟩
      · exact .inr h2
theorem KnOk.next {w : World} {F : Nat → Prop} {l : List (PKey × Int)} {t : Lev} {L : List Lev} (h : KnOk w F l (t :: L)) : KnOk w F l (t.next :: L) := by
  refine ⟨h.hF, fun k v hk => ?_⟩
  rcases h.v k v hk with ⟨rfl, t', ht', e⟩ | h2
  · rcases List.mem_cons.1 ht' with rfl | ht'
    · exact .inl ⟨rfl, t'.next, List.mem_cons_self .., e⟩
    · exact .inl ⟨rfl, t', List.mem_cons_of_mem _ ht', e⟩
  · exact .inr h2
/-- a child that is known is known with its number -/
theorem KnOk.child {w : World} {F : Nat → Prop} {C : Nat} {l : List (PKey × Int)} {t : Lev} {L : List Lev} (h : KnOk w F l (t :: L)) (hL : ∀ x ∈ t :: L, x.ok w F C) (hs : ∀ x ∈ t :: L, t.tot ≤ x.tot) (hx : t.nx < t.n) {b off m : Nat} {v : Int} (ha : t.a t.nx = some ⟨b, off, none⟩) (hm : t.m t.nx = m) (hk : lkP (b, off, m) l = some v) : v = (t.c t.nx : Int) := by
  have pc := (hL t (List.mem_cons_self ..)).pc t.nx hx
  rw [ha, hm] at pc
  rcases h.v _ v hk with ⟨rfl, t', ht', e⟩ | ⟨c, rfl, hc⟩
  · have p2 := (hL t' ht').tpc
    unfold Lev.key at e
    simp only [Prod.mk.injEq] at e
    rw [e.1, e.2.1, e.2.2] at p2
    have e1 := p2.det pc
    have e2 := hs t' ht'
    have e3 := pre_mono t (i := t.nx + 1) (j := t.n) (by omega)
    have e4 : t.pre (t.nx + 1) = t.pre t.nx + (1 + t.c t.nx) := rfl
    have e5 : t.tot = t.pre t.n := rfl
    omega
  · rw [hc.det pc]
end Go.Proofs.Ytfooaikpcbnchaa

/-! ## Cpc -/
namespace Go.Proofs.Ytfooaikpcbnchaa
open Go Go.RowKit Sym
set_option maxRecDepth 100000

theorem MapIs.kept {w w' : World} {b : Nat} {l : List (PKey × Int)} (h : MapIs w b l) (e : w'.heap[b]? = w.heap[b]?) : MapIs w' b l := by
  obtain ⟨es, clock, h1, h2⟩ := h
  exact ⟨es, clock, e.trans h1, h2⟩
theorem MapIs.lt {w : World} {b : Nat} {l : List (PKey × Int)} (h : MapIs w b l) : b < w.heap.size := by
  obtain ⟨es, clock, h1, h2⟩ := h
  exact (Array.getElem?_eq_some_iff.1 h1).1
theorem stk_map {w : World} {base e size g cap n bm : Nat} {xs : List Value} {l : List (PKey × Int)} (h : StkIs w base e size g cap n xs) (m : MapIs w bm l) : g ≠ bm := by
  rintro rfl
  obtain ⟨cur, _, h2, _⟩ := h
  obtain ⟨es, clock, m1, _⟩ := m
  rw [h2] at m1; cases m1
theorem st_len (l : List (PKey × Int)) : ∀ L : List Lev, L.length ≤ stM l L
  | [] => Nat.le_refl _
  | t :: L => by have := ms_pos t l; have := st_len l L; simp only [List.length_cons]; unfold stM; omega
theorem heap_newC (w : World) (o : Obj) : (w.alloc o).heap[w.heap.size]? = some o := by
  show (w.heap.push o)[w.heap.size]? = some o
  rw [Array.getElem?_push, if_pos rfl]
theorem new_cell (w : World) (cs : Array Value) (t : TypeId) (j : Nat) : (w.alloc (.cells cs t)).cell? ⟨w.heap.size, j, none⟩ = cs[j]? := by
  simp only [World.cell?, heap_newC, Option.isSome_none, Bool.false_eq_true, if_false]
/-- what was there since wr, but for block x -/
structure Snc (w wr W : World) (x : Option Nat) : Prop where
  below : Below w.heap.size w W
  same : ∀ q, q < wr.heap.size → some q ≠ x → W.heap[q]? = wr.heap[q]?
  size : wr.heap.size ≤ W.heap.size
theorem Snc.refl {w wr : World} (h : Below w.heap.size w wr) (x : Option Nat) : Snc w wr wr x := ⟨h, fun _ _ _ => rfl, Nat.le_refl _⟩
theorem Snc.drew {w wr W : World} {x : Option Nat} (h : Snc w wr W x) (n : Nat) : Snc w wr (W.drewN n) x := ⟨⟨h.below.os, h.below.tape, h.below.output, h.below.size, h.below.block⟩, h.same, h.size⟩
theorem Snc.alloc {w wr W : World} {x : Option Nat} (h : Snc w wr W x) (o : Obj) : Snc w wr (W.alloc o) x :=
  ⟨h.below.alloc h.below.size o, fun q hq hx => (Below.heap_alloc W o q (Nat.lt_of_lt_of_le hq h.size)).trans (h.same q hq hx), by rw [World.size_alloc]; have := h.size; omega⟩
theorem Snc.grown {w wr W W2 : World} {x : Option Nat} (h : Snc w wr W x) (hb : w.heap.size ≤ wr.heap.size) {y : Option Nat} (hg : W.grownBy W2 y) (hy : ∀ k, y = some k → w.heap.size ≤ k) (hxy : ∀ k, y = some k → k < wr.heap.size → x = some k) : Snc w wr W2 x :=
  ⟨h.below.grown hg h.below.size hy, fun q hq hx => (hg.block q (Nat.lt_of_lt_of_le hq h.size) (fun e => hx (hxy q e.symm hq).symm)).trans (h.same q hq hx), Nat.le_trans h.size hg.size⟩
theorem lv_next (t : Lev) (L : List Lev) : ((lvX (t :: L)).set (L.length * 3 + 2) (.int .i64 ((t.pre t.nx : Int) + (1 + (t.c t.nx : Int))))).set (L.length * 3 + 1) (.int .i64 ((t.nx : Int) + 1)) = lvX (t.next :: L) := by
  show ((lvX L ++ t.cells).set _ _).set _ _ = lvX L ++ t.next.cells
  have hl := lvX_len L
  rw [List.set_append_right _ _ (by omega), List.set_append_right _ _ (by omega), hl, show L.length * 3 + 2 - L.length * 3 = 2 by omega, show L.length * 3 + 1 - L.length * 3 = 1 by omega]
  congr 1
theorem pre_ge (t : Lev) : ∀ k, k ≤ t.pre k
  | 0 => Nat.le_refl _
  | k + 1 => by have := pre_ge t k; show k + 1 ≤ t.pre k + (1 + t.c k); omega
/-- the loop's head -/
def CpRel (e : TypeId) (w : World) (F : Nat → Prop) (C bm : Nat) (gk : Nat) (v : Value) (W : World) : Prop :=
  ∃ (t : Lev) (L : List Lev) (g cap : Nat) (l : List (PKey × Int)), v = .slice (some ⟨g, 0, none⟩) (L.length + 1) cap ∧ StkIs W w.heap.size e 3 g cap (L.length + 1) (lvX (t :: L)) ∧ MapIs W bm l ∧ w.heap.size ≤ bm ∧ Below w.heap.size w W ∧
    KnOk w F l (t :: L) ∧ (∀ x ∈ t :: L, x.ok w F C) ∧ (t :: L).Pairwise (fun x y => x.tot ≤ y.tot) ∧ (∀ x, (t :: L).getLast? = some x → x.tot = C) ∧ stM l (t :: L) ≤ gk ∧ gk ≤ 3 * C + 2
theorem cp_next {e : TypeId} {w wr : World} {F : Nat → Prop} {C bm gk g cap : Nat} {t : Lev} {L : List Lev} {l : List (PKey × Int)} (hstk : StkIs wr w.heap.size e 3 g cap (L.length + 1) (lvX (t :: L))) (hmap : MapIs wr bm l) (hbm : w.heap.size ≤ bm) (hbel : Below w.heap.size w wr)
    (hkn : KnOk w F l (t :: L)) (hlv : ∀ x ∈ t :: L, x.ok w F C) (hsrt : (t :: L).Pairwise (fun x y => x.tot ≤ y.tot)) (hlast : ∀ x, (t :: L).getLast? = some x → x.tot = C) (hms : stM l (t :: L) ≤ gk) (hgk : gk ≤ 3 * C + 2) (hlt : t.nx < t.n) {W : World} (hW : Snc w wr W none) :
    CpRel e w F C bm (stM l (t.next :: L)) (.slice (some ⟨g, 0, none⟩) (L.length + 1) cap) ((W.setCell ⟨g, L.length * 3 + 2, none⟩ (.int .i64 ((t.pre t.nx : Int) + (1 + (t.c t.nx : Int))))).setCell ⟨g, L.length * 3 + 1, none⟩ (.int .i64 ((t.nx : Int) + 1))) ∧ stM l (t.next :: L) < gk := by
  have hne := stk_map hstk hmap
  have hk0 := hstk.kept (hW.same g hstk.lt (by simp))
  have hlen := lvX_len (t :: L)
  simp only [List.length_cons] at hlen
  have k1 := hk0.set (j := L.length * 3 + 2) (.int .i64 ((t.pre t.nx : Int) + (1 + (t.c t.nx : Int)))) (by omega)
  have k2 := k1.set (j := L.length * 3 + 1) (.int .i64 ((t.nx : Int) + 1)) (by rw [List.length_set]; omega)
  rw [lv_next] at k2
  have hg : w.heap.size ≤ g := by obtain ⟨_, h, _⟩ := hstk; exact h
  have hb := (hW.below.setCell (p := ⟨g, L.length * 3 + 2, none⟩) hg (.int .i64 ((t.pre t.nx : Int) + (1 + (t.c t.nx : Int))))).setCell (p := ⟨g, L.length * 3 + 1, none⟩) hg (.int .i64 ((t.nx : Int) + 1))
  have hm := ms_next t l hlt
  have e1 : stM l (t :: L) = t.ms l + stM l L := rfl
  have e2 : stM l (t.next :: L) = t.next.ms l + stM l L := rfl
  refine ⟨⟨t.next, L, g, cap, l, rfl, k2, hmap.kept (((setCell_off hne.symm).trans (setCell_off hne.symm)).trans (hW.same bm hmap.lt (by simp))), hbm, hb, hkn.next, fun x hx => ?_, List.pairwise_cons.2 ⟨fun x hx => (List.pairwise_cons.1 hsrt).1 x hx, (List.pairwise_cons.1 hsrt).2⟩, fun x hx => ?_, Nat.le_refl _, by omega⟩, by omega⟩
  · rcases List.mem_cons.1 hx with rfl | hx
    · have := hlv t (List.mem_cons_self ..)
      exact ⟨this.n0, by show t.nx + 1 ≤ t.n; omega, this.hF, this.cell, this.pc, this.C⟩
    · exact hlv x (List.mem_cons_of_mem _ hx)
  · cases L with
    | nil =>
      simp only [List.getLast?_singleton, Option.some.injEq] at hx
      subst hx
      exact hlast t rfl
    | cons p L =>
      rw [List.getLast?_cons_cons] at hx
      exact hlast x (by rw [List.getLast?_cons_cons]; exact hx)
theorem cp_push {e : TypeId} {w wr : World} {F : Nat → Prop} {C bm gk g cap cb co m q : Nat} {t : Lev} {L : List Lev} {l : List (PKey × Int)} (hstk : StkIs wr w.heap.size e 3 g cap (L.length + 1) (lvX (t :: L))) (hbm : w.heap.size ≤ bm)
    (hkn : KnOk w F l (t :: L)) (hlv : ∀ x ∈ t :: L, x.ok w F C) (hsrt : (t :: L).Pairwise (fun x y => x.tot ≤ y.tot)) (hlast : ∀ x, (t :: L).getLast? = some x → x.tot = C) (hms : stM l (t :: L) ≤ gk) (hgk : gk ≤ 3 * C + 2) (hlt : t.nx < t.n)
    (ha : t.a t.nx = some ⟨cb, co, none⟩) (hm : t.m t.nx = m) (h0 : 0 < m) (hk : lkP (cb, co, m) l = none) {W2 W : World} (hmap : MapIs W2 bm (upP (cb, co, m) (-1) l)) (hne : g ≠ bm) (hbel : Below w.heap.size w W2) {v' : Value} (hw : w.heap.size ≤ W2.heap.size)
    (ho : W.ownsRow w.heap.size e 3 v' (L.length + 1 + 1) (lvX (t :: L) ++ [.slice (some ⟨cb, co, none⟩) m q, .int .i64 0, .int .i64 0])) {o : Obj} (hg : (W2.alloc o).grownBy W (some g)) :
    ∃ k, k < gk ∧ CpRel e w F C bm k v' W := by
  have pc := (hlv t (List.mem_cons_self ..)).pc t.nx hlt
  have hC : t.c t.nx ≤ t.tot := by
    have e3 := pre_mono t (i := t.nx + 1) (j := t.n) (by omega)
    have e4 : t.pre (t.nx + 1) = t.pre t.nx + (1 + t.c t.nx) := rfl
    have e5 : t.tot = t.pre t.n := rfl
    omega
  have htC := (hlv t (List.mem_cons_self ..)).C
  rw [ha, hm] at pc
  obtain ⟨u, u1, u2, u3, u4, u5, u6, u7⟩ := lev_of (cap := q) pc h0
  have hu := u7 C (by omega)
  have hkey : u.key = (cb, co, m) := by unfold Lev.key; rw [u1, u2, u3]
  have hcells : u.cells = [.slice (some ⟨cb, co, none⟩) m q, .int .i64 0, .int .i64 0] := by
    unfold Lev.cells
    rw [u1, u2, u3, u4, u5]; rfl
  have hbase : w.heap.size ≤ g := by obtain ⟨_, h, _⟩ := hstk; exact h
  obtain ⟨g', cap', rfl, hs'⟩ := StkIs.of_owns ho (by omega)
  rw [← hcells] at hs'
  have hkn0 : knB l (t.a t.nx) (t.m t.nx) = false := by
    rw [ha, hm]
    obtain ⟨m', rfl⟩ : ∃ m', m = m' + 1 := ⟨m - 1, by omega⟩
    show (lkP (cb, co, m' + 1) l).isSome = false
    rw [hk]; rfl
  have hkn1 : knB (upP (cb, co, m) (-1) l) (t.a t.nx) (t.m t.nx) = true := by
    rw [ha, hm]
    obtain ⟨m', rfl⟩ : ∃ m', m = m' + 1 := ⟨m - 1, by omega⟩
    show (lkP (cb, co, m' + 1) (upP (cb, co, m' + 1) (-1) l)).isSome = true
    rw [lk_up, if_pos rfl]; rfl
  have hM := ms_push t u l (cb, co, m) (-1) hlt hkn0 hkn1 u5 (by rw [u3]; exact h0) u6
  have hS := st_up l (cb, co, m) (-1) L
  have e1 : stM l (t :: L) = t.ms l + stM l L := rfl
  have e2 : stM (upP (cb, co, m) (-1) l) (u :: t :: L) = u.ms (upP (cb, co, m) (-1) l) + (t.ms (upP (cb, co, m) (-1) l) + stM (upP (cb, co, m) (-1) l) L) := rfl
  have hp := hkn.push hu
  rw [hkey] at hp
  refine ⟨stM (upP (cb, co, m) (-1) l) (u :: t :: L), by omega, u, t :: L, g', cap', _, rfl, hs', hmap.kept ((hg.block bm (by rw [World.size_alloc]; have := hmap.lt; omega) (fun z => hne (by cases z; rfl))).trans (Below.heap_alloc W2 o bm hmap.lt)), hbm, (hbel.alloc hbel.size o).grown hg (by rw [World.size_alloc]; omega) (fun k z => by cases z; exact hbase), hp, fun x hx => ?_, List.pairwise_cons.2 ⟨fun x hx => ?_, hsrt⟩, fun x hx => ?_, Nat.le_refl _, by omega⟩
  · rcases List.mem_cons.1 hx with rfl | hx
    · exact hu
    · exact hlv x hx
  · rw [u6]
    rcases List.mem_cons.1 hx with rfl | hx
    · exact hC
    · exact Nat.le_trans hC ((List.pairwise_cons.1 hsrt).1 x hx)
  · rw [List.getLast?_cons_cons] at hx
    exact hlast x hx
theorem place_exact (b off n cap : Nat) (hn : 0 < n) (w : World) : Calls Try.prog 74 #[.slice (some ⟨b, off, none⟩) n cap] w fun e w' => e = .returned (.agg #[.pointer (some ⟨b, off, none⟩), .int .i64 (n : Int)]) ∧ w' = w.alloc (.cells #[.pointer (some ⟨b, off, none⟩), .int .i64 (n : Int)] 109) := by
  go_enter Try.func74, Try.ntmps74
  go_wp2
  simp [bodyPost, results, Try.results74, go_sem]
theorem plus_exact (a b : Int) (ha : 0 ≤ a) (hb : 0 ≤ b) (ha2 : a ≤ 1000000000) (hb2 : b ≤ 1000000000) (w : World) : Calls Try.prog 55 #[.int .i64 a, .int .i64 b] w fun e w' => e = .returned (.int .i64 (a + b)) ∧ w' = w := by
  go_enter Try.func55, Try.ntmps55
  go_wp2
  all_goals simp [bodyPost, results, Try.results55, go_sem]
noncomputable def kF1 : Field := match Try.prog.underlying 109 with | some (.struct fs) => fs.getD 0 default | _ => default
noncomputable def kF2 : Field := match Try.prog.underlying 109 with | some (.struct fs) => fs.getD 1 default | _ => default
theorem count_keyT : KeyT Try.prog 111 109 3 45 10 kF1 kF2 := ⟨by kernel_rfl, by kernel_rfl, by kernel_rfl, ⟨.i64, by kernel_rfl⟩, by kernel_rfl, by kernel_rfl, by kernel_rfl, by kernel_rfl, by kernel_rfl, by kernel_rfl, by kernel_rfl, by kernel_rfl⟩
theorem zero_int (w : World) : (zeroValue 3).run Try.prog w = .ok (.int .i64 0) w := zero_run (by kernel_rfl)
theorem cp_upd {w wr W : World} {F : Nat → Prop} {bm : Nat} {l : List (PKey × Int)} (hF : ∀ b, F b → b < w.heap.size ∧ Dyn.PlainB w b) (hbm : w.heap.size ≤ bm) (hw : w.heap.size ≤ wr.heap.size) (hW : Snc w wr W none) (hmap : MapIs wr bm l) (hl : ∀ y ∈ l, F y.1.1) (b off n : Nat) (hk : F b) (v : Int) :
    ∃ W2, (Instr.mapUpdate 111 (.map (some bm)) (.agg #[.pointer (some ⟨b, off, none⟩), .int .i64 (n : Int)]) (.int .i64 v)).run Try.prog W = .ok () W2 ∧ MapIs W2 bm (upP (b, off, n) v l) ∧ Snc w wr W2 (some bm) ∧ W.heap.size ≤ W2.heap.size := by
  obtain ⟨W2, k1, k2, k3, k4⟩ := update_run (w := W) count_keyT (hmap.kept (hW.same _ hmap.lt (by simp))) (b, off, n) v ((hF _ hk).2.of (hW.below.block _ (hF _ hk).1)) (fun y hy => (hF _ (hl y hy)).2.of (hW.below.block _ (hF _ (hl y hy)).1))
  exact ⟨W2, k1, k2, Snc.grown ⟨hW.below, fun q hq _ => hW.same q hq (by simp), hW.size⟩ hw k3 (fun k e => by cases e; exact hbm) (fun k e _ => e), by rw [k4]; exact Nat.le_refl _⟩
theorem cp_look {w wr W : World} {F : Nat → Prop} {bm : Nat} {l : List (PKey × Int)} (hF : ∀ b, F b → b < w.heap.size ∧ Dyn.PlainB w b) (hW : Snc w wr W none) (hmap : MapIs wr bm l) (hl : ∀ y ∈ l, F y.1.1) (b off n : Nat) (hk : F b) {r : Option Int} (hr : lkP (b, off, n) l = r) :
    (Instr.lookup 111 (.map (some bm)) (.agg #[.pointer (some ⟨b, off, none⟩), .int .i64 (n : Int)]) true).run Try.prog W = .ok (.tuple #[.int .i64 (r.getD 0), .bool r.isSome]) W := by
  subst hr
  exact lookup_run (w := W) count_keyT zero_int (hmap.kept (hW.same _ hmap.lt (by simp))) (b, off, n) ((hF _ hk).2.of (hW.below.block _ (hF _ hk).1)) (fun y hy => (hF _ (hl y hy)).2.of (hW.below.block _ (hF _ (hl y hy)).1))
theorem infoLv : (Try.prog.info? 113).map (fun i => (i.zero, i.size, i.bytes)) = some (some (.agg #[.slice none 0 0, .int .i64 0, .int .i64 0]), 3, 40) := by kernel_rfl
set_option maxHeartbeats 16000000 in
theorem count_walk (F : Nat → Prop) (b off n cap : Nat) (hn : 0 < n) (C : Nat) (hC : C ≤ 100000000) (w : World) (hF : ∀ b, F b → b < w.heap.size ∧ Dyn.PlainB w b) (hpc : PC w F (some ⟨b, off, none⟩) n C) : Calls Try.prog 56 #[.slice (some ⟨b, off, none⟩) n cap] w fun e w' => e = .returned (.int .i64 (C : Int)) ∧ Below w.heap.size w w' := by
  have hFb : F b := by
    cases hpc with
    | nil => omega
    | row _ _ _ _ _ _ _ _ h => exact h
  have hm0 : MapIs (w.alloc (.map #[] 0)) w.heap.size [] := ⟨#[], 0, heap_newC w _, rfl⟩
  have hb0 : Below w.heap.size w (w.alloc (.map #[] 0)) := (Below.refl _ w).alloc (Nat.le_refl _) _
  obtain ⟨W1, hU, hM1, hg1, hs1⟩ := cp_upd (w := w) (wr := w.alloc (.map #[] 0)) (W := (w.alloc (.map #[] 0)).alloc (.cells #[.pointer (some ⟨b, off, none⟩), .int .i64 (n : Int)] 109)) hF (Nat.le_refl _) hb0.size ((Snc.refl hb0 none).alloc _) hm0 (fun y hy => by cases hy) b off n hFb (-1)
  have HM1 : Hid (MapIs W1 w.heap.size (upP (b, off, n) (-1) [])) := hM1
  have HG1 : Hid (Snc w (w.alloc (.map #[] 0)) W1 (some w.heap.size)) := hg1
  have HP : Hid (PC w F (some ⟨b, off, none⟩) n C) := hpc
  clear hM1 hg1 hpc hm0 hb0 hs1
  have hmm := @run_makeMap Try.prog
  go_enter Try.func56, Try.ntmps56
  go_wp2_with (go_at_call 74; refine (place_exact b off n cap hn _).mono ?_; rintro e w' ⟨rfl, rfl⟩)
  go_loopg [4] (3 * C + 2) (fun gk v W => CpRel 113 w F C w.heap.size gk v W)
  case atStart =>
    obtain ⟨t, t1, t2, t3, t4, t5, t6, t7⟩ := lev_of (cap := cap) HP.out hn
    have ht := t7 C (Nat.le_refl _)
    have hsz : w.heap.size < W1.heap.size := by have := HG1.out.size; rw [World.size_alloc] at this; omega
    have hcells : t.cells = [.slice (some ⟨b, off, none⟩) n cap, .int .i64 0, .int .i64 0] := by unfold Lev.cells; rw [t1, t2, t3, t4, t5]; rfl
    have hk := KnOk.push (w := w) (F := F) (C := C) (l := []) (L := []) ⟨(fun y hy => by cases hy), (fun k v h => by cases h)⟩ ht
    have hkey : t.key = (b, off, n) := by unfold Lev.key; rw [t1, t2, t3]
    rw [hkey] at hk
    have hm := ms_new t (upP (b, off, n) (-1) []) t5 (by rw [t3]; exact hn)
    refine ⟨t, [], W1.heap.size, 1, _, rfl, ⟨_, by omega, heap_newC W1 _, by decide, by decide, ?_, ?_, rfl⟩, HM1.out.kept (Below.heap_alloc W1 _ _ hsz), Nat.le_refl _, HG1.out.below.alloc (by omega) _, hk, fun x hx => ?_, List.pairwise_cons.2 ⟨fun x hx => (by cases hx), .nil⟩, fun x hx => ?_, ?_, Nat.le_refl _⟩
    · rfl
    · show _ = [] ++ t.cells
      rw [hcells]; rfl
    · rcases List.mem_cons.1 hx with rfl | hx
      · exact ht
      · cases hx
    · simp only [List.getLast?_singleton, Option.some.injEq] at hx
      subst hx; exact t6
    · show t.ms _ + 0 ≤ _
      omega
  case round =>
    obtain ⟨t, L, g, cap2, l, rfl, hstk, hmap, hbm, hbel, hkn, hlv, hsrt, hlast, hms, hgk⟩ := hrel
    have ht := hlv t (List.mem_cons_self ..)
    have hx0 : (lvX (t :: L))[L.length * 3]? = some (.slice (some ⟨t.b, t.off, none⟩) t.n t.cap) := by
      show (lvX L ++ t.cells)[L.length * 3]? = _
      rw [List.getElem?_append_right (by rw [lvX_len]; omega), lvX_len, Nat.sub_self]; rfl
    have hx1 : (lvX (t :: L))[L.length * 3 + 1]? = some (.int .i64 (t.nx : Int)) := by
      show (lvX L ++ t.cells)[L.length * 3 + 1]? = _
      rw [List.getElem?_append_right (by rw [lvX_len]; omega), lvX_len, show L.length * 3 + 1 - L.length * 3 = 1 by omega]; rfl
    have hx2 : (lvX (t :: L))[L.length * 3 + 2]? = some (.int .i64 (t.pre t.nx : Int)) := by
      show (lvX L ++ t.cells)[L.length * 3 + 2]? = _
      rw [List.getElem?_append_right (by rw [lvX_len]; omega), lvX_len, show L.length * 3 + 2 - L.length * 3 = 2 by omega]; rfl
    have hcap : (L.length : Int) ≤ (cap2 : Int) := by obtain ⟨_, _, _, h, _⟩ := hstk; omega
    have hgl : g < wr.heap.size := hstk.lt
    have c0 := hstk.cell hx0
    have c1 := hstk.cell hx1
    have c2 := hstk.cell hx2
    have z1 := hstk.froz (L.length * 3 + 1)
    have z2 := hstk.froz (L.length * 3 + 2)
    clear hx0 hx1 hx2
    have hLb : (L.length : Int) ≤ 400000000 := by
      have := st_len l (t :: L)
      simp only [List.length_cons] at this
      omega
    obtain ⟨d, hd⟩ : ∃ d, d = L.length := ⟨_, rfl⟩
    have HS0 : Hid (StkIs wr w.heap.size 113 3 g cap2 (L.length + 1) (lvX (t :: L))) := hstk
    rw [← hd] at hstk c0 c1 c2 z1 z2 hLb hcap ⊢
    have hd1 : Hid (d = L.length) := hd
    clear hd
    by_cases hlt : t.nx < t.n
    · have ci0 : wr.cell? ⟨t.b, t.off + t.nx * 11 + 10, none⟩ = some (.slice (t.a t.nx) (t.m t.nx) (t.q t.nx)) := (hbel.cell (p := ⟨t.b, _, none⟩) (hF _ ht.hF).1).trans (ht.cell _ hlt)
      have hpcn := ht.pc _ hlt
      have hdec : ((t.nx : Int) == (t.n : Int)) = false := by simp; omega
      have hlt' : (t.nx : Int) < (t.n : Int) := by omega
      have hcn : t.pre t.nx + (1 + t.c t.nx) ≤ 100000000 := by
        have e3 := pre_mono t (i := t.nx + 1) (j := t.n) (by omega)
        have e4 : t.pre (t.nx + 1) = t.pre t.nx + (1 + t.c t.nx) := rfl
        have e5 : t.tot = t.pre t.n := rfl
        have := ht.C
        omega
      have hnb : (t.nx : Int) ≤ 100000000 := by have := pre_ge t t.nx; omega
      have HL : Hid (t.nx < t.n) := hlt
      have HP2 : Hid (PC w F (t.a t.nx) (t.m t.nx) (t.c t.nx)) := hpcn
      clear hlt hpcn
      have hsnc := Snc.refl hbel none
      by_cases hm : t.m t.nx = 0
      · rw [hm] at ci0
        have hc0 : t.c t.nx = 0 := by
          have := HP2.out
          rw [hm] at this
          exact this.det (F' := F) (.nil _)
        have HM : Hid (t.m t.nx = 0) := hm
        have HC0 : Hid (t.c t.nx = 0) := hc0
        have HC : Hid (wr.cell? ⟨t.b, t.off + t.nx * 11 + 10, none⟩ = some (.slice (t.a t.nx) 0 (t.q t.nx))) := ci0
        clear ci0 hm hc0
        go_wp2
        go_quiet (fail)
        have ci := HC.out
        go_wp2
        go_quiet (fail)
        go_wp2
        have hs0 : (0 : Int) ≤ (t.pre t.nx : Int) := by omega
        have hs1' : (t.pre t.nx : Int) ≤ 100000000 := by omega
        go_region_with (go_at_call 55; refine (plus_exact _ _ (by omega) (by omega) (by omega) (by omega) _).mono ?_; rintro e w' ⟨rfl, rfl⟩)
        all_goals
          go_wp2
          go_roundg (stM l (t.next :: L))
          case measure => exact (cp_next HS0.out hmap hbm hbel hkn hlv hsrt hlast hms hgk HL.out hsnc).2
          case rel =>
            have hd := hd1.out
            subst hd
            have q := fun m => (cp_next HS0.out hmap hbm hbel hkn hlv hsrt hlast hms hgk HL.out (hsnc.drew m)).1
            simp only [HC0.out, Int.natCast_zero, Int.add_zero] at q
            exact q _
      · obtain ⟨cb, co, m, hac, hmc, hm0⟩ : ∃ cb co m, t.a t.nx = some ⟨cb, co, none⟩ ∧ t.m t.nx = m ∧ 0 < m := by
          have := HP2.out
          revert this
          generalize t.a t.nx = oa
          generalize t.c t.nx = cc
          generalize hq : t.m t.nx = m
          intro hp
          cases hp with
          | nil => exact absurd hq hm
          | row b off n _ _ _ _ h0 => exact ⟨b, off, m, rfl, rfl, h0⟩
        have hFc : F cb := by
          have := HP2.out
          rw [hac, hmc] at this
          revert this
          generalize t.c t.nx = cc
          intro hp
          cases hp with
          | nil => omega
          | row _ _ _ _ _ _ _ _ h => exact h
        rw [hac, hmc] at ci0
        have HAC : Hid (t.a t.nx = some ⟨cb, co, none⟩) := hac
        have HMC : Hid (t.m t.nx = m) := hmc
        have HC : Hid (wr.cell? ⟨t.b, t.off + t.nx * 11 + 10, none⟩ = some (.slice (some ⟨cb, co, none⟩) m (t.q t.nx))) := ci0
        have hm0' : (0 : Int) < (m : Int) := by omega
        clear ci0 hm hac hmc
        cases hk : lkP (cb, co, m) l with
        | some v =>
          have hv := hkn.child hlv (fun x hx => by
            rcases List.mem_cons.1 hx with rfl | hx
            · exact Nat.le_refl _
            · exact (List.pairwise_cons.1 hsrt).1 x hx) HL.out HAC.out HMC.out hk
          have hlook := fun (W : World) (hW : Snc w wr W none) => cp_look hF hW hmap hkn.hF cb co m hFc hk
          have HLK : Hid (∀ W, Snc w wr W none → (Instr.lookup 111 (.map (some w.heap.size)) (.agg #[.pointer (some ⟨cb, co, none⟩), .int .i64 (m : Int)]) true).run Try.prog W = .ok (.tuple #[.int .i64 (t.c t.nx : Int), .bool true]) W) := fun W hW => by
            rw [hlook W hW, hv]; rfl
          have hv1 : ((t.c t.nx : Int) == -1) = false := by rw [beq_eq_false_iff_ne]; omega
          have hvb : (t.c t.nx : Int) ≤ 100000000 := by omega
          clear hlook hv hk
          go_wp2
          go_quiet (fail)
          generalize nq = n1
          have ci := HC.out
          go_wp2
          go_quiet (fail)
          clear ci
          have hlk := fun m' : Nat => HLK.out ((wr.drewN m').alloc (.cells #[.pointer (some ⟨cb, co, none⟩), .int .i64 (m : Int)] 109)) ((hsnc.drew m').alloc _)
          go_wp2_with (go_at_call 74; refine (place_exact cb co m _ hm0 _).mono ?_; rintro e w' ⟨rfl, rfl⟩)
          clear hlk
          have hS3 : Snc w wr ((wr.drewN (n1 + nq)).alloc (.cells #[.pointer (some ⟨cb, co, none⟩), .int .i64 (m : Int)] 109)) none := (hsnc.drew _).alloc _
          generalize (wr.drewN (n1 + nq)).alloc (.cells #[.pointer (some ⟨cb, co, none⟩), .int .i64 (m : Int)] 109) = W3 at hS3 ⊢
          have k1 := (Dyn.cell_congr (hS3.same g hgl (by simp)) (d * 3 + 1)).trans c1
          have k2 := (Dyn.cell_congr (hS3.same g hgl (by simp)) (d * 3 + 2)).trans c2
          have y1 := (World.frozen?_of_block (a := ⟨g, d * 3 + 1, none⟩) (hS3.same g hgl (by simp))).trans z1
          have y2 := (World.frozen?_of_block (a := ⟨g, d * 3 + 2, none⟩) (hS3.same g hgl (by simp))).trans z2
          clear c0 c1 c2 z1 z2
          have HS3 : Hid (Snc w wr W3 none) := hS3
          clear hS3
          have hs0 : (0 : Int) ≤ (t.pre t.nx : Int) := by omega
          have hs1' : (t.pre t.nx : Int) ≤ 100000000 := by omega
          have hs2 : (0 : Int) ≤ (t.c t.nx : Int) := by omega
          have P1 := fun W => plus_exact 1 (t.c t.nx : Int) (by omega) hs2 (by omega) (by omega) W
          have P2 := fun W => plus_exact (t.pre t.nx : Int) (1 + (t.c t.nx : Int)) hs0 (by omega) (by omega) (by omega) W
          have HP1 : Hid (∀ W, Calls Try.prog 55 #[.int .i64 1, .int .i64 (t.c t.nx : Int)] W fun e w' => e = .returned (.int .i64 (1 + (t.c t.nx : Int))) ∧ w' = W) := P1
          have HP2' : Hid (∀ W, Calls Try.prog 55 #[.int .i64 (t.pre t.nx : Int), .int .i64 (1 + (t.c t.nx : Int))] W fun e w' => e = .returned (.int .i64 ((t.pre t.nx : Int) + (1 + (t.c t.nx : Int)))) ∧ w' = W) := P2
          clear P1 P2
          go_region_with (go_at_call 55; (first | (with_reducible refine (HP1.out _).mono ?_) | (with_reducible refine (HP2'.out _).mono ?_)); rintro e w' ⟨rfl, rfl⟩)
          all_goals
            go_wp2
            go_roundg (stM l (t.next :: L))
            case measure => exact (cp_next HS0.out hmap hbm hbel hkn hlv hsrt hlast hms hgk HL.out hsnc).2
            case rel =>
              have hd := hd1.out
              subst hd
              exact (cp_next HS0.out hmap hbm hbel hkn hlv hsrt hlast hms hgk HL.out (HS3.out.drew _)).1
        | none =>
          have HK : Hid (lkP (cb, co, m) l = none) := hk
          have HLK : Hid (∀ W, Snc w wr W none → (Instr.lookup 111 (.map (some w.heap.size)) (.agg #[.pointer (some ⟨cb, co, none⟩), .int .i64 (m : Int)]) true).run Try.prog W = .ok (.tuple #[.int .i64 0, .bool false]) W) := fun W hW => cp_look hF hW hmap hkn.hF cb co m hFc hk
          clear hk
          have HU2 : ∀ m' : Nat, ∃ W2, (Instr.mapUpdate 111 (.map (some w.heap.size)) (.agg #[.pointer (some ⟨cb, co, none⟩), .int .i64 (m : Int)]) (.int .i64 (-1))).run Try.prog (((wr.drewN m').alloc (.cells #[.pointer (some ⟨cb, co, none⟩), .int .i64 (m : Int)] 109)).alloc (.cells #[.pointer (some ⟨cb, co, none⟩), .int .i64 (m : Int)] 109)) = .ok () W2 ∧ MapIs W2 w.heap.size (upP (cb, co, m) (-1) l) ∧ Snc w wr W2 (some w.heap.size) ∧ _ :=
            fun m' => cp_upd hF (Nat.le_refl _) hbel.size (((hsnc.drew m').alloc _).alloc _) hmap hkn.hF cb co m hFc (-1)
          obtain ⟨fw, hfw⟩ := Classical.axiomOfChoice HU2
          have HFW : Hid (∀ m', MapIs (fw m') w.heap.size (upP (cb, co, m) (-1) l) ∧ Snc w wr (fw m') (some w.heap.size)) := fun m' => ⟨(hfw m').2.1, (hfw m').2.2.1⟩
          have HFU := fun m' => (hfw m').1
          have HO : Hid (∀ m', (fw m').ownsRow w.heap.size 113 3 (.slice (some ⟨g, 0, none⟩) (d + 1) cap2) (d + 1) (lvX (t :: L))) := fun m' => (hstk.kept ((HFW.out m').2.same g hstk.lt (fun z => stk_map hstk hmap (by cases z; rfl)))).owns
          clear hfw HU2
          obtain ⟨i0, hi, hz0, hz1, hz2⟩ := info_parts infoLv
          go_wp2
          go_quiet (fail)
          have ci := HC.out
          go_wp2
          go_quiet (fail)
          clear ci
          have hlk := fun m' : Nat => HLK.out ((wr.drewN m').alloc (.cells #[.pointer (some ⟨cb, co, none⟩), .int .i64 (m : Int)] 109)) ((hsnc.drew m').alloc _)
          go_wp2_with (first
            | (go_at_call 74; refine (place_exact cb co m _ hm0 _).mono ?_; rintro e w' ⟨rfl, rfl⟩)
            | (at_builtin; refine wpList_append_own _ rfl _ _ 114 rfl w.heap.size 113 i0 (.agg #[.slice none 0 0, .int .i64 0, .int .i64 0]) 3 40 Try.underlying114 hi hz0 hz1 hz2 rfl (by decide) _ _ _ rfl ((HO.out _).alloc _) ⟨_, 0, none⟩ 1 1 [.slice (some ⟨cb, co, none⟩) m (t.q t.nx), .int .i64 0, .int .i64 0] rfl rfl ?c1 ?c2 ?c3 ?c4 ?c5 ?_)
            | go_in)
          case c1 =>
            intro j u hj
            rw [add_off, Nat.zero_add, new_cell]
            simpa using hj
          case c2 =>
            intro u hu
            simp at hu
            rcases hu with rfl | rfl <;> rfl
          case c3 => unfold maxLen; omega
          case c4 => omega
          case c5 => rw [World.size_alloc]; exact Nat.le_succ_of_le (HFW.out _).2.below.size
          · intro v' w1 hown' hgrow _
            obtain ⟨k, hk1, hk2⟩ := cp_push (q := t.q t.nx) HS0.out (Nat.le_refl _) hkn hlv hsrt hlast hms hgk HL.out HAC.out HMC.out hm0 HK.out (HFW.out _).1 (stk_map hstk hmap) (HFW.out _).2.below (HFW.out _).2.below.size (by rw [← hd1.out]; exact hown') hgrow
            have HK1 : Hid (k < gk) := hk1
            have HK2 : Hid (CpRel 113 w F C w.heap.size k v' w1) := hk2
            clear hk1 hk2 hown' hgrow HFU
            go_wp2
            go_roundg k
            case measure => exact HK1.out
            case rel => exact HK2.out
    · have heq : t.nx = t.n := by have := ht.nx; omega
      have hdec : ((t.nx : Int) == (t.n : Int)) = true := by simp [heq]
      have H1 : Hid (t.nx = t.n) := heq
      have HU2 : ∀ m' : Nat, ∃ W2, (Instr.mapUpdate 111 (.map (some w.heap.size)) (.agg #[.pointer (some ⟨t.b, t.off, none⟩), .int .i64 (t.n : Int)]) (.int .i64 (t.pre t.nx : Int))).run Try.prog ((wr.drewN m').alloc (.cells #[.pointer (some ⟨t.b, t.off, none⟩), .int .i64 (t.n : Int)] 109)) = .ok () W2 ∧ MapIs W2 w.heap.size (upP t.key (t.pre t.nx : Int) l) ∧ Snc w wr W2 (some w.heap.size) ∧ _ :=
        fun m' => cp_upd hF (Nat.le_refl _) hbel.size (((Snc.refl hbel none).drew m').alloc _) hmap hkn.hF t.b t.off t.n ht.hF _
      obtain ⟨fw, hfw⟩ := Classical.axiomOfChoice HU2
      have HFW : Hid (∀ m', MapIs (fw m') w.heap.size (upP t.key (t.pre t.nx : Int) l) ∧ Snc w wr (fw m') (some w.heap.size)) := fun m' => ⟨(hfw m').2.1, (hfw m').2.2.1⟩
      have HFU := fun m' => (hfw m').1
      clear hfw HU2 hlt heq
      by_cases hz : d = 0
      · have hz1 : ((d : Int) == 0) = true := by simp [hz]
        have hz2 : Hid (d = 0) := hz
        clear hz
        go_wp2
        go_quiet (fail)
        go_wp2_with (go_at_call 74; refine (place_exact t.b t.off t.n t.cap ht.n0 _).mono ?_; rintro e w' ⟨rfl, rfl⟩)
        go_ret
        refine ⟨?_, (HFW.out _).2.below⟩
        show Ending.returned (.int .i64 (t.pre t.nx : Int)) = _
        have e1 : L = [] := List.length_eq_zero_iff.1 (hd1.out.symm.trans hz2.out)
        have e2 := hlast t (by rw [e1]; rfl)
        rw [show t.pre t.nx = C by rw [H1.out]; exact e2]
      · have hz1 : ((d : Int) == 0) = false := by simp [hz]
        have hz2 : Hid (d ≠ 0) := hz
        clear hz
        go_wp2
        go_quiet (fail)
        go_wp2_with (go_at_call 74; refine (place_exact t.b t.off t.n t.cap ht.n0 _).mono ?_; rintro e w' ⟨rfl, rfl⟩)
        go_roundg (stM (upP t.key (t.pre t.nx : Int) l) L)
        case measure =>
          have := st_up l t.key (t.pre t.nx : Int) L
          have := ms_pos t l
          have e : stM l (t :: L) = t.ms l + stM l L := rfl
          omega
        case rel =>
          cases L with
          | nil => exact absurd hd1.out hz2.out
          | cons p L =>
            have hd2 : d = L.length + 1 := hd1.out
            subst hd2
            have et : t.pre t.nx = t.tot := by rw [H1.out]; rfl
            have hM2 := fun m' => (HFW.out m').1
            have hS2 := fun m' => (HFW.out m').2
            rw [et] at hM2 ⊢
            refine ⟨p, L, g, cap2, _, rfl, (StkIs.pop (ys := t.cells) hstk rfl).kept ((hS2 _).same g hstk.lt (fun z => stk_map hstk hmap (by cases z; rfl))), hM2 _, Nat.le_refl _, (hS2 _).below, hkn.pop ht, fun x hx => hlv x (List.mem_cons_of_mem _ hx), (List.pairwise_cons.1 hsrt).2, fun x hx => hlast x hx, Nat.le_refl _, ?_⟩
            have := st_up l t.key (t.tot : Int) (p :: L)
            have e : stM l (t :: p :: L) = t.ms l + stM l (p :: L) := rfl
            omega
theorem count_zero (oa : Option Addr) (cap : Nat) (w : World) : Calls Try.prog 56 #[.slice oa 0 cap] w fun e w' => e = .returned (.int .i64 0) ∧ Below w.heap.size w w' := by
  go_enter Try.func56, Try.ntmps56
  go_wp2
  go_ret
  exact ⟨rfl, Below.refl _ _⟩
end Go.Proofs.Ytfooaikpcbnchaa

/-! ## Cpd -/
namespace Go.Proofs.Ytfooaikpcbnchaa
open Go Go.RowKit Sym
set_option maxRecDepth 100000

def PdC (x : Sh) : Prop := cntS (ofSh x) ≤ 100000000
theorem countParts_ok (s : Shp) (h : ShB s) (hc : cntS s ≤ 100000000) : Dyn.CallD Try.prog 56 [dvL (toSh s)] (rI (cntS s : Int)) :=
  callD_of Try.func56 (by kernel_rfl) (by kernel_rfl) rfl fun w F us hF hd => by
    match us, hd with
    | [u], hd =>
      obtain ⟨oa, cap, rfl, pc⟩ := den_PC s h (show Dyn.DenC w F (.row (toSh s).n (toSh s).f) u from hd.1)
      by_cases hz : (toSh s).n = 0
      · rw [hz] at pc ⊢
        have e : cntS s = 0 := pc.det (F' := F) (.nil oa)
        rw [e]
        exact count_zero oa cap w
      · generalize hq : (toSh s).n = n at *
        have pc' := pc
        generalize hcc : cntS s = c at *
        cases pc' with
        | nil => exact absurd rfl hz
        | row b off _ a m q c h0 => exact count_walk F b off n cap h0 _ hc w hF pc
    | [], hd => exact hd.elim
    | _ :: _ :: _, hd => exact hd.2.elim
noncomputable def enCpE : Dyn.EntryD := (56, en1D (qAnd (qAnd qL PdS) PdC) fun x => rI (cntS (ofSh x) : Int))
theorem enCpE_ok : Dyn.EntryDOk Try.prog enCpE := en1D_ok (qAnd_ok (qAnd_ok qL_ok)) fun x h => CallD_le (args := [dvL (toSh (ofSh x))]) ⟨SLe.dvL h.2.1.2, trivial⟩ (countParts_ok _ h.2.1.1 h.1)
noncomputable def tabCn : Dyn.Tabs := Dyn.tabs tbF [enCpE] noD dtyS
theorem tabCn_ok : Dyn.TabsOk Try.prog tabCn := Dyn.tabs_ok tbF_ok (List.forall_mem_cons.2 ⟨enCpE_ok, fun _ h => by cases h⟩)
noncomputable def cnO (s : Sh) : Dyn.RO := .side [PdC (obX s.n s.f), PdS (obX s.n s.f)] (.leaf (rI (plusF 1 (cntS (ofSh (obX s.n s.f)) : Int))))
theorem cn_O (s : Sh) : (Dyn.dfun Try.prog tabCn Dyn.noLp 4 Try.f35 [dvS s]).ro Try.prog Try.f35.results = cnO s := by kernel_rfl
theorem count_ok (s : Shp) (h : ShB s) (hc : cntS s ≤ 100000000) : Dyn.CallD Try.prog 35 [dvS (toSh s)] (rI (1 + (cntS s : Int))) := by
  cases s with
  | nil => exact h.elim
  | mk k a b c r l n add sub =>
    have e : ofSh (obX n fun i => partC (add i) (toSh (sub i))) = lForm n add sub := ofSh_toSh (lForm n add sub)
    have hB : ShB (lForm n add sub) := ⟨CtrB_ze, h.2.1, h.2.2⟩
    have ec : cntS (lForm n add sub) = cntS (.mk k a b c r l n add sub) := rfl
    refine Dyn.dcontract (lp := Dyn.noLp) (fuel := 4) tabCn_ok mo Try.func35 (by kernel_rfl) (c := bodyD Try.f35.body) (by kernel_rfl) (fun w0 => Dyn.noLp_ok _ w0) (by kernel_rfl) (cn_O (toSh (.mk k a b c r l n add sub))) ?_
    refine ⟨⟨by show cntS (ofSh (obX n fun i => partC (add i) (toSh (sub i)))) ≤ _; rw [e]; exact hc, PdS_mk hB, trivial⟩, ro_leaf (congrArg rI ?_)⟩
    show plusF 1 (cntS (ofSh (obX n fun i => partC (add i) (toSh (sub i)))) : Int) = _
    rw [e, ec]
    have hb : (cntS (.mk k a b c r l n add sub) : Int) ≤ 100000000 := by omega
    have h0 : (0 : Int) ≤ (cntS (.mk k a b c r l n add sub) : Int) := by omega
    generalize (cntS (.mk k a b c r l n add sub) : Int) = x at *
    unfold plusF
    rw [W_id (x := 9223372036854775807 - x) (by omega) (by omega), decide_eq_false (by omega), W_id (by omega) (by omega)]; rfl
end Go.Proofs.Ytfooaikpcbnchaa

/-! ## Tup -/
namespace Go.Proofs.Ytfooaikpcbnchaa
open Go Go.RowKit Sym
set_option maxRecDepth 100000

noncomputable def tdTp : List Dyn.EntryD := [(15, en0R (rB true)), (30, en2D (qAnd qS PdS) qP fun x p => rB (figHasE x p)), (29, en2D (qAnd qS PdS) qX fun x b => rI (figClassE x b)), (35, en1D (qAnd (qAnd qS PdS) PdC) fun x => rI (1 + (cntS (ofSh x) : Int))), (20, en2D (qAnd qS PdS) qT fun x t => .tup [dvS (moveE x t), dvB (movesE x t)])]
noncomputable def trTp : List Dyn.EntryD := [(14, en2D (qAnd qS PdW) qI fun x d => rB (smallE x d)), (18, en3D (qAnd qS PdS) qB qI fun x q d => .val (dvS (tameE x q d)))]
theorem count_all (x : Sh) (h : PdS x) (hc : PdC x) : Dyn.CallD Try.prog 35 [dvS x] (rI (1 + (cntS (ofSh x) : Int))) := CallD_le (args := [dvS (toSh (ofSh x))]) ⟨SLe.dv h.2, trivial⟩ (count_ok _ h.1 hc)
noncomputable def tabTp : Dyn.Tabs := Dyn.trT (Dyn.tabs tbU tdTp drY dtyS) trTp
theorem tabTp_ok : Dyn.TabsOk Try.prog tabTp := Dyn.trT_ok (Dyn.tabs_ok tbU_ok (List.forall_mem_cons.2 ⟨en0R_ok awake11_ok, List.forall_mem_cons.2 ⟨en2D_ok (qAnd_ok qS_ok) qP_ok fun x p h _ => figHas_ok x h.1 p, List.forall_mem_cons.2 ⟨en2D_ok (qAnd_ok qS_ok) qX_ok fun x b h _ => figClass_ok x h.1 b, List.forall_mem_cons.2 ⟨en1D_ok (qAnd_ok (qAnd_ok qS_ok)) fun x h => count_all x h.2.1 h.1, List.forall_mem_cons.2 ⟨en2D_ok (qAnd_ok qS_ok) qT_ok fun x t h _ => move_ok x h.1 t, fun _ h => by cases h⟩⟩⟩⟩⟩))
  (List.forall_mem_cons.2 ⟨en2R_ok (qAnd_ok qS_ok) qI_ok fun x d h _ => small_allR x h.1 d, List.forall_mem_cons.2 ⟨en3R_ok (qAnd_ok qS_ok) qB_ok qI_ok fun x q d h _ _ => tame_allR x h.1 q d, fun _ h => by cases h⟩⟩)
/-- the box of two turned corners -/
def tpB (b : B4) (t : Tn) : B4 :=
  let q := turnPtF ⟨b.x0, b.y0⟩ t
  let r := turnPtF ⟨b.x1, b.y1⟩ t
  ⟨imin q.x r.x, imin q.y r.y, imax q.x r.x, imax q.y r.y⟩
noncomputable def tpC (t : Tn) (b : B4) (p : P2) (S M : Sh) (k : Nat) : Bool :=
  let c1 := an (movesE S t) (figHasE M (turnPtF p t) == figHasE S p)
  match k with
  | 1 => c1
  | _ =>
    let c2 := an c1 (figClassE M (tpB b t) == figClassE S b)
    match k with
    | 2 => c2
    | _ => an (an c2 ((1 + (cntS (ofSh M) : Int)) == (1 + (cntS (ofSh S) : Int)))) true
noncomputable def tpO0 (t : Tn) (b : B4) (p : P2) (s S M : Sh) : Dyn.RO :=
  .side [PdS s, ctrSelf s.l, W (400000000 + 1) ≠ 0, W (30 + 1) ≠ 0]
    (.side [PdS S, ctrSelf S.l]
      (.side [some (movesE S t) = some true ∧ True → allP [PdS M, ctrSelf M.l], some (movesE S t) = some true ∧ True → allP [PdS S, ctrSelf S.l],
              some (tpC t b p S M 1) = some true ∧ True → allP [PdS M, ctrSelf M.l], some (tpC t b p S M 1) = some true ∧ True → allP [PdS S, ctrSelf S.l],
              some (tpC t b p S M 2) = some true ∧ True → allP [PdC M, PdS M, ctrSelf M.l], some (tpC t b p S M 2) = some true ∧ True → allP [PdC S, PdS S, ctrSelf S.l]]
        (.leaf (rB (tpC t b p S M 7)))))
noncomputable def tpO (s : Sh) (t : Tn) (b : B4) (p : P2) : Dyn.RO :=
  .side [PdW s, ctrSelf s.l] (.ite (!(smallE s 0)) (.leaf (rB true)) (tpO0 (tameT t 400000000) (lSmall b) (lClose p 30) s (tameE s true 0) (moveE (tameE s true 0) (tameT t 400000000))))
theorem tp_O (s : Sh) (t : Tn) (b : B4) (p : P2) : (Dyn.rfun Try.prog tabTp Dyn.noLp 3 Try.f9 [dvS s, dvT t, dvX b, dvP p]).ro Try.prog Try.f9.results = tpO s t b p := by kernel_rfl
end Go.Proofs.Ytfooaikpcbnchaa

/-! ## Rio -/
namespace Go.Proofs.Ytfooaikpcbnchaa
open Go Go.RowKit Sym
set_option maxRecDepth 100000

end Go.Proofs.Ytfooaikpcbnchaa

/-! ## Rim -/
namespace Go.Proofs.Ytfooaikpcbnchaa
open Go Go.RowKit Sym
set_option maxRecDepth 100000

structure Iso (T : P2 → P2) : Prop where
  d : ∀ p q, distI (T p) (T q) = distI p q
  s : ∀ p q, same (T p) (T q) ↔ same p q
structure IsoB (T : P2 → P2) (b b' : B4) : Prop where
  n : ∀ q, nearI b' (T q) = nearI b q
  m : ∀ q, mostI b' (T q) = mostI b q
  f : ∀ f : P2 → Bool, all4 f b' = all4 (fun q => f (T q)) b
theorem ringI_iso {T : P2 → P2} (h : Iso T) (hc : ∀ o a b, crossI (T o) (T a) (T b) = crossI o a b) (p c a e : P2) (r : Int) : ringI (T p) (T c) (T a) (T e) r = ringI p c a e r := by
  unfold ringI sectI
  simp only [h.d, hc, h.s]
theorem ringCl_iso {T : P2 → P2} {b b' : B4} (h : Iso T) (hb : IsoB T b b') (hc : ∀ o a b, crossI (T o) (T a) (T b) = crossI o a b) (c a e : P2) (r : Int) : ringCl b' (T c) (T a) (T e) r = ringCl b c a e r := by
  unfold ringCl liIn liOff
  simp only [h.d, hc, h.s, hb.n, hb.m, hb.f]
theorem ringI_mir {T : P2 → P2} (h : Iso T) (hc : ∀ o a b, crossI (T o) (T a) (T b) = crossI o b a) {p c a e : P2} {r : Int} (ok : distI a c = distI e c) : ringI (T p) (T c) (T e) (T a) r = ringI p c a e r := by
  unfold ringI sectI
  simp only [h.d, hc, h.s]
  rw [show decide (same e a) = decide (same a e) from decide_eq_decide.2 ⟨fun k => by unfold same at *; omega, fun k => by unfold same at *; omega⟩, ← ok, Bool.or_comm (decide (distI p e ≤ r * r)), Bool.or_comm (decide (crossI c p e ≥ 0)), Bool.and_comm (decide (crossI c p e ≥ 0))]
theorem ringCl_mir {T : P2 → P2} {b b' : B4} (h : Iso T) (hb : IsoB T b b') (hc : ∀ o a b, crossI (T o) (T a) (T b) = crossI o b a) {c a e : P2} {r : Int} (ok : distI a c = distI e c) : ringCl b' (T c) (T e) (T a) r = ringCl b c a e r := by
  unfold ringCl liIn liOff
  simp only [h.d, hc, h.s, hb.n, hb.m, hb.f]
  rw [show decide (same e a) = decide (same a e) from decide_eq_decide.2 ⟨fun k => by unfold same at *; omega, fun k => by unfold same at *; omega⟩, ← ok, Bool.or_comm (all4 (fun q => decide (crossI c q e ≥ 0)) b), Bool.and_comm (all4 (fun q => decide (crossI c q e ≥ 0)) b), Bool.or_comm (all4 (fun q => decide (crossI c q e < 0)) b), Bool.and_comm (all4 (fun q => decide (crossI c q e < 0)) b)]
  simp only [or_comm (a := mostI b e ≤ r * r), or_comm (a := nearI b e ≤ r * r)]
def trP (u : P2) (p : P2) : P2 := ⟨p.x + u.x, p.y + u.y⟩
def roP (p : P2) : P2 := ⟨-p.y, p.x⟩
def mjP (p : P2) : P2 := ⟨-p.x, p.y⟩
def trB (u : P2) (b : B4) : B4 := ⟨b.x0 + u.x, b.y0 + u.y, b.x1 + u.x, b.y1 + u.y⟩
def roB (b : B4) : B4 := ⟨-b.y1, b.x0, -b.y0, b.x1⟩
def mjB (b : B4) : B4 := ⟨-b.x1, b.y0, -b.x0, b.y1⟩
theorem trP_iso (u : P2) : Iso (trP u) := ⟨fun p q => by unfold distI trP; dsimp only; grind, fun p q => by unfold same trP; dsimp only; omega⟩
theorem roP_iso : Iso roP := ⟨fun p q => by unfold distI roP; dsimp only; grind, fun p q => by unfold same roP; dsimp only; omega⟩
theorem mjP_iso : Iso mjP := ⟨fun p q => by unfold distI mjP; dsimp only; grind, fun p q => by unfold same mjP; dsimp only; omega⟩
theorem trP_cross (u o a b : P2) : crossI (trP u o) (trP u a) (trP u b) = crossI o a b := by unfold crossI trP; dsimp only; grind
theorem roP_cross (o a b : P2) : crossI (roP o) (roP a) (roP b) = crossI o a b := by unfold crossI roP; dsimp only; grind
theorem mjP_cross (o a b : P2) : crossI (mjP o) (mjP a) (mjP b) = crossI o b a := by unfold crossI mjP; dsimp only; grind
theorem gap_tr (v u lo hi : Int) : gapI (v + u) (lo + u) (hi + u) = gapI v lo hi := by unfold gapI; split <;> split <;> (try split) <;> (try split) <;> omega
theorem gap_neg {v lo hi : Int} (h : lo ≤ hi) : gapI (-v) (-hi) (-lo) = gapI v lo hi := by unfold gapI; split <;> split <;> (try split) <;> (try split) <;> omega
theorem reach_tr (v u lo hi : Int) : reachI (v + u) (lo + u) (hi + u) = reachI v lo hi := by unfold reachI; omega
theorem reach_neg (v lo hi : Int) : reachI (-v) (-hi) (-lo) = reachI v lo hi := by unfold reachI; omega
theorem trB_iso (u : P2) (b : B4) : IsoB (trP u) b (trB u b) :=
  ⟨fun q => by unfold nearI trP trB; dsimp only; rw [gap_tr, gap_tr], fun q => by unfold mostI trP trB; dsimp only; rw [reach_tr, reach_tr], fun f => rfl⟩
theorem roB_iso {b : B4} (h : b.y0 ≤ b.y1) : IsoB roP b (roB b) :=
  ⟨fun q => by unfold nearI roP roB; dsimp only; rw [gap_neg h, Int.add_comm], fun q => by unfold mostI roP roB; dsimp only; rw [reach_neg, Int.add_comm], fun f => by
    unfold all4 roB roP; dsimp only
    cases f ⟨-b.y0, b.x0⟩ <;> cases f ⟨-b.y0, b.x1⟩ <;> cases f ⟨-b.y1, b.x0⟩ <;> cases f ⟨-b.y1, b.x1⟩ <;> rfl⟩
theorem mjB_iso {b : B4} (h : b.x0 ≤ b.x1) : IsoB mjP b (mjB b) :=
  ⟨fun q => by unfold nearI mjP mjB; dsimp only; rw [gap_neg h], fun q => by unfold mostI mjP mjB; dsimp only; rw [reach_neg], fun f => by
    unfold all4 mjB mjP; dsimp only
    cases f ⟨-b.x0, b.y0⟩ <;> cases f ⟨-b.x0, b.y1⟩ <;> cases f ⟨-b.x1, b.y0⟩ <;> cases f ⟨-b.x1, b.y1⟩ <;> rfl⟩
/-! ### wider rings -/
end Go.Proofs.Ytfooaikpcbnchaa

/-! ## Pov -/
namespace Go.Proofs.Ytfooaikpcbnchaa
open Go Go.RowKit Sym

/-! ### sums in any order -/
def accN (op : Bool → Bool → Bool) (f : Nat → Bool) : Nat → Bool
  | 0 => false
  | n + 1 => op (accN op f n) (f n)
structure ACM (op : Bool → Bool → Bool) : Prop where
  a : ∀ x y z, op (op x y) z = op x (op y z)
  c : ∀ x y, op x y = op y x
  z : ∀ x, op false x = x
theorem parN_acc (f : Nat → Bool) : ∀ n, parN f n = accN xor f n
  | 0 => rfl
  | n + 1 => by simp only [parN, accN, parN_acc f n]
theorem anyN_acc (f : Nat → Bool) : ∀ n, anyN f n = accN or f n
  | 0 => rfl
  | n + 1 => by simp only [anyN, accN, anyN_acc f n]
theorem accN_congr {op : Bool → Bool → Bool} {f g : Nat → Bool} : ∀ {n : Nat}, (∀ k, k < n → f k = g k) → accN op f n = accN op g n
  | 0, _ => rfl
  | n + 1, h => by simp only [accN]; rw [accN_congr fun k hk => h k (by omega), h n (by omega)]
/-- over the edges of contours -/
def accC (op : Bool → Bool → Bool) (f : P2 → P2 → Bool) (l : Ctr) : Bool := accN op (fun i => accN op (edgeC l f i) (l.m i)) l.n
theorem oddI_acc (p : P2) (l : Ctr) : oddI p l = accC xor (crossesI p) l := by
  unfold oddI accC
  rw [parN_acc]
  exact accN_congr fun i _ => parN_acc _ _
theorem touchI_acc (b : B4) (l : Ctr) : touchI b l = accC or (meetsI b) l := by
  unfold touchI accC
  rw [anyN_acc]
  exact accN_congr fun i _ => anyN_acc _ _
def mapC (T : P2 → P2) (l : Ctr) : Ctr := ⟨l.n, l.m, fun i k => T (l.p i k)⟩
theorem accC_map {op : Bool → Bool → Bool} {f g : P2 → P2 → Bool} {T : P2 → P2} {l : Ctr} (h : ∀ i, i < l.n → ∀ k, k < l.m i → ∀ j, j < l.m i → f (T (l.p i k)) (T (l.p i j)) = g (l.p i k) (l.p i j)) : accC op f (mapC T l) = accC op g l :=
  accN_congr fun i hi => accN_congr fun k hk => h i hi k hk _ (nxt_lt hk)
/-! ### moved, turned, mirrored: no wraps -/
def tmP (u p : P2) : P2 := ⟨p.x + u.x, p.y + u.y⟩
def tmvB (u : P2) (b : B4) : B4 := ⟨b.x0 + u.x, b.y0 + u.y, b.x1 + u.x, b.y1 + u.y⟩
def tqP (p : P2) : P2 := ⟨-p.y, p.x⟩
def tqB (b : B4) : B4 := ⟨-b.y1, b.x0, -b.y0, b.x1⟩
def txP (p : P2) : P2 := ⟨-p.x, p.y⟩
def txB (b : B4) : B4 := ⟨-b.x1, b.y0, -b.x0, b.y1⟩
theorem cross_tm (u a e c : P2) : crossI (tmP u a) (tmP u e) (tmP u c) = crossI a e c := by unfold crossI tmP; dsimp only; grind
theorem cross_tq (a e c : P2) : crossI (tqP a) (tqP e) (tqP c) = crossI a e c := by unfold crossI tqP; dsimp only; grind
theorem cross_tx (a e c : P2) : crossI (txP a) (txP e) (txP c) = -(crossI a e c) := by unfold crossI txP; dsimp only; grind
theorem all4_tm (f : P2 → Bool) (u : P2) (b : B4) : all4 f (tmvB u b) = all4 (fun c => f (tmP u c)) b := rfl
theorem all4_tq (f : P2 → Bool) (b : B4) : all4 f (tqB b) = all4 (fun c => f (tqP c)) b := by
  unfold all4 tqB tqP
  dsimp only
  cases f ⟨-b.y1, b.x0⟩ <;> cases f ⟨-b.y0, b.x0⟩ <;> cases f ⟨-b.y1, b.x1⟩ <;> cases f ⟨-b.y0, b.x1⟩ <;> rfl
theorem all4_tx (f : P2 → Bool) (b : B4) : all4 f (txB b) = all4 (fun c => f (txP c)) b := by
  unfold all4 txB txP
  dsimp only
  cases f ⟨-b.x1, b.y0⟩ <;> cases f ⟨-b.x0, b.y0⟩ <;> cases f ⟨-b.x1, b.y1⟩ <;> cases f ⟨-b.x0, b.y1⟩ <;> rfl
theorem sep_tm (u : P2) (b : B4) (a e : P2) : sepI (tmvB u b) (tmP u a) (tmP u e) = sepI b a e := by
  unfold sepI tmvB tmP; dsimp only
  rw [Bool.eq_iff_iff]; simp only [Bool.or_eq_true, decide_eq_true_eq]; omega
theorem sep_tq (b : B4) (a e : P2) : sepI (tqB b) (tqP a) (tqP e) = sepI b a e := by
  unfold sepI tqB tqP; dsimp only
  rw [Bool.eq_iff_iff]; simp only [Bool.or_eq_true, decide_eq_true_eq]; omega
theorem sep_tx (b : B4) (a e : P2) : sepI (txB b) (txP a) (txP e) = sepI b a e := by
  unfold sepI txB txP; dsimp only
  rw [Bool.eq_iff_iff]; simp only [Bool.or_eq_true, decide_eq_true_eq]; omega
theorem meets_tm (u : P2) (b : B4) (a e : P2) : meetsI (tmvB u b) (tmP u a) (tmP u e) = meetsI b a e := by
  unfold meetsI
  rw [sep_tm, all4_tm, all4_tm]
  simp only [cross_tm]
theorem meets_tq (b : B4) (a e : P2) : meetsI (tqB b) (tqP a) (tqP e) = meetsI b a e := by
  unfold meetsI
  rw [sep_tq, all4_tq, all4_tq]
  simp only [cross_tq]
theorem meets_tx (b : B4) (a e : P2) : meetsI (txB b) (txP a) (txP e) = meetsI b a e := by
  have e1 : ∀ x : Int, decide (-x > 0) = decide (x < 0) := fun x => decide_eq_decide.2 (by omega)
  have e2 : ∀ x : Int, decide (-x < 0) = decide (x > 0) := fun x => decide_eq_decide.2 (by omega)
  unfold meetsI
  rw [sep_tx, all4_tx, all4_tx]
  simp only [cross_tx, e1, e2]
  cases sepI b a e <;> cases all4 (fun c => decide (crossI a e c > 0)) b <;> cases all4 (fun c => decide (crossI a e c < 0)) b <;> rfl
theorem touch_tm (u : P2) (b : B4) (l : Ctr) : touchI (tmvB u b) (mapC (tmP u) l) = touchI b l := by
  rw [touchI_acc, touchI_acc]; exact accC_map fun i _ k _ j _ => meets_tm u b _ _
theorem touch_tq (b : B4) (l : Ctr) : touchI (tqB b) (mapC tqP l) = touchI b l := by
  rw [touchI_acc, touchI_acc]; exact accC_map fun i _ k _ j _ => meets_tq b _ _
theorem touch_tx (b : B4) (l : Ctr) : touchI (txB b) (mapC txP l) = touchI b l := by
  rw [touchI_acc, touchI_acc]; exact accC_map fun i _ k _ j _ => meets_tx b _ _
theorem crosses_tm (u p a e : P2) : crossesI (tmP u p) (tmP u a) (tmP u e) = crossesI p a e := by
  unfold crossesI
  rw [cross_tm]
  have h1 : ∀ x y z : Int, decide (x + z > y + z) = decide (x > y) := fun x y z => decide_eq_decide.2 (by omega)
  unfold tmP
  dsimp only
  rw [h1, h1]
  by_cases k : e.y > a.y
  · rw [if_pos k, if_pos (show e.y + u.y > a.y + u.y by omega)]
  · rw [if_neg k, if_neg (show ¬ e.y + u.y > a.y + u.y by omega)]
theorem odd_tm (u p : P2) (l : Ctr) : oddI (tmP u p) (mapC (tmP u) l) = oddI p l := by
  rw [oddI_acc, oddI_acc]; exact accC_map fun i _ k _ j _ => crosses_tm u p _ _
/-! ### the ray to another side -/
theorem crossI_up {p a e : P2} (h : a.y ≤ e.y) : crossesI p a e = decide (a.y ≤ p.y ∧ p.y < e.y ∧ 0 < crossI a e p) := by
  rw [Bool.eq_iff_iff, decide_eq_true_eq]; exact crosses_up h
/-- not on the edge, where the edge passes the point's height -/
theorem off_y {p a e : P2} (ho : onI p a e = false) (h1 : a.y ≤ p.y) (h2 : p.y ≤ e.y) (h : a.y < e.y) : crossI a e p ≠ 0 := by
  intro h0
  unfold onI at ho
  rw [decide_eq_false_iff_not] at ho
  apply ho
  have key : (e.x - a.x) * (p.y - a.y) = (p.x - a.x) * (e.y - a.y) := by unfold crossI at h0; grind
  have d0 : 0 ≤ p.y - a.y := by omega
  have d1 : 0 ≤ e.y - p.y := by omega
  have d2 : 0 < e.y - a.y := by omega
  have key2 : (e.x - a.x) * (e.y - p.y) = (e.x - p.x) * (e.y - a.y) := by grind
  refine ⟨?_, ?_, by omega, by omega, h0⟩
  · rcases Int.le_total a.x e.x with g | g
    · have := Int.mul_nonneg (show 0 ≤ e.x - a.x by omega) d0
      rcases (show a.x ≤ p.x ∨ p.x < a.x by omega) with k | k
      · omega
      · have := Int.mul_pos (show 0 < a.x - p.x by omega) d2
        have e : (p.x - a.x) * (e.y - a.y) = -((a.x - p.x) * (e.y - a.y)) := by grind
        omega
    · have := Int.mul_nonneg (show 0 ≤ a.x - e.x by omega) d1
      have e1 : (e.x - a.x) * (e.y - p.y) = -((a.x - e.x) * (e.y - p.y)) := by grind
      rcases (show e.x ≤ p.x ∨ p.x < e.x by omega) with k | k
      · omega
      · have := Int.mul_pos (show 0 < e.x - p.x by omega) d2
        omega
  · rcases Int.le_total a.x e.x with g | g
    · have := Int.mul_nonneg (show 0 ≤ e.x - a.x by omega) d1
      rcases (show p.x ≤ e.x ∨ e.x < p.x by omega) with k | k
      · omega
      · have := Int.mul_pos (show 0 < p.x - e.x by omega) d2
        have e : (e.x - p.x) * (e.y - a.y) = -((p.x - e.x) * (e.y - a.y)) := by grind
        omega
    · have := Int.mul_nonneg (show 0 ≤ a.x - e.x by omega) d0
      have e1 : (e.x - a.x) * (p.y - a.y) = -((a.x - e.x) * (p.y - a.y)) := by grind
      rcases (show p.x ≤ a.x ∨ a.x < p.x by omega) with k | k
      · omega
      · have := Int.mul_pos (show 0 < p.x - a.x by omega) d2
        omega
theorem onI_swp (p a e : P2) : onI p e a = onI p a e := by
  have h : crossI e a p = -(crossI a e p) := by unfold crossI; grind
  unfold onI
  rw [h, decide_eq_decide]; omega
/-- mirrored: the ray goes to the left -/
theorem mirror_ray {p a e : P2} (ho : onI p a e = false) : xor (crossesI p a e) (crossesI (txP p) (txP a) (txP e)) = xor (decide (a.y > p.y)) (decide (e.y > p.y)) := by
  have one : ∀ {a e : P2}, a.y ≤ e.y → onI p a e = false → xor (crossesI p a e) (crossesI (txP p) (txP a) (txP e)) = xor (decide (a.y > p.y)) (decide (e.y > p.y)) := by
    intro a e h ho
    rw [crossI_up h, crossI_up (p := txP p) (a := txP a) (e := txP e) h, cross_tx, xor_dc, xor_dc, decide_eq_decide]
    show _ ↔ _
    unfold txP
    dsimp only
    by_cases k : a.y ≤ p.y ∧ p.y < e.y
    · have := off_y ho k.1 (by omega) (by omega)
      omega
    · omega
  rcases Int.le_total a.y e.y with h | h
  · exact one h ho
  · rw [← onI_swp] at ho
    rw [← crossesI_swp p, ← crossesI_swp (txP p), one h ho, Bool.xor_comm]
/-- turned: the ray goes down -/
theorem turn_ray {p a e : P2} (ho : onI p a e = false) : xor (crossesI p a e) (crossesI (tqP p) (tqP a) (tqP e)) = xor (decide (a.x > p.x ∧ a.y ≤ p.y)) (decide (e.x > p.x ∧ e.y ≤ p.y)) := by
  have one : ∀ {a e : P2}, a.y ≤ e.y → onI p a e = false → xor (crossesI p a e) (crossesI (tqP p) (tqP a) (tqP e)) = xor (decide (a.x > p.x ∧ a.y ≤ p.y)) (decide (e.x > p.x ∧ e.y ≤ p.y)) := by
    intro a e h ho
    have G : crossI a e p = (e.x - a.x) * (p.y - a.y) - (e.y - a.y) * (p.x - a.x) := rfl
    have G2 : crossI a e p = (e.x - a.x) * (p.y - e.y) - (e.y - a.y) * (p.x - e.x) := by unfold crossI; grind
    -- what the places say
    have y0 : p.y < a.y ∨ (a.y ≤ p.y ∧ p.y < e.y) ∨ e.y ≤ p.y := by omega
    rw [crossI_up h]
    rcases Int.le_total a.x e.x with g | g
    · rw [crossI_up (p := tqP p) (a := tqP a) (e := tqP e) g, cross_tq]
      unfold tqP
      dsimp only
      rw [xor_dc, xor_dc, decide_eq_decide]
      have t1 := Int.mul_nonneg (show 0 ≤ e.x - a.x by omega) (show 0 ≤ e.y - a.y by omega)
      rcases (show p.x < a.x ∨ (a.x ≤ p.x ∧ p.x < e.x) ∨ e.x ≤ p.x by omega) with k | k | k
      · -- all of it right
        by_cases z : a.y ≤ p.y ∧ p.y < e.y
        · have := left_of (a := a) (e := e) (p := p) z.1 (by omega) (by omega) k (by omega); omega
        · omega
      · rcases y0 with z | z | z
        · -- above
          have u1 := Int.mul_nonneg (show 0 ≤ e.x - a.x by omega) (show 0 ≤ a.y - p.y by omega)
          have u2 := Int.mul_nonneg (show 0 ≤ e.y - a.y by omega) (show 0 ≤ p.x - a.x by omega)
          have u3 : (e.x - a.x) * (p.y - a.y) = -((e.x - a.x) * (a.y - p.y)) := by grind
          omega
        · have := off_y ho z.1 (by omega) (by omega); omega
        · -- below
          have u1 := Int.mul_nonneg (show 0 ≤ e.x - a.x by omega) (show 0 ≤ p.y - e.y by omega)
          have u2 := Int.mul_nonneg (show 0 ≤ e.y - a.y by omega) (show 0 ≤ e.x - p.x by omega)
          have u3 : (e.y - a.y) * (p.x - e.x) = -((e.y - a.y) * (e.x - p.x)) := by grind
          have nz : crossI a e p ≠ 0 := by
            intro h0
            have f := off_y (p := tqP p) (a := tqP a) (e := tqP e) (by
              unfold onI at ho ⊢
              rw [decide_eq_false_iff_not] at ho ⊢
              rw [cross_tq]
              unfold tqP
              dsimp only
              omega) (show a.x ≤ p.x by omega) (show p.x ≤ e.x by omega) (show a.x < e.x by omega)
            rw [cross_tq] at f; exact f h0
          omega
      · by_cases z : a.y ≤ p.y ∧ p.y < e.y
        · have := right_of (a := a) (e := e) (p := p) z.1 (by omega) (by omega) k; omega
        · omega
    · rw [← crossesI_swp (tqP p), crossI_up (p := tqP p) (a := tqP e) (e := tqP a) g, cross_tq]
      have s : crossI e a p = -(crossI a e p) := by unfold crossI; grind
      rw [s]
      unfold tqP
      dsimp only
      rw [xor_dc, xor_dc, decide_eq_decide]
      rcases (show p.x < e.x ∨ (e.x ≤ p.x ∧ p.x < a.x) ∨ a.x ≤ p.x by omega) with k | k | k
      · by_cases z : a.y ≤ p.y ∧ p.y < e.y
        · have := left_of (a := a) (e := e) (p := p) z.1 (by omega) (by omega) (by omega) k; omega
        · omega
      · rcases y0 with z | z | z
        · have u1 := Int.mul_nonneg (show 0 ≤ a.x - e.x by omega) (show 0 ≤ a.y - p.y by omega)
          have u2 := Int.mul_nonneg (show 0 ≤ e.y - a.y by omega) (show 0 ≤ a.x - p.x by omega)
          have u3 : (e.x - a.x) * (p.y - a.y) = (a.x - e.x) * (a.y - p.y) := by grind
          have u4 : (e.y - a.y) * (p.x - a.x) = -((e.y - a.y) * (a.x - p.x)) := by grind
          omega
        · have := off_y ho z.1 (by omega) (by omega); omega
        · have u1 := Int.mul_nonneg (show 0 ≤ a.x - e.x by omega) (show 0 ≤ p.y - e.y by omega)
          have u2 := Int.mul_nonneg (show 0 ≤ e.y - a.y by omega) (show 0 ≤ p.x - e.x by omega)
          have u3 : (e.x - a.x) * (p.y - e.y) = -((a.x - e.x) * (p.y - e.y)) := by grind
          have nz : crossI a e p ≠ 0 := by
            intro h0
            have f := off_y (p := tqP p) (a := tqP e) (e := tqP a) (by
              rw [onI_swp]
              unfold onI at ho ⊢
              rw [decide_eq_false_iff_not] at ho ⊢
              rw [cross_tq]
              unfold tqP
              dsimp only
              omega) (show e.x ≤ p.x by omega) (show p.x ≤ a.x by omega) (show e.x < a.x by omega)
            rw [cross_tq, s] at f; omega
          omega
      · by_cases z : a.y ≤ p.y ∧ p.y < e.y
        · have := right_of (a := a) (e := e) (p := p) z.1 (by omega) k (by omega); omega
        · omega
  rcases Int.le_total a.y e.y with h | h
  · exact one h ho
  · rw [← onI_swp] at ho
    rw [← crossesI_swp p, ← crossesI_swp (tqP p), one h ho, Bool.xor_comm]
theorem spot_off {l : Ctr} {p : P2} (h : touchI (spotB p) l = false) : ∀ i, i < l.n → ∀ k, k < l.m i → onI p (l.p i k) (l.p i (nxt (l.m i) k)) = false := fun i hi k hk => by
  rw [← spot_meets]; exact touchI_no h i hi k hk
theorem odd_ray {l l' : Ctr} {p p' : P2} (R : P2 → Bool) (T : P2 → P2) (hl : l' = mapC T l) (h : touchI (spotB p) l = false) (hr : ∀ a e, onI p a e = false → xor (crossesI p a e) (crossesI p' (T a) (T e)) = xor (R a) (R e)) : oddI p' l' = oddI p l := by
  subst hl
  have e : xor (oddI p l) (oddI p' (mapC T l)) = false := by
    have h2 : oddI p' (mapC T l) = parN (fun i => parN (fun k => crossesI p' (T (l.p i k)) (T (l.p i (nxt (l.m i) k)))) (l.m i)) l.n := rfl
    rw [h2]
    unfold oddI
    rw [parN_xor, parN_congr (g := fun _ => false) fun i hi => ?_, parN_false]
    rw [parN_xor, parN_congr (f := fun k => xor (edgeC l (crossesI p) i k) (crossesI p' (T (l.p i k)) (T (l.p i (nxt (l.m i) k))))) (g := fun k => xor (R (l.p i k)) (R (l.p i (nxt (l.m i) k)))) fun k hk => hr _ _ (spot_off h i hi k hk)]
    exact par_round (fun k => R (l.p i k)) (l.m i)
  revert e
  cases oddI p l <;> cases oddI p' (mapC T l) <;> simp
theorem odd_tx {l : Ctr} {p : P2} (h : touchI (spotB p) l = false) : oddI (txP p) (mapC txP l) = oddI p l := odd_ray (fun w => decide (w.y > p.y)) txP rfl h fun _ _ => mirror_ray
theorem odd_tq {l : Ctr} {p : P2} (h : touchI (spotB p) l = false) : oddI (tqP p) (mapC tqP l) = oddI p l := odd_ray (fun w => decide (w.x > p.x ∧ w.y ≤ p.y)) tqP rfl h fun _ _ => turn_ray
/-! ### Has and Class, without wraps -/
def hasC (p : P2) (l : Ctr) : Bool := touchI (spotB p) l || oddI p l
def clsC (b : B4) (l : Ctr) : Int := if touchI b l = true then 1 else if oddI ⟨b.x0, b.y0⟩ l = true then 2 else 0
theorem hasC_tm (u p : P2) (l : Ctr) : hasC (tmP u p) (mapC (tmP u) l) = hasC p l := by
  unfold hasC
  rw [show spotB (tmP u p) = tmvB u (spotB p) from rfl, touch_tm, odd_tm]
theorem hasC_tq (p : P2) (l : Ctr) : hasC (tqP p) (mapC tqP l) = hasC p l := by
  unfold hasC
  rw [show spotB (tqP p) = tqB (spotB p) from rfl, touch_tq]
  cases h : touchI (spotB p) l with
  | true => rfl
  | false => rw [odd_tq h]
theorem hasC_tx (p : P2) (l : Ctr) : hasC (txP p) (mapC txP l) = hasC p l := by
  unfold hasC
  rw [show spotB (txP p) = txB (spotB p) from rfl, touch_tx]
  cases h : touchI (spotB p) l with
  | true => rfl
  | false => rw [odd_tx h]
theorem clsC_tm (u : P2) (b : B4) (l : Ctr) : clsC (tmvB u b) (mapC (tmP u) l) = clsC b l := by
  unfold clsC
  rw [touch_tm, show (⟨(tmvB u b).x0, (tmvB u b).y0⟩ : P2) = tmP u ⟨b.x0, b.y0⟩ from rfl, odd_tm]
theorem clsC_tq {b : B4} (hx : b.x0 ≤ b.x1) (hy : b.y0 ≤ b.y1) (l : Ctr) : clsC (tqB b) (mapC tqP l) = clsC b l := by
  unfold clsC
  rw [touch_tq]
  cases h : touchI b l with
  | true => rfl
  | false =>
    have h1 : hasI b ⟨b.x0, b.y1⟩ := ⟨Int.le_refl _, hx, hy, Int.le_refl _⟩
    rw [show (⟨(tqB b).x0, (tqB b).y0⟩ : P2) = tqP ⟨b.x0, b.y1⟩ from rfl, odd_tq (touch_spot h h1), odd_box h h1 (q := ⟨b.x0, b.y0⟩) ⟨Int.le_refl _, hx, Int.le_refl _, hy⟩]
theorem clsC_tx {b : B4} (hx : b.x0 ≤ b.x1) (hy : b.y0 ≤ b.y1) (l : Ctr) : clsC (txB b) (mapC txP l) = clsC b l := by
  unfold clsC
  rw [touch_tx]
  cases h : touchI b l with
  | true => rfl
  | false =>
    have h1 : hasI b ⟨b.x1, b.y0⟩ := ⟨hx, Int.le_refl _, Int.le_refl _, hy⟩
    rw [show (⟨(txB b).x0, (txB b).y0⟩ : P2) = txP ⟨b.x1, b.y0⟩ from rfl, odd_tx (touch_spot h h1), odd_box h h1 (q := ⟨b.x0, b.y0⟩) ⟨Int.le_refl _, hx, Int.le_refl _, hy⟩]
theorem clsC_eq {b : B4} {l : Ctr} (hb : BR b) (hx : b.x0 ≤ b.x1) (hy : b.y0 ≤ b.y1) (hl : PRC l) : polyClassF b l = clsC b l := by
  have hC : hasI b ⟨b.x0, b.y0⟩ := ⟨Int.le_refl _, hx, Int.le_refl _, hy⟩
  unfold polyClassF clsC
  rw [touchF_eq hb hx hy hl, oddF_eq ⟨hb.x0, hb.y0⟩ hl, (boxHas_eq b ⟨b.x0, b.y0⟩).2 hC]
  cases touchI b l <;> cases oddI ⟨b.x0, b.y0⟩ l <;> rfl
theorem hasC_eq {p : P2} {l : Ctr} (hp : PR p) (hl : PRC l) : polyHasF p l = hasC p l := by
  unfold polyHasF hasC
  rw [orB_eq, touchF_eq (b := spotF p) ⟨hp.x, hp.y, hp.x, hp.y⟩ (Int.le_refl _) (Int.le_refl _) hl, oddF_eq hp hl]
  rfl
end Go.Proofs.Ytfooaikpcbnchaa

/-! ## Tuf -/
namespace Go.Proofs.Ytfooaikpcbnchaa
open Go Go.RowKit Sym
set_option maxRecDepth 100000

end Go.Proofs.Ytfooaikpcbnchaa

/-! ## Fir -/
namespace Go.Proofs.Ytfooaikpcbnchaa
open Go Go.RowKit Sym
set_option maxRecDepth 100000

/-- a box mirrored, turned by k quarters, moved -/
def rtB (m : Bool) (k : Int) (u : P2) (b : B4) : B4 :=
  let xl := bif m then -b.x1 else b.x0
  let xh := bif m then -b.x0 else b.x1
  ⟨(bif k == 1 then -b.y1 else bif k == 2 then -xh else bif k == 3 then b.y0 else xl) + u.x, (bif k == 1 then xl else bif k == 2 then -b.y1 else bif k == 3 then -xh else b.y0) + u.y,
   (bif k == 1 then -b.y0 else bif k == 2 then -xl else bif k == 3 then b.y1 else xh) + u.x, (bif k == 1 then xh else bif k == 2 then -b.y0 else bif k == 3 then -xl else b.y1) + u.y⟩
theorem B4x {a b : B4} (h0 : a.x0 = b.x0) (h1 : a.y0 = b.y0) (h2 : a.x1 = b.x1) (h3 : a.y1 = b.y1) : a = b := by
  obtain ⟨a0, a1, a2, a3⟩ := a
  obtain ⟨b0, b1, b2, b3⟩ := b
  cases h0; cases h1; cases h2; cases h3; rfl
theorem dist_80 {p q : P2} (hp : PB 40 p) (hq : PB 40 q) : distI p q ≤ 114 * 114 := by
  have sx := sq_bd (A := 80) (x := p.x - q.x) (by have := hp.1; have := hq.1; omega) (by have := hp.1; have := hq.1; omega)
  have sy := sq_bd (A := 80) (x := p.y - q.y) (by have := hp.2; have := hq.2; omega) (by have := hp.2; have := hq.2; omega)
  unfold distI; omega
end Go.Proofs.Ytfooaikpcbnchaa

/-! ## Tum -/
namespace Go.Proofs.Ytfooaikpcbnchaa
open Go Go.RowKit Sym
set_option maxRecDepth 100000

/-- a move of the plane that keeps all that shapes are made of; m: it mirrors -/
structure Mv (T : P2 → P2) (G : B4 → B4) (m : Bool) : Prop where
  i : Iso T
  dt : ∀ o a b, dotI (T o) (T a) (T b) = dotI o a b
  cr : ∀ o a b, crossI (T o) (T a) (T b) = bif m then crossI o b a else crossI o a b
  me : ∀ b a e, meetsI (G b) (T a) (T e) = meetsI b a e
  ord : ∀ b : B4, b.x0 ≤ b.x1 → b.y0 ≤ b.y1 → (G b).x0 ≤ (G b).x1 ∧ (G b).y0 ≤ (G b).y1
  bx : ∀ b : B4, b.x0 ≤ b.x1 → b.y0 ≤ b.y1 → IsoB T b (G b)
  hc : ∀ p l, hasC (T p) (mapC T l) = hasC p l
  cc : ∀ (b : B4) l, b.x0 ≤ b.x1 → b.y0 ≤ b.y1 → clsC (G b) (mapC T l) = clsC b l
theorem Mv.comp {T T' : P2 → P2} {G G' : B4 → B4} {m m' : Bool} (h : Mv T G m) (k : Mv T' G' m') : Mv (fun p => T' (T p)) (fun b => G' (G b)) (m != m') where
  i := ⟨fun p q => by rw [k.i.d, h.i.d], fun p q => (k.i.s _ _).trans (h.i.s _ _)⟩
  dt := fun o a b => by rw [k.dt, h.dt]
  cr := fun o a b => by cases m <;> cases m' <;> rw [k.cr, h.cr] <;> simp only [cond_true, cond_false] <;> first | rfl | (rw [h.cr]; rfl)
  me := fun b a e => by rw [k.me, h.me]
  ord := fun b hx hy => k.ord _ (h.ord b hx hy).1 (h.ord b hx hy).2
  bx := fun b hx hy => by
    have a := h.bx b hx hy
    have c := k.bx (G b) (h.ord b hx hy).1 (h.ord b hx hy).2
    exact ⟨fun q => by rw [c.n, a.n], fun q => by rw [c.m, a.m], fun f => by rw [c.f, a.f]⟩
  hc := fun p l => (k.hc (T p) (mapC T l)).trans (h.hc p l)
  cc := fun b l hx hy => (k.cc (G b) (mapC T l) (h.ord b hx hy).1 (h.ord b hx hy).2).trans (h.cc b l hx hy)
theorem mv_id : Mv (fun p => p) (fun b => b) false where
  i := ⟨fun _ _ => rfl, fun _ _ => Iff.rfl⟩
  dt := fun _ _ _ => rfl
  cr := fun _ _ _ => rfl
  me := fun _ _ _ => rfl
  ord := fun _ hx hy => ⟨hx, hy⟩
  bx := fun _ _ _ => ⟨fun _ => rfl, fun _ => rfl, fun _ => rfl⟩
  hc := fun _ _ => rfl
  cc := fun _ _ _ _ => rfl
theorem mv_tr (u : P2) : Mv (trP u) (trB u) false where
  i := trP_iso u
  dt := fun o a b => by unfold dotI trP; dsimp only; grind
  cr := fun o a b => trP_cross u o a b
  me := fun b a e => meets_tm u b a e
  ord := fun b hx hy => ⟨by show b.x0 + u.x ≤ b.x1 + u.x; omega, by show b.y0 + u.y ≤ b.y1 + u.y; omega⟩
  bx := fun b _ _ => trB_iso u b
  hc := fun p l => hasC_tm u p l
  cc := fun b l _ _ => clsC_tm u b l
theorem mv_ro : Mv roP roB false where
  i := roP_iso
  dt := fun o a b => by unfold dotI roP; dsimp only; grind
  cr := fun o a b => roP_cross o a b
  me := fun b a e => meets_tq b a e
  ord := fun b hx hy => ⟨by show -b.y1 ≤ -b.y0; omega, hx⟩
  bx := fun b _ hy => roB_iso hy
  hc := fun p l => hasC_tq p l
  cc := fun b l hx hy => clsC_tq hx hy l
theorem mv_mj : Mv mjP mjB true where
  i := mjP_iso
  dt := fun o a b => by unfold dotI mjP; dsimp only; grind
  cr := fun o a b => mjP_cross o a b
  me := fun b a e => meets_tx b a e
  ord := fun b hx hy => ⟨by show -b.x1 ≤ -b.x0; omega, hy⟩
  bx := fun b hx _ => mjB_iso hx
  hc := fun p l => hasC_tx p l
  cc := fun b l hx hy => clsC_tx hx hy l
/-- mirrored, turned by quarters, moved -/
def rtT (m : Bool) (k : Int) (u : P2) (p : P2) : P2 := ⟨(rt m k p).x + u.x, (rt m k p).y + u.y⟩
theorem mv_of {T T' : P2 → P2} {G G' : B4 → B4} {m m' : Bool} (h : Mv T G m) (e : T = T') (e' : G = G') (e2 : m = m') : Mv T' G' m' := by subst e; subst e'; subst e2; exact h
theorem mv_rt (m : Bool) {k : Int} (hk : Q4 k) (u : P2) : Mv (rtT m k u) (rtB m k u) m := by
  have h0 : Mv (fun p => bif m then mjP p else p) (fun b => bif m then mjB b else b) m := by
    cases m
    · exact mv_id
    · exact mv_mj
  rcases hk with rfl | rfl | rfl | rfl
  · refine mv_of (h0.comp (mv_tr u)) (funext fun p => ?_) (funext fun b => ?_) (by cases m <;> rfl)
    · cases m <;> refine P2.ext' ?_ ?_ <;> simp [rtT, rt, trP, mjP]
    · cases m <;> refine B4x ?_ ?_ ?_ ?_ <;> simp [rtB, trB, mjB]
  · refine mv_of ((h0.comp mv_ro).comp (mv_tr u)) (funext fun p => ?_) (funext fun b => ?_) (by cases m <;> rfl)
    · cases m <;> refine P2.ext' ?_ ?_ <;> simp [rtT, rt, trP, mjP, roP]
    · cases m <;> refine B4x ?_ ?_ ?_ ?_ <;> simp [rtB, trB, mjB, roB]
  · refine mv_of (((h0.comp mv_ro).comp mv_ro).comp (mv_tr u)) (funext fun p => ?_) (funext fun b => ?_) (by cases m <;> rfl)
    · cases m <;> refine P2.ext' ?_ ?_ <;> simp [rtT, rt, trP, mjP, roP]
    · cases m <;> refine B4x ?_ ?_ ?_ ?_ <;> simp [rtB, trB, mjB, roB]
  · refine mv_of ((((h0.comp mv_ro).comp mv_ro).comp mv_ro).comp (mv_tr u)) (funext fun p => ?_) (funext fun b => ?_) (by cases m <;> rfl)
    · cases m <;> refine P2.ext' ?_ ?_ <;> simp [rtT, rt, trP, mjP, roP]
    · cases m <;> refine B4x ?_ ?_ ?_ ?_ <;> simp [rtB, trB, mjB, roB]
/-! ### leaves -/
theorem crs_sw (o a b : P2) : crossI o b a = -crossI o a b := by unfold crossI; grind
theorem clear_mv {T : P2 → P2} {G : B4 → B4} {m : Bool} (h : Mv T G m) (p a c : P2) (r : Int) : clear (T p) (T a) (T c) r = clear p a c r := by
  unfold clear
  rw [h.i.d, h.cr]
  cases m
  · rfl
  · show decide (crossI a p c * crossI a p c ≤ _) = _
    rw [crs_sw a c p, Int.neg_mul_neg]
theorem lineI_mv {T : P2 → P2} {G : B4 → B4} {m : Bool} (h : Mv T G m) (p a c : P2) (r : Int) : lineI (T p) (T a) (T c) r = lineI p a c r := by
  unfold lineI
  rw [clear_mv h, h.dt, h.i.d, h.i.d, h.i.d]
theorem any4_mv {T : P2 → P2} {b b' : B4} (h : IsoB T b b') (f : P2 → Bool) : any4 f b' = any4 (fun q => f (T q)) b := by
  have e := h.f fun q => !(f q)
  rw [← not_any, ← not_any] at e
  revert e
  cases any4 f b' <;> cases any4 (fun q => f (T q)) b <;> simp
theorem lineCl_mv {T : P2 → P2} {G : B4 → B4} {m : Bool} (h : Mv T G m) {b : B4} (hx : b.x0 ≤ b.x1) (hy : b.y0 ≤ b.y1) (a c : P2) (r : Int) : lineCl (G b) (T a) (T c) r = lineCl b a c r := by
  have k := h.bx b hx hy
  unfold lineCl
  rw [k.f, any4_mv k, k.n, k.n, h.me]
  simp only [lineI_mv h]
theorem barI_mv {T : P2 → P2} {G : B4 → B4} {m : Bool} (h : Mv T G m) (p a c : P2) (r : Int) : barI (T p) (T a) (T c) r = barI p a c r := by
  unfold barI
  rw [clear_mv h, h.dt, h.i.d, decide_eq_decide.2 (h.i.s a c)]
theorem clear_off {p a c : P2} {r : Int} (h : clear p a c r = false) : crossI a c p ≠ 0 := by
  intro e
  unfold clear at h
  rw [e] at h
  have k := Int.mul_nonneg (sq_nn r) (dist_nn a c)
  rw [decide_eq_false_iff_not] at h
  exact h (by simpa using k)
theorem neg_pos {x : Int} (h : x ≠ 0) : decide (-x > 0) = !(decide (x > 0)) := by
  by_cases k : x > 0
  · rw [decide_eq_true k, decide_eq_false (show ¬ -x > 0 by omega)]; rfl
  · rw [decide_eq_false k, decide_eq_true (show -x > 0 by omega)]; rfl
theorem left_mv {T : P2 → P2} {G : B4 → B4} {m : Bool} (h : Mv T G m) (a c : P2) (r : Int) : (fun q => leftI (T a) (T c) r (T q)) = (bif m then rightI a c r else leftI a c r) ∧ (fun q => rightI (T a) (T c) r (T q)) = (bif m then leftI a c r else rightI a c r) := by
  cases m
  · exact ⟨funext fun q => by show leftI _ _ r _ = leftI a c r q; unfold leftI; rw [clear_mv h, h.cr]; rfl, funext fun q => by show rightI _ _ r _ = rightI a c r q; unfold rightI; rw [clear_mv h, h.cr]; rfl⟩
  · refine ⟨funext fun q => ?_, funext fun q => ?_⟩
    · show leftI _ _ r _ = rightI a c r q
      unfold leftI rightI; rw [clear_mv h, h.cr]
      show (!(clear q a c r) && decide (crossI a q c > 0)) = _
      rw [crs_sw a c q]
      cases e : clear q a c r
      · rw [neg_pos (clear_off e)]
      · rfl
    · show rightI _ _ r _ = leftI a c r q
      unfold leftI rightI; rw [clear_mv h, h.cr]
      show (!(clear q a c r) && !(decide (crossI a q c > 0))) = _
      rw [crs_sw a c q]
      cases e : clear q a c r
      · rw [neg_pos (clear_off e)]
        cases decide (crossI a c q > 0) <;> rfl
      · rfl
theorem barCl_M {T : P2 → P2} {G : B4 → B4} {m : Bool} (h : Mv T G m) {b : B4} (hx : b.x0 ≤ b.x1) (hy : b.y0 ≤ b.y1) (a c : P2) (r : Int) : barCl (G b) (T a) (T c) r = barCl b a c r := by
  have k := h.bx b hx hy
  have e := left_mv h a c r
  unfold barCl
  simp only [h.i.s]
  rw [k.f, k.f, k.f, k.f, k.f, e.1, e.2, h.i.d]
  simp only [barI_mv h, h.dt]
  cases m
  · rfl
  · show (if _ then _ else if _ then _ else if (all4 (leftI a c r) b || all4 (rightI a c r) b || _ || _) = true then _ else _) = _
    rw [Bool.or_comm (all4 (leftI a c r) b)]
theorem ringI_mv {T : P2 → P2} {G : B4 → B4} {m : Bool} (h : Mv T G m) {p c a e : P2} {r : Int} (ok : okI c a e) : ringI (T p) (T c) (bif m then T e else T a) (bif m then T a else T e) r = ringI p c a e r := by
  cases m
  · exact ringI_iso h.i (fun o a b => h.cr o a b) p c a e r
  · exact ringI_mir h.i (fun o a b => h.cr o a b) ok.2
theorem ringCl_mv {T : P2 → P2} {G : B4 → B4} {m : Bool} (h : Mv T G m) {b : B4} (hx : b.x0 ≤ b.x1) (hy : b.y0 ≤ b.y1) {c a e : P2} {r : Int} (ok : okI c a e) : ringCl (G b) (T c) (bif m then T e else T a) (bif m then T a else T e) r = ringCl b c a e r := by
  cases m
  · exact ringCl_iso h.i (h.bx b hx hy) (fun o a b => h.cr o a b) c a e r
  · exact ringCl_mir h.i (h.bx b hx hy) (fun o a b => h.cr o a b) ok.2
theorem mapC_touch {T T' : P2 → P2} {l : Ctr} (h : ∀ i, i < l.n → ∀ k, k < l.m i → T (l.p i k) = T' (l.p i k)) (b : B4) : touchI b (mapC T l) = touchI b (mapC T' l) := by
  rw [touchI_acc, touchI_acc, accC_map (g := fun a e => meetsI b (T' a) (T' e)) (T := T) fun i hi k hk j hj => by rw [h i hi k hk, h i hi j hj]]
  exact (accC_map fun i hi k hk j hj => rfl).symm
theorem mapC_odd {T T' : P2 → P2} {l : Ctr} (h : ∀ i, i < l.n → ∀ k, k < l.m i → T (l.p i k) = T' (l.p i k)) (p : P2) : oddI p (mapC T l) = oddI p (mapC T' l) := by
  rw [oddI_acc, oddI_acc, accC_map (g := fun a e => crossesI p (T' a) (T' e)) (T := T) fun i hi k hk j hj => by rw [h i hi k hk, h i hi j hj]]
  exact (accC_map fun i hi k hk j hj => rfl).symm
theorem hasC_cong {T T' : P2 → P2} {l : Ctr} (h : ∀ i, i < l.n → ∀ k, k < l.m i → T (l.p i k) = T' (l.p i k)) (p : P2) : hasC p (mapC T l) = hasC p (mapC T' l) := by
  unfold hasC; rw [mapC_touch h, mapC_odd h]
theorem clsC_cong {T T' : P2 → P2} {l : Ctr} (h : ∀ i, i < l.n → ∀ k, k < l.m i → T (l.p i k) = T' (l.p i k)) (b : B4) : clsC b (mapC T l) = clsC b (mapC T' l) := by
  unfold clsC; rw [mapC_touch h, mapC_odd h]
end Go.Proofs.Ytfooaikpcbnchaa

/-! ## Tun -/
namespace Go.Proofs.Ytfooaikpcbnchaa
open Go Go.RowKit Sym
set_option maxRecDepth 100000

theorem foldN_cong {α : Type} {f g : Nat → α → α} {a : α} : ∀ n, (∀ i, i < n → ∀ x, f i x = g i x) → foldN f a n = foldN g a n
  | 0, _ => rfl
  | n + 1, h => by
    show f n (foldN f a n) = g n (foldN g a n)
    rw [foldN_cong n fun i hi => h i (by omega), h n (by omega)]
def tT (t : Tn) : P2 → P2 := rtT (plX t) (plQ t) t.u
def tB (t : Tn) : B4 → B4 := rtB (plX t) (plQ t) t.u
theorem tMv (t : Tn) : Mv (tT t) (tB t) (plX t) := mv_rt (plX t) (plQ_Q4 t) t.u
theorem turn_tT {t : Tn} (g : PB 400000000 t.u) {p : P2} (h : PB 40 p) : turnPtF p t = tT t p := turnPt_rt (PB_mono h (by decide)) (PB_mono g (by decide))
theorem tT_PB {t : Tn} (g : PB 400000000 t.u) {p : P2} (h : PB 40 p) : PB 400000040 (tT t p) := by
  rw [← turn_tT g h]; exact PB_mono (turn_PB h g (by decide) (by decide)) (by decide)
theorem PB_R' {B : Int} (b : B ≤ 536870912) {p : P2} (h : PB B p) : PR p := near_PR (PB_near b h)
theorem dist_40 {p q : P2} (hp : PB 40 p) (hq : PB 40 q) : distI p q ≤ 4000000000000000000 := by have := dist_80 hp hq; omega
/-- a box near the middle -/
structure B40 (b : B4) : Prop where
  x0 : -40 ≤ b.x0
  x : b.x0 ≤ b.x1
  x1 : b.x1 ≤ 40
  y0 : -40 ≤ b.y0
  y : b.y0 ≤ b.y1
  y1 : b.y1 ≤ 40
theorem B40.R {b : B4} (h : B40 b) : BR b := by
  obtain ⟨h1, h2, h3, h4, h5, h6⟩ := h
  exact ⟨⟨by omega, by omega⟩, ⟨by omega, by omega⟩, ⟨by omega, by omega⟩, ⟨by omega, by omega⟩⟩
theorem tB_R {t : Tn} (g : PB 400000000 t.u) {b : B4} (h : B40 b) : BR (tB t b) := by
  obtain ⟨h1, h2, h3, h4, h5, h6⟩ := h
  obtain ⟨⟨g1, g2⟩, g3, g4⟩ := g
  unfold tB rtB
  rcases plQ_Q4 t with e | e | e | e <;> rw [e] <;> cases plX t <;> refine ⟨⟨?_, ?_⟩, ⟨?_, ?_⟩, ⟨?_, ?_⟩, ⟨?_, ?_⟩⟩ <;> simp <;> omega
theorem most_40 {b : B4} (h : B40 b) {c : P2} (hc : PB 40 c) : mostI b c ≤ 4000000000000000000 := by
  obtain ⟨h1, h2, h3, h4, h5, h6⟩ := h
  obtain ⟨⟨g1, g2⟩, g3, g4⟩ := hc
  exact most_far (by omega) h2 (by omega) (by omega) h5 (by omega) ⟨⟨by omega, by omega⟩, by omega, by omega⟩
theorem ring_has_T {T : P2 → P2} {G : B4 → B4} {m : Bool} (h : Mv T G m) {p c a e : P2} {r : Int} (hT : ∀ q, q = p ∨ q = c ∨ q = a ∨ q = e → PR q ∧ PR (T q)) (ok : okI c a e) (h1 : 1 ≤ r) (h2 : r ≤ 536870912) (d1 : distI p c ≤ 4000000000000000000) (d2 : distI a c ≤ 4000000000000000000) :
    ringHas (T p) (T c) (bif m then T e else T a) (bif m then T a else T e) r = ringHas p c a e r := by
  have Tp := hT p (.inl rfl)
  have Tc := hT c (.inr (.inl rfl))
  have Ta := hT a (.inr (.inr (.inl rfl)))
  have Te := hT e (.inr (.inr (.inr rfl)))
  have okT : okI (T c) (T a) (T e) := by unfold okI at *; rw [h.i.d, h.i.d]; exact ok
  rw [ringHas_eq Tp.1 Tc.1 Ta.1 Te.1 ok h1 (by omega) d1 d2, ← ringI_mv h ok]
  cases m
  · exact ringHas_eq Tp.2 Tc.2 Ta.2 Te.2 okT h1 (by omega) (by rw [h.i.d]; exact d1) (by show distI (T a) (T c) ≤ _; rw [h.i.d]; exact d2)
  · exact ringHas_eq Tp.2 Tc.2 Te.2 Ta.2 (okI_swap okT) h1 (by omega) (by rw [h.i.d]; exact d1) (by show distI (T e) (T c) ≤ _; rw [h.i.d, ← ok.2]; exact d2)
theorem ring_cls_T {T : P2 → P2} {G : B4 → B4} {m : Bool} (h : Mv T G m) {b : B4} (hb : BR b) (hx : b.x0 ≤ b.x1) (hy : b.y0 ≤ b.y1) (hb' : BR (G b)) {c a e : P2} {r : Int} (hT : ∀ q, q = c ∨ q = a ∨ q = e → PR q ∧ PR (T q)) (ok : okI c a e) (h1 : 1 ≤ r) (h2 : r ≤ 536870912) (d1 : mostI b c ≤ 4000000000000000000) (d2 : distI a c ≤ 4000000000000000000) :
    ringClass (G b) (T c) (bif m then T e else T a) (bif m then T a else T e) r = ringClass b c a e r := by
  have Tc := hT c (.inl rfl)
  have Ta := hT a (.inr (.inl rfl))
  have Te := hT e (.inr (.inr rfl))
  have o := h.ord b hx hy
  have k := h.bx b hx hy
  have okT : okI (T c) (T a) (T e) := by unfold okI at *; rw [h.i.d, h.i.d]; exact ok
  rw [ringClass_eq hb Tc.1 Ta.1 Te.1 ok hx hy h1 (by omega) d1 d2, ← ringCl_mv h hx hy ok]
  cases m
  · exact ringClass_eq hb' Tc.2 Ta.2 Te.2 okT o.1 o.2 h1 (by omega) (by rw [k.m]; exact d1) (by show distI (T a) (T c) ≤ _; rw [h.i.d]; exact d2)
  · exact ringClass_eq hb' Tc.2 Te.2 Ta.2 (okI_swap okT) o.1 o.2 h1 (by omega) (by rw [k.m]; exact d1) (by show distI (T e) (T c) ≤ _; rw [h.i.d, ← ok.2]; exact d2)
/-- a point is in a shape if the turned point is in the turned shape -/
theorem has_turn {t : Tn} (g : PB 400000000 t.u) {p : P2} (hp : PB 40 p) : ∀ (s : Shp) (d : Int), Fine (PB 40) s d → hasF (turnS s t) (tT t p) = hasF s p := by
  have M := tMv t
  have R : ∀ {q}, PB 40 q → PR q := fun h => PB_R' (by decide) h
  have R' : ∀ {q}, PB 40 q → PR (tT t q) := fun h => PB_R' (by decide) (tT_PB g h)
  intro s
  induction s with
  | nil => intro d h; exact h.elim
  | mk k a b' c r l n add sub ih =>
    intro d h
    rcases h with ⟨rfl, rfl, rfl, rfl, rfl, ha, hr⟩ | ⟨rfl, rfl, rfl, rfl, ha, hb, hr⟩ | ⟨rfl, rfl, rfl, rfl, ha, hb, hr, hn⟩ | ⟨rfl, rfl, rfl, ha, hb, hc, hr, ho⟩ | ⟨rfl, rfl, rfl, rfl, rfl, rfl, hc⟩ | ⟨rfl, rfl, rfl, rfl, rfl, rfl, h5, hm, hs⟩
    · have w := wid_bd hr
      show discHas (tT t p) (turnPtF a t) r = discHas p a r
      rw [turn_tT g ha, discHas_eq (R hp) (R ha) w.1 (by omega), discHas_eq (R' hp) (R' ha) w.1 (by omega), M.i.d]
    · have w := wid_bd hr
      show lineHas (tT t p) (turnPtF a t) (turnPtF b' t) r = lineHas p a b' r
      rw [turn_tT g ha, turn_tT g hb, lineHas_eq (R hp) (R ha) (R hb) w.1 (by omega), lineHas_eq (R' hp) (R' ha) (R' hb) w.1 (by omega), lineI_mv M]
    · have w := wid_bd hr
      show barHas (tT t p) (turnPtF a t) (turnPtF b' t) r = barHas p a b' r
      rw [turn_tT g ha, turn_tT g hb, barHas_eq (R hp) (R ha) (R hb) (by omega), barHas_eq (R' hp) (R' ha) (R' hb) (by omega), barI_mv M]
    · have w := wid_bd hr
      show ringHas (tT t p) (turnPtF c t) (bif plX t then turnPtF b' t else turnPtF a t) (bif plX t then turnPtF a t else turnPtF b' t) r = ringHas p c a b' r
      rw [turn_tT g ha, turn_tT g hb, turn_tT g hc]
      exact ring_has_T M (fun q hq => by rcases hq with rfl | rfl | rfl | rfl <;> exact ⟨R (by assumption), R' (by assumption)⟩) ho w.1 w.2 (dist_40 hp hc) (dist_40 ha hc)
    · show polyHasF (tT t p) (mapC (fun q => turnPtF q t) l) = polyHasF p l
      have e : ∀ i, i < l.n → ∀ k, k < l.m i → turnPtF (l.p i k) t = tT t (l.p i k) := fun i hi k hk => turn_tT g ((hc.2 i hi).2 k hk)
      rw [hasC_eq (R hp) ⟨fun i hi k hk => R ((hc.2 i hi).2 k hk)⟩, hasC_eq (R' hp) ⟨fun i hi k hk => by show PR (turnPtF (l.p i k) t); rw [e i hi k hk]; exact R' ((hc.2 i hi).2 k hk)⟩, hasC_cong (T' := tT t) e, M.hc]
    · show (runN (fun u (_ : Bool) => bif hasF (turnS (sub (n - 1 - u)) t) (tT t p) then (false, add (n - 1 - u)) else (true, false)) false n).2 = (runN (fun u (_ : Bool) => bif hasF (sub (n - 1 - u)) p then (false, add (n - 1 - u)) else (true, false)) false n).2
      rw [has_fold (fun i => hasF (turnS (sub i) t) (tT t p)) add n, has_fold (fun i => hasF (sub i) p) add n]
      exact foldN_cong n fun i hi x => by unfold hasN; dsimp only; rw [ih i (d + 1) (hs i hi)]
/-- the turned box has the class of the box -/
theorem class_turn {t : Tn} (g : PB 400000000 t.u) {b : B4} (hb : B40 b) : ∀ (s : Shp) (d : Int), Fine (PB 40) s d → classF (turnS s t) (tB t b) = classF s b := by
  have M := tMv t
  have R : ∀ {q}, PB 40 q → PR q := fun h => PB_R' (by decide) h
  have R' : ∀ {q}, PB 40 q → PR (tT t q) := fun h => PB_R' (by decide) (tT_PB g h)
  have o := M.ord b hb.x hb.y
  have k := M.bx b hb.x hb.y
  have B := hb.R
  have B' := tB_R g hb
  intro s
  induction s with
  | nil => intro d h; exact h.elim
  | mk k' a b' c r l n add sub ih =>
    intro d h
    rcases h with ⟨rfl, rfl, rfl, rfl, rfl, ha, hr⟩ | ⟨rfl, rfl, rfl, rfl, ha, hb', hr⟩ | ⟨rfl, rfl, rfl, rfl, ha, hb', hr, hn⟩ | ⟨rfl, rfl, rfl, ha, hb', hc, hr, ho⟩ | ⟨rfl, rfl, rfl, rfl, rfl, rfl, hc⟩ | ⟨rfl, rfl, rfl, rfl, rfl, rfl, h5, hm, hs⟩
    · have w := wid_bd hr
      show discClass (tB t b) (turnPtF a t) r = discClass b a r
      rw [turn_tT g ha, discClass_eq B (R ha) hb.x hb.y w.1 (by omega), discClass_eq B' (R' ha) o.1 o.2 w.1 (by omega), k.n, k.m]
    · have w := wid_bd hr
      show lineClass (tB t b) (turnPtF a t) (turnPtF b' t) r = lineClass b a b' r
      rw [turn_tT g ha, turn_tT g hb', lineClass_eq B (R ha) (R hb') hb.x hb.y w.1 (by omega), lineClass_eq B' (R' ha) (R' hb') o.1 o.2 w.1 (by omega), lineCl_mv M hb.x hb.y]
    · have w := wid_bd hr
      show barClass (tB t b) (turnPtF a t) (turnPtF b' t) r = barClass b a b' r
      rw [turn_tT g ha, turn_tT g hb', barClass_eq B (R ha) (R hb') hb.x hb.y (by omega), barClass_eq B' (R' ha) (R' hb') o.1 o.2 (by omega), barCl_M M hb.x hb.y]
    · have w := wid_bd hr
      show ringClass (tB t b) (turnPtF c t) (bif plX t then turnPtF b' t else turnPtF a t) (bif plX t then turnPtF a t else turnPtF b' t) r = ringClass b c a b' r
      rw [turn_tT g ha, turn_tT g hb', turn_tT g hc]
      exact ring_cls_T M B hb.x hb.y B' (fun q hq => by rcases hq with rfl | rfl | rfl <;> exact ⟨R (by assumption), R' (by assumption)⟩) ho w.1 w.2 (most_40 hb hc) (dist_40 ha hc)
    · show polyClassF (tB t b) (mapC (fun q => turnPtF q t) l) = polyClassF b l
      have e : ∀ i, i < l.n → ∀ k, k < l.m i → turnPtF (l.p i k) t = tT t (l.p i k) := fun i hi k hk => turn_tT g ((hc.2 i hi).2 k hk)
      rw [clsC_eq B hb.x hb.y ⟨fun i hi k hk => R ((hc.2 i hi).2 k hk)⟩, clsC_eq B' o.1 o.2 ⟨fun i hi k hk => by show PR (turnPtF (l.p i k) t); rw [e i hi k hk]; exact R' ((hc.2 i hi).2 k hk)⟩, clsC_cong (T' := tT t) e, M.cc b l hb.x hb.y]
    · show foldN (fun i acc => foldF acc (classF (turnS (sub i) t) (tB t b)) (add i)) 0 n = foldN (fun i acc => foldF acc (classF (sub i) b) (add i)) 0 n
      exact foldN_cong n fun i hi x => by rw [ih i (d + 1) (hs i hi)]
/-- as many shapes -/
theorem cnt_turn {P : P2 → Prop} {t : Tn} : ∀ (s : Shp) (d : Int), Fine P s d → cntS (turnS s t) = cntS s := by
  intro s
  induction s with
  | nil => intro d h; exact h.elim
  | mk k a b' c r l n add sub ih =>
    intro d h
    rcases h with ⟨rfl, rfl, rfl, rfl, rfl, ha, hr⟩ | ⟨rfl, rfl, rfl, rfl, ha, hb, hr⟩ | ⟨rfl, rfl, rfl, rfl, ha, hb, hr, hn⟩ | ⟨rfl, rfl, rfl, ha, hb, hc, hr, ho⟩ | ⟨rfl, rfl, rfl, rfl, rfl, rfl, hc⟩ | ⟨rfl, rfl, rfl, rfl, rfl, rfl, h5, hm, hs⟩
    · rfl
    · rfl
    · rfl
    · rfl
    · rfl
    · show sumC (fun i => 1 + cntS (turnS (sub i) t)) n = sumC (fun i => 1 + cntS (sub i)) n
      exact sumC_congr fun i hi => by rw [ih i (d + 1) (hs i hi)]
theorem cnt_fine {P : P2 → Prop} : ∀ (s : Shp) (d : Int), Fine P s d → 0 ≤ d → 1 + (cntS s : Int) ≤ Nd d := by
  intro s
  induction s with
  | nil => intro d h; exact h.elim
  | mk k a b c r l n add sub ih =>
    intro d h h0
    have nd := Nd_one d
    have one : n = 0 → 1 + (cntS (.mk k a b c r l n add sub) : Int) ≤ Nd d := fun e => by subst e; show 1 + ((0 : Nat) : Int) ≤ Nd d; omega
    rcases h with ⟨_, _, _, _, e, _⟩ | ⟨_, _, _, e, _⟩ | ⟨_, _, _, e, _⟩ | ⟨_, _, e, _⟩ | ⟨_, _, _, _, _, e, _⟩ | ⟨rfl, rfl, rfl, rfl, rfl, rfl, h5, hm, hs⟩
    · exact one e
    · exact one e
    · exact one e
    · exact one e
    · exact one e
    · have st := Nd_step h0 h5 (show 0 ≤ (n : Int) by omega) (by omega)
      have nn := Nd_one (d + 1)
      have key : ∀ m : Nat, m ≤ n → (sumC (fun i => 1 + cntS (sub i)) m : Int) ≤ (m : Int) * Nd (d + 1) := by
        intro m
        induction m with
        | zero => intro _; show ((0 : Nat) : Int) ≤ ((0 : Nat) : Int) * Nd (d + 1); omega
        | succ m ihm =>
          intro hm
          have a := ihm (by omega)
          have q := ih m (d + 1) (hs m (by omega)) (by omega)
          have a2 : ((m + 1 : Nat) : Int) * Nd (d + 1) = (m : Int) * Nd (d + 1) + Nd (d + 1) := by rw [show ((m + 1 : Nat) : Int) = (m : Int) + 1 by omega, Int.add_mul, Int.one_mul]
          show ((sumC (fun i => 1 + cntS (sub i)) m + (1 + cntS (sub m)) : Nat) : Int) ≤ _
          omega
      have := key n (Nat.le_refl n)
      show 1 + (sumC (fun i => 1 + cntS (sub i)) n : Int) ≤ Nd d
      omega
end Go.Proofs.Ytfooaikpcbnchaa

/-! ## Tuq -/
namespace Go.Proofs.Ytfooaikpcbnchaa
open Go Go.RowKit Sym
set_option maxRecDepth 100000

theorem tpB_eq {t : Tn} (g : PB 400000000 t.u) {b : B4} (h : B40 b) : tpB b t = tB t b := by
  obtain ⟨h1, h2, h3, h4, h5, h6⟩ := h
  unfold tpB
  rw [turn_tT g (p := ⟨b.x0, b.y0⟩) ⟨⟨by omega, by dsimp only; omega⟩, ⟨by omega, by dsimp only; omega⟩⟩, turn_tT g (p := ⟨b.x1, b.y1⟩) ⟨⟨by dsimp only; omega, by omega⟩, ⟨by dsimp only; omega, by omega⟩⟩]
  unfold tB rtB tT rtT rt imin imax
  rcases plQ_Q4 t with e | e | e | e <;> rw [e] <;> cases plX t <;> refine B4x ?_ ?_ ?_ ?_ <;> simp <;> (repeat' split) <;> omega
theorem figHas_fine {B : Int} (hB : B ≤ 536870912) {σ : Shp} (f : Fine (PB B) σ 0) (p : P2) : figHasE (toSh σ) p = hasF σ p := by
  unfold figHasE; rw [fine_ok (fun p hp => PB_near hB hp) f, hasE_eq]; rfl
theorem figCls_fine {B : Int} (hB : B ≤ 536870912) {σ : Shp} (f : Fine (PB B) σ 0) (b : B4) : figClassE (toSh σ) b = classF σ b := by
  unfold figClassE; rw [fine_ok (fun p hp => PB_near hB hp) f, classE_eq]; rfl
theorem tpC_true {t : Tn} {b : B4} {p : P2} {σ : Shp} (hp : PB 40 p) (hu : PB 400000000 t.u) (hb : B40 b) (f : Fine (PB 40) σ 0) : tpC t b p (toSh σ) (toSh (turnS σ t)) 7 = true := by
  have a := move_fine f hu (by decide) (by decide) (by decide)
  have r := tpB_eq hu hb
  have q := turn_tT hu hp
  unfold tpC
  dsimp only
  rw [a.1, figHas_fine (by decide) a.2.2, figHas_fine (by decide) f, figCls_fine (by decide) a.2.2, figCls_fine (by decide) f, r, q, has_turn hu hp σ 0 f, class_turn hu hb σ 0 f, ofSh_toSh, ofSh_toSh, cnt_turn σ 0 f]
  simp [an]
theorem lSmall_40 (b : B4) : B40 (lSmall b) := by
  have h := lSmall_r b
  exact ⟨by omega, by omega, by omega, by omega, by omega, by omega⟩
theorem points_ok' (s : Sh) (t : Tn) (b : B4) (p : P2) (hs : PdW s) : Dyn.CallR Try.prog 9 [dvS s, dvT t, dvX b, dvP p] (rB true) := by
  refine Dyn.rcontract (lp := Dyn.noLp) (fuel := 3) tabTp_ok mo Try.func9 (by kernel_rfl) (c := bodyD Try.f9.body) (by kernel_rfl) (fun w0 => Dyn.noLp_ok _ w0) (by kernel_rfl) (tp_O s t b p) ?_
  refine ⟨⟨hs, ctrSelf_ok _, trivial⟩, fun h => ro_leaf rfl, fun h => ?_⟩
  have hB : ShB (ofSh s) := small_B _ 0 (by simpa [smallE] using h)
  have hS : PdS s := ⟨hB, hs.2⟩
  have hu := tameT_PB t (n := 400000000) (by decide) (by decide)
  have hp : PB 40 (lClose p 30) := PB_mono (lClose_r p (by decide) (by decide)) (by decide)
  have hb := lSmall_40 b
  have f : Fine (PB 40) (tameS (ofSh s) true 0) 0 := tame_fine true (ofSh s) 0 hB (by decide) (by decide)
  have a := move_fine f hu (by decide) (by decide) (by decide)
  rw [show tameE s true 0 = toSh (tameS (ofSh s) true 0) from rfl, a.2.1]
  have pS : PdS (toSh (tameS (ofSh s) true 0)) := PdS_mk (fine_B _ 0 f (by decide))
  have pM : PdS (toSh (turnS (tameS (ofSh s) true 0) (tameT t 400000000))) := PdS_mk (fine_B _ 0 a.2.2 (by decide))
  have n := cnt_fine (tameS (ofSh s) true 0) 0 f (by decide)
  have nd := Nd_one 0
  have cS : PdC (toSh (tameS (ofSh s) true 0)) := by unfold PdC; rw [ofSh_toSh]; omega
  have cM : PdC (toSh (turnS (tameS (ofSh s) true 0) (tameT t 400000000))) := by unfold PdC; rw [ofSh_toSh, cnt_turn _ 0 f]; omega
  unfold tpO0
  refine ⟨⟨hS, ctrSelf_ok _, by decide, by decide, trivial⟩, ⟨pS, ctrSelf_ok _, trivial⟩, ⟨fun _ => ⟨pM, ctrSelf_ok _, trivial⟩, fun _ => ⟨pS, ctrSelf_ok _, trivial⟩, fun _ => ⟨pM, ctrSelf_ok _, trivial⟩, fun _ => ⟨pS, ctrSelf_ok _, trivial⟩, fun _ => ⟨cM, pM, ctrSelf_ok _, trivial⟩, fun _ => ⟨cS, pS, ctrSelf_ok _, trivial⟩, trivial⟩, ?_⟩
  rw [tpC_true hp hu hb f]
  exact ro_leaf rfl
theorem turnPoints_ok (s : Shp) (hs : ShW s) (t : Tn) (b : B4) (p : P2) : Dyn.CallR Try.prog 9 [dvS (toSh s), dvT t, dvX b, dvP p] (rB true) := points_ok' (toSh s) t b p (PdW_mk hs)
end Go.Proofs.Ytfooaikpcbnchaa
