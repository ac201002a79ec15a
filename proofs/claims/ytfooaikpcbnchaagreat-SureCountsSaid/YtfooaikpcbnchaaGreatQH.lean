/-
  OWN WORK. Joined by merge.py: Plc Cnt Pie Pif Sup Suq Rpl Rga Rgb Rgc Rgd Rge Pim Pin Rgf Rgh Tue Tuf Fir Bnb Rio Bnc Bnd Rpo Rpq Rgk Rgj Sur Sus Sut Suu.
-/
import Derived.Test.YtfooaikpcbnchaaGreatQE
import Derived.WalkKit
import Derived.ProofKit
import Derived.Test.YtfooaikpcbnchaaGreatQG
import Derived.Test.YtfooaikpcbnchaaGreatQF
import Derived.Laws.LoneSync
import Derived.Deep.RegionWith
/-! ## Plc -/
namespace Go.Proofs.YtfooaikpcbnchaaGreat
open Go Go.RowKit Sym
set_option maxRecDepth 100000

end Go.Proofs.YtfooaikpcbnchaaGreat

/-! ## Cnt -/
namespace Go.Proofs.YtfooaikpcbnchaaGreat
open Go Go.RowKit Sym
set_option maxRecDepth 100000

end Go.Proofs.YtfooaikpcbnchaaGreat

/-! ## Pie -/
namespace Go.Proofs.YtfooaikpcbnchaaGreat
open Go Go.RowKit Sym
set_option maxRecDepth 100000

def nilF0 : Nat → List Dyn.DC := fun _ => []
/-! ### a disc around (0, 0), as it is written -/
def dC (r : Int) : List Dyn.DC := [cI 1, cI 0, cI 0, cI 0, cI 0, cI 0, cI 0, cI r, .row 0 noF, .row 0 noF]
def dvDc (r : Int) : Dyn.DV := .agg (dC r)
noncomputable def tabD0 : Dyn.Tabs := Dyn.tabs tbF [] noD dtyS
theorem tabD0_ok : Dyn.TabsOk Tryz.prog tabD0 := Dyn.tabs_ok tbF_ok (fun _ h => by cases h)
theorem cpD_ok : Dyn.CallD Tryz.prog 88 [.one (.row 0 noF)] (rI 0) :=
  dcontractC (lp := Dyn.noLp) (fuel := 2) tabD0_ok mo Tryz.func88 (by kernel_rfl) (c := bodyD Tryz.f88.body) (by kernel_rfl) (fun w0 => Dyn.noLp_ok _ w0) (.tt .lf) (.leaf (rI 0)) rfl (by kernel_rfl) (leafR rfl)
def discS (r : Int) : Shp := leafS 1 ze ze ze r zeC
theorem dC_le (r : Int) : DLL (dC r) (cS (toSh (discS r))) := ⟨.refl _, .refl _, .refl _, .refl _, .refl _, .refl _, .refl _, .refl _, DLe.rowL fun i hi => absurd hi (Nat.not_lt_zero i), DLe.rowL fun i hi => absurd hi (Nat.not_lt_zero i), trivial⟩
def dD : List Dyn.DC → Option (Int × List Prop)
  | [.p (.int .i64 k), .p (.int .i64 a), .p (.int .i64 b), .p (.int .i64 c), .p (.int .i64 d), .p (.int .i64 e), .p (.int .i64 f), .p (.int .i64 r), .row nl _, .row n _] => some (r, [k = 1 ∧ a = 0 ∧ b = 0 ∧ c = 0 ∧ d = 0 ∧ e = 0 ∧ f = 0 ∧ nl = 0 ∧ n = 0])
  | _ => none
theorem dD_le {l : List Dyn.DC} {r : Int} {ps : List Prop} (h : dD l = some (r, ps)) (hp : allP ps) : DVd (.agg l) (dvDc r) := by
  unfold dD at h
  split at h
  · simp only [Option.some.injEq, Prod.mk.injEq] at h
    obtain ⟨rfl, rfl⟩ := h
    obtain ⟨⟨rfl, rfl, rfl, rfl, rfl, rfl, rfl, rfl, rfl⟩, -⟩ := hp
    exact ⟨.refl _, .refl _, .refl _, .refl _, .refl _, .refl _, .refl _, .refl _, DLe.rowL fun i hi => absurd hi (Nat.not_lt_zero i), DLe.rowL fun i hi => absurd hi (Nat.not_lt_zero i), trivial⟩
  · cases h
/-- an entry for discs around (0, 0) -/
def enDc (K : Nat) (F : Int → Dyn.RV) (q : Int → Prop) : Dyn.EntryD := (K, fun args => match args with
  | [.agg l] => match dD l with
    | some (r, ps) => some (F r, q r :: ps)
    | none => none
  | _ => none)
theorem enDc_ok {P : Program} {K : Nat} {F : Int → Dyn.RV} {q : Int → Prop} (h : ∀ r, q r → Dyn.CallD P K [dvDc r] (F r)) : Dyn.EntryDOk P (enDc K F q) := fun args r ps h1 hp => by
  unfold enDc at h1
  dsimp only at h1
  split at h1
  · split at h1
    · rename_i l r' ps' hd
      simp only [Option.some.injEq, Prod.mk.injEq] at h1
      obtain ⟨rfl, rfl⟩ := h1
      exact CallD_d1 (dD_le hd hp.2) (h r' hp.1)
    · cases h1
  · cases h1
def enCp0 : Dyn.EntryD := (88, fun args => match args with
  | [.one (.row n f)] => some (rI 0, [n = 0])
  | _ => none)
theorem row0_le {P : Program} {K n : Nat} {f g : Nat → List Dyn.DC} {r : Dyn.RV} (hn : n = 0) (h : Dyn.CallD P K [.one (.row 0 g)] r) : Dyn.CallD P K [.one (.row n f)] r := by
  subst hn
  exact CallD_le (args := [.one (.row 0 g)]) ⟨⟨rfl, fun i hi => absurd hi (Nat.not_lt_zero i)⟩, trivial⟩ h
theorem enCp0_ok : Dyn.EntryDOk Tryz.prog enCp0 := fun args r ps h hp => by
  unfold enCp0 at h
  dsimp only at h
  split at h
  · simp only [Option.some.injEq, Prod.mk.injEq] at h
    obtain ⟨rfl, rfl⟩ := h
    exact row0_le hp.1 cpD_ok
  · cases h
noncomputable def tabD1 : Dyn.Tabs := Dyn.tabs tbF [enCp0] noD dtyS
theorem tabD1_ok : Dyn.TabsOk Tryz.prog tabD1 := Dyn.tabs_ok tbF_ok (List.forall_mem_cons.2 ⟨enCp0_ok, fun _ h => by cases h⟩)
theorem ctDc_ok (r : Int) : Dyn.CallD Tryz.prog 53 [dvDc r] (rI 1) :=
  Dyn.dcontract (lp := Dyn.noLp) (fuel := 2) tabD1_ok mo Tryz.func53 (by kernel_rfl) (c := bodyD Tryz.f53.body) (by kernel_rfl) (fun w0 => Dyn.noLp_ok _ w0) (by kernel_rfl)
    (O := .side [0 = 0] (.leaf (rI (plusF 1 0)))) (by kernel_rfl) ⟨⟨rfl, trivial⟩, leafR (congrArg rI (by decide +kernel))⟩
theorem ctn_ok : Dyn.CallD Tryz.prog 54 [.one (.row 0 noF)] (.val (.one (.row 0 noF))) :=
  dcontractC (lp := Dyn.noLp) (fuel := 2) tabD0_ok mo Tryz.func54 (by kernel_rfl) (c := bodyD Tryz.f54.body) (by kernel_rfl) (fun w0 => Dyn.noLp_ok _ w0) (.tt .lf) (.leaf (.val (.one (.row 0 nilF0)))) rfl (by kernel_rfl) ⟨rfl, fun i hi => absurd hi (Nat.not_lt_zero i)⟩
def enCn0 : Dyn.EntryD := (54, fun args => match args with
  | [.one (.row n f)] => some (.val (.one (.row 0 noF)), [n = 0])
  | _ => none)
theorem enCn0_ok : Dyn.EntryDOk Tryz.prog enCn0 := fun args r ps h hp => by
  unfold enCn0 at h
  dsimp only at h
  split at h
  · simp only [Option.some.injEq, Prod.mk.injEq] at h
    obtain ⟨rfl, rfl⟩ := h
    exact row0_le hp.1 ctn_ok
  · cases h
def drCo (K : Nat) : Bool := Nat.beq K 54
def noPl (_ : Nat) : Bool := false
noncomputable def tabD2 : Dyn.Tabs := Dyn.extT (Dyn.tabs tbF [enDc 53 (fun _ => rI 1) (fun _ => True), enCn0] drCo dtyS) noPl
theorem tabD2_ok : Dyn.TabsOk Tryz.prog tabD2 := Dyn.extT_ok (Dyn.tabs_ok tbF_ok (List.forall_mem_cons.2 ⟨enDc_ok fun r _ => ctDc_ok r, List.forall_mem_cons.2 ⟨enCn0_ok, fun _ h => by cases h⟩⟩)) (fun K h => by cases h)
theorem cpy_ok (r : Int) : Dyn.CallD Tryz.prog 42 [dvDc r] (.val (dvDc r)) :=
  Dyn.dcontract (lp := Dyn.noLp) (fuel := 3) tabD2_ok mo Tryz.func42 (by kernel_rfl) (c := bodyD Tryz.f42.body) (by kernel_rfl) (fun w0 => Dyn.noLp_ok _ w0) (by kernel_rfl)
    (O := .side [True, (1 : Int) = 1 ∧ (0 : Int) = 0 ∧ (0 : Int) = 0 ∧ (0 : Int) = 0 ∧ (0 : Int) = 0 ∧ (0 : Int) = 0 ∧ (0 : Int) = 0 ∧ 0 = 0 ∧ 0 = 0] (.side [0 = 0] (.leaf (.val (.agg [cI 1, cI 0, cI 0, cI 0, cI 0, cI 0, cI 0, cI r, .row 0 noF, .row 0 nilF0]))))) (by kernel_rfl)
    ⟨⟨trivial, ⟨rfl, rfl, rfl, rfl, rfl, rfl, rfl, rfl, rfl⟩, trivial⟩, ⟨rfl, trivial⟩, rfl, rfl, rfl, rfl, rfl, rfl, rfl, rfl, ⟨rfl, fun _ _ => rfl⟩, ⟨rfl, fun i hi => absurd hi (Nat.not_lt_zero i)⟩, trivial⟩
/-! ### the lists of the document -/
def fL2 : Nat → List Dyn.DC := Dyn.pickL 0 [cB true :: dC 9, cB false :: dC 2]
def dtyQ (t : TypeId) : Bool := dtyO t
def drCy (K : Nat) : Bool := Nat.beq K 42
def E1 : Prop := (1 : Int) = 1 ∧ (0 : Int) = 0 ∧ (0 : Int) = 0 ∧ (0 : Int) = 0 ∧ (0 : Int) = 0 ∧ (0 : Int) = 0 ∧ (0 : Int) = 0 ∧ 0 = 0 ∧ 0 = 0
theorem disc_fine {r : Int} (h : 1 ≤ r ∧ r ≤ 1000) : Fine (fun p => p = ze) (discS r) 0 := .inl ⟨rfl, rfl, rfl, rfl, rfl, rfl, by unfold widF; simp only [andB_eq, Bool.and_eq_true, decide_eq_true_eq]; omega⟩
theorem disc_ok {r : Int} (h : 1 ≤ r ∧ r ≤ 1000) : okE (toSh (discS r)) = true := fine_ok (fun p hp => by subst hp; rfl) (disc_fine h)
theorem disc_B (r : Int) : ShB (discS r) := ⟨⟨by show (0 : Nat) ≤ _; decide, fun i hi => absurd hi (Nat.not_lt_zero i)⟩, by decide, fun i hi => absurd hi (Nat.not_lt_zero i)⟩
theorem bdDc_ok (r : Int) (h : 1 ≤ r ∧ r ≤ 1000) : Dyn.CallD Tryz.prog 38 [dvDc r] (.tup [dvX (aroundF ze ze r), dvB true]) := by
  have q := figBnd_ok (toSh (discS r)) (PdS_mk (disc_B r))
  have e : figBnd (toSh (discS r)) = (aroundF ze ze r, true) := by
    unfold figBnd
    rw [disc_ok h, bndE_eq]; rfl
  rw [e] at q
  exact CallD_d1 (show DVd (dvDc r) (dvS (toSh (discS r))) from dC_le r) q
def tdNr : List Dyn.EntryD := [enDc 38 (fun r => .tup [dvX (aroundF ze ze r), dvB true]) (fun r => 1 ≤ r ∧ r ≤ 1000), enDc 42 (fun r => .val (dvDc r)) (fun _ => True)]
theorem tdNr_ok : ∀ e ∈ tdNr, Dyn.EntryDOk Tryz.prog e := List.forall_mem_cons.2 ⟨enDc_ok fun r h => bdDc_ok r h, List.forall_mem_cons.2 ⟨enDc_ok fun r _ => cpy_ok r, fun _ h => by cases h⟩⟩
noncomputable def tabNr : Dyn.Tabs := Dyn.tabs tbF tdNr drCy dtyQ
theorem tabNr_ok : Dyn.TabsOk Tryz.prog tabNr := Dyn.tabs_ok tbF_ok tdNr_ok
def L2 : Shp := lForm 2 (fun i => Nat.beq i 0) (fun i => discS (bif Nat.beq i 0 then 9 else 2))
def L0 : Shp := lForm 0 (fun _ => false) (fun _ => .nil)
def LN (n : Nat) : Shp := bif Nat.beq n 0 then L0 else L2
theorem L2_e0 : fL2 0 = cB true :: dC 9 := by kernel_rfl
theorem L2_e1 : fL2 1 = cB false :: dC 2 := by kernel_rfl
theorem L2_le : DVd (.one (.row 2 fL2)) (dvL (toSh L2)) := DLe.rowL fun i hi => by
  have : i = 0 ∨ i = 1 := by omega
  rcases this with rfl | rfl
  · rw [L2_e0]; exact ⟨.refl _, dC_le 9⟩
  · rw [L2_e1]; exact ⟨.refl _, dC_le 2⟩
def RkL (n : Nat) (f : Nat → List Dyn.DC) : Prop := n = 0 ∨ (n = 2 ∧ DLe (.row n f) (.row 2 fL2))
theorem RkL.call {P : Program} {K n : Nat} {f : Nat → List Dyn.DC} {l : List Dyn.DV} {r : Dyn.RV} (h : RkL n f) (k : Dyn.CallD P K (dvL (toSh (LN n)) :: l) r) : Dyn.CallD P K (.one (.row n f) :: l) r := by
  rcases h with rfl | ⟨rfl, h⟩
  · exact CallD_d1 (v' := dvL (toSh L0)) (DLe.rowL fun i hi => absurd hi (Nat.not_lt_zero i)) k
  · exact CallD_d1 (show DVd (.one (.row 2 f)) (.one (.row 2 fL2)) from h) (CallD_d1 L2_le k)
theorem figHasD {r : Int} (h : 1 ≤ r ∧ r ≤ 1000) (p : P2) : figHasS (discS r) p = hasF (discS r) p := by unfold figHasS; rw [disc_ok h]; rfl
end Go.Proofs.YtfooaikpcbnchaaGreat

/-! ## Pif -/
namespace Go.Proofs.YtfooaikpcbnchaaGreat
open Go Go.RowKit Sym
set_option maxRecDepth 100000

theorem small21_all (x : Sh) (h : PdW x) : Dyn.CallD Tryz.prog 4 [dvL x] (rB (small21 (ofSh x))) := CallD_le (args := [dvL (toSh (ofSh x))]) ⟨SLe.dvL h.2, trivial⟩ (small21_ok _ h.1)
theorem tame21_all (x : Sh) (h : PdS x) (sm : Bool) : Dyn.CallD Tryz.prog 6 [dvL x, dvB sm] (.val (dvL (toSh (tame21 (ofSh x) sm)))) := CallD_le (args := [dvL (toSh (ofSh x)), dvB sm]) ⟨SLe.dvL h.2, Dyn.DVLe.refl _, trivial⟩ (tame21_ok _ h.1 sm)
theorem pClass_all (x : Sh) (h : PdS x) (b : B4) : Dyn.CallD Tryz.prog 17 [dvL x, dvX b] (rI (pClass (ofSh x) b)) := CallD_le (args := [dvL (toSh (ofSh x)), dvX b]) ⟨SLe.dvL h.2, Dyn.DVLe.refl _, trivial⟩ (pClass_ok _ h.1 b)
theorem pHas_all (x : Sh) (h : PdS x) (p : P2) : Dyn.CallD Tryz.prog 13 [dvL x, dvP p] (rB (pHas (ofSh x) p)) := CallD_le (args := [dvL (toSh (ofSh x)), dvP p]) ⟨SLe.dvL h.2, Dyn.DVLe.refl _, trivial⟩ (pHas_ok _ h.1 p)
/-- what of it is tame -/
theorem lf_B {n : Nat} {add : Nat → Bool} {sub : Nat → Shp} (h : small21 (lForm n add sub) = true) : ShB (lForm n add sub) := by
  unfold small21 at h
  by_cases hn : ((n : Nat) : Int) > 20
  · rw [show decide ((nuO (lForm n add sub) : Int) > 20) = true from decide_eq_true hn] at h; cases h
  · rw [show decide ((nuO (lForm n add sub) : Int) > 20) = false from decide_eq_false hn] at h
    refine ⟨⟨by decide, fun i hi => absurd hi (Nat.not_lt_zero i)⟩, by omega, fun i hi => ?_⟩
    obtain ⟨u, _, k2⟩ := runN_all h i hi
    exact small_B _ 0 k2
theorem tame21_B (s : Shp) (h : ShB s) (sm : Bool) : ShB (tame21 s sm) := by
  cases s with
  | nil => exact h.elim
  | mk k a b c r l n add sub =>
    refine ⟨⟨by decide, fun i hi => absurd hi (Nat.not_lt_zero i)⟩, by show min n 12 ≤ _; omega, fun i hi => ?_⟩
    have hi' : i < min n 12 := hi
    exact fine_B _ 2 (tame_fine sm (sub i) 2 (h.2.2 i (by omega)) (by decide) (by decide)) (by decide)
end Go.Proofs.YtfooaikpcbnchaaGreat

/-! ## Sup -/
namespace Go.Proofs.YtfooaikpcbnchaaGreat
open Go Go.RowKit Sym
set_option maxRecDepth 100000

def ptX (b : B4) (n i : Int) : Int := W (b.x0 + W ((W (W (b.x1 - b.x0) * i)).tdiv n))
def ptY (b : B4) (n i : Int) : Int := W (b.y0 + W ((W (W (b.y1 - b.y0) * i)).tdiv n))
/-! what Points counts -/
def ptI (H : P2 → Bool) (b : B4) (n x : Int) (k : Nat) (acc : Int) : Int := bif H ⟨x, ptY b n k⟩ then W (acc + 1) else acc
def ptO (H : P2 → Bool) (b : B4) (n : Int) (m : Nat) (i : Nat) (acc : Int) : Int := foldN (ptI H b n (ptX b n i)) acc m
def ptsF (H : P2 → Bool) (b : B4) (n : Int) (m : Nat) : Int := foldN (ptO H b n m) 0 m
def ptM (n : Int) : Int := imax 1 (imin n 64)
noncomputable def tdPt : List Dyn.EntryD := [(13, en2D (qAnd qL PdS) qP fun x p => rB (pHas (ofSh x) p))]
noncomputable def tabPt : Dyn.Tabs := Dyn.tabs tbF tdPt noD noD
theorem tabPt_ok : Dyn.TabsOk Tryz.prog tabPt := Dyn.tabs_ok tbF_ok (List.forall_mem_cons.2 ⟨en2D_ok (qAnd_ok qL_ok) qP_ok fun x p h _ => pHas_all x h.1 p, fun _ h => by cases h⟩)
def ptH (n : Nat) (f : Nat → List Dyn.DC) (b : B4) : List (Option Dyn.HE) := [some (.deep [.row n f]), some (.cells 28 (bxV b))]
def ptS (n : Nat) (f : Nat → List Dyn.DC) (b : B4) (m acc i : Int) : Dyn.St := mkS 67 [(0, sH 0 0 n), (2, sI m), (4, sL 1), (6, sI acc), (19, sI (W (m + 1))), (20, sI i)] (ptH n f b)
def ptT (n : Nat) (f : Nat → List Dyn.DC) (b : B4) (m acc i x k : Int) : Dyn.St := mkS 67 [(0, sH 0 0 n), (2, sI m), (4, sL 1), (6, sI acc), (9, sI x), (19, sI (W (m + 1))), (20, sI i), (36, sI (W (m + 1))), (37, sI k)] (ptH n f b)
def ptK : List Nat := [0, 2, 4, 6, 19, 20]
def ptKi : List Nat := [0, 2, 4, 6, 9, 19, 20, 36, 37]
noncomputable def hasL (n : Nat) (f : Nat → List Dyn.DC) (p : P2) : Bool := pHas (ofSh (obX n f)) p
noncomputable def ptLp (n : Nat) (f : Nat → List Dyn.DC) (b : B4) (m : Int) (M : Nat) : Dyn.Lp := fun id st => match id with
  | 0 => some (.side [keepA 67 [0, 1] [] ptK (2 ^ 6 + 2 ^ 20) st = ptS n f b m 0 0, PdS (obX n f)] (.leaf .normal (ptS n f b m (ptsF (hasL n f) b m M) M)))
  | 2 =>
    let acc := intD (st.slots.getD 6 .junk)
    let x := intD (st.slots.getD 9 .junk)
    let i := intD (st.slots.getD 20 .junk)
    some (.side [keepA 67 [0, 1] [] ptKi (2 ^ 37) st = ptT n f b m acc i x 0, PdS (obX n f)] (.leaf .normal (ptT n f b m (foldN (ptI (hasL n f) b m x) acc M) i x M)))
  | _ => none
noncomputable def ptBi (n : Nat) (f : Nat → List Dyn.DC) (b : B4) (m acc i x : Int) (k : Nat) : Dyn.Out :=
  .ite (decide ((k : Int) < W (m + 1))) (.side [m ≠ 0] (.side [PdS (obX n f)] (.leaf .normal (ptT n f b m (ptI (hasL n f) b m x k acc) i x (W (k + 1)))))) (.leaf (.exit 2) (ptT n f b m acc i x k))
theorem pt_Bi (n : Nat) (f : Nat → List Dyn.DC) (b : B4) (m : Int) (M : Nat) (acc i x : Int) (k : Nat) : (Dyn.lexec Tryz.prog tabPt (ptLp n f b m M) 3 (unloopD (blkD Tryz.f7.body 2)) .leaf (ptT n f b m acc i x k)).rl (fun _ s => keepA 67 [0, 1] [] ptKi 0 s) = ptBi n f b m acc i x k := by kernel_rfl
noncomputable def ptBo (n : Nat) (f : Nat → List Dyn.DC) (b : B4) (m : Int) (M : Nat) (acc : Int) (i : Nat) : Dyn.Out :=
  .ite (decide ((i : Int) < W (m + 1))) (.side [m ≠ 0] (.side [ptT n f b m acc i (ptX b m i) 0 = ptT n f b m acc i (ptX b m i) 0, PdS (obX n f)] (.leaf .normal (ptS n f b m (ptO (hasL n f) b m M i acc) (W (i + 1)))))) (.leaf (.exit 0) (ptS n f b m acc i))
theorem pt_Bo (n : Nat) (f : Nat → List Dyn.DC) (b : B4) (m : Int) (M : Nat) (acc : Int) (i : Nat) : (Dyn.lexec Tryz.prog tabPt (ptLp n f b m M) 3 (unloopD (blkD Tryz.f7.body 0)) .leaf (ptS n f b m acc i)).rl (fun _ s => keepA 67 [0, 1] [] ptK 0 s) = ptBo n f b m M acc i := by kernel_rfl
theorem pt_blocks : blocksL (bodyD Tryz.f7.body) = [(0, .loop (unloopD (blkD Tryz.f7.body 0))), (1, blkD Tryz.f7.body 1), (2, .loop (unloopD (blkD Tryz.f7.body 2))), (3, blkD Tryz.f7.body 3)] := by kernel_rfl
theorem pt_b0 : blocksL (unloopD (blkD Tryz.f7.body 0)) = [(1, blkD Tryz.f7.body 1), (2, .loop (unloopD (blkD Tryz.f7.body 2))), (3, blkD Tryz.f7.body 3)] := by kernel_rfl
theorem pt_b2 : blocksL (unloopD (blkD Tryz.f7.body 2)) = [(3, blkD Tryz.f7.body 3)] := by kernel_rfl
theorem pt_inner (n : Nat) (f : Nat → List Dyn.DC) (b : B4) (m : Int) (M : Nat) (hm : m ≠ 0) (hM : W (m + 1) = (M : Int)) (hM2 : M ≤ 1000000000) (w0 : Dyn.Base Tryz.prog) (st : Dyn.St) (o : Dyn.Out) (h : ptLp n f b m M 2 st = some o) : Dyn.BlockSound Tryz.prog w0 2 (.loop (unloopD (blkD Tryz.f7.body 2))) st o := by
  simp only [ptLp, Option.some.injEq] at h
  subst h
  refine side_two fun hS hP => ?_
  revert hS
  generalize intD (st.slots.getD 6 .junk) = acc
  generalize intD (st.slots.getD 9 .junk) = x
  generalize intD (st.slots.getD 20 .junk) = i
  intro hS
  refine fold_block (fuel := 3) tabPt_ok mo (lp := ptLp n f b m M) (by rw [pt_b2]; exact lpOk_cons (fun s o h => by cases h) lpOk_nil) (fun k acc => ptT n f b m acc i x k) M (ptI (hasL n f) b m x) acc (fun _ s => keepA 67 [0, 1] [] ptKi 0 s) (fun _ s => keepA_ent 67 _ _ _ 0 s) (fun k acc => ptBi n f b m acc i x k) (fun k acc => pt_Bi n f b m M acc i x k) (fun k hk => ?_) ?_ (hS ▸ keepA_ent 67 _ _ _ _ st)
  · refine ⟨fun _ => ⟨⟨hm, trivial⟩, ⟨hP, trivial⟩, rfl, ?_⟩, fun hf => ?_⟩
    · rw [Wn1 hk hM2]; exact Dyn.Fits.refl _
    · rw [decide_eq_false_iff_not, hM] at hf; omega
  · refine ⟨fun ht => ?_, fun _ => ⟨rfl, Dyn.Fits.refl _⟩⟩
    rw [decide_eq_true_eq, hM] at ht; omega
theorem pt_outer (n : Nat) (f : Nat → List Dyn.DC) (b : B4) (m : Int) (M : Nat) (hm : m ≠ 0) (hM : W (m + 1) = (M : Int)) (hM2 : M ≤ 1000000000) (w0 : Dyn.Base Tryz.prog) (st : Dyn.St) (o : Dyn.Out) (h : ptLp n f b m M 0 st = some o) : Dyn.BlockSound Tryz.prog w0 0 (.loop (unloopD (blkD Tryz.f7.body 0))) st o := by
  simp only [ptLp, Option.some.injEq] at h
  subst h
  refine side_two fun hS hP => ?_
  refine fold_block (fuel := 3) tabPt_ok mo (lp := ptLp n f b m M) (by rw [pt_b0]; exact lpOk_cons (fun s o h => by cases h) (lpOk_cons (pt_inner n f b m M hm hM hM2 w0) (lpOk_cons (fun s o h => by cases h) lpOk_nil))) (fun i acc => ptS n f b m acc i) M (ptO (hasL n f) b m M) 0 (fun _ s => keepA 67 [0, 1] [] ptK 0 s) (fun _ s => keepA_ent 67 _ _ _ 0 s) (fun i acc => ptBo n f b m M acc i) (fun i acc => pt_Bo n f b m M acc i) (fun i hi => ?_) ?_ (hS ▸ keepA_ent 67 _ _ _ _ st)
  · refine ⟨fun _ => ⟨⟨hm, trivial⟩, ⟨rfl, hP, trivial⟩, rfl, ?_⟩, fun hf => ?_⟩
    · rw [Wn1 hi hM2]; exact Dyn.Fits.refl _
    · rw [decide_eq_false_iff_not, hM] at hf; omega
  · refine ⟨fun ht => ?_, fun _ => ⟨rfl, Dyn.Fits.refl _⟩⟩
    rw [decide_eq_true_eq, hM] at ht; omega
noncomputable def ptO_ (n : Nat) (f : Nat → List Dyn.DC) (b : B4) (m : Int) (M : Nat) : Dyn.RO :=
  .ite (!(boxOk b)) (.leaf (.tup [dvI 0, dvI 0])) (.side [ptS n f b m 0 0 = ptS n f b m 0 0, PdS (obX n f)] (.leaf (.tup [dvI (ptsF (hasL n f) b m M), dvI (W (W (m + 1) * W (m + 1)))])))
theorem pt_O (n : Nat) (f : Nat → List Dyn.DC) (b : B4) (a : Int) (M : Nat) : (Dyn.dfun Tryz.prog tabPt (ptLp n f b (ptM a) M) 3 Tryz.f7 [dvL (obX n f), dvX b, dvI a]).ro Tryz.prog Tryz.f7.results = ptO_ n f b (ptM a) M := by kernel_rfl
/-- what Points gives -/
def ptsA (H : P2 → Bool) (b : B4) (a : Int) : Int := bif boxOk b then ptsF H b (ptM a) (W (ptM a + 1)).toNat else 0
def ptsB (b : B4) (a : Int) : Int := bif boxOk b then W (W (ptM a + 1) * W (ptM a + 1)) else 0
theorem points_ok (n : Nat) (f : Nat → List Dyn.DC) (hP : PdS (obX n f)) (b : B4) (a : Int) : Dyn.CallD Tryz.prog 7 [dvL (obX n f), dvX b, dvI a] (.tup [dvI (ptsA (hasL n f) b a), dvI (ptsB b a)]) := by
  have hb : 1 ≤ ptM a ∧ ptM a ≤ 64 := by unfold ptM imax imin; repeat' split <;> omega
  have hW : W (ptM a + 1) = ptM a + 1 := W_id (by omega) (by omega)
  have hM : W (ptM a + 1) = (((W (ptM a + 1)).toNat : Nat) : Int) := by rw [hW]; omega
  exact Dyn.dcontract (lp := ptLp n f b (ptM a) (W (ptM a + 1)).toNat) (fuel := 3) tabPt_ok mo Tryz.func7 (by kernel_rfl) (c := bodyD Tryz.f7.body) (by kernel_rfl)
    (fun w0 => by rw [pt_blocks]; exact lpOk_cons (pt_outer n f b _ _ (by omega) hM (by omega) w0) (lpOk_cons (fun s o h => by cases h) (lpOk_cons (pt_inner n f b _ _ (by omega) hM (by omega) w0) (lpOk_cons (fun s o h => by cases h) lpOk_nil))))
    (by kernel_rfl) (pt_O n f b a _) (by
      unfold ptsA ptsB
      refine ⟨fun h => ?_, fun h => ⟨⟨rfl, hP, trivial⟩, ?_⟩⟩
      · rw [show boxOk b = false by simpa using h]; exact ⟨Dyn.DVLe.refl _, Dyn.DVLe.refl _, trivial⟩
      · rw [show boxOk b = true by simpa using h]; exact ⟨Dyn.DVLe.refl _, Dyn.DVLe.refl _, trivial⟩)
end Go.Proofs.YtfooaikpcbnchaaGreat

/-! ## Suq -/
namespace Go.Proofs.YtfooaikpcbnchaaGreat
open Go Go.RowKit Sym
set_option maxRecDepth 100000

def oneN (b : Bool) : Nat := bif b then 1 else 0
def sumN (f : Nat → Nat) : Nat → Nat
  | 0 => 0
  | n + 1 => sumN f n + f n
theorem sum_le {f g : Nat → Nat} : ∀ {n}, (∀ i, i < n → f i ≤ g i) → sumN f n ≤ sumN g n
  | 0, _ => Nat.le_refl _
  | n + 1, h => Nat.add_le_add (sum_le fun i hi => h i (by omega)) (h n (by omega))
theorem sum_congr {f g : Nat → Nat} : ∀ {n}, (∀ i, i < n → f i = g i) → sumN f n = sumN g n
  | 0, _ => rfl
  | n + 1, h => by unfold sumN; rw [sum_congr fun i hi => h i (by omega), h n (by omega)]
theorem sum_const (c : Nat) : ∀ n, sumN (fun _ => c) n = n * c
  | 0 => by simp [sumN]
  | n + 1 => by unfold sumN; rw [sum_const c n, Nat.succ_mul]
theorem sum_add (f g : Nat → Nat) : ∀ n, sumN (fun i => f i + g i) n = sumN f n + sumN g n
  | 0 => rfl
  | n + 1 => by unfold sumN; rw [sum_add f g n]; omega
theorem sum_even (f : Nat → Nat) : ∀ n, sumN (fun i => f (2 * i)) (n + 1) ≤ sumN f (2 * n + 1)
  | 0 => Nat.le_refl _
  | n + 1 => by
    have ih := sum_even f n
    have e : sumN f (2 * (n + 1) + 1) = sumN f (2 * n + 1) + f (2 * n + 1) + f (2 * (n + 1)) := rfl
    have e2 : sumN (fun i => f (2 * i)) (n + 1 + 1) = sumN (fun i => f (2 * i)) (n + 1) + f (2 * (n + 1)) := rfl
    omega
def cnt2 (g : Nat → Nat → Bool) (m : Nat) : Nat := sumN (fun i => sumN (fun k => oneN (g i k)) m) m
theorem cnt_even (g : Nat → Nat → Bool) (n : Nat) : cnt2 (fun i k => g (2 * i) (2 * k)) (n + 1) ≤ cnt2 g (2 * n + 1) :=
  Nat.le_trans (sum_le fun i _ => sum_even (fun k => oneN (g (2 * i) k)) n) (sum_even (fun i => sumN (fun k => oneN (g i k)) (2 * n + 1)) n)
theorem cnt_not (g : Nat → Nat → Bool) (m : Nat) : cnt2 g m + cnt2 (fun i k => !(g i k)) m = m * m := by
  unfold cnt2
  rw [← sum_add, show (fun i => sumN (fun k => oneN (g i k)) m + sumN (fun k => oneN (!(g i k))) m) = fun _ => m from funext fun i => by
    rw [← sum_add, show (fun k => oneN (g i k) + oneN (!(g i k))) = fun _ => 1 from funext fun k => by cases g i k <;> rfl, sum_const]; omega, sum_const]
/-! ### what Points counts -/
theorem ptI_sum (H : P2 → Bool) (b : B4) (n x acc : Int) (h0 : 0 ≤ acc) (h1 : acc ≤ 1000000) : ∀ m : Nat, m ≤ 1000 → foldN (ptI H b n x) acc m = acc + (sumN (fun k => oneN (H ⟨x, ptY b n k⟩)) m : Nat) ∧ sumN (fun k => oneN (H ⟨x, ptY b n k⟩)) m ≤ m
  | 0, _ => by constructor <;> simp [foldN, sumN]
  | m + 1, hm => by
    obtain ⟨ih, ih2⟩ := ptI_sum H b n x acc h0 h1 m (by omega)
    have e : sumN (fun k => oneN (H ⟨x, ptY b n k⟩)) (m + 1) = sumN (fun k => oneN (H ⟨x, ptY b n k⟩)) m + oneN (H ⟨x, ptY b n m⟩) := rfl
    have e2 : foldN (ptI H b n x) acc (m + 1) = bif H ⟨x, ptY b n m⟩ then W (foldN (ptI H b n x) acc m + 1) else foldN (ptI H b n x) acc m := rfl
    rw [e, e2, ih]
    generalize sumN (fun k => oneN (H ⟨x, ptY b n k⟩)) m = S at *
    cases H ⟨x, ptY b n m⟩ with
    | false =>
      constructor
      · show acc + (S : Int) = acc + ((S + 0 : Nat) : Int); omega
      · show S + 0 ≤ m + 1; omega
    | true =>
      constructor
      · show W (acc + (S : Int) + 1) = acc + ((S + 1 : Nat) : Int)
        rw [W_id (by omega) (by omega)]; omega
      · show S + 1 ≤ m + 1; omega
theorem ptO_sum (H : P2 → Bool) (b : B4) (n : Int) (M : Nat) (hM : M ≤ 100) : ∀ m : Nat, m ≤ M → foldN (ptO H b n M) 0 m = (sumN (fun i => sumN (fun k => oneN (H ⟨ptX b n i, ptY b n k⟩)) M) m : Nat) ∧ sumN (fun i => sumN (fun k => oneN (H ⟨ptX b n i, ptY b n k⟩)) M) m ≤ m * 100
  | 0, _ => by constructor <;> simp [foldN, sumN]
  | m + 1, hm => by
    obtain ⟨ih, ih2⟩ := ptO_sum H b n M hM m (by omega)
    obtain ⟨k1, k2⟩ := ptI_sum H b n (ptX b n m) (foldN (ptO H b n M) 0 m) (by rw [ih]; omega) (by rw [ih]; omega) M (by omega)
    constructor
    · show foldN (ptI H b n (ptX b n m)) (foldN (ptO H b n M) 0 m) M = _
      rw [k1, ih]
      show _ = ((sumN _ m + sumN _ M : Nat) : Int)
      omega
    · show sumN _ m + sumN _ M ≤ _
      omega
theorem pts_cnt (H : P2 → Bool) (b : B4) (n : Int) (M : Nat) (hM : M ≤ 100) : ptsF H b n M = (cnt2 (fun i k => H ⟨ptX b n i, ptY b n k⟩) M : Nat) := (ptO_sum H b n M hM M (Nat.le_refl _)).1
end Go.Proofs.YtfooaikpcbnchaaGreat

/-! ## Rpl -/
namespace Go.Proofs.YtfooaikpcbnchaaGreat
open Go Go.RowKit Sym
set_option maxRecDepth 100000

def okS (s : Shp) : Bool := (validF s 0 1000).1
theorem okE_S (s : Shp) : okE (toSh s) = okS s := by unfold okE okS; rw [vE_eq]
def figClassC (s : Shp) (b : B4) : Int := bif !(okS s) then 0 else classF s b
theorem figClassS_C (s : Shp) (b : B4) : figClassS s b = figClassC s b := by unfold figClassS figClassC; rw [okE_S]
def pClassC (s : Shp) (b : B4) : Int := foldN (fun i acc => foldF acc (figClassC (suO s i) b) (adO s i)) 0 (nuO s)
theorem pClass_C (s : Shp) (b : B4) : pClass s b = pClassC s b := by
  unfold pClass pClassC
  simp only [figClassS_C]
def figBndC (s : Shp) : B4 × Bool := bif okS s then bndF s else (⟨0, 0, 0, 0⟩, false)
theorem figBnd_C (s : Shp) : figBnd (toSh s) = figBndC s := by unfold figBnd figBndC; rw [okE_S, bndE_eq]
/-! ### what is kept -/
def kN (keep : Nat → Bool) : Nat → Nat
  | 0 => 0
  | n + 1 => bif keep n then kN keep n + 1 else kN keep n
def kIx (keep : Nat → Bool) : Nat → Nat → Nat
  | 0, _ => 0
  | n + 1, j => bif keep n && Nat.beq (kN keep n) j then n else kIx keep n j
theorem kN_le (keep : Nat → Bool) : ∀ n, kN keep n ≤ n
  | 0 => Nat.le_refl _
  | n + 1 => by
    have := kN_le keep n
    unfold kN
    cases keep n
    · show kN keep n ≤ n + 1; omega
    · show kN keep n + 1 ≤ n + 1; omega
theorem kN_mono (keep : Nat → Bool) {i : Nat} : ∀ {n : Nat}, i ≤ n → kN keep i ≤ kN keep n
  | 0, h => by obtain rfl : i = 0 := by omega
               exact Nat.le_refl _
  | n + 1, h => by
    by_cases e : i = n + 1
    · subst e; exact Nat.le_refl _
    · have := kN_mono keep (i := i) (n := n) (by omega)
      show kN keep i ≤ (bif keep n then kN keep n + 1 else kN keep n)
      cases keep n
      · exact this
      · show kN keep i ≤ kN keep n + 1; omega
theorem kN_step (keep : Nat → Bool) {i : Nat} (h : keep i = true) : kN keep (i + 1) = kN keep i + 1 := by
  show (bif keep i then kN keep i + 1 else kN keep i) = _
  rw [h]; rfl
theorem kN_skip (keep : Nat → Bool) {i : Nat} (h : keep i = false) : kN keep (i + 1) = kN keep i := by
  show (bif keep i then kN keep i + 1 else kN keep i) = _
  rw [h]; rfl
theorem kIx_at (keep : Nat → Bool) {i : Nat} (h : keep i = true) : ∀ {n : Nat}, i < n → kIx keep n (kN keep i) = i
  | 0, hn => absurd hn (Nat.not_lt_zero i)
  | n + 1, hn => by
    show (bif keep n && Nat.beq (kN keep n) (kN keep i) then n else kIx keep n (kN keep i)) = i
    by_cases e : i = n
    · subst e
      rw [h, Nat.beq_refl]; rfl
    · have k1 := kN_mono keep (i := i + 1) (n := n) (by omega)
      rw [kN_step keep h] at k1
      have : Nat.beq (kN keep n) (kN keep i) = false := by
        cases q : Nat.beq (kN keep n) (kN keep i)
        · rfl
        · have := Nat.eq_of_beq_eq_true q; omega
      rw [this, Bool.and_false]
      exact kIx_at keep h (by omega)
theorem kIx_lt (keep : Nat → Bool) {j : Nat} : ∀ {n : Nat}, j < kN keep n → kIx keep n j < n ∧ keep (kIx keep n j) = true
  | 0, h => absurd h (Nat.not_lt_zero j)
  | n + 1, h => by
    show (bif keep n && Nat.beq (kN keep n) j then n else kIx keep n j) < n + 1 ∧ keep (bif keep n && Nat.beq (kN keep n) j then n else kIx keep n j) = true
    cases hk : keep n
    · rw [kN_skip keep hk] at h
      have := kIx_lt keep (j := j) (n := n) h
      exact ⟨by show kIx keep n j < n + 1; omega, this.2⟩
    · rw [kN_step keep hk] at h
      cases q : Nat.beq (kN keep n) j
      · have ne : kN keep n ≠ j := fun e => by rw [e, Nat.beq_refl] at q; cases q
        have := kIx_lt keep (j := j) (n := n) (by omega)
        exact ⟨by show kIx keep n j < n + 1; omega, this.2⟩
      · exact ⟨by show n < n + 1; omega, hk⟩
/-- the objects that are kept -/
def filL (keep : Nat → Bool) (s : Shp) : Shp := lForm (kN keep (nuO s)) (fun j => adO s (kIx keep (nuO s) j)) (fun j => suO s (kIx keep (nuO s) j))
/-- whether there is a bar -/
def hbF : Shp → Bool
  | .nil => false
  | .mk k _ _ _ _ _ n _ sub => bif k == 4 then true else !((runN (fun i (_ : Unit) => (!(hbF (sub i)), ())) () n).1)
def rchK (s : Shp) (i : Nat) : Bool := (figBndC (suO s i)).2
def reachF (s : Shp) : Shp := filL (rchK s) s
def nearK (s : Shp) (b : B4) (i : Nat) : Bool := bif hbF (suO s i) then true else !(apart (figBndC (suO s i)).1 b)
def nearG (s : Shp) (b : B4) : Shp := filL (nearK s b) s
/-! ### the count of cells -/
structure ExR where
  lo : Int
  hi : Int
  e : Int
  a : Int
def exNo (e a : Int) : ExR := ⟨0, 0, e, a⟩
/-- the quarters of a box -/
def spB (b : B4) (i : Nat) : B4 := match i with
  | 0 => ⟨spl b 0 b.x0, spl b 0 b.y0, spl b 0 (midX b), spl b 0 (midY b)⟩
  | 1 => ⟨spl b 0 (midX b), spl b 0 b.y0, spl b 0 b.x1, spl b 0 (midY b)⟩
  | 2 => ⟨spl b 0 b.x0, spl b 0 (midY b), spl b 0 (midX b), spl b 0 b.y1⟩
  | _ => ⟨spl b 0 (midX b), spl b 0 (midY b), spl b 0 b.x1, spl b 0 b.y1⟩
/-- one quarter after the other -/
def exQ (f : B4 → Int → ExR) (b : B4) (a : Int) : ExR :=
  bif (f (spB b 0) a).e != 0 then exNo (f (spB b 0) a).e (f (spB b 0) a).a else
  bif (f (spB b 1) (f (spB b 0) a).a).e != 0 then exNo (f (spB b 1) (f (spB b 0) a).a).e (f (spB b 1) (f (spB b 0) a).a).a else
  bif (f (spB b 2) (f (spB b 1) (f (spB b 0) a).a).a).e != 0 then exNo (f (spB b 2) (f (spB b 1) (f (spB b 0) a).a).a).e (f (spB b 2) (f (spB b 1) (f (spB b 0) a).a).a).a else
  bif (f (spB b 3) (f (spB b 2) (f (spB b 1) (f (spB b 0) a).a).a).a).e != 0 then exNo (f (spB b 3) (f (spB b 2) (f (spB b 1) (f (spB b 0) a).a).a).a).e (f (spB b 3) (f (spB b 2) (f (spB b 1) (f (spB b 0) a).a).a).a).a else
  ⟨W (W (W (W (0 + (f (spB b 0) a).lo) + (f (spB b 1) (f (spB b 0) a).a).lo) + (f (spB b 2) (f (spB b 1) (f (spB b 0) a).a).a).lo) + (f (spB b 3) (f (spB b 2) (f (spB b 1) (f (spB b 0) a).a).a).a).lo),
   W (W (W (W (0 + (f (spB b 0) a).hi) + (f (spB b 1) (f (spB b 0) a).a).hi) + (f (spB b 2) (f (spB b 1) (f (spB b 0) a).a).a).hi) + (f (spB b 3) (f (spB b 2) (f (spB b 1) (f (spB b 0) a).a).a).a).hi),
   0, (f (spB b 3) (f (spB b 2) (f (spB b 1) (f (spB b 0) a).a).a).a).a⟩
/-- cells of a box -/
def cellsN (d : Nat) : Int := ((4 ^ d : Nat) : Int)
/-- a look at a box: c is its class; at what its quarters give, if it is to be split -/
def exT (most c : Int) (cells : Int) (m : Int → ExR) (a : Int) : ExR :=
  bif !(decide (W (a + 1) ≤ most)) then exNo 6 (W (a + 1)) else
  bif c == 0 then exNo 0 (W (a + 1)) else bif c == 2 then ⟨cells, cells, 0, W (a + 1)⟩ else m (W (a + 1))
def exF (most : Int) : Nat → Shp → B4 → Int → ExR
  | 0, s, b, a => exT most (pClassC s b) (cellsN 0) (fun a => ⟨0, 1, 0, a⟩) a
  | d + 1, s, b, a => exT most (pClassC s b) (cellsN (d + 1)) (exQ (fun q a => exF most d (nearG s q) q a) b) a
end Go.Proofs.YtfooaikpcbnchaaGreat

/-! ## Rga -/
namespace Go.Proofs.YtfooaikpcbnchaaGreat
open Go Go.RowKit Sym
set_option maxRecDepth 100000

/-! ### hasBar -/
def hbN (g : Sh → Bool) (sh : Nat → Sh) (i : Nat) (_ : Unit) : Bool × Unit := (!(g (sh i)), ())
def hbG (g : Sh → Bool) (sh : Nat → Sh) (s : Sh) : Bool := bif s.k == 4 then true else !((runN (hbN g sh) () s.n).1)
def HbOk (x : Sh) (g : Sh → Bool) : Prop := Dyn.CallD Tryz.prog 39 [dvS x] (rB (g x))
def tdHb (Pd : Sh → Prop) (g : Sh → Bool) : List Dyn.EntryD := [(39, en1D (qAnd qS Pd) fun x => rB (g x))]
def tabHb (Pd : Sh → Prop) (g : Sh → Bool) : Dyn.Tabs := Dyn.tabs tbF (tdHb Pd g) noD dtyS
theorem tabHb_ok {Pd : Sh → Prop} {g : Sh → Bool} (ih : ∀ x, Pd x → HbOk x g) : Dyn.TabsOk Tryz.prog (tabHb Pd g) :=
  Dyn.tabs_ok tbF_ok (List.forall_mem_cons.2 ⟨en1D_ok (qAnd_ok qS_ok) fun x h => ih x h.1, fun _ h => by cases h⟩)
def hbS (s : Sh) (i : Int) : Dyn.St := mkS 19 [(2, .k (vb false)), (9, sH 0 9 s.n), (10, sI s.n), (11, sI i)] [some (.deep (cS s))]
def hbR : Dyn.St := mkS 19 [(2, .k (vb true))] []
def hbK : List Nat := [2, 9, 10, 11]
def hbLp (g : Sh → Bool) (sh : Nat → Sh) (s : Sh) : Dyn.Lp := fun id st => match id with
  | 0 => some (.side [keepA 19 [0] [] hbK (2 ^ 11) st = hbS s 0] (.ite (runN (hbN g sh) () s.n).1 (.leaf .normal (hbS s s.n)) (.leaf .ret hbR)))
  | _ => none
def hbB (Pd : Sh → Prop) (g : Sh → Bool) (sh : Nat → Sh) (s : Sh) (i : Nat) : Dyn.Out :=
  .ite (decide ((i : Int) < s.n)) (.side [0 ≤ (i : Int) ∧ (i : Int) < s.n] (.side [Pd (sh i), ctrSelf (sh i).l] (.ite (g (sh i)) (.leaf .ret hbR) (.leaf .normal (hbS s (W (i + 1))))))) (.leaf (.exit 0) (hbS s i))
theorem hb_B (Pd : Sh → Prop) (g : Sh → Bool) (k : Int) (a b c : P2) (r : Int) (l : Ctr) (n : Nat) (add : Nat → Bool) (sh : Nat → Sh) (i : Nat) :
    (Dyn.lexec Tryz.prog (tabHb Pd g) (hbLp g sh (mkSh k a b c r l n add sh)) 3 (unloopD (blkD Tryz.f39.body 0)) .leaf (hbS (mkSh k a b c r l n add sh) i)).rl (keepR 19 [0] [] hbK [2]) = hbB Pd g sh (mkSh k a b c r l n add sh) i := by kernel_rfl
theorem hb_blocks : blocksL (bodyD Tryz.f39.body) = [(0, .loop (unloopD (blkD Tryz.f39.body 0))), (1, blkD Tryz.f39.body 1)] := by kernel_rfl
theorem hb_b0 : blocksL (unloopD (blkD Tryz.f39.body 0)) = [(1, blkD Tryz.f39.body 1)] := by kernel_rfl
theorem hb_loop {Pd : Sh → Prop} {g : Sh → Bool} (ih : ∀ x, Pd x → HbOk x g) (k : Int) (a b c : P2) (r : Int) (l : Ctr) (n : Nat) (add : Nat → Bool) (sh : Nat → Sh) (hn : n ≤ 1000000000) (hP : ∀ i, i < n → Pd (sh i)) (w0 : Dyn.Base Tryz.prog) (st : Dyn.St) (o : Dyn.Out) (h : hbLp g sh (mkSh k a b c r l n add sh) 0 st = some o) : Dyn.BlockSound Tryz.prog w0 0 (.loop (unloopD (blkD Tryz.f39.body 0))) st o := by
  simp only [hbLp, Option.some.injEq] at h
  subst h
  refine side_one fun hS => ?_
  refine run_block (fuel := 3) (tabHb_ok ih) mo (lp := hbLp g sh (mkSh k a b c r l n add sh)) (by rw [hb_b0]; exact lpOk_cons (fun s o h => by cases h) lpOk_nil) (fun i (_ : Unit) => hbS (mkSh k a b c r l n add sh) i) n (hbN g sh) () (fun _ => hbR) (keepR 19 [0] [] hbK [2]) (keepR_ent 19 _ _ _ _) (fun i _ => hbB Pd g sh (mkSh k a b c r l n add sh) i) (fun i _ => hb_B Pd g k a b c r l n add sh i) (fun i a hi ha => ?_) (fun a ha => ?_) (hS ▸ keepA_ent 19 _ _ _ _ st)
  · refine ⟨fun _ => ⟨⟨⟨by omega, by show (i : Int) < (n : Int); omega⟩, trivial⟩, ⟨hP i hi, ctrSelf_ok _, trivial⟩, fun hx => .inr ⟨rfl, ?_, Dyn.Fits.refl _⟩, fun hx => .inl ⟨rfl, ?_, ?_⟩⟩, fun hf => ?_⟩
    · simpa [hbN] using hx
    · simpa [hbN] using hx
    · rw [Wn1 hi hn]; exact Dyn.Fits.refl _
    · rw [decide_eq_false_iff_not] at hf
      exact absurd (show (i : Int) < (n : Int) by omega) hf
  · refine ⟨fun ht => ?_, fun _ => ⟨rfl, Dyn.Fits.refl _⟩⟩
    rw [decide_eq_true_eq] at ht
    exact absurd (show (n : Int) < (n : Int) from ht) (by omega)
def hbO (g : Sh → Bool) (sh : Nat → Sh) (s : Sh) : Dyn.RO :=
  .ite (s.k == 4) (.leaf (rB true)) (.side [hbS s 0 = hbS s 0] (.ite (runN (hbN g sh) () s.n).1 (.leaf (rB false)) (.leaf (rB true))))
theorem hb_O (Pd : Sh → Prop) (g : Sh → Bool) (sh : Nat → Sh) (s : Sh) : (Dyn.dfun Tryz.prog (tabHb Pd g) (hbLp g sh s) 3 Tryz.f39 [dvS s]).ro Tryz.prog Tryz.f39.results = hbO g sh s := by kernel_rfl
theorem hb_lvl {Pd : Sh → Prop} {g : Sh → Bool} (ih : ∀ x, Pd x → HbOk x g) (k : Int) (a b c : P2) (r : Int) (l : Ctr) (n : Nat) (add : Nat → Bool) (sh : Nat → Sh) (hn : n ≤ 1000000000) (hP : ∀ i, i < n → Pd (sh i)) : Dyn.CallD Tryz.prog 39 [dvS (mkSh k a b c r l n add sh)] (rB (hbG g sh (mkSh k a b c r l n add sh))) :=
  Dyn.dcontract (lp := hbLp g sh (mkSh k a b c r l n add sh)) (fuel := 3) (tabHb_ok ih) mo Tryz.func39 (by kernel_rfl) (c := bodyD Tryz.f39.body) (by kernel_rfl)
    (fun w0 => by rw [hb_blocks]; exact lpOk_cons (hb_loop ih k a b c r l n add sh hn hP w0) (lpOk_cons (fun s o h => by cases h) lpOk_nil))
    (by kernel_rfl) (hb_O Pd g sh _) (by
      unfold hbG
      refine ⟨fun h => ?_, fun h => ⟨⟨rfl, trivial⟩, fun h2 => ?_, fun h2 => ?_⟩⟩
      · rw [h]; exact ro_leaf rfl
      · rw [h, show (runN (hbN g sh) () (mkSh k a b c r l n add sh).n).1 = true from h2]; exact ro_leaf rfl
      · rw [h, show (runN (hbN g sh) () (mkSh k a b c r l n add sh).n).1 = false from h2]; exact ro_leaf rfl)
noncomputable def hbE (x : Sh) : Bool := hbF (ofSh x)
theorem hbE_eq (s : Shp) : hbE (toSh s) = hbF s := by unfold hbE; rw [ofSh_toSh]
theorem hbF_lvl (k : Int) (a b c : P2) (r : Int) (l : Ctr) (n : Nat) (add : Nat → Bool) (sub : Nat → Shp) : hbF (.mk k a b c r l n add sub) = hbG hbE (fun i => toSh (sub i)) (mkSh k a b c r l n add (fun i => toSh (sub i))) := by
  unfold hbG hbN
  simp only [hbE_eq]
  rfl
theorem hb_ok : ∀ s : Shp, ShB s → HbOk (toSh s) hbE := by
  intro s
  induction s with
  | nil => intro h; exact h.elim
  | mk k a b c r l n add sub ih =>
    intro h
    unfold HbOk
    rw [hbE_eq, hbF_lvl]
    exact hb_lvl (Pd := fun x => ∃ i, i < n ∧ x = toSh (sub i)) (fun x hx => by
      obtain ⟨i, hi, rfl⟩ := hx
      exact ih i (h.2.2 i hi)) k a b c r l n add (fun i => toSh (sub i)) h.2.1 (fun i hi => ⟨i, hi, rfl⟩)
theorem hb_all : ∀ x, PdS x → HbOk x hbE := fun x hx => by
  have k := hb_ok _ hx.1
  unfold HbOk at k
  rw [show hbE (toSh (ofSh x)) = hbE x by unfold hbE; rw [ofSh_toSh]] at k
  exact CallD_le (args := [dvS (toSh (ofSh x))]) ⟨SLe.dv hx.2, trivial⟩ k
/-! ### groups -/
structure Gr where
  n : Nat
  f : Nat → List Dyn.DC
  m : Nat
  h : Nat → List Dyn.DC
def dvG (x : Gr) : Dyn.DV := .agg [.row x.n x.f, .row x.m x.h]
def extC (b : B4) (q : Bool) : List Dyn.DC := [cI b.x0, cI b.y0, cI b.x1, cI b.y1, .p (vb q)]
def qG : Dec Gr
  | .agg [.row n f, .row m h] => some (⟨n, f, m, h⟩, [])
  | _ => none
theorem qG_ok : DecOk qG dvG (fun _ => True) := fun d x ps h hp => by
  unfold qG at h; split at h
  · simp only [Option.some.injEq, Prod.mk.injEq] at h
    obtain ⟨rfl, rfl⟩ := h
    exact ⟨⟨⟨rfl, fun _ _ => rfl⟩, ⟨rfl, fun _ _ => rfl⟩, trivial⟩, trivial⟩
  · cases h
/-- the objects of a group -/
noncomputable def ofG (x : Gr) : Shp := ofSh (obX x.n x.f)
def toG (s : Shp) : Gr := ⟨nuO s, fun i => partC (adO s i) (toSh (suO s i)), nuO s, fun i => extC (figBndC (suO s i)).1 (hbF (suO s i))⟩
def lst (s : Shp) : Shp := lForm (nuO s) (adO s) (suO s)
theorem ofG_toG (s : Shp) : ofG (toG s) = lst s := by
  show ofSh (toSh (lst s)) = lst s
  exact ofSh_toSh _
end Go.Proofs.YtfooaikpcbnchaaGreat

/-! ## Rgb -/
namespace Go.Proofs.YtfooaikpcbnchaaGreat
open Go Go.RowKit Sym
set_option maxRecDepth 100000

def dtyG (t : TypeId) : Bool := dtyO t || Nat.beq t 71 || Nat.beq t 95
def nilV : Value := .slice none 0 0
def slV (k n : Nat) : Value := .slice (some ⟨k, 0, some 0⟩) n 0
/-! ### reach -/
noncomputable def tdGc : List Dyn.EntryD := [(38, en1D (qAnd qS PdS) fun x => .tup [dvX (figBnd x).1, dvB (figBnd x).2]), (39, en1D (qAnd qS PdS) fun x => rB (hbE x))]
noncomputable def tabGc : Dyn.Tabs := Dyn.tabs tbF tdGc noD dtyG
theorem tabGc_ok : Dyn.TabsOk Tryz.prog tabGc := Dyn.tabs_ok tbF_ok (List.forall_mem_cons.2 ⟨en1D_ok (qAnd_ok qS_ok) fun x h => figBnd_ok x h.1, List.forall_mem_cons.2 ⟨en1D_ok (qAnd_ok qS_ok) fun x h => hb_all x h.1, fun _ h => by cases h⟩⟩)
noncomputable def gcKp (sh : Nat → Sh) (i : Nat) : Bool := (figBnd (sh i)).2
noncomputable def gcF (add : Nat → Bool) (sh : Nat → Sh) (n : Nat) (j : Nat) : List Dyn.DC := partC (add (kIx (gcKp sh) n j)) (sh (kIx (gcKp sh) n j))
noncomputable def gcH (sh : Nat → Sh) (n : Nat) (j : Nat) : List Dyn.DC := extC (figBnd (sh (kIx (gcKp sh) n j))).1 (hbE (sh (kIx (gcKp sh) n j)))
def gcS0 (s : Sh) (F H : Nat → List Dyn.DC) (c : Nat) (i : Int) : Dyn.St := mkS 39 [(2, sL 1), (3, sL 2), (8, sH 0 0 s.n), (9, sI s.n), (10, sI i)] [some (.deep [.row s.n s.f]), some (.cells 71 [nilV, nilV]), some (.cells 71 [slV 3 c, slV 4 c]), some (.own 38 c F), some (.own 95 c H)]
def gcK : List Nat := [2, 3, 8, 9, 10]
noncomputable def gcS (n : Nat) (add : Nat → Bool) (sh : Nat → Sh) (c : Nat) (i : Int) : Dyn.St := gcS0 (mkL n add sh) (gcF add sh n) (gcH sh n) c i
noncomputable def gcV (n : Nat) (add : Nat → Bool) (sh : Nat → Sh) (c i : Nat) : Dyn.St := gcS0 (mkL n add sh) (Dyn.appF c (gcF add sh n) (fun _ => partC (add i) (sh i))) (Dyn.appF c (gcH sh n) (fun _ => extC (figBnd (sh i)).1 (hbE (sh i)))) (c + 1) (W (i + 1))
noncomputable def gcLp (n : Nat) (add : Nat → Bool) (sh : Nat → Sh) : Dyn.Lp := fun id st => match id with
  | 0 => some (.side [Dyn.nilCell 2 1 95 (gcH sh n) (Dyn.nilCell 2 0 38 (gcF add sh n) (keepA 39 [0, 1, 2] [] gcK (2 ^ 10) st)) = gcS n add sh 0 0] (.leaf .normal (gcS n add sh (kN (gcKp sh) n) n)))
  | _ => none
noncomputable def gcB (n : Nat) (add : Nat → Bool) (sh : Nat → Sh) (c i : Nat) : Dyn.Out :=
  .ite (decide ((i : Int) < (n : Int))) (.side [0 ≤ (i : Int) ∧ (i : Int) < (n : Int)] (.side [PdS (sh i), ctrSelf (sh i).l] (.ite (figBnd (sh i)).2 (.side [szP 120 c] (.side [PdS (sh i), ctrSelf (sh i).l, szP 40 c] (.leaf .normal (gcV n add sh c i)))) (.leaf .normal (gcS n add sh c (W (i + 1))))))) (.leaf (.exit 0) (gcS n add sh c i))
theorem gc_B (n : Nat) (add : Nat → Bool) (sh : Nat → Sh) (c i : Nat) : (Dyn.lexec Tryz.prog tabGc (gcLp n add sh) 3 (unloopD (blkD Tryz.f27.body 0)) .leaf (gcS n add sh c i)).rl (keepCR 39 [0, 1, 2] [] [(2, 0), (2, 1)] gcK [] []) = gcB n add sh c i := by kernel_rfl
theorem gc_blocks : blocksL (bodyD Tryz.f27.body) = [(0, .loop (unloopD (blkD Tryz.f27.body 0))), (1, blkD Tryz.f27.body 1)] := by kernel_rfl
theorem gc_b0 : blocksL (unloopD (blkD Tryz.f27.body 0)) = [(1, blkD Tryz.f27.body 1)] := by kernel_rfl
theorem gc_loop (n : Nat) (add : Nat → Bool) (sh : Nat → Sh) (hn : n ≤ 1000000000) (hP : ∀ i, i < n → PdS (sh i)) (w0 : Dyn.Base Tryz.prog) (st : Dyn.St) (o : Dyn.Out) (h : gcLp n add sh 0 st = some o) : Dyn.BlockSound Tryz.prog w0 0 (.loop (unloopD (blkD Tryz.f27.body 0))) st o := by
  simp only [gcLp, Option.some.injEq] at h
  subst h
  refine side_one fun hS => ?_
  refine fold_block (fuel := 3) tabGc_ok mo (lp := gcLp n add sh) (by rw [gc_b0]; exact lpOk_cons (fun s o h => by cases h) lpOk_nil) (fun i (_ : Unit) => gcS n add sh (kN (gcKp sh) i) i) n (fun _ _ => ()) () (keepCR 39 [0, 1, 2] [] [(2, 0), (2, 1)] gcK [] []) (keepCR_ent 39 _ _ _ _ _ _) (fun i _ => gcB n add sh (kN (gcKp sh) i) i) (fun i _ => gc_B n add sh (kN (gcKp sh) i) i) (fun i hi => ?_) ?_ (hS ▸ ((keepA_ent 39 _ _ _ _ st).trans (Dyn.Ent.nilCell (P := Tryz.prog) (k := 10) (by kernel_rfl) _ _)).trans (Dyn.Ent.nilCell (P := Tryz.prog) (k := 4) (by kernel_rfl) _ _))
  · have hk := kN_le (gcKp sh) i
    refine ⟨fun _ => ⟨⟨⟨by omega, by omega⟩, trivial⟩, ⟨hP i hi, ctrSelf_ok _, trivial⟩, fun hx => ⟨⟨szP_ok (by decide) (by omega), trivial⟩, ⟨hP i hi, ctrSelf_ok _, szP_ok (by decide) (by omega), trivial⟩, rfl, ?_⟩, fun hx => ⟨rfl, ?_⟩⟩, fun hf => ?_⟩
    · unfold gcV
      rw [Wn1 hi hn, kN_step (gcKp sh) hx]
      have e := kIx_at (gcKp sh) hx hi
      exact ⟨rfl, Dyn.HeLe.refl _, Dyn.HeLe.refl _, Dyn.HeLe.refl _, le_app (by unfold gcF; rw [e]), le_app (by unfold gcH; rw [e]), trivial⟩
    · rw [Wn1 hi hn, kN_skip (gcKp sh) hx]; exact Dyn.Fits.refl _
    · rw [decide_eq_false_iff_not] at hf
      exact absurd (show (i : Int) < (n : Int) by omega) hf
  · refine ⟨fun ht => ?_, fun _ => ⟨rfl, Dyn.Fits.refl _⟩⟩
    rw [decide_eq_true_eq] at ht
    exact absurd (show (n : Int) < (n : Int) from ht) (by omega)
noncomputable def gcR (n : Nat) (add : Nat → Bool) (sh : Nat → Sh) : Dyn.RV := .val (dvG ⟨kN (gcKp sh) n, gcF add sh n, kN (gcKp sh) n, gcH sh n⟩)
theorem gc_O (n : Nat) (add : Nat → Bool) (sh : Nat → Sh) : (Dyn.dfun Tryz.prog tabGc (gcLp n add sh) 3 Tryz.f27 [dvL (mkL n add sh)]).ro Tryz.prog Tryz.f27.results = .side [gcS n add sh 0 0 = gcS n add sh 0 0] (.leaf (gcR n add sh)) := by kernel_rfl
theorem gc_lvl (n : Nat) (add : Nat → Bool) (sh : Nat → Sh) (hn : n ≤ 1000000000) (hP : ∀ i, i < n → PdS (sh i)) : Dyn.CallD Tryz.prog 27 [dvL (mkL n add sh)] (gcR n add sh) :=
  Dyn.dcontract (lp := gcLp n add sh) (fuel := 3) tabGc_ok mo Tryz.func27 (by kernel_rfl) (c := bodyD Tryz.f27.body) (by kernel_rfl)
    (fun w0 => by rw [gc_blocks]; exact lpOk_cons (gc_loop n add sh hn hP w0) (lpOk_cons (fun s o h => by cases h) lpOk_nil))
    (by kernel_rfl) (gc_O n add sh) ⟨⟨rfl, trivial⟩, ro_leaf rfl⟩
theorem greach_ok : ∀ s : Shp, ShB s → Dyn.CallD Tryz.prog 27 [dvL (toSh s)] (.val (dvG (toG (reachF s)))) := by
  intro s h
  cases s with
  | nil => exact h.elim
  | mk k a b c r l n add sub =>
    have q := gc_lvl n add (fun i => toSh (sub i)) h.2.1 fun i hi => PdS_mk (h.2.2 i hi)
    unfold gcR gcF gcH at q
    have e : gcKp (fun i => toSh (sub i)) = rchK (.mk k a b c r l n add sub) := funext fun i => by unfold gcKp rchK; rw [figBnd_C]; rfl
    rw [e] at q
    simp only [figBnd_C, hbE_eq] at q
    exact q
/-! ### near -/
def gnKp (B : Nat → B4) (q : Nat → Bool) (b : B4) (i : Nat) : Bool := bif q i then true else !(apart (B i) b)
def gnF0 (add : Nat → Bool) (sh : Nat → Sh) (i : Nat) : List Dyn.DC := partC (add i) (sh i)
def gnH0 (B : Nat → B4) (q : Nat → Bool) (i : Nat) : List Dyn.DC := extC (B i) (q i)
def gnF (add : Nat → Bool) (sh : Nat → Sh) (B : Nat → B4) (q : Nat → Bool) (b : B4) (n : Nat) (j : Nat) : List Dyn.DC := gnF0 add sh (kIx (gnKp B q b) n j)
def gnH (B : Nat → B4) (q : Nat → Bool) (b : B4) (n : Nat) (j : Nat) : List Dyn.DC := gnH0 B q (kIx (gnKp B q b) n j)
def tabGn : Dyn.Tabs := Dyn.tabs tbF [] noD dtyG
theorem tabGn_ok : Dyn.TabsOk Tryz.prog tabGn := Dyn.tabs_ok tbF_ok (fun _ h => by cases h)
def gnS0 (n : Nat) (f h : Nat → List Dyn.DC) (b : B4) (F H : Nat → List Dyn.DC) (c : Nat) (i : Int) : Dyn.St := mkS 43 [(2, sL 1), (3, sL 2), (4, sL 3), (5, sL 4), (9, sH 0 1 n), (10, sI n), (11, sI i)]
  [some (.deep [.row n f, .row n h]), some (.cells 71 [.slice (some ⟨0, 0, some 0⟩) n 0, .slice (some ⟨0, 1, some 0⟩) n 0]), some (.cells 28 (bxV b)), some (.cells 71 [nilV, nilV]), some (.cells 71 [slV 5 c, slV 6 c]), some (.own 38 c F), some (.own 95 c H)]
def gnK : List Nat := [2, 3, 4, 5, 9, 10, 11]
def gnS (n : Nat) (add : Nat → Bool) (sh : Nat → Sh) (B : Nat → B4) (q : Nat → Bool) (b : B4) (c : Nat) (i : Int) : Dyn.St := gnS0 n (gnF0 add sh) (gnH0 B q) b (gnF add sh B q b n) (gnH B q b n) c i
def gnV (n : Nat) (add : Nat → Bool) (sh : Nat → Sh) (B : Nat → B4) (q : Nat → Bool) (b : B4) (c i : Nat) : Dyn.St := gnS0 n (gnF0 add sh) (gnH0 B q) b (Dyn.appF c (gnF add sh B q b n) (fun _ => gnF0 add sh i)) (Dyn.appF c (gnH B q b n) (fun _ => gnH0 B q i)) (c + 1) (W (i + 1))
def gnLp (n : Nat) (add : Nat → Bool) (sh : Nat → Sh) (B : Nat → B4) (q : Nat → Bool) (b : B4) : Dyn.Lp := fun id st => match id with
  | 0 => some (.side [Dyn.nilCell 4 1 95 (gnH B q b n) (Dyn.nilCell 4 0 38 (gnF add sh B q b n) (keepA 43 [0, 1, 2, 3, 4] [] gnK (2 ^ 11) st)) = gnS n add sh B q b 0 0] (.leaf .normal (gnS n add sh B q b (kN (gnKp B q b) n) n)))
  | _ => none
def gnB (n : Nat) (add : Nat → Bool) (sh : Nat → Sh) (B : Nat → B4) (q : Nat → Bool) (b : B4) (c i : Nat) : Dyn.Out :=
  .ite (decide ((i : Int) < (n : Int))) (.side [0 ≤ (i : Int) ∧ (i : Int) < (n : Int)] (.ite (gnKp B q b i) (.side [0 ≤ (i : Int) ∧ (i : Int) < (n : Int), szP 120 c] (.side [szP 40 c] (.leaf .normal (gnV n add sh B q b c i)))) (.leaf .normal (gnS n add sh B q b c (W (i + 1)))))) (.leaf (.exit 0) (gnS n add sh B q b c i))
theorem gn_B (n : Nat) (add : Nat → Bool) (sh : Nat → Sh) (B : Nat → B4) (q : Nat → Bool) (b : B4) (c i : Nat) : (Dyn.lexec Tryz.prog tabGn (gnLp n add sh B q b) 3 (unloopD (blkD Tryz.f28.body 0)) .leaf (gnS n add sh B q b c i)).rl (keepCR 43 [0, 1, 2, 3, 4] [] [(4, 0), (4, 1)] gnK [] []) = gnB n add sh B q b c i := by kernel_rfl
theorem gn_blocks : blocksL (bodyD Tryz.f28.body) = [(0, .loop (unloopD (blkD Tryz.f28.body 0))), (1, blkD Tryz.f28.body 1)] := by kernel_rfl
theorem gn_b0 : blocksL (unloopD (blkD Tryz.f28.body 0)) = [(1, blkD Tryz.f28.body 1)] := by kernel_rfl
theorem gn_loop (n : Nat) (add : Nat → Bool) (sh : Nat → Sh) (B : Nat → B4) (q : Nat → Bool) (b : B4) (hn : n ≤ 1000000000) (w0 : Dyn.Base Tryz.prog) (st : Dyn.St) (o : Dyn.Out) (h : gnLp n add sh B q b 0 st = some o) : Dyn.BlockSound Tryz.prog w0 0 (.loop (unloopD (blkD Tryz.f28.body 0))) st o := by
  simp only [gnLp, Option.some.injEq] at h
  subst h
  refine side_one fun hS => ?_
  refine fold_block (fuel := 3) tabGn_ok mo (lp := gnLp n add sh B q b) (by rw [gn_b0]; exact lpOk_cons (fun s o h => by cases h) lpOk_nil) (fun i (_ : Unit) => gnS n add sh B q b (kN (gnKp B q b) i) i) n (fun _ _ => ()) () (keepCR 43 [0, 1, 2, 3, 4] [] [(4, 0), (4, 1)] gnK [] []) (keepCR_ent 43 _ _ _ _ _ _) (fun i _ => gnB n add sh B q b (kN (gnKp B q b) i) i) (fun i _ => gn_B n add sh B q b (kN (gnKp B q b) i) i) (fun i hi => ?_) ?_ (hS ▸ ((keepA_ent 43 _ _ _ _ st).trans (Dyn.Ent.nilCell (P := Tryz.prog) (k := 10) (by kernel_rfl) _ _)).trans (Dyn.Ent.nilCell (P := Tryz.prog) (k := 4) (by kernel_rfl) _ _))
  · have hk := kN_le (gnKp B q b) i
    refine ⟨fun _ => ⟨⟨⟨by omega, by omega⟩, trivial⟩, fun hx => ⟨⟨⟨by omega, by omega⟩, szP_ok (by decide) (by omega), trivial⟩, ⟨szP_ok (by decide) (by omega), trivial⟩, rfl, ?_⟩, fun hx => ⟨rfl, ?_⟩⟩, fun hf => ?_⟩
    · unfold gnV
      rw [Wn1 hi hn, kN_step (gnKp B q b) hx]
      have e := kIx_at (gnKp B q b) hx hi
      exact ⟨rfl, Dyn.HeLe.refl _, Dyn.HeLe.refl _, Dyn.HeLe.refl _, Dyn.HeLe.refl _, Dyn.HeLe.refl _, le_app (by unfold gnF; rw [e]), le_app (by unfold gnH; rw [e]), trivial⟩
    · rw [Wn1 hi hn, kN_skip (gnKp B q b) hx]; exact Dyn.Fits.refl _
    · rw [decide_eq_false_iff_not] at hf
      exact absurd (show (i : Int) < (n : Int) by omega) hf
  · refine ⟨fun ht => ?_, fun _ => ⟨rfl, Dyn.Fits.refl _⟩⟩
    rw [decide_eq_true_eq] at ht
    exact absurd (show (n : Int) < (n : Int) from ht) (by omega)
def gnR (n : Nat) (add : Nat → Bool) (sh : Nat → Sh) (B : Nat → B4) (q : Nat → Bool) (b : B4) : Dyn.RV := .val (dvG ⟨kN (gnKp B q b) n, gnF add sh B q b n, kN (gnKp B q b) n, gnH B q b n⟩)
theorem gn_O (n : Nat) (add : Nat → Bool) (sh : Nat → Sh) (B : Nat → B4) (q : Nat → Bool) (b : B4) : (Dyn.dfun Tryz.prog tabGn (gnLp n add sh B q b) 3 Tryz.f28 [dvG ⟨n, gnF0 add sh, n, gnH0 B q⟩, dvX b]).ro Tryz.prog Tryz.f28.results = .side [gnS n add sh B q b 0 0 = gnS n add sh B q b 0 0] (.leaf (gnR n add sh B q b)) := by kernel_rfl
theorem gn_lvl (n : Nat) (add : Nat → Bool) (sh : Nat → Sh) (B : Nat → B4) (q : Nat → Bool) (b : B4) (hn : n ≤ 1000000000) : Dyn.CallD Tryz.prog 28 [dvG ⟨n, gnF0 add sh, n, gnH0 B q⟩, dvX b] (gnR n add sh B q b) :=
  Dyn.dcontract (lp := gnLp n add sh B q b) (fuel := 3) tabGn_ok mo Tryz.func28 (by kernel_rfl) (c := bodyD Tryz.f28.body) (by kernel_rfl)
    (fun w0 => by rw [gn_blocks]; exact lpOk_cons (gn_loop n add sh B q b hn w0) (lpOk_cons (fun s o h => by cases h) lpOk_nil))
    (by kernel_rfl) (gn_O n add sh B q b) ⟨⟨rfl, trivial⟩, ro_leaf rfl⟩
theorem near_ok0 (s : Shp) (h : nuO s ≤ 1000000000) (b : B4) : Dyn.CallD Tryz.prog 28 [dvG (toG s), dvX b] (.val (dvG (toG (nearG s b)))) :=
  gn_lvl (nuO s) (adO s) (fun i => toSh (suO s i)) (fun i => (figBndC (suO s i)).1) (fun i => hbF (suO s i)) b h
/-! ### groups that show objects -/
def PdG (x : Gr) : Prop := PdS (obX x.n x.f) ∧ x.m = x.n ∧ ∀ i, i < x.n → x.h i = extC (figBndC (suO (ofG x) i)).1 (hbF (suO (ofG x) i))
theorem PdG_mk {s : Shp} (h : ShB (lst s)) : PdG (toG s) := by
  refine ⟨PdS_mk (s := lst s) h, rfl, fun i hi => ?_⟩
  rw [ofG_toG]; rfl
theorem obX_nu {n : Nat} {f : Nat → List Dyn.DC} (h : PdS (obX n f)) : nuO (ofSh (obX n f)) = n ∧ ∀ i, i < n → f i = partC (adO (ofSh (obX n f)) i) (toSh (suO (ofSh (obX n f)) i)) := by
  have k := h.2
  cases e : ofSh (obX n f) with
  | nil => have := h.1; rw [e] at this; exact this.elim
  | mk k' a b c r l m add sub =>
    rw [e] at k
    obtain ⟨_, _, _, _, _, _, k7, k8⟩ := k
    have k7 : n = m := k7
    exact ⟨k7.symm, fun i hi => k8 i hi⟩
theorem PdG.le {x : Gr} (h : PdG x) : Dyn.DVLe (dvG x) (dvG (toG (ofG x))) := by
  have k := obX_nu h.1
  exact ⟨⟨k.1.symm, k.2⟩, ⟨h.2.1.trans k.1.symm, fun i hi => h.2.2 i (by rw [← h.2.1]; exact hi)⟩, trivial⟩
theorem PdG.B {x : Gr} (h : PdG x) : ShB (ofG x) := h.1.1
theorem lst_B {s : Shp} (h : ShB s) : ShB (lst s) := by
  cases s with
  | nil => exact h.elim
  | mk k a b c r l n add sub => exact ⟨CtrB_ze, h.2.1, h.2.2⟩
theorem fil_B {s : Shp} (h : ShB s) (keep : Nat → Bool) : ShB (filL keep s) := by
  cases s with
  | nil => exact h.elim
  | mk k a b c r l n add sub =>
    refine ⟨CtrB_ze, Nat.le_trans (kN_le keep n) h.2.1, fun i hi => ?_⟩
    exact h.2.2 _ (kIx_lt keep hi).1
theorem ShB_nu {s : Shp} (h : ShB s) : nuO s ≤ 1000000000 := by
  cases s with
  | nil => exact h.elim
  | mk k a b c r l n add sub => exact h.2.1
noncomputable def nearE (x : Gr) (b : B4) : Gr := toG (nearG (ofG x) b)
theorem nearE_Pd {x : Gr} (h : PdG x) (b : B4) : PdG (nearE x b) := PdG_mk (lst_B (fil_B h.B _))
theorem gnear_all (x : Gr) (h : PdG x) (b : B4) : Dyn.CallD Tryz.prog 28 [dvG x, dvX b] (.val (dvG (nearE x b))) :=
  CallD_le (args := [dvG (toG (ofG x)), dvX b]) ⟨h.le, Dyn.DVLe.refl _, trivial⟩ (near_ok0 (ofG x) (ShB_nu h.B) b)
noncomputable def reachE (x : Sh) : Gr := toG (reachF (ofSh x))
theorem reachE_Pd {x : Sh} (h : PdS x) : PdG (reachE x) := PdG_mk (lst_B (fil_B h.1 _))
theorem greach_all (x : Sh) (h : PdS x) : Dyn.CallD Tryz.prog 27 [dvL x] (.val (dvG (reachE x))) :=
  CallD_le (args := [dvL (toSh (ofSh x))]) ⟨SLe.dvL h.2, trivial⟩ (greach_ok (ofSh x) h.1)
end Go.Proofs.YtfooaikpcbnchaaGreat

/-! ## Rgc -/
namespace Go.Proofs.YtfooaikpcbnchaaGreat
open Go Go.RowKit Sym
set_option maxRecDepth 100000

theorem run_enter {P : Program} {K : Nat} {fn : Func} (hf : P.funcs[K]? = some fn) (hn : (fn.name == "runtime.NumGoroutine") = false) (hb : fn.body.isSome = true) {us : Array Value} {w : World} : (callFunc K us).run P w = .ok (.enter K us) w := by
  obtain ⟨c, hc⟩ := Option.isSome_iff_exists.1 hb
  unfold callFunc
  simp only [Sem.run_bind, run_program, Result.andThen_ok, hf, hn, hc]
  simp
theorem callX_walk {P : Program} {K : Nat} {fn : Func} (hf : P.funcs[K]? = some fn) (hn : (fn.name == "runtime.NumGoroutine") = false) (hb : fn.body.isSome = true) {az : List Dyn.LA} {lent : Dyn.Lent} {u : Value} {out : List (List Value)}
    (h : ∀ (w : World) (F : Nat → Prop) (bs : List Nat) (us : List Value), Dyn.LentAt w bs lent → Dyn.DenLAs w F bs az us → Calls P K us.toArray w fun e w'' => e = .returned u ∧ Dyn.LentPost w w'' bs (Dyn.zipL lent out)) : Dyn.CallX P K az lent u out := by
  intro w F bs us hF hnd hdis hla hden
  rw [run_enter hf hn hb]
  exact ⟨rfl, h w F bs us hla hden⟩
/-- what a block of two cells shows -/
theorem cell0 {w : World} {b : Nat} {t : TypeId} {m a : Value} (h : w.heap[b]? = some (.cells [m, a].toArray t (0, 0))) : w.cell? ⟨b, 0, none⟩ = some m := by simp [World.cell?, h]
theorem cell1 {w : World} {b : Nat} {t : TypeId} {m a : Value} (h : w.heap[b]? = some (.cells [m, a].toArray t (0, 0))) : w.cell? ⟨b, 1, none⟩ = some a := by simp [World.cell?, h]
theorem froz1 {w : World} {b i : Nat} {t : TypeId} {m a : Value} (h : w.heap[b]? = some (.cells [m, a].toArray t (0, 0))) : w.frozen? ⟨b, i, none⟩ = false := by simp [World.frozen?, h]
theorem set1 {w : World} {b : Nat} {t : TypeId} {m a v : Value} (h : w.heap[b]? = some (.cells [m, a].toArray t (0, 0))) : (w.setCell ⟨b, 1, none⟩ v).heap[b]? = some (.cells [m, v].toArray t (0, 0)) := by
  simp [World.setCell, Array.getElem?_modify, h]
theorem setO {w : World} {b k i : Nat} {v : Value} (h : k ≠ b) : (w.setCell ⟨b, i, none⟩ v).heap[k]? = w.heap[k]? := by
  simp [World.setCell, Array.getElem?_modify, Ne.symm h]
theorem post_set {w w2 : World} {b : Nat} {t : TypeId} {m a v : Value} (h : w.heap[b]? = some (.cells [m, a].toArray t (0, 0))) (h1 : w2.heap = (w.setCell ⟨b, 1, none⟩ v).heap) (h2 : w2.os = w.os) (h3 : w2.tape = w.tape) (h4 : w2.output = w.output) : Dyn.LentPost w w2 [b] [(t, [m, v])] :=
  ⟨h2, h3, h4, by rw [h1, World.size_setCell]; exact Nat.le_refl _, fun k _ hk => by rw [h1]; exact setO (by simpa using hk), by rw [h1]; exact set1 h, trivial⟩
theorem lent1 {w : World} {F : Nat → Prop} {bs : List Nat} {us : List Value} {t : TypeId} {cs : List Value} {off : Nat} {l : List Dyn.LA} (hla : Dyn.LentAt w bs [(t, cs)]) (hden : Dyn.DenLAs w F bs (.lp 0 off :: l) us) : ∃ b vs, bs = [b] ∧ w.heap[b]? = some (.cells cs.toArray t (0, 0)) ∧ us = .pointer (some ⟨b, off, none⟩) :: vs ∧ Dyn.DenLAs w F [b] l vs := by
  match bs, hla with
  | [b], hla =>
    match us, hden with
    | u :: vs, hden =>
      obtain ⟨⟨b', h1, h2⟩, h3⟩ := hden
      simp only [List.getElem?_cons_zero, Option.some.injEq] at h1
      subst h1; subst h2
      exact ⟨b, vs, rfl, hla.1, rfl, h3⟩
def capM (x : Int) : Int := imax 0 (imin x 100000000)
theorem capM_1 {x : Int} (h : 100000000 < x) : capM x = 100000000 := by unfold capM imax imin; repeat' split <;> omega
theorem capM_2 {x : Int} (h : x ≤ 100000000) (h2 : 0 < x) : capM x = x := by unfold capM imax imin; repeat' split <;> omega
theorem capM_3 {x : Int} (h : x ≤ 0) : capM x = 0 := by unfold capM imax imin; repeat' split <;> omega
theorem heap_new (w : World) (o : Obj) : (w.alloc o).heap[w.heap.size]? = some o := by
  show (w.heap.push o)[w.heap.size]? = some o
  rw [Array.getElem?_push, if_pos rfl]
theorem newMeter_walk (x : Int) (w : World) : Calls Tryz.prog 15 #[vi x] w fun e w' => e = .returned (.pointer (some ⟨w.heap.size, 0, none⟩)) ∧ w' = w.alloc (.cells #[vi (capM x), vi 0] 81) := by
  go_enter Tryz.func15, Tryz.ntmps15
  go_wp2
  all_goals simp [bodyPost, results, Tryz.results15, go_sem]
  · rw [capM_1 h]
  · rename_i h2; rw [capM_2 h2 h]
  · rw [capM_3 h]
def nwM (K : Nat) : Option (Value → Option (TypeId × List Value)) := bif Nat.beq K 15 then some (fun v => match v with
  | .int .i64 x => some (81, [vi (capM x), vi 0])
  | _ => none) else none
theorem nwM_ok : ∀ K f, nwM K = some f → Dyn.NewP Tryz.prog K f := fun K f h u t cs hf w => by
  unfold nwM at h
  cases hk : Nat.beq K 15 with
  | false => rw [hk] at h; cases h
  | true =>
    rw [hk] at h
    have e := Nat.eq_of_beq_eq_true hk
    subst e
    simp only [cond_true, Option.some.injEq] at h
    subst h
    dsimp only at hf
    split at hf
    · rename_i x
      simp only [Option.some.injEq, Prod.mk.injEq] at hf
      obtain ⟨rfl, rfl⟩ := hf
      rw [run_enter Tryz.func15 (by kernel_rfl) (by kernel_rfl)]
      refine ⟨rfl, (newMeter_walk x w).mono ?_⟩
      rintro e w'' ⟨rfl, rfl⟩
      refine ⟨w.heap.size, rfl, heap_new w _, Nat.le_refl _, by rw [World.size_alloc]; omega, rfl, rfl, rfl, by rw [World.size_alloc]; omega, fun k hk => ?_⟩
      simp only [World.alloc, Array.getElem?_push]
      rw [if_neg (by omega)]
    · cases hf
theorem run_add {P : Program} (a d : Int) (w : World) : (Op.intArith .add .i64 a d).run P w = .ok (.int .i64 (W (a + d))) w := rfl
theorem add_walk (b : Nat) (m a d : Int) (t : TypeId) (w : World) (h : w.heap[b]? = some (.cells [vi m, vi a].toArray t (0, 0))) : Calls Tryz.prog 52 #[.pointer (some ⟨b, 1, none⟩), vi d] w fun e w' => e = .returned (vi (W (a + d))) ∧ w' = w.setCell ⟨b, 1, none⟩ (vi (W (a + d))) := by
  have hc : w.cell? ⟨b, 1, none⟩ = some (.int .i64 a) := cell1 h
  have hz : w.frozen? ⟨b, 1, none⟩ = false := froz1 h
  have hadd := run_call_add (P := Tryz.prog) Tryz.func86 (by kernel_rfl) (by kernel_rfl) (by kernel_rfl) .i64 (by kernel_rfl) (y := d) (s := W (a + d)) hc hz (run_add a d w)
  go_enter Tryz.func52, Tryz.ntmps52
  go_wp2
  simp [bodyPost, results, Tryz.results52, go_sem]
set_option maxHeartbeats 4000000 in
theorem take_walk (b : Nat) (m a : Int) (t : TypeId) (w : World) (h : w.heap[b]? = some (.cells [vi m, vi a].toArray t (0, 0))) : Calls Tryz.prog 41 #[.pointer (some ⟨b, 0, none⟩)] w fun e w' => e = .returned (vb (decide (W (a + 1) ≤ m))) ∧ Dyn.LentPost w w' [b] [(t, [vi m, vi (W (a + 1))])] := by
  have c0 : w.cell? ⟨b, 0, none⟩ = some (.int .i64 m) := cell0 h
  have c1 : w.cell? ⟨b, 1, none⟩ = some (.int .i64 a) := cell1 h
  go_enter Tryz.func41, Tryz.ntmps41
  go_wp2
  have c0' : ∀ v : Value, (w.drew.setCell ⟨b, 1, none⟩ v).cell? ⟨b, 0, none⟩ = some (.int .i64 m) := fun v => by rw [World.cell?_setCell_other _ _ _ _ (by simp)]; exact c0
  go_region_with (go_at_call 52; refine (add_walk b m a 1 t w.drew h).mono ?_; rintro e w'' ⟨rfl, rfl⟩)
  all_goals go_wp2
  all_goals simp [bodyPost, results, Tryz.results41, go_sem]
  all_goals exact post_set h rfl rfl rfl rfl
theorem take_x (m a : Int) : Dyn.CallX Tryz.prog 41 [.lp 0 0] [(81, [vi m, vi a])] (vb (decide (W (a + 1) ≤ m))) [[vi m, vi (W (a + 1))]] :=
  callX_walk Tryz.func41 (by kernel_rfl) (by kernel_rfl) fun w F bs us hla hden => by
    obtain ⟨b, vs, rfl, hb, rfl, hd⟩ := lent1 hla hden
    cases vs with
    | nil => exact take_walk b m a _ w hb
    | cons v vs => exact hd.elim
end Go.Proofs.YtfooaikpcbnchaaGreat

/-! ## Rgd -/
namespace Go.Proofs.YtfooaikpcbnchaaGreat
open Go Go.RowKit Sym
set_option maxRecDepth 100000

def mtL (most a : Int) : Dyn.Lent := [(81, [vi most, vi a])]
def mtO (most a : Int) : List (List Value) := [[vi most, vi a]]
def exV (lo hi e : Int) : Value := .tuple ⟨[.agg ⟨[vi lo, vi hi]⟩, vi e]⟩
def enTake : List Dyn.LA → Dyn.Lent → Option (Value × List (List Value) × List Prop)
  | [.lp 0 0], [(t, [.int .i64 most, .int .i64 a])] => match Nat.beq t 81 with
    | true => some (vb (decide (W (a + 1) ≤ most)), mtO most (W (a + 1)), [])
    | false => none
  | _, _ => none
theorem enTake_ok : Dyn.EntryXOk Tryz.prog (41, enTake) := fun az lent u out ps h hp => by
  dsimp only at h
  unfold enTake at h
  split at h
  · rename_i t most a
    split at h
    · rename_i ht
      have e1 := Nat.eq_of_beq_eq_true ht
      subst e1
      simp only [Option.some.injEq, Prod.mk.injEq] at h
      obtain ⟨rfl, rfl, rfl⟩ := h
      exact take_x most a
    · cases h
  · cases h
theorem CallX_le2 {P : Program} {K : Nat} {u u' v v' : Dyn.DV} {l : List Dyn.LA} {lent : Dyn.Lent} {r : Value} {o : List (List Value)} (h1 : Dyn.DVLe u u') (h2 : Dyn.DVLe v v') (k : Dyn.CallX P K (.d u' :: .d v' :: l) lent r o) : Dyn.CallX P K (.d u :: .d v :: l) lent r o := fun w F bs us hF hn hd hl hden => k w F bs us hF hn hd hl (by
  cases us with
  | nil => exact hden
  | cons x us =>
    cases us with
    | nil => exact ⟨Dyn.DenV_le h1 hden.1, hden.2⟩
    | cons y us => exact ⟨Dyn.DenV_le h1 hden.1, Dyn.DenV_le h2 hden.2.1, hden.2.2⟩)
abbrev ExF := Gr → B4 → Int → Int → ExR
def enExam (k : Int) (F : ExF) : List Dyn.LA → Dyn.Lent → Option (Value × List (List Value) × List Prop)
  | [.d g, .d u, .d (.one (.p (.int .i64 d))), .lp 0 0], [(t, [.int .i64 most, .int .i64 a])] => match qG g, aX u, decide (d = k), Nat.beq t 81 with
    | some (x, _), some b, true, true => some (exV (F x b most a).lo (F x b most a).hi (F x b most a).e, mtO most (F x b most a).a, [PdG x])
    | _, _, _, _ => none
  | _, _ => none
def ExamOk (k : Int) (F : ExF) : Prop := ∀ x, PdG x → ∀ b most a, Dyn.CallX Tryz.prog 29 [.d (dvG x), .d (dvX b), .d (dvI k), .lp 0 0] (mtL most a) (exV (F x b most a).lo (F x b most a).hi (F x b most a).e) (mtO most (F x b most a).a)
theorem enExam_ok {k : Int} {F : ExF} (ih : ExamOk k F) : Dyn.EntryXOk Tryz.prog (29, enExam k F) := fun az lent u out ps h hp => by
  dsimp only at h
  unfold enExam at h
  split at h
  · rename_i g u' d t most a
    split at h
    · rename_i x ps' b hg hb hd ht
      have e1 := Nat.eq_of_beq_eq_true ht
      subst e1
      have e2 := of_decide_eq_true hd
      subst e2
      simp only [Option.some.injEq, Prod.mk.injEq] at h
      obtain ⟨rfl, rfl, rfl⟩ := h
      have q := qG_ok _ _ _ hg (by
        unfold qG at hg; split at hg
        · simp only [Option.some.injEq, Prod.mk.injEq] at hg
          rw [← hg.2]; trivial
        · cases hg)
      exact CallX_le2 q.1 (aX_eq hb) (ih x hp.1 b most a)
    · cases h
  · cases h
noncomputable def tdEx : List Dyn.EntryD := [(17, en2D (qAnd qL PdS) qX fun x b => rI (pClass (ofSh x) b)), (28, en2D (qAnd qG PdG) qX fun x b => .val (dvG (nearE x b)))]
def drEx (K : Nat) : Bool := Nat.beq K 28 || Nat.beq K 29 || Nat.beq K 41
noncomputable def tabEx (k : Int) (F : ExF) : Dyn.Tabs := Dyn.tabsX tbF tdEx [(41, enTake), (29, enExam k F)] drEx dtyG false
theorem tabEx_ok {k : Int} {F : ExF} (ih : ExamOk k F) : Dyn.TabsOk Tryz.prog (tabEx k F) :=
  Dyn.tabsX_ok tbF_ok (List.forall_mem_cons.2 ⟨en2D_ok (qAnd_ok qL_ok) qX_ok fun x b h _ => pClass_all x h.1 b, List.forall_mem_cons.2 ⟨en2D_ok (qAnd_ok qG_ok) qX_ok fun x b h _ => gnear_all x h.1 b, fun _ h => by cases h⟩⟩) (List.forall_mem_cons.2 ⟨enTake_ok, List.forall_mem_cons.2 ⟨enExam_ok ih, fun _ h => by cases h⟩⟩)
noncomputable def clsE (x : Gr) (b : B4) : Int := pClass (ofSh (obX x.n x.f)) b
noncomputable def exC (F : ExF) (x : Gr) (b : B4) (most : Int) (i : Nat) (a : Int) : ExR := F (nearE x (spB b i)) (spB b i) most a
noncomputable def exS (x : Gr) (b : B4) (i : Nat) : List Prop := [PdG x, PdG (nearE x (spB b i))]
noncomputable def exQO (F : ExF) (x : Gr) (b : B4) (most a : Int) : Dyn.RX :=
  let r0 := exC F x b most 0 a
  let r1 := exC F x b most 1 r0.a
  let r2 := exC F x b most 2 r1.a
  let r3 := exC F x b most 3 r2.a
  .side (exS x b 0) (.ite (r0.e != 0) (.leaf (exV 0 0 r0.e) (mtO most r0.a))
  (.side (exS x b 1) (.ite (r1.e != 0) (.leaf (exV 0 0 r1.e) (mtO most r1.a))
  (.side (exS x b 2) (.ite (r2.e != 0) (.leaf (exV 0 0 r2.e) (mtO most r2.a))
  (.side (exS x b 3) (.ite (r3.e != 0) (.leaf (exV 0 0 r3.e) (mtO most r3.a))
    (.leaf (exV (W (W (W (W (0 + r0.lo) + r1.lo) + r2.lo) + r3.lo)) (W (W (W (W (0 + r0.hi) + r1.hi) + r2.hi) + r3.hi)) 0) (mtO most r3.a)))))))))
noncomputable def exO (d : Nat) (Q : Dyn.RX) (x : Gr) (b : B4) (most a : Int) : Dyn.RX :=
  .ite (!(decide (W (a + 1) ≤ most))) (.leaf (exV 0 0 6) (mtO most (W (a + 1))))
  (.side [PdS (obX x.n x.f)] (.ite (clsE x b == 0) (.leaf (exV 0 0 0) (mtO most (W (a + 1))))
  (.ite (clsE x b == 2) (.side [(0 : Int) ≤ W (2 * (d : Int))] (.leaf (exV (cellsN d) (cellsN d) 0) (mtO most (W (a + 1)))))
  (.ite ((d : Int) == 0) (.leaf (exV 0 1 0) (mtO most (W (a + 1)))) Q))))
noncomputable def tabE0 : Dyn.Tabs := Dyn.tabsX tbF tdEx [(41, enTake)] drEx dtyG false
theorem tabE0_ok : Dyn.TabsOk Tryz.prog tabE0 :=
  Dyn.tabsX_ok tbF_ok (List.forall_mem_cons.2 ⟨en2D_ok (qAnd_ok qL_ok) qX_ok fun x b h _ => pClass_all x h.1 b, List.forall_mem_cons.2 ⟨en2D_ok (qAnd_ok qG_ok) qX_ok fun x b h _ => gnear_all x h.1 b, fun _ h => by cases h⟩⟩) (List.forall_mem_cons.2 ⟨enTake_ok, fun _ h => by cases h⟩)
theorem ex_O0 (x : Gr) (b : B4) (most a : Int) : (Dyn.dfunX Tryz.prog tabE0 Dyn.noLp 8 Tryz.f29 (mtL most a) [.d (dvG x), .d (dvX b), .d (dvI 0), .lp 0 0]).rx Tryz.prog (mtL most a) Tryz.f29.results = exO 0 .fail x b most a := by kernel_rfl
theorem ex_O1 (F : ExF) (x : Gr) (b : B4) (most a : Int) : (Dyn.dfunX Tryz.prog (tabEx 0 F) Dyn.noLp 8 Tryz.f29 (mtL most a) [.d (dvG x), .d (dvX b), .d (dvI 1), .lp 0 0]).rx Tryz.prog (mtL most a) Tryz.f29.results = exO 1 (exQO F x b most (W (a + 1))) x b most a := by kernel_rfl
theorem ex_O2 (F : ExF) (x : Gr) (b : B4) (most a : Int) : (Dyn.dfunX Tryz.prog (tabEx 1 F) Dyn.noLp 8 Tryz.f29 (mtL most a) [.d (dvG x), .d (dvX b), .d (dvI 2), .lp 0 0]).rx Tryz.prog (mtL most a) Tryz.f29.results = exO 2 (exQO F x b most (W (a + 1))) x b most a := by kernel_rfl
theorem ex_O3 (F : ExF) (x : Gr) (b : B4) (most a : Int) : (Dyn.dfunX Tryz.prog (tabEx 2 F) Dyn.noLp 8 Tryz.f29 (mtL most a) [.d (dvG x), .d (dvX b), .d (dvI 3), .lp 0 0]).rx Tryz.prog (mtL most a) Tryz.f29.results = exO 3 (exQO F x b most (W (a + 1))) x b most a := by kernel_rfl
theorem ex_O4 (F : ExF) (x : Gr) (b : B4) (most a : Int) : (Dyn.dfunX Tryz.prog (tabEx 3 F) Dyn.noLp 8 Tryz.f29 (mtL most a) [.d (dvG x), .d (dvX b), .d (dvI 4), .lp 0 0]).rx Tryz.prog (mtL most a) Tryz.f29.results = exO 4 (exQO F x b most (W (a + 1))) x b most a := by kernel_rfl
theorem ex_O5 (F : ExF) (x : Gr) (b : B4) (most a : Int) : (Dyn.dfunX Tryz.prog (tabEx 4 F) Dyn.noLp 8 Tryz.f29 (mtL most a) [.d (dvG x), .d (dvX b), .d (dvI 5), .lp 0 0]).rx Tryz.prog (mtL most a) Tryz.f29.results = exO 5 (exQO F x b most (W (a + 1))) x b most a := by kernel_rfl
theorem ex_O6 (F : ExF) (x : Gr) (b : B4) (most a : Int) : (Dyn.dfunX Tryz.prog (tabEx 5 F) Dyn.noLp 8 Tryz.f29 (mtL most a) [.d (dvG x), .d (dvX b), .d (dvI 6), .lp 0 0]).rx Tryz.prog (mtL most a) Tryz.f29.results = exO 6 (exQO F x b most (W (a + 1))) x b most a := by kernel_rfl
noncomputable def exE (d : Nat) : ExF := fun x b most a => exF most d (ofG x) b a
theorem exE_z (x : Gr) (b : B4) (most a : Int) : exE 0 x b most a = exT most (clsE x b) (cellsN 0) (fun a => ⟨0, 1, 0, a⟩) a := by
  unfold exE clsE exF
  rw [← pClass_C]; rfl
theorem exF_lst (most : Int) (d : Nat) (s : Shp) : exF most d (lst s) = exF most d s := by cases d <;> rfl
theorem exE_s (d : Nat) (x : Gr) (b : B4) (most a : Int) : exE (d + 1) x b most a = exT most (clsE x b) (cellsN (d + 1)) (exQ (fun q a => exE d (nearE x q) q most a) b) a := by
  unfold exE clsE nearE
  simp only [ofG_toG, exF_lst]
  rw [show pClass (ofSh (obX x.n x.f)) b = pClassC (ofSh (obX x.n x.f)) b from pClass_C _ _]
  rfl
theorem exT_sat {d : Nat} {x : Gr} {b : B4} {most a : Int} {Q : Dyn.RX} {m : Int → ExR} (hx : PdG x) (h : (d : Int) = 0 → m (W (a + 1)) = ⟨0, 1, 0, W (a + 1)⟩) (hQ : (d : Int) ≠ 0 → Q.sat fun u os => u = exV (m (W (a + 1))).lo (m (W (a + 1))).hi (m (W (a + 1))).e ∧ os = mtO most (m (W (a + 1))).a) (hd : d ≤ 7) :
    (exO d Q x b most a).sat fun u os => u = exV (exT most (clsE x b) (cellsN d) m a).lo (exT most (clsE x b) (cellsN d) m a).hi (exT most (clsE x b) (cellsN d) m a).e ∧ os = mtO most (exT most (clsE x b) (cellsN d) m a).a := by
  unfold exT
  refine ⟨fun h1 => ?_, fun h1 => ⟨⟨hx.1, trivial⟩, fun h2 => ?_, fun h2 => ⟨fun h3 => ⟨⟨?_, trivial⟩, ?_⟩, fun h3 => ⟨fun h4 => ?_, fun h4 => ?_⟩⟩⟩⟩
  · rw [h1]; exact ⟨rfl, rfl⟩
  · rw [h1, h2]; exact ⟨rfl, rfl⟩
  · rw [W_id (by omega) (by omega)]; omega
  · rw [h1, h2, h3]; exact ⟨rfl, rfl⟩
  · rw [h1, h2, h3]
    have := h (by simpa using h4)
    simp only [cond_false]
    rw [this]; exact ⟨rfl, rfl⟩
  · rw [h1, h2, h3]
    exact hQ (by simpa using h4)
theorem exQ_sat (F : ExF) {x : Gr} (hx : PdG x) (b : B4) (most a : Int) : (exQO F x b most a).sat fun u os => u = exV (exQ (fun q a => F (nearE x q) q most a) b a).lo (exQ (fun q a => F (nearE x q) q most a) b a).hi (exQ (fun q a => F (nearE x q) q most a) b a).e ∧ os = mtO most (exQ (fun q a => F (nearE x q) q most a) b a).a := by
  have pd : ∀ i, Sym.allP (exS x b i) := fun i => ⟨hx, nearE_Pd hx _, trivial⟩
  unfold exQ
  refine ⟨pd 0, fun h0 => ?_, fun h0 => ⟨pd 1, fun h1 => ?_, fun h1 => ⟨pd 2, fun h2 => ?_, fun h2 => ⟨pd 3, fun h3 => ?_, fun h3 => ?_⟩⟩⟩⟩
  all_goals unfold exC at *
  · rw [h0]; exact ⟨rfl, rfl⟩
  · rw [h0, h1]; exact ⟨rfl, rfl⟩
  · rw [h0, h1, h2]; exact ⟨rfl, rfl⟩
  · rw [h0, h1, h2, h3]; exact ⟨rfl, rfl⟩
  · rw [h0, h1, h2, h3]; exact ⟨rfl, rfl⟩
theorem exam0 : ExamOk 0 (exE 0) := fun x hx b most a => by
  rw [exE_z]
  exact Dyn.xcontract (lp := Dyn.noLp) (fuel := 8) tabE0_ok mo Tryz.func29 (by kernel_rfl) (c := bodyD Tryz.f29.body) (by kernel_rfl) (fun w0 => Dyn.noLp_ok _ w0) (by kernel_rfl) (by kernel_rfl) (by kernel_rfl) (ex_O0 x b most a) (exT_sat (d := 0) hx (fun _ => rfl) (fun h => absurd rfl h) (by decide))
theorem exam1 : ExamOk 1 (exE 1) := fun x hx b most a => by
  rw [exE_s]
  exact Dyn.xcontract (lp := Dyn.noLp) (fuel := 8) (tabEx_ok exam0) mo Tryz.func29 (by kernel_rfl) (c := bodyD Tryz.f29.body) (by kernel_rfl) (fun w0 => Dyn.noLp_ok _ w0) (by kernel_rfl) (by kernel_rfl) (by kernel_rfl) (ex_O1 (exE 0) x b most a) (exT_sat (d := 1) hx (fun h => absurd h (by decide)) (fun _ => exQ_sat (exE 0) hx b most _) (by decide))
theorem exam2 : ExamOk 2 (exE 2) := fun x hx b most a => by
  rw [exE_s]
  exact Dyn.xcontract (lp := Dyn.noLp) (fuel := 8) (tabEx_ok exam1) mo Tryz.func29 (by kernel_rfl) (c := bodyD Tryz.f29.body) (by kernel_rfl) (fun w0 => Dyn.noLp_ok _ w0) (by kernel_rfl) (by kernel_rfl) (by kernel_rfl) (ex_O2 (exE 1) x b most a) (exT_sat (d := 2) hx (fun h => absurd h (by decide)) (fun _ => exQ_sat (exE 1) hx b most _) (by decide))
theorem exam3 : ExamOk 3 (exE 3) := fun x hx b most a => by
  rw [exE_s]
  exact Dyn.xcontract (lp := Dyn.noLp) (fuel := 8) (tabEx_ok exam2) mo Tryz.func29 (by kernel_rfl) (c := bodyD Tryz.f29.body) (by kernel_rfl) (fun w0 => Dyn.noLp_ok _ w0) (by kernel_rfl) (by kernel_rfl) (by kernel_rfl) (ex_O3 (exE 2) x b most a) (exT_sat (d := 3) hx (fun h => absurd h (by decide)) (fun _ => exQ_sat (exE 2) hx b most _) (by decide))
theorem exam4 : ExamOk 4 (exE 4) := fun x hx b most a => by
  rw [exE_s]
  exact Dyn.xcontract (lp := Dyn.noLp) (fuel := 8) (tabEx_ok exam3) mo Tryz.func29 (by kernel_rfl) (c := bodyD Tryz.f29.body) (by kernel_rfl) (fun w0 => Dyn.noLp_ok _ w0) (by kernel_rfl) (by kernel_rfl) (by kernel_rfl) (ex_O4 (exE 3) x b most a) (exT_sat (d := 4) hx (fun h => absurd h (by decide)) (fun _ => exQ_sat (exE 3) hx b most _) (by decide))
theorem exam5 : ExamOk 5 (exE 5) := fun x hx b most a => by
  rw [exE_s]
  exact Dyn.xcontract (lp := Dyn.noLp) (fuel := 8) (tabEx_ok exam4) mo Tryz.func29 (by kernel_rfl) (c := bodyD Tryz.f29.body) (by kernel_rfl) (fun w0 => Dyn.noLp_ok _ w0) (by kernel_rfl) (by kernel_rfl) (by kernel_rfl) (ex_O5 (exE 4) x b most a) (exT_sat (d := 5) hx (fun h => absurd h (by decide)) (fun _ => exQ_sat (exE 4) hx b most _) (by decide))
theorem exam6 : ExamOk 6 (exE 6) := fun x hx b most a => by
  rw [exE_s]
  exact Dyn.xcontract (lp := Dyn.noLp) (fuel := 8) (tabEx_ok exam5) mo Tryz.func29 (by kernel_rfl) (c := bodyD Tryz.f29.body) (by kernel_rfl) (fun w0 => Dyn.noLp_ok _ w0) (by kernel_rfl) (by kernel_rfl) (by kernel_rfl) (ex_O6 (exE 5) x b most a) (exT_sat (d := 6) hx (fun h => absurd h (by decide)) (fun _ => exQ_sat (exE 5) hx b most _) (by decide))
end Go.Proofs.YtfooaikpcbnchaaGreat

/-! ## Rge -/
namespace Go.Proofs.YtfooaikpcbnchaaGreat
open Go Go.RowKit Sym
set_option maxRecDepth 100000

noncomputable def tdCv : List Dyn.EntryD := [(27, en1D (qAnd qL PdS) fun x => .val (dvG (reachE x))), (28, en2D (qAnd qG PdG) qX fun x b => .val (dvG (nearE x b)))]
def drCv (K : Nat) : Bool := Nat.beq K 28 || Nat.beq K 27 || Nat.beq K 29
noncomputable def tabCv (k : Int) (F : ExF) : Dyn.Tabs := Dyn.tabsX tbF tdCv [(29, enExam k F)] drCv dtyG false
theorem tabCv_ok {k : Int} {F : ExF} (ih : ExamOk k F) : Dyn.TabsOk Tryz.prog (tabCv k F) :=
  Dyn.tabsX_ok tbF_ok (List.forall_mem_cons.2 ⟨en1D_ok (qAnd_ok qL_ok) fun x h => greach_all x h.1, List.forall_mem_cons.2 ⟨en2D_ok (qAnd_ok qG_ok) qX_ok fun x b h _ => gnear_all x h.1 b, fun _ h => by cases h⟩⟩) (List.forall_mem_cons.2 ⟨enExam_ok ih, fun _ h => by cases h⟩)
def gdF (g : Bool) (ps : List Prop) : Prop := some g = some false ∧ True → Sym.allP ps
theorem gdF_ok {g : Bool} {ps : List Prop} (h : Sym.allP ps) : gdF g ps := fun _ => h
def cvM (d : Int) : Int := W (1 * 2 ^ min d.toNat IntKind.i64.bits)
def cvBad (d u : Int) : Bool := bif W u == 0 then true else (W u).tmod (cvM d) != 0
def cvErr (most a : Int) : Dyn.RX := .leaf (exV 0 0 1) (mtO most a)
def cvG (d u : Int) : List Prop := [gdF (W u == 0) [0 ≤ d], gdF (W u == 0) [cvM d ≠ 0]]
def cvArg (d : Int) (b : B4) : Bool := bif bif decide (d < 0) then true else decide (d > 6) then true else !(boxOk b)
noncomputable def cvO (d : Int) (F : ExF) (x : Sh) (b : B4) (most a : Int) : Dyn.RX :=
  .ite (cvArg d b) (cvErr most a)
  (.side (cvG d (b.x1 - b.x0)) (.ite (cvBad d (b.x1 - b.x0)) (cvErr most a)
  (.side (cvG d (b.y1 - b.y0)) (.ite (cvBad d (b.y1 - b.y0)) (cvErr most a)
  (.side [PdS x, PdG (reachE x), PdG (nearE (reachE x) b)] (.leaf (exV (F (nearE (reachE x) b) b most a).lo (F (nearE (reachE x) b) b most a).hi (F (nearE (reachE x) b) b most a).e) (mtO most (F (nearE (reachE x) b) b most a).a)))))))
/-- what Cover gives -/
def coverF (most d : Int) (s : Shp) (b : B4) (a : Int) : ExR :=
  bif cvArg d b then exNo 1 a else bif cvBad d (b.x1 - b.x0) then exNo 1 a else bif cvBad d (b.y1 - b.y0) then exNo 1 a else exF most d.toNat (nearG (reachF s) b) b a
noncomputable def coverE (d : Int) (x : Sh) (b : B4) (most a : Int) : ExR := coverF most d (ofSh x) b a
theorem cv_sat {d : Nat} {x : Sh} (hx : PdS x) (hd : d ≤ 6) (b : B4) (most a : Int) : (cvO d (exE d) x b most a).sat fun u os => u = exV (coverE d x b most a).lo (coverE d x b most a).hi (coverE d x b most a).e ∧ os = mtO most (coverE d x b most a).a := by
  have hG : ∀ u, Sym.allP (cvG d u) := fun u => by
    have e : d = 0 ∨ d = 1 ∨ d = 2 ∨ d = 3 ∨ d = 4 ∨ d = 5 ∨ d = 6 := by omega
    exact ⟨gdF_ok ⟨by omega, trivial⟩, gdF_ok ⟨by rcases e with rfl | rfl | rfl | rfl | rfl | rfl | rfl <;> decide, trivial⟩, trivial⟩
  have er : exE d (nearE (reachE x) b) b most a = exF most d (nearG (reachF (ofSh x)) b) b a := by
    unfold exE nearE reachE
    rw [ofG_toG, ofG_toG, exF_lst]; rfl
  unfold coverE coverF
  refine ⟨fun h1 => ?_, fun h1 => ⟨hG _, fun h2 => ?_, fun h2 => ⟨hG _, fun h3 => ?_, fun h3 => ⟨⟨hx, reachE_Pd hx, nearE_Pd (reachE_Pd hx) b, trivial⟩, ?_⟩⟩⟩⟩
  · rw [h1]; exact ⟨rfl, rfl⟩
  · rw [h1, h2]; exact ⟨rfl, rfl⟩
  · rw [h1, h2, h3]; exact ⟨rfl, rfl⟩
  · rw [h1, h2, h3, er]; exact ⟨rfl, rfl⟩
theorem cv_O0 (F : ExF) (n : Nat) (f : Nat → List Dyn.DC) (b : B4) (most a : Int) : (Dyn.dfunX Tryz.prog (tabCv 0 F) Dyn.noLp 8 Tryz.f14 (mtL most a) [.d (dvL (obX n f)), .d (dvX b), .d (dvI 0), .lp 0 0]).rx Tryz.prog (mtL most a) Tryz.f14.results = cvO 0 F (obX n f) b most a := by kernel_rfl
theorem cover0 (n : Nat) (f : Nat → List Dyn.DC) (hx : PdS (obX n f)) (b : B4) (most a : Int) : Dyn.CallX Tryz.prog 14 [.d (dvL (obX n f)), .d (dvX b), .d (dvI 0), .lp 0 0] (mtL most a) (exV (coverE 0 (obX n f) b most a).lo (coverE 0 (obX n f) b most a).hi (coverE 0 (obX n f) b most a).e) (mtO most (coverE 0 (obX n f) b most a).a) :=
  Dyn.xcontract (lp := Dyn.noLp) (fuel := 8) (tabCv_ok exam0) mo Tryz.func14 (by kernel_rfl) (c := bodyD Tryz.f14.body) (by kernel_rfl) (fun w0 => Dyn.noLp_ok _ w0) (by kernel_rfl) (by kernel_rfl) (by kernel_rfl) (cv_O0 (exE 0) n f b most a) (cv_sat (d := 0) hx (by decide) b most a)
theorem cv_O1 (F : ExF) (n : Nat) (f : Nat → List Dyn.DC) (b : B4) (most a : Int) : (Dyn.dfunX Tryz.prog (tabCv 1 F) Dyn.noLp 8 Tryz.f14 (mtL most a) [.d (dvL (obX n f)), .d (dvX b), .d (dvI 1), .lp 0 0]).rx Tryz.prog (mtL most a) Tryz.f14.results = cvO 1 F (obX n f) b most a := by kernel_rfl
theorem cover1 (n : Nat) (f : Nat → List Dyn.DC) (hx : PdS (obX n f)) (b : B4) (most a : Int) : Dyn.CallX Tryz.prog 14 [.d (dvL (obX n f)), .d (dvX b), .d (dvI 1), .lp 0 0] (mtL most a) (exV (coverE 1 (obX n f) b most a).lo (coverE 1 (obX n f) b most a).hi (coverE 1 (obX n f) b most a).e) (mtO most (coverE 1 (obX n f) b most a).a) :=
  Dyn.xcontract (lp := Dyn.noLp) (fuel := 8) (tabCv_ok exam1) mo Tryz.func14 (by kernel_rfl) (c := bodyD Tryz.f14.body) (by kernel_rfl) (fun w0 => Dyn.noLp_ok _ w0) (by kernel_rfl) (by kernel_rfl) (by kernel_rfl) (cv_O1 (exE 1) n f b most a) (cv_sat (d := 1) hx (by decide) b most a)
theorem cv_O2 (F : ExF) (n : Nat) (f : Nat → List Dyn.DC) (b : B4) (most a : Int) : (Dyn.dfunX Tryz.prog (tabCv 2 F) Dyn.noLp 8 Tryz.f14 (mtL most a) [.d (dvL (obX n f)), .d (dvX b), .d (dvI 2), .lp 0 0]).rx Tryz.prog (mtL most a) Tryz.f14.results = cvO 2 F (obX n f) b most a := by kernel_rfl
theorem cover2 (n : Nat) (f : Nat → List Dyn.DC) (hx : PdS (obX n f)) (b : B4) (most a : Int) : Dyn.CallX Tryz.prog 14 [.d (dvL (obX n f)), .d (dvX b), .d (dvI 2), .lp 0 0] (mtL most a) (exV (coverE 2 (obX n f) b most a).lo (coverE 2 (obX n f) b most a).hi (coverE 2 (obX n f) b most a).e) (mtO most (coverE 2 (obX n f) b most a).a) :=
  Dyn.xcontract (lp := Dyn.noLp) (fuel := 8) (tabCv_ok exam2) mo Tryz.func14 (by kernel_rfl) (c := bodyD Tryz.f14.body) (by kernel_rfl) (fun w0 => Dyn.noLp_ok _ w0) (by kernel_rfl) (by kernel_rfl) (by kernel_rfl) (cv_O2 (exE 2) n f b most a) (cv_sat (d := 2) hx (by decide) b most a)
theorem cv_O3 (F : ExF) (n : Nat) (f : Nat → List Dyn.DC) (b : B4) (most a : Int) : (Dyn.dfunX Tryz.prog (tabCv 3 F) Dyn.noLp 8 Tryz.f14 (mtL most a) [.d (dvL (obX n f)), .d (dvX b), .d (dvI 3), .lp 0 0]).rx Tryz.prog (mtL most a) Tryz.f14.results = cvO 3 F (obX n f) b most a := by kernel_rfl
theorem cover3 (n : Nat) (f : Nat → List Dyn.DC) (hx : PdS (obX n f)) (b : B4) (most a : Int) : Dyn.CallX Tryz.prog 14 [.d (dvL (obX n f)), .d (dvX b), .d (dvI 3), .lp 0 0] (mtL most a) (exV (coverE 3 (obX n f) b most a).lo (coverE 3 (obX n f) b most a).hi (coverE 3 (obX n f) b most a).e) (mtO most (coverE 3 (obX n f) b most a).a) :=
  Dyn.xcontract (lp := Dyn.noLp) (fuel := 8) (tabCv_ok exam3) mo Tryz.func14 (by kernel_rfl) (c := bodyD Tryz.f14.body) (by kernel_rfl) (fun w0 => Dyn.noLp_ok _ w0) (by kernel_rfl) (by kernel_rfl) (by kernel_rfl) (cv_O3 (exE 3) n f b most a) (cv_sat (d := 3) hx (by decide) b most a)
theorem cv_O4 (F : ExF) (n : Nat) (f : Nat → List Dyn.DC) (b : B4) (most a : Int) : (Dyn.dfunX Tryz.prog (tabCv 4 F) Dyn.noLp 8 Tryz.f14 (mtL most a) [.d (dvL (obX n f)), .d (dvX b), .d (dvI 4), .lp 0 0]).rx Tryz.prog (mtL most a) Tryz.f14.results = cvO 4 F (obX n f) b most a := by kernel_rfl
theorem cover4 (n : Nat) (f : Nat → List Dyn.DC) (hx : PdS (obX n f)) (b : B4) (most a : Int) : Dyn.CallX Tryz.prog 14 [.d (dvL (obX n f)), .d (dvX b), .d (dvI 4), .lp 0 0] (mtL most a) (exV (coverE 4 (obX n f) b most a).lo (coverE 4 (obX n f) b most a).hi (coverE 4 (obX n f) b most a).e) (mtO most (coverE 4 (obX n f) b most a).a) :=
  Dyn.xcontract (lp := Dyn.noLp) (fuel := 8) (tabCv_ok exam4) mo Tryz.func14 (by kernel_rfl) (c := bodyD Tryz.f14.body) (by kernel_rfl) (fun w0 => Dyn.noLp_ok _ w0) (by kernel_rfl) (by kernel_rfl) (by kernel_rfl) (cv_O4 (exE 4) n f b most a) (cv_sat (d := 4) hx (by decide) b most a)
theorem cv_O5 (F : ExF) (n : Nat) (f : Nat → List Dyn.DC) (b : B4) (most a : Int) : (Dyn.dfunX Tryz.prog (tabCv 5 F) Dyn.noLp 8 Tryz.f14 (mtL most a) [.d (dvL (obX n f)), .d (dvX b), .d (dvI 5), .lp 0 0]).rx Tryz.prog (mtL most a) Tryz.f14.results = cvO 5 F (obX n f) b most a := by kernel_rfl
theorem cover5 (n : Nat) (f : Nat → List Dyn.DC) (hx : PdS (obX n f)) (b : B4) (most a : Int) : Dyn.CallX Tryz.prog 14 [.d (dvL (obX n f)), .d (dvX b), .d (dvI 5), .lp 0 0] (mtL most a) (exV (coverE 5 (obX n f) b most a).lo (coverE 5 (obX n f) b most a).hi (coverE 5 (obX n f) b most a).e) (mtO most (coverE 5 (obX n f) b most a).a) :=
  Dyn.xcontract (lp := Dyn.noLp) (fuel := 8) (tabCv_ok exam5) mo Tryz.func14 (by kernel_rfl) (c := bodyD Tryz.f14.body) (by kernel_rfl) (fun w0 => Dyn.noLp_ok _ w0) (by kernel_rfl) (by kernel_rfl) (by kernel_rfl) (cv_O5 (exE 5) n f b most a) (cv_sat (d := 5) hx (by decide) b most a)
theorem cv_O6 (F : ExF) (n : Nat) (f : Nat → List Dyn.DC) (b : B4) (most a : Int) : (Dyn.dfunX Tryz.prog (tabCv 6 F) Dyn.noLp 8 Tryz.f14 (mtL most a) [.d (dvL (obX n f)), .d (dvX b), .d (dvI 6), .lp 0 0]).rx Tryz.prog (mtL most a) Tryz.f14.results = cvO 6 F (obX n f) b most a := by kernel_rfl
theorem cover6 (n : Nat) (f : Nat → List Dyn.DC) (hx : PdS (obX n f)) (b : B4) (most a : Int) : Dyn.CallX Tryz.prog 14 [.d (dvL (obX n f)), .d (dvX b), .d (dvI 6), .lp 0 0] (mtL most a) (exV (coverE 6 (obX n f) b most a).lo (coverE 6 (obX n f) b most a).hi (coverE 6 (obX n f) b most a).e) (mtO most (coverE 6 (obX n f) b most a).a) :=
  Dyn.xcontract (lp := Dyn.noLp) (fuel := 8) (tabCv_ok exam6) mo Tryz.func14 (by kernel_rfl) (c := bodyD Tryz.f14.body) (by kernel_rfl) (fun w0 => Dyn.noLp_ok _ w0) (by kernel_rfl) (by kernel_rfl) (by kernel_rfl) (cv_O6 (exE 6) n f b most a) (cv_sat (d := 6) hx (by decide) b most a)
theorem cover_ok {d : Int} (h0 : 0 ≤ d) (h6 : d ≤ 6) (n : Nat) (f : Nat → List Dyn.DC) (hx : PdS (obX n f)) (b : B4) (most a : Int) : Dyn.CallX Tryz.prog 14 [.d (dvL (obX n f)), .d (dvX b), .d (dvI d), .lp 0 0] (mtL most a) (exV (coverE d (obX n f) b most a).lo (coverE d (obX n f) b most a).hi (coverE d (obX n f) b most a).e) (mtO most (coverE d (obX n f) b most a).a) := by
  have e : d = 0 ∨ d = 1 ∨ d = 2 ∨ d = 3 ∨ d = 4 ∨ d = 5 ∨ d = 6 := by omega
  rcases e with rfl | rfl | rfl | rfl | rfl | rfl | rfl
  · exact cover0 n f hx b most a
  · exact cover1 n f hx b most a
  · exact cover2 n f hx b most a
  · exact cover3 n f hx b most a
  · exact cover4 n f hx b most a
  · exact cover5 n f hx b most a
  · exact cover6 n f hx b most a
end Go.Proofs.YtfooaikpcbnchaaGreat

/-! ## Pim -/
namespace Go.Proofs.YtfooaikpcbnchaaGreat
open Go Go.RowKit Sym
set_option maxRecDepth 100000

/-- q lies in b -/
structure Sb (q b : B4) : Prop where
  fa : b.x0 ≤ q.x0
  x : q.x0 ≤ q.x1
  fb : q.x1 ≤ b.x1
  fc : b.y0 ≤ q.y0
  y : q.y0 ≤ q.y1
  fd : q.y1 ≤ b.y1
theorem Sb.has {q b : B4} (h : Sb q b) {p : P2} (k : hasI q p) : hasI b p := by
  have := h.fa; have := h.fb; have := h.fc; have := h.fd
  obtain ⟨k1, k2, k3, k4⟩ := k
  exact ⟨by omega, by omega, by omega, by omega⟩
theorem Sb.cor {q b : B4} (h : Sb q b) {p : P2} (k : isC q p) : hasI b p := h.has (isC_has h.x h.y k)
theorem Sb.near {q b : B4} (h : Sb q b) (p : P2) : nearI b p ≤ nearI q p := by
  have := h.fa; have := h.fb; have := h.fc; have := h.fd; have := h.x; have := h.y
  have gx : 0 ≤ gapI p.x b.x0 b.x1 ∧ gapI p.x b.x0 b.x1 ≤ gapI p.x q.x0 q.x1 := by unfold gapI; repeat' split <;> omega
  have gy : 0 ≤ gapI p.y b.y0 b.y1 ∧ gapI p.y b.y0 b.y1 ≤ gapI p.y q.y0 q.y1 := by unfold gapI; repeat' split <;> omega
  have := Int.mul_le_mul gx.2 gx.2 gx.1 (by omega)
  have := Int.mul_le_mul gy.2 gy.2 gy.1 (by omega)
  unfold nearI
  omega
theorem Sb.most {q b : B4} (h : Sb q b) (p : P2) : mostI q p ≤ mostI b p := by
  have := h.fa; have := h.fb; have := h.fc; have := h.fd; have := h.x; have := h.y
  have gx : 0 ≤ reachI p.x q.x0 q.x1 ∧ reachI p.x q.x0 q.x1 ≤ reachI p.x b.x0 b.x1 := by unfold reachI; omega
  have gy : 0 ≤ reachI p.y q.y0 q.y1 ∧ reachI p.y q.y0 q.y1 ≤ reachI p.y b.y0 b.y1 := by unfold reachI; omega
  have := Int.mul_le_mul gx.2 gx.2 gx.1 (by omega)
  have := Int.mul_le_mul gy.2 gy.2 gy.1 (by omega)
  unfold mostI
  omega
theorem Sb.pos {q b : B4} (h : Sb q b) {a c : P2} (k : all4 (fun z => decide (crossI a c z > 0)) b = true) : all4 (fun z => decide (crossI a c z > 0)) q = true := by
  rw [all4_iff] at k ⊢
  intro z hz
  obtain ⟨w, hw, hl⟩ := cross_le a c (h.cor hz)
  have := k w hw
  rw [decide_eq_true_eq] at this ⊢; omega
theorem Sb.neg {q b : B4} (h : Sb q b) {a c : P2} (k : all4 (fun z => decide (crossI a c z < 0)) b = true) : all4 (fun z => decide (crossI a c z < 0)) q = true := by
  rw [all4_iff] at k ⊢
  intro z hz
  obtain ⟨w, hw, hl⟩ := cross_ge a c (h.cor hz)
  have := k w hw
  rw [decide_eq_true_eq] at this ⊢; omega
theorem Sb.meets {q b : B4} (h : Sb q b) {a c : P2} (k : meetsI q a c = true) : meetsI b a c = true := by
  have := h.fa; have := h.fb; have := h.fc; have := h.fd; have := h.x; have := h.y
  unfold meetsI at k ⊢
  simp only [Bool.and_eq_true, Bool.not_eq_true'] at k ⊢
  obtain ⟨k1, k2, k3⟩ := k
  refine ⟨?_, ?_, ?_⟩
  · unfold sepI at k1 ⊢
    simp only [Bool.or_eq_false_iff, decide_eq_false_iff_not] at k1 ⊢
    omega
  · cases e : all4 (fun z => decide (crossI a c z > 0)) b
    · rfl
    · rw [h.pos e] at k2; cases k2
  · cases e : all4 (fun z => decide (crossI a c z < 0)) b
    · rfl
    · rw [h.neg e] at k3; cases k3
/-- a class, and that of a smaller box -/
structure Ref (k j : Int) : Prop where
  k0 : 0 ≤ k
  k2 : k ≤ 2
  j0 : 0 ≤ j
  j2 : j ≤ 2
  e : k ≠ 1 → j = k
theorem Ref.of {k j : Int} (hk : k = 0 ∨ k = 1 ∨ k = 2) (hj : j = 0 ∨ j = 1 ∨ j = 2) (h2 : k = 2 → j = 2) (h0 : k = 0 → j = 0) : Ref k j := ⟨by omega, by omega, by omega, by omega, fun h => by omega⟩
end Go.Proofs.YtfooaikpcbnchaaGreat

/-! ## Pin -/
namespace Go.Proofs.YtfooaikpcbnchaaGreat
open Go Go.RowKit Sym
set_option maxRecDepth 100000

end Go.Proofs.YtfooaikpcbnchaaGreat

/-! ## Rgf -/
namespace Go.Proofs.YtfooaikpcbnchaaGreat
open Go Go.RowKit Sym
set_option maxRecDepth 100000

end Go.Proofs.YtfooaikpcbnchaaGreat

/-! ## Rgh -/
namespace Go.Proofs.YtfooaikpcbnchaaGreat
open Go Go.RowKit Sym
set_option maxRecDepth 100000

theorem CallX_d1 {P : Program} {K : Nat} {u u' v v' : Dyn.DV} {l : List Dyn.LA} {lent : Dyn.Lent} {r : Value} {o : List (List Value)} (h1 : DVd u u') (h2 : Dyn.DVLe v v') (k : Dyn.CallX P K (.d u' :: .d v' :: l) lent r o) : Dyn.CallX P K (.d u :: .d v :: l) lent r o := fun w F bs us hF hn hd hl hden => k w F bs us hF hn hd hl (by
  cases us with
  | nil => exact hden
  | cons x us =>
    cases us with
    | nil => exact ⟨DVd.den h1 hden.1, hden.2⟩
    | cons y us => exact ⟨DVd.den h1 hden.1, Dyn.DenV_le h2 hden.2.1, hden.2.2⟩)
/-! ### a polygon of four points, as a program writes it -/
theorem DLe.tr {c d : Dyn.DC} {P : Program} {K : Nat} {v' : Dyn.DV} {l : List Dyn.LA} {lent : Dyn.Lent} {r : Value} {o : List (List Value)} (h : DLe c d) (k : Dyn.CallX P K (.d (.one d) :: .d v' :: l) lent r o) : Dyn.CallX P K (.d (.one c) :: .d v' :: l) lent r o := CallX_d1 (show DVd (.one c) (.one d) from h) (Dyn.DVLe.refl _) k
end Go.Proofs.YtfooaikpcbnchaaGreat

/-! ## Tue -/
namespace Go.Proofs.YtfooaikpcbnchaaGreat
open Go Go.RowKit Sym
set_option maxRecDepth 100000

def an (a b : Bool) : Bool := bif a then b else false
end Go.Proofs.YtfooaikpcbnchaaGreat

/-! ## Tuf -/
namespace Go.Proofs.YtfooaikpcbnchaaGreat
open Go Go.RowKit Sym
set_option maxRecDepth 100000

end Go.Proofs.YtfooaikpcbnchaaGreat

/-! ## Fir -/
namespace Go.Proofs.YtfooaikpcbnchaaGreat
open Go Go.RowKit Sym
set_option maxRecDepth 100000

end Go.Proofs.YtfooaikpcbnchaaGreat

/-! ## Bnb -/
namespace Go.Proofs.YtfooaikpcbnchaaGreat
open Go Go.RowKit Sym
set_option maxRecDepth 100000

/-! ### the root, rounded up -/
/-! ### boxes around points -/
/-- no point in common -/
def Off (U b : B4) : Prop := U.x1 < b.x0 ∨ b.x1 < U.x0 ∨ U.y1 < b.y0 ∨ b.y1 < U.y0
/-! ### discs, strokes, bars -/
end Go.Proofs.YtfooaikpcbnchaaGreat

/-! ## Rio -/
namespace Go.Proofs.YtfooaikpcbnchaaGreat
open Go Go.RowKit Sym
set_option maxRecDepth 100000

end Go.Proofs.YtfooaikpcbnchaaGreat

/-! ## Bnc -/
namespace Go.Proofs.YtfooaikpcbnchaaGreat
open Go Go.RowKit Sym
set_option maxRecDepth 100000

/-! ### rings -/
/-! ### contours -/
/-! ### bounds that are put together -/
structure In4 (a U : B4) : Prop where
  x0 : U.x0 ≤ a.x0
  y0 : U.y0 ≤ a.y0
  x1 : a.x1 ≤ U.x1
  y1 : a.y1 ≤ U.y1
theorem In4.has {a U : B4} {p : P2} (h : In4 a U) (k : hasI a p) : hasI U p := by
  obtain ⟨h1, h2, h3, h4⟩ := h
  unfold hasI at *
  omega
theorem In4.trans {a b c : B4} (h : In4 a b) (k : In4 b c) : In4 a c := ⟨Int.le_trans k.x0 h.x0, Int.le_trans k.y0 h.y0, Int.le_trans h.x1 k.x1, Int.le_trans h.y1 k.y1⟩
end Go.Proofs.YtfooaikpcbnchaaGreat

/-! ## Bnd -/
namespace Go.Proofs.YtfooaikpcbnchaaGreat
open Go Go.RowKit Sym
set_option maxRecDepth 100000

/-! ### the points of contours, one box after the other -/
end Go.Proofs.YtfooaikpcbnchaaGreat

/-! ## Rpo -/
namespace Go.Proofs.YtfooaikpcbnchaaGreat
open Go Go.RowKit Sym
set_option maxRecDepth 100000

theorem Off.sub {a U b : B4} (h : In4 a U) (k : Off U b) : Off a b := by
  obtain ⟨h1, h2, h3, h4⟩ := h
  unfold Off at *
  omega
/-- a class -/
def R3 (x : Int) : Prop := 0 ≤ x ∧ x ≤ 2
theorem r0 : R3 0 := by unfold R3; omega
theorem r1 : R3 1 := by unfold R3; omega
theorem r2 : R3 2 := by unfold R3; omega
theorem b3 {c : Bool} {x y : Int} (hx : R3 x) (hy : R3 y) : R3 (bif c then x else y) := by
  cases c
  · exact hy
  · exact hx
theorem R3.cases {x : Int} (h : R3 x) : x = 0 ∨ x = 1 ∨ x = 2 := by unfold R3 at h; omega
/-- objects such as may be -/
structure GoodO (s : Shp) : Prop where
  ref : ∀ i, i < nuO s → ∀ b q, Sb q b → Fits b → Fits q → Ref (figClassC (suO s i) b) (figClassC (suO s i) q)
  rch : ∀ i, i < nuO s → (figBndC (suO s i)).2 = false → ∀ b, Fits b → figClassC (suO s i) b = 0
  near : ∀ i, i < nuO s → hbF (suO s i) = false → ∀ b, Fits b → apart (figBndC (suO s i)).1 b = true → ∀ q, Sb q b → Fits q → figClassC (suO s i) q = 0
theorem Off.box {U b q : B4} (h : Sb q b) (k : Off U b) : Off U q := by
  obtain ⟨h1, h2, h3, h4, h5, h6⟩ := h
  unfold Off at *
  omega
end Go.Proofs.YtfooaikpcbnchaaGreat

/-! ## Rpq -/
namespace Go.Proofs.YtfooaikpcbnchaaGreat
open Go Go.RowKit Sym
set_option maxRecDepth 100000

/-- a box that may be split so often -/
def Dv (d : Nat) (b : B4) : Prop := Fits b ∧ ∃ w h : Int, 1 ≤ w ∧ 1 ≤ h ∧ b.x1 - b.x0 = w * ((2 ^ d : Nat) : Int) ∧ b.y1 - b.y0 = h * ((2 ^ d : Nat) : Int)
theorem two_step (d : Nat) (w : Int) : w * ((2 ^ (d + 1) : Nat) : Int) = 2 * (w * ((2 ^ d : Nat) : Int)) := by
  rw [Nat.pow_succ, Int.natCast_mul]
  show w * (((2 ^ d : Nat) : Int) * 2) = _
  rw [← Int.mul_assoc, Int.mul_comm]
theorem two_pos (d : Nat) {w : Int} (h : 1 ≤ w) : 1 ≤ w * ((2 ^ d : Nat) : Int) := by
  have : 1 ≤ ((2 ^ d : Nat) : Int) := by have := Nat.two_pow_pos d; omega
  have := Int.mul_le_mul h this (by omega) (by omega)
  omega
theorem Dv.ok {d : Nat} {b : B4} (h : Dv (d + 1) b) : splOk b = true := by
  obtain ⟨hf, w, k, hw, hk, e1, e2⟩ := h
  rw [two_step] at e1 e2
  have p1 := two_pos d hw
  have p2 := two_pos d hk
  generalize w * ((2 ^ d : Nat) : Int) = u at *
  generalize k * ((2 ^ d : Nat) : Int) = v at *
  have := hf.x0; have := hf.x1; have := hf.y0; have := hf.y1
  unfold splOk
  rw [(boxOk_iff b).2 hf, W_id (x := b.x1 - b.x0) (by omega) (by omega), W_id (x := b.y1 - b.y0) (by omega) (by omega), e1, e2]
  rw [show (2 * u == 0) = false by simp; omega, show (2 * v == 0) = false by simp; omega, show ((2 * u).tmod 2 != 0) = false by rw [Int.tmod_eq_emod_of_nonneg (by omega)]; simp, show ((2 * v).tmod 2 != 0) = false by rw [Int.tmod_eq_emod_of_nonneg (by omega)]; simp]
  rfl
theorem Dv.half {d : Nat} {b : B4} (h : Dv (d + 1) b) : ∃ mx my : Int, (b.x0 < mx ∧ 2 * mx = b.x0 + b.x1) ∧ (b.y0 < my ∧ 2 * my = b.y0 + b.y1) ∧ spB b 0 = ⟨b.x0, b.y0, mx, my⟩ ∧ spB b 1 = ⟨mx, b.y0, b.x1, my⟩ ∧ spB b 2 = ⟨b.x0, my, mx, b.y1⟩ ∧ ∀ i, spB b (i + 3) = ⟨mx, my, b.x1, b.y1⟩ := by
  obtain ⟨h1, h2, h3, h4, h5⟩ := spl_of h.1 h.ok
  refine ⟨midX b, midY b, ⟨h2, h4⟩, ⟨h3, h5⟩, ?_, ?_, ?_, fun i => ?_⟩
  · show (⟨spl b 0 b.x0, spl b 0 b.y0, spl b 0 (midX b), spl b 0 (midY b)⟩ : B4) = _
    simp only [h1]
  · show (⟨spl b 0 (midX b), spl b 0 b.y0, spl b 0 b.x1, spl b 0 (midY b)⟩ : B4) = _
    simp only [h1]
  · show (⟨spl b 0 b.x0, spl b 0 (midY b), spl b 0 (midX b), spl b 0 b.y1⟩ : B4) = _
    simp only [h1]
  · show (⟨spl b 0 (midX b), spl b 0 (midY b), spl b 0 b.x1, spl b 0 b.y1⟩ : B4) = _
    simp only [h1]
theorem Dv.sub {d : Nat} {b : B4} (h : Dv (d + 1) b) (i : Nat) : Dv d (spB b i) ∧ Sb (spB b i) b := by
  obtain ⟨mx, my, ⟨x1, x2⟩, ⟨y1, y2⟩, e0, e1, e2, e3⟩ := h.half
  obtain ⟨hf, w, k, hw, hk, g1, g2⟩ := h
  rw [two_step] at g1 g2
  have f1 := hf.x0; have f2 := hf.x; have f3 := hf.x1; have f4 := hf.y0; have f5 := hf.y; have f6 := hf.y1
  match i with
  | 0 => rw [e0]; exact ⟨⟨⟨f1, by dsimp only; omega, by dsimp only; omega, f4, by dsimp only; omega, by dsimp only; omega⟩, w, k, hw, hk, by dsimp only; omega, by dsimp only; omega⟩, ⟨by dsimp only; omega, by dsimp only; omega, by dsimp only; omega, by dsimp only; omega, by dsimp only; omega, by dsimp only; omega⟩⟩
  | 1 => rw [e1]; exact ⟨⟨⟨by dsimp only; omega, by dsimp only; omega, f3, f4, by dsimp only; omega, by dsimp only; omega⟩, w, k, hw, hk, by dsimp only; omega, by dsimp only; omega⟩, ⟨by dsimp only; omega, by dsimp only; omega, by dsimp only; omega, by dsimp only; omega, by dsimp only; omega, by dsimp only; omega⟩⟩
  | 2 => rw [e2]; exact ⟨⟨⟨f1, by dsimp only; omega, by dsimp only; omega, by dsimp only; omega, by dsimp only; omega, f6⟩, w, k, hw, hk, by dsimp only; omega, by dsimp only; omega⟩, ⟨by dsimp only; omega, by dsimp only; omega, by dsimp only; omega, by dsimp only; omega, by dsimp only; omega, by dsimp only; omega⟩⟩
  | i + 3 => rw [e3]; exact ⟨⟨⟨by dsimp only; omega, by dsimp only; omega, f3, by dsimp only; omega, by dsimp only; omega, f6⟩, w, k, hw, hk, by dsimp only; omega, by dsimp only; omega⟩, ⟨by dsimp only; omega, by dsimp only; omega, by dsimp only; omega, by dsimp only; omega, by dsimp only; omega, by dsimp only; omega⟩⟩
theorem Sb.trans {a b c : B4} (h : Sb a b) (k : Sb b c) : Sb a c := by
  obtain ⟨h1, h2, h3, h4, h5, h6⟩ := h
  obtain ⟨k1, k2, k3, k4, k5, k6⟩ := k
  exact ⟨by omega, h2, by omega, by omega, h5, by omega⟩
theorem Sb.self {b : B4} (h : Fits b) : Sb b b := ⟨Int.le_refl _, h.x, Int.le_refl _, Int.le_refl _, h.y, Int.le_refl _⟩
/-- a result of so many looks at most -/
structure ExOk (r : ExR) (c : Int × Int) (a n : Int) : Prop where
  lo : r.lo = c.1
  hi : r.hi = c.2
  e : r.e = 0
  a1 : a + 1 ≤ r.a
  a2 : r.a ≤ a + n
/-! ### finer cells -/
end Go.Proofs.YtfooaikpcbnchaaGreat

/-! ## Rgk -/
namespace Go.Proofs.YtfooaikpcbnchaaGreat
open Go Go.RowKit Sym
set_option maxRecDepth 100000

end Go.Proofs.YtfooaikpcbnchaaGreat

/-! ## Rgj -/
namespace Go.Proofs.YtfooaikpcbnchaaGreat
open Go Go.RowKit Sym
set_option maxRecDepth 100000

/-! ### a disc around (0, 0), as a program writes it -/
def d1S (r : Int) : Shp := leafS 1 ze ze ze r zeC
def d1L (r : Int) : Shp := lForm 1 (fun _ => true) (fun _ => d1S r)
def d1R (r : Int) : Nat → List Dyn.DC := fun _ => [.p (vb true), cI 1, cI 0, cI 0, cI 0, cI 0, cI 0, cI 0, cI r, .row 0 noF, .row 0 noF]
theorem d1_le (r : Int) : DLe (.row 1 (d1R r)) (.row 1 fun _ => partC true (toSh (d1S r))) :=
  DLe.rowL fun i _ => ⟨.refl _, .refl _, .refl _, .refl _, .refl _, .refl _, .refl _, .refl _, .refl _, DLe.rowL fun i hi => absurd hi (Nat.not_lt_zero i), DLe.rowL fun i hi => absurd hi (Nat.not_lt_zero i), trivial⟩
theorem d1_B (r : Int) : ShB (d1L r) := ⟨CtrB_ze, by decide, fun i _ => ⟨CtrB_ze, by decide, fun i hi => absurd hi (Nat.not_lt_zero i)⟩⟩
theorem cover_L {d : Int} (h0 : 0 ≤ d) (h6 : d ≤ 6) {n : Nat} {add : Nat → Bool} {sub : Nat → Shp} (hB : ShB (lForm n add sub)) (b : B4) (most a : Int) : Dyn.CallX Tryz.prog 14 [.d (.one (.row n fun i => partC (add i) (toSh (sub i)))), .d (dvX b), .d (dvI d), .lp 0 0] (mtL most a) (exV (coverF most d (lForm n add sub) b a).lo (coverF most d (lForm n add sub) b a).hi (coverF most d (lForm n add sub) b a).e) (mtO most (coverF most d (lForm n add sub) b a).a) := by
  have k := cover_ok h0 h6 n (fun i => partC (add i) (toSh (sub i))) (PdS_mk hB) b most a
  unfold coverE at k
  rw [show ofSh (obX n fun i => partC (add i) (toSh (sub i))) = lForm n add sub from ofSh_toSh (lForm n add sub)] at k
  exact k
/-! ### plain -/
end Go.Proofs.YtfooaikpcbnchaaGreat

/-! ## Sur -/
namespace Go.Proofs.YtfooaikpcbnchaaGreat
open Go Go.RowKit Sym
set_option maxRecDepth 100000

def dkF : Nat → List Dyn.DC := fun _ => cB true :: dC 10
def dkL (n : Nat) : Shp := lForm n (fun _ => true) (fun _ => discS 10)
theorem dk_le (n : Nat) : DLe (.row n dkF) (.row n fun _ => partC true (toSh (discS 10))) := DLe.rowL fun _ _ => ⟨.refl _, dC_le 10⟩
def dkK (b : B4) : Bool := !(apart (aroundF ze ze 10) b)
def dkN (n : Nat) (b : B4) (i : Nat) : Nat := bif dkK b then i else 0
def nkS (n : Nat) (b : B4) (c : Nat) (i : Int) : Dyn.St := mkS 40 [(3, sL 1), (5, sH 2 0 c), (10, sH 0 0 n), (11, sI n), (12, sI i)] [some (.deep [.row n dkF]), some (.cells 28 (bxV b)), some (.own 38 c dkF)]
def nkK : List Nat := [3, 5, 10, 11, 12]
def nkLp (n : Nat) (b : B4) : Dyn.Lp := fun id st => match id with
  | 0 => some (.side [Dyn.nilSlot 5 38 dkF (keepA 40 [0, 1] [] nkK (2 ^ 12) st) = nkS n b 0 0] (.leaf .normal (nkS n b (dkN n b n) n)))
  | _ => none
def nkE : Prop := (1 : Int) = 1 ∧ (0 : Int) = 0 ∧ (0 : Int) = 0 ∧ (0 : Int) = 0 ∧ (0 : Int) = 0 ∧ (0 : Int) = 0 ∧ (0 : Int) = 0 ∧ 0 = 0 ∧ 0 = 0
def nkB (n : Nat) (b : B4) (c i : Nat) : Dyn.Out :=
  .ite (decide ((i : Int) < n)) (.side [0 ≤ (i : Int) ∧ (i : Int) < n] (.side [1 ≤ (10 : Int) ∧ (10 : Int) ≤ 1000, nkE] (.ite (dkK b) (.side [True, nkE, szP 120 c] (.leaf .normal (mkS 40 [(3, sL 1), (5, sH 2 0 (c + 1)), (10, sH 0 0 n), (11, sI n), (12, sI (W (i + 1)))] [some (.deep [.row n dkF]), some (.cells 28 (bxV b)), some (.own 38 (c + 1) (Dyn.appF c dkF (fun _ => dkF 0)))])))
    (.leaf .normal (nkS n b c (W (i + 1))))))) (.leaf (.exit 0) (nkS n b c i))
theorem nk_B (n : Nat) (b : B4) (c i : Nat) : (Dyn.lexec Tryz.prog tabNr (nkLp n b) 3 (unloopD (blkD Tryz.f31.body 0)) .leaf (nkS n b c i)).rl (fun _ s => keepA 40 [0, 1] [5] nkK 0 s) = nkB n b c i := by kernel_rfl
theorem nk_blocks : blocksL (bodyD Tryz.f31.body) = [(0, .loop (unloopD (blkD Tryz.f31.body 0))), (1, blkD Tryz.f31.body 1)] := by kernel_rfl
theorem nk_b0 : blocksL (unloopD (blkD Tryz.f31.body 0)) = [(1, blkD Tryz.f31.body 1)] := by kernel_rfl
theorem dkN_le (n : Nat) (b : B4) (i : Nat) : dkN n b i ≤ i := by unfold dkN; cases dkK b <;> simp
theorem nk_loop (n : Nat) (b : B4) (hn : n ≤ 1000) (w0 : Dyn.Base Tryz.prog) (st : Dyn.St) (o : Dyn.Out) (h : nkLp n b 0 st = some o) : Dyn.BlockSound Tryz.prog w0 0 (.loop (unloopD (blkD Tryz.f31.body 0))) st o := by
  simp only [nkLp, Option.some.injEq] at h
  subst h
  refine side_one fun hS => ?_
  refine fold_block (fuel := 3) tabNr_ok mo (lp := nkLp n b) (by rw [nk_b0]; exact lpOk_cons (fun s o h => by cases h) lpOk_nil) (fun i (_ : Unit) => nkS n b (dkN n b i) i) n (fun _ _ => ()) () (fun _ s => keepA 40 [0, 1] [5] nkK 0 s) (fun _ s => keepA_ent 40 _ _ _ 0 s) (fun i _ => nkB n b (dkN n b i) i) (fun i _ => nk_B n b (dkN n b i) i) (fun i hi => ?_) ?_ ?_
  · have hk := dkN_le n b i
    refine ⟨fun _ => ⟨⟨⟨by omega, by omega⟩, trivial⟩, ⟨by decide, ⟨rfl, rfl, rfl, rfl, rfl, rfl, rfl, rfl, rfl⟩, trivial⟩, fun hx => ⟨⟨trivial, ⟨rfl, rfl, rfl, rfl, rfl, rfl, rfl, rfl, rfl⟩, szP_ok (by decide) (by omega), trivial⟩, rfl, ?_⟩, fun hx => ⟨rfl, ?_⟩⟩, fun hf => ?_⟩
    · rw [Wn1 hi (by omega), show dkN n b (i + 1) = dkN n b i + 1 by unfold dkN; rw [hx]; rfl]
      exact ⟨rfl, Dyn.HeLe.refl _, Dyn.HeLe.refl _, le_app rfl, trivial⟩
    · rw [Wn1 hi (by omega), show dkN n b (i + 1) = dkN n b i by unfold dkN; rw [hx]; rfl]; exact Dyn.Fits.refl _
    · rw [decide_eq_false_iff_not] at hf; omega
  · refine ⟨fun ht => ?_, fun _ => ⟨rfl, Dyn.Fits.refl _⟩⟩
    rw [decide_eq_true_eq] at ht; omega
  · have z : nkS n b (dkN n b 0) ((0 : Nat) : Int) = nkS n b 0 0 := by rw [show dkN n b 0 = 0 by unfold dkN; cases dkK b <;> rfl]; rfl
    rw [z]
    exact hS ▸ (keepA_ent 40 _ _ _ _ st).trans (Dyn.Ent.nilSlot (P := Tryz.prog) (k := 10) (by kernel_rfl) _ _)
theorem nk_O (n : Nat) (b : B4) : (Dyn.dfun Tryz.prog tabNr (nkLp n b) 3 Tryz.f31 [.one (.row n dkF), dvX b]).ro Tryz.prog Tryz.f31.results = .side [nkS n b 0 0 = nkS n b 0 0] (.leaf (.val (.one (.row (dkN n b n) dkF)))) := by kernel_rfl
theorem nearD (n : Nat) (hn : n ≤ 1000) (b : B4) : Dyn.CallD Tryz.prog 31 [.one (.row n dkF), dvX b] (.val (.one (.row (dkN n b n) dkF))) :=
  Dyn.dcontract (lp := nkLp n b) (fuel := 3) tabNr_ok mo Tryz.func31 (by kernel_rfl) (c := bodyD Tryz.f31.body) (by kernel_rfl)
    (fun w0 => by rw [nk_blocks]; exact lpOk_cons (nk_loop n b hn w0) (lpOk_cons (fun s o h => by cases h) lpOk_nil))
    (by kernel_rfl) (nk_O n b) ⟨⟨rfl, trivial⟩, ro_leaf rfl⟩
/-! ### what shows a list of discs -/
def dkP (n : Nat) (f : Nat → List Dyn.DC) : List Prop := [DLe (.row n f) (.row n dkF), n ≤ 1000]
theorem dk_B (n : Nat) (hn : n ≤ 1000) : ShB (dkL n) := ⟨CtrB_ze, by show n ≤ _; omega, fun i _ => disc_B 10⟩
/-- a contract over lists of discs, as one over rows that show them -/
theorem dk_call {K : Nat} {n : Nat} {f : Nat → List Dyn.DC} {l : List Dyn.DV} {r : Dyn.RV} (h : DLe (.row n f) (.row n dkF)) (k : Dyn.CallD Tryz.prog K (dvL (toSh (dkL n)) :: l) r) : Dyn.CallD Tryz.prog K (.one (.row n f) :: l) r :=
  CallD_d1 (show DVd (.one _) (.one _) from h) (CallD_d1 (show DVd (.one _) (.one _) from dk_le n) k)
def dkH (n : Nat) (p : P2) : Bool := bif Nat.beq n 0 then false else hasF (discS 10) p
theorem pHas_dk (p : P2) : ∀ n, pHas (dkL n) p = dkH n p
  | 0 => rfl
  | n + 1 => by
    have ih := pHas_dk p n
    show (bif figHasS (discS 10) p then true else pHas (dkL n) p) = hasF (discS 10) p
    rw [ih, figHasD (by decide)]
    unfold dkH
    cases hasF (discS 10) p <;> cases Nat.beq n 0 <;> rfl
def enPtD : List Dyn.DV → Option (Dyn.RV × List Prop)
  | [.one (.row n f), u, .one (.p (.int .i64 a))] => match aX u with
    | some b => some (.tup [dvI (ptsA (dkH n) b a), dvI (ptsB b a)], dkP n f)
    | none => none
  | _ => none
theorem enPtD_ok : Dyn.EntryDOk Tryz.prog (7, enPtD) := fun args r ps h hp => by
  dsimp only at h
  unfold enPtD at h
  split at h
  · rename_i n f u a
    split at h
    · rename_i b hb
      simp only [Option.some.injEq, Prod.mk.injEq] at h
      obtain ⟨rfl, rfl⟩ := h
      have k := points_ok n (fun _ => partC true (toSh (discS 10))) (PdS_mk (dk_B n hp.2.1)) b a
      rw [show hasL n (fun _ => partC true (toSh (discS 10))) = dkH n from funext fun p => by
        unfold hasL
        rw [show ofSh (obX n fun _ => partC true (toSh (discS 10))) = dkL n from ofSh_toSh (dkL n), pHas_dk]] at k
      exact dk_call hp.1 (CallD_le (args := [dvL (toSh (dkL n)), dvX b, dvI a]) ⟨Dyn.DVLe.refl _, aX_eq hb, Dyn.DVLe.refl _, trivial⟩ k)
    · cases h
  · cases h
def enNrD : List Dyn.DV → Option (Dyn.RV × List Prop)
  | [.one (.row n f), u] => match aX u with
    | some b => some (.val (.one (.row (dkN n b n) dkF)), dkP n f)
    | none => none
  | _ => none
theorem enNrD_ok : Dyn.EntryDOk Tryz.prog (31, enNrD) := fun args r ps h hp => by
  dsimp only at h
  unfold enNrD at h
  split at h
  · rename_i n f u
    split at h
    · rename_i b hb
      simp only [Option.some.injEq, Prod.mk.injEq] at h
      obtain ⟨rfl, rfl⟩ := h
      exact CallD_d1 (show DVd (.one _) (.one _) from hp.1) (CallD_le (args := [.one (.row n dkF), dvX b]) ⟨Dyn.DVLe.refl _, aX_eq hb, trivial⟩ (nearD n hp.2.1 b))
    · cases h
  · cases h
def enClD : List Dyn.DV → Option (Dyn.RV × List Prop)
  | [.one (.row n f), u] => match aX u with
    | some b => some (rI (pClassC (dkL n) b), dkP n f)
    | none => none
  | _ => none
theorem enClD_ok : Dyn.EntryDOk Tryz.prog (17, enClD) := fun args r ps h hp => by
  dsimp only at h
  unfold enClD at h
  split at h
  · rename_i n f u
    split at h
    · rename_i b hb
      simp only [Option.some.injEq, Prod.mk.injEq] at h
      obtain ⟨rfl, rfl⟩ := h
      have k := pClass_ok (dkL n) (dk_B n hp.2.1) b
      rw [pClass_C] at k
      exact dk_call hp.1 (CallD_le (args := [dvL (toSh (dkL n)), dvX b]) ⟨Dyn.DVLe.refl _, aX_eq hb, trivial⟩ k)
    · cases h
  · cases h
/-! ### uniform, agrees -/
def uniF : Nat → Nat → B4 → Int → Bool → Bool
  | 0, n, b, a, q => bif q then ptsA (dkH n) b a == ptsB b a else ptsA (dkH n) b a == 0
  | d + 1, n, b, a, q => bif uniF d (dkN n (spB b 0) n) (spB b 0) a q then bif uniF d (dkN n (spB b 1) n) (spB b 1) a q then bif uniF d (dkN n (spB b 2) n) (spB b 2) a q then uniF d (dkN n (spB b 3) n) (spB b 3) a q else false else false else false
theorem dkN_n (n : Nat) (b : B4) (h : n ≤ 1000) : dkN n b n ≤ 1000 := Nat.le_trans (dkN_le n b n) h
abbrev UnF := Nat → B4 → Int → Bool → Bool
def enUn (k : Int) (F : UnF) : List Dyn.DV → Option (Dyn.RV × List Prop)
  | [.one (.row n f), u, .one (.p (.int .i64 d)), .one (.p (.int .i64 a)), .one (.p (.bool q))] => match aX u, decide (d = k) with
    | some b, true => some (rB (F n b a q), dkP n f)
    | _, _ => none
  | _ => none
def UnOk (k : Int) (F : UnF) : Prop := ∀ n, n ≤ 1000 → ∀ b a q, Dyn.CallD Tryz.prog 30 [.one (.row n dkF), dvX b, dvI k, dvI a, dvB q] (rB (F n b a q))
theorem enUn_ok {k : Int} {F : UnF} (ih : UnOk k F) : Dyn.EntryDOk Tryz.prog (30, enUn k F) := fun args r ps h hp => by
  dsimp only at h
  unfold enUn at h
  split at h
  · rename_i n f u d a q
    split at h
    · rename_i b hb hd
      have e2 := of_decide_eq_true hd
      subst e2
      simp only [Option.some.injEq, Prod.mk.injEq] at h
      obtain ⟨rfl, rfl⟩ := h
      exact CallD_d1 (show DVd (.one _) (.one _) from hp.1) (CallD_le (args := [.one (.row n dkF), dvX b, dvI d, dvI a, dvB q]) ⟨Dyn.DVLe.refl _, aX_eq hb, Dyn.DVLe.refl _, Dyn.DVLe.refl _, Dyn.DVLe.refl _, trivial⟩ (ih n hp.2.1 b a q))
    · cases h
  · cases h
def drUn (K : Nat) : Bool := Nat.beq K 31
noncomputable def tabU0 : Dyn.Tabs := Dyn.tabs tbF [(7, enPtD), (31, enNrD)] drUn dtyG
theorem tabU0_ok : Dyn.TabsOk Tryz.prog tabU0 := Dyn.tabs_ok tbF_ok (List.forall_mem_cons.2 ⟨enPtD_ok, List.forall_mem_cons.2 ⟨enNrD_ok, fun _ h => by cases h⟩⟩)
noncomputable def tabUk (k : Int) (F : UnF) : Dyn.Tabs := Dyn.tabs tbF [(7, enPtD), (31, enNrD), (30, enUn k F)] drUn dtyG
theorem tabUk_ok {k : Int} {F : UnF} (ih : UnOk k F) : Dyn.TabsOk Tryz.prog (tabUk k F) := Dyn.tabs_ok tbF_ok (List.forall_mem_cons.2 ⟨enPtD_ok, List.forall_mem_cons.2 ⟨enNrD_ok, List.forall_mem_cons.2 ⟨enUn_ok ih, fun _ h => by cases h⟩⟩⟩)
def unS (n : Nat) (b : B4) (i : Nat) : List Prop := dkP n dkF ++ dkP (dkN n (spB b i) n) dkF
def unQ (F : UnF) (n : Nat) (b : B4) (a : Int) (q : Bool) : Dyn.RO :=
  .side (unS n b 0) (.ite (!(F (dkN n (spB b 0) n) (spB b 0) a q)) (.leaf (rB false)) (.side (unS n b 1) (.ite (!(F (dkN n (spB b 1) n) (spB b 1) a q)) (.leaf (rB false)) (.side (unS n b 2) (.ite (!(F (dkN n (spB b 2) n) (spB b 2) a q)) (.leaf (rB false)) (.side (unS n b 3) (.ite (!(F (dkN n (spB b 3) n) (spB b 3) a q)) (.leaf (rB false)) (.leaf (rB true)))))))))
def unO (d : Int) (Q : Dyn.RO) (n : Nat) (b : B4) (a : Int) (q : Bool) : Dyn.RO :=
  .ite (d == 0) (.side (dkP n dkF) (.ite q (.leaf (rB (ptsA (dkH n) b a == ptsB b a))) (.leaf (rB (ptsA (dkH n) b a == 0))))) Q
theorem un_O0 (n : Nat) (b : B4) (a : Int) (q : Bool) : (Dyn.dfun Tryz.prog tabU0 Dyn.noLp 8 Tryz.f30 [.one (.row n dkF), dvX b, dvI 0, dvI a, dvB q]).ro Tryz.prog Tryz.f30.results = unO 0 .fail n b a q := by kernel_rfl
theorem un_O1 (F : UnF) (n : Nat) (b : B4) (a : Int) (q : Bool) : (Dyn.dfun Tryz.prog (tabUk 0 F) Dyn.noLp 8 Tryz.f30 [.one (.row n dkF), dvX b, dvI 1, dvI a, dvB q]).ro Tryz.prog Tryz.f30.results = unO 1 (unQ F n b a q) n b a q := by kernel_rfl
theorem un_O2 (F : UnF) (n : Nat) (b : B4) (a : Int) (q : Bool) : (Dyn.dfun Tryz.prog (tabUk 1 F) Dyn.noLp 8 Tryz.f30 [.one (.row n dkF), dvX b, dvI 2, dvI a, dvB q]).ro Tryz.prog Tryz.f30.results = unO 2 (unQ F n b a q) n b a q := by kernel_rfl
theorem un_sat {d : Nat} {n : Nat} (hn : n ≤ 1000) (b : B4) (a : Int) (q : Bool) : (unQ (uniF d) n b a q).sat fun r => Dyn.RVLe r (rB (uniF (d + 1) n b a q)) := by
  have pd : ∀ i, Sym.allP (unS n b i) := fun i => ⟨.refl _, hn, .refl _, dkN_n n _ hn, trivial⟩
  unfold uniF
  refine ⟨pd 0, fun h0 => ?_, fun h0 => ⟨pd 1, fun h1 => ?_, fun h1 => ⟨pd 2, fun h2 => ?_, fun h2 => ⟨pd 3, fun h3 => ?_, fun h3 => ?_⟩⟩⟩⟩
  · rw [show uniF d (dkN n (spB b 0) n) (spB b 0) a q = false by simpa using h0]; exact ro_leaf rfl
  · rw [show uniF d (dkN n (spB b 0) n) (spB b 0) a q = true by simpa using h0, show uniF d (dkN n (spB b 1) n) (spB b 1) a q = false by simpa using h1]; exact ro_leaf rfl
  · rw [show uniF d (dkN n (spB b 0) n) (spB b 0) a q = true by simpa using h0, show uniF d (dkN n (spB b 1) n) (spB b 1) a q = true by simpa using h1, show uniF d (dkN n (spB b 2) n) (spB b 2) a q = false by simpa using h2]; exact ro_leaf rfl
  · rw [show uniF d (dkN n (spB b 0) n) (spB b 0) a q = true by simpa using h0, show uniF d (dkN n (spB b 1) n) (spB b 1) a q = true by simpa using h1, show uniF d (dkN n (spB b 2) n) (spB b 2) a q = true by simpa using h2, show uniF d (dkN n (spB b 3) n) (spB b 3) a q = false by simpa using h3]; exact ro_leaf rfl
  · rw [show uniF d (dkN n (spB b 0) n) (spB b 0) a q = true by simpa using h0, show uniF d (dkN n (spB b 1) n) (spB b 1) a q = true by simpa using h1, show uniF d (dkN n (spB b 2) n) (spB b 2) a q = true by simpa using h2, show uniF d (dkN n (spB b 3) n) (spB b 3) a q = true by simpa using h3]; exact ro_leaf rfl
theorem un0 : UnOk 0 (uniF 0) := fun n hn b a q =>
  Dyn.dcontract (lp := Dyn.noLp) (fuel := 8) tabU0_ok mo Tryz.func30 (by kernel_rfl) (c := bodyD Tryz.f30.body) (by kernel_rfl) (fun w0 => Dyn.noLp_ok _ w0) (by kernel_rfl) (un_O0 n b a q) (by
    refine ⟨fun _ => ⟨⟨.refl _, hn, trivial⟩, fun h => ?_, fun h => ?_⟩, fun h => (by cases h)⟩
    · subst h; exact ro_leaf rfl
    · subst h; exact ro_leaf rfl)
theorem un1 : UnOk 1 (uniF 1) := fun n hn b a q =>
  Dyn.dcontract (lp := Dyn.noLp) (fuel := 8) (tabUk_ok un0) mo Tryz.func30 (by kernel_rfl) (c := bodyD Tryz.f30.body) (by kernel_rfl) (fun w0 => Dyn.noLp_ok _ w0) (by kernel_rfl) (un_O1 (uniF 0) n b a q) ⟨fun h => (by cases h), fun _ => un_sat hn b a q⟩
theorem un2 : UnOk 2 (uniF 2) := fun n hn b a q =>
  Dyn.dcontract (lp := Dyn.noLp) (fuel := 8) (tabUk_ok un1) mo Tryz.func30 (by kernel_rfl) (c := bodyD Tryz.f30.body) (by kernel_rfl) (fun w0 => Dyn.noLp_ok _ w0) (by kernel_rfl) (un_O2 (uniF 1) n b a q) ⟨fun h => (by cases h), fun _ => un_sat hn b a q⟩
end Go.Proofs.YtfooaikpcbnchaaGreat

/-! ## Sus -/
namespace Go.Proofs.YtfooaikpcbnchaaGreat
open Go Go.RowKit Sym
set_option maxRecDepth 100000

def agrF : Nat → Nat → B4 → Int → Bool
  | 0, n, b, a => bif pClassC (dkL n) b != 1 then uniF 0 (dkN n b n) b a (pClassC (dkL n) b == 2) else true
  | d + 1, n, b, a => bif pClassC (dkL n) b != 1 then uniF (d + 1) (dkN n b n) b a (pClassC (dkL n) b == 2) else
    bif agrF d n (spB b 0) a then bif agrF d n (spB b 1) a then bif agrF d n (spB b 2) a then agrF d n (spB b 3) a else false else false else false
abbrev AgF := Nat → B4 → Int → Bool
def enAg (k : Int) (F : AgF) : List Dyn.DV → Option (Dyn.RV × List Prop)
  | [.one (.row n f), u, .one (.p (.int .i64 d)), .one (.p (.int .i64 a))] => match aX u, decide (d = k) with
    | some b, true => some (rB (F n b a), dkP n f)
    | _, _ => none
  | _ => none
def AgOk (k : Int) (F : AgF) : Prop := ∀ n, n ≤ 1000 → ∀ b a, Dyn.CallD Tryz.prog 16 [.one (.row n dkF), dvX b, dvI k, dvI a] (rB (F n b a))
theorem enAg_ok {k : Int} {F : AgF} (ih : AgOk k F) : Dyn.EntryDOk Tryz.prog (16, enAg k F) := fun args r ps h hp => by
  dsimp only at h
  unfold enAg at h
  split at h
  · rename_i n f u d a
    split at h
    · rename_i b hb hd
      have e2 := of_decide_eq_true hd
      subst e2
      simp only [Option.some.injEq, Prod.mk.injEq] at h
      obtain ⟨rfl, rfl⟩ := h
      exact CallD_d1 (show DVd (.one _) (.one _) from hp.1) (CallD_le (args := [.one (.row n dkF), dvX b, dvI d, dvI a]) ⟨Dyn.DVLe.refl _, aX_eq hb, Dyn.DVLe.refl _, Dyn.DVLe.refl _, trivial⟩ (ih n hp.2.1 b a))
    · cases h
  · cases h
noncomputable def tabA0 : Dyn.Tabs := Dyn.tabs tbF [(17, enClD), (31, enNrD), (30, enUn 0 (uniF 0))] drUn dtyG
theorem tabA0_ok : Dyn.TabsOk Tryz.prog tabA0 := Dyn.tabs_ok tbF_ok (List.forall_mem_cons.2 ⟨enClD_ok, List.forall_mem_cons.2 ⟨enNrD_ok, List.forall_mem_cons.2 ⟨enUn_ok un0, fun _ h => by cases h⟩⟩⟩)
noncomputable def tabAk (k : Int) (U : UnF) (j : Int) (F : AgF) : Dyn.Tabs := Dyn.tabs tbF [(17, enClD), (31, enNrD), (30, enUn k U), (16, enAg j F)] drUn dtyG
theorem tabAk_ok {k j : Int} {U : UnF} {F : AgF} (hu : UnOk k U) (ih : AgOk j F) : Dyn.TabsOk Tryz.prog (tabAk k U j F) := Dyn.tabs_ok tbF_ok (List.forall_mem_cons.2 ⟨enClD_ok, List.forall_mem_cons.2 ⟨enNrD_ok, List.forall_mem_cons.2 ⟨enUn_ok hu, List.forall_mem_cons.2 ⟨enAg_ok ih, fun _ h => by cases h⟩⟩⟩⟩)
def agQ (F : AgF) (n : Nat) (b : B4) (a : Int) : Dyn.RO :=
  .side (dkP n dkF) (.ite (!(F n (spB b 0) a)) (.leaf (rB false)) (.side (dkP n dkF) (.ite (!(F n (spB b 1) a)) (.leaf (rB false)) (.side (dkP n dkF) (.ite (!(F n (spB b 2) a)) (.leaf (rB false)) (.side (dkP n dkF) (.ite (!(F n (spB b 3) a)) (.leaf (rB false)) (.leaf (rB true)))))))))
def agO (d : Int) (U : UnF) (Q : Dyn.RO) (n : Nat) (b : B4) (a : Int) : Dyn.RO :=
  .side (dkP n dkF) (.ite (pClassC (dkL n) b != 1) (.side (dkP n dkF ++ dkP (dkN n b n) dkF) (.leaf (rB (U (dkN n b n) b a (pClassC (dkL n) b == 2))))) (.ite (d == 0) (.leaf (rB true)) Q))
theorem ag_O0 (n : Nat) (b : B4) (a : Int) : (Dyn.dfun Tryz.prog tabA0 Dyn.noLp 8 Tryz.f16 [.one (.row n dkF), dvX b, dvI 0, dvI a]).ro Tryz.prog Tryz.f16.results = agO 0 (uniF 0) .fail n b a := by kernel_rfl
theorem ag_O1 (U : UnF) (F : AgF) (n : Nat) (b : B4) (a : Int) : (Dyn.dfun Tryz.prog (tabAk 1 U 0 F) Dyn.noLp 8 Tryz.f16 [.one (.row n dkF), dvX b, dvI 1, dvI a]).ro Tryz.prog Tryz.f16.results = agO 1 U (agQ F n b a) n b a := by kernel_rfl
theorem ag_O2 (U : UnF) (F : AgF) (n : Nat) (b : B4) (a : Int) : (Dyn.dfun Tryz.prog (tabAk 2 U 1 F) Dyn.noLp 8 Tryz.f16 [.one (.row n dkF), dvX b, dvI 2, dvI a]).ro Tryz.prog Tryz.f16.results = agO 2 U (agQ F n b a) n b a := by kernel_rfl
theorem ag_sat {d : Nat} {n : Nat} (hn : n ≤ 1000) (b : B4) (a : Int) (hd : (((d + 1 : Nat) : Int) == 0) = false) : (agO ((d + 1 : Nat) : Int) (uniF (d + 1)) (agQ (agrF d) n b a) n b a).sat fun r => Dyn.RVLe r (rB (agrF (d + 1) n b a)) := by
  have pd : Sym.allP (dkP n dkF) := ⟨.refl _, hn, trivial⟩
  unfold agrF
  refine ⟨pd, fun h => ⟨⟨.refl _, hn, .refl _, dkN_n n _ hn, trivial⟩, ?_⟩, fun h => ⟨fun k => (by rw [hd] at k; cases k), fun _ => ⟨pd, fun h0 => ?_, fun h0 => ⟨pd, fun h1 => ?_, fun h1 => ⟨pd, fun h2 => ?_, fun h2 => ⟨pd, fun h3 => ?_, fun h3 => ?_⟩⟩⟩⟩⟩⟩
  · rw [h]; exact ro_leaf rfl
  · rw [h, show agrF d n (spB b 0) a = false by simpa using h0]; exact ro_leaf rfl
  · rw [h, show agrF d n (spB b 0) a = true by simpa using h0, show agrF d n (spB b 1) a = false by simpa using h1]; exact ro_leaf rfl
  · rw [h, show agrF d n (spB b 0) a = true by simpa using h0, show agrF d n (spB b 1) a = true by simpa using h1, show agrF d n (spB b 2) a = false by simpa using h2]; exact ro_leaf rfl
  · rw [h, show agrF d n (spB b 0) a = true by simpa using h0, show agrF d n (spB b 1) a = true by simpa using h1, show agrF d n (spB b 2) a = true by simpa using h2, show agrF d n (spB b 3) a = false by simpa using h3]; exact ro_leaf rfl
  · rw [h, show agrF d n (spB b 0) a = true by simpa using h0, show agrF d n (spB b 1) a = true by simpa using h1, show agrF d n (spB b 2) a = true by simpa using h2, show agrF d n (spB b 3) a = true by simpa using h3]; exact ro_leaf rfl
theorem ag0 : AgOk 0 (agrF 0) := fun n hn b a =>
  Dyn.dcontract (lp := Dyn.noLp) (fuel := 8) tabA0_ok mo Tryz.func16 (by kernel_rfl) (c := bodyD Tryz.f16.body) (by kernel_rfl) (fun w0 => Dyn.noLp_ok _ w0) (by kernel_rfl) (ag_O0 n b a) (by
    unfold agrF
    refine ⟨⟨.refl _, hn, trivial⟩, fun h => ⟨⟨.refl _, hn, .refl _, dkN_n n _ hn, trivial⟩, ?_⟩, fun h => ⟨fun _ => ?_, fun k => (by cases k)⟩⟩
    · rw [h]; exact ro_leaf rfl
    · rw [h]; exact ro_leaf rfl)
theorem ag1 : AgOk 1 (agrF 1) := fun n hn b a =>
  Dyn.dcontract (lp := Dyn.noLp) (fuel := 8) (tabAk_ok un1 ag0) mo Tryz.func16 (by kernel_rfl) (c := bodyD Tryz.f16.body) (by kernel_rfl) (fun w0 => Dyn.noLp_ok _ w0) (by kernel_rfl) (ag_O1 (uniF 1) (agrF 0) n b a) (ag_sat (d := 0) hn b a (by decide))
theorem ag2 : AgOk 2 (agrF 2) := fun n hn b a =>
  Dyn.dcontract (lp := Dyn.noLp) (fuel := 8) (tabAk_ok un2 ag1) mo Tryz.func16 (by kernel_rfl) (c := bodyD Tryz.f16.body) (by kernel_rfl) (fun w0 => Dyn.noLp_ok _ w0) (by kernel_rfl) (ag_O2 (uniF 2) (agrF 1) n b a) (ag_sat (d := 1) hn b a (by decide))
/-! ### Agrees -/
theorem dk_callX {K : Nat} {n : Nat} {f : Nat → List Dyn.DC} {v : Dyn.DV} {l : List Dyn.LA} {lent : Dyn.Lent} {r : Value} {o : List (List Value)} (h : DLe (.row n f) (.row n dkF)) (k : Dyn.CallX Tryz.prog K (.d (dvL (toSh (dkL n))) :: .d v :: l) lent r o) : Dyn.CallX Tryz.prog K (.d (.one (.row n f)) :: .d v :: l) lent r o :=
  CallX_d1 (show DVd (.one _) (.one _) from h) (Dyn.DVLe.refl _) (CallX_d1 (show DVd (.one _) (.one _) from dk_le n) (Dyn.DVLe.refl _) k)
def enCovK : List Dyn.LA → Dyn.Lent → Option (Value × List (List Value) × List Prop)
  | [.d (.one (.row n f)), .d u, .d (.one (.p (.int .i64 d))), .lp 0 0], [(t, [.int .i64 most, .int .i64 a])] => match aX u, Nat.beq t 81 with
    | some b, true => some (exV (coverF most d (dkL n) b a).lo (coverF most d (dkL n) b a).hi (coverF most d (dkL n) b a).e, mtO most (coverF most d (dkL n) b a).a, (0 ≤ d ∧ d ≤ 6) :: dkP n f)
    | _, _ => none
  | _, _ => none
theorem enCovK_ok : Dyn.EntryXOk Tryz.prog (14, enCovK) := fun az lent u out ps h hp => by
  dsimp only at h
  unfold enCovK at h
  split at h
  · rename_i n f u' d t most a
    split at h
    · rename_i b hb ht
      have e1 := Nat.eq_of_beq_eq_true ht
      subst e1
      simp only [Option.some.injEq, Prod.mk.injEq] at h
      obtain ⟨rfl, rfl, rfl⟩ := h
      exact dk_callX hp.2.1 (CallX_le2 (Dyn.DVLe.refl _) (aX_eq hb) (cover_L hp.1.1 hp.1.2 (dk_B n hp.2.2.1) b most a))
    · cases h
  · cases h
def drAs (K : Nat) : Bool := Nat.beq K 14 || Nat.beq K 15
def tabAs : Dyn.Tabs := Dyn.nwT (Dyn.tabsX tbF [(16, enAg 2 (agrF 2))] [(14, enCovK)] drAs dtyG false) nwM
theorem tabAs_ok : Dyn.TabsOk Tryz.prog tabAs := Dyn.nwT_ok (Dyn.tabsX_ok tbF_ok (List.forall_mem_cons.2 ⟨enAg_ok ag2, fun _ h => by cases h⟩) (List.forall_mem_cons.2 ⟨enCovK_ok, fun _ h => by cases h⟩)) nwM_ok
def asO (n : Nat) (b : B4) (a : Int) : Dyn.RO := .side ((0 ≤ (2 : Int) ∧ (2 : Int) ≤ 6) :: dkP n dkF) (.ite ((coverF (capM 1000000) 2 (dkL n) b 0).e != 0) (.leaf (rB true)) (.side (dkP n dkF) (.leaf (rB (agrF 2 n b a)))))
theorem as_O (n : Nat) (b : B4) (a : Int) : (Dyn.dfun Tryz.prog tabAs Dyn.noLp 8 Tryz.f9 [.one (.row n dkF), dvX b, dvI 2, dvI a]).ro Tryz.prog Tryz.f9.results = asO n b a := by kernel_rfl
def asF (n : Nat) (b : B4) (a : Int) : Bool := bif (coverF (capM 1000000) 2 (dkL n) b 0).e != 0 then true else agrF 2 n b a
theorem agrees_ok (n : Nat) (hn : n ≤ 1000) (b : B4) (a : Int) : Dyn.CallD Tryz.prog 9 [.one (.row n dkF), dvX b, dvI 2, dvI a] (rB (asF n b a)) :=
  Dyn.dcontract (lp := Dyn.noLp) (fuel := 8) tabAs_ok mo Tryz.func9 (by kernel_rfl) (c := bodyD Tryz.f9.body) (by kernel_rfl) (fun w0 => Dyn.noLp_ok _ w0) (by kernel_rfl) (as_O n b a) (by
    unfold asF
    refine ⟨⟨by decide, .refl _, hn, trivial⟩, fun h => ?_, fun h => ⟨⟨.refl _, hn, trivial⟩, ?_⟩⟩
    · rw [h]; exact ro_leaf rfl
    · rw [h]; exact ro_leaf rfl)
noncomputable def tabFl : Dyn.Tabs := Dyn.tabs tbF [(17, enClD)] noD dtyG
theorem tabFl_ok : Dyn.TabsOk Tryz.prog tabFl := Dyn.tabs_ok tbF_ok (List.forall_mem_cons.2 ⟨enClD_ok, fun _ h => by cases h⟩)
def flF (n : Nat) (b : B4) : Bool := pClassC (dkL n) b != 1
theorem fl_O (n : Nat) (b : B4) : (Dyn.dfun Tryz.prog tabFl Dyn.noLp 8 Tryz.f10 [.one (.row n dkF), dvX b]).ro Tryz.prog Tryz.f10.results = .side (dkP n dkF) (.leaf (rB (flF n b))) := by kernel_rfl
theorem flat_ok (n : Nat) (hn : n ≤ 1000) (b : B4) : Dyn.CallD Tryz.prog 10 [.one (.row n dkF), dvX b] (rB (flF n b)) :=
  Dyn.dcontract (lp := Dyn.noLp) (fuel := 8) tabFl_ok mo Tryz.func10 (by kernel_rfl) (c := bodyD Tryz.f10.body) (by kernel_rfl) (fun w0 => Dyn.noLp_ok _ w0) (by kernel_rfl) (fl_O n b) ⟨⟨.refl _, hn, trivial⟩, ro_leaf rfl⟩
def enFl : List Dyn.DV → Option (Dyn.RV × List Prop)
  | [.one (.row n f), u] => match aX u with
    | some b => some (rB (flF n b), dkP n f)
    | none => none
  | _ => none
theorem enFl_ok : Dyn.EntryDOk Tryz.prog (10, enFl) := fun args r ps h hp => by
  dsimp only at h
  unfold enFl at h
  split at h
  · rename_i n f u
    split at h
    · rename_i b hb
      simp only [Option.some.injEq, Prod.mk.injEq] at h
      obtain ⟨rfl, rfl⟩ := h
      exact CallD_d1 (show DVd (.one _) (.one _) from hp.1) (CallD_le (args := [.one (.row n dkF), dvX b]) ⟨Dyn.DVLe.refl _, aX_eq hb, trivial⟩ (flat_ok n hp.2.1 b))
    · cases h
  · cases h
def enAs : List Dyn.DV → Option (Dyn.RV × List Prop)
  | [.one (.row n f), u, .one (.p (.int .i64 d)), .one (.p (.int .i64 a))] => match aX u, decide (d = 2) with
    | some b, true => some (rB (asF n b a), dkP n f)
    | _, _ => none
  | _ => none
theorem enAs_ok : Dyn.EntryDOk Tryz.prog (9, enAs) := fun args r ps h hp => by
  dsimp only at h
  unfold enAs at h
  split at h
  · rename_i n f u d a
    split at h
    · rename_i b hb hd
      have e2 := of_decide_eq_true hd
      subst e2
      simp only [Option.some.injEq, Prod.mk.injEq] at h
      obtain ⟨rfl, rfl⟩ := h
      exact CallD_d1 (show DVd (.one _) (.one _) from hp.1) (CallD_le (args := [.one (.row n dkF), dvX b, dvI 2, dvI a]) ⟨Dyn.DVLe.refl _, aX_eq hb, Dyn.DVLe.refl _, Dyn.DVLe.refl _, trivial⟩ (agrees_ok n hp.2.1 b a))
    · cases h
  · cases h
def aw28g1 : Bool := bif ptsA (dkH 1) ⟨0, 0, 20, 0⟩ 2 == 6 then ptsB ⟨0, 0, 20, 0⟩ 2 == 9 else false
def aw28g2 : Bool := bif aw28g1 then ptsA (dkH 1) ⟨0, 0, -1, 0⟩ 2 == 0 else false
def aw28g3 : Bool := bif aw28g2 then ptsB ⟨0, 0, -1, 0⟩ 2 == 0 else false
def gdT (g : Bool) (ps : List Prop) : Prop := some g = some true ∧ True → Sym.allP ps
def aw28g4 : Bool := bif aw28g3 then asF 1 ⟨0, 0, 16, 16⟩ 4 else false
def aw28g5 : Bool := bif aw28g4 then flF 0 ⟨0, 0, 0, 0⟩ else false
def aw28g6 : Bool := bif aw28g5 then !(flF 1 ⟨0, 0, 20, 0⟩) else false
def tabA28 : Dyn.Tabs := Dyn.tabs tbF [(7, enPtD), (9, enAs), (10, enFl)] noD dtyG
theorem tabA28_ok : Dyn.TabsOk Tryz.prog tabA28 := Dyn.tabs_ok tbF_ok (List.forall_mem_cons.2 ⟨enPtD_ok, List.forall_mem_cons.2 ⟨enAs_ok, List.forall_mem_cons.2 ⟨enFl_ok, fun _ h => by cases h⟩⟩⟩)
def aw28O : Dyn.RO := .side (dkP 1 dkF) (.side (dkP 1 dkF) (.side [gdT aw28g3 (dkP 1 dkF), gdT aw28g4 (dkP 0 nilF0), gdT aw28g5 (dkP 1 dkF)] (.leaf (rB aw28g6))))
theorem aw28_O : (Dyn.dfun Tryz.prog tabA28 Dyn.noLp 8 Tryz.f5 []).ro Tryz.prog Tryz.f5.results = aw28O := by kernel_rfl
theorem aw28_true : aw28g6 = true := by decide +kernel
theorem awake28 : Dyn.CallD Tryz.prog 5 [] (rB true) :=
  Dyn.dcontract (lp := Dyn.noLp) (fuel := 8) tabA28_ok mo Tryz.func5 (by kernel_rfl) (c := bodyD Tryz.f5.body) (by kernel_rfl) (fun w0 => Dyn.noLp_ok _ w0) (by kernel_rfl) aw28_O (by
    have k : ∀ n, n ≤ 1000 → Sym.allP (dkP n dkF) := fun n h => ⟨.refl _, h, trivial⟩
    refine ⟨k 1 (by decide), k 1 (by decide), ⟨fun _ => k 1 (by decide), fun _ => ⟨DLe.rowL fun i hi => absurd hi (Nat.not_lt_zero i), by decide, trivial⟩, fun _ => k 1 (by decide), trivial⟩, ?_⟩
    rw [aw28_true]
    exact ro_leaf rfl)
end Go.Proofs.YtfooaikpcbnchaaGreat

/-! ## Sut -/
namespace Go.Proofs.YtfooaikpcbnchaaGreat
open Go Go.RowKit Sym
set_option maxRecDepth 100000

open Classical in
noncomputable def hasX (n : Nat) (f : Nat → List Dyn.DC) (p : P2) : Bool := if PdS (obX n f) then hasL n f p else hasF (d1S 1000) p
def PX (n : Nat) (f : Nat → List Dyn.DC) : Prop := PdS (obX n f) ∨ DLe (.row n f) (.row 1 (d1R 1000))
theorem d1_fine : Fine (fun p => p = ze) (d1S 1000) 0 := .inl ⟨rfl, rfl, rfl, rfl, rfl, rfl, by decide⟩
theorem pHas_d1 (p : P2) : pHas (d1L 1000) p = hasF (d1S 1000) p := by
  show (bif figHasS (d1S 1000) p then true else false) = _
  rw [show figHasS (d1S 1000) p = hasF (d1S 1000) p by
    unfold figHasS
    rw [show okE (toSh (d1S 1000)) = true from fine_ok (fun p hp => by subst hp; rfl) d1_fine]; rfl]
  cases hasF (d1S 1000) p <;> rfl
noncomputable def enPtX : List Dyn.DV → Option (Dyn.RV × List Prop)
  | [.one (.row n f), u, .one (.p (.int .i64 a))] => match aX u with
    | some b => some (.tup [dvI (ptsA (hasX n f) b a), dvI (ptsB b a)], [PX n f])
    | none => none
  | _ => none
theorem enPtX_ok : Dyn.EntryDOk Tryz.prog (7, enPtX) := fun args r ps h hp => by
  dsimp only at h
  unfold enPtX at h
  split at h
  · rename_i n f u a
    split at h
    · rename_i b hb
      simp only [Option.some.injEq, Prod.mk.injEq] at h
      obtain ⟨rfl, rfl⟩ := h
      have h1 := hp.1
      by_cases e : PdS (obX n f)
      · rw [show hasX n f = hasL n f from funext fun p => by unfold hasX; rw [if_pos e]]
        exact CallD_le (args := [dvL (obX n f), dvX b, dvI a]) ⟨Dyn.DVLe.refl _, aX_eq hb, Dyn.DVLe.refl _, trivial⟩ (points_ok n f e b a)
      · rcases h1 with h1 | h1
        · exact absurd h1 e
        · have k := points_ok 1 (fun _ => partC true (toSh (d1S 1000))) (PdS_mk (d1_B 1000)) b a
          rw [show hasL 1 (fun _ => partC true (toSh (d1S 1000))) = hasX n f from funext fun p => by
            unfold hasX hasL
            rw [if_neg e, show ofSh (obX 1 fun _ => partC true (toSh (d1S 1000))) = d1L 1000 from ofSh_toSh (d1L 1000), pHas_d1]] at k
          exact CallD_d1 (show DVd (.one _) (.one _) from h1) (CallD_d1 (show DVd (.one _) (.one _) from d1_le 1000) (CallD_le (args := [dvL (obX 1 fun _ => partC true (toSh (d1S 1000))), dvX b, dvI a]) ⟨Dyn.DVLe.refl _, aX_eq hb, Dyn.DVLe.refl _, trivial⟩ k))
    · cases h
  · cases h
def shr4 (w : Int) : Int := w.fdiv (2 ^ min (Int.toNat 4) IntKind.i64.bits)
def scB (x y w : Int) : B4 := ⟨x.tmod 20, y.tmod 20, W (x.tmod 20 + band w 15), W (y.tmod 20 + band (shr4 w) 15)⟩
def scD (n : Int) : Int := W (band n 7 + 1)
def scSq (D : Int) : Int := W (W (D + 1) * W (D + 1))
/-- i: no objects; o: a disc; a, d: the objects, of n and 2n -/
def scV (i o a d : Int) (b : B4) (D : Int) : Bool :=
  bif bif bif bif bif bif bif bif i == 0 then ptsB b D == scSq D else false then o == ptsB b D else false then ptsB b D == ptsB b D else false then ptsB b D == ptsB b D else false then ptsB b (W (2 * D)) == scSq (W (2 * D)) else false then decide (a ≤ d) else false then decide (W (d - a) ≤ W (ptsB b (W (2 * D)) - ptsB b D)) else false then true else false
noncomputable def tdSc : List Dyn.EntryD := [(5, en0R (rB true)), (4, en1D (qAnd qL PdW) fun x => rB (small21 (ofSh x))), (6, en2D (qAnd qL PdS) qB fun x q => .val (dvL (toSh (tame21 (ofSh x) q)))), (7, enPtX)]
def drSc (K : Nat) : Bool := Nat.beq K 6
noncomputable def tabSc : Dyn.Tabs := Dyn.tabs tbF tdSc drSc dtyG
theorem tabSc_ok : Dyn.TabsOk Tryz.prog tabSc := Dyn.tabs_ok tbF_ok (List.forall_mem_cons.2 ⟨en0R_ok awake28, List.forall_mem_cons.2 ⟨en1D_ok (qAnd_ok qL_ok) fun x h => small21_all x h.1, List.forall_mem_cons.2 ⟨en2D_ok (qAnd_ok qL_ok) qB_ok fun x q h _ => tame21_all x h.1 q, List.forall_mem_cons.2 ⟨enPtX_ok, fun _ h => by cases h⟩⟩⟩⟩)
noncomputable def scO1 (X : Sh) (b : B4) (D : Int) : Dyn.RO :=
  .side [PX 0 nilF0] (.side [PX 1 (d1R 1000)] (.side [PX X.n X.f] (.side [PX X.n X.f] (.leaf (rB (scV (ptsA (hasX 0 nilF0) b D) (ptsA (hasX 1 (d1R 1000)) b D) (ptsA (hasX X.n X.f) b D) (ptsA (hasX X.n X.f) b (W (2 * D))) b D))))))
noncomputable def scO (n : Nat) (f : Nat → List Dyn.DC) (x y w m : Int) : Dyn.RO :=
  .side [PdW (obX n f)] (.ite (!(small21 (ofSh (obX n f)))) (.leaf (rB true)) (.side [PdS (obX n f)] (scO1 (toSh (tame21 (ofSh (obX n f)) true)) (scB x y w) (scD m))))
theorem sc_O (n : Nat) (f : Nat → List Dyn.DC) (x y w m : Int) : (Dyn.dfun Tryz.prog tabSc Dyn.noLp 3 Tryz.f3 [dvL (obX n f), dvI x, dvI y, dvI w, dvI m]).ro Tryz.prog Tryz.f3.results = scO n f x y w m := by kernel_rfl
end Go.Proofs.YtfooaikpcbnchaaGreat

/-! ## Suu -/
namespace Go.Proofs.YtfooaikpcbnchaaGreat
open Go Go.RowKit Sym
set_option maxRecDepth 100000

theorem bandS (x : Int) (m : Nat) (hm : m < 2 ^ 62) : 0 ≤ band x (m : Int) ∧ band x (m : Int) ≤ m := by
  have h : (BitVec.ofInt 64 x &&& BitVec.ofInt 64 (m : Int)).toNat ≤ m := by
    rw [BitVec.toNat_and]
    refine Nat.le_trans Nat.and_le_right ?_
    simp only [BitVec.toNat_ofInt]
    omega
  unfold band
  rw [W_id (by omega) (by omega)]
  omega
theorem scD_r (m : Int) : 1 ≤ scD m ∧ scD m ≤ 8 := by
  have h : 0 ≤ band m 7 ∧ band m 7 ≤ 7 := bandS m 7 (by decide)
  unfold scD
  rw [W_id (by omega) (by omega)]; omega
theorem scB_r (x y w : Int) : (-19 ≤ (scB x y w).x0 ∧ (scB x y w).x0 ≤ 19) ∧ (-19 ≤ (scB x y w).y0 ∧ (scB x y w).y0 ≤ 19) ∧ ((scB x y w).x0 ≤ (scB x y w).x1 ∧ (scB x y w).x1 ≤ 34) ∧ ((scB x y w).y0 ≤ (scB x y w).y1 ∧ (scB x y w).y1 ≤ 34) ∧ (scB x y w).x1 ≤ (scB x y w).x0 + 15 ∧ (scB x y w).y1 ≤ (scB x y w).y0 + 15 := by
  have b1 : 0 ≤ band w 15 ∧ band w 15 ≤ 15 := bandS w 15 (by decide)
  have b2 : 0 ≤ band (shr4 w) 15 ∧ band (shr4 w) 15 ≤ 15 := bandS (shr4 w) 15 (by decide)
  have t : ∀ v : Int, -19 ≤ v.tmod 20 ∧ v.tmod 20 ≤ 19 := fun v => by
    have := Int.tmod_lt_of_pos v (by decide : (0 : Int) < 20)
    have := Int.lt_tmod_of_pos v (by decide : (0 : Int) < 20)
    omega
  have t1 := t x
  have t2 := t y
  have e1 : (scB x y w).x1 = x.tmod 20 + band w 15 := W_id (by omega) (by omega)
  have e2 : (scB x y w).y1 = y.tmod 20 + band (shr4 w) 15 := W_id (by omega) (by omega)
  have e3 : (scB x y w).x0 = x.tmod 20 := rfl
  have e4 : (scB x y w).y0 = y.tmod 20 := rfl
  omega
/-- a small box -/
structure SmB (b : B4) : Prop where
  x0 : -19 ≤ b.x0
  x : b.x0 ≤ b.x1
  x1 : b.x1 ≤ 34
  y0 : -19 ≤ b.y0
  y : b.y0 ≤ b.y1
  y1 : b.y1 ≤ 34
theorem scB_sm (x y w : Int) : SmB (scB x y w) := by
  obtain ⟨⟨h1, h2⟩, ⟨h3, h4⟩, ⟨h5, h6⟩, ⟨h7, h8⟩, h9, h10⟩ := scB_r x y w
  exact ⟨h1, h5, h6, h3, h7, h8⟩
theorem SmB.ok {b : B4} (h : SmB b) : boxOk b = true := (boxOk_iff b).2 ⟨by have := h.x0; omega, h.x, by have := h.x1; omega, by have := h.y0; omega, h.y, by have := h.y1; omega⟩
theorem pt_small {a c n i : Int} (ha : -19 ≤ a) (hac : a ≤ c) (hc : c ≤ 34) (hn : 1 ≤ n) (hn2 : n ≤ 16) (h0 : 0 ≤ i) (hi : i ≤ n) : W (a + W ((W (W (c - a) * i)).tdiv n)) = a + ((c - a) * i).tdiv n ∧ 0 ≤ ((c - a) * i).tdiv n ∧ ((c - a) * i).tdiv n ≤ c - a := by
  have hm : 0 ≤ (c - a) * i := Int.mul_nonneg (by omega) h0
  have hm2 : (c - a) * i ≤ (c - a) * n := Int.mul_le_mul_of_nonneg_left hi (by omega)
  have hm3 : (c - a) * n ≤ 53 * 16 := Int.le_trans (Int.mul_le_mul_of_nonneg_right (by omega) (by omega)) (Int.mul_le_mul_of_nonneg_left hn2 (by omega))
  have q0 : 0 ≤ ((c - a) * i).tdiv n := Int.tdiv_nonneg hm (by omega)
  have q1 : ((c - a) * i).tdiv n ≤ c - a := by
    rw [Int.tdiv_eq_ediv_of_nonneg hm]
    exact Int.ediv_le_of_le_mul (by omega) hm2
  rw [W_id (x := c - a) (by omega) (by omega), W_id (x := (c - a) * i) (by omega) (by omega), W_id (x := ((c - a) * i).tdiv n) (by omega) (by omega), W_id (by omega) (by omega)]
  exact ⟨rfl, q0, q1⟩
theorem ptX_eq {b : B4} (h : SmB b) {n i : Int} (hn : 1 ≤ n) (hn2 : n ≤ 16) (h0 : 0 ≤ i) (hi : i ≤ n) : ptX b n i = b.x0 + ((b.x1 - b.x0) * i).tdiv n ∧ 0 ≤ ((b.x1 - b.x0) * i).tdiv n ∧ ((b.x1 - b.x0) * i).tdiv n ≤ b.x1 - b.x0 := pt_small h.x0 h.x h.x1 hn hn2 h0 hi
theorem ptY_eq {b : B4} (h : SmB b) {n i : Int} (hn : 1 ≤ n) (hn2 : n ≤ 16) (h0 : 0 ≤ i) (hi : i ≤ n) : ptY b n i = b.y0 + ((b.y1 - b.y0) * i).tdiv n ∧ 0 ≤ ((b.y1 - b.y0) * i).tdiv n ∧ ((b.y1 - b.y0) * i).tdiv n ≤ b.y1 - b.y0 := pt_small h.y0 h.y h.y1 hn hn2 h0 hi
theorem pt_dbl {u n i : Int} (hn : 1 ≤ n) : (u * (2 * i)).tdiv (2 * n) = (u * i).tdiv n := by
  rw [show u * (2 * i) = 2 * (u * i) by rw [← Int.mul_assoc, ← Int.mul_assoc, Int.mul_comm u 2], Int.mul_tdiv_mul_of_pos _ _ (by omega)]
theorem ptX_dbl {b : B4} (h : SmB b) {n i : Int} (hn : 1 ≤ n) (hn2 : n ≤ 8) (h0 : 0 ≤ i) (hi : i ≤ n) : ptX b (2 * n) (2 * i) = ptX b n i := by
  rw [(ptX_eq h (by omega) (by omega) (by omega) (by omega)).1, (ptX_eq h hn (by omega) h0 hi).1, pt_dbl hn]
theorem ptY_dbl {b : B4} (h : SmB b) {n i : Int} (hn : 1 ≤ n) (hn2 : n ≤ 8) (h0 : 0 ≤ i) (hi : i ≤ n) : ptY b (2 * n) (2 * i) = ptY b n i := by
  rw [(ptY_eq h (by omega) (by omega) (by omega) (by omega)).1, (ptY_eq h hn (by omega) h0 hi).1, pt_dbl hn]
/-- how many points of the grid of n cells -/
def ptC (H : P2 → Bool) (b : B4) (n : Nat) : Nat := cnt2 (fun i k => H ⟨ptX b n i, ptY b n k⟩) (n + 1)
theorem ptM_id {n : Int} (h1 : 1 ≤ n) (h2 : n ≤ 16) : ptM n = n := by unfold ptM imax imin; repeat' split <;> omega
theorem ptsA_eq {b : B4} (h : SmB b) (H : P2 → Bool) {n : Nat} (h1 : 1 ≤ n) (h2 : n ≤ 16) : ptsA H b n = ptC H b n := by
  unfold ptsA
  rw [h.ok, ptM_id (by omega) (by omega), W_id (x := (n : Int) + 1) (by omega) (by omega)]
  show ptsF H b n ((n : Int) + 1).toNat = _
  rw [show ((n : Int) + 1).toNat = n + 1 by omega]
  exact pts_cnt H b n (n + 1) (by omega)
theorem ptsB_eq {b : B4} (h : SmB b) {n : Nat} (h1 : 1 ≤ n) (h2 : n ≤ 16) : ptsB b n = ((n + 1) * (n + 1) : Nat) ∧ scSq n = ((n + 1) * (n + 1) : Nat) ∧ (n + 1) * (n + 1) ≤ 289 := by
  have e : (n + 1) * (n + 1) ≤ 17 * 17 := Nat.mul_le_mul (by omega) (by omega)
  have e2 : ((n : Int) + 1) * ((n : Int) + 1) = ((n + 1) * (n + 1) : Nat) := by simp
  have k : scSq n = ((n + 1) * (n + 1) : Nat) := by
    unfold scSq
    rw [W_id (x := (n : Int) + 1) (by omega) (by omega), e2, W_id (by omega) (by omega)]
  refine ⟨?_, k, by omega⟩
  unfold ptsB
  rw [h.ok, ptM_id (by omega) (by omega)]
  exact k
theorem cnt_congr {g g' : Nat → Nat → Bool} {m : Nat} (h : ∀ i k, i < m → k < m → g i k = g' i k) : cnt2 g m = cnt2 g' m :=
  sum_congr fun i hi => sum_congr fun k hk => by rw [h i k hi hk]
theorem ptC_dbl {b : B4} (h : SmB b) (H : P2 → Bool) {n : Nat} (h1 : 1 ≤ n) (h2 : n ≤ 8) : ptC H b n ≤ ptC H b (2 * n) := by
  unfold ptC
  refine Nat.le_trans (Nat.le_of_eq ?_) (cnt_even (fun i k => H ⟨ptX b (2 * n : Nat) i, ptY b (2 * n : Nat) k⟩) n)
  refine cnt_congr fun i k hi hk => ?_
  have e1 := ptX_dbl h (n := n) (i := i) (by omega) (by omega) (by omega) (by omega)
  have e2 := ptY_dbl h (n := n) (i := k) (by omega) (by omega) (by omega) (by omega)
  show H ⟨ptX b n i, ptY b n k⟩ = H ⟨ptX b ((2 * n : Nat) : Int) ((2 * i : Nat) : Int), ptY b ((2 * n : Nat) : Int) ((2 * k : Nat) : Int)⟩
  rw [show ((2 * n : Nat) : Int) = 2 * (n : Int) by omega, show ((2 * i : Nat) : Int) = 2 * (i : Int) by omega, show ((2 * k : Nat) : Int) = 2 * (k : Int) by omega, e1, e2]
theorem ptC_not (H : P2 → Bool) (b : B4) (n : Nat) : ptC H b n + ptC (fun p => !(H p)) b n = (n + 1) * (n + 1) := cnt_not _ _
theorem ptC_none {H : P2 → Bool} (b : B4) (n : Nat) (h : ∀ i k : Nat, i < n + 1 → k < n + 1 → H ⟨ptX b n i, ptY b n k⟩ = false) : ptC H b n = 0 := by
  unfold ptC
  rw [cnt_congr (g' := fun _ _ => false) h]
  unfold cnt2
  rw [show (fun i => sumN (fun k => oneN false) (n + 1)) = fun _ => 0 from funext fun i => (sum_const 0 (n + 1)).trans (Nat.mul_zero _), sum_const 0]
  rfl
theorem ptC_all {H : P2 → Bool} (b : B4) (n : Nat) (h : ∀ i k : Nat, i < n + 1 → k < n + 1 → H ⟨ptX b n i, ptY b n k⟩ = true) : ptC H b n = (n + 1) * (n + 1) := by
  have := ptC_not H b n
  rw [ptC_none (H := fun p => !(H p)) b n fun i k hi hk => by rw [h i k hi hk]; rfl] at this
  omega
theorem disc_all {p : P2} (h1 : -19 ≤ p.x) (h2 : p.x ≤ 34) (h3 : -19 ≤ p.y) (h4 : p.y ≤ 34) : hasF (d1S 1000) p = true := by
  show discHas p ze 1000 = true
  rw [discHas_eq ⟨⟨by omega, by omega⟩, ⟨by omega, by omega⟩⟩ ⟨⟨by decide, by decide⟩, ⟨by decide, by decide⟩⟩ (by decide) (by decide)]
  refine decide_eq_true ?_
  unfold distI
  show (p.x - 0) * (p.x - 0) + (p.y - 0) * (p.y - 0) ≤ 1000 * 1000
  have q : ∀ v : Int, -19 ≤ v → v ≤ 34 → (v - 0) * (v - 0) ≤ 2000 := fun v a c => by
    rw [Int.sub_zero]
    have u : 0 ≤ (34 - v) * (v + 34) := Int.mul_nonneg (by omega) (by omega)
    have : (34 - v) * (v + 34) = 1156 - v * v := by grind
    omega
  have := q p.x h1 h2
  have := q p.y h3 h4
  omega
theorem sc_true {b : B4} (hb : SmB b) {n : Nat} (h1 : 1 ≤ n) (h2 : n ≤ 8) {H0 H1 H : P2 → Bool} (e0 : ∀ p, H0 p = false) (e1 : ∀ p : P2, -19 ≤ p.x → p.x ≤ 34 → -19 ≤ p.y → p.y ≤ 34 → H1 p = true) :
    scV (ptsA H0 b n) (ptsA H1 b n) (ptsA H b n) (ptsA H b (W (2 * (n : Int)))) b n = true := by
  have hW : W (2 * (n : Int)) = ((2 * n : Nat) : Int) := by rw [W_id (by omega) (by omega)]; omega
  unfold scV
  rw [hW]
  obtain ⟨p1, p2, p3⟩ := ptsB_eq hb h1 (by omega : n ≤ 16)
  obtain ⟨q1, q2, q3⟩ := ptsB_eq hb (n := 2 * n) (by omega) (by omega)
  have i0 : ptsA H0 b n = 0 := by rw [ptsA_eq hb H0 h1 (by omega), ptC_none b n fun i k _ _ => e0 _]; rfl
  have o1 : ptsA H1 b n = ptsB b n := by
    rw [ptsA_eq hb H1 h1 (by omega), p1, ptC_all b n fun i k hi hk => ?_]
    have x := ptX_eq hb (n := n) (i := i) (by omega) (by omega) (by omega) (by omega)
    have y := ptY_eq hb (n := n) (i := k) (by omega) (by omega) (by omega) (by omega)
    have := hb.x0; have := hb.x1; have := hb.y0; have := hb.y1
    exact e1 _ (by show -19 ≤ ptX b n i; omega) (by show ptX b n i ≤ 34; omega) (by show -19 ≤ ptY b n k; omega) (by show ptY b n k ≤ 34; omega)
  have d1 := ptC_dbl hb H h1 h2
  have d2 := ptC_dbl hb (fun p => !(H p)) h1 h2
  have m1 := ptC_not H b n
  have m2 := ptC_not H b (2 * n)
  rw [i0, o1, p2, q2, q1, p1, ptsA_eq hb H h1 (by omega), ptsA_eq hb H (n := 2 * n) (by omega) (by omega)]
  simp only [beq_self_eq_true, cond_true]
  rw [show decide (((ptC H b n : Nat) : Int) ≤ ((ptC H b (2 * n) : Nat) : Int)) = true from decide_eq_true (by omega)]
  simp only [cond_true]
  rw [W_id (x := ((ptC H b (2 * n) : Nat) : Int) - ((ptC H b n : Nat) : Int)) (by omega) (by omega), W_id (by omega) (by omega)]
  rw [decide_eq_true (by omega)]
  rfl
theorem hasX_nil (p : P2) : hasX 0 nilF0 p = false := by
  have h : PdS (obX 0 nilF0) := PdS_le (s := lForm 0 (fun _ => true) (fun _ => .nil)) ⟨CtrB_ze, by decide, fun i hi => absurd hi (Nat.not_lt_zero i)⟩ ⟨rfl, rfl, rfl, rfl, rfl, .refl _, rfl, fun i hi => absurd hi (Nat.not_lt_zero i)⟩
  unfold hasX
  rw [if_pos h]
  unfold hasL pHas
  rw [(obX_nu h).1]
  rfl
theorem PX_nil : PX 0 nilF0 := .inl (PdS_le (s := lForm 0 (fun _ => true) (fun _ => .nil)) ⟨CtrB_ze, by decide, fun i hi => absurd hi (Nat.not_lt_zero i)⟩ ⟨rfl, rfl, rfl, rfl, rfl, .refl _, rfl, fun i hi => absurd hi (Nat.not_lt_zero i)⟩)
theorem hasX_d1 (p : P2) : hasX 1 (d1R 1000) p = hasF (d1S 1000) p := by
  have h : ¬ PdS (obX 1 (d1R 1000)) := fun h => by
    have k := (obX_nu h).2 0 (by decide)
    have k9 : (.row 0 noF : Dyn.DC) = cCtr (toSh (suO (ofSh (obX 1 (d1R 1000))) 0)).l := congrArg (fun l => l.getD 9 (.p (vi 0))) k
    unfold cCtr at k9
    injection k9 with _ k10
    have k11 := congrFun k10 0
    cases k11
  unfold hasX
  rw [if_neg h]
theorem PX_d1 : PX 1 (d1R 1000) := .inr (.refl _)
theorem PX_T {T : Shp} (h : ShB T) (h6 : obX (toSh T).n (toSh T).f = toSh T) : PX (toSh T).n (toSh T).f := .inl (by rw [h6]; exact PdS_mk h)
theorem sc_sat {T : Shp} (h : ShB T) (h6 : obX (toSh T).n (toSh T).f = toSh T) (x y w m : Int) : (scO1 (toSh T) (scB x y w) (scD m)).sat fun r => Dyn.RVLe r (rB true) := by
  unfold scO1
  refine ⟨⟨PX_nil, trivial⟩, ⟨PX_d1, trivial⟩, ⟨PX_T h h6, trivial⟩, ⟨PX_T h h6, trivial⟩, ?_⟩
  obtain ⟨h1, h2⟩ := scD_r m
  obtain ⟨n, hn⟩ : ∃ n : Nat, scD m = (n : Int) := ⟨(scD m).toNat, by omega⟩
  rw [hn, sc_true (scB_sm x y w) (by omega) (by omega) hasX_nil fun p a b c d => by rw [hasX_d1]; exact disc_all a b c d]
  exact ro_leaf rfl
theorem sureCounts_ok (s : Shp) (hs : ShW s) (x y w m : Int) : Dyn.CallD Tryz.prog 3 [dvL (toSh s), dvI x, dvI y, dvI w, dvI m] (rB true) := by
  cases s with
  | nil => exact hs.elim
  | mk k a b' c r l n add sub =>
    have hw : ShW (lForm n add sub) := hs
    refine Dyn.dcontract (lp := Dyn.noLp) (fuel := 3) tabSc_ok mo Tryz.func3 (by kernel_rfl) (c := bodyD Tryz.f3.body) (by kernel_rfl) (fun w0 => Dyn.noLp_ok _ w0) (by kernel_rfl) (sc_O n (fun i => partC (add i) (toSh (sub i))) x y w m) ?_
    unfold scO
    have e : ofSh (obX n fun i => partC (add i) (toSh (sub i))) = lForm n add sub := ofSh_toSh (lForm n add sub)
    rw [e]
    refine ⟨⟨PdW_mk hw, trivial⟩, fun _ => ro_leaf rfl, fun h => ?_⟩
    have hB : ShB (lForm n add sub) := lf_B (by simpa using h)
    exact ⟨⟨PdS_mk hB, trivial⟩, sc_sat (tame21_B _ hB true) rfl x y w m⟩
end Go.Proofs.YtfooaikpcbnchaaGreat
