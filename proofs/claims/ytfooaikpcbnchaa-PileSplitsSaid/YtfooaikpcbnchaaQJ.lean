/-
  OWN WORK. Joined by merge.py: Plc Cnt Pie Pif Pim Pin.
-/
import Derived.Test.YtfooaikpcbnchaaQE
import Derived.WalkKit
import Derived.ProofKit
import Derived.Test.YtfooaikpcbnchaaQI
import Derived.Test.YtfooaikpcbnchaaQH
/-! ## Plc -/
namespace Go.Proofs.Ytfooaikpcbnchaa
open Go Go.RowKit Sym
set_option maxRecDepth 100000

theorem place_walk (b off n cap : Nat) (hn : 0 < n) (w : World) : Calls Try.prog 74 #[.slice (some ⟨b, off, none⟩) n cap] w fun e w' => e = .returned (.agg #[.pointer (some ⟨b, off, none⟩), .int .i64 (n : Int)]) ∧ Below w.heap.size w w' := by
  go_enter Try.func74, Try.ntmps74
  go_wp2
  simp [bodyPost, results, Try.results74, go_sem]
  exact Dyn.push_below _ _
theorem place_ok : Dyn.PlaceP Try.prog 74 := fun b off n cap hn => call_ok Try.func74 (by kernel_rfl) (by kernel_rfl) fun w => place_walk b off n cap hn w
end Go.Proofs.Ytfooaikpcbnchaa

/-! ## Cnt -/
namespace Go.Proofs.Ytfooaikpcbnchaa
open Go Go.RowKit Sym
set_option maxRecDepth 100000

def rowD : Nat → List Dyn.DC := Dyn.pickL 0 [rawP true 5, rawP false 2]
def isPl (K : Nat) : Bool := Nat.beq K 74
theorem isPl_ok : ∀ K, isPl K = true → Dyn.PlaceP Try.prog K := fun K h => by
  have := Nat.eq_of_beq_eq_true h
  subst this
  exact place_ok
noncomputable def tabCp : Dyn.Tabs := Dyn.extT (Dyn.tabs tbF [] noD dtyS) isPl
theorem tabCp_ok : Dyn.TabsOk Try.prog tabCp := Dyn.extT_ok (Dyn.tabs_ok tbF_ok (fun _ h => by cases h)) isPl_ok
theorem countD : Dyn.CallD Try.prog 56 [.one (.row 2 rowD)] (rI 2) :=
  Dyn.dcontract (lp := Dyn.noLp) (fuel := 4) tabCp_ok mo Try.func56 (by kernel_rfl) (c := bodyD Try.f56.body) (by kernel_rfl) (fun w0 => Dyn.noLp_ok _ w0) (by kernel_rfl)
    (O := .side [0 < 2] (.side [(0 : Int) ≤ 0 ∧ (0 : Int) < ((2 : Nat) : Int)] (.side [0 ≤ IntKind.i64.wrap (0 + 1) ∧ IntKind.i64.wrap (0 + 1) < ((2 : Nat) : Int)] (.side [0 < 2] (.leaf (rI (plusF (plusF 0 (plusF 1 0)) (plusF 1 0)))))))) (by kernel_rfl)
    ⟨⟨by decide, trivial⟩, ⟨by decide, trivial⟩, ⟨by decide, trivial⟩, ⟨by decide, trivial⟩, ro_leaf (congrArg rI (by decide +kernel))⟩
def enCp : Dyn.EntryD := (56, fun args => match args with
  | [.one (.row n f)] => some (rI 2, [n = 2 ∧ f = rowD])
  | _ => none)
theorem enCp_ok : Dyn.EntryDOk Try.prog enCp := fun args r ps h hp => by
  unfold enCp at h
  dsimp only at h
  split at h
  · simp only [Option.some.injEq, Prod.mk.injEq] at h
    obtain ⟨rfl, rfl⟩ := h
    obtain ⟨⟨rfl, rfl⟩, -⟩ := hp
    exact countD
  · cases h
noncomputable def tabCo : Dyn.Tabs := Dyn.tabs tbF [enCp] noD dtyS
theorem tabCo_ok : Dyn.TabsOk Try.prog tabCo := Dyn.tabs_ok tbF_ok (List.forall_mem_cons.2 ⟨enCp_ok, fun _ h => by cases h⟩)
theorem count10 : Count10 :=
  Dyn.dcontract (lp := Dyn.noLp) (fuel := 4) tabCo_ok mo Try.func35 (by kernel_rfl) (c := bodyD Try.f35.body) (by kernel_rfl) (fun w0 => Dyn.noLp_ok _ w0) (by kernel_rfl)
    (O := .side [2 = 2 ∧ rowD = rowD] (.leaf (rI (plusF 1 2)))) (by kernel_rfl) ⟨⟨⟨rfl, rfl⟩, trivial⟩, ro_leaf (congrArg rI (by decide +kernel))⟩
theorem awake10 : Dyn.CallD Try.prog 26 [] (rB true) := awake10_ok count10
end Go.Proofs.Ytfooaikpcbnchaa

/-! ## Pie -/
namespace Go.Proofs.Ytfooaikpcbnchaa
open Go Go.RowKit Sym
set_option maxRecDepth 100000

def nilF0 : Nat → List Dyn.DC := fun _ => []
/-! ### a disc around (0, 0), as it is written -/
def dC (r : Int) : List Dyn.DC := [cI 1, cI 0, cI 0, cI 0, cI 0, cI 0, cI 0, cI r, .row 0 noF, .row 0 noF]
def dvDc (r : Int) : Dyn.DV := .agg (dC r)
noncomputable def tabD0 : Dyn.Tabs := Dyn.tabs tbF [] noD dtyS
theorem tabD0_ok : Dyn.TabsOk Try.prog tabD0 := Dyn.tabs_ok tbF_ok (fun _ h => by cases h)
theorem cpD_ok : Dyn.CallD Try.prog 56 [.one (.row 0 noF)] (rI 0) :=
  dcontractC (lp := Dyn.noLp) (fuel := 2) tabD0_ok mo Try.func56 (by kernel_rfl) (c := bodyD Try.f56.body) (by kernel_rfl) (fun w0 => Dyn.noLp_ok _ w0) (.tt .lf) (.leaf (rI 0)) rfl (by kernel_rfl) (leafR rfl)
def discS (r : Int) : Shp := leafS 1 ze ze ze r zeC
theorem dC_le (r : Int) : DLL (dC r) (cS (toSh (discS r))) := ⟨.refl _, .refl _, .refl _, .refl _, .refl _, .refl _, .refl _, .refl _, DLe.rowL fun i hi => absurd hi (Nat.not_lt_zero i), DLe.rowL fun i hi => absurd hi (Nat.not_lt_zero i), trivial⟩
def dD : List Dyn.DC → Option (Int × List Prop)
  | [.p (.int .i64 k), .p (.int .i64 a), .p (.int .i64 b), .p (.int .i64 c), .p (.int .i64 d), .p (.int .i64 e), .p (.int .i64 f), .p (.int .i64 r), .row nl _, .row n _] => some (r, [k = 1 ∧ a = 0 ∧ b = 0 ∧ c = 0 ∧ d = 0 ∧ e = 0 ∧ f = 0 ∧ nl = 0 ∧ n = 0])
  | _ => none
theorem dD_le {l : List Dyn.DC} {r : Int} {ps : List Prop} (h : dD l = some (r, ps)) (hp : allP ps) : DVd (.agg l) (dvDc r) := by
  unfold dD at h
  split at h
  · simp only [Option.some.injEq, Prod.mk.injEq] at h
    obtain ⟨rfl, rfl⟩ := h
    obtain ⟨⟨rfl, rfl, rfl, rfl, rfl, rfl, rfl, rfl, rfl⟩, -⟩ := hp
    exact ⟨.refl _, .refl _, .refl _, .refl _, .refl _, .refl _, .refl _, .refl _, DLe.rowL fun i hi => absurd hi (Nat.not_lt_zero i), DLe.rowL fun i hi => absurd hi (Nat.not_lt_zero i), trivial⟩
  · cases h
/-- an entry for discs around (0, 0) -/
def enDc (K : Nat) (F : Int → Dyn.RV) (q : Int → Prop) : Dyn.EntryD := (K, fun args => match args with
  | [.agg l] => match dD l with
    | some (r, ps) => some (F r, q r :: ps)
    | none => none
  | _ => none)
theorem enDc_ok {P : Program} {K : Nat} {F : Int → Dyn.RV} {q : Int → Prop} (h : ∀ r, q r → Dyn.CallD P K [dvDc r] (F r)) : Dyn.EntryDOk P (enDc K F q) := fun args r ps h1 hp => by
  unfold enDc at h1
  dsimp only at h1
  split at h1
  · split at h1
    · rename_i l r' ps' hd
      simp only [Option.some.injEq, Prod.mk.injEq] at h1
      obtain ⟨rfl, rfl⟩ := h1
      exact CallD_d1 (dD_le hd hp.2) (h r' hp.1)
    · cases h1
  · cases h1
def enCp0 : Dyn.EntryD := (56, fun args => match args with
  | [.one (.row n f)] => some (rI 0, [n = 0])
  | _ => none)
theorem row0_le {P : Program} {K n : Nat} {f g : Nat → List Dyn.DC} {r : Dyn.RV} (hn : n = 0) (h : Dyn.CallD P K [.one (.row 0 g)] r) : Dyn.CallD P K [.one (.row n f)] r := by
  subst hn
  exact CallD_le (args := [.one (.row 0 g)]) ⟨⟨rfl, fun i hi => absurd hi (Nat.not_lt_zero i)⟩, trivial⟩ h
theorem enCp0_ok : Dyn.EntryDOk Try.prog enCp0 := fun args r ps h hp => by
  unfold enCp0 at h
  dsimp only at h
  split at h
  · simp only [Option.some.injEq, Prod.mk.injEq] at h
    obtain ⟨rfl, rfl⟩ := h
    exact row0_le hp.1 cpD_ok
  · cases h
noncomputable def tabD1 : Dyn.Tabs := Dyn.tabs tbF [enCp0] noD dtyS
theorem tabD1_ok : Dyn.TabsOk Try.prog tabD1 := Dyn.tabs_ok tbF_ok (List.forall_mem_cons.2 ⟨enCp0_ok, fun _ h => by cases h⟩)
theorem ctDc_ok (r : Int) : Dyn.CallD Try.prog 35 [dvDc r] (rI 1) :=
  Dyn.dcontract (lp := Dyn.noLp) (fuel := 2) tabD1_ok mo Try.func35 (by kernel_rfl) (c := bodyD Try.f35.body) (by kernel_rfl) (fun w0 => Dyn.noLp_ok _ w0) (by kernel_rfl)
    (O := .side [0 = 0] (.leaf (rI (plusF 1 0)))) (by kernel_rfl) ⟨⟨rfl, trivial⟩, leafR (congrArg rI (by decide +kernel))⟩
theorem ctn_ok : Dyn.CallD Try.prog 75 [.one (.row 0 noF)] (.val (.one (.row 0 noF))) :=
  dcontractC (lp := Dyn.noLp) (fuel := 2) tabD0_ok mo Try.func75 (by kernel_rfl) (c := bodyD Try.f75.body) (by kernel_rfl) (fun w0 => Dyn.noLp_ok _ w0) (.tt .lf) (.leaf (.val (.one (.row 0 nilF0)))) rfl (by kernel_rfl) ⟨rfl, fun i hi => absurd hi (Nat.not_lt_zero i)⟩
def enCn0 : Dyn.EntryD := (75, fun args => match args with
  | [.one (.row n f)] => some (.val (.one (.row 0 noF)), [n = 0])
  | _ => none)
theorem enCn0_ok : Dyn.EntryDOk Try.prog enCn0 := fun args r ps h hp => by
  unfold enCn0 at h
  dsimp only at h
  split at h
  · simp only [Option.some.injEq, Prod.mk.injEq] at h
    obtain ⟨rfl, rfl⟩ := h
    exact row0_le hp.1 ctn_ok
  · cases h
def drCo (K : Nat) : Bool := Nat.beq K 75
def noPl (_ : Nat) : Bool := false
noncomputable def tabD2 : Dyn.Tabs := Dyn.extT (Dyn.tabs tbF [enDc 35 (fun _ => rI 1) (fun _ => True), enCn0] drCo dtyS) noPl
theorem tabD2_ok : Dyn.TabsOk Try.prog tabD2 := Dyn.extT_ok (Dyn.tabs_ok tbF_ok (List.forall_mem_cons.2 ⟨enDc_ok fun r _ => ctDc_ok r, List.forall_mem_cons.2 ⟨enCn0_ok, fun _ h => by cases h⟩⟩)) (fun K h => by cases h)
theorem cpy_ok (r : Int) : Dyn.CallD Try.prog 57 [dvDc r] (.val (dvDc r)) :=
  Dyn.dcontract (lp := Dyn.noLp) (fuel := 3) tabD2_ok mo Try.func57 (by kernel_rfl) (c := bodyD Try.f57.body) (by kernel_rfl) (fun w0 => Dyn.noLp_ok _ w0) (by kernel_rfl)
    (O := .side [True, (1 : Int) = 1 ∧ (0 : Int) = 0 ∧ (0 : Int) = 0 ∧ (0 : Int) = 0 ∧ (0 : Int) = 0 ∧ (0 : Int) = 0 ∧ (0 : Int) = 0 ∧ 0 = 0 ∧ 0 = 0] (.side [0 = 0] (.leaf (.val (.agg [cI 1, cI 0, cI 0, cI 0, cI 0, cI 0, cI 0, cI r, .row 0 noF, .row 0 nilF0]))))) (by kernel_rfl)
    ⟨⟨trivial, ⟨rfl, rfl, rfl, rfl, rfl, rfl, rfl, rfl, rfl⟩, trivial⟩, ⟨rfl, trivial⟩, rfl, rfl, rfl, rfl, rfl, rfl, rfl, rfl, ⟨rfl, fun _ _ => rfl⟩, ⟨rfl, fun i hi => absurd hi (Nat.not_lt_zero i)⟩, trivial⟩
/-! ### the lists of the document -/
def fL2 : Nat → List Dyn.DC := Dyn.pickL 0 [cB true :: dC 9, cB false :: dC 2]
def fH1 : Nat → List Dyn.DC := Dyn.pickL 0 [dC 1]
def dtyQ (t : TypeId) : Bool := dtyO t || Nat.beq t 69
def drCy (K : Nat) : Bool := Nat.beq K 57
def tdCy : List Dyn.EntryD := [enDc 57 (fun r => .val (dvDc r)) (fun _ => True)]
theorem tdCy_ok : ∀ e ∈ tdCy, Dyn.EntryDOk Try.prog e := List.forall_mem_cons.2 ⟨enDc_ok fun r _ => cpy_ok r, fun _ h => by cases h⟩
noncomputable def tabLs : Dyn.Tabs := Dyn.tabs tbF tdCy drCy dtyQ
theorem tabLs_ok : Dyn.TabsOk Try.prog tabLs := Dyn.tabs_ok tbF_ok tdCy_ok
def E1 : Prop := (1 : Int) = 1 ∧ (0 : Int) = 0 ∧ (0 : Int) = 0 ∧ (0 : Int) = 0 ∧ (0 : Int) = 0 ∧ (0 : Int) = 0 ∧ (0 : Int) = 0 ∧ 0 = 0 ∧ 0 = 0
theorem E1_ok : E1 := ⟨rfl, rfl, rfl, rfl, rfl, rfl, rfl, rfl, rfl⟩
def zOb : List Dyn.DC := [cB false, cI 0, cI 0, cI 0, cI 0, cI 0, cI 0, cI 0, cI 0, .row 0 nilF0, .row 0 nilF0]
def ls3 : Nat → List Dyn.DC := Dyn.appF 2 (Dyn.appF 1 (Dyn.appF 0 (fun _ => zOb) (Dyn.pickL 0 [cB true :: dC 9])) (Dyn.pickL 0 [cB false :: dC 2])) (Dyn.pickL 0 [cB false :: dC 1])
def ls_O : Dyn.RO := .side [0 ≤ (0 : Int) ∧ (0 : Int) ≤ 3 ∧ (3 : Int) ≤ 9223372036854775807 ∧ ((120 : Nat) : Int) * 3 ≤ 281474976710656]
  (.side [0 ≤ (0 : Int) ∧ (0 : Int) < 2] (.side [True, E1, szP 120 0] (.side [0 ≤ (1 : Int) ∧ (1 : Int) < 2] (.side [True, E1, szP 120 1] (.side [0 ≤ (0 : Int) ∧ (0 : Int) < 1] (.side [True, E1, szP 120 2] (.leaf (.val (.one (.row 3 ls3))))))))))
theorem lessL_ok : Dyn.CallD Try.prog 39 [.one (.row 2 fL2), .one (.row 1 fH1)] (.val (.one (.row 3 ls3))) :=
  dcontractC (lp := Dyn.noLp) (fuel := 4) tabLs_ok mo Try.func39 (by kernel_rfl) (c := bodyD Try.f39.body) (by kernel_rfl) (fun w0 => Dyn.noLp_ok _ w0) (.tt (.tt (.ff (.tt (.ff .lf))))) ls_O rfl (by kernel_rfl)
    ⟨⟨by decide, trivial⟩, ⟨by decide, trivial⟩, ⟨trivial, E1_ok, szP_ok (by decide) (by decide), trivial⟩, ⟨by decide, trivial⟩, ⟨trivial, E1_ok, szP_ok (by decide) (by decide), trivial⟩, ⟨by decide, trivial⟩, ⟨trivial, E1_ok, szP_ok (by decide) (by decide), trivial⟩, leafR rfl⟩
theorem disc_fine {r : Int} (h : 1 ≤ r ∧ r ≤ 1000) : Fine (fun p => p = ze) (discS r) 0 := .inl ⟨rfl, rfl, rfl, rfl, rfl, rfl, by unfold widF; simp only [andB_eq, Bool.and_eq_true, decide_eq_true_eq]; omega⟩
theorem disc_ok {r : Int} (h : 1 ≤ r ∧ r ≤ 1000) : okE (toSh (discS r)) = true := fine_ok (fun p hp => by subst hp; rfl) (disc_fine h)
theorem disc_B (r : Int) : ShB (discS r) := ⟨⟨by show (0 : Nat) ≤ _; decide, fun i hi => absurd hi (Nat.not_lt_zero i)⟩, by decide, fun i hi => absurd hi (Nat.not_lt_zero i)⟩
theorem bdDc_ok (r : Int) (h : 1 ≤ r ∧ r ≤ 1000) : Dyn.CallD Try.prog 25 [dvDc r] (.tup [dvX (aroundF ze ze r), dvB true]) := by
  have q := figBnd_ok (toSh (discS r)) (PdS_mk (disc_B r))
  have e : figBnd (toSh (discS r)) = (aroundF ze ze r, true) := by
    unfold figBnd
    rw [disc_ok h, bndE_eq]; rfl
  rw [e] at q
  exact CallD_d1 (show DVd (dvDc r) (dvS (toSh (discS r))) from dC_le r) q
def tdNr : List Dyn.EntryD := [enDc 25 (fun r => .tup [dvX (aroundF ze ze r), dvB true]) (fun r => 1 ≤ r ∧ r ≤ 1000), enDc 57 (fun r => .val (dvDc r)) (fun _ => True)]
theorem tdNr_ok : ∀ e ∈ tdNr, Dyn.EntryDOk Try.prog e := List.forall_mem_cons.2 ⟨enDc_ok fun r h => bdDc_ok r h, List.forall_mem_cons.2 ⟨enDc_ok fun r _ => cpy_ok r, fun _ h => by cases h⟩⟩
noncomputable def tabNr : Dyn.Tabs := Dyn.tabs tbF tdNr drCy dtyQ
theorem tabNr_ok : Dyn.TabsOk Try.prog tabNr := Dyn.tabs_ok tbF_ok tdNr_ok
def nr_O : Dyn.RO := .side [0 ≤ (0 : Int) ∧ (0 : Int) < 2] (.side [1 ≤ (9 : Int) ∧ (9 : Int) ≤ 1000, E1] (.side [0 ≤ (1 : Int) ∧ (1 : Int) < 2] (.side [1 ≤ (2 : Int) ∧ (2 : Int) ≤ 1000, E1] (.leaf (.val (.one (.row 0 nilF0)))))))
theorem nearL_ok : Dyn.CallD Try.prog 42 [.one (.row 2 fL2), dvX ⟨50, 0, 60, 0⟩] (.val (.one (.row 0 nilF0))) :=
  dcontractC (lp := Dyn.noLp) (fuel := 4) tabNr_ok mo Try.func42 (by kernel_rfl) (c := bodyD Try.f42.body) (by kernel_rfl) (fun w0 => Dyn.noLp_ok _ w0) (.tt (.ff (.tt (.ff (.ff .lf))))) nr_O rfl (by kernel_rfl)
    ⟨⟨by decide, trivial⟩, ⟨by decide, E1_ok, trivial⟩, ⟨by decide, trivial⟩, ⟨by decide, E1_ok, trivial⟩, leafR rfl⟩
def L2 : Shp := lForm 2 (fun i => Nat.beq i 0) (fun i => discS (bif Nat.beq i 0 then 9 else 2))
def L0 : Shp := lForm 0 (fun _ => false) (fun _ => .nil)
def LN (n : Nat) : Shp := bif Nat.beq n 0 then L0 else L2
theorem L2_e0 : fL2 0 = cB true :: dC 9 := by kernel_rfl
theorem L2_e1 : fL2 1 = cB false :: dC 2 := by kernel_rfl
theorem L2_le : DVd (.one (.row 2 fL2)) (dvL (toSh L2)) := DLe.rowL fun i hi => by
  have : i = 0 ∨ i = 1 := by omega
  rcases this with rfl | rfl
  · rw [L2_e0]; exact ⟨.refl _, dC_le 9⟩
  · rw [L2_e1]; exact ⟨.refl _, dC_le 2⟩
theorem L2_B : ShB L2 := ⟨⟨by decide, fun i hi => absurd hi (Nat.not_lt_zero i)⟩, by decide, fun i _ => disc_B _⟩
theorem L0_B : ShB L0 := ⟨⟨by decide, fun i hi => absurd hi (Nat.not_lt_zero i)⟩, by decide, fun i hi => absurd hi (Nat.not_lt_zero i)⟩
def RkL (n : Nat) (f : Nat → List Dyn.DC) : Prop := n = 0 ∨ (n = 2 ∧ DLe (.row n f) (.row 2 fL2))
theorem DLe.trans' {w : World} {F : Nat → Prop} {a b c : Dyn.DC} {u : Value} (h : DLe a b) (k : DLe b c) (d : Dyn.DenC w F a u) : Dyn.DenC w F c u := k.den (h.den d)
theorem RkL.call {P : Program} {K n : Nat} {f : Nat → List Dyn.DC} {l : List Dyn.DV} {r : Dyn.RV} (h : RkL n f) (k : Dyn.CallD P K (dvL (toSh (LN n)) :: l) r) : Dyn.CallD P K (.one (.row n f) :: l) r := by
  rcases h with rfl | ⟨rfl, h⟩
  · exact CallD_d1 (v' := dvL (toSh L0)) (DLe.rowL fun i hi => absurd hi (Nat.not_lt_zero i)) k
  · exact CallD_d1 (show DVd (.one (.row 2 f)) (.one (.row 2 fL2)) from h) (CallD_d1 L2_le k)
theorem LN_B (n : Nat) : ShB (LN n) := by
  unfold LN
  cases Nat.beq n 0
  · exact L2_B
  · exact L0_B
noncomputable def tdA21 : List Dyn.EntryD := [
  (41, fun args => match args with
    | [.one (.row n f), .agg [.p (.int .i64 x), .p (.int .i64 y)]] => some (rB (pHas (LN n) ⟨x, y⟩), [RkL n f])
    | _ => none),
  (40, fun args => match args with
    | [.one (.row n f), .agg [.p (.int .i64 x), .p (.int .i64 y), .p (.int .i64 z), .p (.int .i64 t)]] => some (rI (pClass (LN n) ⟨x, y, z, t⟩), [RkL n f])
    | _ => none),
  (39, fun args => match args with
    | [.one (.row n f), .one (.row m g)] => some (.val (.one (.row 3 ls3)), [DLe (.row n f) (.row 2 fL2), DLe (.row m g) (.row 1 fH1)])
    | _ => none),
  (42, fun args => match args with
    | [.one (.row n f), .agg [.p (.int .i64 x), .p (.int .i64 y), .p (.int .i64 z), .p (.int .i64 t)]] => some (.val (.one (.row 0 nilF0)), [DLe (.row n f) (.row 2 fL2), x = 50 ∧ y = 0 ∧ z = 60 ∧ t = 0])
    | _ => none)]
theorem tdA21_ok : ∀ e ∈ tdA21, Dyn.EntryDOk Try.prog e := by
  unfold tdA21
  refine List.forall_mem_cons.2 ⟨fun args r ps h hp => ?_, List.forall_mem_cons.2 ⟨fun args r ps h hp => ?_, List.forall_mem_cons.2 ⟨fun args r ps h hp => ?_, List.forall_mem_cons.2 ⟨fun args r ps h hp => ?_, fun _ h => by cases h⟩⟩⟩⟩
  · dsimp only at h
    split at h
    · simp only [Option.some.injEq, Prod.mk.injEq] at h
      obtain ⟨rfl, rfl⟩ := h
      exact hp.1.call (pHas_ok _ (LN_B _) ⟨_, _⟩)
    · cases h
  · dsimp only at h
    split at h
    · simp only [Option.some.injEq, Prod.mk.injEq] at h
      obtain ⟨rfl, rfl⟩ := h
      exact hp.1.call (pClass_ok _ (LN_B _) ⟨_, _, _, _⟩)
    · cases h
  · dsimp only at h
    split at h
    · simp only [Option.some.injEq, Prod.mk.injEq] at h
      obtain ⟨rfl, rfl⟩ := h
      exact CallD_d2 (show DVd (.one _) (.one _) from hp.1) (show DVd (.one _) (.one _) from hp.2.1) lessL_ok
    · cases h
  · dsimp only at h
    split at h
    · simp only [Option.some.injEq, Prod.mk.injEq] at h
      obtain ⟨rfl, rfl⟩ := h
      obtain ⟨h1, ⟨rfl, rfl, rfl, rfl⟩, -⟩ := hp
      exact CallD_d1 (show DVd (.one _) (.one _) from h1) nearL_ok
    · cases h
def drA21 (K : Nat) : Bool := Nat.beq K 39 || Nat.beq K 42
noncomputable def tabA21 : Dyn.Tabs := Dyn.tabs tbF tdA21 drA21 dtyQ
theorem tabA21_ok : Dyn.TabsOk Try.prog tabA21 := Dyn.tabs_ok tbF_ok tdA21_ok
theorem figHasD {r : Int} (h : 1 ≤ r ∧ r ≤ 1000) (p : P2) : figHasS (discS r) p = hasF (discS r) p := by unfold figHasS; rw [disc_ok h]; rfl
theorem figClassD {r : Int} (h : 1 ≤ r ∧ r ≤ 1000) (b : B4) : figClassS (discS r) b = classF (discS r) b := by unfold figClassS; rw [disc_ok h]; rfl
theorem pHasL2 (p : P2) : pHas (LN 2) p = bif hasF (discS 2) p then false else bif hasF (discS 9) p then true else false := by
  show (bif figHasS (discS 2) p then false else bif figHasS (discS 9) p then true else false) = _
  rw [figHasD (by decide), figHasD (by decide)]
theorem pClassL2 (b : B4) : pClass (LN 2) b = foldF (foldF 0 (classF (discS 9) b) true) (classF (discS 2) b) false := by
  show foldF (foldF 0 (figClassS (discS 9) b) true) (figClassS (discS 2) b) false = _
  rw [figClassD (by decide), figClassD (by decide)]
theorem pClassL0 (b : B4) : pClass (LN 0) b = 0 := rfl
noncomputable def aq1 : Bool := pHas (LN 2) ⟨5, 0⟩
noncomputable def aq2 : Bool := bif aq1 then !(pHas (LN 2) ⟨2, 0⟩) else false
noncomputable def aq3 : Bool := bif aq2 then pClass (LN 2) ⟨4, 0, 5, 0⟩ == 2 else false
noncomputable def aq4 : Bool := bif aq3 then pClass (LN 2) ⟨0, 0, 0, 0⟩ == 0 else false
noncomputable def aq5 : Bool := bif aq4 then pClass (LN 0) ⟨0, 0, 0, 0⟩ == 0 else false
theorem aq5_true : aq5 = true := by
  unfold aq5 aq4 aq3 aq2 aq1
  rw [pHasL2, pHasL2, pClassL2, pClassL2, pClassL0]
  decide +kernel
def gdP (g : Bool) (p : Prop) : Prop := some g = some true ∧ True → allP [p]
noncomputable def a21S : List Prop := [RkL 2 fL2, gdP aq1 (RkL 2 fL2), gdP aq2 (RkL 2 fL2), gdP aq3 (RkL 2 fL2), gdP aq4 (RkL 0 nilF0)]
noncomputable def a21O : Dyn.RO := .ite aq5
  (.side (a21S ++ [aq5 = true, DLe (.row 2 fL2) (.row 2 fL2), DLe (.row 1 fH1) (.row 1 fH1), (((3 : Nat) : Int) == 3) = true, DLe (.row 2 fL2) (.row 2 fL2), (50 : Int) = 50 ∧ (0 : Int) = 0 ∧ (60 : Int) = 60 ∧ (0 : Int) = 0]) (.leaf (rB (((0 : Nat) : Int) == 0))))
  (.side (a21S ++ [aq5 = false, false = false]) (.leaf (rB false)))
theorem awake21 : Dyn.CallD Try.prog 37 [] (rB true) := by
  have k2 : RkL 2 fL2 := .inr ⟨rfl, .refl _⟩
  refine dcontractC (lp := Dyn.noLp) (fuel := 4) tabA21_ok mo Try.func37 (by kernel_rfl) (c := bodyD Try.f37.body) (by kernel_rfl) (fun w0 => Dyn.noLp_ok _ w0) (.it (.tt .lf) (.ff .lf)) a21O rfl (by kernel_rfl) ⟨fun _ => ?_, fun h => absurd (aq5_true.symm.trans h) (by decide)⟩
  exact ⟨⟨k2, fun _ => ⟨k2, trivial⟩, fun _ => ⟨k2, trivial⟩, fun _ => ⟨k2, trivial⟩, fun _ => ⟨.inl rfl, trivial⟩, aq5_true, .refl _, .refl _, by decide, .refl _, by decide, trivial⟩, leafR rfl⟩
end Go.Proofs.Ytfooaikpcbnchaa

/-! ## Pif -/
namespace Go.Proofs.Ytfooaikpcbnchaa
open Go Go.RowKit Sym
set_option maxRecDepth 100000

theorem small21_all (x : Sh) (h : PdW x) : Dyn.CallD Try.prog 36 [dvL x] (rB (small21 (ofSh x))) := CallD_le (args := [dvL (toSh (ofSh x))]) ⟨SLe.dvL h.2, trivial⟩ (small21_ok _ h.1)
theorem tame21_all (x : Sh) (h : PdS x) (sm : Bool) : Dyn.CallD Try.prog 38 [dvL x, dvB sm] (.val (dvL (toSh (tame21 (ofSh x) sm)))) := CallD_le (args := [dvL (toSh (ofSh x)), dvB sm]) ⟨SLe.dvL h.2, Dyn.DVLe.refl _, trivial⟩ (tame21_ok _ h.1 sm)
theorem pClass_all (x : Sh) (h : PdS x) (b : B4) : Dyn.CallD Try.prog 40 [dvL x, dvX b] (rI (pClass (ofSh x) b)) := CallD_le (args := [dvL (toSh (ofSh x)), dvX b]) ⟨SLe.dvL h.2, Dyn.DVLe.refl _, trivial⟩ (pClass_ok _ h.1 b)
theorem pHas_all (x : Sh) (h : PdS x) (p : P2) : Dyn.CallD Try.prog 41 [dvL x, dvP p] (rB (pHas (ofSh x) p)) := CallD_le (args := [dvL (toSh (ofSh x)), dvP p]) ⟨SLe.dvL h.2, Dyn.DVLe.refl _, trivial⟩ (pHas_ok _ h.1 p)
noncomputable def tdPs : List Dyn.EntryD := [(37, en0R (rB true)), (36, en1D (qAnd qL PdW) fun x => rB (small21 (ofSh x))), (38, en2D (qAnd qL PdS) qB fun x q => .val (dvL (toSh (tame21 (ofSh x) q)))), (41, en2D (qAnd qL PdS) qP fun x p => rB (pHas (ofSh x) p)), (40, en2D (qAnd qL PdS) qX fun x b => rI (pClass (ofSh x) b))]
def drPs (K : Nat) : Bool := Nat.beq K 38
noncomputable def tabPs : Dyn.Tabs := Dyn.tabs tbF tdPs drPs dtyO
theorem tabPs_ok : Dyn.TabsOk Try.prog tabPs := Dyn.tabs_ok tbF_ok (List.forall_mem_cons.2 ⟨en0R_ok awake21, List.forall_mem_cons.2 ⟨en1D_ok (qAnd_ok qL_ok) fun x h => small21_all x h.1, List.forall_mem_cons.2 ⟨en2D_ok (qAnd_ok qL_ok) qB_ok fun x q h _ => tame21_all x h.1 q, List.forall_mem_cons.2 ⟨en2D_ok (qAnd_ok qL_ok) qP_ok fun x p h _ => pHas_all x h.1 p, List.forall_mem_cons.2 ⟨en2D_ok (qAnd_ok qL_ok) qX_ok fun x b h _ => pClass_all x h.1 b, fun _ h => by cases h⟩⟩⟩⟩⟩)
/-- what of it is tame -/
theorem lf_B {n : Nat} {add : Nat → Bool} {sub : Nat → Shp} (h : small21 (lForm n add sub) = true) : ShB (lForm n add sub) := by
  unfold small21 at h
  by_cases hn : ((n : Nat) : Int) > 20
  · rw [show decide ((nuO (lForm n add sub) : Int) > 20) = true from decide_eq_true hn] at h; cases h
  · rw [show decide ((nuO (lForm n add sub) : Int) > 20) = false from decide_eq_false hn] at h
    refine ⟨⟨by decide, fun i hi => absurd hi (Nat.not_lt_zero i)⟩, by omega, fun i hi => ?_⟩
    obtain ⟨u, _, k2⟩ := runN_all h i hi
    exact small_B _ 0 k2
theorem tame21_B (s : Shp) (h : ShB s) (sm : Bool) : ShB (tame21 s sm) := by
  cases s with
  | nil => exact h.elim
  | mk k a b c r l n add sub =>
    refine ⟨⟨by decide, fun i hi => absurd hi (Nat.not_lt_zero i)⟩, by show min n 12 ≤ _; omega, fun i hi => ?_⟩
    have hi' : i < min n 12 := hi
    exact fine_B _ 2 (tame_fine sm (sub i) 2 (h.2.2 i (by omega)) (by decide) (by decide)) (by decide)
theorem tame2_ok (sm : Bool) (s : Shp) (h : ShB s) : okE (toSh (tameS s sm 2)) = true := by
  unfold okE
  rw [vE_eq]
  exact (fine_valid (fun p hp => PB_near (tmX_le sm) hp) _ 2 0 1000 (tame_fine sm s 2 h (by decide) (by decide)) (by decide) (by decide) (by decide) (by decide) (by decide)).1
/-- tame objects are sure of the points of a box -/
theorem pile_sure (sm : Bool) {b : B4} (hb : BR b) (hf : Fits b) (hx : b.x0 ≤ b.x1) (hy : b.y0 ≤ b.y1) (x y : Int) (s : Shp) (h : ShB s) : Sure (pHas (tame21 s sm) (lIn b x y)) (pClass (tame21 s sm) b) := by
  cases s with
  | nil => exact h.elim
  | mk k a b' c r l n add sub =>
    show Sure (foldN (hasN (fun i => figHasS (tameS (sub i) sm 2) (lIn b x y)) add) false (min n 12)) (foldN (fun i acc => foldF acc (figClassS (tameS (sub i) sm 2) b) (add i)) 0 (min n 12))
    refine sure_fold _ (fun i => figClassS (tameS (sub i) sm 2) b) add _ fun i hi => ?_
    have ok := tame2_ok sm (sub i) (h.2.2 i (by omega))
    have e1 : figHasS (tameS (sub i) sm 2) (lIn b x y) = hasF (tameS (sub i) sm 2) (lIn b x y) := by unfold figHasS; rw [ok]; rfl
    have e2 : figClassS (tameS (sub i) sm 2) b = classF (tameS (sub i) sm 2) b := by unfold figClassS; rw [ok]; rfl
    show Sure (figHasS (tameS (sub i) sm 2) (lIn b x y)) (figClassS (tameS (sub i) sm 2) b)
    rw [e1, e2]
    exact shape_sure sm hb hf hx hy x y (sub i) 2
noncomputable def psO0 (S : Sh) (b : B4) (x y : Int) : Dyn.RO := .side [PdS S] (.side [lInOk b, PdS S] (.leaf (rB (fsV (pHas (ofSh S) (lIn b x y)) (pClass (ofSh S) b)))))
noncomputable def psO (s : Sh) (b : B4) (x y : Int) (sm : Bool) : Dyn.RO :=
  .side [PdW s] (.ite (!(small21 (ofSh s))) (.leaf (rB true)) (.side [PdS s] (.ite sm (psO0 (toSh (tame21 (ofSh s) sm)) (lSmall (lBox b)) x y) (psO0 (toSh (tame21 (ofSh s) sm)) (lBox b) x y))))
theorem ps_O (n : Nat) (f : Nat → List Dyn.DC) (b : B4) (x y : Int) (sm : Bool) : (Dyn.dfun Try.prog tabPs Dyn.noLp 3 Try.f11 [dvL (obX n f), dvX b, dvI x, dvI y, dvB sm]).ro Try.prog Try.f11.results = psO (obX n f) b x y sm := by kernel_rfl
theorem pileSure_ok (s : Shp) (hs : ShW s) (b : B4) (x y : Int) (sm : Bool) : Dyn.CallD Try.prog 11 [dvL (toSh s), dvX b, dvI x, dvI y, dvB sm] (rB true) := by
  cases s with
  | nil => exact hs.elim
  | mk k a b' c r l n add sub =>
    have hw : ShW (lForm n add sub) := hs
    refine Dyn.dcontract (lp := Dyn.noLp) (fuel := 3) tabPs_ok mo Try.func11 (by kernel_rfl) (c := bodyD Try.f11.body) (by kernel_rfl) (fun w0 => Dyn.noLp_ok _ w0) (by kernel_rfl) (ps_O n (fun i => partC (add i) (toSh (sub i))) b x y sm) ?_
    show (psO (toSh (lForm n add sub)) b x y sm).sat _
    unfold psO
    rw [ofSh_toSh]
    refine ⟨⟨PdW_mk hw, trivial⟩, fun h => ro_leaf rfl, fun h => ?_⟩
    have hB := lf_B (n := n) (add := add) (sub := sub) (by simpa using h)
    have key : ∀ b', BR b' → Fits b' → b'.x0 ≤ b'.x1 → b'.y0 ≤ b'.y1 → (psO0 (toSh (tame21 (lForm n add sub) sm)) b' x y).sat fun r => Dyn.RVLe r (rB true) := fun b' hb hf hx hy => by
      have pT := PdS_mk (tame21_B _ hB sm)
      unfold psO0
      rw [ofSh_toSh]
      refine ⟨⟨pT, trivial⟩, ⟨(lIn_has x y hb hx hy).2, pT, trivial⟩, ?_⟩
      rw [fsV_true (pile_sure sm hb hf hx hy x y _ hB)]
      exact ro_leaf rfl
    refine ⟨⟨PdS_mk hB, trivial⟩, fun _ => ?_, fun _ => ?_⟩
    · have h := lSmall_r (lBox b)
      exact key _ (lSmall_R (lBox b)) ⟨by omega, by omega, by omega, by omega, by omega, by omega⟩ (by omega) (by omega)
    · have h := lBox_r b
      exact key _ (lBox_R b) (lBox_fits b) (by omega) (by omega)
end Go.Proofs.Ytfooaikpcbnchaa

/-! ## Pim -/
namespace Go.Proofs.Ytfooaikpcbnchaa
open Go Go.RowKit Sym
set_option maxRecDepth 100000

/-- q lies in b -/
structure Sb (q b : B4) : Prop where
  fa : b.x0 ≤ q.x0
  x : q.x0 ≤ q.x1
  fb : q.x1 ≤ b.x1
  fc : b.y0 ≤ q.y0
  y : q.y0 ≤ q.y1
  fd : q.y1 ≤ b.y1
theorem Sb.has {q b : B4} (h : Sb q b) {p : P2} (k : hasI q p) : hasI b p := by
  have := h.fa; have := h.fb; have := h.fc; have := h.fd
  obtain ⟨k1, k2, k3, k4⟩ := k
  exact ⟨by omega, by omega, by omega, by omega⟩
theorem Sb.cor {q b : B4} (h : Sb q b) {p : P2} (k : isC q p) : hasI b p := h.has (isC_has h.x h.y k)
theorem Sb.near {q b : B4} (h : Sb q b) (p : P2) : nearI b p ≤ nearI q p := by
  have := h.fa; have := h.fb; have := h.fc; have := h.fd; have := h.x; have := h.y
  have gx : 0 ≤ gapI p.x b.x0 b.x1 ∧ gapI p.x b.x0 b.x1 ≤ gapI p.x q.x0 q.x1 := by unfold gapI; repeat' split <;> omega
  have gy : 0 ≤ gapI p.y b.y0 b.y1 ∧ gapI p.y b.y0 b.y1 ≤ gapI p.y q.y0 q.y1 := by unfold gapI; repeat' split <;> omega
  have := Int.mul_le_mul gx.2 gx.2 gx.1 (by omega)
  have := Int.mul_le_mul gy.2 gy.2 gy.1 (by omega)
  unfold nearI
  omega
theorem Sb.most {q b : B4} (h : Sb q b) (p : P2) : mostI q p ≤ mostI b p := by
  have := h.fa; have := h.fb; have := h.fc; have := h.fd; have := h.x; have := h.y
  have gx : 0 ≤ reachI p.x q.x0 q.x1 ∧ reachI p.x q.x0 q.x1 ≤ reachI p.x b.x0 b.x1 := by unfold reachI; omega
  have gy : 0 ≤ reachI p.y q.y0 q.y1 ∧ reachI p.y q.y0 q.y1 ≤ reachI p.y b.y0 b.y1 := by unfold reachI; omega
  have := Int.mul_le_mul gx.2 gx.2 gx.1 (by omega)
  have := Int.mul_le_mul gy.2 gy.2 gy.1 (by omega)
  unfold mostI
  omega
theorem Sb.pos {q b : B4} (h : Sb q b) {a c : P2} (k : all4 (fun z => decide (crossI a c z > 0)) b = true) : all4 (fun z => decide (crossI a c z > 0)) q = true := by
  rw [all4_iff] at k ⊢
  intro z hz
  obtain ⟨w, hw, hl⟩ := cross_le a c (h.cor hz)
  have := k w hw
  rw [decide_eq_true_eq] at this ⊢; omega
theorem Sb.ge {q b : B4} (h : Sb q b) {a c : P2} (k : all4 (fun z => decide (crossI a c z ≥ 0)) b = true) : all4 (fun z => decide (crossI a c z ≥ 0)) q = true := by
  rw [all4_iff] at k ⊢
  intro z hz
  obtain ⟨w, hw, hl⟩ := cross_le a c (h.cor hz)
  have := k w hw
  rw [decide_eq_true_eq] at this ⊢; omega
theorem Sb.neg {q b : B4} (h : Sb q b) {a c : P2} (k : all4 (fun z => decide (crossI a c z < 0)) b = true) : all4 (fun z => decide (crossI a c z < 0)) q = true := by
  rw [all4_iff] at k ⊢
  intro z hz
  obtain ⟨w, hw, hl⟩ := cross_ge a c (h.cor hz)
  have := k w hw
  rw [decide_eq_true_eq] at this ⊢; omega
theorem Sb.ge2 {q b : B4} (h : Sb q b) {a c : P2} (k : all4 (fun z => decide (crossI a z c ≥ 0)) b = true) : all4 (fun z => decide (crossI a z c ≥ 0)) q = true := by
  rw [all4_iff] at k ⊢
  intro z hz
  obtain ⟨w, hw, hl⟩ := cross_ge a c (h.cor hz)
  have := k w hw
  rw [decide_eq_true_eq] at this ⊢
  have e1 := cross_sw a c z
  have e2 := cross_sw a c w
  omega
theorem Sb.neg2 {q b : B4} (h : Sb q b) {a c : P2} (k : all4 (fun z => decide (crossI a z c < 0)) b = true) : all4 (fun z => decide (crossI a z c < 0)) q = true := by
  rw [all4_iff] at k ⊢
  intro z hz
  obtain ⟨w, hw, hl⟩ := cross_le a c (h.cor hz)
  have := k w hw
  rw [decide_eq_true_eq] at this ⊢
  have e1 := cross_sw a c z
  have e2 := cross_sw a c w
  omega
theorem Sb.meets {q b : B4} (h : Sb q b) {a c : P2} (k : meetsI q a c = true) : meetsI b a c = true := by
  have := h.fa; have := h.fb; have := h.fc; have := h.fd; have := h.x; have := h.y
  unfold meetsI at k ⊢
  simp only [Bool.and_eq_true, Bool.not_eq_true'] at k ⊢
  obtain ⟨k1, k2, k3⟩ := k
  refine ⟨?_, ?_, ?_⟩
  · unfold sepI at k1 ⊢
    simp only [Bool.or_eq_false_iff, decide_eq_false_iff_not] at k1 ⊢
    omega
  · cases e : all4 (fun z => decide (crossI a c z > 0)) b
    · rfl
    · rw [h.pos e] at k2; cases k2
  · cases e : all4 (fun z => decide (crossI a c z < 0)) b
    · rfl
    · rw [h.neg e] at k3; cases k3
/-- a class, and that of a smaller box -/
structure Ref (k j : Int) : Prop where
  k0 : 0 ≤ k
  k2 : k ≤ 2
  j0 : 0 ≤ j
  j2 : j ≤ 2
  e : k ≠ 1 → j = k
theorem Ref.of {k j : Int} (hk : k = 0 ∨ k = 1 ∨ k = 2) (hj : j = 0 ∨ j = 1 ∨ j = 2) (h2 : k = 2 → j = 2) (h0 : k = 0 → j = 0) : Ref k j := ⟨by omega, by omega, by omega, by omega, fun h => by omega⟩
theorem Ref.fold {k j m n : Int} (h : Ref k j) (g : Ref m n) (add : Bool) : Ref (foldF k m add) (foldF j n add) := by
  obtain ⟨h1, h2, h3, h4, h5⟩ := h
  obtain ⟨g1, g2, g3, g4, g5⟩ := g
  have a : (k = 0 ∧ j = 0) ∨ (k = 2 ∧ j = 2) ∨ (k = 1 ∧ (j = 0 ∨ j = 1 ∨ j = 2)) := by omega
  have b : (m = 0 ∧ n = 0) ∨ (m = 2 ∧ n = 2) ∨ (m = 1 ∧ (n = 0 ∨ n = 1 ∨ n = 2)) := by omega
  rcases a with ⟨rfl, rfl⟩ | ⟨rfl, rfl⟩ | ⟨rfl, rfl | rfl | rfl⟩ <;> rcases b with ⟨rfl, rfl⟩ | ⟨rfl, rfl⟩ | ⟨rfl, rfl | rfl | rfl⟩ <;> cases add <;> exact ⟨by decide, by decide, by decide, by decide, by decide⟩
theorem ref_disc {q b : B4} (h : Sb q b) (hb : BR b) (hq : BR q) {c : P2} (hc : PR c) {r : Int} (h1 : 1 ≤ r) (h2 : r ≤ 2147483648) : Ref (discClass b c r) (discClass q c r) := by
  have := h.fa; have := h.fb; have := h.fc; have := h.fd; have := h.x; have := h.y
  rw [discClass_eq hb hc (by omega) (by omega) h1 h2, discClass_eq hq hc h.x h.y h1 h2]
  have n := h.near c
  have m := h.most c
  have nm := near_most (p := c) h.x h.y
  constructor <;> repeat' split <;> omega
theorem ref_line {q b : B4} (h : Sb q b) (hb : BR b) (hq : BR q) {a c : P2} (ha : PR a) (hc : PR c) {r : Int} (h1 : 1 ≤ r) (h2 : r ≤ 2147483648) : Ref (lineClass b a c r) (lineClass q a c r) := by
  have := h.fa; have := h.fb; have := h.fc; have := h.fd; have := h.x; have := h.y
  rw [lineClass_eq hb ha hc (by omega) (by omega) h1 h2, lineClass_eq hq ha hc h.x h.y h1 h2]
  refine Ref.of (lineCl_012 _ _ _ _) (lineCl_012 _ _ _ _) (fun k => ?_) (fun k => ?_)
  · rw [lineCl_two] at k ⊢
    rw [all4_iff]
    intro z hz
    exact line_in (h.cor hz) k
  · rcases lineCl_012 q a c r with e | e
    · exact e
    · exfalso
      have hit : lineCl q a c r ≠ 0 := by omega
      rw [lineCl_hit] at hit
      have nb : ¬ (any4 (fun z => lineI z a c r) b = true ∨ nearI b a ≤ r * r ∨ nearI b c ≤ r * r ∨ meetsI b a c = true) := fun x => (lineCl_hit.2 x) k
      rcases hit with x | x | x | x
      · obtain ⟨z, hz, hi⟩ := any4_iff.1 x
        exact hit_of (by omega) (by omega) (h.cor hz) hi k
      · exact nb (.inr (.inl (by have := h.near a; omega)))
      · exact nb (.inr (.inr (.inl (by have := h.near c; omega))))
      · exact nb (.inr (.inr (.inr (h.meets x))))
theorem ref_bar {q b : B4} (h : Sb q b) (hb : BR b) (hq : BR q) {a c : P2} (ha : PR a) (hc : PR c) {r : Int} (h2 : r ≤ 2147483648) : Ref (barClass b a c r) (barClass q a c r) := by
  have := h.fa; have := h.fb; have := h.fc; have := h.fd; have := h.x; have := h.y
  rw [barClass_eq hb ha hc (by omega) (by omega) h2, barClass_eq hq ha hc h.x h.y h2]
  refine Ref.of (barCl_012 _ _ _ _) (barCl_012 _ _ _ _) (fun k => ?_) (fun k => ?_)
  · rw [barCl_two] at k ⊢
    refine ⟨k.1, ?_⟩
    rw [all4_iff]
    intro z hz
    exact bar_in (h.cor hz) k.2
  · by_cases v : r < 1 ∨ same a c
    · unfold barCl; rw [if_pos v]
    · have out : ∀ z, isC q z → barI z a c r = false := fun z hz => bar_out (h.cor hz) k
      have n2 : all4 (fun z => barI z a c r) q = false := by
        cases e : all4 (fun z => barI z a c r) q
        · rfl
        · have := all4_iff.1 e ⟨q.x0, q.y0⟩ ⟨.inl rfl, .inl rfl⟩
          rw [out _ ⟨.inl rfl, .inl rfl⟩] at this; cases this
      unfold barCl at k ⊢
      rw [if_neg v] at k ⊢
      have k2 : all4 (fun z => barI z a c r) b = false := by
        cases e : all4 (fun z => barI z a c r) b
        · rfl
        · rw [if_pos e] at k; cases k
      rw [k2] at k
      simp only [Bool.false_eq_true, if_false] at k
      rw [n2]
      simp only [Bool.false_eq_true, if_false]
      have k3 : (all4 (rightI a c r) b || all4 (leftI a c r) b || all4 (fun z => decide (dotI a c z < 0)) b || all4 (fun z => decide (dotI a c z > distI a c)) b) = true := by
        cases e : (all4 (rightI a c r) b || all4 (leftI a c r) b || all4 (fun z => decide (dotI a c z < 0)) b || all4 (fun z => decide (dotI a c z > distI a c)) b)
        · rw [e] at k; cases k
        · rfl
      rw [if_pos]
      simp only [Bool.or_eq_true, all4_iff] at k3 ⊢
      rcases k3 with ((k3 | k3) | k3) | k3
      · refine .inl (.inl (.inl fun z hz => ?_))
        obtain ⟨w, hw, hl⟩ := cross_ge a c (h.cor hz)
        have e := k3 w hw
        unfold rightI clear at e ⊢
        simp only [Bool.and_eq_true, Bool.not_eq_true', decide_eq_false_iff_not] at e ⊢
        have t := sq_le (x := -crossI a c w) (y := -crossI a c z) (by omega) (by omega)
        have e1 : -crossI a c w * -crossI a c w = crossI a c w * crossI a c w := by grind
        have e2 : -crossI a c z * -crossI a c z = crossI a c z * crossI a c z := by grind
        omega
      · refine .inl (.inl (.inr fun z hz => ?_))
        obtain ⟨w, hw, hl⟩ := cross_le a c (h.cor hz)
        have e := k3 w hw
        unfold leftI clear at e ⊢
        simp only [Bool.and_eq_true, Bool.not_eq_true', decide_eq_false_iff_not, decide_eq_true_eq] at e ⊢
        have t := sq_le (x := crossI a c w) (y := crossI a c z) (by omega) (by omega)
        omega
      · refine .inl (.inr fun z hz => ?_)
        obtain ⟨w, hw, hl⟩ := dot_ge a c (h.cor hz)
        have e := k3 w hw
        simp only [decide_eq_true_eq] at e ⊢; omega
      · refine .inr fun z hz => ?_
        obtain ⟨w, hw, hl⟩ := dot_le a c (h.cor hz)
        have e := k3 w hw
        simp only [decide_eq_true_eq] at e ⊢; omega
theorem Sb.liIn {q b : B4} (h : Sb q b) {c a e : P2} (k : liIn b c a e = true) : liIn q c a e = true := by
  unfold Go.Proofs.Ytfooaikpcbnchaa.liIn at k ⊢
  cases s : decide (same a e)
  · rw [s] at k
    simp only [Bool.false_or] at k ⊢
    split at k
    · rename_i g
      rw [if_pos g]
      rw [Bool.or_eq_true] at k ⊢
      exact k.imp h.ge h.ge2
    · rename_i g
      rw [if_neg g]
      rw [Bool.and_eq_true] at k ⊢
      exact ⟨h.ge k.1, h.ge2 k.2⟩
  · rfl
theorem Sb.liOff {q b : B4} (h : Sb q b) {c a e : P2} (k : liOff b c a e = true) : liOff q c a e = true := by
  unfold Go.Proofs.Ytfooaikpcbnchaa.liOff at k ⊢
  rw [Bool.and_eq_true] at k ⊢
  refine ⟨k.1, ?_⟩
  have k := k.2
  split at k
  · rename_i g
    rw [if_pos g]
    rw [Bool.and_eq_true] at k ⊢
    exact ⟨h.neg k.1, h.neg2 k.2⟩
  · rename_i g
    rw [if_neg g]
    rw [Bool.or_eq_true] at k ⊢
    exact k.imp h.neg h.neg2
theorem ref_ring {q b : B4} (h : Sb q b) (hb : BR b) (hq : BR q) {c a e : P2} (hc : PR c) (ha : PR a) (he : PR e) (ok : okI c a e) {r : Int} (h4 : 1 ≤ r) (h5 : r ≤ 1073741824) (hd : mostI b c ≤ 4000000000000000000) (hr : distI a c ≤ 4000000000000000000) : Ref (ringClass b c a e r) (ringClass q c a e r) := by
  have := h.fa; have := h.fb; have := h.fc; have := h.fd; have := h.x; have := h.y
  have mc := h.most c
  have nc := h.near c
  have ma := h.most a
  have na := h.near a
  have me := h.most e
  have ne := h.near e
  have nm := near_most (p := c) h.x h.y
  have nma := near_most (p := a) h.x h.y
  have nme := near_most (p := e) h.x h.y
  rw [ringClass_eq hb hc ha he ok (by omega) (by omega) h4 h5 hd hr, ringClass_eq hq hc ha he ok h.x h.y h4 h5 (by omega) hr]
  have o1 : outI (nearI b c) (distI a c) r = true → outI (nearI q c) (distI a c) r = true := outI_mono nc
  have o2 : outI (mostI q c) (distI a c) r = true → outI (mostI b c) (distI a c) r = true := outI_mono mc
  have o3 : outI (nearI q c) (distI a c) r = true → outI (mostI q c) (distI a c) r = true := outI_mono nm
  have i1 : insI (mostI b c) (distI a c) r = true → insI (mostI q c) (distI a c) r = true := insI_mono mc
  have i2 : insI (nearI q c) (distI a c) r = true → insI (nearI b c) (distI a c) r = true := insI_mono nc
  have i3 : insI (mostI q c) (distI a c) r = true → insI (nearI q c) (distI a c) r = true := insI_mono nm
  have l1 : liIn b c a e = true → liIn q c a e = true := h.liIn
  have l2 : liOff b c a e = true → liOff q c a e = true := h.liOff
  have l3 : liOff q c a e = true → liIn q c a e = true → False := fun u v => by
    have k1 := liOff_has (q := ⟨q.x0, q.y0⟩) ⟨Int.le_refl _, h.x, Int.le_refl _, h.y⟩ u
    have k2 := liIn_has (q := ⟨q.x0, q.y0⟩) ⟨Int.le_refl _, h.x, Int.le_refl _, h.y⟩ v
    rw [k1] at k2; cases k2
  refine Ref.of (ringCl_012 _ _ _ _ _) (ringCl_012 _ _ _ _ _) (fun k => ?_) (fun k => ?_)
  · unfold ringCl at k ⊢
    by_cases m1 : mostI b a ≤ r * r ∨ mostI b e ≤ r * r
    · rw [if_pos (by omega)]
    · rw [if_neg m1] at k
      by_cases m2 : (liIn b c a e && outI (nearI b c) (distI a c) r && insI (mostI b c) (distI a c) r) = true
      · simp only [Bool.and_eq_true] at m2
        have q2 : (liIn q c a e && outI (nearI q c) (distI a c) r && insI (mostI q c) (distI a c) r) = true := by
          simp only [Bool.and_eq_true]
          exact ⟨⟨l1 m2.1.1, o1 m2.1.2⟩, i1 m2.2⟩
        rw [if_pos q2]
        split <;> rfl
      · rw [if_neg m2] at k
        split at k
        · cases k
        · split at k <;> cases k
  · unfold ringCl at k ⊢
    by_cases m1 : mostI b a ≤ r * r ∨ mostI b e ≤ r * r
    · rw [if_pos m1] at k; cases k
    · rw [if_neg m1] at k
      by_cases m2 : (liIn b c a e && outI (nearI b c) (distI a c) r && insI (mostI b c) (distI a c) r) = true
      · rw [if_pos m2] at k; cases k
      · rw [if_neg m2] at k
        by_cases m3 : nearI b a ≤ r * r ∨ nearI b e ≤ r * r
        · rw [if_pos m3] at k; cases k
        · rw [if_neg m3] at k
          by_cases m4 : (liOff b c a e || !(insI (nearI b c) (distI a c) r) || !(outI (mostI b c) (distI a c) r)) = true
          · simp only [Bool.or_eq_true, Bool.not_eq_true'] at m4
            rw [if_neg (by omega), if_neg, if_neg (by omega), if_pos]
            · simp only [Bool.or_eq_true, Bool.not_eq_true']
              rcases m4 with (m4 | m4) | m4
              · exact .inl (.inl (l2 m4))
              · refine .inl (.inr ?_)
                cases x : insI (nearI q c) (distI a c) r
                · rfl
                · rw [i2 x] at m4; cases m4
              · refine .inr ?_
                cases x : outI (mostI q c) (distI a c) r
                · rfl
                · rw [o2 x] at m4; cases m4
            · intro x
              simp only [Bool.and_eq_true] at x
              obtain ⟨⟨x1, x2⟩, x3⟩ := x
              rcases m4 with (m4 | m4) | m4
              · exact l3 (l2 m4) x1
              · rw [i2 (i3 x3)] at m4; cases m4
              · rw [o2 (o3 x2)] at m4; cases m4
          · rw [if_neg m4] at k; cases k
theorem ref_poly {q b : B4} (h : Sb q b) (hb : BR b) (hq : BR q) {l : Ctr} (hl : PRC l) : Ref (polyClassF b l) (polyClassF q l) := by
  have := h.fa; have := h.fb; have := h.fc; have := h.fd; have := h.x; have := h.y
  have hC : hasI q ⟨q.x0, q.y0⟩ := ⟨Int.le_refl _, h.x, Int.le_refl _, h.y⟩
  have tq : touchI q l = true → touchI b l = true := fun t => by
    unfold touchI at t ⊢
    rw [anyN_iff] at t ⊢
    obtain ⟨i, hi, t⟩ := t
    refine ⟨i, hi, ?_⟩
    rw [anyN_iff] at t ⊢
    obtain ⟨k, hk, t⟩ := t
    exact ⟨k, hk, h.meets t⟩
  have v : ∀ b : B4, polyClassF b l = 0 ∨ polyClassF b l = 1 ∨ polyClassF b l = 2 := fun b => by
    unfold polyClassF
    cases touchF b l
    · cases andB (boxHas b ⟨b.x0, b.y0⟩) (oddF ⟨b.x0, b.y0⟩ l) <;> simp
    · simp
  have s1 := polyClass_sure (q := ⟨q.x0, q.y0⟩) hb (by omega) (by omega) hl (h.has hC)
  have s2 := polyClass_sure (q := ⟨q.x0, q.y0⟩) hq h.x h.y hl hC
  have no : polyClassF b l ≠ 1 → polyClassF q l ≠ 1 := fun n1 n2 => by
    have e1 : touchI b l = false := by
      cases t : touchI b l
      · rfl
      · exfalso
        apply n1
        unfold polyClassF
        rw [touchF_eq hb (by omega) (by omega) hl, t]; rfl
    have e2 : touchI q l = true := by
      unfold polyClassF at n2
      rw [touchF_eq hq h.x h.y hl] at n2
      cases t : touchI q l
      · rw [t] at n2
        exfalso
        revert n2
        show ¬ (bif andB (boxHas q ⟨q.x0, q.y0⟩) (oddF ⟨q.x0, q.y0⟩ l) then (2 : Int) else 0) = 1
        cases andB (boxHas q ⟨q.x0, q.y0⟩) (oddF ⟨q.x0, q.y0⟩ l) <;> simp
      · rfl
    rw [tq e2] at e1; cases e1
  refine Ref.of (v b) (v q) (fun k => ?_) (fun k => ?_)
  · rcases s2 with ⟨e, f⟩ | e | ⟨e, f⟩
    · rcases s1 with ⟨e', f'⟩ | e' | ⟨e', f'⟩
      · omega
      · omega
      · rw [f] at f'; cases f'
    · exact absurd e (no (by omega))
    · exact e
  · rcases s2 with ⟨e, f⟩ | e | ⟨e, f⟩
    · exact e
    · exact absurd e (no (by omega))
    · rcases s1 with ⟨e', f'⟩ | e' | ⟨e', f'⟩
      · rw [f] at f'; cases f'
      · omega
      · omega
theorem fitsBR {b : B4} (hb : Fits b) : BR b := ⟨⟨by have := hb.x0; omega, by have := hb.x; have := hb.x1; omega⟩, ⟨by have := hb.y0; omega, by have := hb.y; have := hb.y1; omega⟩, ⟨by have := hb.x0; have := hb.x; omega, by have := hb.x1; omega⟩, ⟨by have := hb.y0; have := hb.y; omega, by have := hb.y1; omega⟩⟩
theorem ref_fold (c d : Nat → Int) (add : Nat → Bool) : ∀ n, (∀ i, i < n → Ref (c i) (d i)) → Ref (foldN (fun i acc => foldF acc (c i) (add i)) 0 n) (foldN (fun i acc => foldF acc (d i) (add i)) 0 n)
  | 0, _ => (⟨by decide, by decide, by decide, by decide, fun _ => rfl⟩ : Ref 0 0)
  | n + 1, h => (ref_fold c d add n fun i hi => h i (by omega)).fold (h n (by omega)) (add n)
theorem ref_shape (sm : Bool) {q b : B4} (h : Sb q b) (hb : Fits b) (hq : Fits q) : ∀ (s : Shp) (d : Int), Ref (classF (tameS s sm d) b) (classF (tameS s sm d) q) := by
  have bb : BR b := fitsBR hb
  have bq : BR q := fitsBR hq
  intro s
  induction s with
  | nil => intro d; exact (⟨by decide, by decide, by decide, by decide, fun _ => rfl⟩ : Ref 0 0)
  | mk k a b' c r l n add sub ih =>
    intro d
    have kk := tmKk_bd ⟨k, a, b', c, r, l, n, noF⟩ d
    have kb := tmB_ok ⟨k, a, b', c, r, l, n, noF⟩ sm
    have kr := wid_bd (tmR_ok ⟨k, a, b', c, r, l, n, noF⟩ sm)
    have ka := PB_PR (at_PB a sm)
    simp only [tameS]
    generalize tmKk ⟨k, a, b', c, r, l, n, noF⟩ d = K at *
    have : K = 1 ∨ K = 2 ∨ K = 3 ∨ K = 4 ∨ K = 5 ∨ K = 6 := by omega
    rcases this with rfl | rfl | rfl | rfl | rfl | rfl
    · exact ref_disc h bb bq ka kr.1 (by omega)
    · exact ref_poly h bb bq (tameC_r l sm)
    · exact ref_line h bb bq ka (PB_PR kb.1) kr.1 (by omega)
    · exact ref_bar h bb bq ka (PB_PR kb.1) (by omega)
    · obtain ⟨f1, f2, f3, f4⟩ := arc_facts c (band a.x 65535) b'.x sm
      obtain ⟨g1, g2, g3, g4⟩ := arc_facts c (band a.y 65535) b'.x sm
      have cr := arcC_r c sm
      exact ref_ring h bb bq ⟨⟨by omega, by omega⟩, ⟨by omega, by omega⟩⟩ f1 g1 (arc_okI c _ _ _ sm) kr.1 (by omega) (by have := most_far hb.x0 hb.x hb.x1 hb.y0 hb.y hb.y1 cr; omega) (by rw [f2]; omega)
    · exact ref_fold (fun i => classF (tameS (sub i) sm (W (d + 1))) b) (fun i => classF (tameS (sub i) sm (W (d + 1))) q) add _ fun i _ => ih i _
end Go.Proofs.Ytfooaikpcbnchaa

/-! ## Pin -/
namespace Go.Proofs.Ytfooaikpcbnchaa
open Go Go.RowKit Sym
set_option maxRecDepth 100000

def splB (p : P2) (k : Int) : B4 := ⟨p.x, p.y, W (p.x + W (2 * k)), W (p.y + W (2 * k))⟩
def splQ (p : P2) (k c d : Int) : B4 := ⟨W (p.x + W (c * k)), W (p.y + W (d * k)), W (W (p.x + W (c * k)) + k), W (W (p.y + W (d * k)) + k)⟩
noncomputable def splT (t : Shp) (b q : B4) : Bool := bif pClass t b != 1 then pClass t q != pClass t b else false
noncomputable def splO0 (S : Sh) (p : P2) (k : Int) : Dyn.RO :=
  .side [PdS S] (.side [PdS S] (.ite (splT (ofSh S) (splB p k) (splQ p k 0 0)) (.leaf (rB false)) (.side [PdS S] (.ite (splT (ofSh S) (splB p k) (splQ p k 1 0)) (.leaf (rB false)) (.side [PdS S] (.ite (splT (ofSh S) (splB p k) (splQ p k 0 1)) (.leaf (rB false))
    (.side [PdS S] (.ite (splT (ofSh S) (splB p k) (splQ p k 1 1)) (.leaf (rB false)) (.leaf (rB true))))))))))
def splK (w : Int) : Int := W (W ((IntKind.u64.wrap w).tmod 50000000) + 1)
noncomputable def splO (s : Sh) (x y w : Int) (sm : Bool) : Dyn.RO :=
  .side [PdW s] (.ite (!(small21 (ofSh s))) (.leaf (rB true)) (.side [PdS s] (.side [W (400000000 + 1) ≠ 0]
    (.ite sm (.side [W (20 + 1) ≠ 0] (splO0 (toSh (tame21 (ofSh s) sm)) (lClose (lClose ⟨x, y⟩ 400000000) 20) (W (band (splK w) 7 + 1)))) (splO0 (toSh (tame21 (ofSh s) sm)) (lClose ⟨x, y⟩ 400000000) (splK w))))))
theorem spl_O (n : Nat) (f : Nat → List Dyn.DC) (x y w : Int) (sm : Bool) : (Dyn.dfun Try.prog tabPs Dyn.noLp 5 Try.f13 [dvL (obX n f), dvI x, dvI y, dvI w, dvB sm]).ro Try.prog Try.f13.results = splO (obX n f) x y w sm := by kernel_rfl
theorem pile_ref (sm : Bool) {q b : B4} (h : Sb q b) (hb : Fits b) (hq : Fits q) (s : Shp) (hB : ShB s) : Ref (pClass (tame21 s sm) b) (pClass (tame21 s sm) q) := by
  cases s with
  | nil => exact hB.elim
  | mk k a b' c r l n add sub =>
    show Ref (foldN (fun i acc => foldF acc (figClassS (tameS (sub i) sm 2) b) (add i)) 0 (min n 12)) (foldN (fun i acc => foldF acc (figClassS (tameS (sub i) sm 2) q) (add i)) 0 (min n 12))
    refine ref_fold (fun i => figClassS (tameS (sub i) sm 2) b) (fun i => figClassS (tameS (sub i) sm 2) q) add _ fun i hi => ?_
    have ok := tame2_ok sm (sub i) (hB.2.2 i (by omega))
    have e : ∀ b, figClassS (tameS (sub i) sm 2) b = classF (tameS (sub i) sm 2) b := fun b => by unfold figClassS; rw [ok]; rfl
    show Ref (figClassS (tameS (sub i) sm 2) b) (figClassS (tameS (sub i) sm 2) q)
    rw [e, e]
    exact ref_shape sm h hb hq (sub i) 2
theorem splT_no {t : Shp} {b q : B4} (h : Ref (pClass t b) (pClass t q)) : splT t b q = false := by
  unfold splT
  by_cases k : pClass t b = 1
  · rw [show (pClass t b != 1) = false by simp [k]]; rfl
  · rw [show (pClass t q != pClass t b) = false by simp [h.e k]]
    cases (pClass t b != 1) <;> rfl
theorem splO0_ok {t : Shp} {p : P2} {k : Int} (pT : PdS (toSh t)) (h : ∀ c d, (c = 0 ∨ c = 1) → (d = 0 ∨ d = 1) → Ref (pClass t (splB p k)) (pClass t (splQ p k c d))) : (splO0 (toSh t) p k).sat fun r => Dyn.RVLe r (rB true) := by
  unfold splO0
  rw [ofSh_toSh, splT_no (h 0 0 (.inl rfl) (.inl rfl)), splT_no (h 1 0 (.inr rfl) (.inl rfl)), splT_no (h 0 1 (.inl rfl) (.inr rfl)), splT_no (h 1 1 (.inr rfl) (.inr rfl))]
  exact ⟨⟨pT, trivial⟩, ⟨pT, trivial⟩, fun h => (by cases h), fun _ => ⟨⟨pT, trivial⟩, fun h => (by cases h), fun _ => ⟨⟨pT, trivial⟩, fun h => (by cases h), fun _ => ⟨⟨pT, trivial⟩, fun h => (by cases h), fun _ => ro_leaf rfl⟩⟩⟩⟩
theorem bandLe (x : Int) (m : Nat) (hm : m < 2 ^ 62) : 0 ≤ band x (m : Int) ∧ band x (m : Int) ≤ m := by
  have h : (BitVec.ofInt 64 x &&& BitVec.ofInt 64 (m : Int)).toNat ≤ m := by
    rw [BitVec.toNat_and]
    refine Nat.le_trans Nat.and_le_right ?_
    simp only [BitVec.toNat_ofInt]
    omega
  unfold band
  rw [W_id (by omega) (by omega)]
  omega
theorem splK_bd (w : Int) : 1 ≤ splK w ∧ splK w ≤ 50000000 := by
  have h0 : 0 ≤ IntKind.u64.wrap w := by
    show 0 ≤ w % 18446744073709551616
    omega
  unfold splK
  rw [Int.tmod_eq_emod_of_nonneg h0, W_id (x := IntKind.u64.wrap w % 50000000) (by omega) (by omega), W_id (by omega) (by omega)]
  omega
theorem spl_geo {p : P2} {k c d : Int} (hp : (-400000000 ≤ p.x ∧ p.x ≤ 400000000) ∧ (-400000000 ≤ p.y ∧ p.y ≤ 400000000)) (hk : 1 ≤ k ∧ k ≤ 50000000) (hc : c = 0 ∨ c = 1) (hd : d = 0 ∨ d = 1) : Sb (splQ p k c d) (splB p k) ∧ Fits (splB p k) ∧ Fits (splQ p k c d) := by
  have e : splB p k = ⟨p.x, p.y, p.x + 2 * k, p.y + 2 * k⟩ := by
    unfold splB
    rw [W_id (x := 2 * k) (by omega) (by omega), W_id (by omega) (by omega), W_id (by omega) (by omega)]
  have ck : c * k = 0 ∨ c * k = k := by rcases hc with rfl | rfl <;> omega
  have dk : d * k = 0 ∨ d * k = k := by rcases hd with rfl | rfl <;> omega
  have e2 : splQ p k c d = ⟨p.x + c * k, p.y + d * k, p.x + c * k + k, p.y + d * k + k⟩ := by
    unfold splQ
    rw [W_id (x := c * k) (by omega) (by omega), W_id (x := d * k) (by omega) (by omega), W_id (x := p.x + c * k) (by omega) (by omega), W_id (x := p.y + d * k) (by omega) (by omega), W_id (by omega) (by omega), W_id (by omega) (by omega)]
  rw [e, e2]
  refine ⟨⟨by dsimp only; omega, by dsimp only; omega, by dsimp only; omega, by dsimp only; omega, by dsimp only; omega, by dsimp only; omega⟩, ?_, ?_⟩ <;> constructor <;> dsimp only <;> omega
theorem pileSplits_ok (s : Shp) (hs : ShW s) (x y w : Int) (sm : Bool) : Dyn.CallD Try.prog 13 [dvL (toSh s), dvI x, dvI y, dvI w, dvB sm] (rB true) := by
  cases s with
  | nil => exact hs.elim
  | mk k a b' c r l n add sub =>
    have hw : ShW (lForm n add sub) := hs
    refine Dyn.dcontract (lp := Dyn.noLp) (fuel := 5) tabPs_ok mo Try.func13 (by kernel_rfl) (c := bodyD Try.f13.body) (by kernel_rfl) (fun w0 => Dyn.noLp_ok _ w0) (by kernel_rfl) (spl_O n (fun i => partC (add i) (toSh (sub i))) x y w sm) ?_
    show (splO (toSh (lForm n add sub)) x y w sm).sat _
    unfold splO
    rw [ofSh_toSh]
    refine ⟨⟨PdW_mk hw, trivial⟩, fun h => ro_leaf rfl, fun h => ?_⟩
    have hB := lf_B (n := n) (add := add) (sub := sub) (by simpa using h)
    have key : ∀ p k, ((-400000000 ≤ p.x ∧ p.x ≤ 400000000) ∧ (-400000000 ≤ p.y ∧ p.y ≤ 400000000)) → (1 ≤ k ∧ k ≤ 50000000) → (splO0 (toSh (tame21 (lForm n add sub) sm)) p k).sat fun r => Dyn.RVLe r (rB true) := fun p k hp hk =>
      splO0_ok (PdS_mk (tame21_B _ hB sm)) fun c d hc hd => by
        obtain ⟨g1, g2, g3⟩ := spl_geo hp hk hc hd
        exact pile_ref sm g1 g2 g3 _ hB
    have kb := splK_bd w
    refine ⟨⟨PdS_mk hB, trivial⟩, ⟨by decide, trivial⟩, fun _ => ⟨⟨by decide, trivial⟩, ?_⟩, fun _ => ?_⟩
    · have h := lClose_r (lClose ⟨x, y⟩ 400000000) (n := 20) (by decide) (by decide)
      have e : 0 ≤ band (splK w) 7 ∧ band (splK w) 7 ≤ 7 := by
        have h := bandLe (splK w) 7 (by decide)
        exact h
      exact key _ _ (by omega) (by rw [W_id (by omega) (by omega)]; omega)
    · have h := lClose_r ⟨x, y⟩ (n := 400000000) (by decide) (by decide)
      exact key _ _ (by omega) kb
end Go.Proofs.Ytfooaikpcbnchaa
