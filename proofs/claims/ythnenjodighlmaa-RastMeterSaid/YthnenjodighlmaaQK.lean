/-
  OWN WORK. Joined by merge.py: Rgd Rge Pim Pin Rgf Rgh Rgi.
-/
import Derived.Test.YthnenjodighlmaaQH
import Derived.Test.YthnenjodighlmaaQI
import Derived.Test.YthnenjodighlmaaQJ
import Derived.Test.YthnenjodighlmaaQG
/-! ## Rgd -/
namespace Go.Proofs.Ythnenjodighlmaa
open Go Go.RowKit Sym
set_option maxRecDepth 100000

def mtL (most a : Int) : Dyn.Lent := [(97, [vi most, vi a])]
def mtO (most a : Int) : List (List Value) := [[vi most, vi a]]
def exV (lo hi e : Int) : Value := .tuple ⟨[.agg ⟨[vi lo, vi hi]⟩, vi e]⟩
theorem denP {w : World} {F : Nat → Prop} {x u : Value} (h : Dyn.DenC w F (.p x) u) : u = x := by cases h; rfl
theorem used_d (m a : Int) : Dyn.CallD Try.prog 28 [.one (.ptr [cI m, cI a])] (rI (imin a m)) := fun w F us hF hd => by
  match us, hd with
  | [u], hd =>
    have hd := hd.1
    cases hd with
    | ptr cs b off g hFb hc hg =>
      have g0 : g 0 = vi m := denP (hg 0 (show 0 < 2 by decide))
      have g1 : g 1 = vi a := denP (hg 1 (show 1 < 2 by decide))
      have c0 := hc 0 (show 0 < 2 by decide)
      have c1 := hc 1 (show 1 < 2 by decide)
      rw [g0] at c0; rw [g1] at c1
      rw [show [Value.pointer (some ⟨b, off, none⟩)].toArray = #[.pointer (some ⟨b, off, none⟩)] from rfl, run_enter Try.func28 (by kernel_rfl) (by kernel_rfl)]
      refine ⟨rfl, (used_walk b off m a w c0 c1).mono ?_⟩
      rintro e w'' ⟨rfl, rfl⟩
      exact ⟨_, rfl, .p _ rfl, rfl, rfl, rfl, Nat.le_refl _, fun _ _ => rfl⟩
def enUsed : List Dyn.DV → Option (Dyn.RV × List Prop)
  | [.one (.ptr [.p (.int .i64 m), .p (.int .i64 a)])] => some (rI (imin a m), [])
  | _ => none
theorem enUsed_ok : Dyn.EntryDOk Try.prog (28, enUsed) := fun args r ps h hp => by
  dsimp only at h
  unfold enUsed at h
  split at h
  · simp only [Option.some.injEq, Prod.mk.injEq] at h
    obtain ⟨rfl, rfl⟩ := h
    exact used_d _ _
  · cases h
def enTake : List Dyn.LA → Dyn.Lent → Option (Value × List (List Value) × List Prop)
  | [.lp 0 0], [(t, [.int .i64 most, .int .i64 a])] => match Nat.beq t 97 with
    | true => some (vb (decide (W (a + 1) ≤ most)), mtO most (W (a + 1)), [])
    | false => none
  | _, _ => none
theorem enTake_ok : Dyn.EntryXOk Try.prog (27, enTake) := fun az lent u out ps h hp => by
  dsimp only at h
  unfold enTake at h
  split at h
  · rename_i t most a
    split at h
    · rename_i ht
      have e1 := Nat.eq_of_beq_eq_true ht
      subst e1
      simp only [Option.some.injEq, Prod.mk.injEq] at h
      obtain ⟨rfl, rfl, rfl⟩ := h
      exact take_x most a
    · cases h
  · cases h
theorem CallX_le2 {P : Program} {K : Nat} {u u' v v' : Dyn.DV} {l : List Dyn.LA} {lent : Dyn.Lent} {r : Value} {o : List (List Value)} (h1 : Dyn.DVLe u u') (h2 : Dyn.DVLe v v') (k : Dyn.CallX P K (.d u' :: .d v' :: l) lent r o) : Dyn.CallX P K (.d u :: .d v :: l) lent r o := fun w F bs us hF hn hd hl hden => k w F bs us hF hn hd hl (by
  cases us with
  | nil => exact hden
  | cons x us =>
    cases us with
    | nil => exact ⟨Dyn.DenV_le h1 hden.1, hden.2⟩
    | cons y us => exact ⟨Dyn.DenV_le h1 hden.1, Dyn.DenV_le h2 hden.2.1, hden.2.2⟩)
abbrev ExF := Gr → B4 → Int → Int → ExR
def enExam (k : Int) (F : ExF) : List Dyn.LA → Dyn.Lent → Option (Value × List (List Value) × List Prop)
  | [.d g, .d u, .d (.one (.p (.int .i64 d))), .lp 0 0], [(t, [.int .i64 most, .int .i64 a])] => match qG g, aX u, decide (d = k), Nat.beq t 97 with
    | some (x, _), some b, true, true => some (exV (F x b most a).lo (F x b most a).hi (F x b most a).e, mtO most (F x b most a).a, [PdG x])
    | _, _, _, _ => none
  | _, _ => none
def ExamOk (k : Int) (F : ExF) : Prop := ∀ x, PdG x → ∀ b most a, Dyn.CallX Try.prog 54 [.d (dvG x), .d (dvX b), .d (dvI k), .lp 0 0] (mtL most a) (exV (F x b most a).lo (F x b most a).hi (F x b most a).e) (mtO most (F x b most a).a)
theorem enExam_ok {k : Int} {F : ExF} (ih : ExamOk k F) : Dyn.EntryXOk Try.prog (54, enExam k F) := fun az lent u out ps h hp => by
  dsimp only at h
  unfold enExam at h
  split at h
  · rename_i g u' d t most a
    split at h
    · rename_i x ps' b hg hb hd ht
      have e1 := Nat.eq_of_beq_eq_true ht
      subst e1
      have e2 := of_decide_eq_true hd
      subst e2
      simp only [Option.some.injEq, Prod.mk.injEq] at h
      obtain ⟨rfl, rfl, rfl⟩ := h
      have q := qG_ok _ _ _ hg (by
        unfold qG at hg; split at hg
        · simp only [Option.some.injEq, Prod.mk.injEq] at hg
          rw [← hg.2]; trivial
        · cases hg)
      exact CallX_le2 q.1 (aX_eq hb) (ih x hp.1 b most a)
    · cases h
  · cases h
noncomputable def tdEx : List Dyn.EntryD := [(22, en2D (qAnd qL PdS) qX fun x b => rI (pClass (ofSh x) b)), (53, en2D (qAnd qG PdG) qX fun x b => .val (dvG (nearE x b)))]
def drEx (K : Nat) : Bool := Nat.beq K 53 || Nat.beq K 54 || Nat.beq K 27
noncomputable def tabEx (k : Int) (F : ExF) : Dyn.Tabs := Dyn.tabsX tbF tdEx [(27, enTake), (54, enExam k F)] drEx dtyG false
theorem tabEx_ok {k : Int} {F : ExF} (ih : ExamOk k F) : Dyn.TabsOk Try.prog (tabEx k F) :=
  Dyn.tabsX_ok tbF_ok (List.forall_mem_cons.2 ⟨en2D_ok (qAnd_ok qL_ok) qX_ok fun x b h _ => pClass_all x h.1 b, List.forall_mem_cons.2 ⟨en2D_ok (qAnd_ok qG_ok) qX_ok fun x b h _ => gnear_all x h.1 b, fun _ h => by cases h⟩⟩) (List.forall_mem_cons.2 ⟨enTake_ok, List.forall_mem_cons.2 ⟨enExam_ok ih, fun _ h => by cases h⟩⟩)
noncomputable def clsE (x : Gr) (b : B4) : Int := pClass (ofSh (obX x.n x.f)) b
noncomputable def exC (F : ExF) (x : Gr) (b : B4) (most : Int) (i : Nat) (a : Int) : ExR := F (nearE x (spB b i)) (spB b i) most a
noncomputable def exS (x : Gr) (b : B4) (i : Nat) : List Prop := [PdG x, PdG (nearE x (spB b i))]
noncomputable def exQO (F : ExF) (x : Gr) (b : B4) (most a : Int) : Dyn.RX :=
  let r0 := exC F x b most 0 a
  let r1 := exC F x b most 1 r0.a
  let r2 := exC F x b most 2 r1.a
  let r3 := exC F x b most 3 r2.a
  .side (exS x b 0) (.ite (r0.e != 0) (.leaf (exV 0 0 r0.e) (mtO most r0.a))
  (.side (exS x b 1) (.ite (r1.e != 0) (.leaf (exV 0 0 r1.e) (mtO most r1.a))
  (.side (exS x b 2) (.ite (r2.e != 0) (.leaf (exV 0 0 r2.e) (mtO most r2.a))
  (.side (exS x b 3) (.ite (r3.e != 0) (.leaf (exV 0 0 r3.e) (mtO most r3.a))
    (.leaf (exV (W (W (W (W (0 + r0.lo) + r1.lo) + r2.lo) + r3.lo)) (W (W (W (W (0 + r0.hi) + r1.hi) + r2.hi) + r3.hi)) 0) (mtO most r3.a)))))))))
noncomputable def exO (d : Nat) (Q : Dyn.RX) (x : Gr) (b : B4) (most a : Int) : Dyn.RX :=
  .ite (!(decide (W (a + 1) ≤ most))) (.leaf (exV 0 0 6) (mtO most (W (a + 1))))
  (.side [PdS (obX x.n x.f)] (.ite (clsE x b == 0) (.leaf (exV 0 0 0) (mtO most (W (a + 1))))
  (.ite (clsE x b == 2) (.side [(0 : Int) ≤ W (2 * (d : Int))] (.leaf (exV (cellsN d) (cellsN d) 0) (mtO most (W (a + 1)))))
  (.ite ((d : Int) == 0) (.leaf (exV 0 1 0) (mtO most (W (a + 1)))) Q))))
noncomputable def tabE0 : Dyn.Tabs := Dyn.tabsX tbF tdEx [(27, enTake)] drEx dtyG false
theorem tabE0_ok : Dyn.TabsOk Try.prog tabE0 :=
  Dyn.tabsX_ok tbF_ok (List.forall_mem_cons.2 ⟨en2D_ok (qAnd_ok qL_ok) qX_ok fun x b h _ => pClass_all x h.1 b, List.forall_mem_cons.2 ⟨en2D_ok (qAnd_ok qG_ok) qX_ok fun x b h _ => gnear_all x h.1 b, fun _ h => by cases h⟩⟩) (List.forall_mem_cons.2 ⟨enTake_ok, fun _ h => by cases h⟩)
theorem ex_O0 (x : Gr) (b : B4) (most a : Int) : (Dyn.dfunX Try.prog tabE0 Dyn.noLp 8 Try.f54 (mtL most a) [.d (dvG x), .d (dvX b), .d (dvI 0), .lp 0 0]).rx Try.prog (mtL most a) Try.f54.results = exO 0 .fail x b most a := by kernel_rfl
theorem ex_O1 (F : ExF) (x : Gr) (b : B4) (most a : Int) : (Dyn.dfunX Try.prog (tabEx 0 F) Dyn.noLp 8 Try.f54 (mtL most a) [.d (dvG x), .d (dvX b), .d (dvI 1), .lp 0 0]).rx Try.prog (mtL most a) Try.f54.results = exO 1 (exQO F x b most (W (a + 1))) x b most a := by kernel_rfl
theorem ex_O2 (F : ExF) (x : Gr) (b : B4) (most a : Int) : (Dyn.dfunX Try.prog (tabEx 1 F) Dyn.noLp 8 Try.f54 (mtL most a) [.d (dvG x), .d (dvX b), .d (dvI 2), .lp 0 0]).rx Try.prog (mtL most a) Try.f54.results = exO 2 (exQO F x b most (W (a + 1))) x b most a := by kernel_rfl
theorem ex_O3 (F : ExF) (x : Gr) (b : B4) (most a : Int) : (Dyn.dfunX Try.prog (tabEx 2 F) Dyn.noLp 8 Try.f54 (mtL most a) [.d (dvG x), .d (dvX b), .d (dvI 3), .lp 0 0]).rx Try.prog (mtL most a) Try.f54.results = exO 3 (exQO F x b most (W (a + 1))) x b most a := by kernel_rfl
theorem ex_O4 (F : ExF) (x : Gr) (b : B4) (most a : Int) : (Dyn.dfunX Try.prog (tabEx 3 F) Dyn.noLp 8 Try.f54 (mtL most a) [.d (dvG x), .d (dvX b), .d (dvI 4), .lp 0 0]).rx Try.prog (mtL most a) Try.f54.results = exO 4 (exQO F x b most (W (a + 1))) x b most a := by kernel_rfl
theorem ex_O5 (F : ExF) (x : Gr) (b : B4) (most a : Int) : (Dyn.dfunX Try.prog (tabEx 4 F) Dyn.noLp 8 Try.f54 (mtL most a) [.d (dvG x), .d (dvX b), .d (dvI 5), .lp 0 0]).rx Try.prog (mtL most a) Try.f54.results = exO 5 (exQO F x b most (W (a + 1))) x b most a := by kernel_rfl
theorem ex_O6 (F : ExF) (x : Gr) (b : B4) (most a : Int) : (Dyn.dfunX Try.prog (tabEx 5 F) Dyn.noLp 8 Try.f54 (mtL most a) [.d (dvG x), .d (dvX b), .d (dvI 6), .lp 0 0]).rx Try.prog (mtL most a) Try.f54.results = exO 6 (exQO F x b most (W (a + 1))) x b most a := by kernel_rfl
noncomputable def exE (d : Nat) : ExF := fun x b most a => exF most d (ofG x) b a
theorem exE_z (x : Gr) (b : B4) (most a : Int) : exE 0 x b most a = exT most (clsE x b) (cellsN 0) (fun a => ⟨0, 1, 0, a⟩) a := by
  unfold exE clsE exF
  rw [← pClass_C]; rfl
theorem exF_lst (most : Int) (d : Nat) (s : Shp) : exF most d (lst s) = exF most d s := by cases d <;> rfl
theorem exE_s (d : Nat) (x : Gr) (b : B4) (most a : Int) : exE (d + 1) x b most a = exT most (clsE x b) (cellsN (d + 1)) (exQ (fun q a => exE d (nearE x q) q most a) b) a := by
  unfold exE clsE nearE
  simp only [ofG_toG, exF_lst]
  rw [show pClass (ofSh (obX x.n x.f)) b = pClassC (ofSh (obX x.n x.f)) b from pClass_C _ _]
  rfl
theorem exT_sat {d : Nat} {x : Gr} {b : B4} {most a : Int} {Q : Dyn.RX} {m : Int → ExR} (hx : PdG x) (h : (d : Int) = 0 → m (W (a + 1)) = ⟨0, 1, 0, W (a + 1)⟩) (hQ : (d : Int) ≠ 0 → Q.sat fun u os => u = exV (m (W (a + 1))).lo (m (W (a + 1))).hi (m (W (a + 1))).e ∧ os = mtO most (m (W (a + 1))).a) (hd : d ≤ 7) :
    (exO d Q x b most a).sat fun u os => u = exV (exT most (clsE x b) (cellsN d) m a).lo (exT most (clsE x b) (cellsN d) m a).hi (exT most (clsE x b) (cellsN d) m a).e ∧ os = mtO most (exT most (clsE x b) (cellsN d) m a).a := by
  unfold exT
  refine ⟨fun h1 => ?_, fun h1 => ⟨⟨hx.1, trivial⟩, fun h2 => ?_, fun h2 => ⟨fun h3 => ⟨⟨?_, trivial⟩, ?_⟩, fun h3 => ⟨fun h4 => ?_, fun h4 => ?_⟩⟩⟩⟩
  · rw [h1]; exact ⟨rfl, rfl⟩
  · rw [h1, h2]; exact ⟨rfl, rfl⟩
  · rw [W_id (by omega) (by omega)]; omega
  · rw [h1, h2, h3]; exact ⟨rfl, rfl⟩
  · rw [h1, h2, h3]
    have := h (by simpa using h4)
    simp only [cond_false]
    rw [this]; exact ⟨rfl, rfl⟩
  · rw [h1, h2, h3]
    exact hQ (by simpa using h4)
theorem exQ_sat (F : ExF) {x : Gr} (hx : PdG x) (b : B4) (most a : Int) : (exQO F x b most a).sat fun u os => u = exV (exQ (fun q a => F (nearE x q) q most a) b a).lo (exQ (fun q a => F (nearE x q) q most a) b a).hi (exQ (fun q a => F (nearE x q) q most a) b a).e ∧ os = mtO most (exQ (fun q a => F (nearE x q) q most a) b a).a := by
  have pd : ∀ i, Sym.allP (exS x b i) := fun i => ⟨hx, nearE_Pd hx _, trivial⟩
  unfold exQ
  refine ⟨pd 0, fun h0 => ?_, fun h0 => ⟨pd 1, fun h1 => ?_, fun h1 => ⟨pd 2, fun h2 => ?_, fun h2 => ⟨pd 3, fun h3 => ?_, fun h3 => ?_⟩⟩⟩⟩
  all_goals unfold exC at *
  · rw [h0]; exact ⟨rfl, rfl⟩
  · rw [h0, h1]; exact ⟨rfl, rfl⟩
  · rw [h0, h1, h2]; exact ⟨rfl, rfl⟩
  · rw [h0, h1, h2, h3]; exact ⟨rfl, rfl⟩
  · rw [h0, h1, h2, h3]; exact ⟨rfl, rfl⟩
theorem exam0 : ExamOk 0 (exE 0) := fun x hx b most a => by
  rw [exE_z]
  exact Dyn.xcontract (lp := Dyn.noLp) (fuel := 8) tabE0_ok mo Try.func54 (by kernel_rfl) (c := bodyD Try.f54.body) (by kernel_rfl) (fun w0 => Dyn.noLp_ok _ w0) (by kernel_rfl) (by kernel_rfl) (by kernel_rfl) (ex_O0 x b most a) (exT_sat (d := 0) hx (fun _ => rfl) (fun h => absurd rfl h) (by decide))
theorem exam1 : ExamOk 1 (exE 1) := fun x hx b most a => by
  rw [exE_s]
  exact Dyn.xcontract (lp := Dyn.noLp) (fuel := 8) (tabEx_ok exam0) mo Try.func54 (by kernel_rfl) (c := bodyD Try.f54.body) (by kernel_rfl) (fun w0 => Dyn.noLp_ok _ w0) (by kernel_rfl) (by kernel_rfl) (by kernel_rfl) (ex_O1 (exE 0) x b most a) (exT_sat (d := 1) hx (fun h => absurd h (by decide)) (fun _ => exQ_sat (exE 0) hx b most _) (by decide))
theorem exam2 : ExamOk 2 (exE 2) := fun x hx b most a => by
  rw [exE_s]
  exact Dyn.xcontract (lp := Dyn.noLp) (fuel := 8) (tabEx_ok exam1) mo Try.func54 (by kernel_rfl) (c := bodyD Try.f54.body) (by kernel_rfl) (fun w0 => Dyn.noLp_ok _ w0) (by kernel_rfl) (by kernel_rfl) (by kernel_rfl) (ex_O2 (exE 1) x b most a) (exT_sat (d := 2) hx (fun h => absurd h (by decide)) (fun _ => exQ_sat (exE 1) hx b most _) (by decide))
theorem exam3 : ExamOk 3 (exE 3) := fun x hx b most a => by
  rw [exE_s]
  exact Dyn.xcontract (lp := Dyn.noLp) (fuel := 8) (tabEx_ok exam2) mo Try.func54 (by kernel_rfl) (c := bodyD Try.f54.body) (by kernel_rfl) (fun w0 => Dyn.noLp_ok _ w0) (by kernel_rfl) (by kernel_rfl) (by kernel_rfl) (ex_O3 (exE 2) x b most a) (exT_sat (d := 3) hx (fun h => absurd h (by decide)) (fun _ => exQ_sat (exE 2) hx b most _) (by decide))
theorem exam4 : ExamOk 4 (exE 4) := fun x hx b most a => by
  rw [exE_s]
  exact Dyn.xcontract (lp := Dyn.noLp) (fuel := 8) (tabEx_ok exam3) mo Try.func54 (by kernel_rfl) (c := bodyD Try.f54.body) (by kernel_rfl) (fun w0 => Dyn.noLp_ok _ w0) (by kernel_rfl) (by kernel_rfl) (by kernel_rfl) (ex_O4 (exE 3) x b most a) (exT_sat (d := 4) hx (fun h => absurd h (by decide)) (fun _ => exQ_sat (exE 3) hx b most _) (by decide))
theorem exam5 : ExamOk 5 (exE 5) := fun x hx b most a => by
  rw [exE_s]
  exact Dyn.xcontract (lp := Dyn.noLp) (fuel := 8) (tabEx_ok exam4) mo Try.func54 (by kernel_rfl) (c := bodyD Try.f54.body) (by kernel_rfl) (fun w0 => Dyn.noLp_ok _ w0) (by kernel_rfl) (by kernel_rfl) (by kernel_rfl) (ex_O5 (exE 4) x b most a) (exT_sat (d := 5) hx (fun h => absurd h (by decide)) (fun _ => exQ_sat (exE 4) hx b most _) (by decide))
theorem exam6 : ExamOk 6 (exE 6) := fun x hx b most a => by
  rw [exE_s]
  exact Dyn.xcontract (lp := Dyn.noLp) (fuel := 8) (tabEx_ok exam5) mo Try.func54 (by kernel_rfl) (c := bodyD Try.f54.body) (by kernel_rfl) (fun w0 => Dyn.noLp_ok _ w0) (by kernel_rfl) (by kernel_rfl) (by kernel_rfl) (ex_O6 (exE 5) x b most a) (exT_sat (d := 6) hx (fun h => absurd h (by decide)) (fun _ => exQ_sat (exE 5) hx b most _) (by decide))
end Go.Proofs.Ythnenjodighlmaa

/-! ## Rge -/
namespace Go.Proofs.Ythnenjodighlmaa
open Go Go.RowKit Sym
set_option maxRecDepth 100000

noncomputable def tdCv : List Dyn.EntryD := [(52, en1D (qAnd qL PdS) fun x => .val (dvG (reachE x))), (53, en2D (qAnd qG PdG) qX fun x b => .val (dvG (nearE x b)))]
def drCv (K : Nat) : Bool := Nat.beq K 53 || Nat.beq K 52 || Nat.beq K 54
noncomputable def tabCv (k : Int) (F : ExF) : Dyn.Tabs := Dyn.tabsX tbF tdCv [(54, enExam k F)] drCv dtyG false
theorem tabCv_ok {k : Int} {F : ExF} (ih : ExamOk k F) : Dyn.TabsOk Try.prog (tabCv k F) :=
  Dyn.tabsX_ok tbF_ok (List.forall_mem_cons.2 ⟨en1D_ok (qAnd_ok qL_ok) fun x h => greach_all x h.1, List.forall_mem_cons.2 ⟨en2D_ok (qAnd_ok qG_ok) qX_ok fun x b h _ => gnear_all x h.1 b, fun _ h => by cases h⟩⟩) (List.forall_mem_cons.2 ⟨enExam_ok ih, fun _ h => by cases h⟩)
def gdF (g : Bool) (ps : List Prop) : Prop := some g = some false ∧ True → Sym.allP ps
theorem gdF_ok {g : Bool} {ps : List Prop} (h : Sym.allP ps) : gdF g ps := fun _ => h
def cvM (d : Int) : Int := W (1 * 2 ^ min d.toNat IntKind.i64.bits)
def cvBad (d u : Int) : Bool := bif W u == 0 then true else (W u).tmod (cvM d) != 0
def cvErr (most a : Int) : Dyn.RX := .leaf (exV 0 0 1) (mtO most a)
def cvG (d u : Int) : List Prop := [gdF (W u == 0) [0 ≤ d], gdF (W u == 0) [cvM d ≠ 0]]
def cvArg (d : Int) (b : B4) : Bool := bif bif decide (d < 0) then true else decide (d > 6) then true else !(boxOk b)
noncomputable def cvO (d : Int) (F : ExF) (x : Sh) (b : B4) (most a : Int) : Dyn.RX :=
  .ite (cvArg d b) (cvErr most a)
  (.side (cvG d (b.x1 - b.x0)) (.ite (cvBad d (b.x1 - b.x0)) (cvErr most a)
  (.side (cvG d (b.y1 - b.y0)) (.ite (cvBad d (b.y1 - b.y0)) (cvErr most a)
  (.side [PdS x, PdG (reachE x), PdG (nearE (reachE x) b)] (.leaf (exV (F (nearE (reachE x) b) b most a).lo (F (nearE (reachE x) b) b most a).hi (F (nearE (reachE x) b) b most a).e) (mtO most (F (nearE (reachE x) b) b most a).a)))))))
/-- what Cover gives -/
def coverF (most d : Int) (s : Shp) (b : B4) (a : Int) : ExR :=
  bif cvArg d b then exNo 1 a else bif cvBad d (b.x1 - b.x0) then exNo 1 a else bif cvBad d (b.y1 - b.y0) then exNo 1 a else exF most d.toNat (nearG (reachF s) b) b a
noncomputable def coverE (d : Int) (x : Sh) (b : B4) (most a : Int) : ExR := coverF most d (ofSh x) b a
theorem cv_sat {d : Nat} {x : Sh} (hx : PdS x) (hd : d ≤ 6) (b : B4) (most a : Int) : (cvO d (exE d) x b most a).sat fun u os => u = exV (coverE d x b most a).lo (coverE d x b most a).hi (coverE d x b most a).e ∧ os = mtO most (coverE d x b most a).a := by
  have hG : ∀ u, Sym.allP (cvG d u) := fun u => by
    have e : d = 0 ∨ d = 1 ∨ d = 2 ∨ d = 3 ∨ d = 4 ∨ d = 5 ∨ d = 6 := by omega
    exact ⟨gdF_ok ⟨by omega, trivial⟩, gdF_ok ⟨by rcases e with rfl | rfl | rfl | rfl | rfl | rfl | rfl <;> decide, trivial⟩, trivial⟩
  have er : exE d (nearE (reachE x) b) b most a = exF most d (nearG (reachF (ofSh x)) b) b a := by
    unfold exE nearE reachE
    rw [ofG_toG, ofG_toG, exF_lst]; rfl
  unfold coverE coverF
  refine ⟨fun h1 => ?_, fun h1 => ⟨hG _, fun h2 => ?_, fun h2 => ⟨hG _, fun h3 => ?_, fun h3 => ⟨⟨hx, reachE_Pd hx, nearE_Pd (reachE_Pd hx) b, trivial⟩, ?_⟩⟩⟩⟩
  · rw [h1]; exact ⟨rfl, rfl⟩
  · rw [h1, h2]; exact ⟨rfl, rfl⟩
  · rw [h1, h2, h3]; exact ⟨rfl, rfl⟩
  · rw [h1, h2, h3, er]; exact ⟨rfl, rfl⟩
theorem cv_O0 (F : ExF) (n : Nat) (f : Nat → List Dyn.DC) (b : B4) (most a : Int) : (Dyn.dfunX Try.prog (tabCv 0 F) Dyn.noLp 8 Try.f31 (mtL most a) [.d (dvL (obX n f)), .d (dvX b), .d (dvI 0), .lp 0 0]).rx Try.prog (mtL most a) Try.f31.results = cvO 0 F (obX n f) b most a := by kernel_rfl
theorem cover0 (n : Nat) (f : Nat → List Dyn.DC) (hx : PdS (obX n f)) (b : B4) (most a : Int) : Dyn.CallX Try.prog 31 [.d (dvL (obX n f)), .d (dvX b), .d (dvI 0), .lp 0 0] (mtL most a) (exV (coverE 0 (obX n f) b most a).lo (coverE 0 (obX n f) b most a).hi (coverE 0 (obX n f) b most a).e) (mtO most (coverE 0 (obX n f) b most a).a) :=
  Dyn.xcontract (lp := Dyn.noLp) (fuel := 8) (tabCv_ok exam0) mo Try.func31 (by kernel_rfl) (c := bodyD Try.f31.body) (by kernel_rfl) (fun w0 => Dyn.noLp_ok _ w0) (by kernel_rfl) (by kernel_rfl) (by kernel_rfl) (cv_O0 (exE 0) n f b most a) (cv_sat (d := 0) hx (by decide) b most a)
theorem cv_O1 (F : ExF) (n : Nat) (f : Nat → List Dyn.DC) (b : B4) (most a : Int) : (Dyn.dfunX Try.prog (tabCv 1 F) Dyn.noLp 8 Try.f31 (mtL most a) [.d (dvL (obX n f)), .d (dvX b), .d (dvI 1), .lp 0 0]).rx Try.prog (mtL most a) Try.f31.results = cvO 1 F (obX n f) b most a := by kernel_rfl
theorem cover1 (n : Nat) (f : Nat → List Dyn.DC) (hx : PdS (obX n f)) (b : B4) (most a : Int) : Dyn.CallX Try.prog 31 [.d (dvL (obX n f)), .d (dvX b), .d (dvI 1), .lp 0 0] (mtL most a) (exV (coverE 1 (obX n f) b most a).lo (coverE 1 (obX n f) b most a).hi (coverE 1 (obX n f) b most a).e) (mtO most (coverE 1 (obX n f) b most a).a) :=
  Dyn.xcontract (lp := Dyn.noLp) (fuel := 8) (tabCv_ok exam1) mo Try.func31 (by kernel_rfl) (c := bodyD Try.f31.body) (by kernel_rfl) (fun w0 => Dyn.noLp_ok _ w0) (by kernel_rfl) (by kernel_rfl) (by kernel_rfl) (cv_O1 (exE 1) n f b most a) (cv_sat (d := 1) hx (by decide) b most a)
theorem cv_O2 (F : ExF) (n : Nat) (f : Nat → List Dyn.DC) (b : B4) (most a : Int) : (Dyn.dfunX Try.prog (tabCv 2 F) Dyn.noLp 8 Try.f31 (mtL most a) [.d (dvL (obX n f)), .d (dvX b), .d (dvI 2), .lp 0 0]).rx Try.prog (mtL most a) Try.f31.results = cvO 2 F (obX n f) b most a := by kernel_rfl
theorem cover2 (n : Nat) (f : Nat → List Dyn.DC) (hx : PdS (obX n f)) (b : B4) (most a : Int) : Dyn.CallX Try.prog 31 [.d (dvL (obX n f)), .d (dvX b), .d (dvI 2), .lp 0 0] (mtL most a) (exV (coverE 2 (obX n f) b most a).lo (coverE 2 (obX n f) b most a).hi (coverE 2 (obX n f) b most a).e) (mtO most (coverE 2 (obX n f) b most a).a) :=
  Dyn.xcontract (lp := Dyn.noLp) (fuel := 8) (tabCv_ok exam2) mo Try.func31 (by kernel_rfl) (c := bodyD Try.f31.body) (by kernel_rfl) (fun w0 => Dyn.noLp_ok _ w0) (by kernel_rfl) (by kernel_rfl) (by kernel_rfl) (cv_O2 (exE 2) n f b most a) (cv_sat (d := 2) hx (by decide) b most a)
theorem cv_O3 (F : ExF) (n : Nat) (f : Nat → List Dyn.DC) (b : B4) (most a : Int) : (Dyn.dfunX Try.prog (tabCv 3 F) Dyn.noLp 8 Try.f31 (mtL most a) [.d (dvL (obX n f)), .d (dvX b), .d (dvI 3), .lp 0 0]).rx Try.prog (mtL most a) Try.f31.results = cvO 3 F (obX n f) b most a := by kernel_rfl
theorem cover3 (n : Nat) (f : Nat → List Dyn.DC) (hx : PdS (obX n f)) (b : B4) (most a : Int) : Dyn.CallX Try.prog 31 [.d (dvL (obX n f)), .d (dvX b), .d (dvI 3), .lp 0 0] (mtL most a) (exV (coverE 3 (obX n f) b most a).lo (coverE 3 (obX n f) b most a).hi (coverE 3 (obX n f) b most a).e) (mtO most (coverE 3 (obX n f) b most a).a) :=
  Dyn.xcontract (lp := Dyn.noLp) (fuel := 8) (tabCv_ok exam3) mo Try.func31 (by kernel_rfl) (c := bodyD Try.f31.body) (by kernel_rfl) (fun w0 => Dyn.noLp_ok _ w0) (by kernel_rfl) (by kernel_rfl) (by kernel_rfl) (cv_O3 (exE 3) n f b most a) (cv_sat (d := 3) hx (by decide) b most a)
theorem cv_O4 (F : ExF) (n : Nat) (f : Nat → List Dyn.DC) (b : B4) (most a : Int) : (Dyn.dfunX Try.prog (tabCv 4 F) Dyn.noLp 8 Try.f31 (mtL most a) [.d (dvL (obX n f)), .d (dvX b), .d (dvI 4), .lp 0 0]).rx Try.prog (mtL most a) Try.f31.results = cvO 4 F (obX n f) b most a := by kernel_rfl
theorem cover4 (n : Nat) (f : Nat → List Dyn.DC) (hx : PdS (obX n f)) (b : B4) (most a : Int) : Dyn.CallX Try.prog 31 [.d (dvL (obX n f)), .d (dvX b), .d (dvI 4), .lp 0 0] (mtL most a) (exV (coverE 4 (obX n f) b most a).lo (coverE 4 (obX n f) b most a).hi (coverE 4 (obX n f) b most a).e) (mtO most (coverE 4 (obX n f) b most a).a) :=
  Dyn.xcontract (lp := Dyn.noLp) (fuel := 8) (tabCv_ok exam4) mo Try.func31 (by kernel_rfl) (c := bodyD Try.f31.body) (by kernel_rfl) (fun w0 => Dyn.noLp_ok _ w0) (by kernel_rfl) (by kernel_rfl) (by kernel_rfl) (cv_O4 (exE 4) n f b most a) (cv_sat (d := 4) hx (by decide) b most a)
theorem cv_O5 (F : ExF) (n : Nat) (f : Nat → List Dyn.DC) (b : B4) (most a : Int) : (Dyn.dfunX Try.prog (tabCv 5 F) Dyn.noLp 8 Try.f31 (mtL most a) [.d (dvL (obX n f)), .d (dvX b), .d (dvI 5), .lp 0 0]).rx Try.prog (mtL most a) Try.f31.results = cvO 5 F (obX n f) b most a := by kernel_rfl
theorem cover5 (n : Nat) (f : Nat → List Dyn.DC) (hx : PdS (obX n f)) (b : B4) (most a : Int) : Dyn.CallX Try.prog 31 [.d (dvL (obX n f)), .d (dvX b), .d (dvI 5), .lp 0 0] (mtL most a) (exV (coverE 5 (obX n f) b most a).lo (coverE 5 (obX n f) b most a).hi (coverE 5 (obX n f) b most a).e) (mtO most (coverE 5 (obX n f) b most a).a) :=
  Dyn.xcontract (lp := Dyn.noLp) (fuel := 8) (tabCv_ok exam5) mo Try.func31 (by kernel_rfl) (c := bodyD Try.f31.body) (by kernel_rfl) (fun w0 => Dyn.noLp_ok _ w0) (by kernel_rfl) (by kernel_rfl) (by kernel_rfl) (cv_O5 (exE 5) n f b most a) (cv_sat (d := 5) hx (by decide) b most a)
theorem cv_O6 (F : ExF) (n : Nat) (f : Nat → List Dyn.DC) (b : B4) (most a : Int) : (Dyn.dfunX Try.prog (tabCv 6 F) Dyn.noLp 8 Try.f31 (mtL most a) [.d (dvL (obX n f)), .d (dvX b), .d (dvI 6), .lp 0 0]).rx Try.prog (mtL most a) Try.f31.results = cvO 6 F (obX n f) b most a := by kernel_rfl
theorem cover6 (n : Nat) (f : Nat → List Dyn.DC) (hx : PdS (obX n f)) (b : B4) (most a : Int) : Dyn.CallX Try.prog 31 [.d (dvL (obX n f)), .d (dvX b), .d (dvI 6), .lp 0 0] (mtL most a) (exV (coverE 6 (obX n f) b most a).lo (coverE 6 (obX n f) b most a).hi (coverE 6 (obX n f) b most a).e) (mtO most (coverE 6 (obX n f) b most a).a) :=
  Dyn.xcontract (lp := Dyn.noLp) (fuel := 8) (tabCv_ok exam6) mo Try.func31 (by kernel_rfl) (c := bodyD Try.f31.body) (by kernel_rfl) (fun w0 => Dyn.noLp_ok _ w0) (by kernel_rfl) (by kernel_rfl) (by kernel_rfl) (cv_O6 (exE 6) n f b most a) (cv_sat (d := 6) hx (by decide) b most a)
theorem cover_ok {d : Int} (h0 : 0 ≤ d) (h6 : d ≤ 6) (n : Nat) (f : Nat → List Dyn.DC) (hx : PdS (obX n f)) (b : B4) (most a : Int) : Dyn.CallX Try.prog 31 [.d (dvL (obX n f)), .d (dvX b), .d (dvI d), .lp 0 0] (mtL most a) (exV (coverE d (obX n f) b most a).lo (coverE d (obX n f) b most a).hi (coverE d (obX n f) b most a).e) (mtO most (coverE d (obX n f) b most a).a) := by
  have e : d = 0 ∨ d = 1 ∨ d = 2 ∨ d = 3 ∨ d = 4 ∨ d = 5 ∨ d = 6 := by omega
  rcases e with rfl | rfl | rfl | rfl | rfl | rfl | rfl
  · exact cover0 n f hx b most a
  · exact cover1 n f hx b most a
  · exact cover2 n f hx b most a
  · exact cover3 n f hx b most a
  · exact cover4 n f hx b most a
  · exact cover5 n f hx b most a
  · exact cover6 n f hx b most a
/-- an entry for Cover -/
noncomputable def enCov : List Dyn.LA → Dyn.Lent → Option (Value × List (List Value) × List Prop)
  | [.d (.one (.row n f)), .d u, .d (.one (.p (.int .i64 d))), .lp 0 0], [(t, [.int .i64 most, .int .i64 a])] => match aX u, Nat.beq t 97 with
    | some b, true => some (exV (coverE d (obX n f) b most a).lo (coverE d (obX n f) b most a).hi (coverE d (obX n f) b most a).e, mtO most (coverE d (obX n f) b most a).a, [0 ≤ d ∧ d ≤ 6, PdS (obX n f)])
    | _, _ => none
  | _, _ => none
theorem enCov_ok : Dyn.EntryXOk Try.prog (31, enCov) := fun az lent u out ps h hp => by
  dsimp only at h
  unfold enCov at h
  split at h
  · rename_i n f u' d t most a
    split at h
    · rename_i b hb ht
      have e1 := Nat.eq_of_beq_eq_true ht
      subst e1
      simp only [Option.some.injEq, Prod.mk.injEq] at h
      obtain ⟨rfl, rfl, rfl⟩ := h
      exact CallX_le2 (Dyn.DVLe.refl _) (aX_eq hb) (cover_ok hp.1.1 hp.1.2 n f hp.2.1 b most a)
    · cases h
  · cases h
end Go.Proofs.Ythnenjodighlmaa

/-! ## Pim -/
namespace Go.Proofs.Ythnenjodighlmaa
open Go Go.RowKit Sym
set_option maxRecDepth 100000

/-- q lies in b -/
structure Sb (q b : B4) : Prop where
  fa : b.x0 ≤ q.x0
  x : q.x0 ≤ q.x1
  fb : q.x1 ≤ b.x1
  fc : b.y0 ≤ q.y0
  y : q.y0 ≤ q.y1
  fd : q.y1 ≤ b.y1
theorem Sb.has {q b : B4} (h : Sb q b) {p : P2} (k : hasI q p) : hasI b p := by
  have := h.fa; have := h.fb; have := h.fc; have := h.fd
  obtain ⟨k1, k2, k3, k4⟩ := k
  exact ⟨by omega, by omega, by omega, by omega⟩
theorem Sb.cor {q b : B4} (h : Sb q b) {p : P2} (k : isC q p) : hasI b p := h.has (isC_has h.x h.y k)
theorem Sb.near {q b : B4} (h : Sb q b) (p : P2) : nearI b p ≤ nearI q p := by
  have := h.fa; have := h.fb; have := h.fc; have := h.fd; have := h.x; have := h.y
  have gx : 0 ≤ gapI p.x b.x0 b.x1 ∧ gapI p.x b.x0 b.x1 ≤ gapI p.x q.x0 q.x1 := by unfold gapI; repeat' split <;> omega
  have gy : 0 ≤ gapI p.y b.y0 b.y1 ∧ gapI p.y b.y0 b.y1 ≤ gapI p.y q.y0 q.y1 := by unfold gapI; repeat' split <;> omega
  have := Int.mul_le_mul gx.2 gx.2 gx.1 (by omega)
  have := Int.mul_le_mul gy.2 gy.2 gy.1 (by omega)
  unfold nearI
  omega
theorem Sb.most {q b : B4} (h : Sb q b) (p : P2) : mostI q p ≤ mostI b p := by
  have := h.fa; have := h.fb; have := h.fc; have := h.fd; have := h.x; have := h.y
  have gx : 0 ≤ reachI p.x q.x0 q.x1 ∧ reachI p.x q.x0 q.x1 ≤ reachI p.x b.x0 b.x1 := by unfold reachI; omega
  have gy : 0 ≤ reachI p.y q.y0 q.y1 ∧ reachI p.y q.y0 q.y1 ≤ reachI p.y b.y0 b.y1 := by unfold reachI; omega
  have := Int.mul_le_mul gx.2 gx.2 gx.1 (by omega)
  have := Int.mul_le_mul gy.2 gy.2 gy.1 (by omega)
  unfold mostI
  omega
theorem Sb.pos {q b : B4} (h : Sb q b) {a c : P2} (k : all4 (fun z => decide (crossI a c z > 0)) b = true) : all4 (fun z => decide (crossI a c z > 0)) q = true := by
  rw [all4_iff] at k ⊢
  intro z hz
  obtain ⟨w, hw, hl⟩ := cross_le a c (h.cor hz)
  have := k w hw
  rw [decide_eq_true_eq] at this ⊢; omega
theorem Sb.ge {q b : B4} (h : Sb q b) {a c : P2} (k : all4 (fun z => decide (crossI a c z ≥ 0)) b = true) : all4 (fun z => decide (crossI a c z ≥ 0)) q = true := by
  rw [all4_iff] at k ⊢
  intro z hz
  obtain ⟨w, hw, hl⟩ := cross_le a c (h.cor hz)
  have := k w hw
  rw [decide_eq_true_eq] at this ⊢; omega
theorem Sb.neg {q b : B4} (h : Sb q b) {a c : P2} (k : all4 (fun z => decide (crossI a c z < 0)) b = true) : all4 (fun z => decide (crossI a c z < 0)) q = true := by
  rw [all4_iff] at k ⊢
  intro z hz
  obtain ⟨w, hw, hl⟩ := cross_ge a c (h.cor hz)
  have := k w hw
  rw [decide_eq_true_eq] at this ⊢; omega
theorem Sb.ge2 {q b : B4} (h : Sb q b) {a c : P2} (k : all4 (fun z => decide (crossI a z c ≥ 0)) b = true) : all4 (fun z => decide (crossI a z c ≥ 0)) q = true := by
  rw [all4_iff] at k ⊢
  intro z hz
  obtain ⟨w, hw, hl⟩ := cross_ge a c (h.cor hz)
  have := k w hw
  rw [decide_eq_true_eq] at this ⊢
  have e1 := cross_sw a c z
  have e2 := cross_sw a c w
  omega
theorem Sb.neg2 {q b : B4} (h : Sb q b) {a c : P2} (k : all4 (fun z => decide (crossI a z c < 0)) b = true) : all4 (fun z => decide (crossI a z c < 0)) q = true := by
  rw [all4_iff] at k ⊢
  intro z hz
  obtain ⟨w, hw, hl⟩ := cross_le a c (h.cor hz)
  have := k w hw
  rw [decide_eq_true_eq] at this ⊢
  have e1 := cross_sw a c z
  have e2 := cross_sw a c w
  omega
theorem Sb.meets {q b : B4} (h : Sb q b) {a c : P2} (k : meetsI q a c = true) : meetsI b a c = true := by
  have := h.fa; have := h.fb; have := h.fc; have := h.fd; have := h.x; have := h.y
  unfold meetsI at k ⊢
  simp only [Bool.and_eq_true, Bool.not_eq_true'] at k ⊢
  obtain ⟨k1, k2, k3⟩ := k
  refine ⟨?_, ?_, ?_⟩
  · unfold sepI at k1 ⊢
    simp only [Bool.or_eq_false_iff, decide_eq_false_iff_not] at k1 ⊢
    omega
  · cases e : all4 (fun z => decide (crossI a c z > 0)) b
    · rfl
    · rw [h.pos e] at k2; cases k2
  · cases e : all4 (fun z => decide (crossI a c z < 0)) b
    · rfl
    · rw [h.neg e] at k3; cases k3
/-- a class, and that of a smaller box -/
structure Ref (k j : Int) : Prop where
  k0 : 0 ≤ k
  k2 : k ≤ 2
  j0 : 0 ≤ j
  j2 : j ≤ 2
  e : k ≠ 1 → j = k
theorem Ref.of {k j : Int} (hk : k = 0 ∨ k = 1 ∨ k = 2) (hj : j = 0 ∨ j = 1 ∨ j = 2) (h2 : k = 2 → j = 2) (h0 : k = 0 → j = 0) : Ref k j := ⟨by omega, by omega, by omega, by omega, fun h => by omega⟩
theorem Ref.fold {k j m n : Int} (h : Ref k j) (g : Ref m n) (add : Bool) : Ref (foldF k m add) (foldF j n add) := by
  obtain ⟨h1, h2, h3, h4, h5⟩ := h
  obtain ⟨g1, g2, g3, g4, g5⟩ := g
  have a : (k = 0 ∧ j = 0) ∨ (k = 2 ∧ j = 2) ∨ (k = 1 ∧ (j = 0 ∨ j = 1 ∨ j = 2)) := by omega
  have b : (m = 0 ∧ n = 0) ∨ (m = 2 ∧ n = 2) ∨ (m = 1 ∧ (n = 0 ∨ n = 1 ∨ n = 2)) := by omega
  rcases a with ⟨rfl, rfl⟩ | ⟨rfl, rfl⟩ | ⟨rfl, rfl | rfl | rfl⟩ <;> rcases b with ⟨rfl, rfl⟩ | ⟨rfl, rfl⟩ | ⟨rfl, rfl | rfl | rfl⟩ <;> cases add <;> exact ⟨by decide, by decide, by decide, by decide, by decide⟩
theorem ref_disc {q b : B4} (h : Sb q b) (hb : BR b) (hq : BR q) {c : P2} (hc : PR c) {r : Int} (h1 : 1 ≤ r) (h2 : r ≤ 2147483648) : Ref (discClass b c r) (discClass q c r) := by
  have := h.fa; have := h.fb; have := h.fc; have := h.fd; have := h.x; have := h.y
  rw [discClass_eq hb hc (by omega) (by omega) h1 h2, discClass_eq hq hc h.x h.y h1 h2]
  have n := h.near c
  have m := h.most c
  have nm := near_most (p := c) h.x h.y
  constructor <;> repeat' split <;> omega
theorem ref_line {q b : B4} (h : Sb q b) (hb : BR b) (hq : BR q) {a c : P2} (ha : PR a) (hc : PR c) {r : Int} (h1 : 1 ≤ r) (h2 : r ≤ 2147483648) : Ref (lineClass b a c r) (lineClass q a c r) := by
  have := h.fa; have := h.fb; have := h.fc; have := h.fd; have := h.x; have := h.y
  rw [lineClass_eq hb ha hc (by omega) (by omega) h1 h2, lineClass_eq hq ha hc h.x h.y h1 h2]
  refine Ref.of (lineCl_012 _ _ _ _) (lineCl_012 _ _ _ _) (fun k => ?_) (fun k => ?_)
  · rw [lineCl_two] at k ⊢
    rw [all4_iff]
    intro z hz
    exact line_in (h.cor hz) k
  · rcases lineCl_012 q a c r with e | e
    · exact e
    · exfalso
      have hit : lineCl q a c r ≠ 0 := by omega
      rw [lineCl_hit] at hit
      have nb : ¬ (any4 (fun z => lineI z a c r) b = true ∨ nearI b a ≤ r * r ∨ nearI b c ≤ r * r ∨ meetsI b a c = true) := fun x => (lineCl_hit.2 x) k
      rcases hit with x | x | x | x
      · obtain ⟨z, hz, hi⟩ := any4_iff.1 x
        exact hit_of (by omega) (by omega) (h.cor hz) hi k
      · exact nb (.inr (.inl (by have := h.near a; omega)))
      · exact nb (.inr (.inr (.inl (by have := h.near c; omega))))
      · exact nb (.inr (.inr (.inr (h.meets x))))
theorem ref_bar {q b : B4} (h : Sb q b) (hb : BR b) (hq : BR q) {a c : P2} (ha : PR a) (hc : PR c) {r : Int} (h2 : r ≤ 2147483648) : Ref (barClass b a c r) (barClass q a c r) := by
  have := h.fa; have := h.fb; have := h.fc; have := h.fd; have := h.x; have := h.y
  rw [barClass_eq hb ha hc (by omega) (by omega) h2, barClass_eq hq ha hc h.x h.y h2]
  refine Ref.of (barCl_012 _ _ _ _) (barCl_012 _ _ _ _) (fun k => ?_) (fun k => ?_)
  · rw [barCl_two] at k ⊢
    refine ⟨k.1, ?_⟩
    rw [all4_iff]
    intro z hz
    exact bar_in (h.cor hz) k.2
  · by_cases v : r < 1 ∨ same a c
    · unfold barCl; rw [if_pos v]
    · have out : ∀ z, isC q z → barI z a c r = false := fun z hz => bar_out (h.cor hz) k
      have n2 : all4 (fun z => barI z a c r) q = false := by
        cases e : all4 (fun z => barI z a c r) q
        · rfl
        · have := all4_iff.1 e ⟨q.x0, q.y0⟩ ⟨.inl rfl, .inl rfl⟩
          rw [out _ ⟨.inl rfl, .inl rfl⟩] at this; cases this
      unfold barCl at k ⊢
      rw [if_neg v] at k ⊢
      have k2 : all4 (fun z => barI z a c r) b = false := by
        cases e : all4 (fun z => barI z a c r) b
        · rfl
        · rw [if_pos e] at k; cases k
      rw [k2] at k
      simp only [Bool.false_eq_true, if_false] at k
      rw [n2]
      simp only [Bool.false_eq_true, if_false]
      have k3 : (all4 (rightI a c r) b || all4 (leftI a c r) b || all4 (fun z => decide (dotI a c z < 0)) b || all4 (fun z => decide (dotI a c z > distI a c)) b) = true := by
        cases e : (all4 (rightI a c r) b || all4 (leftI a c r) b || all4 (fun z => decide (dotI a c z < 0)) b || all4 (fun z => decide (dotI a c z > distI a c)) b)
        · rw [e] at k; cases k
        · rfl
      rw [if_pos]
      simp only [Bool.or_eq_true, all4_iff] at k3 ⊢
      rcases k3 with ((k3 | k3) | k3) | k3
      · refine .inl (.inl (.inl fun z hz => ?_))
        obtain ⟨w, hw, hl⟩ := cross_ge a c (h.cor hz)
        have e := k3 w hw
        unfold rightI clear at e ⊢
        simp only [Bool.and_eq_true, Bool.not_eq_true', decide_eq_false_iff_not] at e ⊢
        have t := sq_le (x := -crossI a c w) (y := -crossI a c z) (by omega) (by omega)
        have e1 : -crossI a c w * -crossI a c w = crossI a c w * crossI a c w := by grind
        have e2 : -crossI a c z * -crossI a c z = crossI a c z * crossI a c z := by grind
        omega
      · refine .inl (.inl (.inr fun z hz => ?_))
        obtain ⟨w, hw, hl⟩ := cross_le a c (h.cor hz)
        have e := k3 w hw
        unfold leftI clear at e ⊢
        simp only [Bool.and_eq_true, Bool.not_eq_true', decide_eq_false_iff_not, decide_eq_true_eq] at e ⊢
        have t := sq_le (x := crossI a c w) (y := crossI a c z) (by omega) (by omega)
        omega
      · refine .inl (.inr fun z hz => ?_)
        obtain ⟨w, hw, hl⟩ := dot_ge a c (h.cor hz)
        have e := k3 w hw
        simp only [decide_eq_true_eq] at e ⊢; omega
      · refine .inr fun z hz => ?_
        obtain ⟨w, hw, hl⟩ := dot_le a c (h.cor hz)
        have e := k3 w hw
        simp only [decide_eq_true_eq] at e ⊢; omega
theorem Sb.liIn {q b : B4} (h : Sb q b) {c a e : P2} (k : liIn b c a e = true) : liIn q c a e = true := by
  unfold Go.Proofs.Ythnenjodighlmaa.liIn at k ⊢
  cases s : decide (same a e)
  · rw [s] at k
    simp only [Bool.false_or] at k ⊢
    split at k
    · rename_i g
      rw [if_pos g]
      rw [Bool.or_eq_true] at k ⊢
      exact k.imp h.ge h.ge2
    · rename_i g
      rw [if_neg g]
      rw [Bool.and_eq_true] at k ⊢
      exact ⟨h.ge k.1, h.ge2 k.2⟩
  · rfl
theorem Sb.liOff {q b : B4} (h : Sb q b) {c a e : P2} (k : liOff b c a e = true) : liOff q c a e = true := by
  unfold Go.Proofs.Ythnenjodighlmaa.liOff at k ⊢
  rw [Bool.and_eq_true] at k ⊢
  refine ⟨k.1, ?_⟩
  have k := k.2
  split at k
  · rename_i g
    rw [if_pos g]
    rw [Bool.and_eq_true] at k ⊢
    exact ⟨h.neg k.1, h.neg2 k.2⟩
  · rename_i g
    rw [if_neg g]
    rw [Bool.or_eq_true] at k ⊢
    exact k.imp h.neg h.neg2
theorem ref_ring {q b : B4} (h : Sb q b) (hb : BR b) (hq : BR q) {c a e : P2} (hc : PR c) (ha : PR a) (he : PR e) (ok : okI c a e) {r : Int} (h4 : 1 ≤ r) (h5 : r ≤ 1073741824) (hd : mostI b c ≤ 4000000000000000000) (hr : distI a c ≤ 4000000000000000000) : Ref (ringClass b c a e r) (ringClass q c a e r) := by
  have := h.fa; have := h.fb; have := h.fc; have := h.fd; have := h.x; have := h.y
  have mc := h.most c
  have nc := h.near c
  have ma := h.most a
  have na := h.near a
  have me := h.most e
  have ne := h.near e
  have nm := near_most (p := c) h.x h.y
  have nma := near_most (p := a) h.x h.y
  have nme := near_most (p := e) h.x h.y
  rw [ringClass_eq hb hc ha he ok (by omega) (by omega) h4 h5 hd hr, ringClass_eq hq hc ha he ok h.x h.y h4 h5 (by omega) hr]
  have o1 : outI (nearI b c) (distI a c) r = true → outI (nearI q c) (distI a c) r = true := outI_mono nc
  have o2 : outI (mostI q c) (distI a c) r = true → outI (mostI b c) (distI a c) r = true := outI_mono mc
  have o3 : outI (nearI q c) (distI a c) r = true → outI (mostI q c) (distI a c) r = true := outI_mono nm
  have i1 : insI (mostI b c) (distI a c) r = true → insI (mostI q c) (distI a c) r = true := insI_mono mc
  have i2 : insI (nearI q c) (distI a c) r = true → insI (nearI b c) (distI a c) r = true := insI_mono nc
  have i3 : insI (mostI q c) (distI a c) r = true → insI (nearI q c) (distI a c) r = true := insI_mono nm
  have l1 : liIn b c a e = true → liIn q c a e = true := h.liIn
  have l2 : liOff b c a e = true → liOff q c a e = true := h.liOff
  have l3 : liOff q c a e = true → liIn q c a e = true → False := fun u v => by
    have k1 := liOff_has (q := ⟨q.x0, q.y0⟩) ⟨Int.le_refl _, h.x, Int.le_refl _, h.y⟩ u
    have k2 := liIn_has (q := ⟨q.x0, q.y0⟩) ⟨Int.le_refl _, h.x, Int.le_refl _, h.y⟩ v
    rw [k1] at k2; cases k2
  refine Ref.of (ringCl_012 _ _ _ _ _) (ringCl_012 _ _ _ _ _) (fun k => ?_) (fun k => ?_)
  · unfold ringCl at k ⊢
    by_cases m1 : mostI b a ≤ r * r ∨ mostI b e ≤ r * r
    · rw [if_pos (by omega)]
    · rw [if_neg m1] at k
      by_cases m2 : (liIn b c a e && outI (nearI b c) (distI a c) r && insI (mostI b c) (distI a c) r) = true
      · simp only [Bool.and_eq_true] at m2
        have q2 : (liIn q c a e && outI (nearI q c) (distI a c) r && insI (mostI q c) (distI a c) r) = true := by
          simp only [Bool.and_eq_true]
          exact ⟨⟨l1 m2.1.1, o1 m2.1.2⟩, i1 m2.2⟩
        rw [if_pos q2]
        split <;> rfl
      · rw [if_neg m2] at k
        split at k
        · cases k
        · split at k <;> cases k
  · unfold ringCl at k ⊢
    by_cases m1 : mostI b a ≤ r * r ∨ mostI b e ≤ r * r
    · rw [if_pos m1] at k; cases k
    · rw [if_neg m1] at k
      by_cases m2 : (liIn b c a e && outI (nearI b c) (distI a c) r && insI (mostI b c) (distI a c) r) = true
      · rw [if_pos m2] at k; cases k
      · rw [if_neg m2] at k
        by_cases m3 : nearI b a ≤ r * r ∨ nearI b e ≤ r * r
        · rw [if_pos m3] at k; cases k
        · rw [if_neg m3] at k
          by_cases m4 : (liOff b c a e || !(insI (nearI b c) (distI a c) r) || !(outI (mostI b c) (distI a c) r)) = true
          · simp only [Bool.or_eq_true, Bool.not_eq_true'] at m4
            rw [if_neg (by omega), if_neg, if_neg (by omega), if_pos]
            · simp only [Bool.or_eq_true, Bool.not_eq_true']
              rcases m4 with (m4 | m4) | m4
              · exact .inl (.inl (l2 m4))
              · refine .inl (.inr ?_)
                cases x : insI (nearI q c) (distI a c) r
                · rfl
                · rw [i2 x] at m4; cases m4
              · refine .inr ?_
                cases x : outI (mostI q c) (distI a c) r
                · rfl
                · rw [o2 x] at m4; cases m4
            · intro x
              simp only [Bool.and_eq_true] at x
              obtain ⟨⟨x1, x2⟩, x3⟩ := x
              rcases m4 with (m4 | m4) | m4
              · exact l3 (l2 m4) x1
              · rw [i2 (i3 x3)] at m4; cases m4
              · rw [o2 (o3 x2)] at m4; cases m4
          · rw [if_neg m4] at k; cases k
theorem ref_poly {q b : B4} (h : Sb q b) (hb : BR b) (hq : BR q) {l : Ctr} (hl : PRC l) : Ref (polyClassF b l) (polyClassF q l) := by
  have := h.fa; have := h.fb; have := h.fc; have := h.fd; have := h.x; have := h.y
  have hC : hasI q ⟨q.x0, q.y0⟩ := ⟨Int.le_refl _, h.x, Int.le_refl _, h.y⟩
  have tq : touchI q l = true → touchI b l = true := fun t => by
    unfold touchI at t ⊢
    rw [anyN_iff] at t ⊢
    obtain ⟨i, hi, t⟩ := t
    refine ⟨i, hi, ?_⟩
    rw [anyN_iff] at t ⊢
    obtain ⟨k, hk, t⟩ := t
    exact ⟨k, hk, h.meets t⟩
  have v : ∀ b : B4, polyClassF b l = 0 ∨ polyClassF b l = 1 ∨ polyClassF b l = 2 := fun b => by
    unfold polyClassF
    cases touchF b l
    · cases andB (boxHas b ⟨b.x0, b.y0⟩) (oddF ⟨b.x0, b.y0⟩ l) <;> simp
    · simp
  have s1 := polyClass_sure (q := ⟨q.x0, q.y0⟩) hb (by omega) (by omega) hl (h.has hC)
  have s2 := polyClass_sure (q := ⟨q.x0, q.y0⟩) hq h.x h.y hl hC
  have no : polyClassF b l ≠ 1 → polyClassF q l ≠ 1 := fun n1 n2 => by
    have e1 : touchI b l = false := by
      cases t : touchI b l
      · rfl
      · exfalso
        apply n1
        unfold polyClassF
        rw [touchF_eq hb (by omega) (by omega) hl, t]; rfl
    have e2 : touchI q l = true := by
      unfold polyClassF at n2
      rw [touchF_eq hq h.x h.y hl] at n2
      cases t : touchI q l
      · rw [t] at n2
        exfalso
        revert n2
        show ¬ (bif andB (boxHas q ⟨q.x0, q.y0⟩) (oddF ⟨q.x0, q.y0⟩ l) then (2 : Int) else 0) = 1
        cases andB (boxHas q ⟨q.x0, q.y0⟩) (oddF ⟨q.x0, q.y0⟩ l) <;> simp
      · rfl
    rw [tq e2] at e1; cases e1
  refine Ref.of (v b) (v q) (fun k => ?_) (fun k => ?_)
  · rcases s2 with ⟨e, f⟩ | e | ⟨e, f⟩
    · rcases s1 with ⟨e', f'⟩ | e' | ⟨e', f'⟩
      · omega
      · omega
      · rw [f] at f'; cases f'
    · exact absurd e (no (by omega))
    · exact e
  · rcases s2 with ⟨e, f⟩ | e | ⟨e, f⟩
    · exact e
    · exact absurd e (no (by omega))
    · rcases s1 with ⟨e', f'⟩ | e' | ⟨e', f'⟩
      · rw [f] at f'; cases f'
      · omega
      · omega
theorem fitsBR {b : B4} (hb : Fits b) : BR b := ⟨⟨by have := hb.x0; omega, by have := hb.x; have := hb.x1; omega⟩, ⟨by have := hb.y0; omega, by have := hb.y; have := hb.y1; omega⟩, ⟨by have := hb.x0; have := hb.x; omega, by have := hb.x1; omega⟩, ⟨by have := hb.y0; have := hb.y; omega, by have := hb.y1; omega⟩⟩
theorem ref_fold (c d : Nat → Int) (add : Nat → Bool) : ∀ n, (∀ i, i < n → Ref (c i) (d i)) → Ref (foldN (fun i acc => foldF acc (c i) (add i)) 0 n) (foldN (fun i acc => foldF acc (d i) (add i)) 0 n)
  | 0, _ => (⟨by decide, by decide, by decide, by decide, fun _ => rfl⟩ : Ref 0 0)
  | n + 1, h => (ref_fold c d add n fun i hi => h i (by omega)).fold (h n (by omega)) (add n)
theorem ref_shape (sm : Bool) {q b : B4} (h : Sb q b) (hb : Fits b) (hq : Fits q) : ∀ (s : Shp) (d : Int), Ref (classF (tameS s sm d) b) (classF (tameS s sm d) q) := by
  have bb : BR b := fitsBR hb
  have bq : BR q := fitsBR hq
  intro s
  induction s with
  | nil => intro d; exact (⟨by decide, by decide, by decide, by decide, fun _ => rfl⟩ : Ref 0 0)
  | mk k a b' c r l n add sub ih =>
    intro d
    have kk := tmKk_bd ⟨k, a, b', c, r, l, n, noF⟩ d
    have kb := tmB_ok ⟨k, a, b', c, r, l, n, noF⟩ sm
    have kr := wid_bd (tmR_ok ⟨k, a, b', c, r, l, n, noF⟩ sm)
    have ka := PB_PR (at_PB a sm)
    simp only [tameS]
    generalize tmKk ⟨k, a, b', c, r, l, n, noF⟩ d = K at *
    have : K = 1 ∨ K = 2 ∨ K = 3 ∨ K = 4 ∨ K = 5 ∨ K = 6 := by omega
    rcases this with rfl | rfl | rfl | rfl | rfl | rfl
    · exact ref_disc h bb bq ka kr.1 (by omega)
    · exact ref_poly h bb bq (tameC_r l sm)
    · exact ref_line h bb bq ka (PB_PR kb.1) kr.1 (by omega)
    · exact ref_bar h bb bq ka (PB_PR kb.1) (by omega)
    · obtain ⟨f1, f2, f3, f4⟩ := arc_facts c (band a.x 65535) b'.x sm
      obtain ⟨g1, g2, g3, g4⟩ := arc_facts c (band a.y 65535) b'.x sm
      have cr := arcC_r c sm
      exact ref_ring h bb bq ⟨⟨by omega, by omega⟩, ⟨by omega, by omega⟩⟩ f1 g1 (arc_okI c _ _ _ sm) kr.1 (by omega) (by have := most_far hb.x0 hb.x hb.x1 hb.y0 hb.y hb.y1 cr; omega) (by rw [f2]; omega)
    · exact ref_fold (fun i => classF (tameS (sub i) sm (W (d + 1))) b) (fun i => classF (tameS (sub i) sm (W (d + 1))) q) add _ fun i _ => ih i _
end Go.Proofs.Ythnenjodighlmaa

/-! ## Pin -/
namespace Go.Proofs.Ythnenjodighlmaa
open Go Go.RowKit Sym
set_option maxRecDepth 100000

theorem bandLe (x : Int) (m : Nat) (hm : m < 2 ^ 62) : 0 ≤ band x (m : Int) ∧ band x (m : Int) ≤ m := by
  have h : (BitVec.ofInt 64 x &&& BitVec.ofInt 64 (m : Int)).toNat ≤ m := by
    rw [BitVec.toNat_and]
    refine Nat.le_trans Nat.and_le_right ?_
    simp only [BitVec.toNat_ofInt]
    omega
  unfold band
  rw [W_id (by omega) (by omega)]
  omega
end Go.Proofs.Ythnenjodighlmaa

/-! ## Rgf -/
namespace Go.Proofs.Ythnenjodighlmaa
open Go Go.RowKit Sym
set_option maxRecDepth 100000

/-- a shift to the left -/
def shlI (v d : Int) : Int := W (v * 2 ^ min (IntKind.u64.wrap d).toNat 64)
def sdK (w d : Int) (s : Bool) : Int := bif s then shlI (W (band w 3 + 1)) d else shlI (W (W ((IntKind.u64.wrap w).tmod 1000000) + 1)) d
def sdP (x y : Int) (s : Bool) : P2 := bif s then lClose (lClose ⟨x, y⟩ 400000000) 25 else lClose ⟨x, y⟩ 400000000
def sideF (x y w d : Int) (s : Bool) : B4 := ⟨(sdP x y s).x, (sdP x y s).y, W ((sdP x y s).x + sdK w d s), W ((sdP x y s).y + sdK w d s)⟩
def tabSd : Dyn.Tabs := Dyn.tabs tbF [] noD noD
theorem tabSd_ok : Dyn.TabsOk Try.prog tabSd := Dyn.tabs_ok tbF_ok (fun _ h => by cases h)
def sdO (x y w d : Int) (s : Bool) : Dyn.RO :=
  .side [0 ≤ IntKind.u64.wrap d] (.side [W (400000000 + 1) ≠ 0] (.ite s (.side [0 ≤ IntKind.u64.wrap d, W (25 + 1) ≠ 0] (.leaf (.val (dvX (sideF x y w d true))))) (.leaf (.val (dvX (sideF x y w d false))))))
theorem sd_O (x y w d : Int) (s : Bool) : (Dyn.dfun Try.prog tabSd Dyn.noLp 3 Try.f30 [dvI x, dvI y, dvI w, dvI d, dvB s]).ro Try.prog Try.f30.results = sdO x y w d s := by kernel_rfl
theorem u64_pos (d : Int) : 0 ≤ IntKind.u64.wrap d := by
  show 0 ≤ d % 18446744073709551616
  omega
theorem side_ok (x y w d : Int) (s : Bool) : Dyn.CallD Try.prog 30 [dvI x, dvI y, dvI w, dvI d, dvB s] (.val (dvX (sideF x y w d s))) :=
  Dyn.dcontract (lp := Dyn.noLp) (fuel := 3) tabSd_ok mo Try.func30 (by kernel_rfl) (c := bodyD Try.f30.body) (by kernel_rfl) (fun w0 => Dyn.noLp_ok _ w0) (by kernel_rfl) (sd_O x y w d s) (by
    refine ⟨⟨u64_pos d, trivial⟩, ⟨by decide, trivial⟩, fun h => ⟨⟨u64_pos d, by decide, trivial⟩, ?_⟩, fun h => ?_⟩
    · subst h; exact ro_leaf rfl
    · subst h; exact ro_leaf rfl)
end Go.Proofs.Ythnenjodighlmaa

/-! ## Rgh -/
namespace Go.Proofs.Ythnenjodighlmaa
open Go Go.RowKit Sym
set_option maxRecDepth 100000

theorem CallX_d1 {P : Program} {K : Nat} {u u' v v' : Dyn.DV} {l : List Dyn.LA} {lent : Dyn.Lent} {r : Value} {o : List (List Value)} (h1 : DVd u u') (h2 : Dyn.DVLe v v') (k : Dyn.CallX P K (.d u' :: .d v' :: l) lent r o) : Dyn.CallX P K (.d u :: .d v :: l) lent r o := fun w F bs us hF hn hd hl hden => k w F bs us hF hn hd hl (by
  cases us with
  | nil => exact hden
  | cons x us =>
    cases us with
    | nil => exact ⟨DVd.den h1 hden.1, hden.2⟩
    | cons y us => exact ⟨DVd.den h1 hden.1, Dyn.DenV_le h2 hden.2.1, hden.2.2⟩)
/-! ### a polygon of four points, as a program writes it -/
def p4X (a b c d : P2) : Nat → List Dyn.DC := Dyn.pickL 0 [[cI a.x, cI a.y], [cI b.x, cI b.y], [cI c.x, cI c.y], [cI d.x, cI d.y]]
def p4C (a b c d : P2) : Ctr := ⟨1, fun _ => 4, fun _ k => match k with
  | 0 => a
  | 1 => b
  | 2 => c
  | _ => d⟩
def p4S (a b c d : P2) : Shp := leafS 2 ze ze ze 0 (p4C a b c d)
def p4L (a b c d : P2) : Shp := lForm 1 (fun _ => true) (fun _ => p4S a b c d)
def p4R (a b c d : P2) : Nat → List Dyn.DC := fun _ => [.p (vb true), cI 2, cI 0, cI 0, cI 0, cI 0, cI 0, cI 0, cI 0, .row 1 fun _ => [.row 4 (p4X a b c d)], .row 0 noF]
theorem p4_le (a b c d : P2) : DLe (.row 1 (p4R a b c d)) (.row 1 fun _ => partC true (toSh (p4S a b c d))) :=
  DLe.rowL fun i _ => ⟨.refl _, .refl _, .refl _, .refl _, .refl _, .refl _, .refl _, .refl _, .refl _, DLe.rowL fun i _ => ⟨DLe.rowL fun i hi => by
    rcases (show i = 0 ∨ i = 1 ∨ i = 2 ∨ i = 3 by omega) with rfl | rfl | rfl | rfl <;> exact ⟨.refl _, .refl _, trivial⟩, trivial⟩, DLe.rowL fun i hi => absurd hi (Nat.not_lt_zero i), trivial⟩
theorem p4_B (a b c d : P2) : ShB (p4L a b c d) := ⟨CtrB_ze, by decide, fun i _ => ⟨⟨show 1 ≤ 1000000000 by decide, fun i _ => show 4 ≤ 1000000000 by decide⟩, by decide, fun i hi => absurd hi (Nat.not_lt_zero i)⟩⟩
/-- an entry for Cover of such a list -/
def p4Of (f : Nat → List Dyn.DC) : P2 × P2 × P2 × P2 :=
  match f 0 with
  | [_, _, _, _, _, _, _, _, _, .row _ g, _] => match g 0 with
    | [.row _ p] => match p 0, p 1, p 2, p 3 with
      | [.p (.int _ a), .p (.int _ b)], [.p (.int _ c), .p (.int _ d)], [.p (.int _ e), .p (.int _ f)], [.p (.int _ g), .p (.int _ h)] => (⟨a, b⟩, ⟨c, d⟩, ⟨e, f⟩, ⟨g, h⟩)
      | _, _, _, _ => (ze, ze, ze, ze)
    | _ => (ze, ze, ze, ze)
  | _ => (ze, ze, ze, ze)
def enCovP : List Dyn.LA → Dyn.Lent → Option (Value × List (List Value) × List Prop)
  | [.d (.one (.row n f)), .d u, .d (.one (.p (.int .i64 d))), .lp 0 0], [(t, [.int .i64 most, .int .i64 a])] => match aX u, Nat.beq t 97 with
    | some b, true =>
      let q := p4Of f
      let L := p4L q.1 q.2.1 q.2.2.1 q.2.2.2
      some (exV (coverF most d L b a).lo (coverF most d L b a).hi (coverF most d L b a).e, mtO most (coverF most d L b a).a, [0 ≤ d ∧ d ≤ 6, DLe (.row n f) (.row 1 (p4R q.1 q.2.1 q.2.2.1 q.2.2.2))])
    | _, _ => none
  | _, _ => none
theorem DLe.tr {c d : Dyn.DC} {P : Program} {K : Nat} {v' : Dyn.DV} {l : List Dyn.LA} {lent : Dyn.Lent} {r : Value} {o : List (List Value)} (h : DLe c d) (k : Dyn.CallX P K (.d (.one d) :: .d v' :: l) lent r o) : Dyn.CallX P K (.d (.one c) :: .d v' :: l) lent r o := CallX_d1 (show DVd (.one c) (.one d) from h) (Dyn.DVLe.refl _) k
theorem coverE_L (a b c d : P2) : coverE = fun d' x b' most a' => coverF most d' (ofSh x) b' a' := rfl
theorem enCovP_ok : Dyn.EntryXOk Try.prog (31, enCovP) := fun az lent u out ps h hp => by
  dsimp only at h
  unfold enCovP at h
  split at h
  · rename_i n f u' d t most a
    split at h
    · rename_i b hb ht
      have e1 := Nat.eq_of_beq_eq_true ht
      subst e1
      dsimp only at h
      generalize p4Of f = q at h
      simp only [Option.some.injEq, Prod.mk.injEq] at h
      obtain ⟨rfl, rfl, rfl⟩ := h
      have k := cover_ok hp.1.1 hp.1.2 1 (fun _ => partC true (toSh (p4S q.1 q.2.1 q.2.2.1 q.2.2.2))) (PdS_mk (p4_B q.1 q.2.1 q.2.2.1 q.2.2.2)) b most a
      unfold coverE at k
      rw [show ofSh (obX 1 fun _ => partC true (toSh (p4S q.1 q.2.1 q.2.2.1 q.2.2.2))) = p4L q.1 q.2.1 q.2.2.1 q.2.2.2 from ofSh_toSh (p4L q.1 q.2.1 q.2.2.1 q.2.2.2)] at k
      exact DLe.tr hp.2.1 (DLe.tr (p4_le _ _ _ _) (CallX_le2 (Dyn.DVLe.refl _) (aX_eq hb) k))
    · cases h
  · cases h
def drMt (K : Nat) : Bool := Nat.beq K 27 || Nat.beq K 31 || Nat.beq K 26
def tabA23 : Dyn.Tabs := Dyn.nwT (Dyn.tabsX tbF [(28, enUsed)] [(27, enTake), (31, enCovP)] drMt dtyG false) nwM
theorem tabA23_ok : Dyn.TabsOk Try.prog tabA23 := Dyn.nwT_ok (Dyn.tabsX_ok tbF_ok (List.forall_mem_cons.2 ⟨enUsed_ok, fun _ h => by cases h⟩) (List.forall_mem_cons.2 ⟨enTake_ok, List.forall_mem_cons.2 ⟨enCovP_ok, fun _ h => by cases h⟩⟩)) nwM_ok
def gaL : Shp := p4L ⟨-9, -9⟩ ⟨3, -9⟩ ⟨3, 9⟩ ⟨-9, 9⟩
def awR1 : ExR := coverF (capM 100) 1 gaL ⟨0, 0, 4, 4⟩ 0
def awR2 : ExR := coverF (capM 100) 1 gaL ⟨0, 0, 3, 4⟩ awR1.a
theorem awR1_eq : awR1 = ⟨2, 4, 0, 5⟩ := by kernel_rfl
theorem awR2_eq : awR2 = ⟨0, 0, 1, 5⟩ := by unfold awR2; rw [awR1_eq]; kernel_rfl
def gaV (r1 r2 : ExR) : Bool :=
  bif bif bif bif bif bif (bif r1.lo == 2 then bif r1.hi == 4 then true else false else false) then r1.e == 0 else false then r2.e == 1 else false then imin r2.a (capM 100) == 5 else false then decide (W (0 + 1) ≤ capM 1) else false then !(decide (W (W (0 + 1) + 1) ≤ capM 1)) else false then imin (W (W (0 + 1) + 1)) (capM 1) == 1 else false
def gaD : Dyn.DC := .row 1 (p4R ⟨-9, -9⟩ ⟨3, -9⟩ ⟨3, 9⟩ ⟨-9, 9⟩)
def gaO : Dyn.RO := .side [(0 : Int) ≤ 1 ∧ (1 : Int) ≤ 6, DLe gaD gaD] (.side [(0 : Int) ≤ 1 ∧ (1 : Int) ≤ 6, DLe gaD gaD] (.leaf (rB (gaV awR1 awR2))))
theorem ga_O : (Dyn.dfun Try.prog tabA23 Dyn.noLp 8 Try.f29 []).ro Try.prog Try.f29.results = gaO := by kernel_rfl
theorem awake23 : Dyn.CallD Try.prog 29 [] (rB true) :=
  Dyn.dcontract (lp := Dyn.noLp) (fuel := 8) tabA23_ok mo Try.func29 (by kernel_rfl) (c := bodyD Try.f29.body) (by kernel_rfl) (fun w0 => Dyn.noLp_ok _ w0) (by kernel_rfl) ga_O (by
    refine ⟨⟨by decide, .refl _, trivial⟩, ⟨by decide, .refl _, trivial⟩, ?_⟩
    rw [awR1_eq, awR2_eq, show gaV ⟨2, 4, 0, 5⟩ ⟨0, 0, 1, 5⟩ = true by kernel_rfl]
    exact ro_leaf rfl)
end Go.Proofs.Ythnenjodighlmaa

/-! ## Rgi -/
namespace Go.Proofs.Ythnenjodighlmaa
open Go Go.RowKit Sym
set_option maxRecDepth 100000

def tabRm : Dyn.Tabs := Dyn.nwT (Dyn.tabsX tbF [(28, enUsed), (29, en0R (rB true))] [(27, enTake)] drMt dtyG false) nwM
theorem tabRm_ok : Dyn.TabsOk Try.prog tabRm := Dyn.nwT_ok (Dyn.tabsX_ok tbF_ok (List.forall_mem_cons.2 ⟨enUsed_ok, List.forall_mem_cons.2 ⟨en0R_ok awake23, fun _ h => by cases h⟩⟩) (List.forall_mem_cons.2 ⟨enTake_ok, fun _ h => by cases h⟩)) nwM_ok
def rmS (n c k a i : Int) : Dyn.St := mkS 37 [(1, sI n), (5, sL 0), (6, sI k), (7, sI i)] [some (.cells 97 [vi c, vi a])]
def rmK : List Nat := [1, 5, 6, 7]
def rmR : Dyn.St := mkS 37 [(4, .k (vb false))] []
def rmLp (n c k : Int) : Dyn.Lp := fun id st => match id with
  | 0 => some (.side [keepA 37 [1] [] rmK (2 ^ 7) st = rmS n c k 0 0] (.leaf .normal (rmS n c k n n)))
  | _ => none
def rmB (n c k : Int) (i : Nat) : Dyn.Out :=
  .ite (decide ((i : Int) < n)) (.ite (decide (W (i + 1) ≤ c) != decide ((i : Int) < k)) (.leaf .ret rmR) (.leaf .normal (rmS n c k (W (i + 1)) (W (i + 1))))) (.leaf (.exit 0) (rmS n c k i i))
theorem rm_B (n c k : Int) (i : Nat) : (Dyn.lexec Try.prog tabRm (rmLp n c k) 3 (unloopD (blkD Try.f6.body 0)) .leaf (rmS n c k i i)).rl (keepR 37 [0] [] rmK [4]) = rmB n c k i := by kernel_rfl
theorem rm_blocks : blocksL (bodyD Try.f6.body) = [(0, .loop (unloopD (blkD Try.f6.body 0))), (1, blkD Try.f6.body 1)] := by kernel_rfl
theorem rm_b0 : blocksL (unloopD (blkD Try.f6.body 0)) = [(1, blkD Try.f6.body 1)] := by kernel_rfl
theorem rm_loop (n c k : Int) (h0 : 0 ≤ n) (h1 : n ≤ 4095) (hk : c = k) (w0 : Dyn.Base Try.prog) (st : Dyn.St) (o : Dyn.Out) (h : rmLp n c k 0 st = some o) : Dyn.BlockSound Try.prog w0 0 (.loop (unloopD (blkD Try.f6.body 0))) st o := by
  simp only [rmLp, Option.some.injEq] at h
  subst h
  refine side_one fun hS => ?_
  obtain ⟨N, rfl⟩ : ∃ N : Nat, n = (N : Int) := ⟨n.toNat, by omega⟩
  refine fold_block (fuel := 3) tabRm_ok mo (lp := rmLp (N : Int) c k) (by rw [rm_b0]; exact lpOk_cons (fun s o h => by cases h) lpOk_nil) (fun i (_ : Unit) => rmS N c k i i) N (fun _ _ => ()) () (keepR 37 [0] [] rmK [4]) (keepR_ent 37 _ _ _ _) (fun i _ => rmB N c k i) (fun i _ => rm_B N c k i) (fun i hi => ?_) ?_ (hS ▸ keepA_ent 37 _ _ _ _ st)
  · refine ⟨fun _ => ⟨fun hx => ?_, fun _ => ⟨rfl, ?_⟩⟩, fun hf => ?_⟩
    · rw [Wn1 hi (by omega), hk] at hx
      rw [show decide (((i + 1 : Nat) : Int) ≤ k) = decide ((i : Int) < k) from decide_eq_decide.2 (by omega)] at hx
      simp at hx
    · rw [Wn1 hi (by omega)]; exact Dyn.Fits.refl _
    · rw [decide_eq_false_iff_not] at hf; omega
  · refine ⟨fun ht => ?_, fun _ => ⟨rfl, Dyn.Fits.refl _⟩⟩
    rw [decide_eq_true_eq] at ht; omega
def rmKk (m : Int) : Int := imin (imax m 0) 100000000
def rmO (m n : Int) : Dyn.RO := .side [rmS (band n 4095) (capM m) (rmKk m) 0 0 = rmS (band n 4095) (capM m) (rmKk m) 0 0] (.leaf (rB (bif imin (band n 4095) (capM m) == imin (band n 4095) (rmKk m) then true else false)))
theorem rm_O (m n : Int) : (Dyn.dfun Try.prog tabRm (rmLp (band n 4095) (capM m) (rmKk m)) 3 Try.f6 [dvI m, dvI n]).ro Try.prog Try.f6.results = rmO m n := by kernel_rfl
theorem rmKk_eq (m : Int) : capM m = rmKk m := by unfold capM rmKk imin imax; repeat' split <;> omega
theorem rastMeter_ok (m n : Int) : Dyn.CallD Try.prog 6 [dvI m, dvI n] (rB true) := by
  have hb : 0 ≤ band n 4095 ∧ band n 4095 ≤ 4095 := bandLe n 4095 (by decide)
  exact Dyn.dcontract (lp := rmLp (band n 4095) (capM m) (rmKk m)) (fuel := 3) tabRm_ok mo Try.func6 (by kernel_rfl) (c := bodyD Try.f6.body) (by kernel_rfl)
    (fun w0 => by rw [rm_blocks]; exact lpOk_cons (rm_loop _ _ _ hb.1 hb.2 (rmKk_eq m) w0) (lpOk_cons (fun s o h => by cases h) lpOk_nil))
    (by kernel_rfl) (rm_O m n) ⟨⟨rfl, trivial⟩, by rw [rmKk_eq, beq_self_eq_true]; exact ro_leaf rfl⟩
end Go.Proofs.Ythnenjodighlmaa
