/-
  OWN WORK. Joined by merge.py: Tua Tub Roe Fin Fio Fip Tuc Fiq Tue Bou Tuf Fir Poi Pos Pou Fis.
-/
import Derived.Test.YtfooaikpcbnchaaQG
import Derived.Test.YtfooaikpcbnchaaQE
import Derived.Test.YtfooaikpcbnchaaQF
/-! ## Tua -/
namespace Go.Proofs.Ytfooaikpcbnchaa
open Go Go.RowKit Sym
set_option maxRecDepth 100000

def zl (b : Bool) : List Dyn.DC → List Dyn.DC → List Dyn.DC
  | a :: us, z :: zs => (bif b then a else z) :: zl b us zs
  | _, _ => []
theorem zl_t : ∀ {us zs : List Dyn.DC}, us.length = zs.length → zl true us zs = us
  | [], [], _ => rfl
  | a :: us, z :: zs, h => by show a :: zl true us zs = _; rw [zl_t (Nat.succ.inj h)]
theorem zl_f : ∀ {us zs : List Dyn.DC}, us.length = zs.length → zl false us zs = zs
  | [], [], _ => rfl
  | a :: us, z :: zs, h => by show z :: zl false us zs = _; rw [zl_f (Nat.succ.inj h)]
/-- a row being filled: i of its elements are made -/
def fil (F : Nat → List Dyn.DC) (z : List Dyn.DC) (i : Nat) : Nat → List Dyn.DC := fun j => zl (Nat.blt j i) (F j) z
theorem fil_in {F : Nat → List Dyn.DC} {z : List Dyn.DC} {i j : Nat} (hl : (F j).length = z.length) (h : j < i) : fil F z i j = F j := by
  unfold fil
  rw [show Nat.blt j i = true from Nat.ble_eq_true_of_le h]; exact zl_t hl
theorem fil_out {F : Nat → List Dyn.DC} {z : List Dyn.DC} {i j : Nat} (hl : (F j).length = z.length) (h : ¬ j < i) : fil F z i j = z := by
  unfold fil
  rw [show Nat.blt j i = false by rw [Bool.eq_false_iff]; exact fun e => h (Nat.le_of_ble_eq_true e)]; exact zl_f hl
theorem le_upd {t : TypeId} {n i : Nat} {F : Nat → List Dyn.DC} {z ds : List Dyn.DC} {off : Nat} (hl : ∀ j, (F j).length = z.length) (h : Dyn.setMany' z off ds = F i) : Dyn.HeLe (some (.own t n (Dyn.updF (fil F z i) i off ds))) (some (.own t n (fil F z (i + 1)))) := by
  refine ⟨rfl, rfl, fun j hj => ?_⟩
  unfold Dyn.updF
  by_cases e : j = i
  · subst e
    rw [show Nat.beq j j = true from Nat.beq_refl j, fil_in (hl j) (show j < j + 1 by omega), fil_out (hl j) (by omega)]
    exact h
  · rw [show Nat.beq j i = false by rw [Bool.eq_false_iff]; exact fun q => e (Nat.eq_of_beq_eq_true q)]
    by_cases l : j < i
    · rw [fil_in (hl j) l, fil_in (hl j) (by omega)]; rfl
    · rw [fil_out (hl j) l, fil_out (hl j) (by omega)]; rfl
def turnC (l : Ctr) (t : Tn) : Ctr := ⟨l.n, l.m, fun i k => turnPtF (l.p i k) t⟩
def apP (l : Ctr) (t : Tn) (i k : Nat) : List Dyn.DC := cP (turnPtF (l.p i k) t)
def apR (l : Ctr) (t : Tn) (i : Nat) : List Dyn.DC := [cRow (l.m i) (fun k => turnPtF (l.p i k) t)]
def apZ1 : List Dyn.DC := [nilR]
def apZ3 : List Dyn.DC := [cB false, cI 0, cI 0, cI 0, cI 0, cI 0, cI 0, cI 0, cI 0, nilR, nilR]
theorem leaf_fits {P : Program} {w0 : Dyn.Base P} {id : Nat} {c : Code} {s s1 s2 : Dyn.St} {e : AExit} (h : Dyn.BlockSound P w0 id c s (.leaf e s1)) (f : Dyn.Fits s1 s2) : Dyn.BlockSound P w0 id c s (.leaf e s2) := fun Q a w β m ng ho => h Q a w β m ng (fun β a w m ng => by
  obtain ⟨β', m', ng'⟩ := Dyn.Ent.fits f β a w m ng
  exact ho β' a w m' ng')
def apF (g : Sh → Tn → Sh) (sh : Nat → Sh) (add : Nat → Bool) (t : Tn) (i : Nat) : List Dyn.DC := partC (add i) (g (sh i) t)
def szM (b n : Nat) : Prop := 0 ≤ (n : Int) ∧ (n : Int) ≤ n ∧ (n : Int) ≤ 9223372036854775807 ∧ (b : Int) * (n : Int) ≤ 281474976710656
theorem szM_ok {b n : Nat} (hb : b ≤ 1000) (hn : n ≤ 1000000000) : szM b n := by
  refine ⟨by omega, by omega, by omega, ?_⟩
  have : b * n ≤ 1000 * 1000000000 := Nat.mul_le_mul hb hn
  have h2 : (b : Int) * (n : Int) = ((b * n : Nat) : Int) := by rw [Int.natCast_mul]
  rw [h2]; omega
def apZ2 : List Dyn.DC := [.p (vi 0), .p (vi 0)]
def tdA (Pd : Sh → Prop) (g : Sh → Tn → Sh) : List Dyn.EntryD := [(49, en2D (qAnd qS Pd) qT fun x t => .val (dvS (g x t)))]
def drA (K : Nat) : Bool := Nat.beq K 49
def tabAp (Pd : Sh → Prop) (g : Sh → Tn → Sh) : Dyn.Tabs := Dyn.tabs tf6 (tdA Pd g) drA dtyS
theorem tabAp_ok {Pd : Sh → Prop} {g : Sh → Tn → Sh} (ih : ∀ x, Pd x → ∀ t, Dyn.CallD Try.prog 49 [dvS x, dvT t] (.val (dvS (g x t)))) : Dyn.TabsOk Try.prog (tabAp Pd g) :=
  Dyn.tabs_ok tf6_ok (List.forall_mem_cons.2 ⟨en2D_ok (qAnd_ok qS_ok) qT_ok fun x t h _ => ih x h.1 t, fun _ h => by cases h⟩)
def apV (k r : Int) (L Q : Value) : List Value := [vi k, vi 0, vi 0, vi 0, vi 0, vi 0, vi 0, vi r, L, Q]
def tnV (t : Tn) : List Value := [vb t.mx, vb t.my, vi t.q, vi t.u.x, vi t.u.y]
def apS (s : Sh) (t : Tn) (i : Int) (f : Nat → List Dyn.DC) : Dyn.St := mkS 134 [(2, sL 1), (3, sL 2), (4, sL 3), (5, sL 4), (76, sH 0 8 s.l.n), (77, sI s.l.n), (78, sI i)]
  [some (.deep (cS s)), some (.cells 29 (shV 0 8 s)), some (.cells 25 (tnV t)), some (.cells 29 tmZ), some (.cells 29 (apV s.k s.r (.slice (some ⟨5, 0, some 0⟩) s.l.n 0) (.slice none 0 0))), some (.own 78 s.l.n f)]
def apT (s : Sh) (t : Tn) (i : Int) (f : Nat → List Dyn.DC) (j : Int) (f2 : Nat → List Dyn.DC) : Dyn.St := mkS 134 [(2, sL 1), (3, sL 2), (4, sL 3), (5, sL 4), (6, sI i), (7, sH 5 0 (s.l.m i.toNat)), (8, sH 6 0 (s.l.m i.toNat)), (76, sH 0 8 s.l.n), (77, sI s.l.n), (78, sI i), (86, sH 5 0 (s.l.m i.toNat)), (87, sI (s.l.m i.toNat)), (88, sI j)]
  [some (.deep (cS s)), some (.cells 29 (shV 0 8 s)), some (.cells 25 (tnV t)), some (.cells 29 tmZ), some (.cells 29 (apV s.k s.r (.slice (some ⟨7, 0, some 0⟩) s.l.n 0) (.slice none 0 0))), some (.deep [cRow (s.l.m i.toNat) (s.l.p i.toNat)]), some (.own 23 (s.l.m i.toNat) f2), some (.own 78 s.l.n f)]
def apU (s : Sh) (t : Tn) (i : Int) (f : Nat → List Dyn.DC) : Dyn.St := mkS 134 [(2, sL 1), (3, sL 2), (4, sL 3), (5, sL 4), (114, sH 0 9 s.n), (115, sI s.n), (116, sI i)]
  [some (.deep (cS s)), some (.cells 29 (shV 0 8 s)), some (.cells 25 (tnV t)), some (.cells 29 tmZ), some (.cells 29 (apV s.k s.r (.slice none 0 0) (.slice (some ⟨5, 0, some 0⟩) s.n 0))), some (.own 45 s.n f)]
def apK0 : List Nat := [2, 3, 4, 5, 76, 77, 78]
def apK1 : List Nat := [2, 3, 4, 5, 6, 7, 8, 76, 77, 78, 86, 87, 88]
def apK2 : List Nat := [2, 3, 4, 5, 114, 115, 116]
def apLp (g : Sh → Tn → Sh) (sh : Nat → Sh) (add : Nat → Bool) (s : Sh) (t : Tn) : Dyn.Lp := fun id st => match id with
  | 1 => some (.side [keepC 134 [0, 1, 2, 3, 9] [] [(9, 8)] apK0 (2 ^ 78) st = apS s t 0 (fil (apR s.l t) apZ1 0)] (.leaf .normal (apS s t (s.l.n : Nat) (apR s.l t))))
  | 3 =>
    let i := intD (st.slots.getD 6 .junk)
    some (.side [keepC 134 [0, 1, 2, 3, 4] [7, 8] [(4, 8)] apK1 (2 ^ 88) st = apT s t i (fil (apR s.l t) apZ1 i.toNat) 0 (fil (apP s.l t i.toNat) apZ2 0), 0 ≤ i ∧ i < s.l.n] (.leaf .normal (apT s t i (fil (apR s.l t) apZ1 i.toNat) (s.l.m i.toNat : Nat) (apP s.l t i.toNat))))
  | 5 => some (.side [keepC 134 [0, 1, 2, 3, 9] [] [(9, 9)] apK2 (2 ^ 116) st = apU s t 0 (fil (apF g sh add t) apZ3 0)] (.leaf .normal (apU s t (s.n : Nat) (apF g sh add t))))
  | _ => none
def apBi (s : Sh) (t : Tn) (i : Nat) (f : Nat → List Dyn.DC) (j : Nat) : Dyn.Out :=
  .ite (decide ((j : Int) < s.l.m i)) (.side [0 ≤ (j : Int) ∧ (j : Int) < s.l.m i] (.side [0 ≤ (j : Int) ∧ (j : Int) < s.l.m i] (.leaf .normal (apT s t i f (W (j + 1)) (Dyn.updF (fil (apP s.l t i) apZ2 j) j 0 (cP (turnPtF (s.l.p i j) t))))))) (.leaf (.exit 3) (apT s t i f j (fil (apP s.l t i) apZ2 j)))
def apBo (s : Sh) (t : Tn) (i : Nat) : Dyn.Out :=
  .ite (decide ((i : Int) < s.l.n)) (.side [0 ≤ (i : Int) ∧ (i : Int) < s.l.n] (.side [szM 16 (s.l.m i)] (.side [apT s t i (fil (apR s.l t) apZ1 i) 0 (fil (apP s.l t i) apZ2 0) = apT s t i (fil (apR s.l t) apZ1 i) 0 (fil (apP s.l t i) apZ2 0), 0 ≤ (i : Int) ∧ (i : Int) < s.l.n] (.side [0 ≤ (i : Int) ∧ (i : Int) < s.l.n] (.leaf .normal (apS s t (W (i + 1)) (Dyn.updF (fil (apR s.l t) apZ1 i) i 0 (apR s.l t i)))))))) (.leaf (.exit 1) (apS s t i (fil (apR s.l t) apZ1 i)))
def apBp (Pd : Sh → Prop) (g : Sh → Tn → Sh) (sh : Nat → Sh) (add : Nat → Bool) (s : Sh) (t : Tn) (i : Nat) : Dyn.Out :=
  .ite (decide ((i : Int) < s.n)) (.side [0 ≤ (i : Int) ∧ (i : Int) < s.n] (.side [Pd (sh i), ctrSelf (sh i).l, 0 ≤ (i : Int) ∧ (i : Int) < s.n] (.leaf .normal (apU s t (W (i + 1)) (Dyn.updF (fil (apF g sh add t) apZ3 i) i 0 (apF g sh add t i)))))) (.leaf (.exit 5) (apU s t i (fil (apF g sh add t) apZ3 i)))
theorem ap_Bi (Pd : Sh → Prop) (g : Sh → Tn → Sh) (sh : Nat → Sh) (add : Nat → Bool) (s : Sh) (t : Tn) (i : Nat) (f : Nat → List Dyn.DC) (j : Nat) : (Dyn.lexec Try.prog (tabAp Pd g) (apLp g sh add s t) 3 (unloopD (blkD Try.f49.body 3)) .leaf (apT s t i f j (fil (apP s.l t i) apZ2 j))).rl (keepCR 134 [0, 1, 2, 3, 4] [7, 8] [(4, 8)] apK1 [] []) = apBi s t i f j := by kernel_rfl
theorem ap_Bo (Pd : Sh → Prop) (g : Sh → Tn → Sh) (sh : Nat → Sh) (add : Nat → Bool) (s : Sh) (t : Tn) (i : Nat) : (Dyn.lexec Try.prog (tabAp Pd g) (apLp g sh add s t) 3 (unloopD (blkD Try.f49.body 1)) .leaf (apS s t i (fil (apR s.l t) apZ1 i))).rl (keepCR 134 [0, 1, 2, 3, 4] [] [(4, 8)] apK0 [] []) = apBo s t i := by kernel_rfl
theorem ap_Bp (Pd : Sh → Prop) (g : Sh → Tn → Sh) (k : Int) (a b c : P2) (r : Int) (l : Ctr) (n : Nat) (add : Nat → Bool) (sh : Nat → Sh) (t : Tn) (i : Nat) : (Dyn.lexec Try.prog (tabAp Pd g) (apLp g sh add (mkSh k a b c r l n add sh) t) 3 (unloopD (blkD Try.f49.body 5)) .leaf (apU (mkSh k a b c r l n add sh) t i (fil (apF g sh add t) apZ3 i))).rl (keepCR 134 [0, 1, 2, 3, 4] [] [(4, 9)] apK2 [] []) = apBp Pd g sh add (mkSh k a b c r l n add sh) t i := by kernel_rfl
theorem ap_blocks : blocksL (bodyD Try.f49.body) = [(0, blkD Try.f49.body 0), (1, .loop (unloopD (blkD Try.f49.body 1))), (2, blkD Try.f49.body 2), (3, .loop (unloopD (blkD Try.f49.body 3))), (4, blkD Try.f49.body 4), (5, .loop (unloopD (blkD Try.f49.body 5))), (6, blkD Try.f49.body 6)] := by kernel_rfl
theorem ap_b1 : blocksL (unloopD (blkD Try.f49.body 1)) = [(2, blkD Try.f49.body 2), (3, .loop (unloopD (blkD Try.f49.body 3))), (4, blkD Try.f49.body 4)] := by kernel_rfl
theorem ap_b3 : blocksL (unloopD (blkD Try.f49.body 3)) = [(4, blkD Try.f49.body 4)] := by kernel_rfl
theorem ap_b5 : blocksL (unloopD (blkD Try.f49.body 5)) = [(6, blkD Try.f49.body 6)] := by kernel_rfl
theorem ap_inner {Pd : Sh → Prop} {g : Sh → Tn → Sh} (ih : ∀ x, Pd x → ∀ t, Dyn.CallD Try.prog 49 [dvS x, dvT t] (.val (dvS (g x t)))) (sh : Nat → Sh) (add : Nat → Bool) (s : Sh) (hl : CtrB s.l) (t : Tn) (w0 : Dyn.Base Try.prog) (st : Dyn.St) (o : Dyn.Out)
    (h : apLp g sh add s t 3 st = some o) : Dyn.BlockSound Try.prog w0 3 (.loop (unloopD (blkD Try.f49.body 3))) st o := by
  simp only [apLp, Option.some.injEq] at h
  subst h
  refine side_two fun hS hi => ?_
  revert hS hi
  generalize intD (st.slots.getD 6 .junk) = i'
  intro hS hi
  obtain ⟨i, rfl⟩ : ∃ i : Nat, i' = (i : Int) := ⟨i'.toNat, by omega⟩
  have hm : s.l.m i ≤ 1000000000 := hl.2 i (by omega)
  refine leaf_fits (s1 := apT s t i (fil (apR s.l t) apZ1 i) (s.l.m i : Nat) (fil (apP s.l t i) apZ2 (s.l.m i))) (fold_block (fuel := 3) (tabAp_ok ih) mo (lp := apLp g sh add s t) (by rw [ap_b3]; exact lpOk_cons (fun s o h => by cases h) lpOk_nil) (fun j (_ : Unit) => apT s t i (fil (apR s.l t) apZ1 i) j (fil (apP s.l t i) apZ2 j)) (s.l.m i) (fun _ _ => ()) () (keepCR 134 [0, 1, 2, 3, 4] [7, 8] [(4, 8)] apK1 [] []) (keepCR_ent 134 _ _ _ _ _ _) (fun j _ => apBi s t i (fil (apR s.l t) apZ1 i) j) (fun j _ => ap_Bi Pd g sh add s t i _ j) (fun j hj => ?_) ?_ (hS ▸ keepC_ent 134 _ _ _ _ _ st)) ?_
  · refine ⟨fun _ => ⟨⟨⟨by omega, by omega⟩, trivial⟩, ⟨⟨by omega, by omega⟩, trivial⟩, rfl, ?_⟩, fun hf => ?_⟩
    · rw [Wn1 hj hm]
      exact ⟨rfl, Dyn.HeLe.refl _, Dyn.HeLe.refl _, Dyn.HeLe.refl _, Dyn.HeLe.refl _, Dyn.HeLe.refl _, Dyn.HeLe.refl _, le_upd (fun _ => rfl) rfl, Dyn.HeLe.refl _, trivial⟩
    · rw [decide_eq_false_iff_not] at hf; omega
  · refine ⟨fun ht => ?_, fun _ => ⟨rfl, Dyn.Fits.refl _⟩⟩
    rw [decide_eq_true_eq] at ht; omega
  · exact ⟨rfl, Dyn.HeLe.refl _, Dyn.HeLe.refl _, Dyn.HeLe.refl _, Dyn.HeLe.refl _, Dyn.HeLe.refl _, Dyn.HeLe.refl _, ⟨rfl, rfl, fun j hj => fil_in rfl hj⟩, Dyn.HeLe.refl _, trivial⟩
theorem ap_outer {Pd : Sh → Prop} {g : Sh → Tn → Sh} (ih : ∀ x, Pd x → ∀ t, Dyn.CallD Try.prog 49 [dvS x, dvT t] (.val (dvS (g x t)))) (sh : Nat → Sh) (add : Nat → Bool) (s : Sh) (hl : CtrB s.l) (t : Tn) (w0 : Dyn.Base Try.prog) (st : Dyn.St) (o : Dyn.Out)
    (h : apLp g sh add s t 1 st = some o) : Dyn.BlockSound Try.prog w0 1 (.loop (unloopD (blkD Try.f49.body 1))) st o := by
  simp only [apLp, Option.some.injEq] at h
  subst h
  refine side_one fun hS => ?_
  refine leaf_fits (s1 := apS s t (s.l.n : Nat) (fil (apR s.l t) apZ1 s.l.n)) (fold_block (fuel := 3) (tabAp_ok ih) mo (lp := apLp g sh add s t) (by rw [ap_b1]; exact lpOk_cons (fun s o h => by cases h) (lpOk_cons (ap_inner ih sh add s hl t w0) (lpOk_cons (fun s o h => by cases h) lpOk_nil))) (fun i (_ : Unit) => apS s t i (fil (apR s.l t) apZ1 i)) s.l.n (fun _ _ => ()) () (keepCR 134 [0, 1, 2, 3, 4] [] [(4, 8)] apK0 [] []) (keepCR_ent 134 _ _ _ _ _ _) (fun i _ => apBo s t i) (fun i _ => ap_Bo Pd g sh add s t i) (fun i hi => ?_) ?_ (hS ▸ keepC_ent 134 _ _ _ _ _ st)) ?_
  · have hb : 0 ≤ (i : Int) ∧ (i : Int) < s.l.n := ⟨by omega, by omega⟩
    refine ⟨fun _ => ⟨⟨hb, trivial⟩, ⟨szM_ok (by decide) (hl.2 i hi), trivial⟩, ⟨rfl, hb, trivial⟩, ⟨hb, trivial⟩, rfl, ?_⟩, fun hf => ?_⟩
    · rw [Wn1 hi hl.1]
      exact ⟨rfl, Dyn.HeLe.refl _, Dyn.HeLe.refl _, Dyn.HeLe.refl _, Dyn.HeLe.refl _, Dyn.HeLe.refl _, le_upd (fun _ => rfl) rfl, trivial⟩
    · rw [decide_eq_false_iff_not] at hf; omega
  · refine ⟨fun ht => ?_, fun _ => ⟨rfl, Dyn.Fits.refl _⟩⟩
    rw [decide_eq_true_eq] at ht; omega
  · exact ⟨rfl, Dyn.HeLe.refl _, Dyn.HeLe.refl _, Dyn.HeLe.refl _, Dyn.HeLe.refl _, Dyn.HeLe.refl _, ⟨rfl, rfl, fun j hj => fil_in rfl hj⟩, trivial⟩
theorem ap_parts {Pd : Sh → Prop} {g : Sh → Tn → Sh} (ih : ∀ x, Pd x → ∀ t, Dyn.CallD Try.prog 49 [dvS x, dvT t] (.val (dvS (g x t)))) (k : Int) (a b c : P2) (r : Int) (l : Ctr) (n : Nat) (add : Nat → Bool) (sh : Nat → Sh) (hn : n ≤ 1000000000) (hP : ∀ i, i < n → Pd (sh i)) (t : Tn) (w0 : Dyn.Base Try.prog) (st : Dyn.St) (o : Dyn.Out)
    (h : apLp g sh add (mkSh k a b c r l n add sh) t 5 st = some o) : Dyn.BlockSound Try.prog w0 5 (.loop (unloopD (blkD Try.f49.body 5))) st o := by
  simp only [apLp, Option.some.injEq] at h
  subst h
  refine side_one fun hS => ?_
  refine leaf_fits (s1 := apU (mkSh k a b c r l n add sh) t (n : Nat) (fil (apF g sh add t) apZ3 n)) (fold_block (fuel := 3) (tabAp_ok ih) mo (lp := apLp g sh add (mkSh k a b c r l n add sh) t) (by rw [ap_b5]; exact lpOk_cons (fun s o h => by cases h) lpOk_nil) (fun i (_ : Unit) => apU (mkSh k a b c r l n add sh) t i (fil (apF g sh add t) apZ3 i)) n (fun _ _ => ()) () (keepCR 134 [0, 1, 2, 3, 4] [] [(4, 9)] apK2 [] []) (keepCR_ent 134 _ _ _ _ _ _) (fun i _ => apBp Pd g sh add (mkSh k a b c r l n add sh) t i) (fun i _ => ap_Bp Pd g k a b c r l n add sh t i) (fun i hi => ?_) ?_ (hS ▸ keepC_ent 134 _ _ _ _ _ st)) ?_
  · have hb : 0 ≤ (i : Int) ∧ (i : Int) < (n : Int) := ⟨by omega, by omega⟩
    refine ⟨fun _ => ⟨⟨hb, trivial⟩, ⟨hP i hi, ctrSelf_ok _, hb, trivial⟩, rfl, ?_⟩, fun hf => ?_⟩
    · rw [Wn1 hi hn]
      exact ⟨rfl, Dyn.HeLe.refl _, Dyn.HeLe.refl _, Dyn.HeLe.refl _, Dyn.HeLe.refl _, Dyn.HeLe.refl _, le_upd (fun _ => rfl) rfl, trivial⟩
    · rw [decide_eq_false_iff_not] at hf
      exact absurd hb.2 hf
  · refine ⟨fun ht => ?_, fun _ => ⟨rfl, Dyn.Fits.refl _⟩⟩
    rw [decide_eq_true_eq] at ht
    exact absurd (show (n : Int) < (n : Int) from ht) (by omega)
  · exact ⟨rfl, Dyn.HeLe.refl _, Dyn.HeLe.refl _, Dyn.HeLe.refl _, Dyn.HeLe.refl _, Dyn.HeLe.refl _, ⟨rfl, rfl, fun j hj => fil_in rfl hj⟩, trivial⟩
def apO (g : Sh → Tn → Sh) (sh : Nat → Sh) (add : Nat → Bool) (s : Sh) (t : Tn) : Dyn.RO :=
  .ite (s.k == 1) (.leaf (rvT s.k (turnPtF s.a t) ze ze s.r nilR 0 noF))
  (.ite (bif s.k == 3 then s.k == 3 else s.k == 4) (.leaf (rvT s.k (turnPtF s.a t) (turnPtF s.b t) ze s.r nilR 0 noF))
  (.ite (s.k == 5) (.ite (t.mx != t.my) (.leaf (rvT s.k (turnPtF s.b t) (turnPtF s.a t) (turnPtF s.c t) s.r nilR 0 noF)) (.leaf (rvT s.k (turnPtF s.a t) (turnPtF s.b t) (turnPtF s.c t) s.r nilR 0 noF)))
  (.ite (s.k == 2) (.side [szM 24 s.l.n] (.side [apS s t 0 (fil (apR s.l t) apZ1 0) = apS s t 0 (fil (apR s.l t) apZ1 0)] (.leaf (rvT s.k ze ze ze s.r (.row s.l.n (apR s.l t)) 0 noF))))
  (.ite (s.k == 6) (.side [szM 120 s.n] (.side [apU s t 0 (fil (apF g sh add t) apZ3 0) = apU s t 0 (fil (apF g sh add t) apZ3 0)] (.leaf (rvT s.k ze ze ze s.r nilR s.n (apF g sh add t)))))
    (.leaf (rvT s.k ze ze ze s.r nilR 0 noF))))))
theorem ap_O (Pd : Sh → Prop) (g : Sh → Tn → Sh) (sh : Nat → Sh) (add : Nat → Bool) (s : Sh) (t : Tn) : (Dyn.dfun Try.prog (tabAp Pd g) (apLp g sh add s t) 3 Try.f49 [dvS s, dvT t]).ro Try.prog Try.f49.results = apO g sh add s t := by kernel_rfl
def applyG (g : Sh → Tn → Sh) (sh : Nat → Sh) (add : Nat → Bool) (s : Sh) (t : Tn) : Sh :=
  bif s.k == 1 then ⟨s.k, turnPtF s.a t, ze, ze, s.r, zeC, 0, noF⟩
  else bif bif s.k == 3 then s.k == 3 else s.k == 4 then ⟨s.k, turnPtF s.a t, turnPtF s.b t, ze, s.r, zeC, 0, noF⟩
  else bif s.k == 5 then ⟨s.k, bif t.mx != t.my then turnPtF s.b t else turnPtF s.a t, bif t.mx != t.my then turnPtF s.a t else turnPtF s.b t, turnPtF s.c t, s.r, zeC, 0, noF⟩
  else bif s.k == 2 then ⟨s.k, ze, ze, ze, s.r, turnC s.l t, 0, noF⟩
  else bif s.k == 6 then ⟨s.k, ze, ze, ze, s.r, zeC, s.n, apF g sh add t⟩
  else ⟨s.k, ze, ze, ze, s.r, zeC, 0, noF⟩
theorem ap_sat (g : Sh → Tn → Sh) (sh : Nat → Sh) (add : Nat → Bool) (s : Sh) (hl : CtrB s.l) (hn : s.n ≤ 1000000000) (t : Tn) : (apO g sh add s t).sat fun r => Dyn.RVLe r (.val (dvS (applyG g sh add s t))) := by
  unfold applyG
  refine ⟨fun h => ?_, fun h => ⟨fun h2 => ?_, fun h2 => ⟨fun h3 => ⟨fun h4 => ?_, fun h4 => ?_⟩, fun h3 => ⟨fun h4 => ⟨⟨szM_ok (by decide) hl.1, trivial⟩, ⟨rfl, trivial⟩, ?_⟩, fun h4 => ⟨fun h5 => ⟨⟨szM_ok (by decide) hn, trivial⟩, ⟨rfl, trivial⟩, ?_⟩, fun h5 => ?_⟩⟩⟩⟩⟩
  · rw [h]; exact rvT_le rfl rfl rfl rfl rfl nilR_le rfl fun _ _ => rfl
  · rw [h, h2]; exact rvT_le rfl rfl rfl rfl rfl nilR_le rfl fun _ _ => rfl
  · rw [h, h2, h3, h4]; exact rvT_le rfl rfl rfl rfl rfl nilR_le rfl fun _ _ => rfl
  · rw [h, h2, h3, h4]; exact rvT_le rfl rfl rfl rfl rfl nilR_le rfl fun _ _ => rfl
  · rw [h, h2, h3, h4]; exact rvT_le rfl rfl rfl rfl rfl (Dyn.DCLe.refl _) rfl fun _ _ => rfl
  · rw [h, h2, h3, h4, h5]; exact rvT_le rfl rfl rfl rfl rfl nilR_le rfl fun _ _ => rfl
  · rw [h, h2, h3, h4, h5]; exact rvT_le rfl rfl rfl rfl rfl nilR_le rfl fun _ _ => rfl
theorem apply_lvl {Pd : Sh → Prop} {g : Sh → Tn → Sh} (ih : ∀ x, Pd x → ∀ t, Dyn.CallD Try.prog 49 [dvS x, dvT t] (.val (dvS (g x t)))) (k : Int) (a b c : P2) (r : Int) (l : Ctr) (n : Nat) (add : Nat → Bool) (sh : Nat → Sh) (hl : CtrB l) (hn : n ≤ 1000000000) (hP : ∀ i, i < n → Pd (sh i)) (t : Tn) :
    Dyn.CallD Try.prog 49 [dvS (mkSh k a b c r l n add sh), dvT t] (.val (dvS (applyG g sh add (mkSh k a b c r l n add sh) t))) :=
  Dyn.dcontract (lp := apLp g sh add (mkSh k a b c r l n add sh) t) (fuel := 3) (tabAp_ok ih) mo Try.func49 (by kernel_rfl) (c := bodyD Try.f49.body) (by kernel_rfl)
    (fun w0 => by
      rw [ap_blocks]
      exact lpOk_cons (fun s o h => by cases h) (lpOk_cons (ap_outer ih sh add _ hl t w0) (lpOk_cons (fun s o h => by cases h) (lpOk_cons (ap_inner ih sh add _ hl t w0) (lpOk_cons (fun s o h => by cases h) (lpOk_cons (ap_parts ih k a b c r l n add sh hn hP t w0) (lpOk_cons (fun s o h => by cases h) lpOk_nil)))))))
    (by kernel_rfl) (ap_O Pd g sh add _ t) (ap_sat g sh add (mkSh k a b c r l n add sh) hl hn t)
/-- a shape turned -/
def turnS : Shp → Tn → Shp
  | .nil, _ => .nil
  | .mk k a b c r l n add sub, t =>
    bif k == 1 then leafS k (turnPtF a t) ze ze r zeC
    else bif bif k == 3 then k == 3 else k == 4 then leafS k (turnPtF a t) (turnPtF b t) ze r zeC
    else bif k == 5 then leafS k (bif t.mx != t.my then turnPtF b t else turnPtF a t) (bif t.mx != t.my then turnPtF a t else turnPtF b t) (turnPtF c t) r zeC
    else bif k == 2 then leafS k ze ze ze r (turnC l t)
    else bif k == 6 then .mk k ze ze ze r zeC n add (fun i => turnS (sub i) t)
    else leafS k ze ze ze r zeC
noncomputable def turnE (x : Sh) (t : Tn) : Sh := toSh (turnS (ofSh x) t)
theorem turnE_eq (s : Shp) (t : Tn) : turnE (toSh s) t = toSh (turnS s t) := by unfold turnE; rw [ofSh_toSh]
theorem ap_pick {K : Int} (D1 D2 D3 D4 D5 D6 : Sh) (E1 E2 E3 E4 E5 E6 : Shp) (h1 : Dyn.DVLe (dvS D1) (dvS (toSh E1))) (h2 : Dyn.DVLe (dvS D2) (dvS (toSh E2))) (h3 : Dyn.DVLe (dvS D3) (dvS (toSh E3))) (h4 : Dyn.DVLe (dvS D4) (dvS (toSh E4))) (h5 : Dyn.DVLe (dvS D5) (dvS (toSh E5))) (h6 : Dyn.DVLe (dvS D6) (dvS (toSh E6))) :
    Dyn.DVLe (dvS (bif K == 1 then D1 else bif bif K == 3 then K == 3 else K == 4 then D2 else bif K == 5 then D3 else bif K == 2 then D4 else bif K == 6 then D5 else D6)) (dvS (toSh (bif K == 1 then E1 else bif bif K == 3 then K == 3 else K == 4 then E2 else bif K == 5 then E3 else bif K == 2 then E4 else bif K == 6 then E5 else E6))) := by
  cases K == 1
  · cases (bif K == 3 then K == 3 else K == 4)
    · cases K == 5
      · cases K == 2
        · cases K == 6
          · exact h6
          · exact h5
        · exact h4
      · exact h3
    · exact h2
  · exact h1
theorem turnS_lvl (k : Int) (a b c : P2) (r : Int) (l : Ctr) (n : Nat) (add : Nat → Bool) (sub : Nat → Shp) (t : Tn) :
    Dyn.DVLe (dvS (applyG turnE (fun i => toSh (sub i)) add (mkSh k a b c r l n add (fun i => toSh (sub i))) t)) (dvS (toSh (turnS (.mk k a b c r l n add sub) t))) := by
  refine ap_pick (K := k) _ _ _ _ _ _ _ _ _ _ _ _ (dvS_leaf _ _ _ _ _ _) (dvS_leaf _ _ _ _ _ _) (dvS_leaf _ _ _ _ _ _) (dvS_leaf _ _ _ _ _ _) ?_ (dvS_leaf _ _ _ _ _ _)
  refine ⟨rfl, rfl, rfl, rfl, rfl, rfl, rfl, rfl, Dyn.DCLe.refl _, ⟨rfl, fun i hi => ?_⟩, trivial⟩
  show partC (add i) (turnE (toSh (sub i)) t) = partC (add i) (toSh (turnS (sub i) t))
  rw [turnE_eq]
theorem turnE_ok : ∀ s : Shp, ShB s → ∀ t, Dyn.CallD Try.prog 49 [dvS (toSh s), dvT t] (.val (dvS (turnE (toSh s) t))) := by
  intro s
  induction s with
  | nil => intro h; exact h.elim
  | mk k a b c r l n add sub ih =>
    intro h t
    rw [turnE_eq]
    refine CallD_rle (r := .val (dvS (applyG turnE (fun i => toSh (sub i)) add (mkSh k a b c r l n add (fun i => toSh (sub i))) t))) (turnS_lvl k a b c r l n add sub t) ?_
    exact apply_lvl (Pd := fun x => ∃ i, i < n ∧ x = toSh (sub i)) (fun x hx => by
      obtain ⟨i, hi, rfl⟩ := hx
      exact ih i (h.2.2 i hi)) k a b c r l n add (fun i => toSh (sub i)) h.1 h.2.1 (fun i hi => ⟨i, hi, rfl⟩) t
theorem apply_all : ∀ x, PdS x → ∀ t, Dyn.CallD Try.prog 49 [dvS x, dvT t] (.val (dvS (turnE x t))) := fun x hx t => by
  have k := turnE_ok _ hx.1 t
  rw [show turnE (toSh (ofSh x)) t = turnE x t by unfold turnE; rw [ofSh_toSh]] at k
  exact CallD_le (args := dvS (toSh (ofSh x)) :: [dvT t]) ⟨SLe.dv hx.2, Dyn.DVLe.refl _, trivial⟩ k
end Go.Proofs.Ytfooaikpcbnchaa

/-! ## Tub -/
namespace Go.Proofs.Ytfooaikpcbnchaa
open Go Go.RowKit Sym
set_option maxRecDepth 100000

theorem CtrB_turnC {l : Ctr} (h : CtrB l) (t : Tn) : CtrB (turnC l t) := h
theorem CtrB_ze : CtrB zeC := ⟨by decide, fun i hi => absurd hi (Nat.not_lt_zero i)⟩
theorem leaf_B (k : Int) (a b c : P2) (r : Int) {l : Ctr} (h : CtrB l) : ShB (leafS k a b c r l) := ⟨h, by decide, fun i hi => absurd hi (Nat.not_lt_zero i)⟩
theorem pick6_B {K : Int} {E1 E2 E3 E4 E5 E6 : Shp} (h1 : ShB E1) (h2 : ShB E2) (h3 : ShB E3) (h4 : ShB E4) (h5 : ShB E5) (h6 : ShB E6) : ShB (bif K == 1 then E1 else bif bif K == 3 then K == 3 else K == 4 then E2 else bif K == 5 then E3 else bif K == 2 then E4 else bif K == 6 then E5 else E6) := by
  cases K == 1
  · cases (bif K == 3 then K == 3 else K == 4)
    · cases K == 5
      · cases K == 2
        · cases K == 6
          · exact h6
          · exact h5
        · exact h4
      · exact h3
    · exact h2
  · exact h1
theorem turnS_B : ∀ s : Shp, ShB s → ∀ t, ShB (turnS s t) := by
  intro s
  induction s with
  | nil => intro h; exact h.elim
  | mk k a b c r l n add sub ih =>
    intro h t
    exact pick6_B (leaf_B _ _ _ _ _ CtrB_ze) (leaf_B _ _ _ _ _ CtrB_ze) (leaf_B _ _ _ _ _ CtrB_ze) (leaf_B _ _ _ _ _ (CtrB_turnC h.1 t)) ⟨CtrB_ze, h.2.1, fun i hi => ih i (h.2.2 i hi) t⟩ (leaf_B _ _ _ _ _ CtrB_ze)
theorem turnE_PdS {x : Sh} (h : PdS x) (t : Tn) : PdS (turnE x t) := by
  exact PdS_mk (turnS_B _ h.1 t)
theorem ShB_W : ∀ s : Shp, ShB s → ShW s := by
  intro s
  induction s with
  | nil => intro h; exact h.elim
  | mk k a b c r l n add sub ih => intro h i hi; exact ih i (h.2.2 i hi)
theorem PdS_W {x : Sh} (h : PdS x) : PdW x := ⟨ShB_W _ h.1, h.2⟩
/-- no shape -/
def noS : Shp := leafS 0 ze ze ze 0 zeC
noncomputable def moveE (x : Sh) (t : Tn) : Sh := bif okE x then bif okE (turnE x t) then turnE x t else toSh noS else toSh noS
noncomputable def movesE (x : Sh) (t : Tn) : Bool := bif okE x then okE (turnE x t) else false
theorem moveE_PdS {x : Sh} (h : PdS x) (t : Tn) : PdS (moveE x t) := by
  have hz : PdS (toSh noS) := PdS_mk (leaf_B _ _ _ _ _ CtrB_ze)
  unfold moveE
  cases okE x
  · exact hz
  · cases okE (turnE x t)
    · exact hz
    · exact turnE_PdS h t
noncomputable def tdAp : List Dyn.EntryD := [(48, en1D (qAnd qS PdS) fun x => rB (okE x)), (49, en2D (qAnd qS PdS) qT fun x t => .val (dvS (turnE x t)))]
def drAp (K : Nat) : Bool := Nat.beq K 49
noncomputable def tabAq : Dyn.Tabs := Dyn.tabs tbF tdAp drAp dtyS
theorem tabAq_ok : Dyn.TabsOk Try.prog tabAq := Dyn.tabs_ok tbF_ok (List.forall_mem_cons.2 ⟨en1D_ok (qAnd_ok qS_ok) fun x h => figOk_ok x h.1, List.forall_mem_cons.2 ⟨en2D_ok (qAnd_ok qS_ok) qT_ok fun x t h _ => apply_all x h.1 t, fun _ h => by cases h⟩⟩)
def zeroRV : Dyn.RV := .tup [.agg [cI 0, cI 0, cI 0, cI 0, cI 0, cI 0, cI 0, cI 0, nilR, nilR], dvB false]
noncomputable def apqO (x : Sh) (t : Tn) : Dyn.RO :=
  .side [PdS x, ctrSelf x.l] (.ite (!(okE x)) (.leaf zeroRV)
    (.side [PdS x, ctrSelf x.l] (.side [PdS (turnE x t), ctrSelf (turnE x t).l] (.ite (!(okE (turnE x t))) (.leaf zeroRV) (.leaf (.tup [dvS (turnE x t), dvB true]))))))
theorem apq_O (x : Sh) (t : Tn) : (Dyn.dfun Try.prog tabAq Dyn.noLp 3 Try.f20 [dvS x, dvT t]).ro Try.prog Try.f20.results = apqO x t := by kernel_rfl
theorem zero_le : Dyn.RVLe zeroRV (.tup [dvS (toSh noS), dvB false]) := ⟨⟨rfl, rfl, rfl, rfl, rfl, rfl, rfl, rfl, nilR_le, ⟨rfl, fun i hi => absurd hi (Nat.not_lt_zero _)⟩, trivial⟩, rfl, trivial⟩
theorem move_ok (x : Sh) (h : PdS x) (t : Tn) : Dyn.CallD Try.prog 20 [dvS x, dvT t] (.tup [dvS (moveE x t), dvB (movesE x t)]) :=
  Dyn.dcontract (lp := Dyn.noLp) (fuel := 3) tabAq_ok mo Try.func20 (by kernel_rfl) (c := bodyD Try.f20.body) (by kernel_rfl) (fun w0 => Dyn.noLp_ok _ w0) (by kernel_rfl) (apq_O x t) (by
    unfold moveE movesE
    refine ⟨⟨h, ctrSelf_ok _, trivial⟩, fun h1 => ?_, fun h1 => ⟨⟨h, ctrSelf_ok _, trivial⟩, ⟨turnE_PdS h t, ctrSelf_ok _, trivial⟩, fun h2 => ?_, fun h2 => ?_⟩⟩
    · rw [show okE x = false by simpa using h1]; exact zero_le
    · rw [show okE x = true by simpa using h1, show okE (turnE x t) = false by simpa using h2]; exact zero_le
    · rw [show okE x = true by simpa using h1, show okE (turnE x t) = true by simpa using h2]; exact ⟨Dyn.DVLe.refl _, rfl, trivial⟩)
/-- a turn that does not move far -/
def tameT (t : Tn) (n : Int) : Tn := ⟨t.mx, t.my, t.q, lClose t.u n⟩
theorem tameT_ok (t : Tn) (n : Int) (hn : W (n + 1) ≠ 0) : CallOk Try.prog 16 [tn t, vi n] (tn (tameT t n)) := fnOkS (fuel := 16) (tbOf_ok tbF_ok) mo Try.func16 (by kernel_rfl) (by kernel_rfl) (by kernel_rfl) (show _ = [W (n + 1) ≠ 0] by kernel_rfl) ⟨hn, trivial⟩
end Go.Proofs.Ytfooaikpcbnchaa

/-! ## Roe -/
namespace Go.Proofs.Ytfooaikpcbnchaa
open Go Go.ChangeShapes Go.WideShapes Go.ChangeAt Go.RowKit Go.Joins Go.Deep
set_option maxRecDepth 100000

section
variable {H : Type} {enc : TypeId × Value → H} {P : Program} {w : World} {base : Nat} {spare : Nat → Bool} {held : Bool}
theorem ctr_den {fuel : Nat} {x : DataW H × List MemPlace} {t e2 e : TypeId} {f0 f1 : Field} {v : Value} (ht : P.underlying t = some (.slice e2)) (hc2 : P.cellsOf e2 = 1) (ht2 : P.underlying e2 = some (.slice e)) (he : P.underlying e = some (.struct #[f0, f1]))
    (ce : P.cellsOf e = 2) (o0 : f0.offset = 0) (o1 : f1.offset = 1) (c0 : P.cellsOf f0.type = 1) (c1 : P.cellsOf f1.type = 1) (k0 : P.underlying f0.type = some (.int .i64)) (k1 : P.underlying f1.type = some (.int .i64))
    (hf : DataW.trod enc P w base spare held fuel t [v] = some x) : ∃ l : Ctr, Dyn.DenC w (fun b => b < w.heap.size) (cCtr l) v := by
  rcases open_slice1 ht hc2 hf with ⟨h, _⟩ | ⟨a', len', cap', m, n, V, D, Pl, h, hb, hl, hcap, hm, hx, hall⟩
  · simp only [List.cons.injEq, and_true] at h
    rw [h]
    exact ⟨⟨0, fun _ => 0, fun _ _ => ⟨0, 0⟩⟩, .nil _ none 0⟩
  · simp only [List.cons.injEq, and_true] at h
    rw [h]
    have hlm : len' ≤ m := by rw [hm]; split <;> omega
    by_cases hz : len' = 0
    · subst hz
      exact ⟨⟨0, fun _ => 0, fun _ _ => ⟨0, 0⟩⟩, .nil _ (some a') cap'⟩
    · have h0 := (hall 0 (by omega)).1
      obtain ⟨hlt, hsp⟩ := addr_cell h0
      have hsp := hsp rfl
      obtain ⟨b, off, sp⟩ := a'
      dsimp only at hsp
      subst hsp
      simp only [addr_add] at hall hlt
      haveI : Inhabited (Nat × (Nat → P2)) := ⟨0, fun _ => ⟨0, 0⟩⟩
      obtain ⟨g, hg⟩ := choose_lt (α := Nat × (Nat → P2)) (n := len') (p := fun i q => Dyn.DenC w (fun b => b < w.heap.size) (cRow q.1 q.2) (V i)) (fun i hi => by
        obtain ⟨q, p, hq⟩ := row_P ht2 he ce o0 o1 c0 c1 k0 k1 (hall i (by omega)).2
        exact ⟨(q, p), hq⟩)
      refine ⟨⟨len', fun i => (g i).1, fun i => (g i).2⟩, .row len' _ b off cap' 1 (fun i _ => V i) hlt (fun i hi => ⟨rfl, fun j hj => ?_⟩) (fun i j hi hj => ?_)⟩
      · obtain rfl : j = 0 := by omega
        rw [Nat.mul_one, Nat.add_zero]; exact (hall i (by omega)).1
      · obtain rfl : j = 0 := by omega
        exact hg i hi
theorem pt_den {F : Nat → Prop} {fuel : Nat} {x : DataW H × List MemPlace} {t : TypeId} {f0 f1 : Field} {u v : Value} (ht : P.underlying t = some (.struct #[f0, f1])) (o0 : f0.offset = 0) (o1 : f1.offset = 1) (c0 : P.cellsOf f0.type = 1) (c1 : P.cellsOf f1.type = 1) (k0 : P.underlying f0.type = some (.int .i64)) (k1 : P.underlying f1.type = some (.int .i64))
    (hf : DataW.trod enc P w base spare held fuel t [u, v] = some x) : ∃ p : P2, u = vi p.x ∧ v = vi p.y ∧ Dyn.DenC w F (cI p.x) u ∧ Dyn.DenC w F (cI p.y) v := by
  obtain ⟨y0, y1, n, _, _, h0, h1⟩ := trod_struct2 ht hf
  rw [o0, c0] at h0
  rw [o1, c1] at h1
  obtain ⟨x0, e0, _⟩ := DataW.trod_int k0 h0
  obtain ⟨x1, e1, _⟩ := DataW.trod_int k1 h1
  simp only [List.drop_zero, List.take_succ_cons, List.take_zero, List.cons.injEq, and_true, List.drop_succ_cons] at e0 e1
  subst e0; subst e1
  exact ⟨⟨x0, x1⟩, rfl, rfl, .p _ rfl, .p _ rfl⟩
theorem DenL_get {F : Nat → Prop} : ∀ {ds : List Dyn.DC} {us : List Value} {j : Nat}, Dyn.DenL w F ds us → j < us.length → Dyn.DenC w F (ds.getD j default) (us.getD j default)
  | [], [], _, _, h => absurd h (Nat.not_lt_zero _)
  | d :: ds, u :: us, 0, h, _ => h.1
  | d :: ds, u :: us, j + 1, h, hj => DenL_get (ds := ds) (us := us) (j := j) h.2 (Nat.lt_of_succ_lt_succ hj)
/-- what the types of a shape are -/
structure ShT (P : Program) (tS tK tP tR tL tL1 tQ tE tB tI : TypeId) : Prop where
  s : ∃ f0 f1 f2 f3 f4 f5 f6 : Field, P.underlying tS = some (.struct #[f0, f1, f2, f3, f4, f5, f6]) ∧ (f0.type = tK ∧ f1.type = tP ∧ f2.type = tP ∧ f3.type = tP ∧ f4.type = tR ∧ f5.type = tL ∧ f6.type = tQ) ∧ f0.offset = 0 ∧ f1.offset = 1 ∧ f2.offset = 3 ∧ f3.offset = 5 ∧ f4.offset = 7 ∧ f5.offset = 8 ∧ f6.offset = 9
  sc : P.cellsOf tS = 10
  kc : P.cellsOf tK = 1
  pc : P.cellsOf tP = 2
  rc : P.cellsOf tR = 1
  lc : P.cellsOf tL = 1
  qc : P.cellsOf tQ = 1
  k : P.underlying tK = some (.int .i64)
  r : P.underlying tR = some (.int .i64)
  p : ∃ g0 g1 : Field, P.underlying tP = some (.struct #[g0, g1]) ∧ g0.offset = 0 ∧ g1.offset = 1 ∧ g0.type = tI ∧ g1.type = tI
  ic : P.cellsOf tI = 1
  i : P.underlying tI = some (.int .i64)
  l : P.underlying tL = some (.slice tL1)
  l1c : P.cellsOf tL1 = 1
  l1 : P.underlying tL1 = some (.slice tP)
  q : P.underlying tQ = some (.slice tE)
  ec : P.cellsOf tE = 11
  e : ∃ h0 h1 : Field, P.underlying tE = some (.struct #[h0, h1]) ∧ h0.offset = 0 ∧ h1.offset = 1 ∧ h0.type = tB ∧ h1.type = tS
  bc : P.cellsOf tB = 1
  b : P.underlying tB = some .bool
theorem shape_den {tS tK tP tR tL tL1 tQ tE tB tI : TypeId} (T : ShT P tS tK tP tR tL tL1 tQ tE tB tI) : ∀ (fuel : Nat) (cs : List Value) (x : DataW H × List MemPlace), DataW.trod enc P w base spare held fuel tS cs = some x →
    ∃ s : Shp, ShW s ∧ Dyn.DenL w (fun b => b < w.heap.size) (cS (toSh s)) cs := by
  intro fuel
  induction fuel using Nat.strongRecOn with
  | _ fuel ih =>
    intro cs x hx
    obtain ⟨f0, f1, f2, f3, f4, f5, f6, hs, ⟨t0, t1, t2, t3, t4, t5, t6⟩, o0, o1, o2, o3, o4, o5, o6⟩ := T.s
    obtain ⟨g0, g1, hp, p0, p1, q0, q1⟩ := T.p
    obtain ⟨h0, h1, he, a0, a1, b0, b1⟩ := T.e
    obtain ⟨xs, n, rfl, _, hl, hlen, hf⟩ := DataW.trod_struct hs hx
    rw [T.sc] at hl
    obtain ⟨v0, v1, v2, v3, v4, v5, v6, v7, v8, v9, rfl⟩ : ∃ v0 v1 v2 v3 v4 v5 v6 v7 v8 v9 : Value, cs = [v0, v1, v2, v3, v4, v5, v6, v7, v8, v9] := by
      match cs, hl with
      | [v0, v1, v2, v3, v4, v5, v6, v7, v8, v9], _ => exact ⟨v0, v1, v2, v3, v4, v5, v6, v7, v8, v9, rfl⟩
    have hxl : xs.length = 7 := hlen
    have get : ∀ i, i < 7 → ∃ y, xs[i]? = some y := fun i hi => ⟨xs[i], List.getElem?_eq_getElem (by omega)⟩
    obtain ⟨y0, e0⟩ := get 0 (by decide)
    obtain ⟨y1, e1⟩ := get 1 (by decide)
    obtain ⟨y2, e2⟩ := get 2 (by decide)
    obtain ⟨y3, e3⟩ := get 3 (by decide)
    obtain ⟨y4, e4⟩ := get 4 (by decide)
    obtain ⟨y5, e5⟩ := get 5 (by decide)
    obtain ⟨y6, e6⟩ := get 6 (by decide)
    have k0 := hf 0 f0 rfl
    have k1 := hf 1 f1 rfl
    have k2 := hf 2 f2 rfl
    have k3 := hf 3 f3 rfl
    have k4 := hf 4 f4 rfl
    have k5 := hf 5 f5 rfl
    have k6 := hf 6 f6 rfl
    rw [e0, t0, o0, T.kc] at k0
    rw [e1, t1, o1, T.pc] at k1
    rw [e2, t2, o2, T.pc] at k2
    rw [e3, t3, o3, T.pc] at k3
    rw [e4, t4, o4, T.rc] at k4
    rw [e5, t5, o5, T.lc] at k5
    rw [e6, t6, o6, T.qc] at k6
    simp only [List.drop_zero, List.take_succ_cons, List.take_zero, List.drop_succ_cons] at k0 k1 k2 k3 k4 k5 k6
    obtain ⟨z0, r0, _⟩ := DataW.trod_int T.k k0
    obtain ⟨z4, r4, _⟩ := DataW.trod_int T.r k4
    simp only [List.cons.injEq, and_true] at r0 r4
    subst r0; subst r4
    obtain ⟨pa, _, _, a1', a2'⟩ := pt_den (F := fun b => b < w.heap.size) hp p0 p1 (by rw [q0]; exact T.ic) (by rw [q1]; exact T.ic) (by rw [q0]; exact T.i) (by rw [q1]; exact T.i) k1
    obtain ⟨pb, _, _, b1', b2'⟩ := pt_den (F := fun b => b < w.heap.size) hp p0 p1 (by rw [q0]; exact T.ic) (by rw [q1]; exact T.ic) (by rw [q0]; exact T.i) (by rw [q1]; exact T.i) k2
    obtain ⟨pc, _, _, c1', c2'⟩ := pt_den (F := fun b => b < w.heap.size) hp p0 p1 (by rw [q0]; exact T.ic) (by rw [q1]; exact T.ic) (by rw [q0]; exact T.i) (by rw [q1]; exact T.i) k3
    obtain ⟨l, hL⟩ := ctr_den T.l T.l1c T.l1 hp T.pc p0 p1 (by rw [q0]; exact T.ic) (by rw [q1]; exact T.ic) (by rw [q0]; exact T.i) (by rw [q1]; exact T.i) k5
    have parts : ∃ (m : Nat) (add : Nat → Bool) (sub : Nat → Shp), (∀ i, i < m → ShW (sub i)) ∧ Dyn.DenC w (fun b => b < w.heap.size) (.row m fun i => partC (add i) (toSh (sub i))) v9 := by
      rcases DataW.trod_slice T.q k6 with ⟨hv, _⟩ | ⟨a, len, cap, elems, rest, m, rfl, hv, _, hb, _, _, hel, hall, _⟩
      · simp only [List.cons.injEq, and_true] at hv
        subst hv
        exact ⟨0, fun _ => false, fun _ => .nil, fun i hi => absurd hi (Nat.not_lt_zero i), .nil _ none 0⟩
      · simp only [List.cons.injEq, and_true] at hv
        subst hv
        have part : ∀ i, i < len → ∃ q : (Bool × Shp) × (Nat → Value), ShW q.1.2 ∧ (∀ j, j < 11 → w.cell? ((a.add (i * 11)).add j) = some (q.2 j)) ∧ (∀ j, j < 11 → Dyn.DenC w (fun b => b < w.heap.size) ((partC q.1.1 (toSh q.1.2)).getD j default) (q.2 j)) := fun i hi => by
          have key := hall i hi
          rw [T.ec, List.getElem?_eq_getElem (by omega)] at key
          obtain ⟨cs', h1', h2'⟩ := Option.bind_eq_some_iff.1 key
          obtain ⟨_, hlen', hcell⟩ := World.cells?_some h1'
          obtain ⟨ys, n', rfl, _, _, hyl, hfy⟩ := DataW.trod_struct he h2'
          have hyl : ys.length = 2 := hyl
          have m0 := hfy 0 h0 rfl
          have m1 := hfy 1 h1 rfl
          rw [List.getElem?_eq_getElem (by omega), b0, a0, T.bc] at m0
          rw [List.getElem?_eq_getElem (by omega), b1, a1, T.sc] at m1
          obtain ⟨c, cs'', rfl⟩ : ∃ c cs'', cs' = c :: cs'' := by
            match cs', hlen' with
            | c :: cs'', _ => exact ⟨c, cs'', rfl⟩
          simp only [List.drop_zero, List.take_succ_cons, List.take_zero, List.drop_succ_cons] at m0 m1
          rw [List.take_of_length_le (by simp only [List.length_cons] at hlen'; omega)] at m1
          obtain ⟨q, hq, _⟩ := DataW.trod_bool T.b m0
          simp only [List.cons.injEq, and_true] at hq
          subst hq
          obtain ⟨s', hW', hD'⟩ := ih n' (by omega) _ _ m1
          refine ⟨((q, s'), fun j => ((.bool q : Value) :: cs'').getD j default), hW', fun j hj => ?_, fun j hj => ?_⟩
          · rw [hcell j hj]
            show _ = some ((Value.bool q :: cs'').getD j default)
            rw [List.getD_eq_getElem?_getD, List.getElem?_eq_getElem (by omega)]; rfl
          · exact DenL_get (ds := partC q (toSh s')) (us := .bool q :: cs'') ⟨.p _ rfl, hD'⟩ (by omega)
        by_cases hz : len = 0
        · subst hz
          exact ⟨0, fun _ => false, fun _ => .nil, fun i hi => absurd hi (Nat.not_lt_zero i), .nil _ (some a) cap⟩
        · haveI : Inhabited ((Bool × Shp) × (Nat → Value)) := ⟨((false, .nil), fun _ => default)⟩
          obtain ⟨g, hg⟩ := choose_lt part
          have z0 := (hg 0 (by omega)).2.1 0 (by decide)
          have za : (a.add (0 * 11)).add 0 = a.add 0 := rfl
          rw [za] at z0
          obtain ⟨hlt, hsp⟩ := addr_cell z0
          have hsp := hsp rfl
          obtain ⟨b, off, sp⟩ := a
          dsimp only at hsp
          subst hsp
          simp only [addr_add] at hg hlt
          exact ⟨len, fun i => (g i).1.1, fun i => (g i).1.2, fun i hi => (hg i hi).1, .row len _ b off cap 11 (fun i j => (g i).2 j) hlt (fun i hi => ⟨rfl, fun j hj => (hg i hi).2.1 j hj⟩) (fun i j hi hj => (hg i hi).2.2 j hj)⟩
    obtain ⟨m, add, sub, hW, hQ⟩ := parts
    exact ⟨.mk z0 pa pb pc z4 l m add sub, hW, .p _ rfl, a1', a2', b1', b2', c1', c2', .p _ rfl, hL, hQ, trivial⟩
theorem open_S {tS tK tP tR tL tL1 tQ tE tB tI : TypeId} (T : ShT P tS tK tP tR tL tL1 tQ tE tB tI) {r : Reach} {b0 : Nat} {v : Value} {d : DataW H} {ps : List MemPlace} (hval : Value.okWide P w r b0 tS v) (hd : DataW.Trod enc P w base spare held tS v d ps) :
    ∃ s : Shp, ShW s ∧ Dyn.DenV w (fun b => b < w.heap.size) (dvS (toSh s)) v := by
  obtain ⟨f0, f1, f2, f3, f4, f5, f6, hs, _⟩ := T.s
  obtain ⟨cs, rfl, _⟩ := okWide_struct hs hval
  obtain ⟨fuel, hf⟩ := hd
  obtain ⟨s, h1, h2⟩ := shape_den T fuel _ _ hf
  exact ⟨s, h1, ⟨cs, rfl, h2⟩⟩
/-- a turn -/
theorem open_T {tT : TypeId} {f0 f1 f2 f3 g0 g1 : Field} (hs : P.underlying tT = some (.struct #[f0, f1, f2, f3])) (hC : P.cellsOf tT = 5) (ho : f0.offset = 0 ∧ f1.offset = 1 ∧ f2.offset = 2 ∧ f3.offset = 3) (hc : P.cellsOf f0.type = 1 ∧ P.cellsOf f1.type = 1 ∧ P.cellsOf f2.type = 1 ∧ P.cellsOf f3.type = 2)
    (u0 : P.underlying f0.type = some .bool) (u1 : P.underlying f1.type = some .bool) (u2 : P.underlying f2.type = some (.int .i64)) (hp : P.underlying f3.type = some (.struct #[g0, g1])) (p0 : g0.offset = 0) (p1 : g1.offset = 1) (c0 : P.cellsOf g0.type = 1) (c1 : P.cellsOf g1.type = 1)
    (k0 : P.underlying g0.type = some (.int .i64)) (k1 : P.underlying g1.type = some (.int .i64)) {r : Reach} {b0 : Nat} {v : Value} {d : DataW H} {ps : List MemPlace} (hval : Value.okWide P w r b0 tT v) (hd : DataW.Trod enc P w base spare held tT v d ps) : ∃ t : Tn, v = tn t := by
  obtain ⟨cs, rfl, hsz⟩ := okWide_struct hs hval
  obtain ⟨fuel, hf⟩ := hd
  obtain ⟨y0, y1, y2, y3, n, _, _, h0, h1, h2, h3⟩ := trod_struct4 hs hf
  rw [hC] at hsz
  obtain ⟨l⟩ := cs
  obtain ⟨v0, v1, v2, v3, v4, rfl⟩ : ∃ v0 v1 v2 v3 v4 : Value, l = [v0, v1, v2, v3, v4] := by
    match l, hsz with
    | [v0, v1, v2, v3, v4], _ => exact ⟨v0, v1, v2, v3, v4, rfl⟩
  simp only [Value.cells] at h0 h1 h2 h3
  rw [ho.1, hc.1] at h0
  rw [ho.2.1, hc.2.1] at h1
  rw [ho.2.2.1, hc.2.2.1] at h2
  rw [ho.2.2.2, hc.2.2.2] at h3
  simp only [List.drop_zero, List.take_succ_cons, List.take_zero, List.drop_succ_cons] at h0 h1 h2 h3
  obtain ⟨q0, e0, _⟩ := DataW.trod_bool u0 h0
  obtain ⟨q1, e1, _⟩ := DataW.trod_bool u1 h1
  obtain ⟨q2, e2, _⟩ := DataW.trod_int u2 h2
  obtain ⟨p, r1, r2, _, _⟩ := pt_den (F := fun _ => True) hp p0 p1 c0 c1 k0 k1 h3
  simp only [List.cons.injEq, and_true] at e0 e1 e2
  subst e0; subst e1; subst e2; subst r1; subst r2
  exact ⟨⟨q0, q1, q2, p⟩, rfl⟩
end
theorem den_T (t : Tn) (w : World) (F : Nat → Prop) : Dyn.DenV w F (dvT t) (tn t) := ⟨_, rfl, .p _ rfl, .p _ rfl, .p _ rfl, .p _ rfl, .p _ rfl, trivial⟩
theorem shT : ShT Try.prog 29 3 23 2 26 78 27 45 4 2 where
  s := ⟨_, _, _, _, _, _, _, Try.underlying29, ⟨rfl, rfl, rfl, rfl, rfl, rfl, rfl⟩, rfl, rfl, rfl, rfl, rfl, rfl, rfl⟩
  sc := by kernel_rfl
  kc := by kernel_rfl
  pc := by kernel_rfl
  rc := by kernel_rfl
  lc := by kernel_rfl
  qc := by kernel_rfl
  k := Try.underlying3
  r := Try.underlying2
  p := ⟨_, _, Try.underlying23, rfl, rfl, rfl, rfl⟩
  ic := by kernel_rfl
  i := Try.underlying2
  l := Try.underlying26
  l1c := by kernel_rfl
  l1 := Try.underlying78
  q := Try.underlying27
  ec := by kernel_rfl
  e := ⟨_, _, Try.underlying45, rfl, rfl, rfl, rfl⟩
  bc := by kernel_rfl
  b := Try.underlying4
end Go.Proofs.Ytfooaikpcbnchaa

/-! ## Fin -/
namespace Go.Proofs.Ytfooaikpcbnchaa
open Go Go.RowKit Sym
set_option maxRecDepth 100000

/-! ### fine shapes -/
def FinC (P : P2 → Prop) (l : Ctr) : Prop := l.n ≤ 4 ∧ ∀ i, i < l.n → l.m i ≤ 12 ∧ ∀ k, k < l.m i → P (l.p i k)
def Fine (P : P2 → Prop) : Shp → Int → Prop
  | .nil, _ => False
  | .mk k a b c r l n _ sub, d =>
    (k = 1 ∧ b = ze ∧ c = ze ∧ l = zeC ∧ n = 0 ∧ P a ∧ widF r = true) ∨
    (k = 3 ∧ c = ze ∧ l = zeC ∧ n = 0 ∧ P a ∧ P b ∧ widF r = true) ∨
    (k = 4 ∧ c = ze ∧ l = zeC ∧ n = 0 ∧ P a ∧ P b ∧ widF r = true ∧ a ≠ b) ∨
    (k = 5 ∧ l = zeC ∧ n = 0 ∧ P a ∧ P b ∧ P c ∧ widF r = true ∧ okI c a b) ∨
    (k = 2 ∧ a = ze ∧ b = ze ∧ c = ze ∧ r = 0 ∧ n = 0 ∧ FinC P l) ∨
    (k = 6 ∧ a = ze ∧ b = ze ∧ c = ze ∧ r = 0 ∧ l = zeC ∧ d ≤ 5 ∧ ((n : Int) ≤ 4 - d ∨ n ≤ 1) ∧ ∀ i, i < n → Fine P (sub i) (d + 1))
/-- how many shapes there are at most, from depth d on -/
def Nd (d : Int) : Int := if d ≥ 6 then 1 else if d = 5 then 2 else if d = 4 then 3 else if d = 3 then 4 else if d = 2 then 9 else if d = 1 then 28 else 113
theorem Nd_one (d : Int) : 1 ≤ Nd d ∧ Nd d ≤ 113 := by unfold Nd; repeat' split <;> first | omega | (constructor <;> omega)
theorem Nd_step {d m : Int} (h0 : 0 ≤ d) (h5 : d ≤ 5) (h1 : 0 ≤ m) (h2 : m ≤ 4 - d ∨ m ≤ 1) : 1 + m * Nd (d + 1) ≤ Nd d := by
  have : d = 0 ∨ d = 1 ∨ d = 2 ∨ d = 3 ∨ d = 4 ∨ d = 5 := by omega
  rcases this with rfl | rfl | rfl | rfl | rfl | rfl
  · rw [show Nd (0 + 1) = 28 by decide, show Nd 0 = 113 by decide]; omega
  · rw [show Nd (1 + 1) = 9 by decide, show Nd 1 = 28 by decide]; omega
  · rw [show Nd (2 + 1) = 4 by decide, show Nd 2 = 9 by decide]; omega
  · rw [show Nd (3 + 1) = 3 by decide, show Nd 3 = 4 by decide]; omega
  · rw [show Nd (4 + 1) = 2 by decide, show Nd 4 = 3 by decide]; omega
  · rw [show Nd (5 + 1) = 1 by decide, show Nd 5 = 2 by decide]; omega
theorem runN_inv {α : Type} {g : Nat → α → Bool × α} (I : Nat → α → Prop) {a : α} (h0 : I 0 a) : ∀ n, (∀ i x, i < n → I i x → (g i x).1 = true ∧ I (i + 1) (g i x).2) → (runN g a n).1 = true ∧ I n (runN g a n).2
  | 0, _ => ⟨rfl, h0⟩
  | n + 1, h => by
    have k := runN_inv I h0 n (fun i x hi => h i x (by omega))
    have e : runN g a n = (true, (runN g a n).2) := Prod.ext k.1 rfl
    rw [runN_go e]
    exact h n _ (by omega) k.2
theorem ctg_fine {P : P2 → Prop} (hP : ∀ p, P p → nearF p = true) {l : Ctr} (h : FinC P l) : contoursF l = true := by
  unfold contoursF
  refine (runN_inv (fun i (left : Int) => 1000 - 12 * (i : Int) ≤ left ∧ left ≤ 1000) ⟨by omega, by omega⟩ l.n (fun i x hi hx => ?_)).1
  have hm := h.2 i hi
  have hn := h.1
  unfold ctgO
  rw [decide_eq_false (show ¬ (l.m i : Int) > x by omega)]
  refine ⟨?_, ?_⟩
  · show (runN (ctgI l i) () (l.m i)).1 = true
    exact (runN_inv (fun _ _ => True) trivial (l.m i) (fun k _ hk _ => ⟨hP _ (hm.2 k hk), trivial⟩)).1
  · show 1000 - 12 * ((i + 1 : Nat) : Int) ≤ W (x - l.m i) ∧ W (x - l.m i) ≤ 1000
    rw [W_id (by omega) (by omega)]; omega
theorem near_PR {p : P2} (h : nearF p = true) : PR p := by
  unfold nearF at h
  rw [andB_eq, andB_eq, andB_eq, Bool.and_eq_true, Bool.and_eq_true, Bool.and_eq_true, decide_eq_true_eq, decide_eq_true_eq, decide_eq_true_eq, decide_eq_true_eq] at h
  exact ⟨⟨by omega, by omega⟩, ⟨by omega, by omega⟩⟩
theorem eqP_iff {a b : P2} : (bif a.x == b.x then bif a.y == b.y then true else false else false) = true ↔ a = b := by
  obtain ⟨x, y⟩ := a
  obtain ⟨x', y'⟩ := b
  by_cases h : x = x'
  · by_cases k : y = y'
    · subst h; subst k; simp
    · simp [h, k]
  · simp [h]
theorem bare_1 (a : P2) (r : Int) (add : Nat → Bool) (sub : Nat → Shp) : bareF (toSh (.mk 1 a ze ze r zeC 0 add sub)) = true := by kernel_rfl
theorem bare_3 (a b : P2) (r : Int) (add : Nat → Bool) (sub : Nat → Shp) : bareF (toSh (.mk 3 a b ze r zeC 0 add sub)) = true := by kernel_rfl
theorem bare_4 (a b : P2) (r : Int) (add : Nat → Bool) (sub : Nat → Shp) : bareF (toSh (.mk 4 a b ze r zeC 0 add sub)) = true := by kernel_rfl
theorem bare_5 (a b c : P2) (r : Int) (add : Nat → Bool) (sub : Nat → Shp) : bareF (toSh (.mk 5 a b c r zeC 0 add sub)) = true := by kernel_rfl
theorem bare_2 (l : Ctr) (add : Nat → Bool) (sub : Nat → Shp) : bareF (toSh (.mk 2 ze ze ze 0 l 0 add sub)) = true := by kernel_rfl
theorem bare_6 (n : Nat) (add : Nat → Bool) (sub : Nat → Shp) : bareF (toSh (.mk 6 ze ze ze 0 zeC n add sub)) = true := by kernel_rfl
theorem fine_valid {P : P2 → Prop} (hP : ∀ p, P p → nearF p = true) : ∀ (s : Shp) (d forms left : Int), Fine P s d → 0 ≤ d → 0 ≤ forms → forms ≤ d → Nd d ≤ left → left ≤ 1000 →
    (validF s forms left).1 = true ∧ left - Nd d ≤ (validF s forms left).2 ∧ (validF s forms left).2 ≤ left := by
  intro s
  induction s with
  | nil => intro d forms left h; exact h.elim
  | mk k a b c r l n add sub ih =>
    intro d forms left h h0 hf hfd hl h1
    have nd := Nd_one d
    have nn := Nd_one (d + 1)
    have e1 : decide (left < 1) = false := decide_eq_false (by omega)
    have e2 : W (left - 1) = left - 1 := W_id (by omega) (by omega)
    have fin : ∀ v : Bool × Int, v = (true, left - 1) → v.1 = true ∧ left - Nd d ≤ v.2 ∧ v.2 ≤ left := fun v hv => by subst hv; exact ⟨rfl, by dsimp only; omega, by dsimp only; omega⟩
    rcases h with ⟨rfl, rfl, rfl, rfl, rfl, ha, hr⟩ | ⟨rfl, rfl, rfl, rfl, ha, hb, hr⟩ | ⟨rfl, rfl, rfl, rfl, ha, hb, hr, hn⟩ | ⟨rfl, rfl, rfl, ha, hb, hc, hr, ho⟩ | ⟨rfl, rfl, rfl, rfl, rfl, rfl, hc⟩ | ⟨rfl, rfl, rfl, rfl, rfl, rfl, h5, hm, hs⟩
    · refine fin _ ?_
      simp only [validF]
      rw [e1, bare_1, e2, hP a ha, hr]; rfl
    · refine fin _ ?_
      simp only [validF]
      rw [e1, bare_3, e2, hP a ha, hP b hb, hr]; rfl
    · refine fin _ ?_
      simp only [validF]
      rw [e1, bare_4, e2, hP a ha, hP b hb, hr, show (bif a.x == b.x then bif a.y == b.y then true else false else false) = false by rw [Bool.eq_false_iff]; exact fun q => hn (eqP_iff.1 q)]; rfl
    · refine fin _ ?_
      simp only [validF]
      rw [e1, bare_5, e2, hP a ha, hP b hb, hP c hc, hr, (ringOk_eq (near_PR (hP c hc)) (near_PR (hP a ha)) (near_PR (hP b hb))).2 ho]; rfl
    · refine fin _ ?_
      simp only [validF]
      rw [e1, bare_2, e2, ctg_fine hP hc]; rfl
    · have st := Nd_step h0 h5 (show 0 ≤ (n : Int) by omega) (by omega)
      have key := runN_inv (g := fun i lf => validF (sub i) (W (forms + 1)) lf) (a := left - 1) (fun i (lf : Int) => left - 1 - (i : Int) * Nd (d + 1) ≤ lf ∧ lf ≤ left - 1) ⟨by omega, by omega⟩ n (fun i x hi hx => by
        have a1 : ((i + 1 : Nat) : Int) * Nd (d + 1) ≤ (n : Int) * Nd (d + 1) := Int.mul_le_mul_of_nonneg_right (by omega) (by omega)
        have a2 : ((i + 1 : Nat) : Int) * Nd (d + 1) = (i : Int) * Nd (d + 1) + Nd (d + 1) := by rw [show ((i + 1 : Nat) : Int) = (i : Int) + 1 by omega, Int.add_mul, Int.one_mul]
        have w : W (forms + 1) = forms + 1 := W_id (by omega) (by omega)
        have q := ih i (d + 1) (forms + 1) x (hs i hi) (by omega) (by omega) (by omega) (by omega) (by omega)
        rw [w]
        refine ⟨q.1, ?_, ?_⟩
        · omega
        · omega)
      have ev : validF (.mk 6 ze ze ze 0 zeC n add sub) forms left = runN (fun i lf => validF (sub i) (W (forms + 1)) lf) (left - 1) n := by
        simp only [validF]
        rw [e1, bare_6, e2, decide_eq_false (show ¬ forms ≥ 8 by omega)]; rfl
      rw [ev]
      exact ⟨key.1, by omega, by omega⟩
theorem fine_ok {P : P2 → Prop} (hP : ∀ p, P p → nearF p = true) {s : Shp} (h : Fine P s 0) : okE (toSh s) = true := by
  unfold okE
  rw [vE_eq]
  exact (fine_valid hP s 0 0 1000 h (by decide) (by decide) (by decide) (by decide) (by decide)).1
end Go.Proofs.Ytfooaikpcbnchaa

/-! ## Fio -/
namespace Go.Proofs.Ytfooaikpcbnchaa
open Go Go.RowKit Sym
set_option maxRecDepth 100000

/-- no farther out than B -/
def PB (B : Int) (p : P2) : Prop := (-B ≤ p.x ∧ p.x ≤ B) ∧ (-B ≤ p.y ∧ p.y ≤ B)
theorem PB_near {B : Int} (h : B ≤ 536870912) {p : P2} (k : PB B p) : nearF p = true := by
  unfold nearF
  rw [decide_eq_true (show p.x ≥ -536870912 by have := k.1; omega), decide_eq_true (show p.x ≤ 536870912 by have := k.1; omega), decide_eq_true (show p.y ≥ -536870912 by have := k.2; omega), decide_eq_true (show p.y ≤ 536870912 by have := k.2; omega)]
  rfl
/-- how far out a tame shape goes -/
def tmX (sm : Bool) : Int := bif sm then 40 else 536870912
theorem at_PB (p : P2) (sm : Bool) : PB (tmX sm) (atP p sm) := by
  cases sm
  · exact lPt_r p
  · have h := lClose_r p (n := 20) (by decide) (by decide)
    exact ⟨⟨by show (-40 : Int) ≤ (lClose p 20).x; omega, by show (lClose p 20).x ≤ (40 : Int); omega⟩, ⟨by show (-40 : Int) ≤ (lClose p 20).y; omega, by show (lClose p 20).y ≤ (40 : Int); omega⟩⟩
theorem at_PB0 (p : P2) (sm : Bool) : (-536870912 ≤ (atP p sm).x ∧ (atP p sm).x ≤ 536870912) := by
  have h := at_PB p sm
  cases sm
  · exact h.1
  · have := h.1; unfold tmX at this; simp only [cond_true] at this; omega
theorem tmB_ok (s : Sh) (sm : Bool) : PB (tmX sm) (tmB s sm) ∧ atP s.a sm ≠ tmB s sm := by
  have hb := at_PB s.b sm
  have h0 := at_PB0 s.b sm
  have hx : 40 ≤ tmX sm := by cases sm <;> decide
  unfold tmB
  cases e : eqP (atP s.a sm) (atP s.b sm)
  · refine ⟨hb, fun q => ?_⟩
    rw [Bool.eq_false_iff] at e
    exact e (eqP_iff.2 q)
  · have ea : atP s.a sm = atP s.b sm := eqP_iff.1 e
    cases g : decide ((atP s.b sm).x > 0)
    · rw [decide_eq_false_iff_not] at g
      have w : W ((atP s.b sm).x + 1) = (atP s.b sm).x + 1 := W_id (by omega) (by omega)
      refine ⟨⟨⟨by show _ ≤ W ((atP s.b sm).x + 1); rw [w]; have := hb.1; omega, by show W ((atP s.b sm).x + 1) ≤ _; rw [w]; omega⟩, hb.2⟩, fun q => ?_⟩
      have : (atP s.a sm).x = W ((atP s.b sm).x + 1) := congrArg P2.x q
      rw [ea, w] at this; omega
    · rw [decide_eq_true_eq] at g
      have w : W ((atP s.b sm).x - 1) = (atP s.b sm).x - 1 := W_id (by omega) (by omega)
      refine ⟨⟨⟨by show _ ≤ W ((atP s.b sm).x - 1); rw [w]; omega, by show W ((atP s.b sm).x - 1) ≤ _; rw [w]; have := hb.1; omega⟩, hb.2⟩, fun q => ?_⟩
      have : (atP s.a sm).x = W ((atP s.b sm).x - 1) := congrArg P2.x q
      rw [ea, w] at this; omega
theorem tmR_ok (s : Sh) (sm : Bool) : widF (tmR s sm) = true := by
  have h := lR_bd s.r
  unfold widF
  cases sm
  · show andB (decide (lR s.r ≥ 1)) (decide (lR s.r ≤ 536870912)) = true
    rw [decide_eq_true (show lR s.r ≥ 1 by omega), decide_eq_true h.2]; rfl
  · have h1 := Int.tmod_nonneg (a := lR s.r) 15 (by omega)
    have h2 := (tmod_bd (lR s.r) (n := 15) (by decide)).2
    show andB (decide (W ((lR s.r).tmod 15 + 1) ≥ 1)) (decide (W ((lR s.r).tmod 15 + 1) ≤ 536870912)) = true
    rw [W_id (by omega) (by omega), decide_eq_true (show (lR s.r).tmod 15 + 1 ≥ 1 by omega), decide_eq_true (show (lR s.r).tmod 15 + 1 ≤ 536870912 by omega)]; rfl
theorem arcC_PB (c : P2) (sm : Bool) : PB (tmX sm) (arcC c sm) := by
  cases sm
  · have h := arcC_r c false
    exact ⟨⟨by show (-536870912 : Int) ≤ _; omega, by show _ ≤ (536870912 : Int); omega⟩, ⟨by show (-536870912 : Int) ≤ _; omega, by show _ ≤ (536870912 : Int); omega⟩⟩
  · have h := arcC_s c
    exact ⟨⟨by show (-40 : Int) ≤ _; omega, by show _ ≤ (40 : Int); omega⟩, ⟨by show (-40 : Int) ≤ _; omega, by show _ ≤ (40 : Int); omega⟩⟩
theorem arcAt_PB (c : P2) (f s : Int) (sm : Bool) : PB (tmX sm) (arcAt c f s sm) := by
  rw [arcAt_eq]
  have h := circ_ok f
  cases sm
  · have hc := arcC_r c false
    have kk := arcK_bd s false
    have x := mul_bd (A := 20000000) (B := 5) (x := arcK s false) (y := (circ f).x) (by omega) (by omega) h.x.1 h.x.2
    have y := mul_bd (A := 20000000) (B := 5) (x := arcK s false) (y := (circ f).y) (by omega) (by omega) h.y.1 h.y.2
    exact ⟨⟨by show (-536870912 : Int) ≤ (arcC c false).x + _; omega, by show (arcC c false).x + _ ≤ (536870912 : Int); omega⟩, ⟨by show (-536870912 : Int) ≤ (arcC c false).y + _; omega, by show (arcC c false).y + _ ≤ (536870912 : Int); omega⟩⟩
  · have hc := arcC_s c
    have kk := arcK1_bd s
    have x := mul_bd (A := 4) (B := 5) (x := arcK1 s) (y := (circ f).x) (by omega) (by omega) h.x.1 h.x.2
    have y := mul_bd (A := 4) (B := 5) (x := arcK1 s) (y := (circ f).y) (by omega) (by omega) h.y.1 h.y.2
    exact ⟨⟨by show (-40 : Int) ≤ (arcC c true).x + arcK1 s * (circ f).x; omega, by show (arcC c true).x + arcK1 s * (circ f).x ≤ (40 : Int); omega⟩, ⟨by show (-40 : Int) ≤ (arcC c true).y + arcK1 s * (circ f).y; omega, by show (arcC c true).y + arcK1 s * (circ f).y ≤ (40 : Int); omega⟩⟩
theorem arc_okJ (c : P2) (f t s : Int) (sm : Bool) : okI (arcC c sm) (arcAt c f s sm) (arcAt c t s sm) := by
  have kk := arcK_bd s sm
  have a := (onC_r (arcC_r c sm) kk (circ_ok f)).2
  have b := (onC_r (arcC_r c sm) kk (circ_ok t)).2
  rw [arcAt_eq, arcAt_eq]
  have p : 1 ≤ arcK s sm * arcK s sm := Int.le_trans (show (1 : Int) ≤ 1 * 1 by decide) (Int.mul_le_mul kk.1 kk.1 (by decide) (by omega))
  exact ⟨by rw [a]; omega, by rw [a, b]⟩
theorem tameC_Fin (l : Ctr) (sm : Bool) : FinC (PB (tmX sm)) (tameC l sm) := by
  refine ⟨by show min l.n 4 ≤ 4; omega, fun i _ => ⟨by show min (l.m i) 12 ≤ 12; omega, fun k _ => ?_⟩⟩
  cases sm
  · exact lPt_r (l.p i k)
  · have h := lClose_r (lPt (l.p i k)) (n := 20) (by decide) (by decide)
    exact ⟨⟨by show (-40 : Int) ≤ (lClose (lPt (l.p i k)) 20).x; omega, by show (lClose (lPt (l.p i k)) 20).x ≤ (40 : Int); omega⟩, ⟨by show (-40 : Int) ≤ (lClose (lPt (l.p i k)) 20).y; omega, by show (lClose (lPt (l.p i k)) 20).y ≤ (40 : Int); omega⟩⟩
theorem tmK0_bd (s : Sh) : 1 ≤ tmK0 s ∧ tmK0 s ≤ 6 := by
  have a := tmod_bd s.k (n := 6) (by decide)
  have w : W (s.k.tmod 6 + 6) = s.k.tmod 6 + 6 := W_id (by omega) (by omega)
  have b := Int.tmod_nonneg (a := s.k.tmod 6 + 6) 6 (by omega)
  have c := (tmod_bd (s.k.tmod 6 + 6) (n := 6) (by decide)).2
  unfold tmK0
  rw [w, W_id (by omega) (by omega)]; omega
theorem tmKk_bd (s : Sh) (d : Int) : (1 ≤ tmKk s d ∧ tmKk s d ≤ 6) ∧ (tmKk s d = 6 → d ≤ 5) := by
  have a := tmK0_bd s
  unfold tmKk
  by_cases h : d > 5
  · rw [decide_eq_true h]
    cases g : tmK0 s == 6
    · refine ⟨a, fun e => ?_⟩
      have e : tmK0 s = 6 := e
      rw [e] at g; cases g
    · exact ⟨by show (1 : Int) ≤ 1 ∧ (1 : Int) ≤ 6; omega, fun e => by cases e⟩
  · rw [decide_eq_false h]
    exact ⟨a, fun _ => by omega⟩
theorem tame_fine (sm : Bool) : ∀ (s : Shp) (d : Int), ShB s → 0 ≤ d → d ≤ 6 → Fine (PB (tmX sm)) (tameS s sm d) d := by
  intro s
  induction s with
  | nil => intro d h; exact h.elim
  | mk k a b c r l n add sub ih =>
    intro d h h0 h6
    have kk := tmKk_bd ⟨k, a, b, c, r, l, n, noF⟩ d
    have kb := tmB_ok ⟨k, a, b, c, r, l, n, noF⟩ sm
    have kr := tmR_ok ⟨k, a, b, c, r, l, n, noF⟩ sm
    simp only [tameS]
    generalize tmKk ⟨k, a, b, c, r, l, n, noF⟩ d = K at *
    have : K = 1 ∨ K = 2 ∨ K = 3 ∨ K = 4 ∨ K = 5 ∨ K = 6 := by omega
    rcases this with rfl | rfl | rfl | rfl | rfl | rfl
    · exact .inl ⟨rfl, rfl, rfl, rfl, rfl, at_PB a sm, kr⟩
    · exact .inr (.inr (.inr (.inr (.inl ⟨rfl, rfl, rfl, rfl, rfl, rfl, tameC_Fin l sm⟩))))
    · exact .inr (.inl ⟨rfl, rfl, rfl, rfl, at_PB a sm, kb.1, kr⟩)
    · exact .inr (.inr (.inl ⟨rfl, rfl, rfl, rfl, at_PB a sm, kb.1, kr, kb.2⟩))
    · exact .inr (.inr (.inr (.inl ⟨rfl, rfl, rfl, arcAt_PB _ _ _ _, arcAt_PB _ _ _ _, arcC_PB _ _, kr, arc_okJ _ _ _ _ _⟩)))
    · have h5 := kk.2 rfl
      have w : W (4 - d) = 4 - d := W_id (by omega) (by omega)
      have wd : W (d + 1) = d + 1 := W_id (by omega) (by omega)
      have hn : tmN ⟨k, a, b, c, r, l, n, noF⟩ d = min n (imax (4 - d) 1).toNat := by unfold tmN; rw [w]
      refine .inr (.inr (.inr (.inr (.inr ⟨rfl, rfl, rfl, rfl, rfl, rfl, h5, ?_, fun i hi => ?_⟩))))
      · rw [hn]; unfold imax; split <;> omega
      · rw [wd]
        exact ih i (d + 1) (h.2.2 i (by rw [hn] at hi; omega)) (by omega) (by omega)
end Go.Proofs.Ytfooaikpcbnchaa

/-! ## Fip -/
namespace Go.Proofs.Ytfooaikpcbnchaa
open Go Go.RowKit Sym
set_option maxRecDepth 100000

/-- mirrored, then turned by k quarters -/
def rt (m : Bool) (k : Int) (p : P2) : P2 :=
  ⟨bif k == 1 then -p.y else bif k == 2 then -(bif m then -p.x else p.x) else bif k == 3 then p.y else (bif m then -p.x else p.x),
   bif k == 1 then (bif m then -p.x else p.x) else bif k == 2 then -p.y else bif k == 3 then -(bif m then -p.x else p.x) else p.y⟩
def Q4 (k : Int) : Prop := k = 0 ∨ k = 1 ∨ k = 2 ∨ k = 3
theorem quF_Q4 (q : Int) : Q4 (quF q) := by have := band3 q; unfold Q4 quF; omega
theorem quF_small {z : Int} (h0 : -4 ≤ z) (h1 : z ≤ 6) : quF z = z % 4 := by
  have : z = -4 ∨ z = -3 ∨ z = -2 ∨ z = -1 ∨ z = 0 ∨ z = 1 ∨ z = 2 ∨ z = 3 ∨ z = 4 ∨ z = 5 ∨ z = 6 := by omega
  rcases this with rfl | rfl | rfl | rfl | rfl | rfl | rfl | rfl | rfl | rfl | rfl <;> decide +kernel
theorem plQ_Q4 (t : Tn) : Q4 (plQ t) := quF_Q4 _
theorem rt_PB {B : Int} (m : Bool) (k : Int) {p : P2} (h : PB B p) : PB B (rt m k p) := by
  obtain ⟨⟨h1, h2⟩, h3, h4⟩ := h
  unfold rt PB
  dsimp only
  cases m <;> cases k == 1 <;> cases k == 2 <;> cases k == 3 <;> simp only [cond_true, cond_false] <;> omega
theorem P2.ext' {p q : P2} (h : p.x = q.x) (k : p.y = q.y) : p = q := by cases p; cases q; cases h; cases k; rfl
theorem turnPt_rt {p : P2} {t : Tn} (h : PB 1000000000000 p) (hu : PB 1000000000000 t.u) : turnPtF p t = ⟨(rt (plX t) (plQ t) p).x + t.u.x, (rt (plX t) (plQ t) p).y + t.u.y⟩ := by
  obtain ⟨mx, my, q, u⟩ := t
  obtain ⟨⟨h1, h2⟩, h3, h4⟩ := h
  obtain ⟨⟨u1, u2⟩, u3, u4⟩ := hu
  dsimp only at u1 u2 u3 u4
  have hq := quF_Q4 q
  unfold turnPtF plX plQ
  dsimp only
  generalize quF q = κ at *
  have w : ∀ z, -1000000000000 ≤ z → z ≤ 1000000000000 → W (0 - z) = -z := fun z a b => by rw [W_id (by omega) (by omega)]; omega
  have w2 : ∀ z v, -1000000000000 ≤ z → z ≤ 1000000000000 → -1000000000000 ≤ v → v ≤ 1000000000000 → W (z + v) = z + v := fun z v a b c d => W_id (by omega) (by omega)
  have w3 : ∀ z, 0 ≤ z → z ≤ 3 → W (z + 2) = z + 2 := fun z a b => W_id (by omega) (by omega)
  rcases hq with rfl | rfl | rfl | rfl <;> cases mx <;> cases my <;>
    simp only [cond_true, cond_false, w3 0 (by omega) (by omega), w3 1 (by omega) (by omega), w3 2 (by omega) (by omega), w3 3 (by omega) (by omega), quF_small (z := 0) (by omega) (by omega), quF_small (z := 1) (by omega) (by omega), quF_small (z := 2) (by omega) (by omega), quF_small (z := 3) (by omega) (by omega), quF_small (z := 0 + 2) (by omega) (by omega), quF_small (z := 1 + 2) (by omega) (by omega), quF_small (z := 2 + 2) (by omega) (by omega), quF_small (z := 3 + 2) (by omega) (by omega)] <;>
    refine P2.ext' ?_ ?_ <;> unfold rt <;> dsimp only <;> simp only [show ((0 : Int) == 1) = false from rfl, show ((0 : Int) == 2) = false from rfl, show ((0 : Int) == 3) = false from rfl, show ((1 : Int) == 1) = true from rfl, show ((2 : Int) == 1) = false from rfl, show ((2 : Int) == 2) = true from rfl, show ((3 : Int) == 1) = false from rfl, show ((3 : Int) == 2) = false from rfl, show ((3 : Int) == 3) = true from rfl, cond_true, cond_false, show (0 : Int) % 4 = 0 from rfl, show (1 : Int) % 4 = 1 from rfl, show (2 : Int) % 4 = 2 from rfl, show (3 : Int) % 4 = 3 from rfl, show ((0 + 2 : Int)) % 4 = 2 from rfl, show ((1 + 2 : Int)) % 4 = 3 from rfl, show ((2 + 2 : Int)) % 4 = 0 from rfl, show ((3 + 2 : Int)) % 4 = 1 from rfl, show (true == true) = true from rfl, show (true == false) = false from rfl, show (false == true) = false from rfl, show (false == false) = true from rfl, Bool.not_true, Bool.not_false] <;>
    repeat (first | rw [w p.x (by omega) (by omega)] | rw [w p.y (by omega) (by omega)] | rw [w (-p.x) (by omega) (by omega)] | rw [w (-p.y) (by omega) (by omega)] | rw [w2 _ _ (by omega) (by omega) (by omega) (by omega)] | omega)
theorem rt_comp (m n : Bool) {j k : Int} (hj : Q4 j) (hk : Q4 k) (p : P2) : rt (!(m == n)) (quF (W ((bif n then W (0 - j) else j) + k))) p = rt n k (rt m j p) := by
  have e : W ((bif n then W (0 - j) else j) + k) = (bif n then 0 - j else j) + k := by
    unfold Q4 at hj hk
    cases n
    · simp only [cond_false]; rw [W_id (by omega) (by omega)]
    · simp only [cond_true]; rw [W_id (x := 0 - j) (by omega) (by omega), W_id (by omega) (by omega)]
  rw [e, quF_small (by unfold Q4 at hj hk; cases n <;> simp only [cond_true, cond_false] <;> omega) (by unfold Q4 at hj hk; cases n <;> simp only [cond_true, cond_false] <;> omega)]
  rcases hj with rfl | rfl | rfl | rfl <;> rcases hk with rfl | rfl | rfl | rfl <;> cases m <;> cases n <;> refine P2.ext' ?_ ?_ <;> simp [rt]
theorem plQ_plain (m : Bool) {k : Int} (hk : Q4 k) (u : P2) : plX ⟨m, false, k, u⟩ = m ∧ plQ ⟨m, false, k, u⟩ = k := by
  unfold plX plQ
  refine ⟨by cases m <;> rfl, ?_⟩
  rcases hk with rfl | rfl | rfl | rfl <;> kernel_rfl
theorem then_pl (t u : Tn) : plX (thenF t u) = (!(plX t == plX u)) ∧ plQ (thenF t u) = quF (W ((bif plX u then W (0 - plQ t) else plQ t) + plQ u)) := by
  unfold thenF
  exact plQ_plain _ (quF_Q4 _) _
/-- one turn after the other is the one of both -/
theorem turn_then {p : P2} {t u : Tn} {B C D : Int} (hB : PB B p) (hC : PB C t.u) (hD : PB D u.u) (h : B + C + D ≤ 1000000000000) (b0 : 0 ≤ B) (c0 : 0 ≤ C) (d0 : 0 ≤ D) : turnPtF (turnPtF p t) u = turnPtF p (thenF t u) := by
  have mono : ∀ {X Y : Int} {q : P2}, PB X q → X ≤ Y → PB Y q := fun h k => ⟨⟨by have := h.1; omega, by have := h.1; omega⟩, ⟨by have := h.2; omega, by have := h.2; omega⟩⟩
  have r1 := rt_PB (plX t) (plQ t) hB
  have r2 := rt_PB (plX u) (plQ u) hC
  have e1 : turnPtF p t = ⟨(rt (plX t) (plQ t) p).x + t.u.x, (rt (plX t) (plQ t) p).y + t.u.y⟩ := turnPt_rt (mono hB (by omega)) (mono hC (by omega))
  have e2 : turnPtF t.u u = ⟨(rt (plX u) (plQ u) t.u).x + u.u.x, (rt (plX u) (plQ u) t.u).y + u.u.y⟩ := turnPt_rt (mono hC (by omega)) (mono hD (by omega))
  have b1 : PB (B + C) (turnPtF p t) := by
    rw [e1]
    obtain ⟨⟨a1, a2⟩, a3, a4⟩ := r1
    obtain ⟨⟨c1, c2⟩, c3, c4⟩ := hC
    exact ⟨⟨by dsimp only; omega, by dsimp only; omega⟩, ⟨by dsimp only; omega, by dsimp only; omega⟩⟩
  have b2 : PB (C + D) (thenF t u).u := by
    show PB (C + D) (turnPtF t.u u)
    rw [e2]
    obtain ⟨⟨a1, a2⟩, a3, a4⟩ := r2
    obtain ⟨⟨c1, c2⟩, c3, c4⟩ := hD
    exact ⟨⟨by dsimp only; omega, by dsimp only; omega⟩, ⟨by dsimp only; omega, by dsimp only; omega⟩⟩
  rw [turnPt_rt (p := turnPtF p t) (mono b1 (by omega)) (mono hD (by omega)), turnPt_rt (p := p) (t := thenF t u) (mono hB (by omega)) (mono b2 (by omega)), (then_pl t u).1, (then_pl t u).2, rt_comp _ _ (plQ_Q4 t) (plQ_Q4 u)]
  show (⟨_, _⟩ : P2) = ⟨_ + (turnPtF t.u u).x, _ + (turnPtF t.u u).y⟩
  rw [e2, e1]
  refine P2.ext' ?_ ?_
  · dsimp only
    unfold rt; dsimp only
    rcases plQ_Q4 u with h | h | h | h <;> rw [h] <;> cases plX u <;> simp <;> omega
  · dsimp only
    unfold rt; dsimp only
    rcases plQ_Q4 u with h | h | h | h <;> rw [h] <;> cases plX u <;> simp <;> omega
end Go.Proofs.Ytfooaikpcbnchaa

/-! ## Tuc -/
namespace Go.Proofs.Ytfooaikpcbnchaa
open Go Go.RowKit Sym
set_option maxRecDepth 100000

/-- a shape without rows, as a program writes it -/
def zeL : Ctr := ctrOf 0 noF
def litS (k : Int) (a b c : P2) (r : Int) : Sh := ⟨k, a, b, c, r, zeL, 0, noF⟩
theorem lit_Is : ctrIs 0 noF := fun i hi => absurd hi (Nat.not_lt_zero i)
theorem CtrB_zeL : CtrB zeL := ⟨by decide, fun i hi => absurd hi (Nat.not_lt_zero i)⟩
theorem lit_le (k : Int) (a b c : P2) (r : Int) : SLe (litS k a b c r) (toSh (leafS k a b c r zeL)) := ⟨rfl, rfl, rfl, rfl, rfl, rfl, rfl, fun i hi => absurd hi (Nat.not_lt_zero i)⟩
theorem PdS_lit (k : Int) (a b c : P2) (r : Int) : PdS (litS k a b c r) := PdS_le (leaf_B k a b c r CtrB_zeL) (lit_le k a b c r)
theorem ofSh_lit (k : Int) (a b c : P2) (r : Int) : ∃ add sub, ofSh (litS k a b c r) = .mk k a b c r zeL 0 add sub := by
  obtain ⟨add, sub, h, _⟩ := PdS_of (PdS_lit k a b c r)
  exact ⟨add, sub, h⟩
def okL (k : Int) (a b c : P2) (r : Int) (l : Ctr) : Bool := (validF (leafS k a b c r l) 0 1000).1
theorem okE_lit (k : Int) (a b c : P2) (r : Int) : okE (litS k a b c r) = okL k a b c r zeL := by
  obtain ⟨add, sub, h⟩ := ofSh_lit k a b c r
  unfold okE vE okL
  rw [h]
  rfl
theorem okE_leaf (k : Int) (a b c : P2) (r : Int) (l : Ctr) : okE (toSh (leafS k a b c r l)) = okL k a b c r l := by
  unfold okE okL
  rw [vE_eq]
theorem turn_disc (a b c : P2) (r : Int) (t : Tn) : turnE (litS 1 a b c r) t = toSh (leafS 1 (turnPtF a t) ze ze r zeC) := by
  obtain ⟨add, sub, h⟩ := ofSh_lit 1 a b c r
  unfold turnE
  rw [h]
  rfl
theorem turn_line (a b c : P2) (r : Int) (t : Tn) : turnE (litS 3 a b c r) t = toSh (leafS 3 (turnPtF a t) (turnPtF b t) ze r zeC) := by
  obtain ⟨add, sub, h⟩ := ofSh_lit 3 a b c r
  unfold turnE
  rw [h]
  rfl
def awT : Tn := ⟨true, false, 1, ⟨1, 0⟩⟩
def noT : Tn := ⟨false, false, 0, ⟨0, 0⟩⟩
def awS : Sh := litS 3 ze ⟨4, 0⟩ ze 1
theorem aw_1 : moveE awS awT = toSh (leafS 3 ⟨1, 0⟩ ⟨1, -4⟩ ze 1 zeC) ∧ movesE awS awT = true := by
  have e1 : okE awS = true := by unfold awS; rw [okE_lit]; kernel_rfl
  have e2 : turnE awS awT = toSh (leafS 3 ⟨1, 0⟩ ⟨1, -4⟩ ze 1 zeC) := by unfold awS; rw [turn_line]; kernel_rfl
  have e3 : okE (turnE awS awT) = true := by rw [e2, okE_leaf]; kernel_rfl
  unfold moveE movesE
  rw [e1, e3, e2]
  exact ⟨rfl, rfl⟩
theorem aw_2 : movesE (litS 0 ze ze ze 0) noT = false := by
  have e1 : okE (litS 0 ze ze ze 0) = false := by rw [okE_lit]; kernel_rfl
  unfold movesE
  rw [e1]; rfl
noncomputable def tdW : List Dyn.EntryD := [(20, en2D (qAnd qS PdS) qT fun x t => .tup [dvS (moveE x t), dvB (movesE x t)])]
def drW (K : Nat) : Bool := Nat.beq K 20
noncomputable def tabW : Dyn.Tabs := Dyn.tabs tbF tdW drW dtyS
theorem tabW_ok : Dyn.TabsOk Try.prog tabW := Dyn.tabs_ok tbF_ok (List.forall_mem_cons.2 ⟨en2D_ok (qAnd_ok qS_ok) qT_ok fun x t h _ => move_ok x h.1 t, fun _ h => by cases h⟩)
def eqT (x y : Tn) : Bool := bif x.mx == y.mx then bif x.my == y.my then bif x.q == y.q then bif eqP x.u y.u then true else false else false else false else false
def awV (M : Sh) (m n : Bool) : Bool :=
  bif bif bif bif bif eqP (turnPtF ⟨1, 0⟩ ⟨false, false, 1, ⟨0, 0⟩⟩) ⟨0, 1⟩ then m else false then eqP M.a ⟨1, 0⟩ else false then eqP M.b ⟨1, -4⟩ else false then !n else false then eqT (thenF ⟨false, true, 0, ⟨0, 0⟩⟩ noT) ⟨true, false, 2, ⟨0, 0⟩⟩ else false
theorem aw_O : (Dyn.dfun Try.prog tabW Dyn.noLp 3 Try.f15 []).ro Try.prog Try.f15.results = .side [PdS awS, ctrIs 0 noF] (.side [PdS (litS 0 ze ze ze 0), ctrIs 0 noF] (.leaf (rB (awV (moveE awS awT) (movesE awS awT) (movesE (litS 0 ze ze ze 0) noT))))) := by kernel_rfl
theorem awake11_ok : Dyn.CallD Try.prog 15 [] (rB true) :=
  Dyn.dcontract (lp := Dyn.noLp) (fuel := 3) tabW_ok mo Try.func15 (by kernel_rfl) (c := bodyD Try.f15.body) (by kernel_rfl) (fun w0 => Dyn.noLp_ok _ w0) (by kernel_rfl) aw_O (by
    refine ⟨⟨PdS_lit _ _ _ _ _, lit_Is, trivial⟩, ⟨PdS_lit _ _ _ _ _, lit_Is, trivial⟩, ?_⟩
    rw [aw_1.1, aw_1.2, aw_2, show awV (toSh (leafS 3 ⟨1, 0⟩ ⟨1, -4⟩ ze 1 zeC)) true false = true by kernel_rfl]
    exact ro_leaf rfl)
end Go.Proofs.Ytfooaikpcbnchaa

/-! ## Fiq -/
namespace Go.Proofs.Ytfooaikpcbnchaa
open Go Go.RowKit Sym
set_option maxRecDepth 100000

theorem PB_mono {X Y : Int} {q : P2} (h : PB X q) (k : X ≤ Y) : PB Y q := ⟨⟨by have := h.1; omega, by have := h.1; omega⟩, ⟨by have := h.2; omega, by have := h.2; omega⟩⟩
theorem PB_add {B C : Int} {m : Bool} {k : Int} {p u : P2} (h : PB B p) (g : PB C u) : PB (B + C) ⟨(rt m k p).x + u.x, (rt m k p).y + u.y⟩ := by
  obtain ⟨⟨a1, a2⟩, a3, a4⟩ := rt_PB m k h
  obtain ⟨⟨c1, c2⟩, c3, c4⟩ := g
  exact ⟨⟨by dsimp only; omega, by dsimp only; omega⟩, ⟨by dsimp only; omega, by dsimp only; omega⟩⟩
theorem turn_PB {B C : Int} {p : P2} {t : Tn} (h : PB B p) (g : PB C t.u) (b : B ≤ 1000000000000) (c : C ≤ 1000000000000) : PB (B + C) (turnPtF p t) := by
  rw [turnPt_rt (PB_mono h b) (PB_mono g c)]
  exact PB_add h g
theorem rt_inj {m : Bool} {k : Int} (hk : Q4 k) {p q : P2} (h : rt m k p = rt m k q) : p = q := by
  have hx := congrArg P2.x h
  have hy := congrArg P2.y h
  unfold rt at hx hy
  dsimp only at hx hy
  rcases hk with rfl | rfl | rfl | rfl <;> cases m <;> simp at hx hy <;> exact P2.ext' (by omega) (by omega)
theorem turn_inj {B C : Int} {p q : P2} {t : Tn} (h : PB B p) (h2 : PB B q) (g : PB C t.u) (b : B ≤ 1000000000000) (c : C ≤ 1000000000000) (e : turnPtF p t = turnPtF q t) : p = q := by
  rw [turnPt_rt (PB_mono h b) (PB_mono g c), turnPt_rt (PB_mono h2 b) (PB_mono g c)] at e
  have hx := congrArg P2.x e
  have hy := congrArg P2.y e
  dsimp only at hx hy
  exact rt_inj (m := plX t) (k := plQ t) (plQ_Q4 t) (P2.ext' (by omega) (by omega))
theorem turn_dist {B C : Int} {p q : P2} {t : Tn} (h : PB B p) (h2 : PB B q) (g : PB C t.u) (b : B ≤ 1000000000000) (c : C ≤ 1000000000000) : distI (turnPtF p t) (turnPtF q t) = distI p q := by
  rw [turnPt_rt (PB_mono h b) (PB_mono g c), turnPt_rt (PB_mono h2 b) (PB_mono g c)]
  unfold distI rt
  dsimp only
  rcases plQ_Q4 t with e | e | e | e <;> rw [e] <;> cases plX t <;> simp <;> grind
theorem turn_okI {B C : Int} {c p q : P2} {t : Tn} (hc : PB B c) (h : PB B p) (h2 : PB B q) (g : PB C t.u) (b : B ≤ 1000000000000) (c' : C ≤ 1000000000000) (k : okI c p q) : okI (turnPtF c t) (turnPtF p t) (turnPtF q t) := by
  unfold okI at *
  rw [turn_dist h hc g b c', turn_dist h2 hc g b c']; exact k
theorem okI_swap {c p q : P2} (k : okI c p q) : okI c q p := ⟨by rw [← k.2]; exact k.1, k.2.symm⟩
theorem turn_fine {B C : Int} {t : Tn} (g : PB C t.u) (b : B ≤ 1000000000000) (c' : C ≤ 1000000000000) : ∀ (s : Shp) (d : Int), Fine (PB B) s d → Fine (PB (B + C)) (turnS s t) d := by
  intro s
  induction s with
  | nil => intro d h; exact h.elim
  | mk k a b' c r l n add sub ih =>
    intro d h
    rcases h with ⟨rfl, rfl, rfl, rfl, rfl, ha, hr⟩ | ⟨rfl, rfl, rfl, rfl, ha, hb, hr⟩ | ⟨rfl, rfl, rfl, rfl, ha, hb, hr, hn⟩ | ⟨rfl, rfl, rfl, ha, hb, hc, hr, ho⟩ | ⟨rfl, rfl, rfl, rfl, rfl, rfl, hc⟩ | ⟨rfl, rfl, rfl, rfl, rfl, rfl, h5, hm, hs⟩
    · exact .inl ⟨rfl, rfl, rfl, rfl, rfl, turn_PB ha g b c', hr⟩
    · exact .inr (.inl ⟨rfl, rfl, rfl, rfl, turn_PB ha g b c', turn_PB hb g b c', hr⟩)
    · exact .inr (.inr (.inl ⟨rfl, rfl, rfl, rfl, turn_PB ha g b c', turn_PB hb g b c', hr, fun e => hn (turn_inj ha hb g b c' e)⟩))
    · refine .inr (.inr (.inr (.inl ?_)))
      show (5 : Int) = 5 ∧ zeC = zeC ∧ 0 = 0 ∧ PB (B + C) (bif t.mx != t.my then turnPtF b' t else turnPtF a t) ∧ PB (B + C) (bif t.mx != t.my then turnPtF a t else turnPtF b' t) ∧ PB (B + C) (turnPtF c t) ∧ widF r = true ∧ okI (turnPtF c t) (bif t.mx != t.my then turnPtF b' t else turnPtF a t) (bif t.mx != t.my then turnPtF a t else turnPtF b' t)
      have o := turn_okI hc ha hb g b c' ho
      cases t.mx != t.my
      · exact ⟨rfl, rfl, rfl, turn_PB ha g b c', turn_PB hb g b c', turn_PB hc g b c', hr, o⟩
      · exact ⟨rfl, rfl, rfl, turn_PB hb g b c', turn_PB ha g b c', turn_PB hc g b c', hr, okI_swap o⟩
    · exact .inr (.inr (.inr (.inr (.inl ⟨rfl, rfl, rfl, rfl, rfl, rfl, hc.1, fun i hi => ⟨(hc.2 i hi).1, fun k hk => turn_PB ((hc.2 i hi).2 k hk) g b c'⟩⟩))))
    · exact .inr (.inr (.inr (.inr (.inr ⟨rfl, rfl, rfl, rfl, rfl, rfl, h5, hm, fun i hi => ih i (d + 1) (hs i hi)⟩))))
/-! ### the same -/
theorem spt_of {l m : Ctr} (hn : l.n = m.n) (h : ∀ i, i < l.n → l.m i = m.m i ∧ ∀ k, k < l.m i → l.p i k = m.p i k) : sptF l m = true := by
  unfold sptF
  rw [show ((l.n : Int) != (m.n : Int)) = false by simp [hn]]
  refine (runN_inv (fun _ _ => True) trivial l.n (fun i x hi _ => ⟨?_, trivial⟩)).1
  have q := h i hi
  unfold spO
  rw [show ((l.m i : Int) != (m.m i : Int)) = false by simp [q.1]]
  refine (runN_inv (fun _ _ => True) trivial (l.m i) (fun k _ hk _ => ⟨?_, trivial⟩)).1
  show (!(!(eqP (l.p i k) (m.p i k)))) = true
  rw [q.2 k hk, show eqP (m.p i k) (m.p i k) = true from eqP_iff.2 rfl]; rfl
theorem same_mk {k : Int} {a b c : P2} {r : Int} {l l' : Ctr} {n : Nat} {add add' : Nat → Bool} {sub sub' : Nat → Shp} (hl : sptF l l' = true) (h : ∀ i, i < n → add i = add' i ∧ sameF (sub i) (sub' i) = true) : sameF (.mk k a b c r l n add sub) (.mk k a b c r l' n add' sub') = true := by
  have e : sqH ⟨k, a, b, c, r, l, n, noF⟩ ⟨k, a, b, c, r, l', n, noF⟩ = false := by
    unfold sqH sqH0
    dsimp only
    rw [hl, show eqP a a = true from eqP_iff.2 rfl, show eqP b b = true from eqP_iff.2 rfl, show eqP c c = true from eqP_iff.2 rfl, show (k != k) = false by simp, show (r != r) = false by simp, show ((n : Int) != (n : Int)) = false by simp]; rfl
  simp only [sameF]
  rw [e]
  refine (runN_inv (fun _ _ => True) trivial n (fun i x hi _ => ⟨?_, trivial⟩)).1
  have q := h i hi
  show (!(bif add i != add' i then true else !(sameF (sub i) (sub' i)))) = true
  rw [q.1, q.2, show (add' i != add' i) = false by simp]; rfl
theorem spt_refl (l : Ctr) : sptF l l = true := spt_of rfl fun _ _ => ⟨rfl, fun _ _ => rfl⟩
theorem same_leaf (k : Int) (a b c : P2) (r : Int) {l l' : Ctr} (hl : sptF l l' = true) (add add' : Nat → Bool) (sub sub' : Nat → Shp) : sameF (.mk k a b c r l 0 add sub) (.mk k a b c r l' 0 add' sub') = true := same_mk hl fun i hi => absurd hi (Nat.not_lt_zero i)
/-- turned by nothing -/
theorem turn_none {p : P2} (h : PB 1000000000000 p) : turnPtF p noT = p := by
  show (⟨W (p.x + 0), W (p.y + 0)⟩ : P2) = p
  obtain ⟨⟨a1, a2⟩, a3, a4⟩ := h
  rw [W_id (by omega) (by omega), W_id (by omega) (by omega)]
  exact P2.ext' (by dsimp only; omega) (by dsimp only; omega)
theorem same_none {B : Int} (b : B ≤ 1000000000000) : ∀ (s : Shp) (d : Int), Fine (PB B) s d → sameF (turnS s noT) s = true := by
  intro s
  induction s with
  | nil => intro d h; exact h.elim
  | mk k a b' c r l n add sub ih =>
    intro d h
    rcases h with ⟨rfl, rfl, rfl, rfl, rfl, ha, hr⟩ | ⟨rfl, rfl, rfl, rfl, ha, hb, hr⟩ | ⟨rfl, rfl, rfl, rfl, ha, hb, hr, hn⟩ | ⟨rfl, rfl, rfl, ha, hb, hc, hr, ho⟩ | ⟨rfl, rfl, rfl, rfl, rfl, rfl, hc⟩ | ⟨rfl, rfl, rfl, rfl, rfl, rfl, h5, hm, hs⟩
    · show sameF (leafS 1 (turnPtF a noT) ze ze r zeC) _ = true
      rw [turn_none (PB_mono ha b)]
      exact same_leaf _ _ _ _ _ (spt_refl _) _ _ _ _
    · show sameF (leafS 3 (turnPtF a noT) (turnPtF b' noT) ze r zeC) _ = true
      rw [turn_none (PB_mono ha b), turn_none (PB_mono hb b)]
      exact same_leaf _ _ _ _ _ (spt_refl _) _ _ _ _
    · show sameF (leafS 4 (turnPtF a noT) (turnPtF b' noT) ze r zeC) _ = true
      rw [turn_none (PB_mono ha b), turn_none (PB_mono hb b)]
      exact same_leaf _ _ _ _ _ (spt_refl _) _ _ _ _
    · show sameF (leafS 5 (turnPtF a noT) (turnPtF b' noT) (turnPtF c noT) r zeC) _ = true
      rw [turn_none (PB_mono ha b), turn_none (PB_mono hb b), turn_none (PB_mono hc b)]
      exact same_leaf _ _ _ _ _ (spt_refl _) _ _ _ _
    · show sameF (leafS 2 ze ze ze 0 (turnC l noT)) _ = true
      exact same_leaf (l := turnC l noT) (l' := l) _ _ _ _ _ (spt_of rfl fun i hi => ⟨rfl, fun k hk => turn_none (PB_mono ((hc.2 i hi).2 k hk) b)⟩) _ _ _ _
    · show sameF (.mk 6 ze ze ze 0 zeC n add (fun i => turnS (sub i) noT)) _ = true
      exact same_mk (spt_refl _) fun i hi => ⟨rfl, ih i (d + 1) (hs i hi)⟩
/-- one turn after the other -/
theorem same_then {B C D : Int} {t u : Tn} (gC : PB C t.u) (gD : PB D u.u) (h : B + C + D ≤ 1000000000000) (b0 : 0 ≤ B) (c0 : 0 ≤ C) (d0 : 0 ≤ D) : ∀ (s : Shp) (d : Int), Fine (PB B) s d → sameF (turnS (turnS s t) u) (turnS s (thenF t u)) = true := by
  intro s
  induction s with
  | nil => intro d h; exact h.elim
  | mk k a b' c r l n add sub ih =>
    intro d h'
    have T : ∀ {p : P2}, PB B p → turnPtF (turnPtF p t) u = turnPtF p (thenF t u) := fun hp => turn_then hp gC gD h b0 c0 d0
    rcases h' with ⟨rfl, rfl, rfl, rfl, rfl, ha, hr⟩ | ⟨rfl, rfl, rfl, rfl, ha, hb, hr⟩ | ⟨rfl, rfl, rfl, rfl, ha, hb, hr, hn⟩ | ⟨rfl, rfl, rfl, ha, hb, hc, hr, ho⟩ | ⟨rfl, rfl, rfl, rfl, rfl, rfl, hc⟩ | ⟨rfl, rfl, rfl, rfl, rfl, rfl, h5, hm, hs⟩
    · show sameF (leafS 1 (turnPtF (turnPtF a t) u) ze ze r zeC) (leafS 1 (turnPtF a (thenF t u)) ze ze r zeC) = true
      rw [T ha]
      exact same_leaf _ _ _ _ _ (spt_refl _) _ _ _ _
    · show sameF (leafS 3 (turnPtF (turnPtF a t) u) (turnPtF (turnPtF b' t) u) ze r zeC) (leafS 3 (turnPtF a (thenF t u)) (turnPtF b' (thenF t u)) ze r zeC) = true
      rw [T ha, T hb]
      exact same_leaf _ _ _ _ _ (spt_refl _) _ _ _ _
    · show sameF (leafS 4 (turnPtF (turnPtF a t) u) (turnPtF (turnPtF b' t) u) ze r zeC) (leafS 4 (turnPtF a (thenF t u)) (turnPtF b' (thenF t u)) ze r zeC) = true
      rw [T ha, T hb]
      exact same_leaf _ _ _ _ _ (spt_refl _) _ _ _ _
    · show sameF (leafS 5 (bif u.mx != u.my then turnPtF (bif t.mx != t.my then turnPtF a t else turnPtF b' t) u else turnPtF (bif t.mx != t.my then turnPtF b' t else turnPtF a t) u) (bif u.mx != u.my then turnPtF (bif t.mx != t.my then turnPtF b' t else turnPtF a t) u else turnPtF (bif t.mx != t.my then turnPtF a t else turnPtF b' t) u) (turnPtF (turnPtF c t) u) r zeC)
        (leafS 5 (bif (!(plX t == plX u)) != false then turnPtF b' (thenF t u) else turnPtF a (thenF t u)) (bif (!(plX t == plX u)) != false then turnPtF a (thenF t u) else turnPtF b' (thenF t u)) (turnPtF c (thenF t u)) r zeC) = true
      rw [← T ha, ← T hb, ← T hc]
      unfold plX
      have e : ∀ x y : Bool, (x != y) = !(x == y) := fun x y => rfl
      rw [e t.mx, e u.mx]
      cases t.mx == t.my <;> cases u.mx == u.my <;> exact same_leaf _ _ _ _ _ (spt_refl _) _ _ _ _
    · show sameF (leafS 2 ze ze ze 0 (turnC (turnC l t) u)) (leafS 2 ze ze ze 0 (turnC l (thenF t u))) = true
      exact same_leaf (l := turnC (turnC l t) u) (l' := turnC l (thenF t u)) _ _ _ _ _ (spt_of rfl fun i hi => ⟨rfl, fun k hk => T ((hc.2 i hi).2 k hk)⟩) _ _ _ _
    · show sameF (.mk 6 ze ze ze 0 zeC n add (fun i => turnS (turnS (sub i) t) u)) (.mk 6 ze ze ze 0 zeC n add (fun i => turnS (sub i) (thenF t u))) = true
      exact same_mk (spt_refl _) fun i hi => ⟨rfl, ih i (d + 1) (hs i hi)⟩
/-! ### moved -/
theorem fine_B {P : P2 → Prop} : ∀ (s : Shp) (d : Int), Fine P s d → 0 ≤ d → ShB s := by
  intro s
  induction s with
  | nil => intro d h; exact h.elim
  | mk k a b' c r l n add sub ih =>
    intro d h h0
    have z : ∀ i, i < 0 → ShB (sub i) := fun i hi => absurd hi (Nat.not_lt_zero i)
    rcases h with ⟨rfl, rfl, rfl, rfl, rfl, ha, hr⟩ | ⟨rfl, rfl, rfl, rfl, ha, hb, hr⟩ | ⟨rfl, rfl, rfl, rfl, ha, hb, hr, hn⟩ | ⟨rfl, rfl, rfl, ha, hb, hc, hr, ho⟩ | ⟨rfl, rfl, rfl, rfl, rfl, rfl, hc⟩ | ⟨rfl, rfl, rfl, rfl, rfl, rfl, h5, hm, hs⟩
    · exact ⟨CtrB_ze, by decide, z⟩
    · exact ⟨CtrB_ze, by decide, z⟩
    · exact ⟨CtrB_ze, by decide, z⟩
    · exact ⟨CtrB_ze, by decide, z⟩
    · exact ⟨⟨by have := hc.1; omega, fun i hi => by have := (hc.2 i hi).1; omega⟩, by decide, z⟩
    · exact ⟨CtrB_ze, by omega, fun i hi => ih i (d + 1) (hs i hi) (by omega)⟩
theorem move_fine {B C : Int} {s : Shp} {t : Tn} (h : Fine (PB B) s 0) (g : PB C t.u) (b : B ≤ 536870912) (c : B + C ≤ 536870912) (c' : C ≤ 1000000000000) : movesE (toSh s) t = true ∧ moveE (toSh s) t = toSh (turnS s t) ∧ Fine (PB (B + C)) (turnS s t) 0 := by
  have f := turn_fine g (by omega) c' s 0 h
  have e1 : okE (toSh s) = true := fine_ok (fun p hp => PB_near b hp) h
  have e2 : okE (turnE (toSh s) t) = true := by rw [turnE_eq]; exact fine_ok (fun p hp => PB_near c hp) f
  refine ⟨?_, ?_, f⟩
  · unfold movesE; rw [e1, e2]; rfl
  · unfold moveE; rw [e1, e2, turnE_eq]; rfl
theorem same_toSh (s t : Shp) : sameE (toSh s) (toSh t) = sameF s t := by unfold sameE; rw [ofSh_toSh, ofSh_toSh]
theorem tameT_PB (t : Tn) {n : Int} (h0 : 0 ≤ n) (h1 : n ≤ 9223372036854775806) : PB n (tameT t n).u := lClose_r t.u h0 h1
theorem eqT_refl (t : Tn) : eqT t t = true := by
  unfold eqT
  rw [show eqP t.u t.u = true from eqP_iff.2 rfl]
  simp
theorem qn (y : Bool) {j k : Int} (hj : Q4 j) (hk : Q4 k) : quF (W ((bif y then W (0 - j) else j) + k)) = ((bif y then -j else j) + k) % 4 := by
  have e : W ((bif y then W (0 - j) else j) + k) = (bif y then -j else j) + k := by
    unfold Q4 at hj hk
    cases y
    · simp only [cond_false]; rw [W_id (by omega) (by omega)]
    · simp only [cond_true]; rw [W_id (x := 0 - j) (by omega) (by omega), W_id (by omega) (by omega)]; omega
  rw [e, quF_small (by unfold Q4 at hj hk; cases y <;> simp only [cond_true, cond_false] <;> omega) (by unfold Q4 at hj hk; cases y <;> simp only [cond_true, cond_false] <;> omega)]
theorem then_assoc {t u v : Tn} {C : Int} (c0 : 0 ≤ C) (c1 : C ≤ 100000000000) (ht : PB C t.u) (hu : PB C u.u) (hv : PB C v.u) : thenF (thenF t u) v = thenF t (thenF u v) := by
  have a := then_pl t u
  have b := then_pl u v
  have e1 : (thenF (thenF t u) v).mx = (thenF t (thenF u v)).mx := by
    show (!(plX (thenF t u) == plX v)) = (!(plX t == plX (thenF u v)))
    rw [a.1, b.1]
    cases plX t <;> cases plX u <;> cases plX v <;> rfl
  have e2 : (thenF (thenF t u) v).q = (thenF t (thenF u v)).q := by
    show quF (W ((bif plX v then W (0 - plQ (thenF t u)) else plQ (thenF t u)) + plQ v)) = quF (W ((bif plX (thenF u v) then W (0 - plQ t) else plQ t) + plQ (thenF u v)))
    rw [qn _ (plQ_Q4 _) (plQ_Q4 _), qn _ (plQ_Q4 _) (plQ_Q4 _), a.2, b.1, b.2, qn _ (plQ_Q4 _) (plQ_Q4 _), qn _ (plQ_Q4 _) (plQ_Q4 _)]
    cases plX u <;> cases plX v <;> simp only [cond_true, cond_false, show (true == true) = true from rfl, show (true == false) = false from rfl, show (false == true) = false from rfl, show (false == false) = true from rfl, Bool.not_true, Bool.not_false] <;> omega
  have e3 : (thenF (thenF t u) v).u = (thenF t (thenF u v)).u := turn_then ht hu hv (by omega) c0 c0 c0
  revert e1 e2 e3
  show _ → _ → _ → (⟨(thenF (thenF t u) v).mx, false, (thenF (thenF t u) v).q, (thenF (thenF t u) v).u⟩ : Tn) = ⟨(thenF t (thenF u v)).mx, false, (thenF t (thenF u v)).q, (thenF t (thenF u v)).u⟩
  intro e1 e2 e3
  rw [e1, e2, e3]
theorem P2x {t u : Tn} (h1 : t.mx = u.mx) (h2 : t.my = u.my) (h3 : t.q = u.q) (h4 : t.u.x = u.u.x) (h5 : t.u.y = u.u.y) : t = u := by
  obtain ⟨a, b, c, d, e⟩ := t
  obtain ⟨a', b', c', d', e'⟩ := u
  cases h1; cases h2; cases h3; cases h4; cases h5; rfl
theorem four_none (a : Int) : thenF (thenF ⟨false, false, a, ⟨0, 0⟩⟩ ⟨false, false, a, ⟨0, 0⟩⟩) (thenF ⟨false, false, a, ⟨0, 0⟩⟩ ⟨false, false, a, ⟨0, 0⟩⟩) = noT := by
  unfold thenF plX plQ turnPtF
  dsimp only
  have h := quF_Q4 a
  generalize quF a = κ at *
  rcases h with h | h | h | h <;> subst h <;> refine P2x ?_ ?_ ?_ ?_ ?_ <;> decide +kernel
theorem twice_none (x y : Bool) : thenF ⟨x, y, 0, ⟨0, 0⟩⟩ ⟨x, y, 0, ⟨0, 0⟩⟩ = noT := by
  cases x <;> cases y <;> refine P2x ?_ ?_ ?_ ?_ ?_ <;> decide +kernel
end Go.Proofs.Ytfooaikpcbnchaa

/-! ## Tue -/
namespace Go.Proofs.Ytfooaikpcbnchaa
open Go Go.RowKit Sym
set_option maxRecDepth 100000

def tbU : List Entry := (16, en2p dT dI (fun _ n => W (n + 1) ≠ 0) (fun t n => tn (tameT t n))) :: tbF
theorem tbU_ok : ∀ e ∈ tbU, EntryOk Try.prog e := List.forall_mem_cons.2 ⟨en2p_ok dT_eq dI_eq tameT_ok, tbF_ok⟩
noncomputable def tdY : List Dyn.EntryD := [(15, en0R (rB true)), (14, en2D (qAnd qS PdW) qI fun x d => rB (smallE x d)), (18, en3D (qAnd qS PdS) qB qI fun x q d => .val (dvS (tameE x q d))), (22, en2D (qAnd qS PdS) (qAnd qS PdW) fun x y => rB (sameE x y)), (20, en2D (qAnd qS PdS) qT fun x t => .tup [dvS (moveE x t), dvB (movesE x t)])]
def drY (K : Nat) : Bool := Nat.beq K 20 || Nat.beq K 18
noncomputable def tabY : Dyn.Tabs := Dyn.tabs tbU tdY drY dtyS
theorem tabY_ok : Dyn.TabsOk Try.prog tabY := Dyn.tabs_ok tbU_ok (List.forall_mem_cons.2 ⟨en0R_ok awake11_ok, List.forall_mem_cons.2 ⟨en2D_ok (qAnd_ok qS_ok) qI_ok fun x d h _ => small_all x h.1 d, List.forall_mem_cons.2 ⟨en3D_ok (qAnd_ok qS_ok) qB_ok qI_ok fun x q d h _ _ => tame_all x h.1 q d, List.forall_mem_cons.2 ⟨en2D_ok (qAnd_ok qS_ok) (qAnd_ok qS_ok) fun x y h h2 => same_all x h.1 y h2.1, List.forall_mem_cons.2 ⟨en2D_ok (qAnd_ok qS_ok) qT_ok fun x t h _ => move_ok x h.1 t, fun _ h => by cases h⟩⟩⟩⟩⟩)
def an (a b : Bool) : Bool := bif a then b else false
def m6 : Int := 1000000
noncomputable def thC (t u v : Tn) (p : P2) (S : Sh) (k : Nat) : Bool :=
  let w := thenF t u
  let q : Tn := ⟨false, false, t.q, ⟨0, 0⟩⟩
  let m : Tn := ⟨t.mx, t.my, 0, ⟨0, 0⟩⟩
  let c4 := an (an (an (an (eqP (turnPtF (turnPtF p t) u) (turnPtF p w)) (eqT (thenF w v) (thenF t (thenF u v)))) (movesE S t)) (movesE (moveE S t) u)) (movesE S w)
  match k with
  | 4 => c4
  | _ =>
    let c6 := an (an c4 (sameE (moveE (moveE S t) u) (moveE S w))) (movesE S noT)
    match k with
    | 6 => c6
    | _ => an (an (an (an (an (an (an c6 (sameE (moveE S noT) S)) (eqT (thenF (thenF q q) (thenF q q)) noT)) (eqT (thenF m m) noT)) (!w.my)) (decide (w.q ≥ 0))) (decide (w.q ≤ 3))) true
noncomputable def thO0 (t u v : Tn) (p : P2) (s S : Sh) : Dyn.RO :=
  .side [W (1000000 + 1) ≠ 0, W (1000000 + 1) ≠ 0, W (1000000 + 1) ≠ 0, W (1000000 + 1) ≠ 0, PdS s, ctrSelf s.l]
    (.side [PdS S, ctrSelf S.l] (.side [PdS (moveE S t), ctrSelf (moveE S t).l] (.side [PdS S, ctrSelf S.l] (.side [PdS S, ctrSelf S.l]
      (.side [some (thC t u v p S 4) = some true ∧ True → allP [PdS (moveE (moveE S t) u), ctrSelf (moveE (moveE S t) u).l, PdW (moveE S (thenF t u)), ctrSelf (moveE S (thenF t u)).l],
              some (thC t u v p S 6) = some true ∧ True → allP [PdS (moveE S noT), ctrSelf (moveE S noT).l, PdW S, ctrSelf S.l]]
        (.leaf (rB (thC t u v p S 7))))))))
noncomputable def thO (t u v : Tn) (p : P2) (s : Sh) : Dyn.RO :=
  .side [PdW s, ctrSelf s.l] (.ite (!(smallE s 0)) (.leaf (rB true)) (thO0 (tameT t 1000000) (tameT u 1000000) (tameT v 1000000) (lClose p 1000000) s (tameE s true 0)))
theorem th_O (t u v : Tn) (p : P2) (s : Sh) : (Dyn.dfun Try.prog tabY Dyn.noLp 3 Try.f3 [dvT t, dvT u, dvT v, dvP p, dvS s]).ro Try.prog Try.f3.results = thO t u v p s := by kernel_rfl
theorem thC_true {t u v : Tn} {p : P2} {σ : Shp} (hp : PB 1000000 p) (ht : PB 1000000 t.u) (hu : PB 1000000 u.u) (hv : PB 1000000 v.u) (f : Fine (PB 40) σ 0) : thC t u v p (toSh σ) 7 = true := by
  have a := move_fine f ht (by decide) (by decide) (by decide)
  have b := move_fine a.2.2 hu (by decide) (by decide) (by decide)
  have w : PB 2000000 (thenF t u).u := turn_PB (B := 1000000) (C := 1000000) ht hu (by decide) (by decide)
  have c := move_fine f w (by decide) (by decide) (by decide)
  have e := move_fine (t := noT) (C := 0) f ⟨⟨by decide, by decide⟩, ⟨by decide, by decide⟩⟩ (by decide) (by decide) (by decide)
  have hq := quF_Q4 (W ((bif plX u then W (0 - plQ t) else plQ t) + plQ u))
  have q1 : decide ((thenF t u).q ≥ 0) = true := decide_eq_true (by show quF (W ((bif plX u then W (0 - plQ t) else plQ t) + plQ u)) ≥ 0; unfold Q4 at hq; omega)
  have q2 : decide ((thenF t u).q ≤ 3) = true := decide_eq_true (by show quF (W ((bif plX u then W (0 - plQ t) else plQ t) + plQ u)) ≤ 3; unfold Q4 at hq; omega)
  unfold thC
  dsimp only
  rw [turn_then hp ht hu (by decide) (by decide) (by decide) (by decide), show eqP (turnPtF p (thenF t u)) (turnPtF p (thenF t u)) = true from eqP_iff.2 rfl,
    then_assoc (C := 1000000) (by decide) (by decide) ht hu hv, eqT_refl, a.1, a.2.1, b.1, b.2.1, c.1, c.2.1, e.1, e.2.1, same_toSh, same_toSh, same_then ht hu (by decide) (by decide) (by decide) (by decide) σ 0 f,
    same_none (by decide) σ 0 f, four_none, twice_none, eqT_refl, q1, q2]
  rfl
theorem then_ok' (t u v : Tn) (p : P2) (s : Sh) (hs : PdW s) : Dyn.CallD Try.prog 3 [dvT t, dvT u, dvT v, dvP p, dvS s] (rB true) := by
  refine Dyn.dcontract (lp := Dyn.noLp) (fuel := 3) tabY_ok mo Try.func3 (by kernel_rfl) (c := bodyD Try.f3.body) (by kernel_rfl) (fun w0 => Dyn.noLp_ok _ w0) (by kernel_rfl) (th_O t u v p s) ?_
  refine ⟨⟨hs, ctrSelf_ok _, trivial⟩, fun h => ro_leaf rfl, fun h => ?_⟩
  have hB : ShB (ofSh s) := small_B _ 0 (by simpa [smallE] using h)
  have hS : PdS s := ⟨hB, hs.2⟩
  have ht := tameT_PB t (n := 1000000) (by decide) (by decide)
  have hu := tameT_PB u (n := 1000000) (by decide) (by decide)
  have hv := tameT_PB v (n := 1000000) (by decide) (by decide)
  have hp : PB 1000000 (lClose p 1000000) := lClose_r p (by decide) (by decide)
  have f : Fine (PB 40) (tameS (ofSh s) true 0) 0 := tame_fine true (ofSh s) 0 hB (by decide) (by decide)
  have pT : PdS (tameE s true 0) := PdS_mk (fine_B _ 0 f (by decide))
  unfold thO0
  refine ⟨⟨by decide, by decide, by decide, by decide, hS, ctrSelf_ok _, trivial⟩, ⟨pT, ctrSelf_ok _, trivial⟩, ⟨moveE_PdS pT _, ctrSelf_ok _, trivial⟩, ⟨pT, ctrSelf_ok _, trivial⟩, ⟨pT, ctrSelf_ok _, trivial⟩,
    ⟨fun _ => ⟨moveE_PdS (moveE_PdS pT _) _, ctrSelf_ok _, PdS_W (moveE_PdS pT _), ctrSelf_ok _, trivial⟩, fun _ => ⟨moveE_PdS pT _, ctrSelf_ok _, PdS_W pT, ctrSelf_ok _, trivial⟩, trivial⟩, ?_⟩
  rw [show tameE s true 0 = toSh (tameS (ofSh s) true 0) from rfl, thC_true hp ht hu hv f]
  exact ro_leaf rfl
theorem turnThen_ok (t u v : Tn) (p : P2) (s : Shp) (hs : ShW s) : Dyn.CallD Try.prog 3 [dvT t, dvT u, dvT v, dvP p, dvS (toSh s)] (rB true) := then_ok' t u v p (toSh s) (PdW_mk hs)
end Go.Proofs.Ytfooaikpcbnchaa

/-! ## Bou -/
namespace Go.Proofs.Ytfooaikpcbnchaa
open Go Go.RowKit Sym
set_option maxRecDepth 100000

def ruM (a : Int × Int) : Int := W ((W (a.1 + a.2)).tdiv 2)
def ruStep (v : Int) (a : Int × Int) : Int × Int := (bif decide (W (ruM a * ruM a) ≥ v) then a.1 else W (ruM a + 1), bif decide (W (ruM a * ruM a) ≥ v) then ruM a else a.2)
def ruG (v : Int) (_ : Nat) (a : Int × Int) : Int × Int := ruStep v a
def ruCnt (v : Int) : Nat → Int × Int → Nat
  | 0, _ => 0
  | f + 1, a => if a.1 < a.2 then ruCnt v f (ruStep v a) + 1 else 0
def ruA : Int × Int := (0, 2147483648)
def ruN (v : Int) : Nat := ruCnt v 32 ruA
/-- the least whole number whose square is not less than v -/
def rupF (v : Int) : Int := (foldN (ruG v) ruA (ruN v)).1
def ruI (a : Int × Int) : Prop := 0 ≤ a.1 ∧ a.1 ≤ a.2 ∧ a.2 ≤ 2147483648
theorem ruM_eq {a : Int × Int} (h : ruI a) : ruM a = (a.1 + a.2) / 2 := by
  obtain ⟨h1, h2, h3⟩ := h
  unfold ruM
  rw [W_id (x := a.1 + a.2) (by omega) (by omega), Int.tdiv_eq_ediv_of_nonneg (by omega), W_id (by omega) (by omega)]
theorem ru_step {v : Int} {a : Int × Int} (h : ruI a) (hlt : a.1 < a.2) : ruI (ruStep v a) ∧ 2 * ((ruStep v a).2 - (ruStep v a).1) ≤ a.2 - a.1 := by
  have m := ruM_eq h
  obtain ⟨h1, h2, h3⟩ := h
  have w : W (ruM a + 1) = ruM a + 1 := by rw [m]; exact W_id (by omega) (by omega)
  unfold ruStep ruI
  rw [w]
  cases decide (W (ruM a * ruM a) ≥ v)
  · exact ⟨⟨by dsimp only [cond_false]; omega, by dsimp only [cond_false]; omega, by dsimp only [cond_false]; omega⟩, by dsimp only [cond_false]; omega⟩
  · exact ⟨⟨by dsimp only [cond_true]; omega, by dsimp only [cond_true]; omega, by dsimp only [cond_true]; omega⟩, by dsimp only [cond_true]; omega⟩
theorem foldN_ru (v : Int) (a : Int × Int) : ∀ k, foldN (ruG v) a (k + 1) = foldN (ruG v) (ruStep v a) k
  | 0 => rfl
  | k + 1 => by
    show ruG v (k + 1) (foldN (ruG v) a (k + 1)) = ruG v k (foldN (ruG v) (ruStep v a) k)
    rw [foldN_ru v a k]; rfl
theorem ru_run (v : Int) : ∀ (f : Nat) (a : Int × Int), ruI a → a.2 - a.1 < 2 ^ f → (∀ k, k < ruCnt v f a → (foldN (ruG v) a k).1 < (foldN (ruG v) a k).2) ∧ ¬ (foldN (ruG v) a (ruCnt v f a)).1 < (foldN (ruG v) a (ruCnt v f a)).2
  | 0, a, h, hf => by
    refine ⟨fun k hk => absurd hk (Nat.not_lt_zero k), ?_⟩
    show ¬ a.1 < a.2
    have : (2 : Int) ^ 0 = 1 := by decide
    omega
  | f + 1, a, h, hf => by
    by_cases hlt : a.1 < a.2
    · have st := ru_step (v := v) h hlt
      have e : (2 : Int) ^ (f + 1) = 2 * 2 ^ f := by rw [Int.pow_succ, Int.mul_comm]
      have ih := ru_run v f (ruStep v a) st.1 (by omega)
      have c : ruCnt v (f + 1) a = ruCnt v f (ruStep v a) + 1 := by simp only [ruCnt]; rw [if_pos hlt]
      rw [c]
      refine ⟨fun k hk => ?_, ?_⟩
      · cases k with
        | zero => exact hlt
        | succ k => rw [foldN_ru]; exact ih.1 k (by omega)
      · rw [foldN_ru]; exact ih.2
    · have c : ruCnt v (f + 1) a = 0 := by simp only [ruCnt]; rw [if_neg hlt]
      rw [c]
      exact ⟨fun k hk => absurd hk (Nat.not_lt_zero k), hlt⟩
theorem ru_all (v : Int) : (∀ k, k < ruN v → (foldN (ruG v) ruA k).1 < (foldN (ruG v) ruA k).2) ∧ ¬ (foldN (ruG v) ruA (ruN v)).1 < (foldN (ruG v) ruA (ruN v)).2 := ru_run v 32 ruA ⟨by decide, by decide, by decide⟩ (by decide)
theorem rupF_le {v M : Int} (h0 : 0 ≤ M) (h1 : M ≤ 1000000) (h : v ≤ M * M) : 0 ≤ rupF v ∧ rupF v ≤ M := by
  have key : ∀ k, k ≤ ruN v → ruI (foldN (ruG v) ruA k) ∧ (foldN (ruG v) ruA k).1 ≤ M := fun k => by
    induction k with
    | zero => intro _; exact ⟨(⟨by decide, by decide, by decide⟩ : ruI ruA), h0⟩
    | succ k ih =>
      intro hk
      have q := ih (by omega)
      have lt := (ru_all v).1 k (by omega)
      have st := ru_step (v := v) q.1 lt
      refine ⟨st.1, ?_⟩
      have m := ruM_eq q.1
      show (ruStep v (foldN (ruG v) ruA k)).1 ≤ M
      generalize foldN (ruG v) ruA k = a at *
      obtain ⟨q1, q2, q3⟩ := q.1
      have w : W (ruM a + 1) = ruM a + 1 := by rw [m]; exact W_id (by omega) (by omega)
      unfold ruStep
      by_cases g : M ≤ ruM a
      · have sq : M * M ≤ ruM a * ruM a := Int.mul_le_mul g g h0 (by omega)
        have bd : ruM a * ruM a ≤ 2147483648 * 2147483648 := Int.mul_le_mul (by omega) (by omega) (by omega) (by decide)
        have nn : 0 ≤ ruM a * ruM a := Int.mul_nonneg (by omega) (by omega)
        rw [W_id (x := ruM a * ruM a) (by omega) (by omega), decide_eq_true (show ruM a * ruM a ≥ v by omega)]
        exact q.2
      · dsimp only
        cases decide (W (ruM a * ruM a) ≥ v)
        · show W (ruM a + 1) ≤ M
          rw [w]; omega
        · exact q.2
  have q := key (ruN v) (Nat.le_refl _)
  exact ⟨q.1.1, q.2⟩
def ruS (v : Int) (a : Int × Int) : Dyn.St := mkS 22 [(0, sI v), (2, .k (vi 0)), (3, sI a.1), (4, sI a.2)] []
def ruK : List Nat := [0, 2, 3, 4]
def ruB (v : Int) (a : Int × Int) : Dyn.Out := .ite (decide (a.1 < a.2)) (.leaf .normal (ruS v (ruStep v a))) (.leaf (.exit 0) (ruS v a))
theorem ru_B (v : Int) (a : Int × Int) : (Dyn.lexec Try.prog tabF0 Dyn.noLp 3 (unloopD (blkD Try.f62.body 0)) .leaf (ruS v a)).rl (keepR 22 [] [] ruK [2]) = ruB v a := by kernel_rfl
def ruLp (v : Int) : Dyn.Lp := fun id st => match id with
  | 0 => some (.side [keepA 22 [] [] ruK (2 ^ 3 + 2 ^ 4) st = ruS v ruA] (.leaf .normal (ruS v (foldN (ruG v) ruA (ruN v)))))
  | _ => none
theorem ru_blocks : blocksL (bodyD Try.f62.body) = [(0, .loop (unloopD (blkD Try.f62.body 0))), (1, blkD Try.f62.body 1)] := by kernel_rfl
theorem ru_b0 : blocksL (unloopD (blkD Try.f62.body 0)) = [(1, blkD Try.f62.body 1)] := by kernel_rfl
theorem ru_loop (v : Int) (w0 : Dyn.Base Try.prog) (st : Dyn.St) (o : Dyn.Out) (h : ruLp v 0 st = some o) : Dyn.BlockSound Try.prog w0 0 (.loop (unloopD (blkD Try.f62.body 0))) st o := by
  simp only [ruLp, Option.some.injEq] at h
  subst h
  refine side_one fun hS => ?_
  refine fold_block (fuel := 3) tabF0_ok mo (lp := Dyn.noLp) (by rw [ru_b0]; exact lpOk_cons (fun s o h => by cases h) lpOk_nil) (fun _ a => ruS v a) (ruN v) (ruG v) ruA (keepR 22 [] [] ruK [2]) (keepR_ent 22 _ _ _ _) (fun _ a => ruB v a) (fun _ a => ru_B v a) (fun i hi => ?_) ?_ (hS ▸ keepA_ent 22 _ _ _ _ st)
  · exact ⟨fun _ => ⟨rfl, Dyn.Fits.refl _⟩, fun hf => absurd ((ru_all v).1 i hi) (by simpa using hf)⟩
  · exact ⟨fun ht => absurd (by simpa using ht) (ru_all v).2, fun _ => ⟨rfl, Dyn.Fits.refl _⟩⟩
theorem rootUp_ok (v : Int) : Dyn.CallD Try.prog 62 [dvI v] (rI (rupF v)) :=
  Dyn.dcontract (lp := ruLp v) (fuel := 3) (X := tabF0) tabF0_ok mo Try.func62 (by kernel_rfl) (c := bodyD Try.f62.body) (by kernel_rfl)
    (fun w0 => by rw [ru_blocks]; exact lpOk_cons (ru_loop v w0) (lpOk_cons (fun s o h => by cases h) lpOk_nil))
    (by kernel_rfl) (O := .side [ruS v ruA = ruS v ruA] (.leaf (rI (rupF v)))) (by kernel_rfl) ⟨⟨rfl, trivial⟩, rfl⟩
/-! ### take -/
def tkF (f : Bool) (a b : B4) : B4 := ⟨bif f then imin a.x0 b.x0 else b.x0, bif f then imin a.y0 b.y0 else b.y0, bif f then imax a.x1 b.x1 else b.x1, bif f then imax a.y1 b.y1 else b.y1⟩
def bxV (b : B4) : List Value := [vi b.x0, vi b.y0, vi b.x1, vi b.y1]
def tkL (f : Bool) (a : B4) : Dyn.Lent := [(4, [vb f]), (47, bxV a)]
theorem tk_O (f : Bool) (a b : B4) : (Dyn.dfunX Try.prog tabF0 Dyn.noLp 3 Try.f63 (tkL f a) [.d (dvX b), .lp 0 0, .lp 1 0]).rx Try.prog (tkL f a) Try.f63.results
    = .ite f (.leaf (.tuple ⟨[]⟩) [[vb true], bxV (tkF true a b)]) (.leaf (.tuple ⟨[]⟩) [[vb true], bxV (tkF false a b)]) := by kernel_rfl
theorem take_ok (f : Bool) (a b : B4) : Dyn.CallX Try.prog 63 [.d (dvX b), .lp 0 0, .lp 1 0] (tkL f a) (.tuple ⟨[]⟩) [[vb true], bxV (tkF f a b)] :=
  Dyn.xcontract (lp := Dyn.noLp) (fuel := 3) (X := tabF0) tabF0_ok mo Try.func63 (by kernel_rfl) (c := bodyD Try.f63.body) (by kernel_rfl) (fun w0 => Dyn.noLp_ok _ w0)
    (by kernel_rfl) (by kernel_rfl) (by kernel_rfl) (tk_O f a b) ⟨fun h => by subst h; exact ⟨rfl, rfl⟩, fun h => by subst h; exact ⟨rfl, rfl⟩⟩
def enTk : List Dyn.LA → Dyn.Lent → Option (Value × List (List Value) × List Prop)
  | [.d u, .lp 0 0, .lp 1 0], [(t, [.bool f]), (t2, [.int .i64 x0, .int .i64 y0, .int .i64 x1, .int .i64 y1])] => match aX u, Nat.beq t 4, Nat.beq t2 47 with
    | some b, true, true => some (.tuple ⟨[]⟩, [[vb true], bxV (tkF f ⟨x0, y0, x1, y1⟩ b)], [])
    | _, _, _ => none
  | _, _ => none
theorem CallX_le1 {P : Program} {K : Nat} {u u' : Dyn.DV} {l : List Dyn.LA} {lent : Dyn.Lent} {r : Value} {o : List (List Value)} (h1 : Dyn.DVLe u u') (k : Dyn.CallX P K (.d u' :: l) lent r o) : Dyn.CallX P K (.d u :: l) lent r o := fun w F bs us hF hn hd hl hden => k w F bs us hF hn hd hl (by
  cases us with
  | nil => exact hden
  | cons x us => exact ⟨Dyn.DenV_le h1 hden.1, hden.2⟩)
theorem enTk_ok : Dyn.EntryXOk Try.prog (63, enTk) := fun as' lent u out ps h hp => by
  dsimp only at h
  unfold enTk at h
  split at h
  · rename_i t f t2 x0 y0 x1 y1
    split at h
    · rename_i b hb ht ht2
      have e1 := Nat.eq_of_beq_eq_true ht
      have e2 := Nat.eq_of_beq_eq_true ht2
      subst e1; subst e2
      simp only [Option.some.injEq, Prod.mk.injEq] at h
      obtain ⟨rfl, rfl, rfl⟩ := h
      exact CallX_le1 (aX_eq hb) (take_ok f ⟨x0, y0, x1, y1⟩ b)
    · cases h
  · cases h
def BdOk (x : Sh) (g : Sh → B4 × Bool) : Prop := Dyn.CallD Try.prog 51 [dvS x] (.tup [dvX (g x).1, dvB (g x).2])
def tdBd (Pd : Sh → Prop) (g : Sh → B4 × Bool) : List Dyn.EntryD := [(62, en1D qI fun v => rI (rupF v)), (51, en1D (qAnd qS Pd) fun x => .tup [dvX (g x).1, dvB (g x).2])]
def drBd (K : Nat) : Bool := Nat.beq K 63
def tabBd (Pd : Sh → Prop) (g : Sh → B4 × Bool) : Dyn.Tabs := Dyn.tabsX tbF (tdBd Pd g) [(63, enTk)] drBd dtyS true
theorem tabBd_ok {Pd : Sh → Prop} {g : Sh → B4 × Bool} (ih : ∀ x, Pd x → BdOk x g) : Dyn.TabsOk Try.prog (tabBd Pd g) :=
  Dyn.tabsX_ok tbF_ok (List.forall_mem_cons.2 ⟨en1D_ok qI_ok fun v _ => rootUp_ok v, List.forall_mem_cons.2 ⟨en1D_ok (qAnd_ok qS_ok) fun x h => ih x h.1, fun _ h => by cases h⟩⟩) (List.forall_mem_cons.2 ⟨enTk_ok, fun _ h => by cases h⟩)
def bdQ : Bool × B4 := (false, ⟨0, 0, 0, 0⟩)
def bdI (l : Ctr) (i k : Nat) (q : Bool × B4) : Bool × B4 := (true, tkF q.1 q.2 (aroundF (l.p i k) (l.p i k) 0))
def bdO (l : Ctr) (i : Nat) (q : Bool × B4) : Bool × B4 := foldN (bdI l i) q (l.m i)
def bdP (g : Sh → B4 × Bool) (sh : Nat → Sh) (add : Nat → Bool) (i : Nat) (q : Bool × B4) : Bool × B4 := bif !(add i) then q else bif (g (sh i)).2 then (true, tkF q.1 q.2 (g (sh i)).1) else q
def sFn : Dyn.SV := .v (.func (.func 63) ⟨[]⟩ ⟨[.pointer (some ⟨4, 0, none⟩), .pointer (some ⟨3, 0, none⟩)]⟩)
def bdH (s : Sh) (q : Bool × B4) : List (Option Dyn.HE) := [some (.deep (cS s)), some (.cells 29 (shV 0 8 s)), some (.cells 47 [vi 0, vi 0, vi 0, vi 0]), some (.cells 47 (bxV q.2)), some (.cells 4 [vb q.1])]
def bdL : List (Nat × Dyn.SV) := [(1, sL 1), (2, sL 2), (3, .k (vb false)), (6, sL 3), (7, sL 4), (8, sFn)]
def bdS (s : Sh) (q : Bool × B4) (i : Int) : Dyn.St := mkS 114 (bdL ++ [(72, sH 0 8 s.l.n), (73, sI s.l.n), (74, sI i)]) (bdH s q)
def bdT (s : Sh) (q : Bool × B4) (i j : Int) : Dyn.St := mkS 114 (bdL ++ [(10, sH 5 0 (s.l.m i.toNat)), (72, sH 0 8 s.l.n), (73, sI s.l.n), (74, sI i), (78, sH 5 0 (s.l.m i.toNat)), (79, sI (s.l.m i.toNat)), (80, sI j)]) (bdH s q ++ [some (.deep [cRow (s.l.m i.toNat) (s.l.p i.toNat)])])
def bdU (s : Sh) (q : Bool × B4) (i : Int) : Dyn.St := mkS 114 (bdL ++ [(92, sH 0 9 s.n), (93, sI s.n), (94, sI i)]) (bdH s q)
def bdK0 : List Nat := [1, 2, 3, 6, 7, 8, 72, 73, 74]
def bdK1 : List Nat := [1, 2, 3, 6, 7, 8, 10, 72, 73, 74, 78, 79, 80]
def bdK2 : List Nat := [1, 2, 3, 6, 7, 8, 92, 93, 94]
def accB (st : Dyn.St) : Bool × B4 := match st.heap.getD 3 none, st.heap.getD 4 none with
  | some (.cells _ [.int _ x0, .int _ y0, .int _ x1, .int _ y1]), some (.cells _ [.bool f]) => (f, ⟨x0, y0, x1, y1⟩)
  | _, _ => bdQ
def bdLp (g : Sh → B4 × Bool) (sh : Nat → Sh) (add : Nat → Bool) (s : Sh) : Dyn.Lp := fun id st => match id with
  | 1 => some (.side [keepA 114 [0, 1, 2, 4, 5] [] bdK0 (2 ^ 74) st = bdS s bdQ 0] (.leaf .normal (bdS s (foldN (bdO s.l) bdQ s.l.n) s.l.n)))
  | 3 =>
    let q := accB st
    let i := intD (st.slots.getD 74 .junk)
    some (.side [keepA 114 [0, 1, 2, 3, 4] [10] bdK1 (2 ^ 80) st = bdT s q i 0, 0 ≤ i ∧ i < s.l.n] (.leaf .normal (bdT s (bdO s.l i.toNat q) i (s.l.m i.toNat))))
  | 5 =>
    let q := accB st
    some (.side [keepA 114 [0, 1, 2, 3, 4] [] bdK2 (2 ^ 94) st = bdU s q 0] (.leaf .normal (bdU s (foldN (bdP g sh add) q s.n) s.n)))
  | _ => none
def bdBi (s : Sh) (q : Bool × B4) (i j : Nat) : Dyn.Out :=
  .ite (decide ((j : Int) < s.l.m i)) (.side [0 ≤ (j : Int) ∧ (j : Int) < s.l.m i] (.leaf .normal (bdT s (bdI s.l i j q) i (W (j + 1))))) (.leaf (.exit 3) (bdT s q i j))
def bdBo (s : Sh) (q : Bool × B4) (i : Nat) : Dyn.Out :=
  .ite (decide ((i : Int) < s.l.n)) (.side [0 ≤ (i : Int) ∧ (i : Int) < s.l.n] (.side [bdT s q i 0 = bdT s q i 0, 0 ≤ (i : Int) ∧ (i : Int) < s.l.n] (.leaf .normal (bdS s (bdO s.l i q) (W (i + 1)))))) (.leaf (.exit 1) (bdS s q i))
def bdBp (Pd : Sh → Prop) (g : Sh → B4 × Bool) (sh : Nat → Sh) (add : Nat → Bool) (s : Sh) (q : Bool × B4) (i : Nat) : Dyn.Out :=
  .ite (decide ((i : Int) < s.n)) (.side [0 ≤ (i : Int) ∧ (i : Int) < s.n] (.ite (!(add i)) (.leaf .normal (bdU s q (W (i + 1)))) (.side [Pd (sh i), ctrSelf (sh i).l] (.ite (g (sh i)).2 (.leaf .normal (bdU s (true, tkF q.1 q.2 (g (sh i)).1) (W (i + 1)))) (.leaf .normal (bdU s q (W (i + 1)))))))) (.leaf (.exit 5) (bdU s q i))
theorem bd_Bi (Pd : Sh → Prop) (g : Sh → B4 × Bool) (sh : Nat → Sh) (add : Nat → Bool) (s : Sh) (q : Bool × B4) (i j : Nat) : (Dyn.lexec Try.prog (tabBd Pd g) (bdLp g sh add s) 3 (unloopD (blkD Try.f51.body 3)) .leaf (bdT s q i j)).rl (keepR 114 [0, 1, 2, 3, 4] [10] bdK1 []) = bdBi s q i j := by kernel_rfl
theorem bd_Bo (Pd : Sh → Prop) (g : Sh → B4 × Bool) (sh : Nat → Sh) (add : Nat → Bool) (s : Sh) (q : Bool × B4) (i : Nat) : (Dyn.lexec Try.prog (tabBd Pd g) (bdLp g sh add s) 3 (unloopD (blkD Try.f51.body 1)) .leaf (bdS s q i)).rl (keepR 114 [0, 1, 2, 3, 4] [] bdK0 []) = bdBo s q i := by kernel_rfl
theorem bd_Bp (Pd : Sh → Prop) (g : Sh → B4 × Bool) (k : Int) (a b c : P2) (r : Int) (l : Ctr) (n : Nat) (add : Nat → Bool) (sh : Nat → Sh) (q : Bool × B4) (i : Nat) : (Dyn.lexec Try.prog (tabBd Pd g) (bdLp g sh add (mkSh k a b c r l n add sh)) 3 (unloopD (blkD Try.f51.body 5)) .leaf (bdU (mkSh k a b c r l n add sh) q i)).rl (keepR 114 [0, 1, 2, 3, 4] [] bdK2 []) = bdBp Pd g sh add (mkSh k a b c r l n add sh) q i := by kernel_rfl
theorem bd_blocks : blocksL (bodyD Try.f51.body) = [(0, blkD Try.f51.body 0), (1, .loop (unloopD (blkD Try.f51.body 1))), (2, blkD Try.f51.body 2), (3, .loop (unloopD (blkD Try.f51.body 3))), (4, blkD Try.f51.body 4), (5, .loop (unloopD (blkD Try.f51.body 5))), (6, blkD Try.f51.body 6)] := by kernel_rfl
theorem bd_b1 : blocksL (unloopD (blkD Try.f51.body 1)) = [(2, blkD Try.f51.body 2), (3, .loop (unloopD (blkD Try.f51.body 3))), (4, blkD Try.f51.body 4)] := by kernel_rfl
theorem bd_b3 : blocksL (unloopD (blkD Try.f51.body 3)) = [(4, blkD Try.f51.body 4)] := by kernel_rfl
theorem bd_b5 : blocksL (unloopD (blkD Try.f51.body 5)) = [(6, blkD Try.f51.body 6)] := by kernel_rfl
theorem bd_inner {Pd : Sh → Prop} {g : Sh → B4 × Bool} (ih : ∀ x, Pd x → BdOk x g) (sh : Nat → Sh) (add : Nat → Bool) (s : Sh) (hl : CtrB s.l) (w0 : Dyn.Base Try.prog) (st : Dyn.St) (o : Dyn.Out)
    (h : bdLp g sh add s 3 st = some o) : Dyn.BlockSound Try.prog w0 3 (.loop (unloopD (blkD Try.f51.body 3))) st o := by
  simp only [bdLp, Option.some.injEq] at h
  subst h
  refine side_two fun hS hi => ?_
  revert hS hi
  generalize intD (st.slots.getD 74 .junk) = i'
  generalize accB st = q
  intro hS hi
  obtain ⟨i, rfl⟩ : ∃ i : Nat, i' = (i : Int) := ⟨i'.toNat, by omega⟩
  have hm : s.l.m i ≤ 1000000000 := hl.2 i (by omega)
  refine fold_block (fuel := 3) (tabBd_ok ih) mo (lp := bdLp g sh add s) (by rw [bd_b3]; exact lpOk_cons (fun s o h => by cases h) lpOk_nil) (fun j q => bdT s q i j) (s.l.m i) (bdI s.l i) q (keepR 114 [0, 1, 2, 3, 4] [10] bdK1 []) (keepR_ent 114 _ _ _ _) (fun j q => bdBi s q i j) (fun j q => bd_Bi Pd g sh add s q i j) (fun j hj => ?_) ?_ (hS ▸ keepA_ent 114 _ _ _ _ st)
  · refine ⟨fun _ => ⟨⟨⟨by omega, by omega⟩, trivial⟩, rfl, ?_⟩, fun hf => ?_⟩
    · rw [Wn1 hj hm]; exact Dyn.Fits.refl _
    · rw [decide_eq_false_iff_not] at hf; omega
  · refine ⟨fun ht => ?_, fun _ => ⟨rfl, Dyn.Fits.refl _⟩⟩
    rw [decide_eq_true_eq] at ht; omega
theorem bd_outer {Pd : Sh → Prop} {g : Sh → B4 × Bool} (ih : ∀ x, Pd x → BdOk x g) (sh : Nat → Sh) (add : Nat → Bool) (s : Sh) (hl : CtrB s.l) (w0 : Dyn.Base Try.prog) (st : Dyn.St) (o : Dyn.Out)
    (h : bdLp g sh add s 1 st = some o) : Dyn.BlockSound Try.prog w0 1 (.loop (unloopD (blkD Try.f51.body 1))) st o := by
  simp only [bdLp, Option.some.injEq] at h
  subst h
  refine side_one fun hS => ?_
  refine fold_block (fuel := 3) (tabBd_ok ih) mo (lp := bdLp g sh add s) (by rw [bd_b1]; exact lpOk_cons (fun s o h => by cases h) (lpOk_cons (bd_inner ih sh add s hl w0) (lpOk_cons (fun s o h => by cases h) lpOk_nil))) (fun i q => bdS s q i) s.l.n (bdO s.l) bdQ (keepR 114 [0, 1, 2, 3, 4] [] bdK0 []) (keepR_ent 114 _ _ _ _) (fun i q => bdBo s q i) (fun i q => bd_Bo Pd g sh add s q i) (fun i hi => ?_) ?_ (hS ▸ keepA_ent 114 _ _ _ _ st)
  · have hb : 0 ≤ (i : Int) ∧ (i : Int) < s.l.n := ⟨by omega, by omega⟩
    refine ⟨fun _ => ⟨⟨hb, trivial⟩, ⟨rfl, hb, trivial⟩, rfl, ?_⟩, fun hf => ?_⟩
    · rw [Wn1 hi hl.1]; exact Dyn.Fits.refl _
    · rw [decide_eq_false_iff_not] at hf; omega
  · refine ⟨fun ht => ?_, fun _ => ⟨rfl, Dyn.Fits.refl _⟩⟩
    rw [decide_eq_true_eq] at ht; omega
theorem bd_parts {Pd : Sh → Prop} {g : Sh → B4 × Bool} (ih : ∀ x, Pd x → BdOk x g) (k : Int) (a b c : P2) (r : Int) (l : Ctr) (n : Nat) (add : Nat → Bool) (sh : Nat → Sh) (hn : n ≤ 1000000000) (hP : ∀ i, i < n → Pd (sh i)) (w0 : Dyn.Base Try.prog) (st : Dyn.St) (o : Dyn.Out)
    (h : bdLp g sh add (mkSh k a b c r l n add sh) 5 st = some o) : Dyn.BlockSound Try.prog w0 5 (.loop (unloopD (blkD Try.f51.body 5))) st o := by
  simp only [bdLp, Option.some.injEq] at h
  subst h
  refine side_one fun hS => ?_
  revert hS
  generalize accB st = q0
  intro hS
  refine fold_block (fuel := 3) (tabBd_ok ih) mo (lp := bdLp g sh add (mkSh k a b c r l n add sh)) (by rw [bd_b5]; exact lpOk_cons (fun s o h => by cases h) lpOk_nil) (fun i q => bdU (mkSh k a b c r l n add sh) q i) n (bdP g sh add) q0 (keepR 114 [0, 1, 2, 3, 4] [] bdK2 []) (keepR_ent 114 _ _ _ _) (fun i q => bdBp Pd g sh add (mkSh k a b c r l n add sh) q i) (fun i q => bd_Bp Pd g k a b c r l n add sh q i) (fun i hi => ?_) ?_ (hS ▸ keepA_ent 114 _ _ _ _ st)
  · have hb : 0 ≤ (i : Int) ∧ (i : Int) < (n : Int) := ⟨by omega, by omega⟩
    generalize foldN (bdP g sh add) q0 i = q
    unfold bdP
    refine ⟨fun _ => ⟨⟨hb, trivial⟩, fun hx => ⟨rfl, ?_⟩, fun hx => ⟨⟨hP i hi, ctrSelf_ok _, trivial⟩, fun hy => ⟨rfl, ?_⟩, fun hy => ⟨rfl, ?_⟩⟩⟩, fun hf => ?_⟩
    · rw [Wn1 hi hn, hx]; exact Dyn.Fits.refl _
    · rw [Wn1 hi hn, hx, hy]; exact Dyn.Fits.refl _
    · rw [Wn1 hi hn, hx, hy]; exact Dyn.Fits.refl _
    · rw [decide_eq_false_iff_not] at hf
      exact absurd hb.2 hf
  · refine ⟨fun ht => ?_, fun _ => ⟨rfl, Dyn.Fits.refl _⟩⟩
    rw [decide_eq_true_eq] at ht
    exact absurd (show (n : Int) < (n : Int) from ht) (by omega)
def bdR (s : Sh) : Int := W (s.r + rupF (W (W (W (s.a.x - s.c.x) * W (s.a.x - s.c.x)) + W (W (s.a.y - s.c.y) * W (s.a.y - s.c.y)))))
def bdAll (g : Sh → B4 × Bool) (sh : Nat → Sh) (add : Nat → Bool) (s : Sh) : Bool × B4 := foldN (bdP g sh add) (foldN (bdO s.l) bdQ s.l.n) s.n
def bdOO (g : Sh → B4 × Bool) (sh : Nat → Sh) (add : Nat → Bool) (s : Sh) : Dyn.RO :=
  .ite (s.k == 1) (.leaf (.tup [dvX (aroundF s.a s.a s.r), dvB true]))
  (.ite (bif s.k == 3 then s.k == 3 else s.k == 4) (.leaf (.tup [dvX (aroundF s.a s.b s.r), dvB true]))
  (.ite (s.k == 5) (.leaf (.tup [dvX (aroundF s.c s.c (bdR s)), dvB true]))
  (.side [bdS s bdQ 0 = bdS s bdQ 0] (.side [bdU s (foldN (bdO s.l) bdQ s.l.n) 0 = bdU s (foldN (bdO s.l) bdQ s.l.n) 0] (.leaf (.tup [dvX (bdAll g sh add s).2, dvB (bdAll g sh add s).1]))))))
theorem bd_OO (Pd : Sh → Prop) (g : Sh → B4 × Bool) (sh : Nat → Sh) (add : Nat → Bool) (s : Sh) : (Dyn.dfun Try.prog (tabBd Pd g) (bdLp g sh add s) 3 Try.f51 [dvS s]).ro Try.prog Try.f51.results = bdOO g sh add s := by kernel_rfl
def boundsG (g : Sh → B4 × Bool) (sh : Nat → Sh) (add : Nat → Bool) (s : Sh) : B4 × Bool :=
  bif s.k == 1 then (aroundF s.a s.a s.r, true) else bif bif s.k == 3 then s.k == 3 else s.k == 4 then (aroundF s.a s.b s.r, true) else bif s.k == 5 then (aroundF s.c s.c (bdR s), true) else ((bdAll g sh add s).2, (bdAll g sh add s).1)
theorem bd_sat (g : Sh → B4 × Bool) (sh : Nat → Sh) (add : Nat → Bool) (s : Sh) : (bdOO g sh add s).sat fun r => Dyn.RVLe r (.tup [dvX (boundsG g sh add s).1, dvB (boundsG g sh add s).2]) := by
  unfold boundsG
  refine ⟨fun h => ?_, fun h => ⟨fun h2 => ?_, fun h2 => ⟨fun h3 => ?_, fun h3 => ⟨⟨rfl, trivial⟩, ⟨rfl, trivial⟩, ?_⟩⟩⟩⟩
  · rw [h]; exact ⟨Dyn.DVLe.refl _, rfl, trivial⟩
  · rw [h, h2]; exact ⟨Dyn.DVLe.refl _, rfl, trivial⟩
  · rw [h, h2, h3]; exact ⟨Dyn.DVLe.refl _, rfl, trivial⟩
  · rw [h, h2, h3]; exact ⟨Dyn.DVLe.refl _, Dyn.DVLe.refl _, trivial⟩
theorem bounds_lvl {Pd : Sh → Prop} {g : Sh → B4 × Bool} (ih : ∀ x, Pd x → BdOk x g) (k : Int) (a b c : P2) (r : Int) (l : Ctr) (n : Nat) (add : Nat → Bool) (sh : Nat → Sh) (hl : CtrB l) (hn : n ≤ 1000000000) (hP : ∀ i, i < n → Pd (sh i)) :
    Dyn.CallD Try.prog 51 [dvS (mkSh k a b c r l n add sh)] (.tup [dvX (boundsG g sh add (mkSh k a b c r l n add sh)).1, dvB (boundsG g sh add (mkSh k a b c r l n add sh)).2]) :=
  Dyn.dcontract (lp := bdLp g sh add (mkSh k a b c r l n add sh)) (fuel := 3) (tabBd_ok ih) mo Try.func51 (by kernel_rfl) (c := bodyD Try.f51.body) (by kernel_rfl)
    (fun w0 => by
      rw [bd_blocks]
      exact lpOk_cons (fun s o h => by cases h) (lpOk_cons (bd_outer ih sh add _ hl w0) (lpOk_cons (fun s o h => by cases h) (lpOk_cons (bd_inner ih sh add _ hl w0) (lpOk_cons (fun s o h => by cases h) (lpOk_cons (bd_parts ih k a b c r l n add sh hn hP w0) (lpOk_cons (fun s o h => by cases h) lpOk_nil)))))))
    (by kernel_rfl) (bd_OO Pd g sh add _) (bd_sat g sh add (mkSh k a b c r l n add sh))
/-- bounds, all the way down -/
def bndF : Shp → B4 × Bool
  | .nil => (⟨0, 0, 0, 0⟩, false)
  | .mk k a b c r l n add sub =>
    bif k == 1 then (aroundF a a r, true) else bif bif k == 3 then k == 3 else k == 4 then (aroundF a b r, true) else bif k == 5 then (aroundF c c (bdR ⟨k, a, b, c, r, l, n, noF⟩), true) else
    ((foldN (fun i q => bif !(add i) then q else bif (bndF (sub i)).2 then (true, tkF q.1 q.2 (bndF (sub i)).1) else q) (foldN (bdO l) bdQ l.n) n).2, (foldN (fun i q => bif !(add i) then q else bif (bndF (sub i)).2 then (true, tkF q.1 q.2 (bndF (sub i)).1) else q) (foldN (bdO l) bdQ l.n) n).1)
noncomputable def bndE (x : Sh) : B4 × Bool := bndF (ofSh x)
theorem bndE_eq (s : Shp) : bndE (toSh s) = bndF s := by unfold bndE; rw [ofSh_toSh]
theorem bndF_lvl (k : Int) (a b c : P2) (r : Int) (l : Ctr) (n : Nat) (add : Nat → Bool) (sub : Nat → Shp) : bndF (.mk k a b c r l n add sub) = boundsG bndE (fun i => toSh (sub i)) add (mkSh k a b c r l n add (fun i => toSh (sub i))) := by
  unfold boundsG bdAll bdP
  simp only [bndE_eq]
  rfl
theorem bnd_ok : ∀ s : Shp, ShB s → BdOk (toSh s) bndE := by
  intro s
  induction s with
  | nil => intro h; exact h.elim
  | mk k a b c r l n add sub ih =>
    intro h
    unfold BdOk
    rw [bndE_eq, bndF_lvl]
    exact bounds_lvl (Pd := fun x => ∃ i, i < n ∧ x = toSh (sub i)) (fun x hx => by
      obtain ⟨i, hi, rfl⟩ := hx
      exact ih i (h.2.2 i hi)) k a b c r l n add (fun i => toSh (sub i)) h.1 h.2.1 (fun i hi => ⟨i, hi, rfl⟩)
theorem bnd_all : ∀ x, PdS x → BdOk x bndE := fun x hx => by
  have k := bnd_ok _ hx.1
  unfold BdOk at k
  rw [show bndE (toSh (ofSh x)) = bndE x by unfold bndE; rw [ofSh_toSh]] at k
  exact CallD_le (args := [dvS (toSh (ofSh x))]) ⟨SLe.dv hx.2, trivial⟩ k
noncomputable def figBnd (x : Sh) : B4 × Bool := bif okE x then bndE x else (⟨0, 0, 0, 0⟩, false)
noncomputable def tdBb : List Dyn.EntryD := [(48, en1D (qAnd qS PdS) fun x => rB (okE x)), (51, en1D (qAnd qS PdS) fun x => .tup [dvX (bndE x).1, dvB (bndE x).2])]
noncomputable def tabBb : Dyn.Tabs := Dyn.tabs tbF tdBb noD dtyS
theorem tabBb_ok : Dyn.TabsOk Try.prog tabBb := Dyn.tabs_ok tbF_ok (List.forall_mem_cons.2 ⟨en1D_ok (qAnd_ok qS_ok) fun x h => figOk_ok x h.1, List.forall_mem_cons.2 ⟨en1D_ok (qAnd_ok qS_ok) fun x h => bnd_all x h.1, fun _ h => by cases h⟩⟩)
noncomputable def bbO (x : Sh) : Dyn.RO := .side [PdS x, ctrSelf x.l] (.ite (!(okE x)) (.leaf (.tup [dvX ⟨0, 0, 0, 0⟩, dvB false])) (.side [PdS x, ctrSelf x.l] (.leaf (.tup [dvX (bndE x).1, dvB (bndE x).2]))))
theorem bb_O (x : Sh) : (Dyn.dfun Try.prog tabBb Dyn.noLp 3 Try.f25 [dvS x]).ro Try.prog Try.f25.results = bbO x := by kernel_rfl
theorem figBnd_ok (x : Sh) (h : PdS x) : Dyn.CallD Try.prog 25 [dvS x] (.tup [dvX (figBnd x).1, dvB (figBnd x).2]) :=
  Dyn.dcontract (lp := Dyn.noLp) (fuel := 3) tabBb_ok mo Try.func25 (by kernel_rfl) (c := bodyD Try.f25.body) (by kernel_rfl) (fun w0 => Dyn.noLp_ok _ w0) (by kernel_rfl) (bb_O x) (by
    unfold figBnd
    refine ⟨⟨h, ctrSelf_ok _, trivial⟩, fun h1 => ?_, fun h1 => ⟨⟨h, ctrSelf_ok _, trivial⟩, ?_⟩⟩
    · rw [show okE x = false by simpa using h1]; exact ⟨Dyn.DVLe.refl _, rfl, trivial⟩
    · rw [show okE x = true by simpa using h1]; exact ⟨Dyn.DVLe.refl _, Dyn.DVLe.refl _, trivial⟩)
end Go.Proofs.Ytfooaikpcbnchaa

/-! ## Tuf -/
namespace Go.Proofs.Ytfooaikpcbnchaa
open Go Go.RowKit Sym
set_option maxRecDepth 100000

/-- a form of two, as the program writes it -/
def formS (add : Bool) (S U : Sh) : Sh := ⟨6, ze, ze, ze, 0, zeL, 2, Dyn.pickL 0 [partC true S, partC add U]⟩
noncomputable def tdZ : List Dyn.EntryD := (25, en1D (qAnd qS PdS) fun x => .tup [dvX (figBnd x).1, dvB (figBnd x).2]) :: tdY
noncomputable def tabZ : Dyn.Tabs := Dyn.tabs tbU tdZ drY dtyS
theorem tabZ_ok : Dyn.TabsOk Try.prog tabZ := Dyn.tabs_ok tbU_ok (List.forall_mem_cons.2 ⟨en1D_ok (qAnd_ok qS_ok) fun x h => figBnd_ok x h.1, List.forall_mem_cons.2 ⟨en0R_ok awake11_ok, List.forall_mem_cons.2 ⟨en2D_ok (qAnd_ok qS_ok) qI_ok fun x d h _ => small_all x h.1 d, List.forall_mem_cons.2 ⟨en3D_ok (qAnd_ok qS_ok) qB_ok qI_ok fun x q d h _ _ => tame_all x h.1 q d, List.forall_mem_cons.2 ⟨en2D_ok (qAnd_ok qS_ok) (qAnd_ok qS_ok) fun x y h h2 => same_all x h.1 y h2.1, List.forall_mem_cons.2 ⟨en2D_ok (qAnd_ok qS_ok) qT_ok fun x t h _ => move_ok x h.1 t, fun _ h => by cases h⟩⟩⟩⟩⟩⟩)
noncomputable def frV (F Z : Sh) (t : Tn) : Bool :=
  let p := (figBnd F).1
  let q := (figBnd Z).1
  let w := W (p.x1 - p.x0)
  let h := W (p.y1 - p.y0)
  bif bif (figBnd F).2 == (figBnd Z).2 then bif !(figBnd F).2 then true else bif W (q.x1 - q.x0) == (bif band t.q 1 == 1 then h else w) then W (q.y1 - q.y0) == (bif band t.q 1 == 1 then w else h) else false else false then true else false
noncomputable def frR (F Z : Sh) (t : Tn) : Dyn.RO := .side [PdS F, ctrIs 0 noF] (.side [PdS Z, ctrSelf Z.l] (.leaf (rB (frV F Z t))))
noncomputable def frO1 (s u S U F : Sh) (t : Tn) (add : Bool) : Dyn.RO :=
  let G := bif bif !(movesE S t) then true else !(movesE U t) then true else !(movesE F t)
  let Z := moveE F t
  let F' := formS add (moveE S t) (moveE U t)
  .side [PdS s, ctrSelf s.l, PdS u, ctrSelf u.l, W (1000000 + 1) ≠ 0] (.side [PdS S, ctrSelf S.l] (.side [PdS U, ctrSelf U.l] (.side [PdS F, ctrIs 0 noF]
    (.ite G (.side [G = true] (.ite true (.leaf (rB false)) (frR F Z t)))
      (.side [G = false, PdS Z, ctrSelf Z.l, PdW F', ctrIs 0 noF] (.ite (!(sameE Z F')) (.leaf (rB false)) (frR F Z t)))))))
noncomputable def frO (s u : Sh) (t : Tn) (add : Bool) : Dyn.RO :=
  .side [PdW s, ctrSelf s.l, some (!(smallE s 0)) = some false ∧ True → allP [PdW u, ctrSelf u.l]]
    (.ite (bif !(smallE s 0) then true else !(smallE u 0)) (.leaf (rB true)) (frO1 s u (tameE s true 2) (tameE u true 2) (formS add (tameE s true 2) (tameE u true 2)) (tameT t 1000000) add))
theorem fr_O (s u : Sh) (t : Tn) (add : Bool) : (Dyn.dfun Try.prog tabZ Dyn.noLp 3 Try.f5 [dvS s, dvS u, dvT t, dvB add]).ro Try.prog Try.f5.results = frO s u t add := by kernel_rfl
end Go.Proofs.Ytfooaikpcbnchaa

/-! ## Fir -/
namespace Go.Proofs.Ytfooaikpcbnchaa
open Go Go.RowKit Sym
set_option maxRecDepth 100000

/-- a box mirrored, turned by k quarters, moved -/
def rtB (m : Bool) (k : Int) (u : P2) (b : B4) : B4 :=
  let xl := bif m then -b.x1 else b.x0
  let xh := bif m then -b.x0 else b.x1
  ⟨(bif k == 1 then -b.y1 else bif k == 2 then -xh else bif k == 3 then b.y0 else xl) + u.x, (bif k == 1 then xl else bif k == 2 then -b.y1 else bif k == 3 then -xh else b.y0) + u.y,
   (bif k == 1 then -b.y0 else bif k == 2 then -xl else bif k == 3 then b.y1 else xh) + u.x, (bif k == 1 then xh else bif k == 2 then -b.y0 else bif k == 3 then -xl else b.y1) + u.y⟩
theorem B4x {a b : B4} (h0 : a.x0 = b.x0) (h1 : a.y0 = b.y0) (h2 : a.x1 = b.x1) (h3 : a.y1 = b.y1) : a = b := by
  obtain ⟨a0, a1, a2, a3⟩ := a
  obtain ⟨b0, b1, b2, b3⟩ := b
  cases h0; cases h1; cases h2; cases h3; rfl
def aroI (p q : P2) (r : Int) : B4 := ⟨imin p.x q.x - r, imin p.y q.y - r, imax p.x q.x + r, imax p.y q.y + r⟩
theorem aro_eq {p q : P2} {r : Int} (hp : PB 100000000 p) (hq : PB 100000000 q) (h0 : 0 ≤ r) (h1 : r ≤ 1000) : aroundF p q r = aroI p q r := by
  obtain ⟨⟨p1, p2⟩, p3, p4⟩ := hp
  obtain ⟨⟨q1, q2⟩, q3, q4⟩ := hq
  unfold aroundF aroI
  have e1 : -100000000 ≤ imin p.x q.x ∧ imin p.x q.x ≤ 100000000 := by unfold imin; split <;> omega
  have e2 : -100000000 ≤ imin p.y q.y ∧ imin p.y q.y ≤ 100000000 := by unfold imin; split <;> omega
  have e3 : -100000000 ≤ imax p.x q.x ∧ imax p.x q.x ≤ 100000000 := by unfold imax; split <;> omega
  have e4 : -100000000 ≤ imax p.y q.y ∧ imax p.y q.y ≤ 100000000 := by unfold imax; split <;> omega
  generalize imin p.x q.x = a at *
  generalize imin p.y q.y = b at *
  generalize imax p.x q.x = c at *
  generalize imax p.y q.y = d at *
  rw [W_id (x := a - r) (by omega) (by omega), W_id (x := b - r) (by omega) (by omega), W_id (x := c + r) (by omega) (by omega), W_id (x := d + r) (by omega) (by omega)]
  refine B4x ?_ ?_ ?_ ?_ <;> dsimp only
  · unfold imax; split <;> omega
  · unfold imax; split <;> omega
  · unfold imin; split <;> omega
  · unfold imin; split <;> omega
theorem aro_rt (m : Bool) {k : Int} (hk : Q4 k) (u p q : P2) (r : Int) : aroI ⟨(rt m k p).x + u.x, (rt m k p).y + u.y⟩ ⟨(rt m k q).x + u.x, (rt m k q).y + u.y⟩ r = rtB m k u (aroI p q r) := by
  unfold aroI rtB rt imin imax
  rcases hk with rfl | rfl | rfl | rfl <;> cases m <;> refine B4x ?_ ?_ ?_ ?_ <;> simp <;> (repeat' split) <;> omega
theorem tk_rt (m : Bool) {k : Int} (hk : Q4 k) (u : P2) (a b : B4) : tkF true (rtB m k u a) (rtB m k u b) = rtB m k u (tkF true a b) := by
  unfold tkF rtB imin imax
  rcases hk with rfl | rfl | rfl | rfl <;> cases m <;> refine B4x ?_ ?_ ?_ ?_ <;> simp <;> (repeat' split) <;> omega
/-- two running boxes, the second turned -/
def RB (m : Bool) (k : Int) (u : P2) (q q' : Bool × B4) : Prop := q'.1 = q.1 ∧ (q.1 = true → q'.2 = rtB m k u q.2)
theorem RB_tk {m : Bool} {k : Int} (hk : Q4 k) {u : P2} {q q' : Bool × B4} (h : RB m k u q q') (b : B4) : RB m k u (true, tkF q.1 q.2 b) (true, tkF q'.1 q'.2 (rtB m k u b)) := by
  obtain ⟨f, a⟩ := q
  obtain ⟨f', a'⟩ := q'
  obtain ⟨h1, h2⟩ := h
  dsimp only at h1 h2
  subst h1
  refine ⟨rfl, fun _ => ?_⟩
  dsimp only
  cases f'
  · rfl
  · rw [h2 rfl, tk_rt m hk]
theorem foldN_RB {m : Bool} {k : Int} {u : P2} {g g' : Nat → Bool × B4 → Bool × B4} {a a' : Bool × B4} (h0 : RB m k u a a') : ∀ n, (∀ i q q', i < n → RB m k u q q' → RB m k u (g i q) (g' i q')) → RB m k u (foldN g a n) (foldN g' a' n)
  | 0, _ => h0
  | n + 1, h => h n _ _ (by omega) (foldN_RB h0 n fun i q q' hi => h i q q' (by omega))
/-- no radius above 15 -/
def Thin : Shp → Prop
  | .nil => True
  | .mk _ _ _ _ r _ n _ sub => r ≤ 15 ∧ ∀ i, i < n → Thin (sub i)
theorem tame_thin : ∀ (s : Shp) (d : Int), Thin (tameS s true d) := by
  intro s
  induction s with
  | nil => intro d; trivial
  | mk k a b c r l n add sub ih =>
    intro d
    have kr : tmR ⟨k, a, b, c, r, l, n, noF⟩ true ≤ 15 := by
      have h := lR_bd r
      have h1 := Int.tmod_nonneg (a := lR r) 15 (by omega)
      have h2 := (tmod_bd (lR r) (n := 15) (by decide)).2
      show W ((lR r).tmod 15 + 1) ≤ 15
      rw [W_id (by omega) (by omega)]; omega
    have z : ∀ i, i < 0 → Thin ((fun _ => Shp.nil) i) := fun i hi => absurd hi (Nat.not_lt_zero i)
    simp only [tameS]
    generalize tmKk ⟨k, a, b, c, r, l, n, noF⟩ d = K
    cases K == 1
    · cases (bif K == 3 then K == 3 else K == 4)
      · cases K == 5
        · cases K == 2
          · exact ⟨by decide, fun i hi => ih i _⟩
          · exact ⟨by decide, z⟩
        · exact ⟨kr, z⟩
      · exact ⟨kr, z⟩
    · exact ⟨kr, z⟩
theorem wid_pos {r : Int} (h : widF r = true) : 1 ≤ r := by
  unfold widF at h
  rw [andB_eq, Bool.and_eq_true, decide_eq_true_eq, decide_eq_true_eq] at h
  omega
/-- the radius of a ring's bounds -/
theorem bdR_eq {s : Sh} {B : Int} (hB : B ≤ 100000000) (ha : PB B s.a) (hc : PB B s.c) : bdR s = W (s.r + rupF (distI s.a s.c)) := by
  have dx : W (s.a.x - s.c.x) = s.a.x - s.c.x := W_id (by have := ha.1; have := hc.1; omega) (by have := ha.1; have := hc.1; omega)
  have dy : W (s.a.y - s.c.y) = s.a.y - s.c.y := W_id (by have := ha.2; have := hc.2; omega) (by have := ha.2; have := hc.2; omega)
  have sx := sq_bd (A := 200000000) (x := s.a.x - s.c.x) (by have := ha.1; have := hc.1; omega) (by have := ha.1; have := hc.1; omega)
  have sy := sq_bd (A := 200000000) (x := s.a.y - s.c.y) (by have := ha.2; have := hc.2; omega) (by have := ha.2; have := hc.2; omega)
  unfold bdR distI
  rw [dx, dy, W_id (x := (s.a.x - s.c.x) * (s.a.x - s.c.x)) (by omega) (by omega), W_id (x := (s.a.y - s.c.y) * (s.a.y - s.c.y)) (by omega) (by omega), W_id (x := (s.a.x - s.c.x) * (s.a.x - s.c.x) + (s.a.y - s.c.y) * (s.a.y - s.c.y)) (by omega) (by omega)]
theorem aro_turn {t : Tn} {p q : P2} {r : Int} (hu : PB 1000000 t.u) (hp : PB 40 p) (hq : PB 40 q) (h0 : 0 ≤ r) (h1 : r ≤ 1000) : aroundF (turnPtF p t) (turnPtF q t) r = rtB (plX t) (plQ t) t.u (aroundF p q r) := by
  have a := turn_PB hp hu (by decide) (by decide)
  have b := turn_PB hq hu (by decide) (by decide)
  rw [aro_eq (PB_mono a (by decide)) (PB_mono b (by decide)) h0 h1, aro_eq (PB_mono hp (by decide)) (PB_mono hq (by decide)) h0 h1, turnPt_rt (PB_mono hp (by decide)) (PB_mono hu (by decide)), turnPt_rt (PB_mono hq (by decide)) (PB_mono hu (by decide)), aro_rt _ (plQ_Q4 t)]
theorem dist_80 {p q : P2} (hp : PB 40 p) (hq : PB 40 q) : distI p q ≤ 114 * 114 := by
  have sx := sq_bd (A := 80) (x := p.x - q.x) (by have := hp.1; have := hq.1; omega) (by have := hp.1; have := hq.1; omega)
  have sy := sq_bd (A := 80) (x := p.y - q.y) (by have := hp.2; have := hq.2; omega) (by have := hp.2; have := hq.2; omega)
  unfold distI; omega
def BT (t : Tn) (v v' : B4 × Bool) : Prop := v'.2 = v.2 ∧ (v.2 = true → v'.1 = rtB (plX t) (plQ t) t.u v.1)
theorem bnd_turn {t : Tn} (hu : PB 1000000 t.u) : ∀ (s : Shp) (d : Int), Fine (PB 40) s d → Thin s → BT t (bndF s) (bndF (turnS s t)) := by
  intro s
  induction s with
  | nil => intro d h; exact h.elim
  | mk k a b' c r l n add sub ih =>
    intro d h th
    have hr15 := th.1
    rcases h with ⟨rfl, rfl, rfl, rfl, rfl, ha, hr⟩ | ⟨rfl, rfl, rfl, rfl, ha, hb, hr⟩ | ⟨rfl, rfl, rfl, rfl, ha, hb, hr, hn⟩ | ⟨rfl, rfl, rfl, ha, hb, hc, hr, ho⟩ | ⟨rfl, rfl, rfl, rfl, rfl, rfl, hc⟩ | ⟨rfl, rfl, rfl, rfl, rfl, rfl, h5, hm, hs⟩
    · have := wid_pos hr
      exact ⟨rfl, fun _ => aro_turn hu ha ha (by omega) (by omega)⟩
    · have := wid_pos hr
      exact ⟨rfl, fun _ => aro_turn hu ha hb (by omega) (by omega)⟩
    · have := wid_pos hr
      exact ⟨rfl, fun _ => aro_turn hu ha hb (by omega) (by omega)⟩
    · have r1 := wid_pos hr
      refine ⟨rfl, fun _ => ?_⟩
      have rt0 := rupF_le (v := distI a c) (M := 114) (by decide) (by decide) (dist_80 ha hc)
      have ta := turn_PB ha hu (by decide) (by decide)
      have tb := turn_PB hb hu (by decide) (by decide)
      have tc := turn_PB hc hu (by decide) (by decide)
      have eW : W (r + rupF (distI a c)) = r + rupF (distI a c) := W_id (by omega) (by omega)
      have e1 : bdR ⟨5, a, b', c, r, zeC, 0, noF⟩ = r + rupF (distI a c) := by rw [bdR_eq (B := 40) (by decide) ha hc]; exact eW
      have e2 : bdR ⟨5, bif t.mx != t.my then turnPtF b' t else turnPtF a t, bif t.mx != t.my then turnPtF a t else turnPtF b' t, turnPtF c t, r, zeC, 0, noF⟩ = r + rupF (distI a c) := by
        cases t.mx != t.my
        · rw [bdR_eq (B := 40 + 1000000) (by decide) ta tc]
          show W (r + rupF (distI (turnPtF a t) (turnPtF c t))) = _
          rw [turn_dist ha hc hu (by decide) (by decide)]; exact eW
        · rw [bdR_eq (B := 40 + 1000000) (by decide) tb tc]
          show W (r + rupF (distI (turnPtF b' t) (turnPtF c t))) = _
          rw [turn_dist hb hc hu (by decide) (by decide), ← ho.2]; exact eW
      show aroundF (turnPtF c t) (turnPtF c t) (bdR ⟨5, bif t.mx != t.my then turnPtF b' t else turnPtF a t, bif t.mx != t.my then turnPtF a t else turnPtF b' t, turnPtF c t, r, zeC, 0, noF⟩) = rtB (plX t) (plQ t) t.u (aroundF c c (bdR ⟨5, a, b', c, r, zeC, 0, noF⟩))
      rw [e1, e2]
      exact aro_turn hu hc hc (by omega) (by omega)
    · have key : RB (plX t) (plQ t) t.u (foldN (bdO l) bdQ l.n) (foldN (bdO (turnC l t)) bdQ l.n) :=
        foldN_RB ⟨rfl, fun h => by cases h⟩ l.n fun i q q' hi hq => foldN_RB hq (l.m i) fun k q q' hk hq => by
          have hp := (hc.2 i hi).2 k hk
          show RB _ _ _ (true, tkF q.1 q.2 (aroundF (l.p i k) (l.p i k) 0)) (true, tkF q'.1 q'.2 (aroundF (turnPtF (l.p i k) t) (turnPtF (l.p i k) t) 0))
          rw [aro_turn hu hp hp (by decide) (by decide)]
          exact RB_tk (plQ_Q4 t) hq _
      exact key
    · have key : RB (plX t) (plQ t) t.u (foldN (fun i q => bif !(add i) then q else bif (bndF (sub i)).2 then (true, tkF q.1 q.2 (bndF (sub i)).1) else q) bdQ n) (foldN (fun i q => bif !(add i) then q else bif (bndF (turnS (sub i) t)).2 then (true, tkF q.1 q.2 (bndF (turnS (sub i) t)).1) else q) bdQ n) :=
        foldN_RB ⟨rfl, fun h => by cases h⟩ n fun i q q' hi hq => by
          have z := ih i (d + 1) (hs i hi) (th.2 i hi)
          cases add i
          · exact hq
          · show RB _ _ _ (bif (bndF (sub i)).2 then (true, tkF q.1 q.2 (bndF (sub i)).1) else q) (bif (bndF (turnS (sub i) t)).2 then (true, tkF q'.1 q'.2 (bndF (turnS (sub i) t)).1) else q')
            rw [z.1]
            cases e : (bndF (sub i)).2
            · exact hq
            · rw [z.2 e]
              exact RB_tk (plQ_Q4 t) hq _
      exact key
end Go.Proofs.Ytfooaikpcbnchaa

/-! ## Poi -/
namespace Go.Proofs.Ytfooaikpcbnchaa
open Go Go.RowKit Sym

def crossesI (p a e : P2) : Bool := (decide (a.y > p.y) != decide (e.y > p.y)) && (if e.y > a.y then decide (crossI a e p > 0) else decide (crossI a e p < 0))
theorem crossesF_eq {p a e : P2} (hp : PR p) (ha : PR a) (he : PR e) : crossesF p a e = crossesI p a e := by
  unfold crossesF crossesI
  rw [(cross_eq ha he hp).1]
  by_cases k : e.y > a.y
  · simp only [k, decide_true, if_true]
    cases decide (a.y > p.y) <;> cases decide (e.y > p.y) <;> rfl
  · simp only [k, decide_false, if_false]
    cases decide (a.y > p.y) <;> cases decide (e.y > p.y) <;> rfl
def spotB (p : P2) : B4 := ⟨p.x, p.y, p.x, p.y⟩
/-- a point lies on an edge -/
def onI (p a e : P2) : Bool := decide (min a.x e.x ≤ p.x ∧ p.x ≤ max a.x e.x ∧ min a.y e.y ≤ p.y ∧ p.y ≤ max a.y e.y ∧ crossI a e p = 0)
theorem spot_meets (p a e : P2) : meetsI (spotB p) a e = onI p a e := by
  have h : ∀ f : P2 → Bool, all4 f (spotB p) = f p := fun f => by unfold all4 spotB; dsimp only; cases f ⟨p.x, p.y⟩ <;> rfl
  unfold meetsI
  rw [h, h]
  rw [Bool.eq_iff_iff]
  unfold sepI onI spotB
  simp only [Bool.and_eq_true, Bool.not_eq_true', Bool.or_eq_false_iff, decide_eq_false_iff_not, decide_eq_true_eq]
  omega
/-! ### rectangles -/
theorem onI_h {p : P2} {x0 x1 y : Int} : onI p ⟨x0, y⟩ ⟨x1, y⟩ = decide (min x0 x1 ≤ p.x ∧ p.x ≤ max x0 x1 ∧ p.y = y) := by
  unfold onI crossI
  dsimp only
  refine decide_eq_decide.2 ⟨fun ⟨h1, h2, h3, h4, _⟩ => ⟨h1, h2, by omega⟩, fun ⟨h1, h2, h3⟩ => ⟨h1, h2, by omega, by omega, by rw [h3, Int.sub_self, Int.mul_zero, Int.zero_mul]; rfl⟩⟩
theorem onI_v {p : P2} {x y0 y1 : Int} : onI p ⟨x, y0⟩ ⟨x, y1⟩ = decide (p.x = x ∧ min y0 y1 ≤ p.y ∧ p.y ≤ max y0 y1) := by
  unfold onI crossI
  dsimp only
  refine decide_eq_decide.2 ⟨fun ⟨h1, h2, h3, h4, _⟩ => ⟨by omega, h3, h4⟩, fun ⟨h1, h2, h3⟩ => ⟨by omega, by omega, h2, h3, by rw [h1, Int.sub_self, Int.mul_zero, Int.zero_mul]; rfl⟩⟩
theorem crossesI_h {p : P2} {x0 x1 y : Int} : crossesI p ⟨x0, y⟩ ⟨x1, y⟩ = false := by
  unfold crossesI; simp
theorem crossesI_v {p : P2} {x y0 y1 : Int} : crossesI p ⟨x, y0⟩ ⟨x, y1⟩ = decide (min y0 y1 ≤ p.y ∧ p.y < max y0 y1 ∧ p.x < x) := by
  have e : crossI ⟨x, y0⟩ ⟨x, y1⟩ p = (y1 - y0) * (x - p.x) := by unfold crossI; dsimp only; grind
  unfold crossesI
  dsimp only
  rw [e, Bool.eq_iff_iff]
  by_cases k : y1 > y0
  · have s : (y1 - y0) * (x - p.x) > 0 ↔ p.x < x := by
      constructor
      · intro h
        rcases (show p.x < x ∨ x ≤ p.x by omega) with g | g
        · exact g
        · have := Int.mul_nonneg (show 0 ≤ y1 - y0 by omega) (show 0 ≤ p.x - x by omega)
          have e : (y1 - y0) * (p.x - x) = -((y1 - y0) * (x - p.x)) := by grind
          omega
      · intro h; exact Int.mul_pos (by omega) (by omega)
    simp only [k, if_true, Bool.and_eq_true, bne_iff_ne, ne_eq, decide_eq_decide, decide_eq_true_eq, s]
    omega
  · by_cases k' : y0 > y1
    · have s : (y1 - y0) * (x - p.x) < 0 ↔ p.x < x := by
        have e : (y1 - y0) * (x - p.x) = -((y0 - y1) * (x - p.x)) := by grind
        rw [e]
        constructor
        · intro h
          rcases (show p.x < x ∨ x ≤ p.x by omega) with g | g
          · exact g
          · have := Int.mul_nonneg (show 0 ≤ y0 - y1 by omega) (show 0 ≤ p.x - x by omega)
            have e : (y0 - y1) * (p.x - x) = -((y0 - y1) * (x - p.x)) := by grind
            omega
        · intro h
          have := Int.mul_pos (show 0 < y0 - y1 by omega) (show 0 < x - p.x by omega)
          omega
      simp only [k, if_false, Bool.and_eq_true, bne_iff_ne, ne_eq, decide_eq_decide, decide_eq_true_eq, s]
      omega
    · have : y0 = y1 := by omega
      subst this
      simp
      omega
theorem xor_dc {a b : Prop} [Decidable a] [Decidable b] : xor (decide a) (decide b) = decide ((a ∧ ¬ b) ∨ (¬ a ∧ b)) := by
  by_cases h : a <;> by_cases k : b <;> simp [h, k]
end Go.Proofs.Ytfooaikpcbnchaa

/-! ## Pos -/
namespace Go.Proofs.Ytfooaikpcbnchaa
open Go Go.RowKit Sym

theorem meetsI_swp (b : B4) (p q : P2) : meetsI b q p = meetsI b p q := by
  have e : ∀ c, crossI q p c = -(crossI p q c) := fun c => by unfold crossI; grind
  unfold meetsI sepI
  rw [show all4 (fun c => decide (crossI q p c > 0)) b = all4 (fun c => decide (crossI p q c < 0)) b from by
    unfold all4; simp only [e, show ∀ x : Int, decide (-x > 0) = decide (x < 0) from fun x => by rw [Bool.eq_iff_iff]; simp only [decide_eq_true_eq]; omega]]
  rw [show all4 (fun c => decide (crossI q p c < 0)) b = all4 (fun c => decide (crossI p q c > 0)) b from by
    unfold all4; simp only [e, show ∀ x : Int, decide (-x < 0) = decide (x > 0) from fun x => by rw [Bool.eq_iff_iff]; simp only [decide_eq_true_eq]; omega]]
  rw [Int.max_comm q.x, Int.max_comm q.y, Int.min_comm q.x, Int.min_comm q.y]
  cases all4 (fun c => decide (crossI p q c > 0)) b <;> cases all4 (fun c => decide (crossI p q c < 0)) b <;> rfl
theorem crossesI_swp (p a e : P2) : crossesI p e a = crossesI p a e := by
  have h : crossI e a p = -(crossI a e p) := by unfold crossI; grind
  unfold crossesI
  rw [h, Bool.eq_iff_iff]
  by_cases k : e.y > a.y <;> by_cases k' : a.y > e.y <;> simp only [k, k', if_true, if_false, Bool.and_eq_true, bne_iff_ne, ne_eq, decide_eq_decide, decide_eq_true_eq] <;> omega
/-- an edge meets a box of which it has a point on each side -/
theorem meets_two {b : B4} {a e p q : P2} (hp : hasI b p) (hq : hasI b q) (h0 : crossI a e p ≤ 0) (h1 : 0 ≤ crossI a e q) (hs : sepI b a e = false) : meetsI b a e = true := by
  obtain ⟨k, hk, hl⟩ := cross_le a e hp
  obtain ⟨k', hk', hl'⟩ := cross_ge a e hq
  have f1 : all4 (fun c => decide (crossI a e c > 0)) b = false := by
    rw [Bool.eq_false_iff]; intro h
    have := all4_iff.1 h k hk
    simp only [decide_eq_true_eq] at this; omega
  have f2 : all4 (fun c => decide (crossI a e c < 0)) b = false := by
    rw [Bool.eq_false_iff]; intro h
    have := all4_iff.1 h k' hk'
    simp only [decide_eq_true_eq] at this; omega
  unfold meetsI
  rw [hs, f1, f2]; rfl
theorem sep_no {b : B4} {a e : P2} (h1 : b.x0 ≤ max a.x e.x) (h2 : min a.x e.x ≤ b.x1) (h3 : b.y0 ≤ max a.y e.y) (h4 : min a.y e.y ≤ b.y1) : sepI b a e = false := by
  unfold sepI
  simp only [Bool.or_eq_false_iff, decide_eq_false_iff_not]
  omega
/-- left of an edge that goes up -/
theorem left_of {a e p : P2} (h1 : a.y ≤ p.y) (h2 : p.y ≤ e.y) (h : a.y < e.y) (hx : p.x < a.x) (hx' : p.x < e.x) : 0 < crossI a e p := by
  have e0 : crossI a e p = (e.x - p.x) * (p.y - a.y) + (a.x - p.x) * (e.y - p.y) := by unfold crossI; grind
  have p1 := Int.mul_nonneg (show 0 ≤ e.x - p.x by omega) (show 0 ≤ p.y - a.y by omega)
  have p2 := Int.mul_nonneg (show 0 ≤ a.x - p.x by omega) (show 0 ≤ e.y - p.y by omega)
  rcases (show a.y < p.y ∨ p.y < e.y by omega) with k | k
  · have := Int.mul_pos (show 0 < e.x - p.x by omega) (show 0 < p.y - a.y by omega); omega
  · have := Int.mul_pos (show 0 < a.x - p.x by omega) (show 0 < e.y - p.y by omega); omega
theorem right_of {a e p : P2} (h1 : a.y ≤ p.y) (h2 : p.y ≤ e.y) (hx : a.x ≤ p.x) (hx' : e.x ≤ p.x) : crossI a e p ≤ 0 := by
  have e0 : crossI a e p = -((p.x - e.x) * (p.y - a.y)) - (p.x - a.x) * (e.y - p.y) := by unfold crossI; grind
  have p1 := Int.mul_nonneg (show 0 ≤ p.x - e.x by omega) (show 0 ≤ p.y - a.y by omega)
  have p2 := Int.mul_nonneg (show 0 ≤ p.x - a.x by omega) (show 0 ≤ e.y - p.y by omega)
  omega
theorem crosses_up {p a e : P2} (h : a.y ≤ e.y) : crossesI p a e = true ↔ a.y ≤ p.y ∧ p.y < e.y ∧ 0 < crossI a e p := by
  unfold crossesI
  by_cases k : e.y > a.y
  · simp only [k, if_true, Bool.and_eq_true, bne_iff_ne, ne_eq, decide_eq_decide, decide_eq_true_eq]; omega
  · simp only [k, if_false, Bool.and_eq_true, bne_iff_ne, ne_eq, decide_eq_decide, decide_eq_true_eq]; omega
/-- moved to the side -/
theorem cross_side {b : B4} {a e p q : P2} (hp : hasI b p) (hq : hasI b q) (hy : p.y = q.y) (hm : meetsI b a e = false) : crossesI p a e = crossesI q a e := by
  have one : ∀ {a e : P2}, a.y ≤ e.y → meetsI b a e = false → ∀ {p q : P2}, hasI b p → hasI b q → p.y = q.y → crossesI p a e = true → crossesI q a e = true := by
    intro a e h hm p q hp hq hy hc
    obtain ⟨c1, c2, c3⟩ := (crosses_up h).1 hc
    refine (crosses_up h).2 ⟨by omega, by omega, ?_⟩
    rcases (show 0 < crossI a e q ∨ crossI a e q ≤ 0 by omega) with g | g
    · exact g
    · exfalso
      have hs : sepI b a e = false := by
        unfold hasI at hp hq
        refine sep_no ?_ ?_ (by omega) (by omega)
        · rcases (show b.x0 ≤ max a.x e.x ∨ max a.x e.x < b.x0 by omega) with k | k
          · exact k
          · have := right_of (a := a) (e := e) (p := p) (by omega) (by omega) (by omega) (by omega); omega
        · rcases (show min a.x e.x ≤ b.x1 ∨ b.x1 < min a.x e.x by omega) with k | k
          · exact k
          · have := left_of (a := a) (e := e) (p := q) (by omega) (by omega) (by omega) (by omega) (by omega); omega
      rw [meets_two hq hp g (by omega) hs] at hm; cases hm
  rw [Bool.eq_iff_iff]
  rcases Int.le_total a.y e.y with h | h
  · exact ⟨one h hm hp hq hy, one h hm hq hp hy.symm⟩
  · rw [← crossesI_swp p, ← crossesI_swp q]
    rw [← meetsI_swp] at hm
    exact ⟨one h hm hp hq hy, one h hm hq hp hy.symm⟩
/-- right of the way up from height v to height v' -/
def stripB (u v v' : Int) (w : P2) : Bool := decide (v < w.y ∧ w.y ≤ v' ∧ u < w.x)
theorem cross_end (a e : P2) (u : Int) : crossI a e ⟨u, e.y⟩ = (e.y - a.y) * (e.x - u) ∧ crossI a e ⟨u, a.y⟩ = (e.y - a.y) * (a.x - u) := by
  unfold crossI; dsimp only; constructor <;> grind
theorem mul_sign {t x : Int} (h : 0 ≤ t) : (0 < x ∧ 0 ≤ t * x) ∨ (x = 0 ∧ t * x = 0) ∨ (x < 0 ∧ t * x ≤ 0) := by
  rcases (show 0 < x ∨ x = 0 ∨ x < 0 by omega) with k | k | k
  · exact .inl ⟨k, Int.mul_nonneg h (by omega)⟩
  · subst k; exact .inr (.inl ⟨rfl, Int.mul_zero _⟩)
  · have := Int.mul_nonneg h (show 0 ≤ -x by omega)
    rw [Int.mul_neg] at this; exact .inr (.inr ⟨k, by omega⟩)
/-- who is where: heights -/
theorem rise_cases {ay ey ax ex u v v' G1 G2 : Int} (h : ay ≤ ey) (hv : v ≤ v')
    (hC : ay ≤ v → v' < ey → (0 < G1 ↔ 0 < G2)) (hD : ay ≤ v → v < ey → ey ≤ v' → (0 < G1 ↔ u < ex)) (hE : v < ay → ay ≤ v' → v' < ey → (0 < G2 ↔ u < ax)) (hF : v < ay → ey ≤ v' → (u < ax ↔ u < ex)) :
    xor (decide (ay ≤ v ∧ v < ey ∧ 0 < G1)) (decide (ay ≤ v' ∧ v' < ey ∧ 0 < G2)) = xor (decide (v < ay ∧ ay ≤ v' ∧ u < ax)) (decide (v < ey ∧ ey ≤ v' ∧ u < ex)) := by
  have D : ∀ {a b : Prop} [Decidable a] [Decidable b], (a ↔ b) → decide a = decide b := fun h => decide_eq_decide.2 h
  have N : ∀ {a : Prop} [Decidable a], ¬ a → decide a = false := fun h => decide_eq_false h
  rcases (show ey ≤ v ∨ v' < ay ∨ (ay ≤ v ∧ v' < ey) ∨ (ay ≤ v ∧ v < ey ∧ ey ≤ v') ∨ (v < ay ∧ ay ≤ v' ∧ v' < ey) ∨ (v < ay ∧ ey ≤ v') by omega) with k | k | ⟨k1, k2⟩ | ⟨k1, k2, k3⟩ | ⟨k1, k2, k3⟩ | ⟨k1, k2⟩
  · rw [N (show ¬ (ay ≤ v ∧ v < ey ∧ 0 < G1) by omega), N (show ¬ (ay ≤ v' ∧ v' < ey ∧ 0 < G2) by omega), N (show ¬ (v < ay ∧ ay ≤ v' ∧ u < ax) by omega), N (show ¬ (v < ey ∧ ey ≤ v' ∧ u < ex) by omega)]
  · rw [N (show ¬ (ay ≤ v ∧ v < ey ∧ 0 < G1) by omega), N (show ¬ (ay ≤ v' ∧ v' < ey ∧ 0 < G2) by omega), N (show ¬ (v < ay ∧ ay ≤ v' ∧ u < ax) by omega), N (show ¬ (v < ey ∧ ey ≤ v' ∧ u < ex) by omega)]
  · have := hC k1 k2
    rw [D (show (ay ≤ v ∧ v < ey ∧ 0 < G1) ↔ 0 < G1 from ⟨fun z => z.2.2, fun z => ⟨k1, by omega, z⟩⟩), D (show (ay ≤ v' ∧ v' < ey ∧ 0 < G2) ↔ 0 < G1 from ⟨fun z => this.2 z.2.2, fun z => ⟨by omega, k2, this.1 z⟩⟩), N (show ¬ (v < ay ∧ ay ≤ v' ∧ u < ax) by omega), N (show ¬ (v < ey ∧ ey ≤ v' ∧ u < ex) by omega)]
    simp
  · have := hD k1 k2 k3
    rw [D (show (ay ≤ v ∧ v < ey ∧ 0 < G1) ↔ u < ex from ⟨fun z => this.1 z.2.2, fun z => ⟨k1, k2, this.2 z⟩⟩), N (show ¬ (ay ≤ v' ∧ v' < ey ∧ 0 < G2) by omega), N (show ¬ (v < ay ∧ ay ≤ v' ∧ u < ax) by omega), D (show (v < ey ∧ ey ≤ v' ∧ u < ex) ↔ u < ex from ⟨fun z => z.2.2, fun z => ⟨k2, k3, z⟩⟩)]
    simp
  · have := hE k1 k2 k3
    rw [N (show ¬ (ay ≤ v ∧ v < ey ∧ 0 < G1) by omega), D (show (ay ≤ v' ∧ v' < ey ∧ 0 < G2) ↔ u < ax from ⟨fun z => this.1 z.2.2, fun z => ⟨k2, k3, this.2 z⟩⟩), D (show (v < ay ∧ ay ≤ v' ∧ u < ax) ↔ u < ax from ⟨fun z => z.2.2, fun z => ⟨k1, k2, z⟩⟩), N (show ¬ (v < ey ∧ ey ≤ v' ∧ u < ex) by omega)]
    simp
  · have := hF k1 k2
    rw [N (show ¬ (ay ≤ v ∧ v < ey ∧ 0 < G1) by omega), N (show ¬ (ay ≤ v' ∧ v' < ey ∧ 0 < G2) by omega), D (show (v < ay ∧ ay ≤ v' ∧ u < ax) ↔ u < ax from ⟨fun z => z.2.2, fun z => ⟨k1, by omega, z⟩⟩), D (show (v < ey ∧ ey ≤ v' ∧ u < ex) ↔ u < ax from ⟨fun z => this.2 z.2.2, fun z => ⟨by omega, k2, this.1 z⟩⟩)]
    simp
theorem cross_rise {b : B4} {a e : P2} {u v v' : Int} (hv : v ≤ v') (hp : hasI b ⟨u, v⟩) (hq : hasI b ⟨u, v'⟩) (hm : meetsI b a e = false) : xor (crossesI ⟨u, v⟩ a e) (crossesI ⟨u, v'⟩ a e) = xor (stripB u v v' a) (stripB u v v' e) := by
  have one : ∀ {a e : P2}, a.y ≤ e.y → meetsI b a e = false → xor (crossesI ⟨u, v⟩ a e) (crossesI ⟨u, v'⟩ a e) = xor (stripB u v v' a) (stripB u v v' e) := by
    intro a e h hm
    have c1 := crosses_up (p := ⟨u, v⟩) h
    have c2 := crosses_up (p := ⟨u, v'⟩) h
    obtain ⟨ee, ea⟩ := cross_end a e u
    have se := mul_sign (t := e.y - a.y) (x := e.x - u) (by omega)
    have sa := mul_sign (t := e.y - a.y) (x := a.x - u) (by omega)
    rw [← ee] at se
    rw [← ea] at sa
    have hu : b.x0 ≤ u ∧ u ≤ b.x1 ∧ b.y0 ≤ v ∧ v' ≤ b.y1 := by unfold hasI at hp hq; dsimp only at *; omega
    have rl : ∀ y, v ≤ y → y ≤ v' → hasI b ⟨u, y⟩ := fun y h1 h2 => by unfold hasI; dsimp only; omega
    -- no two points of the way lie on both sides
    have no : ∀ y y', v ≤ y → y ≤ v' → v ≤ y' → y' ≤ v' → a.y ≤ v' → v ≤ e.y → min a.x e.x ≤ u → u ≤ max a.x e.x → ¬ (crossI a e ⟨u, y⟩ ≤ 0 ∧ 0 ≤ crossI a e ⟨u, y'⟩) := fun y y' h1 h2 h3 h4 h5 h6 h7 h8 g => by
      rw [meets_two (rl y h1 h2) (rl y' h3 h4) g.1 g.2 (sep_no (by omega) (by omega) (by omega) (by omega))] at hm; cases hm
    have lf : ∀ y, a.y ≤ y → y ≤ e.y → a.y < e.y → u < a.x → u < e.x → 0 < crossI a e ⟨u, y⟩ := fun y h1 h2 h3 h4 h5 => left_of (p := ⟨u, y⟩) h1 h2 h3 h4 h5
    have rt : ∀ y, a.y ≤ y → y ≤ e.y → a.x ≤ u → e.x ≤ u → crossI a e ⟨u, y⟩ ≤ 0 := fun y h1 h2 h4 h5 => right_of (p := ⟨u, y⟩) h1 h2 h4 h5
    dsimp only at c1 c2
    have X1 : crossesI ⟨u, v⟩ a e = decide (a.y ≤ v ∧ v < e.y ∧ 0 < crossI a e ⟨u, v⟩) := by rw [Bool.eq_iff_iff, decide_eq_true_eq]; exact c1
    have X2 : crossesI ⟨u, v'⟩ a e = decide (a.y ≤ v' ∧ v' < e.y ∧ 0 < crossI a e ⟨u, v'⟩) := by rw [Bool.eq_iff_iff, decide_eq_true_eq]; exact c2
    rw [X1, X2]
    unfold stripB
    have lr : (u < a.x ∧ u < e.x) ∨ (a.x ≤ u ∧ e.x ≤ u) ∨ (min a.x e.x ≤ u ∧ u ≤ max a.x e.x) := by omega
    refine rise_cases h hv (fun k1 k2 => ?_) (fun k1 k2 k3 => ?_) (fun k1 k2 k3 => ?_) (fun k1 k2 => ?_)
    · rcases lr with ⟨g1, g2⟩ | ⟨g1, g2⟩ | ⟨g1, g2⟩
      · exact ⟨fun _ => lf v' (by omega) (by omega) (by omega) g1 g2, fun _ => lf v (by omega) (by omega) (by omega) g1 g2⟩
      · have r1 := rt v (by omega) (by omega) g1 g2
        have r2 := rt v' (by omega) (by omega) g1 g2
        omega
      · have n1 := no v v' (Int.le_refl _) hv hv (Int.le_refl _) (by omega) (by omega) g1 g2
        have n2 := no v' v hv (Int.le_refl _) (Int.le_refl _) hv (by omega) (by omega) g1 g2
        omega
    · rcases lr with ⟨g1, g2⟩ | ⟨g1, g2⟩ | ⟨g1, g2⟩
      · exact ⟨fun _ => g2, fun _ => lf v (by omega) (by omega) (by omega) g1 g2⟩
      · have r1 := rt v (by omega) (by omega) g1 g2
        omega
      · have n1 := no v e.y (Int.le_refl _) hv (by omega) (by omega) (by omega) (by omega) g1 g2
        have n2 := no e.y v (by omega) (by omega) (Int.le_refl _) hv (by omega) (by omega) g1 g2
        omega
    · rcases lr with ⟨g1, g2⟩ | ⟨g1, g2⟩ | ⟨g1, g2⟩
      · exact ⟨fun _ => g1, fun _ => lf v' (by omega) (by omega) (by omega) g1 g2⟩
      · have r1 := rt v' (by omega) (by omega) g1 g2
        omega
      · have n1 := no v' a.y hv (Int.le_refl _) (by omega) (by omega) (by omega) (by omega) g1 g2
        have n2 := no a.y v' (by omega) (by omega) hv (Int.le_refl _) (by omega) (by omega) g1 g2
        omega
    · rcases lr with ⟨g1, g2⟩ | ⟨g1, g2⟩ | ⟨g1, g2⟩
      · omega
      · omega
      · have n1 := no a.y e.y (by omega) (by omega) (by omega) (by omega) (by omega) (by omega) g1 g2
        have n2 := no e.y a.y (by omega) (by omega) (by omega) (by omega) (by omega) (by omega) g1 g2
        omega
  rcases Int.le_total a.y e.y with h | h
  · exact one h hm
  · rw [← meetsI_swp] at hm
    rw [← crossesI_swp ⟨u, v⟩, ← crossesI_swp ⟨u, v'⟩, one h hm, Bool.xor_comm]
/-! ### contours -/
theorem parN_congr {f g : Nat → Bool} : ∀ {n : Nat}, (∀ k, k < n → f k = g k) → parN f n = parN g n
  | 0, _ => rfl
  | n + 1, h => by simp only [parN]; rw [parN_congr fun k hk => h k (by omega), h n (by omega)]
theorem anyN_congr {f g : Nat → Bool} : ∀ {n : Nat}, (∀ k, k < n → f k = g k) → anyN f n = anyN g n
  | 0, _ => rfl
  | n + 1, h => by simp only [anyN]; rw [anyN_congr fun k hk => h k (by omega), h n (by omega)]
theorem parN_xor (f g : Nat → Bool) : ∀ n, xor (parN f n) (parN g n) = parN (fun k => xor (f k) (g k)) n
  | 0 => rfl
  | n + 1 => by
    simp only [parN, ← parN_xor f g n]
    cases parN f n <;> cases parN g n <;> cases f n <;> cases g n <;> rfl
theorem parN_false : ∀ n, parN (fun _ => false) n = false
  | 0 => rfl
  | n + 1 => by simp only [parN, parN_false n]; rfl
theorem nxt_mid {m k : Nat} (h : k + 1 < m) : nxt m k = k + 1 := by
  unfold nxt
  rw [Int.tmod_eq_of_lt (by omega) (by omega)]; omega
theorem nxt_end (M : Nat) : nxt (M + 1) M = 0 := by
  unfold nxt
  rw [show ((M : Int) + 1) = ((M + 1 : Nat) : Int) by omega, Int.tmod_self]; rfl
theorem nxt_lt {m k : Nat} (h : k < m) : nxt m k < m := by
  rcases (show k + 1 < m ∨ k + 1 = m by omega) with g | g
  · rw [nxt_mid g]; exact g
  · subst g; rw [nxt_end]; omega
theorem par_way (R : Nat → Bool) : ∀ n, parN (fun k => xor (R k) (R (k + 1))) n = xor (R 0) (R n)
  | 0 => by simp [parN]
  | n + 1 => by
    simp only [parN, par_way R n]
    cases R 0 <;> cases R n <;> cases R (n + 1) <;> rfl
/-- around a contour nothing is left -/
theorem par_round (R : Nat → Bool) (m : Nat) : parN (fun k => xor (R k) (R (nxt m k))) m = false := by
  cases m with
  | zero => rfl
  | succ M =>
    simp only [parN]
    rw [parN_congr (g := fun k => xor (R k) (R (k + 1))) fun k hk => by rw [nxt_mid (by omega)], par_way, nxt_end]
    cases R 0 <;> cases R M <;> rfl
structure PRC (l : Ctr) : Prop where
  p : ∀ i, i < l.n → ∀ k, k < l.m i → PR (l.p i k)
def oddI (p : P2) (l : Ctr) : Bool := parN (fun i => parN (edgeC l (crossesI p) i) (l.m i)) l.n
def touchI (b : B4) (l : Ctr) : Bool := anyN (fun i => anyN (edgeC l (meetsI b) i) (l.m i)) l.n
theorem oddF_eq {p : P2} {l : Ctr} (hp : PR p) (hl : PRC l) : oddF p l = oddI p l := parN_congr fun i hi => parN_congr fun k hk => crossesF_eq hp (hl.p i hi k hk) (hl.p i hi _ (nxt_lt hk))
theorem touchF_eq {b : B4} {l : Ctr} (hb : BR b) (hx : b.x0 ≤ b.x1) (hy : b.y0 ≤ b.y1) (hl : PRC l) : touchF b l = touchI b l := anyN_congr fun i hi => anyN_congr fun k hk => meets_eq hb (hl.p i hi k hk) (hl.p i hi _ (nxt_lt hk)) hx hy
theorem touchI_no {b : B4} {l : Ctr} (h : touchI b l = false) : ∀ i, i < l.n → ∀ k, k < l.m i → meetsI b (l.p i k) (l.p i (nxt (l.m i) k)) = false := fun i hi k hk => by
  cases hq : meetsI b (l.p i k) (l.p i (nxt (l.m i) k)) with
  | false => rfl
  | true =>
    have : touchI b l = true := anyN_iff.2 ⟨i, hi, anyN_iff.2 ⟨k, hk, hq⟩⟩
    rw [h] at this; cases this
theorem odd_side {b : B4} {l : Ctr} {p q : P2} (h : touchI b l = false) (hp : hasI b p) (hq : hasI b q) (hy : p.y = q.y) : oddI p l = oddI q l :=
  parN_congr fun i hi => parN_congr fun k hk => cross_side hp hq hy (touchI_no h i hi k hk)
theorem odd_rise {b : B4} {l : Ctr} {u v v' : Int} (h : touchI b l = false) (hv : v ≤ v') (hp : hasI b ⟨u, v⟩) (hq : hasI b ⟨u, v'⟩) : oddI ⟨u, v⟩ l = oddI ⟨u, v'⟩ l := by
  have e : xor (oddI ⟨u, v⟩ l) (oddI ⟨u, v'⟩ l) = false := by
    unfold oddI
    rw [parN_xor, parN_congr (g := fun _ => false) fun i hi => ?_, parN_false]
    rw [parN_xor, parN_congr (f := fun k => xor (edgeC l (crossesI ⟨u, v⟩) i k) (edgeC l (crossesI ⟨u, v'⟩) i k)) (g := fun k => xor (stripB u v v' (l.p i k)) (stripB u v v' (l.p i (nxt (l.m i) k)))) fun k hk => cross_rise hv hp hq (touchI_no h i hi k hk)]
    exact par_round (fun k => stripB u v v' (l.p i k)) (l.m i)
  revert e
  cases oddI ⟨u, v⟩ l <;> cases oddI ⟨u, v'⟩ l <;> simp
/-- A box that no edge meets has one parity. -/
theorem odd_box {b : B4} {l : Ctr} {p q : P2} (h : touchI b l = false) (hp : hasI b p) (hq : hasI b q) : oddI p l = oddI q l := by
  have hm : hasI b ⟨p.x, q.y⟩ := ⟨hp.1, hp.2.1, hq.2.2.1, hq.2.2.2⟩
  have e1 : oddI p l = oddI ⟨p.x, q.y⟩ l := by
    rcases Int.le_total p.y q.y with k | k
    · exact odd_rise (u := p.x) (v := p.y) h k hp hm
    · exact (odd_rise (u := p.x) (v' := p.y) h k hm hp).symm
  rw [e1]
  exact odd_side h hm hq rfl
theorem onI_meets {b : B4} {p a e : P2} (hp : hasI b p) (h : onI p a e = true) : meetsI b a e = true := by
  unfold onI at h
  rw [decide_eq_true_eq] at h
  obtain ⟨h1, h2, h3, h4, h5⟩ := h
  unfold hasI at hp
  exact meets_two (p := p) (q := p) hp hp (by omega) (by omega) (sep_no (by omega) (by omega) (by omega) (by omega))
theorem touch_spot {b : B4} {l : Ctr} {p : P2} (h : touchI b l = false) (hp : hasI b p) : touchI (spotB p) l = false := by
  rw [Bool.eq_false_iff]
  intro hq
  obtain ⟨i, hi, hq⟩ := anyN_iff.1 hq
  obtain ⟨k, hk, hq⟩ := anyN_iff.1 hq
  have := touchI_no h i hi k hk
  unfold edgeC at hq
  rw [spot_meets] at hq
  rw [onI_meets hp hq] at this; cases this
end Go.Proofs.Ytfooaikpcbnchaa

/-! ## Pou -/
namespace Go.Proofs.Ytfooaikpcbnchaa
open Go Go.RowKit Sym
set_option maxRecDepth 100000

/-- what a class says of a point -/
theorem polyClass_sure {b : B4} {l : Ctr} {q : P2} (hb : BR b) (hx : b.x0 ≤ b.x1) (hy : b.y0 ≤ b.y1) (hl : PRC l) (hq : hasI b q) :
    (polyClassF b l = 0 ∧ polyHasF q l = false) ∨ polyClassF b l = 1 ∨ (polyClassF b l = 2 ∧ polyHasF q l = true) := by
  have hQ := PR_of_has hb hq
  have hC : hasI b ⟨b.x0, b.y0⟩ := ⟨Int.le_refl _, hx, Int.le_refl _, hy⟩
  unfold polyClassF polyHasF
  rw [touchF_eq hb hx hy hl, touchF_eq (b := spotF q) ⟨hQ.x, hQ.y, hQ.x, hQ.y⟩ (Int.le_refl _) (Int.le_refl _) hl, oddF_eq hQ hl, oddF_eq (PR_of_has hb hC) hl, (boxHas_eq b ⟨b.x0, b.y0⟩).2 hC]
  cases h : touchI b l with
  | true => exact .inr (.inl rfl)
  | false =>
    rw [show touchI (spotF q) l = false from touch_spot h hq, odd_box h hC hq]
    cases oddI q l
    · exact .inl ⟨rfl, rfl⟩
    · exact .inr (.inr ⟨rfl, rfl⟩)
theorem tamP_r (l : Ctr) (sm : Bool) (i k : Nat) : PR (tamP l sm i k) := by
  have h := lPt_r (l.p i k)
  have g := lClose_r (lPt (l.p i k)) (n := 20) (by decide) (by decide)
  unfold tamP
  cases sm
  · exact ⟨⟨by show _ ≤ (lPt (l.p i k)).x; omega, by show (lPt (l.p i k)).x ≤ _; omega⟩, ⟨by show _ ≤ (lPt (l.p i k)).y; omega, by show (lPt (l.p i k)).y ≤ _; omega⟩⟩
  · exact ⟨⟨by show _ ≤ (lClose (lPt (l.p i k)) 20).x; omega, by show (lClose (lPt (l.p i k)) 20).x ≤ _; omega⟩, ⟨by show _ ≤ (lClose (lPt (l.p i k)) 20).y; omega, by show (lClose (lPt (l.p i k)) 20).y ≤ _; omega⟩⟩
theorem tameC_r (l : Ctr) (sm : Bool) : PRC (tameC l sm) := ⟨fun i _ k _ => tamP_r l sm i k⟩
theorem tameC_B (l : Ctr) (sm : Bool) : CtrB (tameC l sm) := ⟨by show min l.n 4 ≤ _; omega, fun i _ => by show min (l.m i) 12 ≤ _; omega⟩
end Go.Proofs.Ytfooaikpcbnchaa

/-! ## Fis -/
namespace Go.Proofs.Ytfooaikpcbnchaa
open Go Go.RowKit Sym
set_option maxRecDepth 100000

/-- a class, and whether a point of the box is in it -/
structure Sure (i : Bool) (k : Int) : Prop where
  lo : 0 ≤ k
  hi : k ≤ 2
  i1 : k = 2 → i = true
  i0 : k = 0 → i = false
theorem Sure.of {i : Bool} {k : Int} (h : andB (andB (andB (andB (orB (k != 2) i) (orB (k != 0) (!i))) (decide (k ≥ 0))) (decide (k ≤ 2))) true = true) : Sure i k := by
  simp only [andB_eq, orB_eq, Bool.and_eq_true, Bool.or_eq_true, bne_iff_ne, decide_eq_true_eq, Bool.not_eq_true'] at h
  obtain ⟨⟨⟨⟨h1, h2⟩, h3⟩, h4⟩, _⟩ := h
  exact ⟨h3, h4, fun e => h1.resolve_left fun q => q e, fun e => h2.resolve_left fun q => q e⟩
theorem Sure.fold {i h : Bool} {was cls : Int} (a : Sure h was) (c : Sure i cls) (add : Bool) : Sure (bif i then add else h) (foldF was cls add) := by
  obtain ⟨a1, a2, a3, a4⟩ := a
  obtain ⟨c1, c2, c3, c4⟩ := c
  have w : was = 0 ∨ was = 1 ∨ was = 2 := by omega
  have k : cls = 0 ∨ cls = 1 ∨ cls = 2 := by omega
  rcases w with rfl | rfl | rfl <;> rcases k with rfl | rfl | rfl <;> cases add <;> cases i <;> cases h <;> simp at a3 a4 c3 c4 <;> exact ⟨by decide, by decide, by decide, by decide⟩
/-- from the first part to the last -/
def hasN (g : Nat → Bool) (add : Nat → Bool) (i : Nat) (h : Bool) : Bool := bif g i then add i else h
theorem has_back (g : Nat → Bool) (add : Nat → Bool) (n : Nat) : ∀ t, t ≤ n → (((runN (fun t (_ : Bool) => bif g (n - 1 - t) then (false, add (n - 1 - t)) else (true, false)) false t).1 = true → foldN (hasN g add) false n = foldN (hasN g add) false (n - t) ∧ (runN (fun t (_ : Bool) => bif g (n - 1 - t) then (false, add (n - 1 - t)) else (true, false)) false t).2 = false)
    ∧ ((runN (fun t (_ : Bool) => bif g (n - 1 - t) then (false, add (n - 1 - t)) else (true, false)) false t).1 = false → (runN (fun t (_ : Bool) => bif g (n - 1 - t) then (false, add (n - 1 - t)) else (true, false)) false t).2 = foldN (hasN g add) false n))
  | 0, _ => ⟨fun _ => ⟨rfl, rfl⟩, fun h => (by cases h)⟩
  | t + 1, ht => by
    have ih := has_back g add n t (by omega)
    revert ih
    generalize hr : runN (fun t (_ : Bool) => bif g (n - 1 - t) then (false, add (n - 1 - t)) else (true, false)) false t = r
    intro ih
    obtain ⟨r1, r2⟩ := r
    cases r1
    · rw [runN_stop hr (by omega : t ≤ t + 1)]
      exact ⟨fun h => (by cases h), fun _ => ih.2 rfl⟩
    · rw [runN_go hr]
      have e := (ih.1 rfl).1
      have em : n - t = (n - 1 - t) + 1 := by omega
      have e2 : foldN (hasN g add) false (n - t) = bif g (n - 1 - t) then add (n - 1 - t) else foldN (hasN g add) false (n - 1 - t) := by rw [em]; rfl
      cases q : g (n - 1 - t)
      · refine ⟨fun _ => ⟨?_, rfl⟩, fun h => (by cases h)⟩
        rw [e, e2, q, show n - (t + 1) = n - 1 - t by omega]; rfl
      · refine ⟨fun h => (by cases h), fun _ => ?_⟩
        rw [e, e2, q]; rfl
theorem has_fold (g : Nat → Bool) (add : Nat → Bool) (n : Nat) : (runN (fun t (_ : Bool) => bif g (n - 1 - t) then (false, add (n - 1 - t)) else (true, false)) false n).2 = foldN (hasN g add) false n := by
  have h := has_back g add n n (Nat.le_refl n)
  revert h
  generalize runN (fun t (_ : Bool) => bif g (n - 1 - t) then (false, add (n - 1 - t)) else (true, false)) false n = r
  intro h
  obtain ⟨r1, r2⟩ := r
  cases r1
  · exact h.2 rfl
  · have q := h.1 rfl
    rw [q.1, Nat.sub_self]; exact q.2
theorem sure_fold (f : Nat → Bool) (c : Nat → Int) (add : Nat → Bool) : ∀ n, (∀ i, i < n → Sure (f i) (c i)) → Sure (foldN (hasN f add) false n) (foldN (fun i acc => foldF acc (c i) (add i)) 0 n)
  | 0, _ => (⟨by decide, by decide, fun h => (by cases h), fun _ => rfl⟩ : Sure false 0)
  | n + 1, h => (sure_fold f c add n fun i hi => h i (by omega)).fold (h n (by omega)) (add n)
theorem disc_sure {b : B4} {c : P2} {r : Int} {x y : Int} (h : discSure0 b c r x y = true) : Sure (discHas (lIn b x y) c r) (discClass b c r) := by
  unfold discSure0 at h
  dsimp only at h
  revert h
  generalize orB _ _ = o
  cases o
  · exact Sure.of
  · intro h; cases h
theorem line_sure {b : B4} {a c : P2} {r : Int} {x y : Int} (h : lineSure0 b a c r x y = true) : Sure (lineHas (lIn b x y) a c r) (lineClass b a c r) := by
  unfold lineSure0 at h
  simp only [andB_eq, orB_eq, Bool.and_eq_true, Bool.or_eq_true, bne_iff_ne, decide_eq_true_eq, Bool.not_eq_true'] at h
  obtain ⟨⟨⟨⟨⟨_, h1⟩, h2⟩, h3⟩, h4⟩, _⟩ := h
  exact ⟨h3, h4, fun e => h1.resolve_left fun q => q e, fun e => (h2.resolve_left fun q => q e).1.1⟩
theorem bar_sure {b : B4} {a c : P2} {r : Int} {x y : Int} (h : barSure0 b a c r x y = true) : Sure (barHas (lIn b x y) a c r) (barClass b a c r) := by
  unfold barSure0 at h
  simp only [andB_eq, orB_eq, Bool.and_eq_true, Bool.or_eq_true, bne_iff_ne, decide_eq_true_eq, Bool.not_eq_true'] at h
  obtain ⟨⟨⟨⟨⟨_, h1⟩, h2⟩, h3⟩, h4⟩, _⟩ := h
  exact ⟨h3, h4, fun e => h1.resolve_left fun q => q e, fun e => (h2.resolve_left fun q => q e).1⟩
theorem wid_bd {r : Int} (h : widF r = true) : 1 ≤ r ∧ r ≤ 536870912 := by
  unfold widF at h
  rw [andB_eq, Bool.and_eq_true, decide_eq_true_eq, decide_eq_true_eq] at h
  omega
theorem tmX_le (sm : Bool) : tmX sm ≤ 536870912 := by cases sm <;> decide
theorem PB_PR {sm : Bool} {p : P2} (h : PB (tmX sm) p) : PR p := near_PR (PB_near (tmX_le sm) h)
/-- tame shapes are sure of the points of a box -/
theorem shape_sure (sm : Bool) {b : B4} (hb : BR b) (hf : Fits b) (hx : b.x0 ≤ b.x1) (hy : b.y0 ≤ b.y1) (x y : Int) : ∀ (s : Shp) (d : Int), Sure (hasF (tameS s sm d) (lIn b x y)) (classF (tameS s sm d) b) := by
  intro s
  induction s with
  | nil => intro d; exact (⟨by decide, by decide, fun h => (by cases h), fun _ => rfl⟩ : Sure false 0)
  | mk k a b' c r l n add sub ih =>
    intro d
    have kk := tmKk_bd ⟨k, a, b', c, r, l, n, noF⟩ d
    have kb := tmB_ok ⟨k, a, b', c, r, l, n, noF⟩ sm
    have kr := wid_bd (tmR_ok ⟨k, a, b', c, r, l, n, noF⟩ sm)
    have ka := PB_PR (at_PB a sm)
    simp only [tameS]
    generalize tmKk ⟨k, a, b', c, r, l, n, noF⟩ d = K at *
    have : K = 1 ∨ K = 2 ∨ K = 3 ∨ K = 4 ∨ K = 5 ∨ K = 6 := by omega
    rcases this with rfl | rfl | rfl | rfl | rfl | rfl
    · exact disc_sure (discSure0_true x y hb ka hx hy kr.1 (by omega))
    · show Sure (polyHasF (lIn b x y) (tameC l sm)) (polyClassF b (tameC l sm))
      rcases polyClass_sure hb hx hy (tameC_r l sm) (lIn_has x y hb hx hy).1 with ⟨h, k⟩ | h | ⟨h, k⟩
      · rw [h, k]; exact ⟨by decide, by decide, fun e => (by cases e), fun _ => rfl⟩
      · rw [h]; exact ⟨by decide, by decide, fun e => (by cases e), fun e => (by cases e)⟩
      · rw [h, k]; exact ⟨by decide, by decide, fun _ => rfl, fun e => (by cases e)⟩
    · exact line_sure (lineSure0_true x y hb ka (PB_PR kb.1) hx hy kr.1 (by omega))
    · exact bar_sure (barSure0_true x y hb ka (PB_PR kb.1) hx hy kr.1 (by omega))
    · exact Sure.of (ringSure0_true c (band a.x 65535) (band a.y 65535) b'.x sm x y hf kr.1 (by omega))
    · have e := has_fold (fun i => hasF (tameS (sub i) sm (W (d + 1))) (lIn b x y)) add (tmN ⟨k, a, b', c, r, l, n, noF⟩ d)
      show Sure (runN (fun t (_ : Bool) => bif hasF (tameS (sub (tmN ⟨k, a, b', c, r, l, n, noF⟩ d - 1 - t)) sm (W (d + 1))) (lIn b x y) then (false, add (tmN ⟨k, a, b', c, r, l, n, noF⟩ d - 1 - t)) else (true, false)) false (tmN ⟨k, a, b', c, r, l, n, noF⟩ d)).2 (foldN (fun i acc => foldF acc (classF (tameS (sub i) sm (W (d + 1))) b) (add i)) 0 (tmN ⟨k, a, b', c, r, l, n, noF⟩ d))
      rw [e]
      exact sure_fold _ (fun i => classF (tameS (sub i) sm (W (d + 1))) b) add _ fun i _ => ih i _
end Go.Proofs.Ytfooaikpcbnchaa
