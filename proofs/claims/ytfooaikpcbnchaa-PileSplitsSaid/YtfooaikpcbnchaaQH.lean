/-
  OWN WORK. Joined by merge.py: Tua Tub Roe Pia Rof.
-/
import Derived.Test.YtfooaikpcbnchaaQG
import Derived.Test.YtfooaikpcbnchaaQE
import Derived.Test.YtfooaikpcbnchaaQF
/-! ## Tua -/
namespace Go.Proofs.Ytfooaikpcbnchaa
open Go Go.RowKit Sym
set_option maxRecDepth 100000

def zl (b : Bool) : List Dyn.DC → List Dyn.DC → List Dyn.DC
  | a :: us, z :: zs => (bif b then a else z) :: zl b us zs
  | _, _ => []
theorem zl_t : ∀ {us zs : List Dyn.DC}, us.length = zs.length → zl true us zs = us
  | [], [], _ => rfl
  | a :: us, z :: zs, h => by show a :: zl true us zs = _; rw [zl_t (Nat.succ.inj h)]
theorem zl_f : ∀ {us zs : List Dyn.DC}, us.length = zs.length → zl false us zs = zs
  | [], [], _ => rfl
  | a :: us, z :: zs, h => by show z :: zl false us zs = _; rw [zl_f (Nat.succ.inj h)]
/-- a row being filled: i of its elements are made -/
def fil (F : Nat → List Dyn.DC) (z : List Dyn.DC) (i : Nat) : Nat → List Dyn.DC := fun j => zl (Nat.blt j i) (F j) z
theorem fil_in {F : Nat → List Dyn.DC} {z : List Dyn.DC} {i j : Nat} (hl : (F j).length = z.length) (h : j < i) : fil F z i j = F j := by
  unfold fil
  rw [show Nat.blt j i = true from Nat.ble_eq_true_of_le h]; exact zl_t hl
theorem fil_out {F : Nat → List Dyn.DC} {z : List Dyn.DC} {i j : Nat} (hl : (F j).length = z.length) (h : ¬ j < i) : fil F z i j = z := by
  unfold fil
  rw [show Nat.blt j i = false by rw [Bool.eq_false_iff]; exact fun e => h (Nat.le_of_ble_eq_true e)]; exact zl_f hl
theorem le_upd {t : TypeId} {n i : Nat} {F : Nat → List Dyn.DC} {z ds : List Dyn.DC} {off : Nat} (hl : ∀ j, (F j).length = z.length) (h : Dyn.setMany' z off ds = F i) : Dyn.HeLe (some (.own t n (Dyn.updF (fil F z i) i off ds))) (some (.own t n (fil F z (i + 1)))) := by
  refine ⟨rfl, rfl, fun j hj => ?_⟩
  unfold Dyn.updF
  by_cases e : j = i
  · subst e
    rw [show Nat.beq j j = true from Nat.beq_refl j, fil_in (hl j) (show j < j + 1 by omega), fil_out (hl j) (by omega)]
    exact h
  · rw [show Nat.beq j i = false by rw [Bool.eq_false_iff]; exact fun q => e (Nat.eq_of_beq_eq_true q)]
    by_cases l : j < i
    · rw [fil_in (hl j) l, fil_in (hl j) (by omega)]; rfl
    · rw [fil_out (hl j) l, fil_out (hl j) (by omega)]; rfl
def turnC (l : Ctr) (t : Tn) : Ctr := ⟨l.n, l.m, fun i k => turnPtF (l.p i k) t⟩
def apP (l : Ctr) (t : Tn) (i k : Nat) : List Dyn.DC := cP (turnPtF (l.p i k) t)
def apR (l : Ctr) (t : Tn) (i : Nat) : List Dyn.DC := [cRow (l.m i) (fun k => turnPtF (l.p i k) t)]
def apZ1 : List Dyn.DC := [nilR]
def apZ3 : List Dyn.DC := [cB false, cI 0, cI 0, cI 0, cI 0, cI 0, cI 0, cI 0, cI 0, nilR, nilR]
theorem leaf_fits {P : Program} {w0 : Dyn.Base P} {id : Nat} {c : Code} {s s1 s2 : Dyn.St} {e : AExit} (h : Dyn.BlockSound P w0 id c s (.leaf e s1)) (f : Dyn.Fits s1 s2) : Dyn.BlockSound P w0 id c s (.leaf e s2) := fun Q a w β m ng ho => h Q a w β m ng (fun β a w m ng => by
  obtain ⟨β', m', ng'⟩ := Dyn.Ent.fits f β a w m ng
  exact ho β' a w m' ng')
def apF (g : Sh → Tn → Sh) (sh : Nat → Sh) (add : Nat → Bool) (t : Tn) (i : Nat) : List Dyn.DC := partC (add i) (g (sh i) t)
def szM (b n : Nat) : Prop := 0 ≤ (n : Int) ∧ (n : Int) ≤ n ∧ (n : Int) ≤ 9223372036854775807 ∧ (b : Int) * (n : Int) ≤ 281474976710656
theorem szM_ok {b n : Nat} (hb : b ≤ 1000) (hn : n ≤ 1000000000) : szM b n := by
  refine ⟨by omega, by omega, by omega, ?_⟩
  have : b * n ≤ 1000 * 1000000000 := Nat.mul_le_mul hb hn
  have h2 : (b : Int) * (n : Int) = ((b * n : Nat) : Int) := by rw [Int.natCast_mul]
  rw [h2]; omega
def apZ2 : List Dyn.DC := [.p (vi 0), .p (vi 0)]
def tdA (Pd : Sh → Prop) (g : Sh → Tn → Sh) : List Dyn.EntryD := [(49, en2D (qAnd qS Pd) qT fun x t => .val (dvS (g x t)))]
def drA (K : Nat) : Bool := Nat.beq K 49
def tabAp (Pd : Sh → Prop) (g : Sh → Tn → Sh) : Dyn.Tabs := Dyn.tabs tf6 (tdA Pd g) drA dtyS
theorem tabAp_ok {Pd : Sh → Prop} {g : Sh → Tn → Sh} (ih : ∀ x, Pd x → ∀ t, Dyn.CallD Try.prog 49 [dvS x, dvT t] (.val (dvS (g x t)))) : Dyn.TabsOk Try.prog (tabAp Pd g) :=
  Dyn.tabs_ok tf6_ok (List.forall_mem_cons.2 ⟨en2D_ok (qAnd_ok qS_ok) qT_ok fun x t h _ => ih x h.1 t, fun _ h => by cases h⟩)
def apV (k r : Int) (L Q : Value) : List Value := [vi k, vi 0, vi 0, vi 0, vi 0, vi 0, vi 0, vi r, L, Q]
def tnV (t : Tn) : List Value := [vb t.mx, vb t.my, vi t.q, vi t.u.x, vi t.u.y]
def apS (s : Sh) (t : Tn) (i : Int) (f : Nat → List Dyn.DC) : Dyn.St := mkS 134 [(2, sL 1), (3, sL 2), (4, sL 3), (5, sL 4), (76, sH 0 8 s.l.n), (77, sI s.l.n), (78, sI i)]
  [some (.deep (cS s)), some (.cells 29 (shV 0 8 s)), some (.cells 25 (tnV t)), some (.cells 29 tmZ), some (.cells 29 (apV s.k s.r (.slice (some ⟨5, 0, some 0⟩) s.l.n 0) (.slice none 0 0))), some (.own 78 s.l.n f)]
def apT (s : Sh) (t : Tn) (i : Int) (f : Nat → List Dyn.DC) (j : Int) (f2 : Nat → List Dyn.DC) : Dyn.St := mkS 134 [(2, sL 1), (3, sL 2), (4, sL 3), (5, sL 4), (6, sI i), (7, sH 5 0 (s.l.m i.toNat)), (8, sH 6 0 (s.l.m i.toNat)), (76, sH 0 8 s.l.n), (77, sI s.l.n), (78, sI i), (86, sH 5 0 (s.l.m i.toNat)), (87, sI (s.l.m i.toNat)), (88, sI j)]
  [some (.deep (cS s)), some (.cells 29 (shV 0 8 s)), some (.cells 25 (tnV t)), some (.cells 29 tmZ), some (.cells 29 (apV s.k s.r (.slice (some ⟨7, 0, some 0⟩) s.l.n 0) (.slice none 0 0))), some (.deep [cRow (s.l.m i.toNat) (s.l.p i.toNat)]), some (.own 23 (s.l.m i.toNat) f2), some (.own 78 s.l.n f)]
def apU (s : Sh) (t : Tn) (i : Int) (f : Nat → List Dyn.DC) : Dyn.St := mkS 134 [(2, sL 1), (3, sL 2), (4, sL 3), (5, sL 4), (114, sH 0 9 s.n), (115, sI s.n), (116, sI i)]
  [some (.deep (cS s)), some (.cells 29 (shV 0 8 s)), some (.cells 25 (tnV t)), some (.cells 29 tmZ), some (.cells 29 (apV s.k s.r (.slice none 0 0) (.slice (some ⟨5, 0, some 0⟩) s.n 0))), some (.own 45 s.n f)]
def apK0 : List Nat := [2, 3, 4, 5, 76, 77, 78]
def apK1 : List Nat := [2, 3, 4, 5, 6, 7, 8, 76, 77, 78, 86, 87, 88]
def apK2 : List Nat := [2, 3, 4, 5, 114, 115, 116]
def apLp (g : Sh → Tn → Sh) (sh : Nat → Sh) (add : Nat → Bool) (s : Sh) (t : Tn) : Dyn.Lp := fun id st => match id with
  | 1 => some (.side [keepC 134 [0, 1, 2, 3, 9] [] [(9, 8)] apK0 (2 ^ 78) st = apS s t 0 (fil (apR s.l t) apZ1 0)] (.leaf .normal (apS s t (s.l.n : Nat) (apR s.l t))))
  | 3 =>
    let i := intD (st.slots.getD 6 .junk)
    some (.side [keepC 134 [0, 1, 2, 3, 4] [7, 8] [(4, 8)] apK1 (2 ^ 88) st = apT s t i (fil (apR s.l t) apZ1 i.toNat) 0 (fil (apP s.l t i.toNat) apZ2 0), 0 ≤ i ∧ i < s.l.n] (.leaf .normal (apT s t i (fil (apR s.l t) apZ1 i.toNat) (s.l.m i.toNat : Nat) (apP s.l t i.toNat))))
  | 5 => some (.side [keepC 134 [0, 1, 2, 3, 9] [] [(9, 9)] apK2 (2 ^ 116) st = apU s t 0 (fil (apF g sh add t) apZ3 0)] (.leaf .normal (apU s t (s.n : Nat) (apF g sh add t))))
  | _ => none
def apBi (s : Sh) (t : Tn) (i : Nat) (f : Nat → List Dyn.DC) (j : Nat) : Dyn.Out :=
  .ite (decide ((j : Int) < s.l.m i)) (.side [0 ≤ (j : Int) ∧ (j : Int) < s.l.m i] (.side [0 ≤ (j : Int) ∧ (j : Int) < s.l.m i] (.leaf .normal (apT s t i f (W (j + 1)) (Dyn.updF (fil (apP s.l t i) apZ2 j) j 0 (cP (turnPtF (s.l.p i j) t))))))) (.leaf (.exit 3) (apT s t i f j (fil (apP s.l t i) apZ2 j)))
def apBo (s : Sh) (t : Tn) (i : Nat) : Dyn.Out :=
  .ite (decide ((i : Int) < s.l.n)) (.side [0 ≤ (i : Int) ∧ (i : Int) < s.l.n] (.side [szM 16 (s.l.m i)] (.side [apT s t i (fil (apR s.l t) apZ1 i) 0 (fil (apP s.l t i) apZ2 0) = apT s t i (fil (apR s.l t) apZ1 i) 0 (fil (apP s.l t i) apZ2 0), 0 ≤ (i : Int) ∧ (i : Int) < s.l.n] (.side [0 ≤ (i : Int) ∧ (i : Int) < s.l.n] (.leaf .normal (apS s t (W (i + 1)) (Dyn.updF (fil (apR s.l t) apZ1 i) i 0 (apR s.l t i)))))))) (.leaf (.exit 1) (apS s t i (fil (apR s.l t) apZ1 i)))
def apBp (Pd : Sh → Prop) (g : Sh → Tn → Sh) (sh : Nat → Sh) (add : Nat → Bool) (s : Sh) (t : Tn) (i : Nat) : Dyn.Out :=
  .ite (decide ((i : Int) < s.n)) (.side [0 ≤ (i : Int) ∧ (i : Int) < s.n] (.side [Pd (sh i), ctrSelf (sh i).l, 0 ≤ (i : Int) ∧ (i : Int) < s.n] (.leaf .normal (apU s t (W (i + 1)) (Dyn.updF (fil (apF g sh add t) apZ3 i) i 0 (apF g sh add t i)))))) (.leaf (.exit 5) (apU s t i (fil (apF g sh add t) apZ3 i)))
theorem ap_Bi (Pd : Sh → Prop) (g : Sh → Tn → Sh) (sh : Nat → Sh) (add : Nat → Bool) (s : Sh) (t : Tn) (i : Nat) (f : Nat → List Dyn.DC) (j : Nat) : (Dyn.lexec Try.prog (tabAp Pd g) (apLp g sh add s t) 3 (unloopD (blkD Try.f49.body 3)) .leaf (apT s t i f j (fil (apP s.l t i) apZ2 j))).rl (keepCR 134 [0, 1, 2, 3, 4] [7, 8] [(4, 8)] apK1 [] []) = apBi s t i f j := by kernel_rfl
theorem ap_Bo (Pd : Sh → Prop) (g : Sh → Tn → Sh) (sh : Nat → Sh) (add : Nat → Bool) (s : Sh) (t : Tn) (i : Nat) : (Dyn.lexec Try.prog (tabAp Pd g) (apLp g sh add s t) 3 (unloopD (blkD Try.f49.body 1)) .leaf (apS s t i (fil (apR s.l t) apZ1 i))).rl (keepCR 134 [0, 1, 2, 3, 4] [] [(4, 8)] apK0 [] []) = apBo s t i := by kernel_rfl
theorem ap_Bp (Pd : Sh → Prop) (g : Sh → Tn → Sh) (k : Int) (a b c : P2) (r : Int) (l : Ctr) (n : Nat) (add : Nat → Bool) (sh : Nat → Sh) (t : Tn) (i : Nat) : (Dyn.lexec Try.prog (tabAp Pd g) (apLp g sh add (mkSh k a b c r l n add sh) t) 3 (unloopD (blkD Try.f49.body 5)) .leaf (apU (mkSh k a b c r l n add sh) t i (fil (apF g sh add t) apZ3 i))).rl (keepCR 134 [0, 1, 2, 3, 4] [] [(4, 9)] apK2 [] []) = apBp Pd g sh add (mkSh k a b c r l n add sh) t i := by kernel_rfl
theorem ap_blocks : blocksL (bodyD Try.f49.body) = [(0, blkD Try.f49.body 0), (1, .loop (unloopD (blkD Try.f49.body 1))), (2, blkD Try.f49.body 2), (3, .loop (unloopD (blkD Try.f49.body 3))), (4, blkD Try.f49.body 4), (5, .loop (unloopD (blkD Try.f49.body 5))), (6, blkD Try.f49.body 6)] := by kernel_rfl
theorem ap_b1 : blocksL (unloopD (blkD Try.f49.body 1)) = [(2, blkD Try.f49.body 2), (3, .loop (unloopD (blkD Try.f49.body 3))), (4, blkD Try.f49.body 4)] := by kernel_rfl
theorem ap_b3 : blocksL (unloopD (blkD Try.f49.body 3)) = [(4, blkD Try.f49.body 4)] := by kernel_rfl
theorem ap_b5 : blocksL (unloopD (blkD Try.f49.body 5)) = [(6, blkD Try.f49.body 6)] := by kernel_rfl
theorem ap_inner {Pd : Sh → Prop} {g : Sh → Tn → Sh} (ih : ∀ x, Pd x → ∀ t, Dyn.CallD Try.prog 49 [dvS x, dvT t] (.val (dvS (g x t)))) (sh : Nat → Sh) (add : Nat → Bool) (s : Sh) (hl : CtrB s.l) (t : Tn) (w0 : Dyn.Base Try.prog) (st : Dyn.St) (o : Dyn.Out)
    (h : apLp g sh add s t 3 st = some o) : Dyn.BlockSound Try.prog w0 3 (.loop (unloopD (blkD Try.f49.body 3))) st o := by
  simp only [apLp, Option.some.injEq] at h
  subst h
  refine side_two fun hS hi => ?_
  revert hS hi
  generalize intD (st.slots.getD 6 .junk) = i'
  intro hS hi
  obtain ⟨i, rfl⟩ : ∃ i : Nat, i' = (i : Int) := ⟨i'.toNat, by omega⟩
  have hm : s.l.m i ≤ 1000000000 := hl.2 i (by omega)
  refine leaf_fits (s1 := apT s t i (fil (apR s.l t) apZ1 i) (s.l.m i : Nat) (fil (apP s.l t i) apZ2 (s.l.m i))) (fold_block (fuel := 3) (tabAp_ok ih) mo (lp := apLp g sh add s t) (by rw [ap_b3]; exact lpOk_cons (fun s o h => by cases h) lpOk_nil) (fun j (_ : Unit) => apT s t i (fil (apR s.l t) apZ1 i) j (fil (apP s.l t i) apZ2 j)) (s.l.m i) (fun _ _ => ()) () (keepCR 134 [0, 1, 2, 3, 4] [7, 8] [(4, 8)] apK1 [] []) (keepCR_ent 134 _ _ _ _ _ _) (fun j _ => apBi s t i (fil (apR s.l t) apZ1 i) j) (fun j _ => ap_Bi Pd g sh add s t i _ j) (fun j hj => ?_) ?_ (hS ▸ keepC_ent 134 _ _ _ _ _ st)) ?_
  · refine ⟨fun _ => ⟨⟨⟨by omega, by omega⟩, trivial⟩, ⟨⟨by omega, by omega⟩, trivial⟩, rfl, ?_⟩, fun hf => ?_⟩
    · rw [Wn1 hj hm]
      exact ⟨rfl, Dyn.HeLe.refl _, Dyn.HeLe.refl _, Dyn.HeLe.refl _, Dyn.HeLe.refl _, Dyn.HeLe.refl _, Dyn.HeLe.refl _, le_upd (fun _ => rfl) rfl, Dyn.HeLe.refl _, trivial⟩
    · rw [decide_eq_false_iff_not] at hf; omega
  · refine ⟨fun ht => ?_, fun _ => ⟨rfl, Dyn.Fits.refl _⟩⟩
    rw [decide_eq_true_eq] at ht; omega
  · exact ⟨rfl, Dyn.HeLe.refl _, Dyn.HeLe.refl _, Dyn.HeLe.refl _, Dyn.HeLe.refl _, Dyn.HeLe.refl _, Dyn.HeLe.refl _, ⟨rfl, rfl, fun j hj => fil_in rfl hj⟩, Dyn.HeLe.refl _, trivial⟩
theorem ap_outer {Pd : Sh → Prop} {g : Sh → Tn → Sh} (ih : ∀ x, Pd x → ∀ t, Dyn.CallD Try.prog 49 [dvS x, dvT t] (.val (dvS (g x t)))) (sh : Nat → Sh) (add : Nat → Bool) (s : Sh) (hl : CtrB s.l) (t : Tn) (w0 : Dyn.Base Try.prog) (st : Dyn.St) (o : Dyn.Out)
    (h : apLp g sh add s t 1 st = some o) : Dyn.BlockSound Try.prog w0 1 (.loop (unloopD (blkD Try.f49.body 1))) st o := by
  simp only [apLp, Option.some.injEq] at h
  subst h
  refine side_one fun hS => ?_
  refine leaf_fits (s1 := apS s t (s.l.n : Nat) (fil (apR s.l t) apZ1 s.l.n)) (fold_block (fuel := 3) (tabAp_ok ih) mo (lp := apLp g sh add s t) (by rw [ap_b1]; exact lpOk_cons (fun s o h => by cases h) (lpOk_cons (ap_inner ih sh add s hl t w0) (lpOk_cons (fun s o h => by cases h) lpOk_nil))) (fun i (_ : Unit) => apS s t i (fil (apR s.l t) apZ1 i)) s.l.n (fun _ _ => ()) () (keepCR 134 [0, 1, 2, 3, 4] [] [(4, 8)] apK0 [] []) (keepCR_ent 134 _ _ _ _ _ _) (fun i _ => apBo s t i) (fun i _ => ap_Bo Pd g sh add s t i) (fun i hi => ?_) ?_ (hS ▸ keepC_ent 134 _ _ _ _ _ st)) ?_
  · have hb : 0 ≤ (i : Int) ∧ (i : Int) < s.l.n := ⟨by omega, by omega⟩
    refine ⟨fun _ => ⟨⟨hb, trivial⟩, ⟨szM_ok (by decide) (hl.2 i hi), trivial⟩, ⟨rfl, hb, trivial⟩, ⟨hb, trivial⟩, rfl, ?_⟩, fun hf => ?_⟩
    · rw [Wn1 hi hl.1]
      exact ⟨rfl, Dyn.HeLe.refl _, Dyn.HeLe.refl _, Dyn.HeLe.refl _, Dyn.HeLe.refl _, Dyn.HeLe.refl _, le_upd (fun _ => rfl) rfl, trivial⟩
    · rw [decide_eq_false_iff_not] at hf; omega
  · refine ⟨fun ht => ?_, fun _ => ⟨rfl, Dyn.Fits.refl _⟩⟩
    rw [decide_eq_true_eq] at ht; omega
  · exact ⟨rfl, Dyn.HeLe.refl _, Dyn.HeLe.refl _, Dyn.HeLe.refl _, Dyn.HeLe.refl _, Dyn.HeLe.refl _, ⟨rfl, rfl, fun j hj => fil_in rfl hj⟩, trivial⟩
theorem ap_parts {Pd : Sh → Prop} {g : Sh → Tn → Sh} (ih : ∀ x, Pd x → ∀ t, Dyn.CallD Try.prog 49 [dvS x, dvT t] (.val (dvS (g x t)))) (k : Int) (a b c : P2) (r : Int) (l : Ctr) (n : Nat) (add : Nat → Bool) (sh : Nat → Sh) (hn : n ≤ 1000000000) (hP : ∀ i, i < n → Pd (sh i)) (t : Tn) (w0 : Dyn.Base Try.prog) (st : Dyn.St) (o : Dyn.Out)
    (h : apLp g sh add (mkSh k a b c r l n add sh) t 5 st = some o) : Dyn.BlockSound Try.prog w0 5 (.loop (unloopD (blkD Try.f49.body 5))) st o := by
  simp only [apLp, Option.some.injEq] at h
  subst h
  refine side_one fun hS => ?_
  refine leaf_fits (s1 := apU (mkSh k a b c r l n add sh) t (n : Nat) (fil (apF g sh add t) apZ3 n)) (fold_block (fuel := 3) (tabAp_ok ih) mo (lp := apLp g sh add (mkSh k a b c r l n add sh) t) (by rw [ap_b5]; exact lpOk_cons (fun s o h => by cases h) lpOk_nil) (fun i (_ : Unit) => apU (mkSh k a b c r l n add sh) t i (fil (apF g sh add t) apZ3 i)) n (fun _ _ => ()) () (keepCR 134 [0, 1, 2, 3, 4] [] [(4, 9)] apK2 [] []) (keepCR_ent 134 _ _ _ _ _ _) (fun i _ => apBp Pd g sh add (mkSh k a b c r l n add sh) t i) (fun i _ => ap_Bp Pd g k a b c r l n add sh t i) (fun i hi => ?_) ?_ (hS ▸ keepC_ent 134 _ _ _ _ _ st)) ?_
  · have hb : 0 ≤ (i : Int) ∧ (i : Int) < (n : Int) := ⟨by omega, by omega⟩
    refine ⟨fun _ => ⟨⟨hb, trivial⟩, ⟨hP i hi, ctrSelf_ok _, hb, trivial⟩, rfl, ?_⟩, fun hf => ?_⟩
    · rw [Wn1 hi hn]
      exact ⟨rfl, Dyn.HeLe.refl _, Dyn.HeLe.refl _, Dyn.HeLe.refl _, Dyn.HeLe.refl _, Dyn.HeLe.refl _, le_upd (fun _ => rfl) rfl, trivial⟩
    · rw [decide_eq_false_iff_not] at hf
      exact absurd hb.2 hf
  · refine ⟨fun ht => ?_, fun _ => ⟨rfl, Dyn.Fits.refl _⟩⟩
    rw [decide_eq_true_eq] at ht
    exact absurd (show (n : Int) < (n : Int) from ht) (by omega)
  · exact ⟨rfl, Dyn.HeLe.refl _, Dyn.HeLe.refl _, Dyn.HeLe.refl _, Dyn.HeLe.refl _, Dyn.HeLe.refl _, ⟨rfl, rfl, fun j hj => fil_in rfl hj⟩, trivial⟩
def apO (g : Sh → Tn → Sh) (sh : Nat → Sh) (add : Nat → Bool) (s : Sh) (t : Tn) : Dyn.RO :=
  .ite (s.k == 1) (.leaf (rvT s.k (turnPtF s.a t) ze ze s.r nilR 0 noF))
  (.ite (bif s.k == 3 then s.k == 3 else s.k == 4) (.leaf (rvT s.k (turnPtF s.a t) (turnPtF s.b t) ze s.r nilR 0 noF))
  (.ite (s.k == 5) (.ite (t.mx != t.my) (.leaf (rvT s.k (turnPtF s.b t) (turnPtF s.a t) (turnPtF s.c t) s.r nilR 0 noF)) (.leaf (rvT s.k (turnPtF s.a t) (turnPtF s.b t) (turnPtF s.c t) s.r nilR 0 noF)))
  (.ite (s.k == 2) (.side [szM 24 s.l.n] (.side [apS s t 0 (fil (apR s.l t) apZ1 0) = apS s t 0 (fil (apR s.l t) apZ1 0)] (.leaf (rvT s.k ze ze ze s.r (.row s.l.n (apR s.l t)) 0 noF))))
  (.ite (s.k == 6) (.side [szM 120 s.n] (.side [apU s t 0 (fil (apF g sh add t) apZ3 0) = apU s t 0 (fil (apF g sh add t) apZ3 0)] (.leaf (rvT s.k ze ze ze s.r nilR s.n (apF g sh add t)))))
    (.leaf (rvT s.k ze ze ze s.r nilR 0 noF))))))
theorem ap_O (Pd : Sh → Prop) (g : Sh → Tn → Sh) (sh : Nat → Sh) (add : Nat → Bool) (s : Sh) (t : Tn) : (Dyn.dfun Try.prog (tabAp Pd g) (apLp g sh add s t) 3 Try.f49 [dvS s, dvT t]).ro Try.prog Try.f49.results = apO g sh add s t := by kernel_rfl
def applyG (g : Sh → Tn → Sh) (sh : Nat → Sh) (add : Nat → Bool) (s : Sh) (t : Tn) : Sh :=
  bif s.k == 1 then ⟨s.k, turnPtF s.a t, ze, ze, s.r, zeC, 0, noF⟩
  else bif bif s.k == 3 then s.k == 3 else s.k == 4 then ⟨s.k, turnPtF s.a t, turnPtF s.b t, ze, s.r, zeC, 0, noF⟩
  else bif s.k == 5 then ⟨s.k, bif t.mx != t.my then turnPtF s.b t else turnPtF s.a t, bif t.mx != t.my then turnPtF s.a t else turnPtF s.b t, turnPtF s.c t, s.r, zeC, 0, noF⟩
  else bif s.k == 2 then ⟨s.k, ze, ze, ze, s.r, turnC s.l t, 0, noF⟩
  else bif s.k == 6 then ⟨s.k, ze, ze, ze, s.r, zeC, s.n, apF g sh add t⟩
  else ⟨s.k, ze, ze, ze, s.r, zeC, 0, noF⟩
theorem ap_sat (g : Sh → Tn → Sh) (sh : Nat → Sh) (add : Nat → Bool) (s : Sh) (hl : CtrB s.l) (hn : s.n ≤ 1000000000) (t : Tn) : (apO g sh add s t).sat fun r => Dyn.RVLe r (.val (dvS (applyG g sh add s t))) := by
  unfold applyG
  refine ⟨fun h => ?_, fun h => ⟨fun h2 => ?_, fun h2 => ⟨fun h3 => ⟨fun h4 => ?_, fun h4 => ?_⟩, fun h3 => ⟨fun h4 => ⟨⟨szM_ok (by decide) hl.1, trivial⟩, ⟨rfl, trivial⟩, ?_⟩, fun h4 => ⟨fun h5 => ⟨⟨szM_ok (by decide) hn, trivial⟩, ⟨rfl, trivial⟩, ?_⟩, fun h5 => ?_⟩⟩⟩⟩⟩
  · rw [h]; exact rvT_le rfl rfl rfl rfl rfl nilR_le rfl fun _ _ => rfl
  · rw [h, h2]; exact rvT_le rfl rfl rfl rfl rfl nilR_le rfl fun _ _ => rfl
  · rw [h, h2, h3, h4]; exact rvT_le rfl rfl rfl rfl rfl nilR_le rfl fun _ _ => rfl
  · rw [h, h2, h3, h4]; exact rvT_le rfl rfl rfl rfl rfl nilR_le rfl fun _ _ => rfl
  · rw [h, h2, h3, h4]; exact rvT_le rfl rfl rfl rfl rfl (Dyn.DCLe.refl _) rfl fun _ _ => rfl
  · rw [h, h2, h3, h4, h5]; exact rvT_le rfl rfl rfl rfl rfl nilR_le rfl fun _ _ => rfl
  · rw [h, h2, h3, h4, h5]; exact rvT_le rfl rfl rfl rfl rfl nilR_le rfl fun _ _ => rfl
theorem apply_lvl {Pd : Sh → Prop} {g : Sh → Tn → Sh} (ih : ∀ x, Pd x → ∀ t, Dyn.CallD Try.prog 49 [dvS x, dvT t] (.val (dvS (g x t)))) (k : Int) (a b c : P2) (r : Int) (l : Ctr) (n : Nat) (add : Nat → Bool) (sh : Nat → Sh) (hl : CtrB l) (hn : n ≤ 1000000000) (hP : ∀ i, i < n → Pd (sh i)) (t : Tn) :
    Dyn.CallD Try.prog 49 [dvS (mkSh k a b c r l n add sh), dvT t] (.val (dvS (applyG g sh add (mkSh k a b c r l n add sh) t))) :=
  Dyn.dcontract (lp := apLp g sh add (mkSh k a b c r l n add sh) t) (fuel := 3) (tabAp_ok ih) mo Try.func49 (by kernel_rfl) (c := bodyD Try.f49.body) (by kernel_rfl)
    (fun w0 => by
      rw [ap_blocks]
      exact lpOk_cons (fun s o h => by cases h) (lpOk_cons (ap_outer ih sh add _ hl t w0) (lpOk_cons (fun s o h => by cases h) (lpOk_cons (ap_inner ih sh add _ hl t w0) (lpOk_cons (fun s o h => by cases h) (lpOk_cons (ap_parts ih k a b c r l n add sh hn hP t w0) (lpOk_cons (fun s o h => by cases h) lpOk_nil)))))))
    (by kernel_rfl) (ap_O Pd g sh add _ t) (ap_sat g sh add (mkSh k a b c r l n add sh) hl hn t)
/-- a shape turned -/
def turnS : Shp → Tn → Shp
  | .nil, _ => .nil
  | .mk k a b c r l n add sub, t =>
    bif k == 1 then leafS k (turnPtF a t) ze ze r zeC
    else bif bif k == 3 then k == 3 else k == 4 then leafS k (turnPtF a t) (turnPtF b t) ze r zeC
    else bif k == 5 then leafS k (bif t.mx != t.my then turnPtF b t else turnPtF a t) (bif t.mx != t.my then turnPtF a t else turnPtF b t) (turnPtF c t) r zeC
    else bif k == 2 then leafS k ze ze ze r (turnC l t)
    else bif k == 6 then .mk k ze ze ze r zeC n add (fun i => turnS (sub i) t)
    else leafS k ze ze ze r zeC
noncomputable def turnE (x : Sh) (t : Tn) : Sh := toSh (turnS (ofSh x) t)
theorem turnE_eq (s : Shp) (t : Tn) : turnE (toSh s) t = toSh (turnS s t) := by unfold turnE; rw [ofSh_toSh]
theorem ap_pick {K : Int} (D1 D2 D3 D4 D5 D6 : Sh) (E1 E2 E3 E4 E5 E6 : Shp) (h1 : Dyn.DVLe (dvS D1) (dvS (toSh E1))) (h2 : Dyn.DVLe (dvS D2) (dvS (toSh E2))) (h3 : Dyn.DVLe (dvS D3) (dvS (toSh E3))) (h4 : Dyn.DVLe (dvS D4) (dvS (toSh E4))) (h5 : Dyn.DVLe (dvS D5) (dvS (toSh E5))) (h6 : Dyn.DVLe (dvS D6) (dvS (toSh E6))) :
    Dyn.DVLe (dvS (bif K == 1 then D1 else bif bif K == 3 then K == 3 else K == 4 then D2 else bif K == 5 then D3 else bif K == 2 then D4 else bif K == 6 then D5 else D6)) (dvS (toSh (bif K == 1 then E1 else bif bif K == 3 then K == 3 else K == 4 then E2 else bif K == 5 then E3 else bif K == 2 then E4 else bif K == 6 then E5 else E6))) := by
  cases K == 1
  · cases (bif K == 3 then K == 3 else K == 4)
    · cases K == 5
      · cases K == 2
        · cases K == 6
          · exact h6
          · exact h5
        · exact h4
      · exact h3
    · exact h2
  · exact h1
theorem turnS_lvl (k : Int) (a b c : P2) (r : Int) (l : Ctr) (n : Nat) (add : Nat → Bool) (sub : Nat → Shp) (t : Tn) :
    Dyn.DVLe (dvS (applyG turnE (fun i => toSh (sub i)) add (mkSh k a b c r l n add (fun i => toSh (sub i))) t)) (dvS (toSh (turnS (.mk k a b c r l n add sub) t))) := by
  refine ap_pick (K := k) _ _ _ _ _ _ _ _ _ _ _ _ (dvS_leaf _ _ _ _ _ _) (dvS_leaf _ _ _ _ _ _) (dvS_leaf _ _ _ _ _ _) (dvS_leaf _ _ _ _ _ _) ?_ (dvS_leaf _ _ _ _ _ _)
  refine ⟨rfl, rfl, rfl, rfl, rfl, rfl, rfl, rfl, Dyn.DCLe.refl _, ⟨rfl, fun i hi => ?_⟩, trivial⟩
  show partC (add i) (turnE (toSh (sub i)) t) = partC (add i) (toSh (turnS (sub i) t))
  rw [turnE_eq]
theorem turnE_ok : ∀ s : Shp, ShB s → ∀ t, Dyn.CallD Try.prog 49 [dvS (toSh s), dvT t] (.val (dvS (turnE (toSh s) t))) := by
  intro s
  induction s with
  | nil => intro h; exact h.elim
  | mk k a b c r l n add sub ih =>
    intro h t
    rw [turnE_eq]
    refine CallD_rle (r := .val (dvS (applyG turnE (fun i => toSh (sub i)) add (mkSh k a b c r l n add (fun i => toSh (sub i))) t))) (turnS_lvl k a b c r l n add sub t) ?_
    exact apply_lvl (Pd := fun x => ∃ i, i < n ∧ x = toSh (sub i)) (fun x hx => by
      obtain ⟨i, hi, rfl⟩ := hx
      exact ih i (h.2.2 i hi)) k a b c r l n add (fun i => toSh (sub i)) h.1 h.2.1 (fun i hi => ⟨i, hi, rfl⟩) t
theorem apply_all : ∀ x, PdS x → ∀ t, Dyn.CallD Try.prog 49 [dvS x, dvT t] (.val (dvS (turnE x t))) := fun x hx t => by
  have k := turnE_ok _ hx.1 t
  rw [show turnE (toSh (ofSh x)) t = turnE x t by unfold turnE; rw [ofSh_toSh]] at k
  exact CallD_le (args := dvS (toSh (ofSh x)) :: [dvT t]) ⟨SLe.dv hx.2, Dyn.DVLe.refl _, trivial⟩ k
end Go.Proofs.Ytfooaikpcbnchaa

/-! ## Tub -/
namespace Go.Proofs.Ytfooaikpcbnchaa
open Go Go.RowKit Sym
set_option maxRecDepth 100000

theorem CtrB_turnC {l : Ctr} (h : CtrB l) (t : Tn) : CtrB (turnC l t) := h
theorem CtrB_ze : CtrB zeC := ⟨by decide, fun i hi => absurd hi (Nat.not_lt_zero i)⟩
theorem leaf_B (k : Int) (a b c : P2) (r : Int) {l : Ctr} (h : CtrB l) : ShB (leafS k a b c r l) := ⟨h, by decide, fun i hi => absurd hi (Nat.not_lt_zero i)⟩
theorem pick6_B {K : Int} {E1 E2 E3 E4 E5 E6 : Shp} (h1 : ShB E1) (h2 : ShB E2) (h3 : ShB E3) (h4 : ShB E4) (h5 : ShB E5) (h6 : ShB E6) : ShB (bif K == 1 then E1 else bif bif K == 3 then K == 3 else K == 4 then E2 else bif K == 5 then E3 else bif K == 2 then E4 else bif K == 6 then E5 else E6) := by
  cases K == 1
  · cases (bif K == 3 then K == 3 else K == 4)
    · cases K == 5
      · cases K == 2
        · cases K == 6
          · exact h6
          · exact h5
        · exact h4
      · exact h3
    · exact h2
  · exact h1
theorem turnS_B : ∀ s : Shp, ShB s → ∀ t, ShB (turnS s t) := by
  intro s
  induction s with
  | nil => intro h; exact h.elim
  | mk k a b c r l n add sub ih =>
    intro h t
    exact pick6_B (leaf_B _ _ _ _ _ CtrB_ze) (leaf_B _ _ _ _ _ CtrB_ze) (leaf_B _ _ _ _ _ CtrB_ze) (leaf_B _ _ _ _ _ (CtrB_turnC h.1 t)) ⟨CtrB_ze, h.2.1, fun i hi => ih i (h.2.2 i hi) t⟩ (leaf_B _ _ _ _ _ CtrB_ze)
theorem turnE_PdS {x : Sh} (h : PdS x) (t : Tn) : PdS (turnE x t) := by
  exact PdS_mk (turnS_B _ h.1 t)
theorem ShB_W : ∀ s : Shp, ShB s → ShW s := by
  intro s
  induction s with
  | nil => intro h; exact h.elim
  | mk k a b c r l n add sub ih => intro h i hi; exact ih i (h.2.2 i hi)
theorem PdS_W {x : Sh} (h : PdS x) : PdW x := ⟨ShB_W _ h.1, h.2⟩
/-- no shape -/
def noS : Shp := leafS 0 ze ze ze 0 zeC
noncomputable def moveE (x : Sh) (t : Tn) : Sh := bif okE x then bif okE (turnE x t) then turnE x t else toSh noS else toSh noS
noncomputable def movesE (x : Sh) (t : Tn) : Bool := bif okE x then okE (turnE x t) else false
theorem moveE_PdS {x : Sh} (h : PdS x) (t : Tn) : PdS (moveE x t) := by
  have hz : PdS (toSh noS) := PdS_mk (leaf_B _ _ _ _ _ CtrB_ze)
  unfold moveE
  cases okE x
  · exact hz
  · cases okE (turnE x t)
    · exact hz
    · exact turnE_PdS h t
noncomputable def tdAp : List Dyn.EntryD := [(48, en1D (qAnd qS PdS) fun x => rB (okE x)), (49, en2D (qAnd qS PdS) qT fun x t => .val (dvS (turnE x t)))]
def drAp (K : Nat) : Bool := Nat.beq K 49
noncomputable def tabAq : Dyn.Tabs := Dyn.tabs tbF tdAp drAp dtyS
theorem tabAq_ok : Dyn.TabsOk Try.prog tabAq := Dyn.tabs_ok tbF_ok (List.forall_mem_cons.2 ⟨en1D_ok (qAnd_ok qS_ok) fun x h => figOk_ok x h.1, List.forall_mem_cons.2 ⟨en2D_ok (qAnd_ok qS_ok) qT_ok fun x t h _ => apply_all x h.1 t, fun _ h => by cases h⟩⟩)
def zeroRV : Dyn.RV := .tup [.agg [cI 0, cI 0, cI 0, cI 0, cI 0, cI 0, cI 0, cI 0, nilR, nilR], dvB false]
noncomputable def apqO (x : Sh) (t : Tn) : Dyn.RO :=
  .side [PdS x, ctrSelf x.l] (.ite (!(okE x)) (.leaf zeroRV)
    (.side [PdS x, ctrSelf x.l] (.side [PdS (turnE x t), ctrSelf (turnE x t).l] (.ite (!(okE (turnE x t))) (.leaf zeroRV) (.leaf (.tup [dvS (turnE x t), dvB true]))))))
theorem apq_O (x : Sh) (t : Tn) : (Dyn.dfun Try.prog tabAq Dyn.noLp 3 Try.f20 [dvS x, dvT t]).ro Try.prog Try.f20.results = apqO x t := by kernel_rfl
theorem zero_le : Dyn.RVLe zeroRV (.tup [dvS (toSh noS), dvB false]) := ⟨⟨rfl, rfl, rfl, rfl, rfl, rfl, rfl, rfl, nilR_le, ⟨rfl, fun i hi => absurd hi (Nat.not_lt_zero _)⟩, trivial⟩, rfl, trivial⟩
theorem move_ok (x : Sh) (h : PdS x) (t : Tn) : Dyn.CallD Try.prog 20 [dvS x, dvT t] (.tup [dvS (moveE x t), dvB (movesE x t)]) :=
  Dyn.dcontract (lp := Dyn.noLp) (fuel := 3) tabAq_ok mo Try.func20 (by kernel_rfl) (c := bodyD Try.f20.body) (by kernel_rfl) (fun w0 => Dyn.noLp_ok _ w0) (by kernel_rfl) (apq_O x t) (by
    unfold moveE movesE
    refine ⟨⟨h, ctrSelf_ok _, trivial⟩, fun h1 => ?_, fun h1 => ⟨⟨h, ctrSelf_ok _, trivial⟩, ⟨turnE_PdS h t, ctrSelf_ok _, trivial⟩, fun h2 => ?_, fun h2 => ?_⟩⟩
    · rw [show okE x = false by simpa using h1]; exact zero_le
    · rw [show okE x = true by simpa using h1, show okE (turnE x t) = false by simpa using h2]; exact zero_le
    · rw [show okE x = true by simpa using h1, show okE (turnE x t) = true by simpa using h2]; exact ⟨Dyn.DVLe.refl _, rfl, trivial⟩)
/-- a turn that does not move far -/
def tameT (t : Tn) (n : Int) : Tn := ⟨t.mx, t.my, t.q, lClose t.u n⟩
theorem tameT_ok (t : Tn) (n : Int) (hn : W (n + 1) ≠ 0) : CallOk Try.prog 16 [tn t, vi n] (tn (tameT t n)) := fnOkS (fuel := 16) (tbOf_ok tbF_ok) mo Try.func16 (by kernel_rfl) (by kernel_rfl) (by kernel_rfl) (show _ = [W (n + 1) ≠ 0] by kernel_rfl) ⟨hn, trivial⟩
end Go.Proofs.Ytfooaikpcbnchaa

/-! ## Roe -/
namespace Go.Proofs.Ytfooaikpcbnchaa
open Go Go.ChangeShapes Go.WideShapes Go.ChangeAt Go.RowKit Go.Joins Go.Deep
set_option maxRecDepth 100000

section
variable {H : Type} {enc : TypeId × Value → H} {P : Program} {w : World} {base : Nat} {spare : Nat → Bool} {held : Bool}
theorem ctr_den {fuel : Nat} {x : DataW H × List MemPlace} {t e2 e : TypeId} {f0 f1 : Field} {v : Value} (ht : P.underlying t = some (.slice e2)) (hc2 : P.cellsOf e2 = 1) (ht2 : P.underlying e2 = some (.slice e)) (he : P.underlying e = some (.struct #[f0, f1]))
    (ce : P.cellsOf e = 2) (o0 : f0.offset = 0) (o1 : f1.offset = 1) (c0 : P.cellsOf f0.type = 1) (c1 : P.cellsOf f1.type = 1) (k0 : P.underlying f0.type = some (.int .i64)) (k1 : P.underlying f1.type = some (.int .i64))
    (hf : DataW.trod enc P w base spare held fuel t [v] = some x) : ∃ l : Ctr, Dyn.DenC w (fun b => b < w.heap.size) (cCtr l) v := by
  rcases open_slice1 ht hc2 hf with ⟨h, _⟩ | ⟨a', len', cap', m, n, V, D, Pl, h, hb, hl, hcap, hm, hx, hall⟩
  · simp only [List.cons.injEq, and_true] at h
    rw [h]
    exact ⟨⟨0, fun _ => 0, fun _ _ => ⟨0, 0⟩⟩, .nil _ none 0⟩
  · simp only [List.cons.injEq, and_true] at h
    rw [h]
    have hlm : len' ≤ m := by rw [hm]; split <;> omega
    by_cases hz : len' = 0
    · subst hz
      exact ⟨⟨0, fun _ => 0, fun _ _ => ⟨0, 0⟩⟩, .nil _ (some a') cap'⟩
    · have h0 := (hall 0 (by omega)).1
      obtain ⟨hlt, hsp⟩ := addr_cell h0
      have hsp := hsp rfl
      obtain ⟨b, off, sp⟩ := a'
      dsimp only at hsp
      subst hsp
      simp only [addr_add] at hall hlt
      haveI : Inhabited (Nat × (Nat → P2)) := ⟨0, fun _ => ⟨0, 0⟩⟩
      obtain ⟨g, hg⟩ := choose_lt (α := Nat × (Nat → P2)) (n := len') (p := fun i q => Dyn.DenC w (fun b => b < w.heap.size) (cRow q.1 q.2) (V i)) (fun i hi => by
        obtain ⟨q, p, hq⟩ := row_P ht2 he ce o0 o1 c0 c1 k0 k1 (hall i (by omega)).2
        exact ⟨(q, p), hq⟩)
      refine ⟨⟨len', fun i => (g i).1, fun i => (g i).2⟩, .row len' _ b off cap' 1 (fun i _ => V i) hlt (fun i hi => ⟨rfl, fun j hj => ?_⟩) (fun i j hi hj => ?_)⟩
      · obtain rfl : j = 0 := by omega
        rw [Nat.mul_one, Nat.add_zero]; exact (hall i (by omega)).1
      · obtain rfl : j = 0 := by omega
        exact hg i hi
theorem pt_den {F : Nat → Prop} {fuel : Nat} {x : DataW H × List MemPlace} {t : TypeId} {f0 f1 : Field} {u v : Value} (ht : P.underlying t = some (.struct #[f0, f1])) (o0 : f0.offset = 0) (o1 : f1.offset = 1) (c0 : P.cellsOf f0.type = 1) (c1 : P.cellsOf f1.type = 1) (k0 : P.underlying f0.type = some (.int .i64)) (k1 : P.underlying f1.type = some (.int .i64))
    (hf : DataW.trod enc P w base spare held fuel t [u, v] = some x) : ∃ p : P2, u = vi p.x ∧ v = vi p.y ∧ Dyn.DenC w F (cI p.x) u ∧ Dyn.DenC w F (cI p.y) v := by
  obtain ⟨y0, y1, n, _, _, h0, h1⟩ := trod_struct2 ht hf
  rw [o0, c0] at h0
  rw [o1, c1] at h1
  obtain ⟨x0, e0, _⟩ := DataW.trod_int k0 h0
  obtain ⟨x1, e1, _⟩ := DataW.trod_int k1 h1
  simp only [List.drop_zero, List.take_succ_cons, List.take_zero, List.cons.injEq, and_true, List.drop_succ_cons] at e0 e1
  subst e0; subst e1
  exact ⟨⟨x0, x1⟩, rfl, rfl, .p _ rfl, .p _ rfl⟩
theorem DenL_get {F : Nat → Prop} : ∀ {ds : List Dyn.DC} {us : List Value} {j : Nat}, Dyn.DenL w F ds us → j < us.length → Dyn.DenC w F (ds.getD j default) (us.getD j default)
  | [], [], _, _, h => absurd h (Nat.not_lt_zero _)
  | d :: ds, u :: us, 0, h, _ => h.1
  | d :: ds, u :: us, j + 1, h, hj => DenL_get (ds := ds) (us := us) (j := j) h.2 (Nat.lt_of_succ_lt_succ hj)
/-- what the types of a shape are -/
structure ShT (P : Program) (tS tK tP tR tL tL1 tQ tE tB tI : TypeId) : Prop where
  s : ∃ f0 f1 f2 f3 f4 f5 f6 : Field, P.underlying tS = some (.struct #[f0, f1, f2, f3, f4, f5, f6]) ∧ (f0.type = tK ∧ f1.type = tP ∧ f2.type = tP ∧ f3.type = tP ∧ f4.type = tR ∧ f5.type = tL ∧ f6.type = tQ) ∧ f0.offset = 0 ∧ f1.offset = 1 ∧ f2.offset = 3 ∧ f3.offset = 5 ∧ f4.offset = 7 ∧ f5.offset = 8 ∧ f6.offset = 9
  sc : P.cellsOf tS = 10
  kc : P.cellsOf tK = 1
  pc : P.cellsOf tP = 2
  rc : P.cellsOf tR = 1
  lc : P.cellsOf tL = 1
  qc : P.cellsOf tQ = 1
  k : P.underlying tK = some (.int .i64)
  r : P.underlying tR = some (.int .i64)
  p : ∃ g0 g1 : Field, P.underlying tP = some (.struct #[g0, g1]) ∧ g0.offset = 0 ∧ g1.offset = 1 ∧ g0.type = tI ∧ g1.type = tI
  ic : P.cellsOf tI = 1
  i : P.underlying tI = some (.int .i64)
  l : P.underlying tL = some (.slice tL1)
  l1c : P.cellsOf tL1 = 1
  l1 : P.underlying tL1 = some (.slice tP)
  q : P.underlying tQ = some (.slice tE)
  ec : P.cellsOf tE = 11
  e : ∃ h0 h1 : Field, P.underlying tE = some (.struct #[h0, h1]) ∧ h0.offset = 0 ∧ h1.offset = 1 ∧ h0.type = tB ∧ h1.type = tS
  bc : P.cellsOf tB = 1
  b : P.underlying tB = some .bool
theorem shape_den {tS tK tP tR tL tL1 tQ tE tB tI : TypeId} (T : ShT P tS tK tP tR tL tL1 tQ tE tB tI) : ∀ (fuel : Nat) (cs : List Value) (x : DataW H × List MemPlace), DataW.trod enc P w base spare held fuel tS cs = some x →
    ∃ s : Shp, ShW s ∧ Dyn.DenL w (fun b => b < w.heap.size) (cS (toSh s)) cs := by
  intro fuel
  induction fuel using Nat.strongRecOn with
  | _ fuel ih =>
    intro cs x hx
    obtain ⟨f0, f1, f2, f3, f4, f5, f6, hs, ⟨t0, t1, t2, t3, t4, t5, t6⟩, o0, o1, o2, o3, o4, o5, o6⟩ := T.s
    obtain ⟨g0, g1, hp, p0, p1, q0, q1⟩ := T.p
    obtain ⟨h0, h1, he, a0, a1, b0, b1⟩ := T.e
    obtain ⟨xs, n, rfl, _, hl, hlen, hf⟩ := DataW.trod_struct hs hx
    rw [T.sc] at hl
    obtain ⟨v0, v1, v2, v3, v4, v5, v6, v7, v8, v9, rfl⟩ : ∃ v0 v1 v2 v3 v4 v5 v6 v7 v8 v9 : Value, cs = [v0, v1, v2, v3, v4, v5, v6, v7, v8, v9] := by
      match cs, hl with
      | [v0, v1, v2, v3, v4, v5, v6, v7, v8, v9], _ => exact ⟨v0, v1, v2, v3, v4, v5, v6, v7, v8, v9, rfl⟩
    have hxl : xs.length = 7 := hlen
    have get : ∀ i, i < 7 → ∃ y, xs[i]? = some y := fun i hi => ⟨xs[i], List.getElem?_eq_getElem (by omega)⟩
    obtain ⟨y0, e0⟩ := get 0 (by decide)
    obtain ⟨y1, e1⟩ := get 1 (by decide)
    obtain ⟨y2, e2⟩ := get 2 (by decide)
    obtain ⟨y3, e3⟩ := get 3 (by decide)
    obtain ⟨y4, e4⟩ := get 4 (by decide)
    obtain ⟨y5, e5⟩ := get 5 (by decide)
    obtain ⟨y6, e6⟩ := get 6 (by decide)
    have k0 := hf 0 f0 rfl
    have k1 := hf 1 f1 rfl
    have k2 := hf 2 f2 rfl
    have k3 := hf 3 f3 rfl
    have k4 := hf 4 f4 rfl
    have k5 := hf 5 f5 rfl
    have k6 := hf 6 f6 rfl
    rw [e0, t0, o0, T.kc] at k0
    rw [e1, t1, o1, T.pc] at k1
    rw [e2, t2, o2, T.pc] at k2
    rw [e3, t3, o3, T.pc] at k3
    rw [e4, t4, o4, T.rc] at k4
    rw [e5, t5, o5, T.lc] at k5
    rw [e6, t6, o6, T.qc] at k6
    simp only [List.drop_zero, List.take_succ_cons, List.take_zero, List.drop_succ_cons] at k0 k1 k2 k3 k4 k5 k6
    obtain ⟨z0, r0, _⟩ := DataW.trod_int T.k k0
    obtain ⟨z4, r4, _⟩ := DataW.trod_int T.r k4
    simp only [List.cons.injEq, and_true] at r0 r4
    subst r0; subst r4
    obtain ⟨pa, _, _, a1', a2'⟩ := pt_den (F := fun b => b < w.heap.size) hp p0 p1 (by rw [q0]; exact T.ic) (by rw [q1]; exact T.ic) (by rw [q0]; exact T.i) (by rw [q1]; exact T.i) k1
    obtain ⟨pb, _, _, b1', b2'⟩ := pt_den (F := fun b => b < w.heap.size) hp p0 p1 (by rw [q0]; exact T.ic) (by rw [q1]; exact T.ic) (by rw [q0]; exact T.i) (by rw [q1]; exact T.i) k2
    obtain ⟨pc, _, _, c1', c2'⟩ := pt_den (F := fun b => b < w.heap.size) hp p0 p1 (by rw [q0]; exact T.ic) (by rw [q1]; exact T.ic) (by rw [q0]; exact T.i) (by rw [q1]; exact T.i) k3
    obtain ⟨l, hL⟩ := ctr_den T.l T.l1c T.l1 hp T.pc p0 p1 (by rw [q0]; exact T.ic) (by rw [q1]; exact T.ic) (by rw [q0]; exact T.i) (by rw [q1]; exact T.i) k5
    have parts : ∃ (m : Nat) (add : Nat → Bool) (sub : Nat → Shp), (∀ i, i < m → ShW (sub i)) ∧ Dyn.DenC w (fun b => b < w.heap.size) (.row m fun i => partC (add i) (toSh (sub i))) v9 := by
      rcases DataW.trod_slice T.q k6 with ⟨hv, _⟩ | ⟨a, len, cap, elems, rest, m, rfl, hv, _, hb, _, _, hel, hall, _⟩
      · simp only [List.cons.injEq, and_true] at hv
        subst hv
        exact ⟨0, fun _ => false, fun _ => .nil, fun i hi => absurd hi (Nat.not_lt_zero i), .nil _ none 0⟩
      · simp only [List.cons.injEq, and_true] at hv
        subst hv
        have part : ∀ i, i < len → ∃ q : (Bool × Shp) × (Nat → Value), ShW q.1.2 ∧ (∀ j, j < 11 → w.cell? ((a.add (i * 11)).add j) = some (q.2 j)) ∧ (∀ j, j < 11 → Dyn.DenC w (fun b => b < w.heap.size) ((partC q.1.1 (toSh q.1.2)).getD j default) (q.2 j)) := fun i hi => by
          have key := hall i hi
          rw [T.ec, List.getElem?_eq_getElem (by omega)] at key
          obtain ⟨cs', h1', h2'⟩ := Option.bind_eq_some_iff.1 key
          obtain ⟨_, hlen', hcell⟩ := World.cells?_some h1'
          obtain ⟨ys, n', rfl, _, _, hyl, hfy⟩ := DataW.trod_struct he h2'
          have hyl : ys.length = 2 := hyl
          have m0 := hfy 0 h0 rfl
          have m1 := hfy 1 h1 rfl
          rw [List.getElem?_eq_getElem (by omega), b0, a0, T.bc] at m0
          rw [List.getElem?_eq_getElem (by omega), b1, a1, T.sc] at m1
          obtain ⟨c, cs'', rfl⟩ : ∃ c cs'', cs' = c :: cs'' := by
            match cs', hlen' with
            | c :: cs'', _ => exact ⟨c, cs'', rfl⟩
          simp only [List.drop_zero, List.take_succ_cons, List.take_zero, List.drop_succ_cons] at m0 m1
          rw [List.take_of_length_le (by simp only [List.length_cons] at hlen'; omega)] at m1
          obtain ⟨q, hq, _⟩ := DataW.trod_bool T.b m0
          simp only [List.cons.injEq, and_true] at hq
          subst hq
          obtain ⟨s', hW', hD'⟩ := ih n' (by omega) _ _ m1
          refine ⟨((q, s'), fun j => ((.bool q : Value) :: cs'').getD j default), hW', fun j hj => ?_, fun j hj => ?_⟩
          · rw [hcell j hj]
            show _ = some ((Value.bool q :: cs'').getD j default)
            rw [List.getD_eq_getElem?_getD, List.getElem?_eq_getElem (by omega)]; rfl
          · exact DenL_get (ds := partC q (toSh s')) (us := .bool q :: cs'') ⟨.p _ rfl, hD'⟩ (by omega)
        by_cases hz : len = 0
        · subst hz
          exact ⟨0, fun _ => false, fun _ => .nil, fun i hi => absurd hi (Nat.not_lt_zero i), .nil _ (some a) cap⟩
        · haveI : Inhabited ((Bool × Shp) × (Nat → Value)) := ⟨((false, .nil), fun _ => default)⟩
          obtain ⟨g, hg⟩ := choose_lt part
          have z0 := (hg 0 (by omega)).2.1 0 (by decide)
          have za : (a.add (0 * 11)).add 0 = a.add 0 := rfl
          rw [za] at z0
          obtain ⟨hlt, hsp⟩ := addr_cell z0
          have hsp := hsp rfl
          obtain ⟨b, off, sp⟩ := a
          dsimp only at hsp
          subst hsp
          simp only [addr_add] at hg hlt
          exact ⟨len, fun i => (g i).1.1, fun i => (g i).1.2, fun i hi => (hg i hi).1, .row len _ b off cap 11 (fun i j => (g i).2 j) hlt (fun i hi => ⟨rfl, fun j hj => (hg i hi).2.1 j hj⟩) (fun i j hi hj => (hg i hi).2.2 j hj)⟩
    obtain ⟨m, add, sub, hW, hQ⟩ := parts
    exact ⟨.mk z0 pa pb pc z4 l m add sub, hW, .p _ rfl, a1', a2', b1', b2', c1', c2', .p _ rfl, hL, hQ, trivial⟩
theorem open_S {tS tK tP tR tL tL1 tQ tE tB tI : TypeId} (T : ShT P tS tK tP tR tL tL1 tQ tE tB tI) {r : Reach} {b0 : Nat} {v : Value} {d : DataW H} {ps : List MemPlace} (hval : Value.okWide P w r b0 tS v) (hd : DataW.Trod enc P w base spare held tS v d ps) :
    ∃ s : Shp, ShW s ∧ Dyn.DenV w (fun b => b < w.heap.size) (dvS (toSh s)) v := by
  obtain ⟨f0, f1, f2, f3, f4, f5, f6, hs, _⟩ := T.s
  obtain ⟨cs, rfl, _⟩ := okWide_struct hs hval
  obtain ⟨fuel, hf⟩ := hd
  obtain ⟨s, h1, h2⟩ := shape_den T fuel _ _ hf
  exact ⟨s, h1, ⟨cs, rfl, h2⟩⟩
/-- a turn -/
theorem open_T {tT : TypeId} {f0 f1 f2 f3 g0 g1 : Field} (hs : P.underlying tT = some (.struct #[f0, f1, f2, f3])) (hC : P.cellsOf tT = 5) (ho : f0.offset = 0 ∧ f1.offset = 1 ∧ f2.offset = 2 ∧ f3.offset = 3) (hc : P.cellsOf f0.type = 1 ∧ P.cellsOf f1.type = 1 ∧ P.cellsOf f2.type = 1 ∧ P.cellsOf f3.type = 2)
    (u0 : P.underlying f0.type = some .bool) (u1 : P.underlying f1.type = some .bool) (u2 : P.underlying f2.type = some (.int .i64)) (hp : P.underlying f3.type = some (.struct #[g0, g1])) (p0 : g0.offset = 0) (p1 : g1.offset = 1) (c0 : P.cellsOf g0.type = 1) (c1 : P.cellsOf g1.type = 1)
    (k0 : P.underlying g0.type = some (.int .i64)) (k1 : P.underlying g1.type = some (.int .i64)) {r : Reach} {b0 : Nat} {v : Value} {d : DataW H} {ps : List MemPlace} (hval : Value.okWide P w r b0 tT v) (hd : DataW.Trod enc P w base spare held tT v d ps) : ∃ t : Tn, v = tn t := by
  obtain ⟨cs, rfl, hsz⟩ := okWide_struct hs hval
  obtain ⟨fuel, hf⟩ := hd
  obtain ⟨y0, y1, y2, y3, n, _, _, h0, h1, h2, h3⟩ := trod_struct4 hs hf
  rw [hC] at hsz
  obtain ⟨l⟩ := cs
  obtain ⟨v0, v1, v2, v3, v4, rfl⟩ : ∃ v0 v1 v2 v3 v4 : Value, l = [v0, v1, v2, v3, v4] := by
    match l, hsz with
    | [v0, v1, v2, v3, v4], _ => exact ⟨v0, v1, v2, v3, v4, rfl⟩
  simp only [Value.cells] at h0 h1 h2 h3
  rw [ho.1, hc.1] at h0
  rw [ho.2.1, hc.2.1] at h1
  rw [ho.2.2.1, hc.2.2.1] at h2
  rw [ho.2.2.2, hc.2.2.2] at h3
  simp only [List.drop_zero, List.take_succ_cons, List.take_zero, List.drop_succ_cons] at h0 h1 h2 h3
  obtain ⟨q0, e0, _⟩ := DataW.trod_bool u0 h0
  obtain ⟨q1, e1, _⟩ := DataW.trod_bool u1 h1
  obtain ⟨q2, e2, _⟩ := DataW.trod_int u2 h2
  obtain ⟨p, r1, r2, _, _⟩ := pt_den (F := fun _ => True) hp p0 p1 c0 c1 k0 k1 h3
  simp only [List.cons.injEq, and_true] at e0 e1 e2
  subst e0; subst e1; subst e2; subst r1; subst r2
  exact ⟨⟨q0, q1, q2, p⟩, rfl⟩
end
theorem den_T (t : Tn) (w : World) (F : Nat → Prop) : Dyn.DenV w F (dvT t) (tn t) := ⟨_, rfl, .p _ rfl, .p _ rfl, .p _ rfl, .p _ rfl, .p _ rfl, trivial⟩
theorem shT : ShT Try.prog 29 3 23 2 26 78 27 45 4 2 where
  s := ⟨_, _, _, _, _, _, _, Try.underlying29, ⟨rfl, rfl, rfl, rfl, rfl, rfl, rfl⟩, rfl, rfl, rfl, rfl, rfl, rfl, rfl⟩
  sc := by kernel_rfl
  kc := by kernel_rfl
  pc := by kernel_rfl
  rc := by kernel_rfl
  lc := by kernel_rfl
  qc := by kernel_rfl
  k := Try.underlying3
  r := Try.underlying2
  p := ⟨_, _, Try.underlying23, rfl, rfl, rfl, rfl⟩
  ic := by kernel_rfl
  i := Try.underlying2
  l := Try.underlying26
  l1c := by kernel_rfl
  l1 := Try.underlying78
  q := Try.underlying27
  ec := by kernel_rfl
  e := ⟨_, _, Try.underlying45, rfl, rfl, rfl, rfl⟩
  bc := by kernel_rfl
  b := Try.underlying4
end Go.Proofs.Ytfooaikpcbnchaa

/-! ## Pia -/
namespace Go.Proofs.Ytfooaikpcbnchaa
open Go Go.RowKit Sym
set_option maxRecDepth 100000

/-! ### a list of objects, as the parts of a form -/
def dvL (x : Sh) : Dyn.DV := .one (.row x.n x.f)
def obX (n : Nat) (f : Nat → List Dyn.DC) : Sh := ⟨6, ze, ze, ze, 0, zeC, n, f⟩
def mkL (n : Nat) (add : Nat → Bool) (sh : Nat → Sh) : Sh := mkSh 6 ze ze ze 0 zeC n add sh
def qL : Dec Sh
  | .one (.row n f) => some (obX n f, [])
  | _ => none
theorem qL_ok : DecOk qL dvL (fun _ => True) := fun d x ps h hp => by
  unfold qL at h; split at h
  · simp only [Option.some.injEq, Prod.mk.injEq] at h
    obtain ⟨rfl, rfl⟩ := h
    exact ⟨⟨rfl, fun _ _ => rfl⟩, trivial⟩
  · cases h
theorem SLe.dvL {x y : Sh} (h : SLe x y) : Dyn.DVLe (dvL x) (dvL y) := ⟨h.2.2.2.2.2.2.1, h.2.2.2.2.2.2.2⟩
def dtyO (t : TypeId) : Bool := dtyS t || Nat.beq t 67 || Nat.beq t 63
def lForm (n : Nat) (add : Nat → Bool) (sub : Nat → Shp) : Shp := .mk 6 ze ze ze 0 zeC n add sub
def nuO : Shp → Nat
  | .nil => 0
  | .mk _ _ _ _ _ _ n _ _ => n
def adO : Shp → Nat → Bool
  | .nil, _ => false
  | .mk _ _ _ _ _ _ _ add _, i => add i
def suO : Shp → Nat → Shp
  | .nil, _ => .nil
  | .mk _ _ _ _ _ _ _ _ sub, i => sub i

/-! ### Small -/
noncomputable def sbG (sh : Nat → Sh) (i : Nat) (_ : Unit) : Bool × Unit := (smallE (sh i) 0, ())
noncomputable def small21 (s : Shp) : Bool := bif decide ((nuO s : Int) > 20) then false else (runN (fun i (_ : Unit) => (smallF (suO s i) 0, ())) () (nuO s)).1
noncomputable def tdSb : List Dyn.EntryD := [(14, en2D (qAnd qS PdW) qI fun x d => rB (smallE x d))]
noncomputable def tabSb : Dyn.Tabs := Dyn.tabs tbF tdSb noD dtyO
theorem tabSb_ok : Dyn.TabsOk Try.prog tabSb := Dyn.tabs_ok tbF_ok (List.forall_mem_cons.2 ⟨en2D_ok (qAnd_ok qS_ok) qI_ok fun x d h _ => small_all x h.1 d, fun _ h => by cases h⟩)
def sbS (s : Sh) (i : Int) : Dyn.St := mkS 20 [(0, sH 0 0 s.n), (2, .k (vb false)), (3, sI i)] [some (.deep [.row s.n s.f])]
def sbR : Dyn.St := mkS 20 [(2, .k (vb false))] []
def sbK : List Nat := [0, 2, 3]
noncomputable def sbLp (sh : Nat → Sh) (s : Sh) : Dyn.Lp := fun id st => match id with
  | 0 => some (.side [keepA 20 [0] [] sbK (2 ^ 3) st = sbS s 0, s.n ≤ 20] (.ite (runN (sbG sh) () s.n).1 (.leaf .normal (sbS s s.n)) (.leaf .ret sbR)))
  | _ => none
noncomputable def sbB (sh : Nat → Sh) (s : Sh) (i : Nat) : Dyn.Out :=
  .ite (decide ((i : Int) < s.n)) (.side [0 ≤ (i : Int) ∧ (i : Int) < s.n, PdW (sh i), ctrSelf (sh i).l] (.ite (!(smallE (sh i) 0)) (.leaf .ret sbR) (.leaf .normal (sbS s (W (i + 1)))))) (.leaf (.exit 0) (sbS s i))
theorem sb_B (n : Nat) (add : Nat → Bool) (sh : Nat → Sh) (i : Nat) : (Dyn.lexec Try.prog tabSb (sbLp sh (mkL n add sh)) 3 (unloopD (blkD Try.f36.body 0)) .leaf (sbS (mkL n add sh) i)).rl (keepR 20 [0] [] sbK [2]) = sbB sh (mkL n add sh) i := by kernel_rfl
theorem sb_blocks : blocksL (bodyD Try.f36.body) = [(0, .loop (unloopD (blkD Try.f36.body 0))), (1, blkD Try.f36.body 1)] := by kernel_rfl
theorem sb_b0 : blocksL (unloopD (blkD Try.f36.body 0)) = [(1, blkD Try.f36.body 1)] := by kernel_rfl
theorem sb_loop (n : Nat) (add : Nat → Bool) (sh : Nat → Sh) (hP : ∀ i, i < n → PdW (sh i)) (w0 : Dyn.Base Try.prog) (st : Dyn.St) (o : Dyn.Out) (h : sbLp sh (mkL n add sh) 0 st = some o) : Dyn.BlockSound Try.prog w0 0 (.loop (unloopD (blkD Try.f36.body 0))) st o := by
  simp only [sbLp, Option.some.injEq] at h
  subst h
  refine side_two fun hS hn => ?_
  have hn' : n ≤ 20 := hn
  refine run_block (fuel := 3) tabSb_ok mo (lp := sbLp sh (mkL n add sh)) (by rw [sb_b0]; exact lpOk_cons (fun s o h => by cases h) lpOk_nil) (fun i (_ : Unit) => sbS (mkL n add sh) i) n (sbG sh) () (fun _ => sbR) (keepR 20 [0] [] sbK [2]) (keepR_ent 20 _ _ _ _) (fun i _ => sbB sh (mkL n add sh) i) (fun i _ => sb_B n add sh i) (fun i a hi ha => ?_) (fun a ha => ?_) (hS ▸ keepA_ent 20 _ _ _ _ st)
  · refine ⟨fun _ => ⟨⟨⟨by omega, by show (i : Int) < (n : Int); omega⟩, hP i hi, ctrSelf_ok _, trivial⟩, fun hx => .inr ⟨rfl, ?_, Dyn.Fits.refl _⟩, fun hx => .inl ⟨rfl, ?_, ?_⟩⟩, fun hf => ?_⟩
    · simpa [sbG] using hx
    · simpa [sbG] using hx
    · rw [Wn1 hi (by omega)]; exact Dyn.Fits.refl _
    · rw [decide_eq_false_iff_not] at hf
      exact absurd (show (i : Int) < (n : Int) by omega) hf
  · refine ⟨fun ht => ?_, fun _ => ⟨rfl, Dyn.Fits.refl _⟩⟩
    rw [decide_eq_true_eq] at ht
    exact absurd (show (n : Int) < (n : Int) from ht) (by omega)
noncomputable def sbO (sh : Nat → Sh) (s : Sh) : Dyn.RO :=
  .ite (decide ((s.n : Int) > 20)) (.leaf (rB false)) (.side [sbS s 0 = sbS s 0, s.n ≤ 20] (.ite (runN (sbG sh) () s.n).1 (.leaf (rB true)) (.leaf (rB false))))
theorem sb_O (sh : Nat → Sh) (s : Sh) : (Dyn.dfun Try.prog tabSb (sbLp sh s) 3 Try.f36 [dvL s]).ro Try.prog Try.f36.results = sbO sh s := by kernel_rfl
theorem sb_lvl (n : Nat) (add : Nat → Bool) (sh : Nat → Sh) (hP : ∀ i, i < n → PdW (sh i)) : Dyn.CallD Try.prog 36 [dvL (mkL n add sh)] (rB (bif decide ((n : Int) > 20) then false else (runN (sbG sh) () n).1)) :=
  Dyn.dcontract (lp := sbLp sh (mkL n add sh)) (fuel := 3) tabSb_ok mo Try.func36 (by kernel_rfl) (c := bodyD Try.f36.body) (by kernel_rfl)
    (fun w0 => by rw [sb_blocks]; exact lpOk_cons (sb_loop n add sh hP w0) (lpOk_cons (fun s o h => by cases h) lpOk_nil))
    (by kernel_rfl) (sb_O sh _) (by
      refine ⟨fun h => ?_, fun h => ⟨⟨rfl, ?_, trivial⟩, fun h2 => ?_, fun h2 => ?_⟩⟩
      · rw [show decide ((n : Int) > 20) = true from h]; exact ro_leaf rfl
      · have : ¬ (n : Int) > 20 := of_decide_eq_false h
        show n ≤ 20
        omega
      · rw [show decide ((n : Int) > 20) = false from h, show (runN (sbG sh) () n).1 = true from h2]; exact ro_leaf rfl
      · rw [show decide ((n : Int) > 20) = false from h, show (runN (sbG sh) () n).1 = false from h2]; exact ro_leaf rfl)
theorem small21_ok : ∀ s : Shp, ShW s → Dyn.CallD Try.prog 36 [dvL (toSh s)] (rB (small21 s)) := by
  intro s h
  cases s with
  | nil => exact h.elim
  | mk k a b c r l n add sub =>
    have q := sb_lvl n add (fun i => toSh (sub i)) fun i hi => PdW_mk (h i hi)
    unfold sbG at q
    simp only [smallE_eq] at q
    exact q
/-! ### Tame -/
noncomputable def tame21 (s : Shp) (sm : Bool) : Shp := .mk 6 ze ze ze 0 zeC (min (nuO s) 12) (adO s) (fun i => tameS (suO s i) sm 2)
noncomputable def tdTl : List Dyn.EntryD := [(18, en3D (qAnd qS PdS) qB qI fun x q d => .val (dvS (tameE x q d)))]
def drTl (K : Nat) : Bool := Nat.beq K 18
noncomputable def tabTl : Dyn.Tabs := Dyn.tabs tbF tdTl drTl dtyO
theorem tabTl_ok : Dyn.TabsOk Try.prog tabTl := Dyn.tabs_ok tbF_ok (List.forall_mem_cons.2 ⟨en3D_ok (qAnd_ok qS_ok) qB_ok qI_ok fun x q d h _ _ => tame_all x h.1 q d, fun _ h => by cases h⟩)
noncomputable def tlF (add : Nat → Bool) (sh : Nat → Sh) (sm : Bool) (i : Nat) : List Dyn.DC := partC (add i) (tameE (sh i) sm 2)
noncomputable def tlS (s : Sh) (add : Nat → Bool) (sh : Nat → Sh) (sm : Bool) (t : Int) (i : Nat) : Dyn.St := mkS 34 [(0, sH 0 0 s.n), (1, sB sm), (4, .k (.slice none 0 0)), (5, sH 1 0 i), (6, sI t)] [some (.deep [.row s.n s.f]), some (.own 67 i (tlF add sh sm))]
def tlK : List Nat := [0, 1, 4, 5, 6]
noncomputable def tlLp (add : Nat → Bool) (sh : Nat → Sh) (s : Sh) (sm : Bool) : Dyn.Lp := fun id st => match id with
  | 0 => some (.side [Dyn.nilSlot 5 67 (tlF add sh sm) (keepS 34 [0] tlK (2 ^ 6) st) = tlS s add sh sm 0 0] (.leaf .normal (tlS s add sh sm (min s.n 12 : Nat) (min s.n 12))))
  | _ => none
noncomputable def tlV (s : Sh) (add : Nat → Bool) (sh : Nat → Sh) (sm : Bool) (i : Nat) : Dyn.St := mkS 34 [(0, sH 0 0 s.n), (1, sB sm), (4, .k (.slice none 0 0)), (5, sH 1 0 (i + 1)), (6, sI (W (i + 1)))] [some (.deep [.row s.n s.f]), some (.own 67 (i + 1) (Dyn.appF i (tlF add sh sm) (fun _ => tlF add sh sm i)))]
noncomputable def tlB (s : Sh) (add : Nat → Bool) (sh : Nat → Sh) (sm : Bool) (i : Nat) : Dyn.Out :=
  .ite (bif decide ((i : Int) < s.n) then decide ((i : Int) < 12) else false)
    (.side [0 ≤ (i : Int) ∧ (i : Int) < s.n, 0 ≤ (i : Int) ∧ (i : Int) < s.n, PdS (sh i), ctrSelf (sh i).l, szP 120 i] (.leaf .normal (tlV s add sh sm i)))
    (.leaf (.exit 0) (tlS s add sh sm i i))
theorem tl_B (n : Nat) (add : Nat → Bool) (sh : Nat → Sh) (sm : Bool) (i : Nat) : (Dyn.lexec Try.prog tabTl (tlLp add sh (mkL n add sh) sm) 3 (unloopD (blkD Try.f38.body 0)) .leaf (tlS (mkL n add sh) add sh sm i i)).rl (fun _ s => keepA 34 [0] [5] tlK 0 s) = tlB (mkL n add sh) add sh sm i := by kernel_rfl
theorem tl_blocks : blocksL (bodyD Try.f38.body) = [(0, .loop (unloopD (blkD Try.f38.body 0))), (1, blkD Try.f38.body 1)] := by kernel_rfl
theorem tl_b0 : blocksL (unloopD (blkD Try.f38.body 0)) = [(1, blkD Try.f38.body 1)] := by kernel_rfl
theorem tl_loop (n : Nat) (add : Nat → Bool) (sh : Nat → Sh) (sm : Bool) (hn : n ≤ 1000000000) (hP : ∀ i, i < n → PdS (sh i)) (w0 : Dyn.Base Try.prog) (st : Dyn.St) (o : Dyn.Out) (h : tlLp add sh (mkL n add sh) sm 0 st = some o) : Dyn.BlockSound Try.prog w0 0 (.loop (unloopD (blkD Try.f38.body 0))) st o := by
  simp only [tlLp, Option.some.injEq] at h
  subst h
  refine side_one fun hS => ?_
  refine fold_block (fuel := 3) tabTl_ok mo (lp := tlLp add sh (mkL n add sh) sm) (by rw [tl_b0]; exact lpOk_cons (fun s o h => by cases h) lpOk_nil) (fun i (_ : Unit) => tlS (mkL n add sh) add sh sm i i) (min n 12) (fun _ _ => ()) () (fun _ s => keepA 34 [0] [5] tlK 0 s) (fun _ s => keepA_ent 34 _ _ _ 0 s) (fun i _ => tlB (mkL n add sh) add sh sm i) (fun i _ => tl_B n add sh sm i) (fun i hi => ?_) ?_ (hS ▸ (keepS_ent 34 (by decide) _ _ st).trans (Dyn.Ent.nilSlot (P := Try.prog) (k := 10) (by kernel_rfl) _ _))
  · have hi' : i < n := by omega
    refine ⟨fun _ => ⟨⟨⟨by omega, by show (i : Int) < (n : Int); omega⟩, ⟨by omega, by show (i : Int) < (n : Int); omega⟩, hP i hi', ctrSelf_ok _, szP_ok (by decide) (by omega), trivial⟩, rfl, ?_⟩, fun hf => ?_⟩
    · unfold tlV
      rw [Wn1 hi' hn]
      exact ⟨rfl, Dyn.HeLe.refl _, le_app rfl, trivial⟩
    · rw [Bool.eq_false_iff] at hf
      exact absurd (and_iff.2 ⟨show (i : Int) < (n : Int) by omega, by omega⟩) hf
  · refine ⟨fun ht => ?_, fun _ => ⟨rfl, Dyn.Fits.refl _⟩⟩
    have ht := and_iff.1 ht
    have h1 : ((min n 12 : Nat) : Int) < (n : Int) := ht.1
    have h2 : ((min n 12 : Nat) : Int) < 12 := ht.2
    omega
theorem tl_O (add : Nat → Bool) (sh : Nat → Sh) (s : Sh) (sm : Bool) : (Dyn.dfun Try.prog tabTl (tlLp add sh s sm) 3 Try.f38 [dvL s, dvB sm]).ro Try.prog Try.f38.results = .side [tlS s add sh sm 0 0 = tlS s add sh sm 0 0] (.leaf (.val (.one (.row (min s.n 12) (tlF add sh sm))))) := by kernel_rfl
theorem tl_lvl (n : Nat) (add : Nat → Bool) (sh : Nat → Sh) (sm : Bool) (hn : n ≤ 1000000000) (hP : ∀ i, i < n → PdS (sh i)) : Dyn.CallD Try.prog 38 [dvL (mkL n add sh), dvB sm] (.val (.one (.row (min n 12) (tlF add sh sm)))) :=
  Dyn.dcontract (lp := tlLp add sh (mkL n add sh) sm) (fuel := 3) tabTl_ok mo Try.func38 (by kernel_rfl) (c := bodyD Try.f38.body) (by kernel_rfl)
    (fun w0 => by rw [tl_blocks]; exact lpOk_cons (tl_loop n add sh sm hn hP w0) (lpOk_cons (fun s o h => by cases h) lpOk_nil))
    (by kernel_rfl) (tl_O add sh _ sm) ⟨⟨rfl, trivial⟩, rfl, fun _ _ => rfl⟩
theorem tame21_ok : ∀ s : Shp, ShB s → ∀ sm, Dyn.CallD Try.prog 38 [dvL (toSh s), dvB sm] (.val (dvL (toSh (tame21 s sm)))) := by
  intro s h sm
  cases s with
  | nil => exact h.elim
  | mk k a b c r l n add sub =>
    have q := tl_lvl n add (fun i => toSh (sub i)) sm h.2.1 fun i hi => PdS_mk (h.2.2 i hi)
    unfold tlF at q
    simp only [tameE_eq] at q
    exact q
/-! ### Class -/
noncomputable def figClassS (s : Shp) (b : B4) : Int := bif !(okE (toSh s)) then 0 else classF s b
noncomputable def pClass (s : Shp) (b : B4) : Int := foldN (fun i acc => foldF acc (figClassS (suO s i) b) (adO s i)) 0 (nuO s)
theorem figClassE_eq (s : Shp) (b : B4) : figClassE (toSh s) b = figClassS s b := by unfold figClassE figClassS; rw [classE_eq]
noncomputable def tdPc : List Dyn.EntryD := [(29, en2D (qAnd qS PdS) qX fun x b => rI (figClassE x b))]
noncomputable def tabPc : Dyn.Tabs := Dyn.tabs tbF tdPc noD dtyO
theorem tabPc_ok : Dyn.TabsOk Try.prog tabPc := Dyn.tabs_ok tbF_ok (List.forall_mem_cons.2 ⟨en2D_ok (qAnd_ok qS_ok) qX_ok fun x b h _ => figClass_ok x h.1 b, fun _ h => by cases h⟩)
noncomputable def pcG (sh : Nat → Sh) (add : Nat → Bool) (b : B4) (i : Nat) (acc : Int) : Int := foldF acc (figClassE (sh i) b) (add i)
def pcS (s : Sh) (b : B4) (acc i : Int) : Dyn.St := mkS 24 [(3, sL 1), (4, .k (vi 0)), (5, sI acc), (8, sH 0 0 s.n), (9, sI s.n), (10, sI i)] [some (.deep [.row s.n s.f]), some (.cells 47 [vi b.x0, vi b.y0, vi b.x1, vi b.y1])]
def pcK : List Nat := [3, 4, 5, 8, 9, 10]
noncomputable def pcLp (sh : Nat → Sh) (add : Nat → Bool) (s : Sh) (b : B4) : Dyn.Lp := fun id st => match id with
  | 0 => some (.side [keepA 24 [0, 1] [] pcK (2 ^ 5 + 2 ^ 10) st = pcS s b 0 0] (.leaf .normal (pcS s b (foldN (pcG sh add b) 0 s.n) s.n)))
  | _ => none
noncomputable def pcB (sh : Nat → Sh) (add : Nat → Bool) (s : Sh) (b : B4) (i : Nat) (acc : Int) : Dyn.Out :=
  .ite (decide ((i : Int) < s.n)) (.side [0 ≤ (i : Int) ∧ (i : Int) < s.n] (.side [PdS (sh i), ctrSelf (sh i).l] (.leaf .normal (pcS s b (foldF acc (figClassE (sh i) b) (add i)) (W (i + 1)))))) (.leaf (.exit 0) (pcS s b acc i))
theorem pc_B (n : Nat) (add : Nat → Bool) (sh : Nat → Sh) (b : B4) (i : Nat) (acc : Int) : (Dyn.lexec Try.prog tabPc (pcLp sh add (mkL n add sh) b) 3 (unloopD (blkD Try.f40.body 0)) .leaf (pcS (mkL n add sh) b acc i)).rl (keepR 24 [0, 1] [] pcK []) = pcB sh add (mkL n add sh) b i acc := by kernel_rfl
theorem pc_blocks : blocksL (bodyD Try.f40.body) = [(0, .loop (unloopD (blkD Try.f40.body 0))), (1, blkD Try.f40.body 1)] := by kernel_rfl
theorem pc_b0 : blocksL (unloopD (blkD Try.f40.body 0)) = [(1, blkD Try.f40.body 1)] := by kernel_rfl
theorem pc_loop (n : Nat) (add : Nat → Bool) (sh : Nat → Sh) (hn : n ≤ 1000000000) (hP : ∀ i, i < n → PdS (sh i)) (b : B4) (w0 : Dyn.Base Try.prog) (s : Dyn.St) (o : Dyn.Out) (h : pcLp sh add (mkL n add sh) b 0 s = some o) : Dyn.BlockSound Try.prog w0 0 (.loop (unloopD (blkD Try.f40.body 0))) s o := by
  simp only [pcLp, Option.some.injEq] at h
  subst h
  refine side_one fun hS => ?_
  refine fold_block (fuel := 3) tabPc_ok mo (lp := pcLp sh add (mkL n add sh) b) (by rw [pc_b0]; exact lpOk_cons (fun s o h => by cases h) lpOk_nil) (fun i acc => pcS (mkL n add sh) b acc i) n (pcG sh add b) 0 (keepR 24 [0, 1] [] pcK []) (keepR_ent 24 _ _ _ _) (fun i acc => pcB sh add (mkL n add sh) b i acc) (fun i acc => pc_B n add sh b i acc) (fun i hi => ?_) ?_ (hS ▸ keepA_ent 24 _ _ _ _ s)
  · refine ⟨fun _ => ⟨⟨⟨by omega, by show (i : Int) < (n : Int); omega⟩, trivial⟩, ⟨hP i hi, ctrSelf_ok _, trivial⟩, rfl, ?_⟩, fun hf => ?_⟩
    · rw [Wn1 hi hn]; exact Dyn.Fits.refl _
    · rw [decide_eq_false_iff_not] at hf
      exact absurd (show (i : Int) < (n : Int) by omega) hf
  · refine ⟨fun ht => ?_, fun _ => ⟨rfl, Dyn.Fits.refl _⟩⟩
    rw [decide_eq_true_eq] at ht
    exact absurd (show (n : Int) < (n : Int) from ht) (by omega)
theorem pc_O (sh : Nat → Sh) (add : Nat → Bool) (s : Sh) (b : B4) : (Dyn.dfun Try.prog tabPc (pcLp sh add s b) 3 Try.f40 [dvL s, dvX b]).ro Try.prog Try.f40.results = .side [pcS s b 0 0 = pcS s b 0 0] (.leaf (rI (foldN (pcG sh add b) 0 s.n))) := by kernel_rfl
theorem pc_lvl (n : Nat) (add : Nat → Bool) (sh : Nat → Sh) (hn : n ≤ 1000000000) (hP : ∀ i, i < n → PdS (sh i)) (b : B4) : Dyn.CallD Try.prog 40 [dvL (mkL n add sh), dvX b] (rI (foldN (pcG sh add b) 0 n)) :=
  Dyn.dcontract (lp := pcLp sh add (mkL n add sh) b) (fuel := 3) tabPc_ok mo Try.func40 (by kernel_rfl) (c := bodyD Try.f40.body) (by kernel_rfl)
    (fun w0 => by rw [pc_blocks]; exact lpOk_cons (pc_loop n add sh hn hP b w0) (lpOk_cons (fun s o h => by cases h) lpOk_nil))
    (by kernel_rfl) (pc_O sh add _ b) ⟨⟨rfl, trivial⟩, ro_leaf rfl⟩
theorem pClass_ok : ∀ s : Shp, ShB s → ∀ b, Dyn.CallD Try.prog 40 [dvL (toSh s), dvX b] (rI (pClass s b)) := by
  intro s h b
  cases s with
  | nil => exact h.elim
  | mk k a b' c r l n add sub =>
    have q := pc_lvl n add (fun i => toSh (sub i)) h.2.1 (fun i hi => PdS_mk (h.2.2 i hi)) b
    unfold pcG at q
    simp only [figClassE_eq] at q
    exact q
end Go.Proofs.Ytfooaikpcbnchaa

/-! ## Rof -/
namespace Go.Proofs.Ytfooaikpcbnchaa
open Go Go.ChangeShapes Go.WideShapes Go.ChangeAt Go.RowKit Go.Joins Go.Deep
set_option maxRecDepth 100000

section
variable {H : Type} {enc : TypeId × Value → H} {P : Program} {w : World} {base : Nat} {spare : Nat → Bool} {held : Bool}
theorem objs_den {tS tK tP tR tL tL1 tQ tE tB tI tQ' tE' : TypeId} (T : ShT P tS tK tP tR tL tL1 tQ tE tB tI) (q : P.underlying tQ' = some (.slice tE')) (ec : P.cellsOf tE' = 11)
    (he : ∃ h0 h1 : Field, P.underlying tE' = some (.struct #[h0, h1]) ∧ h0.offset = 0 ∧ h1.offset = 1 ∧ h0.type = tB ∧ h1.type = tS) {fuel : Nat} {v9 : Value} {y : DataW H × List MemPlace} (k6 : DataW.trod enc P w base spare held fuel tQ' [v9] = some y) :
    ∃ (m : Nat) (add : Nat → Bool) (sub : Nat → Shp), (∀ i, i < m → ShW (sub i)) ∧ Dyn.DenC w (fun b => b < w.heap.size) (.row m fun i => partC (add i) (toSh (sub i))) v9 := by
  obtain ⟨h0, h1, he, a0, a1, b0, b1⟩ := he
  rcases DataW.trod_slice q k6 with ⟨hv, _⟩ | ⟨a, len, cap, elems, rest, m, rfl, hv, _, hb, _, _, hel, hall, _⟩
  · simp only [List.cons.injEq, and_true] at hv
    subst hv
    exact ⟨0, fun _ => false, fun _ => .nil, fun i hi => absurd hi (Nat.not_lt_zero i), .nil _ none 0⟩
  · simp only [List.cons.injEq, and_true] at hv
    subst hv
    have part : ∀ i, i < len → ∃ q : (Bool × Shp) × (Nat → Value), ShW q.1.2 ∧ (∀ j, j < 11 → w.cell? ((a.add (i * 11)).add j) = some (q.2 j)) ∧ (∀ j, j < 11 → Dyn.DenC w (fun b => b < w.heap.size) ((partC q.1.1 (toSh q.1.2)).getD j default) (q.2 j)) := fun i hi => by
      have key := hall i hi
      rw [ec, List.getElem?_eq_getElem (by omega)] at key
      obtain ⟨cs', h1', h2'⟩ := Option.bind_eq_some_iff.1 key
      obtain ⟨_, hlen', hcell⟩ := World.cells?_some h1'
      obtain ⟨ys, n', rfl, _, _, hyl, hfy⟩ := DataW.trod_struct he h2'
      have hyl : ys.length = 2 := hyl
      have m0 := hfy 0 h0 rfl
      have m1 := hfy 1 h1 rfl
      rw [List.getElem?_eq_getElem (by omega), b0, a0, T.bc] at m0
      rw [List.getElem?_eq_getElem (by omega), b1, a1, T.sc] at m1
      obtain ⟨c, cs'', rfl⟩ : ∃ c cs'', cs' = c :: cs'' := by
        match cs', hlen' with
        | c :: cs'', _ => exact ⟨c, cs'', rfl⟩
      simp only [List.drop_zero, List.take_succ_cons, List.take_zero, List.drop_succ_cons] at m0 m1
      rw [List.take_of_length_le (by simp only [List.length_cons] at hlen'; omega)] at m1
      obtain ⟨q, hq, _⟩ := DataW.trod_bool T.b m0
      simp only [List.cons.injEq, and_true] at hq
      subst hq
      obtain ⟨s', hW', hD'⟩ := shape_den T n' _ _ m1
      refine ⟨((q, s'), fun j => ((.bool q : Value) :: cs'').getD j default), hW', fun j hj => ?_, fun j hj => ?_⟩
      · rw [hcell j hj]
        show _ = some ((Value.bool q :: cs'').getD j default)
        rw [List.getD_eq_getElem?_getD, List.getElem?_eq_getElem (by omega)]; rfl
      · exact DenL_get (ds := partC q (toSh s')) (us := .bool q :: cs'') ⟨.p _ rfl, hD'⟩ (by omega)
    by_cases hz : len = 0
    · subst hz
      exact ⟨0, fun _ => false, fun _ => .nil, fun i hi => absurd hi (Nat.not_lt_zero i), .nil _ (some a) cap⟩
    · haveI : Inhabited ((Bool × Shp) × (Nat → Value)) := ⟨((false, .nil), fun _ => default)⟩
      obtain ⟨g, hg⟩ := choose_lt part
      have z0 := (hg 0 (by omega)).2.1 0 (by decide)
      have za : (a.add (0 * 11)).add 0 = a.add 0 := rfl
      rw [za] at z0
      obtain ⟨hlt, hsp⟩ := addr_cell z0
      have hsp := hsp rfl
      obtain ⟨b, off, sp⟩ := a
      dsimp only at hsp
      subst hsp
      simp only [addr_add] at hg hlt
      exact ⟨len, fun i => (g i).1.1, fun i => (g i).1.2, fun i hi => (hg i hi).1, .row len _ b off cap 11 (fun i j => (g i).2 j) hlt (fun i hi => ⟨rfl, fun j hj => (hg i hi).2.1 j hj⟩) (fun i j hi hj => (hg i hi).2.2 j hj)⟩
theorem open_O {tS tK tP tR tL tL1 tQ tE tB tI tQ' tE' : TypeId} (T : ShT P tS tK tP tR tL tL1 tQ tE tB tI) (q : P.underlying tQ' = some (.slice tE')) (ec : P.cellsOf tE' = 11)
    (he : ∃ h0 h1 : Field, P.underlying tE' = some (.struct #[h0, h1]) ∧ h0.offset = 0 ∧ h1.offset = 1 ∧ h0.type = tB ∧ h1.type = tS) {r : Reach} {b0 : Nat} {v : Value} {d : DataW H} {ps : List MemPlace} (hval : Value.okWide P w r b0 tQ' v) (hd : DataW.Trod enc P w base spare held tQ' v d ps) :
    ∃ s : Shp, ShW s ∧ Dyn.DenV w (fun b => b < w.heap.size) (dvL (toSh s)) v := by
  obtain ⟨a, len, cap, rfl⟩ := okWide_slice q hval
  obtain ⟨fuel, hf⟩ := hd
  obtain ⟨m, add, sub, hW, hD⟩ := objs_den T q ec he hf
  exact ⟨lForm m add sub, hW, hD⟩
end
end Go.Proofs.Ytfooaikpcbnchaa
