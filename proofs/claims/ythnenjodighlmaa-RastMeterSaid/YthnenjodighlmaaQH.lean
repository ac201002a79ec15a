/-
  OWN WORK. Joined by merge.py: San Tua Tub Tuc Bou Rpl Rga Rgb.
-/
import Derived.Test.YthnenjodighlmaaQG
/-! ## San -/
namespace Go.Proofs.Ythnenjodighlmaa
open Go Go.RowKit Sym
set_option maxRecDepth 100000

def sqG (g : Sh → Sh → Bool) (add add' : Nat → Bool) (sh sh' : Nat → Sh) (i : Nat) (_ : Unit) : Bool × Unit := (!(bif add i != add' i then true else !(g (sh i) (sh' i))), ())
def SmeOk (x y : Sh) (g : Sh → Sh → Bool) : Prop := Dyn.CallD Try.prog 15 [dvS x, dvS y] (rB (g x y))
def tdE (Pd Qd : Sh → Prop) (g : Sh → Sh → Bool) : List Dyn.EntryD := [(41, en2D (qAnd qC CtrB) qC fun l m => rB (sptF l m)), (15, en2D (qAnd qS Pd) (qAnd qS Qd) fun x y => rB (g x y))]
def dtE (t : TypeId) : Bool := Nat.beq t 27
def tabE (Pd Qd : Sh → Prop) (g : Sh → Sh → Bool) : Dyn.Tabs := Dyn.tabs tbF (tdE Pd Qd g) noD dtE
theorem tabE_ok {Pd Qd : Sh → Prop} {g : Sh → Sh → Bool} (ih : ∀ x, Pd x → ∀ y, Qd y → SmeOk x y g) : Dyn.TabsOk Try.prog (tabE Pd Qd g) :=
  Dyn.tabs_ok tbF_ok (List.forall_mem_cons.2 ⟨en2D_ok (qAnd_ok qC_ok) qC_ok fun l m h _ => samePts_ok l m h.1, List.forall_mem_cons.2 ⟨en2D_ok (qAnd_ok qS_ok) (qAnd_ok qS_ok) fun x y h h2 => ih x h.1 y h2.1, fun _ h => by cases h⟩⟩)
def sqS (x y : Sh) (i : Int) : Dyn.St := mkS 92 [(2, sL 2), (3, sL 3), (4, .k (vb false)), (5, sI i)] [some (.deep (cS x)), some (.deep (cS y)), some (.cells 27 (shV 0 8 x)), some (.cells 27 (shV 1 8 y))]
def sqR : Dyn.St := mkS 92 [(4, .k (vb false))] []
def sqK : List Nat := [2, 3, 4, 5]
def sqH0 (x y : Sh) : Bool :=
  bif bif bif bif bif x.k != y.k then true else !(eqP x.a y.a) then true else !(eqP x.b y.b) then true else !(eqP x.c y.c) then true else x.r != y.r then true else (x.n : Int) != (y.n : Int)
def sqH (x y : Sh) : Bool := bif sqH0 x y then true else !(sptF x.l y.l)
def sqLp (g : Sh → Sh → Bool) (add add' : Nat → Bool) (sh sh' : Nat → Sh) (x y : Sh) : Dyn.Lp := fun id st => match id with
  | 0 => some (.side [keepA 92 [0, 1, 2, 3] [] sqK (2 ^ 5) st = sqS x y 0 ∧ x.n = y.n] (.ite (runN (sqG g add add' sh sh') () x.n).1 (.leaf .normal (sqS x y (x.n : Nat))) (.leaf .ret sqR)))
  | _ => none
def sqB (Pd Qd : Sh → Prop) (g : Sh → Sh → Bool) (add add' : Nat → Bool) (sh sh' : Nat → Sh) (x y : Sh) (i : Nat) : Dyn.Out :=
  .ite (decide ((i : Int) < x.n)) (.ite (add i != add' i)
    (.side [0 ≤ (i : Int) ∧ (i : Int) < x.n, 0 ≤ (i : Int) ∧ (i : Int) < y.n, (add i != add' i) = true] (.ite true (.leaf .ret sqR) (.leaf .normal (sqS x y (W (i + 1))))))
    (.side [0 ≤ (i : Int) ∧ (i : Int) < x.n, 0 ≤ (i : Int) ∧ (i : Int) < y.n, (add i != add' i) = false, 0 ≤ (i : Int) ∧ (i : Int) < x.n, 0 ≤ (i : Int) ∧ (i : Int) < y.n, Pd (sh i), ctrSelf (sh i).l, Qd (sh' i), ctrSelf (sh' i).l] (.ite (!(g (sh i) (sh' i))) (.leaf .ret sqR) (.leaf .normal (sqS x y (W (i + 1)))))))
    (.leaf (.exit 0) (sqS x y i))
theorem sq_B (Pd Qd : Sh → Prop) (g : Sh → Sh → Bool) (k : Int) (a b c : P2) (r : Int) (l : Ctr) (n : Nat) (add : Nat → Bool) (sh : Nat → Sh) (k' : Int) (a' b' c' : P2) (r' : Int) (l' : Ctr) (n' : Nat) (add' : Nat → Bool) (sh' : Nat → Sh) (i : Nat) :
    (Dyn.lexec Try.prog (tabE Pd Qd g) (sqLp g add add' sh sh' (mkSh k a b c r l n add sh) (mkSh k' a' b' c' r' l' n' add' sh')) 3 (unloopD (blkD Try.f15.body 0)) .leaf (sqS (mkSh k a b c r l n add sh) (mkSh k' a' b' c' r' l' n' add' sh') i)).rl (keepR 92 [0, 1, 2, 3] [] sqK [4])
      = sqB Pd Qd g add add' sh sh' (mkSh k a b c r l n add sh) (mkSh k' a' b' c' r' l' n' add' sh') i := by kernel_rfl
theorem sq_blocks : blocksL (bodyD Try.f15.body) = [(0, .loop (unloopD (blkD Try.f15.body 0))), (1, blkD Try.f15.body 1)] := by kernel_rfl
theorem sq_b0 : blocksL (unloopD (blkD Try.f15.body 0)) = [(1, blkD Try.f15.body 1)] := by kernel_rfl
theorem sq_loop {Pd Qd : Sh → Prop} {g : Sh → Sh → Bool} (ih : ∀ x, Pd x → ∀ y, Qd y → SmeOk x y g) (k : Int) (a b c : P2) (r : Int) (l : Ctr) (n : Nat) (add : Nat → Bool) (sh : Nat → Sh) (k' : Int) (a' b' c' : P2) (r' : Int) (l' : Ctr) (n' : Nat) (add' : Nat → Bool) (sh' : Nat → Sh) (hn : n ≤ 1000000000) (hP : ∀ i, i < n → Pd (sh i)) (hQ : ∀ i, i < n' → Qd (sh' i)) (w0 : Dyn.Base Try.prog) (st : Dyn.St) (o : Dyn.Out)
    (h : sqLp g add add' sh sh' (mkSh k a b c r l n add sh) (mkSh k' a' b' c' r' l' n' add' sh') 0 st = some o) : Dyn.BlockSound Try.prog w0 0 (.loop (unloopD (blkD Try.f15.body 0))) st o := by
  simp only [sqLp, Option.some.injEq] at h
  subst h
  refine side_one fun hSe => ?_
  have hS := hSe.1
  have he : n = n' := hSe.2
  refine run_block (fuel := 3) (tabE_ok ih) mo (lp := sqLp g add add' sh sh' (mkSh k a b c r l n add sh) (mkSh k' a' b' c' r' l' n' add' sh')) (by rw [sq_b0]; exact lpOk_cons (fun s o h => by cases h) lpOk_nil) (fun i (_ : Unit) => sqS (mkSh k a b c r l n add sh) (mkSh k' a' b' c' r' l' n' add' sh') i) n (sqG g add add' sh sh') () (fun _ => sqR) (keepR 92 [0, 1, 2, 3] [] sqK [4]) (keepR_ent 92 _ _ _ _) (fun i _ => sqB Pd Qd g add add' sh sh' (mkSh k a b c r l n add sh) (mkSh k' a' b' c' r' l' n' add' sh') i) (fun i _ => sq_B Pd Qd g k a b c r l n add sh k' a' b' c' r' l' n' add' sh' i) (fun i q hi ha => ?_) (fun q ha => ?_) (hS ▸ keepA_ent 92 _ _ _ _ st)
  · have s1 : 0 ≤ (i : Int) ∧ (i : Int) < (n : Int) := ⟨by omega, by omega⟩
    have s2 : 0 ≤ (i : Int) ∧ (i : Int) < (n' : Int) := ⟨by omega, by omega⟩
    unfold sqG
    refine ⟨fun _ => ⟨fun hx => ⟨⟨s1, s2, hx, trivial⟩, fun _ => .inr ⟨rfl, ?_, Dyn.Fits.refl _⟩, fun h => (by cases h)⟩, fun hx => ⟨⟨s1, s2, hx, s1, s2, hP i hi, ctrSelf_ok _, hQ i (by omega), ctrSelf_ok _, trivial⟩, fun hy => .inr ⟨rfl, ?_, Dyn.Fits.refl _⟩, fun hy => .inl ⟨rfl, ?_, ?_⟩⟩⟩, fun hf => ?_⟩
    · rw [hx]; rfl
    · rw [hx, hy]; rfl
    · rw [hx, hy]; rfl
    · rw [Wn1 hi hn]; exact Dyn.Fits.refl _
    · rw [decide_eq_false_iff_not] at hf
      exact absurd s1.2 hf
  · refine ⟨fun ht => ?_, fun _ => ⟨rfl, Dyn.Fits.refl _⟩⟩
    rw [decide_eq_true_eq] at ht
    exact absurd (show (n : Int) < (n : Int) from ht) (by omega)
def sqO (g : Sh → Sh → Bool) (add add' : Nat → Bool) (sh sh' : Nat → Sh) (x y : Sh) : Dyn.RO :=
  .side [some (sqH0 x y) = some false ∧ True → allP [CtrB x.l, ctrSelf x.l, ctrSelf y.l]] (.ite (sqH x y) (.leaf (rB false)) (.side [sqS x y 0 = sqS x y 0 ∧ x.n = y.n] (.ite (runN (sqG g add add' sh sh') () x.n).1 (.leaf (rB true)) (.leaf (rB false)))))
theorem sq_O (Pd Qd : Sh → Prop) (g : Sh → Sh → Bool) (add add' : Nat → Bool) (sh sh' : Nat → Sh) (x y : Sh) : (Dyn.dfun Try.prog (tabE Pd Qd g) (sqLp g add add' sh sh' x y) 3 Try.f15 [dvS x, dvS y]).ro Try.prog Try.f15.results = sqO g add add' sh sh' x y := by kernel_rfl
def sameG (g : Sh → Sh → Bool) (add add' : Nat → Bool) (sh sh' : Nat → Sh) (x y : Sh) : Bool := bif sqH x y then false else (runN (sqG g add add' sh sh') () x.n).1
theorem sqH_n {x y : Sh} (h : sqH x y = false) : x.n = y.n := by
  unfold sqH sqH0 at h
  cases hn : (x.n : Int) != (y.n : Int)
  · have : (x.n : Int) = (y.n : Int) := by simpa using hn
    omega
  · rw [hn] at h
    revert h
    cases x.r != y.r <;> cases x.k != y.k <;> cases eqP x.a y.a <;> cases eqP x.b y.b <;> cases eqP x.c y.c <;> intro h <;> cases h
theorem same_lvl {Pd Qd : Sh → Prop} {g : Sh → Sh → Bool} (ih : ∀ x, Pd x → ∀ y, Qd y → SmeOk x y g) (k : Int) (a b c : P2) (r : Int) (l : Ctr) (n : Nat) (add : Nat → Bool) (sh : Nat → Sh) (k' : Int) (a' b' c' : P2) (r' : Int) (l' : Ctr) (n' : Nat) (add' : Nat → Bool) (sh' : Nat → Sh) (hl : CtrB l) (hn : n ≤ 1000000000) (hP : ∀ i, i < n → Pd (sh i)) (hQ : ∀ i, i < n' → Qd (sh' i)) :
    Dyn.CallD Try.prog 15 [dvS (mkSh k a b c r l n add sh), dvS (mkSh k' a' b' c' r' l' n' add' sh')] (rB (sameG g add add' sh sh' (mkSh k a b c r l n add sh) (mkSh k' a' b' c' r' l' n' add' sh'))) :=
  Dyn.dcontract (lp := sqLp g add add' sh sh' (mkSh k a b c r l n add sh) (mkSh k' a' b' c' r' l' n' add' sh')) (fuel := 3) (tabE_ok ih) mo Try.func15 (by kernel_rfl) (c := bodyD Try.f15.body) (by kernel_rfl)
    (fun w0 => by
      rw [sq_blocks]
      exact lpOk_cons (sq_loop ih k a b c r l n add sh k' a' b' c' r' l' n' add' sh' hn hP hQ w0) (lpOk_cons (fun s o h => by cases h) lpOk_nil))
    (by kernel_rfl) (sq_O Pd Qd g add add' sh sh' _ _) (by
      unfold sameG
      refine ⟨⟨fun _ => ⟨hl, ctrSelf_ok _, ctrSelf_ok _, trivial⟩, trivial⟩, fun h => ?_, fun h => ⟨⟨⟨rfl, sqH_n h⟩, trivial⟩, fun h2 => ?_, fun h2 => ?_⟩⟩
      · rw [h]; exact ro_leaf rfl
      · rw [h]; exact (ro_leaf rfl : Dyn.RVLe _ _) |> fun z => by rw [show (bif false then false else (runN (sqG g add add' sh sh') () (mkSh k a b c r l n add sh).n).1) = true from h2]; exact z
      · rw [h]; exact (ro_leaf rfl : Dyn.RVLe _ _) |> fun z => by rw [show (bif false then false else (runN (sqG g add add' sh sh') () (mkSh k a b c r l n add sh).n).1) = false from h2]; exact z)
/-- Same, of all shapes -/
def sameF : Shp → Shp → Bool
  | .nil, _ => false
  | .mk _ _ _ _ _ _ _ _ _, .nil => false
  | .mk k a b c r l n add sub, .mk k' a' b' c' r' l' n' add' sub' =>
    bif sqH ⟨k, a, b, c, r, l, n, noF⟩ ⟨k', a', b', c', r', l', n', noF⟩ then false else (runN (fun i (_ : Unit) => (!(bif add i != add' i then true else !(sameF (sub i) (sub' i))), ())) () n).1
noncomputable def sameE (x y : Sh) : Bool := sameF (ofSh x) (ofSh y)
theorem sameE_lvl (k : Int) (a b c : P2) (r : Int) (l : Ctr) (n : Nat) (add : Nat → Bool) (sub : Nat → Shp) (k' : Int) (a' b' c' : P2) (r' : Int) (l' : Ctr) (n' : Nat) (add' : Nat → Bool) (sub' : Nat → Shp) :
    sameE (toSh (.mk k a b c r l n add sub)) (toSh (.mk k' a' b' c' r' l' n' add' sub')) = sameG sameE add add' (fun i => toSh (sub i)) (fun i => toSh (sub' i)) (mkSh k a b c r l n add (fun i => toSh (sub i))) (mkSh k' a' b' c' r' l' n' add' (fun i => toSh (sub' i))) := by
  unfold sameE sameG
  rw [ofSh_toSh, ofSh_toSh]
  show (bif _ then false else _) = (bif _ then false else _)
  have e : sqG sameE add add' (fun i => toSh (sub i)) (fun i => toSh (sub' i)) = fun i (_ : Unit) => (!(bif add i != add' i then true else !(sameF (sub i) (sub' i))), ()) := by
    funext i u
    unfold sqG sameE
    rw [ofSh_toSh, ofSh_toSh]
  show (bif _ then false else (runN _ () n).1) = (bif _ then false else (runN (sqG sameE add add' (fun i => toSh (sub i)) (fun i => toSh (sub' i))) () n).1)
  rw [e]
  rfl
theorem same_ok : ∀ s : Shp, ShB s → ∀ t : Shp, ShW t → SmeOk (toSh s) (toSh t) sameE := by
  intro s
  induction s with
  | nil => intro h; exact h.elim
  | mk k a b c r l n add sub ih =>
    intro h t
    cases t with
    | nil => intro h2; exact h2.elim
    | mk k' a' b' c' r' l' n' add' sub' =>
      intro h2
      unfold SmeOk
      rw [sameE_lvl]
      exact same_lvl (Pd := fun x => ∃ i, i < n ∧ x = toSh (sub i)) (Qd := fun y => ∃ t, ShW t ∧ y = toSh t) (fun x hx y hy => by
        obtain ⟨i, hi, rfl⟩ := hx
        obtain ⟨t, ht, rfl⟩ := hy
        exact ih i (h.2.2 i hi) t ht) k a b c r l n add (fun i => toSh (sub i)) k' a' b' c' r' l' n' add' (fun i => toSh (sub' i)) h.1 h.2.1 (fun i hi => ⟨i, hi, rfl⟩) (fun i hi => ⟨sub' i, h2 i hi, rfl⟩)
theorem same_all : ∀ x, PdS x → ∀ y, PdW y → SmeOk x y sameE := fun x hx y hy => by
  have k := same_ok _ hx.1 _ hy.1
  unfold SmeOk at k
  rw [show sameE (toSh (ofSh x)) (toSh (ofSh y)) = sameE x y by unfold sameE; rw [ofSh_toSh, ofSh_toSh]] at k
  exact CallD_le (args := [dvS (toSh (ofSh x)), dvS (toSh (ofSh y))]) ⟨SLe.dv hx.2, SLe.dv hy.2, trivial⟩ k
end Go.Proofs.Ythnenjodighlmaa

/-! ## Tua -/
namespace Go.Proofs.Ythnenjodighlmaa
open Go Go.RowKit Sym
set_option maxRecDepth 100000

def zl (b : Bool) : List Dyn.DC → List Dyn.DC → List Dyn.DC
  | a :: us, z :: zs => (bif b then a else z) :: zl b us zs
  | _, _ => []
theorem zl_t : ∀ {us zs : List Dyn.DC}, us.length = zs.length → zl true us zs = us
  | [], [], _ => rfl
  | a :: us, z :: zs, h => by show a :: zl true us zs = _; rw [zl_t (Nat.succ.inj h)]
theorem zl_f : ∀ {us zs : List Dyn.DC}, us.length = zs.length → zl false us zs = zs
  | [], [], _ => rfl
  | a :: us, z :: zs, h => by show z :: zl false us zs = _; rw [zl_f (Nat.succ.inj h)]
/-- a row being filled: i of its elements are made -/
def fil (F : Nat → List Dyn.DC) (z : List Dyn.DC) (i : Nat) : Nat → List Dyn.DC := fun j => zl (Nat.blt j i) (F j) z
theorem fil_in {F : Nat → List Dyn.DC} {z : List Dyn.DC} {i j : Nat} (hl : (F j).length = z.length) (h : j < i) : fil F z i j = F j := by
  unfold fil
  rw [show Nat.blt j i = true from Nat.ble_eq_true_of_le h]; exact zl_t hl
theorem fil_out {F : Nat → List Dyn.DC} {z : List Dyn.DC} {i j : Nat} (hl : (F j).length = z.length) (h : ¬ j < i) : fil F z i j = z := by
  unfold fil
  rw [show Nat.blt j i = false by rw [Bool.eq_false_iff]; exact fun e => h (Nat.le_of_ble_eq_true e)]; exact zl_f hl
theorem le_upd {t : TypeId} {n i : Nat} {F : Nat → List Dyn.DC} {z ds : List Dyn.DC} {off : Nat} (hl : ∀ j, (F j).length = z.length) (h : Dyn.setMany' z off ds = F i) : Dyn.HeLe (some (.own t n (Dyn.updF (fil F z i) i off ds))) (some (.own t n (fil F z (i + 1)))) := by
  refine ⟨rfl, rfl, fun j hj => ?_⟩
  unfold Dyn.updF
  by_cases e : j = i
  · subst e
    rw [show Nat.beq j j = true from Nat.beq_refl j, fil_in (hl j) (show j < j + 1 by omega), fil_out (hl j) (by omega)]
    exact h
  · rw [show Nat.beq j i = false by rw [Bool.eq_false_iff]; exact fun q => e (Nat.eq_of_beq_eq_true q)]
    by_cases l : j < i
    · rw [fil_in (hl j) l, fil_in (hl j) (by omega)]; rfl
    · rw [fil_out (hl j) l, fil_out (hl j) (by omega)]; rfl
def turnC (l : Ctr) (t : Tn) : Ctr := ⟨l.n, l.m, fun i k => turnPtF (l.p i k) t⟩
def apP (l : Ctr) (t : Tn) (i k : Nat) : List Dyn.DC := cP (turnPtF (l.p i k) t)
def apR (l : Ctr) (t : Tn) (i : Nat) : List Dyn.DC := [cRow (l.m i) (fun k => turnPtF (l.p i k) t)]
def apZ1 : List Dyn.DC := [nilR]
def apZ3 : List Dyn.DC := [cB false, cI 0, cI 0, cI 0, cI 0, cI 0, cI 0, cI 0, cI 0, nilR, nilR]
theorem leaf_fits {P : Program} {w0 : Dyn.Base P} {id : Nat} {c : Code} {s s1 s2 : Dyn.St} {e : AExit} (h : Dyn.BlockSound P w0 id c s (.leaf e s1)) (f : Dyn.Fits s1 s2) : Dyn.BlockSound P w0 id c s (.leaf e s2) := fun Q a w β m ng ho => h Q a w β m ng (fun β a w m ng => by
  obtain ⟨β', m', ng'⟩ := Dyn.Ent.fits f β a w m ng
  exact ho β' a w m' ng')
def apF (g : Sh → Tn → Sh) (sh : Nat → Sh) (add : Nat → Bool) (t : Tn) (i : Nat) : List Dyn.DC := partC (add i) (g (sh i) t)
def szM (b n : Nat) : Prop := 0 ≤ (n : Int) ∧ (n : Int) ≤ n ∧ (n : Int) ≤ 9223372036854775807 ∧ (b : Int) * (n : Int) ≤ 281474976710656
theorem szM_ok {b n : Nat} (hb : b ≤ 1000) (hn : n ≤ 1000000000) : szM b n := by
  refine ⟨by omega, by omega, by omega, ?_⟩
  have : b * n ≤ 1000 * 1000000000 := Nat.mul_le_mul hb hn
  have h2 : (b : Int) * (n : Int) = ((b * n : Nat) : Int) := by rw [Int.natCast_mul]
  rw [h2]; omega
def apZ2 : List Dyn.DC := [.p (vi 0), .p (vi 0)]
def tdA (Pd : Sh → Prop) (g : Sh → Tn → Sh) : List Dyn.EntryD := [(40, en2D (qAnd qS Pd) qT fun x t => .val (dvS (g x t)))]
def drA (K : Nat) : Bool := Nat.beq K 40
def tabAp (Pd : Sh → Prop) (g : Sh → Tn → Sh) : Dyn.Tabs := Dyn.tabs tf6 (tdA Pd g) drA dtyS
theorem tabAp_ok {Pd : Sh → Prop} {g : Sh → Tn → Sh} (ih : ∀ x, Pd x → ∀ t, Dyn.CallD Try.prog 40 [dvS x, dvT t] (.val (dvS (g x t)))) : Dyn.TabsOk Try.prog (tabAp Pd g) :=
  Dyn.tabs_ok tf6_ok (List.forall_mem_cons.2 ⟨en2D_ok (qAnd_ok qS_ok) qT_ok fun x t h _ => ih x h.1 t, fun _ h => by cases h⟩)
def apV (k r : Int) (L Q : Value) : List Value := [vi k, vi 0, vi 0, vi 0, vi 0, vi 0, vi 0, vi r, L, Q]
def tnV (t : Tn) : List Value := [vb t.mx, vb t.my, vi t.q, vi t.u.x, vi t.u.y]
def apS (s : Sh) (t : Tn) (i : Int) (f : Nat → List Dyn.DC) : Dyn.St := mkS 134 [(2, sL 1), (3, sL 2), (4, sL 3), (5, sL 4), (76, sH 0 8 s.l.n), (77, sI s.l.n), (78, sI i)]
  [some (.deep (cS s)), some (.cells 27 (shV 0 8 s)), some (.cells 29 (tnV t)), some (.cells 27 tmZ), some (.cells 27 (apV s.k s.r (.slice (some ⟨5, 0, some 0⟩) s.l.n 0) (.slice none 0 0))), some (.own 70 s.l.n f)]
def apT (s : Sh) (t : Tn) (i : Int) (f : Nat → List Dyn.DC) (j : Int) (f2 : Nat → List Dyn.DC) : Dyn.St := mkS 134 [(2, sL 1), (3, sL 2), (4, sL 3), (5, sL 4), (6, sI i), (7, sH 5 0 (s.l.m i.toNat)), (8, sH 6 0 (s.l.m i.toNat)), (76, sH 0 8 s.l.n), (77, sI s.l.n), (78, sI i), (86, sH 5 0 (s.l.m i.toNat)), (87, sI (s.l.m i.toNat)), (88, sI j)]
  [some (.deep (cS s)), some (.cells 27 (shV 0 8 s)), some (.cells 29 (tnV t)), some (.cells 27 tmZ), some (.cells 27 (apV s.k s.r (.slice (some ⟨7, 0, some 0⟩) s.l.n 0) (.slice none 0 0))), some (.deep [cRow (s.l.m i.toNat) (s.l.p i.toNat)]), some (.own 23 (s.l.m i.toNat) f2), some (.own 70 s.l.n f)]
def apU (s : Sh) (t : Tn) (i : Int) (f : Nat → List Dyn.DC) : Dyn.St := mkS 134 [(2, sL 1), (3, sL 2), (4, sL 3), (5, sL 4), (114, sH 0 9 s.n), (115, sI s.n), (116, sI i)]
  [some (.deep (cS s)), some (.cells 27 (shV 0 8 s)), some (.cells 29 (tnV t)), some (.cells 27 tmZ), some (.cells 27 (apV s.k s.r (.slice none 0 0) (.slice (some ⟨5, 0, some 0⟩) s.n 0))), some (.own 35 s.n f)]
def apK0 : List Nat := [2, 3, 4, 5, 76, 77, 78]
def apK1 : List Nat := [2, 3, 4, 5, 6, 7, 8, 76, 77, 78, 86, 87, 88]
def apK2 : List Nat := [2, 3, 4, 5, 114, 115, 116]
def apLp (g : Sh → Tn → Sh) (sh : Nat → Sh) (add : Nat → Bool) (s : Sh) (t : Tn) : Dyn.Lp := fun id st => match id with
  | 1 => some (.side [keepC 134 [0, 1, 2, 3, 9] [] [(9, 8)] apK0 (2 ^ 78) st = apS s t 0 (fil (apR s.l t) apZ1 0)] (.leaf .normal (apS s t (s.l.n : Nat) (apR s.l t))))
  | 3 =>
    let i := intD (st.slots.getD 6 .junk)
    some (.side [keepC 134 [0, 1, 2, 3, 4] [7, 8] [(4, 8)] apK1 (2 ^ 88) st = apT s t i (fil (apR s.l t) apZ1 i.toNat) 0 (fil (apP s.l t i.toNat) apZ2 0), 0 ≤ i ∧ i < s.l.n] (.leaf .normal (apT s t i (fil (apR s.l t) apZ1 i.toNat) (s.l.m i.toNat : Nat) (apP s.l t i.toNat))))
  | 5 => some (.side [keepC 134 [0, 1, 2, 3, 9] [] [(9, 9)] apK2 (2 ^ 116) st = apU s t 0 (fil (apF g sh add t) apZ3 0)] (.leaf .normal (apU s t (s.n : Nat) (apF g sh add t))))
  | _ => none
def apBi (s : Sh) (t : Tn) (i : Nat) (f : Nat → List Dyn.DC) (j : Nat) : Dyn.Out :=
  .ite (decide ((j : Int) < s.l.m i)) (.side [0 ≤ (j : Int) ∧ (j : Int) < s.l.m i] (.side [0 ≤ (j : Int) ∧ (j : Int) < s.l.m i] (.leaf .normal (apT s t i f (W (j + 1)) (Dyn.updF (fil (apP s.l t i) apZ2 j) j 0 (cP (turnPtF (s.l.p i j) t))))))) (.leaf (.exit 3) (apT s t i f j (fil (apP s.l t i) apZ2 j)))
def apBo (s : Sh) (t : Tn) (i : Nat) : Dyn.Out :=
  .ite (decide ((i : Int) < s.l.n)) (.side [0 ≤ (i : Int) ∧ (i : Int) < s.l.n] (.side [szM 16 (s.l.m i)] (.side [apT s t i (fil (apR s.l t) apZ1 i) 0 (fil (apP s.l t i) apZ2 0) = apT s t i (fil (apR s.l t) apZ1 i) 0 (fil (apP s.l t i) apZ2 0), 0 ≤ (i : Int) ∧ (i : Int) < s.l.n] (.side [0 ≤ (i : Int) ∧ (i : Int) < s.l.n] (.leaf .normal (apS s t (W (i + 1)) (Dyn.updF (fil (apR s.l t) apZ1 i) i 0 (apR s.l t i)))))))) (.leaf (.exit 1) (apS s t i (fil (apR s.l t) apZ1 i)))
def apBp (Pd : Sh → Prop) (g : Sh → Tn → Sh) (sh : Nat → Sh) (add : Nat → Bool) (s : Sh) (t : Tn) (i : Nat) : Dyn.Out :=
  .ite (decide ((i : Int) < s.n)) (.side [0 ≤ (i : Int) ∧ (i : Int) < s.n] (.side [Pd (sh i), ctrSelf (sh i).l, 0 ≤ (i : Int) ∧ (i : Int) < s.n] (.leaf .normal (apU s t (W (i + 1)) (Dyn.updF (fil (apF g sh add t) apZ3 i) i 0 (apF g sh add t i)))))) (.leaf (.exit 5) (apU s t i (fil (apF g sh add t) apZ3 i)))
theorem ap_Bi (Pd : Sh → Prop) (g : Sh → Tn → Sh) (sh : Nat → Sh) (add : Nat → Bool) (s : Sh) (t : Tn) (i : Nat) (f : Nat → List Dyn.DC) (j : Nat) : (Dyn.lexec Try.prog (tabAp Pd g) (apLp g sh add s t) 3 (unloopD (blkD Try.f40.body 3)) .leaf (apT s t i f j (fil (apP s.l t i) apZ2 j))).rl (keepCR 134 [0, 1, 2, 3, 4] [7, 8] [(4, 8)] apK1 [] []) = apBi s t i f j := by kernel_rfl
theorem ap_Bo (Pd : Sh → Prop) (g : Sh → Tn → Sh) (sh : Nat → Sh) (add : Nat → Bool) (s : Sh) (t : Tn) (i : Nat) : (Dyn.lexec Try.prog (tabAp Pd g) (apLp g sh add s t) 3 (unloopD (blkD Try.f40.body 1)) .leaf (apS s t i (fil (apR s.l t) apZ1 i))).rl (keepCR 134 [0, 1, 2, 3, 4] [] [(4, 8)] apK0 [] []) = apBo s t i := by kernel_rfl
theorem ap_Bp (Pd : Sh → Prop) (g : Sh → Tn → Sh) (k : Int) (a b c : P2) (r : Int) (l : Ctr) (n : Nat) (add : Nat → Bool) (sh : Nat → Sh) (t : Tn) (i : Nat) : (Dyn.lexec Try.prog (tabAp Pd g) (apLp g sh add (mkSh k a b c r l n add sh) t) 3 (unloopD (blkD Try.f40.body 5)) .leaf (apU (mkSh k a b c r l n add sh) t i (fil (apF g sh add t) apZ3 i))).rl (keepCR 134 [0, 1, 2, 3, 4] [] [(4, 9)] apK2 [] []) = apBp Pd g sh add (mkSh k a b c r l n add sh) t i := by kernel_rfl
theorem ap_blocks : blocksL (bodyD Try.f40.body) = [(0, blkD Try.f40.body 0), (1, .loop (unloopD (blkD Try.f40.body 1))), (2, blkD Try.f40.body 2), (3, .loop (unloopD (blkD Try.f40.body 3))), (4, blkD Try.f40.body 4), (5, .loop (unloopD (blkD Try.f40.body 5))), (6, blkD Try.f40.body 6)] := by kernel_rfl
theorem ap_b1 : blocksL (unloopD (blkD Try.f40.body 1)) = [(2, blkD Try.f40.body 2), (3, .loop (unloopD (blkD Try.f40.body 3))), (4, blkD Try.f40.body 4)] := by kernel_rfl
theorem ap_b3 : blocksL (unloopD (blkD Try.f40.body 3)) = [(4, blkD Try.f40.body 4)] := by kernel_rfl
theorem ap_b5 : blocksL (unloopD (blkD Try.f40.body 5)) = [(6, blkD Try.f40.body 6)] := by kernel_rfl
theorem ap_inner {Pd : Sh → Prop} {g : Sh → Tn → Sh} (ih : ∀ x, Pd x → ∀ t, Dyn.CallD Try.prog 40 [dvS x, dvT t] (.val (dvS (g x t)))) (sh : Nat → Sh) (add : Nat → Bool) (s : Sh) (hl : CtrB s.l) (t : Tn) (w0 : Dyn.Base Try.prog) (st : Dyn.St) (o : Dyn.Out)
    (h : apLp g sh add s t 3 st = some o) : Dyn.BlockSound Try.prog w0 3 (.loop (unloopD (blkD Try.f40.body 3))) st o := by
  simp only [apLp, Option.some.injEq] at h
  subst h
  refine side_two fun hS hi => ?_
  revert hS hi
  generalize intD (st.slots.getD 6 .junk) = i'
  intro hS hi
  obtain ⟨i, rfl⟩ : ∃ i : Nat, i' = (i : Int) := ⟨i'.toNat, by omega⟩
  have hm : s.l.m i ≤ 1000000000 := hl.2 i (by omega)
  refine leaf_fits (s1 := apT s t i (fil (apR s.l t) apZ1 i) (s.l.m i : Nat) (fil (apP s.l t i) apZ2 (s.l.m i))) (fold_block (fuel := 3) (tabAp_ok ih) mo (lp := apLp g sh add s t) (by rw [ap_b3]; exact lpOk_cons (fun s o h => by cases h) lpOk_nil) (fun j (_ : Unit) => apT s t i (fil (apR s.l t) apZ1 i) j (fil (apP s.l t i) apZ2 j)) (s.l.m i) (fun _ _ => ()) () (keepCR 134 [0, 1, 2, 3, 4] [7, 8] [(4, 8)] apK1 [] []) (keepCR_ent 134 _ _ _ _ _ _) (fun j _ => apBi s t i (fil (apR s.l t) apZ1 i) j) (fun j _ => ap_Bi Pd g sh add s t i _ j) (fun j hj => ?_) ?_ (hS ▸ keepC_ent 134 _ _ _ _ _ st)) ?_
  · refine ⟨fun _ => ⟨⟨⟨by omega, by omega⟩, trivial⟩, ⟨⟨by omega, by omega⟩, trivial⟩, rfl, ?_⟩, fun hf => ?_⟩
    · rw [Wn1 hj hm]
      exact ⟨rfl, Dyn.HeLe.refl _, Dyn.HeLe.refl _, Dyn.HeLe.refl _, Dyn.HeLe.refl _, Dyn.HeLe.refl _, Dyn.HeLe.refl _, le_upd (fun _ => rfl) rfl, Dyn.HeLe.refl _, trivial⟩
    · rw [decide_eq_false_iff_not] at hf; omega
  · refine ⟨fun ht => ?_, fun _ => ⟨rfl, Dyn.Fits.refl _⟩⟩
    rw [decide_eq_true_eq] at ht; omega
  · exact ⟨rfl, Dyn.HeLe.refl _, Dyn.HeLe.refl _, Dyn.HeLe.refl _, Dyn.HeLe.refl _, Dyn.HeLe.refl _, Dyn.HeLe.refl _, ⟨rfl, rfl, fun j hj => fil_in rfl hj⟩, Dyn.HeLe.refl _, trivial⟩
theorem ap_outer {Pd : Sh → Prop} {g : Sh → Tn → Sh} (ih : ∀ x, Pd x → ∀ t, Dyn.CallD Try.prog 40 [dvS x, dvT t] (.val (dvS (g x t)))) (sh : Nat → Sh) (add : Nat → Bool) (s : Sh) (hl : CtrB s.l) (t : Tn) (w0 : Dyn.Base Try.prog) (st : Dyn.St) (o : Dyn.Out)
    (h : apLp g sh add s t 1 st = some o) : Dyn.BlockSound Try.prog w0 1 (.loop (unloopD (blkD Try.f40.body 1))) st o := by
  simp only [apLp, Option.some.injEq] at h
  subst h
  refine side_one fun hS => ?_
  refine leaf_fits (s1 := apS s t (s.l.n : Nat) (fil (apR s.l t) apZ1 s.l.n)) (fold_block (fuel := 3) (tabAp_ok ih) mo (lp := apLp g sh add s t) (by rw [ap_b1]; exact lpOk_cons (fun s o h => by cases h) (lpOk_cons (ap_inner ih sh add s hl t w0) (lpOk_cons (fun s o h => by cases h) lpOk_nil))) (fun i (_ : Unit) => apS s t i (fil (apR s.l t) apZ1 i)) s.l.n (fun _ _ => ()) () (keepCR 134 [0, 1, 2, 3, 4] [] [(4, 8)] apK0 [] []) (keepCR_ent 134 _ _ _ _ _ _) (fun i _ => apBo s t i) (fun i _ => ap_Bo Pd g sh add s t i) (fun i hi => ?_) ?_ (hS ▸ keepC_ent 134 _ _ _ _ _ st)) ?_
  · have hb : 0 ≤ (i : Int) ∧ (i : Int) < s.l.n := ⟨by omega, by omega⟩
    refine ⟨fun _ => ⟨⟨hb, trivial⟩, ⟨szM_ok (by decide) (hl.2 i hi), trivial⟩, ⟨rfl, hb, trivial⟩, ⟨hb, trivial⟩, rfl, ?_⟩, fun hf => ?_⟩
    · rw [Wn1 hi hl.1]
      exact ⟨rfl, Dyn.HeLe.refl _, Dyn.HeLe.refl _, Dyn.HeLe.refl _, Dyn.HeLe.refl _, Dyn.HeLe.refl _, le_upd (fun _ => rfl) rfl, trivial⟩
    · rw [decide_eq_false_iff_not] at hf; omega
  · refine ⟨fun ht => ?_, fun _ => ⟨rfl, Dyn.Fits.refl _⟩⟩
    rw [decide_eq_true_eq] at ht; omega
  · exact ⟨rfl, Dyn.HeLe.refl _, Dyn.HeLe.refl _, Dyn.HeLe.refl _, Dyn.HeLe.refl _, Dyn.HeLe.refl _, ⟨rfl, rfl, fun j hj => fil_in rfl hj⟩, trivial⟩
theorem ap_parts {Pd : Sh → Prop} {g : Sh → Tn → Sh} (ih : ∀ x, Pd x → ∀ t, Dyn.CallD Try.prog 40 [dvS x, dvT t] (.val (dvS (g x t)))) (k : Int) (a b c : P2) (r : Int) (l : Ctr) (n : Nat) (add : Nat → Bool) (sh : Nat → Sh) (hn : n ≤ 1000000000) (hP : ∀ i, i < n → Pd (sh i)) (t : Tn) (w0 : Dyn.Base Try.prog) (st : Dyn.St) (o : Dyn.Out)
    (h : apLp g sh add (mkSh k a b c r l n add sh) t 5 st = some o) : Dyn.BlockSound Try.prog w0 5 (.loop (unloopD (blkD Try.f40.body 5))) st o := by
  simp only [apLp, Option.some.injEq] at h
  subst h
  refine side_one fun hS => ?_
  refine leaf_fits (s1 := apU (mkSh k a b c r l n add sh) t (n : Nat) (fil (apF g sh add t) apZ3 n)) (fold_block (fuel := 3) (tabAp_ok ih) mo (lp := apLp g sh add (mkSh k a b c r l n add sh) t) (by rw [ap_b5]; exact lpOk_cons (fun s o h => by cases h) lpOk_nil) (fun i (_ : Unit) => apU (mkSh k a b c r l n add sh) t i (fil (apF g sh add t) apZ3 i)) n (fun _ _ => ()) () (keepCR 134 [0, 1, 2, 3, 4] [] [(4, 9)] apK2 [] []) (keepCR_ent 134 _ _ _ _ _ _) (fun i _ => apBp Pd g sh add (mkSh k a b c r l n add sh) t i) (fun i _ => ap_Bp Pd g k a b c r l n add sh t i) (fun i hi => ?_) ?_ (hS ▸ keepC_ent 134 _ _ _ _ _ st)) ?_
  · have hb : 0 ≤ (i : Int) ∧ (i : Int) < (n : Int) := ⟨by omega, by omega⟩
    refine ⟨fun _ => ⟨⟨hb, trivial⟩, ⟨hP i hi, ctrSelf_ok _, hb, trivial⟩, rfl, ?_⟩, fun hf => ?_⟩
    · rw [Wn1 hi hn]
      exact ⟨rfl, Dyn.HeLe.refl _, Dyn.HeLe.refl _, Dyn.HeLe.refl _, Dyn.HeLe.refl _, Dyn.HeLe.refl _, le_upd (fun _ => rfl) rfl, trivial⟩
    · rw [decide_eq_false_iff_not] at hf
      exact absurd hb.2 hf
  · refine ⟨fun ht => ?_, fun _ => ⟨rfl, Dyn.Fits.refl _⟩⟩
    rw [decide_eq_true_eq] at ht
    exact absurd (show (n : Int) < (n : Int) from ht) (by omega)
  · exact ⟨rfl, Dyn.HeLe.refl _, Dyn.HeLe.refl _, Dyn.HeLe.refl _, Dyn.HeLe.refl _, Dyn.HeLe.refl _, ⟨rfl, rfl, fun j hj => fil_in rfl hj⟩, trivial⟩
def apO (g : Sh → Tn → Sh) (sh : Nat → Sh) (add : Nat → Bool) (s : Sh) (t : Tn) : Dyn.RO :=
  .ite (s.k == 1) (.leaf (rvT s.k (turnPtF s.a t) ze ze s.r nilR 0 noF))
  (.ite (bif s.k == 3 then s.k == 3 else s.k == 4) (.leaf (rvT s.k (turnPtF s.a t) (turnPtF s.b t) ze s.r nilR 0 noF))
  (.ite (s.k == 5) (.ite (t.mx != t.my) (.leaf (rvT s.k (turnPtF s.b t) (turnPtF s.a t) (turnPtF s.c t) s.r nilR 0 noF)) (.leaf (rvT s.k (turnPtF s.a t) (turnPtF s.b t) (turnPtF s.c t) s.r nilR 0 noF)))
  (.ite (s.k == 2) (.side [szM 24 s.l.n] (.side [apS s t 0 (fil (apR s.l t) apZ1 0) = apS s t 0 (fil (apR s.l t) apZ1 0)] (.leaf (rvT s.k ze ze ze s.r (.row s.l.n (apR s.l t)) 0 noF))))
  (.ite (s.k == 6) (.side [szM 120 s.n] (.side [apU s t 0 (fil (apF g sh add t) apZ3 0) = apU s t 0 (fil (apF g sh add t) apZ3 0)] (.leaf (rvT s.k ze ze ze s.r nilR s.n (apF g sh add t)))))
    (.leaf (rvT s.k ze ze ze s.r nilR 0 noF))))))
theorem ap_O (Pd : Sh → Prop) (g : Sh → Tn → Sh) (sh : Nat → Sh) (add : Nat → Bool) (s : Sh) (t : Tn) : (Dyn.dfun Try.prog (tabAp Pd g) (apLp g sh add s t) 3 Try.f40 [dvS s, dvT t]).ro Try.prog Try.f40.results = apO g sh add s t := by kernel_rfl
def applyG (g : Sh → Tn → Sh) (sh : Nat → Sh) (add : Nat → Bool) (s : Sh) (t : Tn) : Sh :=
  bif s.k == 1 then ⟨s.k, turnPtF s.a t, ze, ze, s.r, zeC, 0, noF⟩
  else bif bif s.k == 3 then s.k == 3 else s.k == 4 then ⟨s.k, turnPtF s.a t, turnPtF s.b t, ze, s.r, zeC, 0, noF⟩
  else bif s.k == 5 then ⟨s.k, bif t.mx != t.my then turnPtF s.b t else turnPtF s.a t, bif t.mx != t.my then turnPtF s.a t else turnPtF s.b t, turnPtF s.c t, s.r, zeC, 0, noF⟩
  else bif s.k == 2 then ⟨s.k, ze, ze, ze, s.r, turnC s.l t, 0, noF⟩
  else bif s.k == 6 then ⟨s.k, ze, ze, ze, s.r, zeC, s.n, apF g sh add t⟩
  else ⟨s.k, ze, ze, ze, s.r, zeC, 0, noF⟩
theorem ap_sat (g : Sh → Tn → Sh) (sh : Nat → Sh) (add : Nat → Bool) (s : Sh) (hl : CtrB s.l) (hn : s.n ≤ 1000000000) (t : Tn) : (apO g sh add s t).sat fun r => Dyn.RVLe r (.val (dvS (applyG g sh add s t))) := by
  unfold applyG
  refine ⟨fun h => ?_, fun h => ⟨fun h2 => ?_, fun h2 => ⟨fun h3 => ⟨fun h4 => ?_, fun h4 => ?_⟩, fun h3 => ⟨fun h4 => ⟨⟨szM_ok (by decide) hl.1, trivial⟩, ⟨rfl, trivial⟩, ?_⟩, fun h4 => ⟨fun h5 => ⟨⟨szM_ok (by decide) hn, trivial⟩, ⟨rfl, trivial⟩, ?_⟩, fun h5 => ?_⟩⟩⟩⟩⟩
  · rw [h]; exact rvT_le rfl rfl rfl rfl rfl nilR_le rfl fun _ _ => rfl
  · rw [h, h2]; exact rvT_le rfl rfl rfl rfl rfl nilR_le rfl fun _ _ => rfl
  · rw [h, h2, h3, h4]; exact rvT_le rfl rfl rfl rfl rfl nilR_le rfl fun _ _ => rfl
  · rw [h, h2, h3, h4]; exact rvT_le rfl rfl rfl rfl rfl nilR_le rfl fun _ _ => rfl
  · rw [h, h2, h3, h4]; exact rvT_le rfl rfl rfl rfl rfl (Dyn.DCLe.refl _) rfl fun _ _ => rfl
  · rw [h, h2, h3, h4, h5]; exact rvT_le rfl rfl rfl rfl rfl nilR_le rfl fun _ _ => rfl
  · rw [h, h2, h3, h4, h5]; exact rvT_le rfl rfl rfl rfl rfl nilR_le rfl fun _ _ => rfl
theorem apply_lvl {Pd : Sh → Prop} {g : Sh → Tn → Sh} (ih : ∀ x, Pd x → ∀ t, Dyn.CallD Try.prog 40 [dvS x, dvT t] (.val (dvS (g x t)))) (k : Int) (a b c : P2) (r : Int) (l : Ctr) (n : Nat) (add : Nat → Bool) (sh : Nat → Sh) (hl : CtrB l) (hn : n ≤ 1000000000) (hP : ∀ i, i < n → Pd (sh i)) (t : Tn) :
    Dyn.CallD Try.prog 40 [dvS (mkSh k a b c r l n add sh), dvT t] (.val (dvS (applyG g sh add (mkSh k a b c r l n add sh) t))) :=
  Dyn.dcontract (lp := apLp g sh add (mkSh k a b c r l n add sh) t) (fuel := 3) (tabAp_ok ih) mo Try.func40 (by kernel_rfl) (c := bodyD Try.f40.body) (by kernel_rfl)
    (fun w0 => by
      rw [ap_blocks]
      exact lpOk_cons (fun s o h => by cases h) (lpOk_cons (ap_outer ih sh add _ hl t w0) (lpOk_cons (fun s o h => by cases h) (lpOk_cons (ap_inner ih sh add _ hl t w0) (lpOk_cons (fun s o h => by cases h) (lpOk_cons (ap_parts ih k a b c r l n add sh hn hP t w0) (lpOk_cons (fun s o h => by cases h) lpOk_nil)))))))
    (by kernel_rfl) (ap_O Pd g sh add _ t) (ap_sat g sh add (mkSh k a b c r l n add sh) hl hn t)
/-- a shape turned -/
def turnS : Shp → Tn → Shp
  | .nil, _ => .nil
  | .mk k a b c r l n add sub, t =>
    bif k == 1 then leafS k (turnPtF a t) ze ze r zeC
    else bif bif k == 3 then k == 3 else k == 4 then leafS k (turnPtF a t) (turnPtF b t) ze r zeC
    else bif k == 5 then leafS k (bif t.mx != t.my then turnPtF b t else turnPtF a t) (bif t.mx != t.my then turnPtF a t else turnPtF b t) (turnPtF c t) r zeC
    else bif k == 2 then leafS k ze ze ze r (turnC l t)
    else bif k == 6 then .mk k ze ze ze r zeC n add (fun i => turnS (sub i) t)
    else leafS k ze ze ze r zeC
noncomputable def turnE (x : Sh) (t : Tn) : Sh := toSh (turnS (ofSh x) t)
theorem turnE_eq (s : Shp) (t : Tn) : turnE (toSh s) t = toSh (turnS s t) := by unfold turnE; rw [ofSh_toSh]
theorem ap_pick {K : Int} (D1 D2 D3 D4 D5 D6 : Sh) (E1 E2 E3 E4 E5 E6 : Shp) (h1 : Dyn.DVLe (dvS D1) (dvS (toSh E1))) (h2 : Dyn.DVLe (dvS D2) (dvS (toSh E2))) (h3 : Dyn.DVLe (dvS D3) (dvS (toSh E3))) (h4 : Dyn.DVLe (dvS D4) (dvS (toSh E4))) (h5 : Dyn.DVLe (dvS D5) (dvS (toSh E5))) (h6 : Dyn.DVLe (dvS D6) (dvS (toSh E6))) :
    Dyn.DVLe (dvS (bif K == 1 then D1 else bif bif K == 3 then K == 3 else K == 4 then D2 else bif K == 5 then D3 else bif K == 2 then D4 else bif K == 6 then D5 else D6)) (dvS (toSh (bif K == 1 then E1 else bif bif K == 3 then K == 3 else K == 4 then E2 else bif K == 5 then E3 else bif K == 2 then E4 else bif K == 6 then E5 else E6))) := by
  cases K == 1
  · cases (bif K == 3 then K == 3 else K == 4)
    · cases K == 5
      · cases K == 2
        · cases K == 6
          · exact h6
          · exact h5
        · exact h4
      · exact h3
    · exact h2
  · exact h1
theorem turnS_lvl (k : Int) (a b c : P2) (r : Int) (l : Ctr) (n : Nat) (add : Nat → Bool) (sub : Nat → Shp) (t : Tn) :
    Dyn.DVLe (dvS (applyG turnE (fun i => toSh (sub i)) add (mkSh k a b c r l n add (fun i => toSh (sub i))) t)) (dvS (toSh (turnS (.mk k a b c r l n add sub) t))) := by
  refine ap_pick (K := k) _ _ _ _ _ _ _ _ _ _ _ _ (dvS_leaf _ _ _ _ _ _) (dvS_leaf _ _ _ _ _ _) (dvS_leaf _ _ _ _ _ _) (dvS_leaf _ _ _ _ _ _) ?_ (dvS_leaf _ _ _ _ _ _)
  refine ⟨rfl, rfl, rfl, rfl, rfl, rfl, rfl, rfl, Dyn.DCLe.refl _, ⟨rfl, fun i hi => ?_⟩, trivial⟩
  show partC (add i) (turnE (toSh (sub i)) t) = partC (add i) (toSh (turnS (sub i) t))
  rw [turnE_eq]
theorem turnE_ok : ∀ s : Shp, ShB s → ∀ t, Dyn.CallD Try.prog 40 [dvS (toSh s), dvT t] (.val (dvS (turnE (toSh s) t))) := by
  intro s
  induction s with
  | nil => intro h; exact h.elim
  | mk k a b c r l n add sub ih =>
    intro h t
    rw [turnE_eq]
    refine CallD_rle (r := .val (dvS (applyG turnE (fun i => toSh (sub i)) add (mkSh k a b c r l n add (fun i => toSh (sub i))) t))) (turnS_lvl k a b c r l n add sub t) ?_
    exact apply_lvl (Pd := fun x => ∃ i, i < n ∧ x = toSh (sub i)) (fun x hx => by
      obtain ⟨i, hi, rfl⟩ := hx
      exact ih i (h.2.2 i hi)) k a b c r l n add (fun i => toSh (sub i)) h.1 h.2.1 (fun i hi => ⟨i, hi, rfl⟩) t
theorem apply_all : ∀ x, PdS x → ∀ t, Dyn.CallD Try.prog 40 [dvS x, dvT t] (.val (dvS (turnE x t))) := fun x hx t => by
  have k := turnE_ok _ hx.1 t
  rw [show turnE (toSh (ofSh x)) t = turnE x t by unfold turnE; rw [ofSh_toSh]] at k
  exact CallD_le (args := dvS (toSh (ofSh x)) :: [dvT t]) ⟨SLe.dv hx.2, Dyn.DVLe.refl _, trivial⟩ k
end Go.Proofs.Ythnenjodighlmaa

/-! ## Tub -/
namespace Go.Proofs.Ythnenjodighlmaa
open Go Go.RowKit Sym
set_option maxRecDepth 100000

theorem CtrB_turnC {l : Ctr} (h : CtrB l) (t : Tn) : CtrB (turnC l t) := h
theorem CtrB_ze : CtrB zeC := ⟨by decide, fun i hi => absurd hi (Nat.not_lt_zero i)⟩
theorem leaf_B (k : Int) (a b c : P2) (r : Int) {l : Ctr} (h : CtrB l) : ShB (leafS k a b c r l) := ⟨h, by decide, fun i hi => absurd hi (Nat.not_lt_zero i)⟩
theorem pick6_B {K : Int} {E1 E2 E3 E4 E5 E6 : Shp} (h1 : ShB E1) (h2 : ShB E2) (h3 : ShB E3) (h4 : ShB E4) (h5 : ShB E5) (h6 : ShB E6) : ShB (bif K == 1 then E1 else bif bif K == 3 then K == 3 else K == 4 then E2 else bif K == 5 then E3 else bif K == 2 then E4 else bif K == 6 then E5 else E6) := by
  cases K == 1
  · cases (bif K == 3 then K == 3 else K == 4)
    · cases K == 5
      · cases K == 2
        · cases K == 6
          · exact h6
          · exact h5
        · exact h4
      · exact h3
    · exact h2
  · exact h1
theorem turnS_B : ∀ s : Shp, ShB s → ∀ t, ShB (turnS s t) := by
  intro s
  induction s with
  | nil => intro h; exact h.elim
  | mk k a b c r l n add sub ih =>
    intro h t
    exact pick6_B (leaf_B _ _ _ _ _ CtrB_ze) (leaf_B _ _ _ _ _ CtrB_ze) (leaf_B _ _ _ _ _ CtrB_ze) (leaf_B _ _ _ _ _ (CtrB_turnC h.1 t)) ⟨CtrB_ze, h.2.1, fun i hi => ih i (h.2.2 i hi) t⟩ (leaf_B _ _ _ _ _ CtrB_ze)
theorem turnE_PdS {x : Sh} (h : PdS x) (t : Tn) : PdS (turnE x t) := by
  exact PdS_mk (turnS_B _ h.1 t)
theorem ShB_W : ∀ s : Shp, ShB s → ShW s := by
  intro s
  induction s with
  | nil => intro h; exact h.elim
  | mk k a b c r l n add sub ih => intro h i hi; exact ih i (h.2.2 i hi)
theorem PdS_W {x : Sh} (h : PdS x) : PdW x := ⟨ShB_W _ h.1, h.2⟩
/-- no shape -/
def noS : Shp := leafS 0 ze ze ze 0 zeC
noncomputable def moveE (x : Sh) (t : Tn) : Sh := bif okE x then bif okE (turnE x t) then turnE x t else toSh noS else toSh noS
noncomputable def movesE (x : Sh) (t : Tn) : Bool := bif okE x then okE (turnE x t) else false
theorem moveE_PdS {x : Sh} (h : PdS x) (t : Tn) : PdS (moveE x t) := by
  have hz : PdS (toSh noS) := PdS_mk (leaf_B _ _ _ _ _ CtrB_ze)
  unfold moveE
  cases okE x
  · exact hz
  · cases okE (turnE x t)
    · exact hz
    · exact turnE_PdS h t
noncomputable def tdAp : List Dyn.EntryD := [(39, en1D (qAnd qS PdS) fun x => rB (okE x)), (40, en2D (qAnd qS PdS) qT fun x t => .val (dvS (turnE x t)))]
def drAp (K : Nat) : Bool := Nat.beq K 40
noncomputable def tabAq : Dyn.Tabs := Dyn.tabs tbF tdAp drAp dtyS
theorem tabAq_ok : Dyn.TabsOk Try.prog tabAq := Dyn.tabs_ok tbF_ok (List.forall_mem_cons.2 ⟨en1D_ok (qAnd_ok qS_ok) fun x h => figOk_ok x h.1, List.forall_mem_cons.2 ⟨en2D_ok (qAnd_ok qS_ok) qT_ok fun x t h _ => apply_all x h.1 t, fun _ h => by cases h⟩⟩)
def zeroRV : Dyn.RV := .tup [.agg [cI 0, cI 0, cI 0, cI 0, cI 0, cI 0, cI 0, cI 0, nilR, nilR], dvB false]
noncomputable def apqO (x : Sh) (t : Tn) : Dyn.RO :=
  .side [PdS x, ctrSelf x.l] (.ite (!(okE x)) (.leaf zeroRV)
    (.side [PdS x, ctrSelf x.l] (.side [PdS (turnE x t), ctrSelf (turnE x t).l] (.ite (!(okE (turnE x t))) (.leaf zeroRV) (.leaf (.tup [dvS (turnE x t), dvB true]))))))
theorem apq_O (x : Sh) (t : Tn) : (Dyn.dfun Try.prog tabAq Dyn.noLp 3 Try.f14 [dvS x, dvT t]).ro Try.prog Try.f14.results = apqO x t := by kernel_rfl
theorem zero_le : Dyn.RVLe zeroRV (.tup [dvS (toSh noS), dvB false]) := ⟨⟨rfl, rfl, rfl, rfl, rfl, rfl, rfl, rfl, nilR_le, ⟨rfl, fun i hi => absurd hi (Nat.not_lt_zero _)⟩, trivial⟩, rfl, trivial⟩
theorem move_ok (x : Sh) (h : PdS x) (t : Tn) : Dyn.CallD Try.prog 14 [dvS x, dvT t] (.tup [dvS (moveE x t), dvB (movesE x t)]) :=
  Dyn.dcontract (lp := Dyn.noLp) (fuel := 3) tabAq_ok mo Try.func14 (by kernel_rfl) (c := bodyD Try.f14.body) (by kernel_rfl) (fun w0 => Dyn.noLp_ok _ w0) (by kernel_rfl) (apq_O x t) (by
    unfold moveE movesE
    refine ⟨⟨h, ctrSelf_ok _, trivial⟩, fun h1 => ?_, fun h1 => ⟨⟨h, ctrSelf_ok _, trivial⟩, ⟨turnE_PdS h t, ctrSelf_ok _, trivial⟩, fun h2 => ?_, fun h2 => ?_⟩⟩
    · rw [show okE x = false by simpa using h1]; exact zero_le
    · rw [show okE x = true by simpa using h1, show okE (turnE x t) = false by simpa using h2]; exact zero_le
    · rw [show okE x = true by simpa using h1, show okE (turnE x t) = true by simpa using h2]; exact ⟨Dyn.DVLe.refl _, rfl, trivial⟩)
/-- a turn that does not move far -/
def tameT (t : Tn) (n : Int) : Tn := ⟨t.mx, t.my, t.q, lClose t.u n⟩
theorem tameT_ok (t : Tn) (n : Int) (hn : W (n + 1) ≠ 0) : CallOk Try.prog 13 [tn t, vi n] (tn (tameT t n)) := fnOkS (fuel := 16) (tbOf_ok tbF_ok) mo Try.func13 (by kernel_rfl) (by kernel_rfl) (by kernel_rfl) (show _ = [W (n + 1) ≠ 0] by kernel_rfl) ⟨hn, trivial⟩
end Go.Proofs.Ythnenjodighlmaa

/-! ## Tuc -/
namespace Go.Proofs.Ythnenjodighlmaa
open Go Go.RowKit Sym
set_option maxRecDepth 100000

/-- a shape without rows, as a program writes it -/
def zeL : Ctr := ctrOf 0 noF
def litS (k : Int) (a b c : P2) (r : Int) : Sh := ⟨k, a, b, c, r, zeL, 0, noF⟩
theorem lit_Is : ctrIs 0 noF := fun i hi => absurd hi (Nat.not_lt_zero i)
theorem CtrB_zeL : CtrB zeL := ⟨by decide, fun i hi => absurd hi (Nat.not_lt_zero i)⟩
theorem lit_le (k : Int) (a b c : P2) (r : Int) : SLe (litS k a b c r) (toSh (leafS k a b c r zeL)) := ⟨rfl, rfl, rfl, rfl, rfl, rfl, rfl, fun i hi => absurd hi (Nat.not_lt_zero i)⟩
theorem PdS_lit (k : Int) (a b c : P2) (r : Int) : PdS (litS k a b c r) := PdS_le (leaf_B k a b c r CtrB_zeL) (lit_le k a b c r)
theorem ofSh_lit (k : Int) (a b c : P2) (r : Int) : ∃ add sub, ofSh (litS k a b c r) = .mk k a b c r zeL 0 add sub := by
  obtain ⟨add, sub, h, _⟩ := PdS_of (PdS_lit k a b c r)
  exact ⟨add, sub, h⟩
def okL (k : Int) (a b c : P2) (r : Int) (l : Ctr) : Bool := (validF (leafS k a b c r l) 0 1000).1
theorem okE_lit (k : Int) (a b c : P2) (r : Int) : okE (litS k a b c r) = okL k a b c r zeL := by
  obtain ⟨add, sub, h⟩ := ofSh_lit k a b c r
  unfold okE vE okL
  rw [h]
  rfl
theorem okE_leaf (k : Int) (a b c : P2) (r : Int) (l : Ctr) : okE (toSh (leafS k a b c r l)) = okL k a b c r l := by
  unfold okE okL
  rw [vE_eq]
theorem turn_disc (a b c : P2) (r : Int) (t : Tn) : turnE (litS 1 a b c r) t = toSh (leafS 1 (turnPtF a t) ze ze r zeC) := by
  obtain ⟨add, sub, h⟩ := ofSh_lit 1 a b c r
  unfold turnE
  rw [h]
  rfl
theorem turn_line (a b c : P2) (r : Int) (t : Tn) : turnE (litS 3 a b c r) t = toSh (leafS 3 (turnPtF a t) (turnPtF b t) ze r zeC) := by
  obtain ⟨add, sub, h⟩ := ofSh_lit 3 a b c r
  unfold turnE
  rw [h]
  rfl
def awT : Tn := ⟨true, false, 1, ⟨1, 0⟩⟩
def noT : Tn := ⟨false, false, 0, ⟨0, 0⟩⟩
def awS : Sh := litS 3 ze ⟨4, 0⟩ ze 1
theorem aw_1 : moveE awS awT = toSh (leafS 3 ⟨1, 0⟩ ⟨1, -4⟩ ze 1 zeC) ∧ movesE awS awT = true := by
  have e1 : okE awS = true := by unfold awS; rw [okE_lit]; kernel_rfl
  have e2 : turnE awS awT = toSh (leafS 3 ⟨1, 0⟩ ⟨1, -4⟩ ze 1 zeC) := by unfold awS; rw [turn_line]; kernel_rfl
  have e3 : okE (turnE awS awT) = true := by rw [e2, okE_leaf]; kernel_rfl
  unfold moveE movesE
  rw [e1, e3, e2]
  exact ⟨rfl, rfl⟩
theorem aw_2 : movesE (litS 0 ze ze ze 0) noT = false := by
  have e1 : okE (litS 0 ze ze ze 0) = false := by rw [okE_lit]; kernel_rfl
  unfold movesE
  rw [e1]; rfl
noncomputable def tdW : List Dyn.EntryD := [(14, en2D (qAnd qS PdS) qT fun x t => .tup [dvS (moveE x t), dvB (movesE x t)])]
def drW (K : Nat) : Bool := Nat.beq K 14
noncomputable def tabW : Dyn.Tabs := Dyn.tabs tbF tdW drW dtyS
theorem tabW_ok : Dyn.TabsOk Try.prog tabW := Dyn.tabs_ok tbF_ok (List.forall_mem_cons.2 ⟨en2D_ok (qAnd_ok qS_ok) qT_ok fun x t h _ => move_ok x h.1 t, fun _ h => by cases h⟩)
def eqT (x y : Tn) : Bool := bif x.mx == y.mx then bif x.my == y.my then bif x.q == y.q then bif eqP x.u y.u then true else false else false else false else false
def awV (M : Sh) (m n : Bool) : Bool :=
  bif bif bif bif bif eqP (turnPtF ⟨1, 0⟩ ⟨false, false, 1, ⟨0, 0⟩⟩) ⟨0, 1⟩ then m else false then eqP M.a ⟨1, 0⟩ else false then eqP M.b ⟨1, -4⟩ else false then !n else false then eqT (thenF ⟨false, true, 0, ⟨0, 0⟩⟩ noT) ⟨true, false, 2, ⟨0, 0⟩⟩ else false
theorem aw_O : (Dyn.dfun Try.prog tabW Dyn.noLp 3 Try.f11 []).ro Try.prog Try.f11.results = .side [PdS awS, ctrIs 0 noF] (.side [PdS (litS 0 ze ze ze 0), ctrIs 0 noF] (.leaf (rB (awV (moveE awS awT) (movesE awS awT) (movesE (litS 0 ze ze ze 0) noT))))) := by kernel_rfl
theorem awake11_ok : Dyn.CallD Try.prog 11 [] (rB true) :=
  Dyn.dcontract (lp := Dyn.noLp) (fuel := 3) tabW_ok mo Try.func11 (by kernel_rfl) (c := bodyD Try.f11.body) (by kernel_rfl) (fun w0 => Dyn.noLp_ok _ w0) (by kernel_rfl) aw_O (by
    refine ⟨⟨PdS_lit _ _ _ _ _, lit_Is, trivial⟩, ⟨PdS_lit _ _ _ _ _, lit_Is, trivial⟩, ?_⟩
    rw [aw_1.1, aw_1.2, aw_2, show awV (toSh (leafS 3 ⟨1, 0⟩ ⟨1, -4⟩ ze 1 zeC)) true false = true by kernel_rfl]
    exact ro_leaf rfl)
end Go.Proofs.Ythnenjodighlmaa

/-! ## Bou -/
namespace Go.Proofs.Ythnenjodighlmaa
open Go Go.RowKit Sym
set_option maxRecDepth 100000

def ruM (a : Int × Int) : Int := W ((W (a.1 + a.2)).tdiv 2)
def ruStep (v : Int) (a : Int × Int) : Int × Int := (bif decide (W (ruM a * ruM a) ≥ v) then a.1 else W (ruM a + 1), bif decide (W (ruM a * ruM a) ≥ v) then ruM a else a.2)
def ruG (v : Int) (_ : Nat) (a : Int × Int) : Int × Int := ruStep v a
def ruCnt (v : Int) : Nat → Int × Int → Nat
  | 0, _ => 0
  | f + 1, a => if a.1 < a.2 then ruCnt v f (ruStep v a) + 1 else 0
def ruA : Int × Int := (0, 2147483648)
def ruN (v : Int) : Nat := ruCnt v 32 ruA
/-- the least whole number whose square is not less than v -/
def rupF (v : Int) : Int := (foldN (ruG v) ruA (ruN v)).1
def ruI (a : Int × Int) : Prop := 0 ≤ a.1 ∧ a.1 ≤ a.2 ∧ a.2 ≤ 2147483648
theorem ruM_eq {a : Int × Int} (h : ruI a) : ruM a = (a.1 + a.2) / 2 := by
  obtain ⟨h1, h2, h3⟩ := h
  unfold ruM
  rw [W_id (x := a.1 + a.2) (by omega) (by omega), Int.tdiv_eq_ediv_of_nonneg (by omega), W_id (by omega) (by omega)]
theorem ru_step {v : Int} {a : Int × Int} (h : ruI a) (hlt : a.1 < a.2) : ruI (ruStep v a) ∧ 2 * ((ruStep v a).2 - (ruStep v a).1) ≤ a.2 - a.1 := by
  have m := ruM_eq h
  obtain ⟨h1, h2, h3⟩ := h
  have w : W (ruM a + 1) = ruM a + 1 := by rw [m]; exact W_id (by omega) (by omega)
  unfold ruStep ruI
  rw [w]
  cases decide (W (ruM a * ruM a) ≥ v)
  · exact ⟨⟨by dsimp only [cond_false]; omega, by dsimp only [cond_false]; omega, by dsimp only [cond_false]; omega⟩, by dsimp only [cond_false]; omega⟩
  · exact ⟨⟨by dsimp only [cond_true]; omega, by dsimp only [cond_true]; omega, by dsimp only [cond_true]; omega⟩, by dsimp only [cond_true]; omega⟩
theorem foldN_ru (v : Int) (a : Int × Int) : ∀ k, foldN (ruG v) a (k + 1) = foldN (ruG v) (ruStep v a) k
  | 0 => rfl
  | k + 1 => by
    show ruG v (k + 1) (foldN (ruG v) a (k + 1)) = ruG v k (foldN (ruG v) (ruStep v a) k)
    rw [foldN_ru v a k]; rfl
theorem ru_run (v : Int) : ∀ (f : Nat) (a : Int × Int), ruI a → a.2 - a.1 < 2 ^ f → (∀ k, k < ruCnt v f a → (foldN (ruG v) a k).1 < (foldN (ruG v) a k).2) ∧ ¬ (foldN (ruG v) a (ruCnt v f a)).1 < (foldN (ruG v) a (ruCnt v f a)).2
  | 0, a, h, hf => by
    refine ⟨fun k hk => absurd hk (Nat.not_lt_zero k), ?_⟩
    show ¬ a.1 < a.2
    have : (2 : Int) ^ 0 = 1 := by decide
    omega
  | f + 1, a, h, hf => by
    by_cases hlt : a.1 < a.2
    · have st := ru_step (v := v) h hlt
      have e : (2 : Int) ^ (f + 1) = 2 * 2 ^ f := by rw [Int.pow_succ, Int.mul_comm]
      have ih := ru_run v f (ruStep v a) st.1 (by omega)
      have c : ruCnt v (f + 1) a = ruCnt v f (ruStep v a) + 1 := by simp only [ruCnt]; rw [if_pos hlt]
      rw [c]
      refine ⟨fun k hk => ?_, ?_⟩
      · cases k with
        | zero => exact hlt
        | succ k => rw [foldN_ru]; exact ih.1 k (by omega)
      · rw [foldN_ru]; exact ih.2
    · have c : ruCnt v (f + 1) a = 0 := by simp only [ruCnt]; rw [if_neg hlt]
      rw [c]
      exact ⟨fun k hk => absurd hk (Nat.not_lt_zero k), hlt⟩
theorem ru_all (v : Int) : (∀ k, k < ruN v → (foldN (ruG v) ruA k).1 < (foldN (ruG v) ruA k).2) ∧ ¬ (foldN (ruG v) ruA (ruN v)).1 < (foldN (ruG v) ruA (ruN v)).2 := ru_run v 32 ruA ⟨by decide, by decide, by decide⟩ (by decide)
theorem rupF_le {v M : Int} (h0 : 0 ≤ M) (h1 : M ≤ 1000000) (h : v ≤ M * M) : 0 ≤ rupF v ∧ rupF v ≤ M := by
  have key : ∀ k, k ≤ ruN v → ruI (foldN (ruG v) ruA k) ∧ (foldN (ruG v) ruA k).1 ≤ M := fun k => by
    induction k with
    | zero => intro _; exact ⟨(⟨by decide, by decide, by decide⟩ : ruI ruA), h0⟩
    | succ k ih =>
      intro hk
      have q := ih (by omega)
      have lt := (ru_all v).1 k (by omega)
      have st := ru_step (v := v) q.1 lt
      refine ⟨st.1, ?_⟩
      have m := ruM_eq q.1
      show (ruStep v (foldN (ruG v) ruA k)).1 ≤ M
      generalize foldN (ruG v) ruA k = a at *
      obtain ⟨q1, q2, q3⟩ := q.1
      have w : W (ruM a + 1) = ruM a + 1 := by rw [m]; exact W_id (by omega) (by omega)
      unfold ruStep
      by_cases g : M ≤ ruM a
      · have sq : M * M ≤ ruM a * ruM a := Int.mul_le_mul g g h0 (by omega)
        have bd : ruM a * ruM a ≤ 2147483648 * 2147483648 := Int.mul_le_mul (by omega) (by omega) (by omega) (by decide)
        have nn : 0 ≤ ruM a * ruM a := Int.mul_nonneg (by omega) (by omega)
        rw [W_id (x := ruM a * ruM a) (by omega) (by omega), decide_eq_true (show ruM a * ruM a ≥ v by omega)]
        exact q.2
      · dsimp only
        cases decide (W (ruM a * ruM a) ≥ v)
        · show W (ruM a + 1) ≤ M
          rw [w]; omega
        · exact q.2
  have q := key (ruN v) (Nat.le_refl _)
  exact ⟨q.1.1, q.2⟩
def ruS (v : Int) (a : Int × Int) : Dyn.St := mkS 22 [(0, sI v), (2, .k (vi 0)), (3, sI a.1), (4, sI a.2)] []
def ruK : List Nat := [0, 2, 3, 4]
def ruB (v : Int) (a : Int × Int) : Dyn.Out := .ite (decide (a.1 < a.2)) (.leaf .normal (ruS v (ruStep v a))) (.leaf (.exit 0) (ruS v a))
theorem ru_B (v : Int) (a : Int × Int) : (Dyn.lexec Try.prog tabF0 Dyn.noLp 3 (unloopD (blkD Try.f59.body 0)) .leaf (ruS v a)).rl (keepR 22 [] [] ruK [2]) = ruB v a := by kernel_rfl
def ruLp (v : Int) : Dyn.Lp := fun id st => match id with
  | 0 => some (.side [keepA 22 [] [] ruK (2 ^ 3 + 2 ^ 4) st = ruS v ruA] (.leaf .normal (ruS v (foldN (ruG v) ruA (ruN v)))))
  | _ => none
theorem ru_blocks : blocksL (bodyD Try.f59.body) = [(0, .loop (unloopD (blkD Try.f59.body 0))), (1, blkD Try.f59.body 1)] := by kernel_rfl
theorem ru_b0 : blocksL (unloopD (blkD Try.f59.body 0)) = [(1, blkD Try.f59.body 1)] := by kernel_rfl
theorem ru_loop (v : Int) (w0 : Dyn.Base Try.prog) (st : Dyn.St) (o : Dyn.Out) (h : ruLp v 0 st = some o) : Dyn.BlockSound Try.prog w0 0 (.loop (unloopD (blkD Try.f59.body 0))) st o := by
  simp only [ruLp, Option.some.injEq] at h
  subst h
  refine side_one fun hS => ?_
  refine fold_block (fuel := 3) tabF0_ok mo (lp := Dyn.noLp) (by rw [ru_b0]; exact lpOk_cons (fun s o h => by cases h) lpOk_nil) (fun _ a => ruS v a) (ruN v) (ruG v) ruA (keepR 22 [] [] ruK [2]) (keepR_ent 22 _ _ _ _) (fun _ a => ruB v a) (fun _ a => ru_B v a) (fun i hi => ?_) ?_ (hS ▸ keepA_ent 22 _ _ _ _ st)
  · exact ⟨fun _ => ⟨rfl, Dyn.Fits.refl _⟩, fun hf => absurd ((ru_all v).1 i hi) (by simpa using hf)⟩
  · exact ⟨fun ht => absurd (by simpa using ht) (ru_all v).2, fun _ => ⟨rfl, Dyn.Fits.refl _⟩⟩
theorem rootUp_ok (v : Int) : Dyn.CallD Try.prog 59 [dvI v] (rI (rupF v)) :=
  Dyn.dcontract (lp := ruLp v) (fuel := 3) (X := tabF0) tabF0_ok mo Try.func59 (by kernel_rfl) (c := bodyD Try.f59.body) (by kernel_rfl)
    (fun w0 => by rw [ru_blocks]; exact lpOk_cons (ru_loop v w0) (lpOk_cons (fun s o h => by cases h) lpOk_nil))
    (by kernel_rfl) (O := .side [ruS v ruA = ruS v ruA] (.leaf (rI (rupF v)))) (by kernel_rfl) ⟨⟨rfl, trivial⟩, rfl⟩
/-! ### take -/
def tkF (f : Bool) (a b : B4) : B4 := ⟨bif f then imin a.x0 b.x0 else b.x0, bif f then imin a.y0 b.y0 else b.y0, bif f then imax a.x1 b.x1 else b.x1, bif f then imax a.y1 b.y1 else b.y1⟩
def bxV (b : B4) : List Value := [vi b.x0, vi b.y0, vi b.x1, vi b.y1]
def tkL (f : Bool) (a : B4) : Dyn.Lent := [(4, [vb f]), (40, bxV a)]
theorem tk_O (f : Bool) (a b : B4) : (Dyn.dfunX Try.prog tabF0 Dyn.noLp 3 Try.f60 (tkL f a) [.d (dvX b), .lp 0 0, .lp 1 0]).rx Try.prog (tkL f a) Try.f60.results
    = .ite f (.leaf (.tuple ⟨[]⟩) [[vb true], bxV (tkF true a b)]) (.leaf (.tuple ⟨[]⟩) [[vb true], bxV (tkF false a b)]) := by kernel_rfl
theorem take_ok (f : Bool) (a b : B4) : Dyn.CallX Try.prog 60 [.d (dvX b), .lp 0 0, .lp 1 0] (tkL f a) (.tuple ⟨[]⟩) [[vb true], bxV (tkF f a b)] :=
  Dyn.xcontract (lp := Dyn.noLp) (fuel := 3) (X := tabF0) tabF0_ok mo Try.func60 (by kernel_rfl) (c := bodyD Try.f60.body) (by kernel_rfl) (fun w0 => Dyn.noLp_ok _ w0)
    (by kernel_rfl) (by kernel_rfl) (by kernel_rfl) (tk_O f a b) ⟨fun h => by subst h; exact ⟨rfl, rfl⟩, fun h => by subst h; exact ⟨rfl, rfl⟩⟩
def enTk : List Dyn.LA → Dyn.Lent → Option (Value × List (List Value) × List Prop)
  | [.d u, .lp 0 0, .lp 1 0], [(t, [.bool f]), (t2, [.int .i64 x0, .int .i64 y0, .int .i64 x1, .int .i64 y1])] => match aX u, Nat.beq t 4, Nat.beq t2 40 with
    | some b, true, true => some (.tuple ⟨[]⟩, [[vb true], bxV (tkF f ⟨x0, y0, x1, y1⟩ b)], [])
    | _, _, _ => none
  | _, _ => none
theorem CallX_le1 {P : Program} {K : Nat} {u u' : Dyn.DV} {l : List Dyn.LA} {lent : Dyn.Lent} {r : Value} {o : List (List Value)} (h1 : Dyn.DVLe u u') (k : Dyn.CallX P K (.d u' :: l) lent r o) : Dyn.CallX P K (.d u :: l) lent r o := fun w F bs us hF hn hd hl hden => k w F bs us hF hn hd hl (by
  cases us with
  | nil => exact hden
  | cons x us => exact ⟨Dyn.DenV_le h1 hden.1, hden.2⟩)
theorem enTk_ok : Dyn.EntryXOk Try.prog (60, enTk) := fun as' lent u out ps h hp => by
  dsimp only at h
  unfold enTk at h
  split at h
  · rename_i t f t2 x0 y0 x1 y1
    split at h
    · rename_i b hb ht ht2
      have e1 := Nat.eq_of_beq_eq_true ht
      have e2 := Nat.eq_of_beq_eq_true ht2
      subst e1; subst e2
      simp only [Option.some.injEq, Prod.mk.injEq] at h
      obtain ⟨rfl, rfl, rfl⟩ := h
      exact CallX_le1 (aX_eq hb) (take_ok f ⟨x0, y0, x1, y1⟩ b)
    · cases h
  · cases h
def BdOk (x : Sh) (g : Sh → B4 × Bool) : Prop := Dyn.CallD Try.prog 42 [dvS x] (.tup [dvX (g x).1, dvB (g x).2])
def tdBd (Pd : Sh → Prop) (g : Sh → B4 × Bool) : List Dyn.EntryD := [(59, en1D qI fun v => rI (rupF v)), (42, en1D (qAnd qS Pd) fun x => .tup [dvX (g x).1, dvB (g x).2])]
def drBd (K : Nat) : Bool := Nat.beq K 60
def tabBd (Pd : Sh → Prop) (g : Sh → B4 × Bool) : Dyn.Tabs := Dyn.tabsX tbF (tdBd Pd g) [(60, enTk)] drBd dtyS true
theorem tabBd_ok {Pd : Sh → Prop} {g : Sh → B4 × Bool} (ih : ∀ x, Pd x → BdOk x g) : Dyn.TabsOk Try.prog (tabBd Pd g) :=
  Dyn.tabsX_ok tbF_ok (List.forall_mem_cons.2 ⟨en1D_ok qI_ok fun v _ => rootUp_ok v, List.forall_mem_cons.2 ⟨en1D_ok (qAnd_ok qS_ok) fun x h => ih x h.1, fun _ h => by cases h⟩⟩) (List.forall_mem_cons.2 ⟨enTk_ok, fun _ h => by cases h⟩)
def bdQ : Bool × B4 := (false, ⟨0, 0, 0, 0⟩)
def bdI (l : Ctr) (i k : Nat) (q : Bool × B4) : Bool × B4 := (true, tkF q.1 q.2 (aroundF (l.p i k) (l.p i k) 0))
def bdO (l : Ctr) (i : Nat) (q : Bool × B4) : Bool × B4 := foldN (bdI l i) q (l.m i)
def bdP (g : Sh → B4 × Bool) (sh : Nat → Sh) (add : Nat → Bool) (i : Nat) (q : Bool × B4) : Bool × B4 := bif !(add i) then q else bif (g (sh i)).2 then (true, tkF q.1 q.2 (g (sh i)).1) else q
def sFn : Dyn.SV := .v (.func (.func 60) ⟨[]⟩ ⟨[.pointer (some ⟨4, 0, none⟩), .pointer (some ⟨3, 0, none⟩)]⟩)
def bdH (s : Sh) (q : Bool × B4) : List (Option Dyn.HE) := [some (.deep (cS s)), some (.cells 27 (shV 0 8 s)), some (.cells 40 [vi 0, vi 0, vi 0, vi 0]), some (.cells 40 (bxV q.2)), some (.cells 4 [vb q.1])]
def bdL : List (Nat × Dyn.SV) := [(1, sL 1), (2, sL 2), (3, .k (vb false)), (6, sL 3), (7, sL 4), (8, sFn)]
def bdS (s : Sh) (q : Bool × B4) (i : Int) : Dyn.St := mkS 114 (bdL ++ [(72, sH 0 8 s.l.n), (73, sI s.l.n), (74, sI i)]) (bdH s q)
def bdT (s : Sh) (q : Bool × B4) (i j : Int) : Dyn.St := mkS 114 (bdL ++ [(10, sH 5 0 (s.l.m i.toNat)), (72, sH 0 8 s.l.n), (73, sI s.l.n), (74, sI i), (78, sH 5 0 (s.l.m i.toNat)), (79, sI (s.l.m i.toNat)), (80, sI j)]) (bdH s q ++ [some (.deep [cRow (s.l.m i.toNat) (s.l.p i.toNat)])])
def bdU (s : Sh) (q : Bool × B4) (i : Int) : Dyn.St := mkS 114 (bdL ++ [(92, sH 0 9 s.n), (93, sI s.n), (94, sI i)]) (bdH s q)
def bdK0 : List Nat := [1, 2, 3, 6, 7, 8, 72, 73, 74]
def bdK1 : List Nat := [1, 2, 3, 6, 7, 8, 10, 72, 73, 74, 78, 79, 80]
def bdK2 : List Nat := [1, 2, 3, 6, 7, 8, 92, 93, 94]
def accB (st : Dyn.St) : Bool × B4 := match st.heap.getD 3 none, st.heap.getD 4 none with
  | some (.cells _ [.int _ x0, .int _ y0, .int _ x1, .int _ y1]), some (.cells _ [.bool f]) => (f, ⟨x0, y0, x1, y1⟩)
  | _, _ => bdQ
def bdLp (g : Sh → B4 × Bool) (sh : Nat → Sh) (add : Nat → Bool) (s : Sh) : Dyn.Lp := fun id st => match id with
  | 1 => some (.side [keepA 114 [0, 1, 2, 4, 5] [] bdK0 (2 ^ 74) st = bdS s bdQ 0] (.leaf .normal (bdS s (foldN (bdO s.l) bdQ s.l.n) s.l.n)))
  | 3 =>
    let q := accB st
    let i := intD (st.slots.getD 74 .junk)
    some (.side [keepA 114 [0, 1, 2, 3, 4] [10] bdK1 (2 ^ 80) st = bdT s q i 0, 0 ≤ i ∧ i < s.l.n] (.leaf .normal (bdT s (bdO s.l i.toNat q) i (s.l.m i.toNat))))
  | 5 =>
    let q := accB st
    some (.side [keepA 114 [0, 1, 2, 3, 4] [] bdK2 (2 ^ 94) st = bdU s q 0] (.leaf .normal (bdU s (foldN (bdP g sh add) q s.n) s.n)))
  | _ => none
def bdBi (s : Sh) (q : Bool × B4) (i j : Nat) : Dyn.Out :=
  .ite (decide ((j : Int) < s.l.m i)) (.side [0 ≤ (j : Int) ∧ (j : Int) < s.l.m i] (.leaf .normal (bdT s (bdI s.l i j q) i (W (j + 1))))) (.leaf (.exit 3) (bdT s q i j))
def bdBo (s : Sh) (q : Bool × B4) (i : Nat) : Dyn.Out :=
  .ite (decide ((i : Int) < s.l.n)) (.side [0 ≤ (i : Int) ∧ (i : Int) < s.l.n] (.side [bdT s q i 0 = bdT s q i 0, 0 ≤ (i : Int) ∧ (i : Int) < s.l.n] (.leaf .normal (bdS s (bdO s.l i q) (W (i + 1)))))) (.leaf (.exit 1) (bdS s q i))
def bdBp (Pd : Sh → Prop) (g : Sh → B4 × Bool) (sh : Nat → Sh) (add : Nat → Bool) (s : Sh) (q : Bool × B4) (i : Nat) : Dyn.Out :=
  .ite (decide ((i : Int) < s.n)) (.side [0 ≤ (i : Int) ∧ (i : Int) < s.n] (.ite (!(add i)) (.leaf .normal (bdU s q (W (i + 1)))) (.side [Pd (sh i), ctrSelf (sh i).l] (.ite (g (sh i)).2 (.leaf .normal (bdU s (true, tkF q.1 q.2 (g (sh i)).1) (W (i + 1)))) (.leaf .normal (bdU s q (W (i + 1)))))))) (.leaf (.exit 5) (bdU s q i))
theorem bd_Bi (Pd : Sh → Prop) (g : Sh → B4 × Bool) (sh : Nat → Sh) (add : Nat → Bool) (s : Sh) (q : Bool × B4) (i j : Nat) : (Dyn.lexec Try.prog (tabBd Pd g) (bdLp g sh add s) 3 (unloopD (blkD Try.f42.body 3)) .leaf (bdT s q i j)).rl (keepR 114 [0, 1, 2, 3, 4] [10] bdK1 []) = bdBi s q i j := by kernel_rfl
theorem bd_Bo (Pd : Sh → Prop) (g : Sh → B4 × Bool) (sh : Nat → Sh) (add : Nat → Bool) (s : Sh) (q : Bool × B4) (i : Nat) : (Dyn.lexec Try.prog (tabBd Pd g) (bdLp g sh add s) 3 (unloopD (blkD Try.f42.body 1)) .leaf (bdS s q i)).rl (keepR 114 [0, 1, 2, 3, 4] [] bdK0 []) = bdBo s q i := by kernel_rfl
theorem bd_Bp (Pd : Sh → Prop) (g : Sh → B4 × Bool) (k : Int) (a b c : P2) (r : Int) (l : Ctr) (n : Nat) (add : Nat → Bool) (sh : Nat → Sh) (q : Bool × B4) (i : Nat) : (Dyn.lexec Try.prog (tabBd Pd g) (bdLp g sh add (mkSh k a b c r l n add sh)) 3 (unloopD (blkD Try.f42.body 5)) .leaf (bdU (mkSh k a b c r l n add sh) q i)).rl (keepR 114 [0, 1, 2, 3, 4] [] bdK2 []) = bdBp Pd g sh add (mkSh k a b c r l n add sh) q i := by kernel_rfl
theorem bd_blocks : blocksL (bodyD Try.f42.body) = [(0, blkD Try.f42.body 0), (1, .loop (unloopD (blkD Try.f42.body 1))), (2, blkD Try.f42.body 2), (3, .loop (unloopD (blkD Try.f42.body 3))), (4, blkD Try.f42.body 4), (5, .loop (unloopD (blkD Try.f42.body 5))), (6, blkD Try.f42.body 6)] := by kernel_rfl
theorem bd_b1 : blocksL (unloopD (blkD Try.f42.body 1)) = [(2, blkD Try.f42.body 2), (3, .loop (unloopD (blkD Try.f42.body 3))), (4, blkD Try.f42.body 4)] := by kernel_rfl
theorem bd_b3 : blocksL (unloopD (blkD Try.f42.body 3)) = [(4, blkD Try.f42.body 4)] := by kernel_rfl
theorem bd_b5 : blocksL (unloopD (blkD Try.f42.body 5)) = [(6, blkD Try.f42.body 6)] := by kernel_rfl
theorem bd_inner {Pd : Sh → Prop} {g : Sh → B4 × Bool} (ih : ∀ x, Pd x → BdOk x g) (sh : Nat → Sh) (add : Nat → Bool) (s : Sh) (hl : CtrB s.l) (w0 : Dyn.Base Try.prog) (st : Dyn.St) (o : Dyn.Out)
    (h : bdLp g sh add s 3 st = some o) : Dyn.BlockSound Try.prog w0 3 (.loop (unloopD (blkD Try.f42.body 3))) st o := by
  simp only [bdLp, Option.some.injEq] at h
  subst h
  refine side_two fun hS hi => ?_
  revert hS hi
  generalize intD (st.slots.getD 74 .junk) = i'
  generalize accB st = q
  intro hS hi
  obtain ⟨i, rfl⟩ : ∃ i : Nat, i' = (i : Int) := ⟨i'.toNat, by omega⟩
  have hm : s.l.m i ≤ 1000000000 := hl.2 i (by omega)
  refine fold_block (fuel := 3) (tabBd_ok ih) mo (lp := bdLp g sh add s) (by rw [bd_b3]; exact lpOk_cons (fun s o h => by cases h) lpOk_nil) (fun j q => bdT s q i j) (s.l.m i) (bdI s.l i) q (keepR 114 [0, 1, 2, 3, 4] [10] bdK1 []) (keepR_ent 114 _ _ _ _) (fun j q => bdBi s q i j) (fun j q => bd_Bi Pd g sh add s q i j) (fun j hj => ?_) ?_ (hS ▸ keepA_ent 114 _ _ _ _ st)
  · refine ⟨fun _ => ⟨⟨⟨by omega, by omega⟩, trivial⟩, rfl, ?_⟩, fun hf => ?_⟩
    · rw [Wn1 hj hm]; exact Dyn.Fits.refl _
    · rw [decide_eq_false_iff_not] at hf; omega
  · refine ⟨fun ht => ?_, fun _ => ⟨rfl, Dyn.Fits.refl _⟩⟩
    rw [decide_eq_true_eq] at ht; omega
theorem bd_outer {Pd : Sh → Prop} {g : Sh → B4 × Bool} (ih : ∀ x, Pd x → BdOk x g) (sh : Nat → Sh) (add : Nat → Bool) (s : Sh) (hl : CtrB s.l) (w0 : Dyn.Base Try.prog) (st : Dyn.St) (o : Dyn.Out)
    (h : bdLp g sh add s 1 st = some o) : Dyn.BlockSound Try.prog w0 1 (.loop (unloopD (blkD Try.f42.body 1))) st o := by
  simp only [bdLp, Option.some.injEq] at h
  subst h
  refine side_one fun hS => ?_
  refine fold_block (fuel := 3) (tabBd_ok ih) mo (lp := bdLp g sh add s) (by rw [bd_b1]; exact lpOk_cons (fun s o h => by cases h) (lpOk_cons (bd_inner ih sh add s hl w0) (lpOk_cons (fun s o h => by cases h) lpOk_nil))) (fun i q => bdS s q i) s.l.n (bdO s.l) bdQ (keepR 114 [0, 1, 2, 3, 4] [] bdK0 []) (keepR_ent 114 _ _ _ _) (fun i q => bdBo s q i) (fun i q => bd_Bo Pd g sh add s q i) (fun i hi => ?_) ?_ (hS ▸ keepA_ent 114 _ _ _ _ st)
  · have hb : 0 ≤ (i : Int) ∧ (i : Int) < s.l.n := ⟨by omega, by omega⟩
    refine ⟨fun _ => ⟨⟨hb, trivial⟩, ⟨rfl, hb, trivial⟩, rfl, ?_⟩, fun hf => ?_⟩
    · rw [Wn1 hi hl.1]; exact Dyn.Fits.refl _
    · rw [decide_eq_false_iff_not] at hf; omega
  · refine ⟨fun ht => ?_, fun _ => ⟨rfl, Dyn.Fits.refl _⟩⟩
    rw [decide_eq_true_eq] at ht; omega
theorem bd_parts {Pd : Sh → Prop} {g : Sh → B4 × Bool} (ih : ∀ x, Pd x → BdOk x g) (k : Int) (a b c : P2) (r : Int) (l : Ctr) (n : Nat) (add : Nat → Bool) (sh : Nat → Sh) (hn : n ≤ 1000000000) (hP : ∀ i, i < n → Pd (sh i)) (w0 : Dyn.Base Try.prog) (st : Dyn.St) (o : Dyn.Out)
    (h : bdLp g sh add (mkSh k a b c r l n add sh) 5 st = some o) : Dyn.BlockSound Try.prog w0 5 (.loop (unloopD (blkD Try.f42.body 5))) st o := by
  simp only [bdLp, Option.some.injEq] at h
  subst h
  refine side_one fun hS => ?_
  revert hS
  generalize accB st = q0
  intro hS
  refine fold_block (fuel := 3) (tabBd_ok ih) mo (lp := bdLp g sh add (mkSh k a b c r l n add sh)) (by rw [bd_b5]; exact lpOk_cons (fun s o h => by cases h) lpOk_nil) (fun i q => bdU (mkSh k a b c r l n add sh) q i) n (bdP g sh add) q0 (keepR 114 [0, 1, 2, 3, 4] [] bdK2 []) (keepR_ent 114 _ _ _ _) (fun i q => bdBp Pd g sh add (mkSh k a b c r l n add sh) q i) (fun i q => bd_Bp Pd g k a b c r l n add sh q i) (fun i hi => ?_) ?_ (hS ▸ keepA_ent 114 _ _ _ _ st)
  · have hb : 0 ≤ (i : Int) ∧ (i : Int) < (n : Int) := ⟨by omega, by omega⟩
    generalize foldN (bdP g sh add) q0 i = q
    unfold bdP
    refine ⟨fun _ => ⟨⟨hb, trivial⟩, fun hx => ⟨rfl, ?_⟩, fun hx => ⟨⟨hP i hi, ctrSelf_ok _, trivial⟩, fun hy => ⟨rfl, ?_⟩, fun hy => ⟨rfl, ?_⟩⟩⟩, fun hf => ?_⟩
    · rw [Wn1 hi hn, hx]; exact Dyn.Fits.refl _
    · rw [Wn1 hi hn, hx, hy]; exact Dyn.Fits.refl _
    · rw [Wn1 hi hn, hx, hy]; exact Dyn.Fits.refl _
    · rw [decide_eq_false_iff_not] at hf
      exact absurd hb.2 hf
  · refine ⟨fun ht => ?_, fun _ => ⟨rfl, Dyn.Fits.refl _⟩⟩
    rw [decide_eq_true_eq] at ht
    exact absurd (show (n : Int) < (n : Int) from ht) (by omega)
def bdR (s : Sh) : Int := W (s.r + rupF (W (W (W (s.a.x - s.c.x) * W (s.a.x - s.c.x)) + W (W (s.a.y - s.c.y) * W (s.a.y - s.c.y)))))
def bdAll (g : Sh → B4 × Bool) (sh : Nat → Sh) (add : Nat → Bool) (s : Sh) : Bool × B4 := foldN (bdP g sh add) (foldN (bdO s.l) bdQ s.l.n) s.n
def bdOO (g : Sh → B4 × Bool) (sh : Nat → Sh) (add : Nat → Bool) (s : Sh) : Dyn.RO :=
  .ite (s.k == 1) (.leaf (.tup [dvX (aroundF s.a s.a s.r), dvB true]))
  (.ite (bif s.k == 3 then s.k == 3 else s.k == 4) (.leaf (.tup [dvX (aroundF s.a s.b s.r), dvB true]))
  (.ite (s.k == 5) (.leaf (.tup [dvX (aroundF s.c s.c (bdR s)), dvB true]))
  (.side [bdS s bdQ 0 = bdS s bdQ 0] (.side [bdU s (foldN (bdO s.l) bdQ s.l.n) 0 = bdU s (foldN (bdO s.l) bdQ s.l.n) 0] (.leaf (.tup [dvX (bdAll g sh add s).2, dvB (bdAll g sh add s).1]))))))
theorem bd_OO (Pd : Sh → Prop) (g : Sh → B4 × Bool) (sh : Nat → Sh) (add : Nat → Bool) (s : Sh) : (Dyn.dfun Try.prog (tabBd Pd g) (bdLp g sh add s) 3 Try.f42 [dvS s]).ro Try.prog Try.f42.results = bdOO g sh add s := by kernel_rfl
def boundsG (g : Sh → B4 × Bool) (sh : Nat → Sh) (add : Nat → Bool) (s : Sh) : B4 × Bool :=
  bif s.k == 1 then (aroundF s.a s.a s.r, true) else bif bif s.k == 3 then s.k == 3 else s.k == 4 then (aroundF s.a s.b s.r, true) else bif s.k == 5 then (aroundF s.c s.c (bdR s), true) else ((bdAll g sh add s).2, (bdAll g sh add s).1)
theorem bd_sat (g : Sh → B4 × Bool) (sh : Nat → Sh) (add : Nat → Bool) (s : Sh) : (bdOO g sh add s).sat fun r => Dyn.RVLe r (.tup [dvX (boundsG g sh add s).1, dvB (boundsG g sh add s).2]) := by
  unfold boundsG
  refine ⟨fun h => ?_, fun h => ⟨fun h2 => ?_, fun h2 => ⟨fun h3 => ?_, fun h3 => ⟨⟨rfl, trivial⟩, ⟨rfl, trivial⟩, ?_⟩⟩⟩⟩
  · rw [h]; exact ⟨Dyn.DVLe.refl _, rfl, trivial⟩
  · rw [h, h2]; exact ⟨Dyn.DVLe.refl _, rfl, trivial⟩
  · rw [h, h2, h3]; exact ⟨Dyn.DVLe.refl _, rfl, trivial⟩
  · rw [h, h2, h3]; exact ⟨Dyn.DVLe.refl _, Dyn.DVLe.refl _, trivial⟩
theorem bounds_lvl {Pd : Sh → Prop} {g : Sh → B4 × Bool} (ih : ∀ x, Pd x → BdOk x g) (k : Int) (a b c : P2) (r : Int) (l : Ctr) (n : Nat) (add : Nat → Bool) (sh : Nat → Sh) (hl : CtrB l) (hn : n ≤ 1000000000) (hP : ∀ i, i < n → Pd (sh i)) :
    Dyn.CallD Try.prog 42 [dvS (mkSh k a b c r l n add sh)] (.tup [dvX (boundsG g sh add (mkSh k a b c r l n add sh)).1, dvB (boundsG g sh add (mkSh k a b c r l n add sh)).2]) :=
  Dyn.dcontract (lp := bdLp g sh add (mkSh k a b c r l n add sh)) (fuel := 3) (tabBd_ok ih) mo Try.func42 (by kernel_rfl) (c := bodyD Try.f42.body) (by kernel_rfl)
    (fun w0 => by
      rw [bd_blocks]
      exact lpOk_cons (fun s o h => by cases h) (lpOk_cons (bd_outer ih sh add _ hl w0) (lpOk_cons (fun s o h => by cases h) (lpOk_cons (bd_inner ih sh add _ hl w0) (lpOk_cons (fun s o h => by cases h) (lpOk_cons (bd_parts ih k a b c r l n add sh hn hP w0) (lpOk_cons (fun s o h => by cases h) lpOk_nil)))))))
    (by kernel_rfl) (bd_OO Pd g sh add _) (bd_sat g sh add (mkSh k a b c r l n add sh))
/-- bounds, all the way down -/
def bndF : Shp → B4 × Bool
  | .nil => (⟨0, 0, 0, 0⟩, false)
  | .mk k a b c r l n add sub =>
    bif k == 1 then (aroundF a a r, true) else bif bif k == 3 then k == 3 else k == 4 then (aroundF a b r, true) else bif k == 5 then (aroundF c c (bdR ⟨k, a, b, c, r, l, n, noF⟩), true) else
    ((foldN (fun i q => bif !(add i) then q else bif (bndF (sub i)).2 then (true, tkF q.1 q.2 (bndF (sub i)).1) else q) (foldN (bdO l) bdQ l.n) n).2, (foldN (fun i q => bif !(add i) then q else bif (bndF (sub i)).2 then (true, tkF q.1 q.2 (bndF (sub i)).1) else q) (foldN (bdO l) bdQ l.n) n).1)
noncomputable def bndE (x : Sh) : B4 × Bool := bndF (ofSh x)
theorem bndE_eq (s : Shp) : bndE (toSh s) = bndF s := by unfold bndE; rw [ofSh_toSh]
theorem bndF_lvl (k : Int) (a b c : P2) (r : Int) (l : Ctr) (n : Nat) (add : Nat → Bool) (sub : Nat → Shp) : bndF (.mk k a b c r l n add sub) = boundsG bndE (fun i => toSh (sub i)) add (mkSh k a b c r l n add (fun i => toSh (sub i))) := by
  unfold boundsG bdAll bdP
  simp only [bndE_eq]
  rfl
theorem bnd_ok : ∀ s : Shp, ShB s → BdOk (toSh s) bndE := by
  intro s
  induction s with
  | nil => intro h; exact h.elim
  | mk k a b c r l n add sub ih =>
    intro h
    unfold BdOk
    rw [bndE_eq, bndF_lvl]
    exact bounds_lvl (Pd := fun x => ∃ i, i < n ∧ x = toSh (sub i)) (fun x hx => by
      obtain ⟨i, hi, rfl⟩ := hx
      exact ih i (h.2.2 i hi)) k a b c r l n add (fun i => toSh (sub i)) h.1 h.2.1 (fun i hi => ⟨i, hi, rfl⟩)
theorem bnd_all : ∀ x, PdS x → BdOk x bndE := fun x hx => by
  have k := bnd_ok _ hx.1
  unfold BdOk at k
  rw [show bndE (toSh (ofSh x)) = bndE x by unfold bndE; rw [ofSh_toSh]] at k
  exact CallD_le (args := [dvS (toSh (ofSh x))]) ⟨SLe.dv hx.2, trivial⟩ k
noncomputable def figBnd (x : Sh) : B4 × Bool := bif okE x then bndE x else (⟨0, 0, 0, 0⟩, false)
noncomputable def tdBb : List Dyn.EntryD := [(39, en1D (qAnd qS PdS) fun x => rB (okE x)), (42, en1D (qAnd qS PdS) fun x => .tup [dvX (bndE x).1, dvB (bndE x).2])]
noncomputable def tabBb : Dyn.Tabs := Dyn.tabs tbF tdBb noD dtyS
theorem tabBb_ok : Dyn.TabsOk Try.prog tabBb := Dyn.tabs_ok tbF_ok (List.forall_mem_cons.2 ⟨en1D_ok (qAnd_ok qS_ok) fun x h => figOk_ok x h.1, List.forall_mem_cons.2 ⟨en1D_ok (qAnd_ok qS_ok) fun x h => bnd_all x h.1, fun _ h => by cases h⟩⟩)
noncomputable def bbO (x : Sh) : Dyn.RO := .side [PdS x, ctrSelf x.l] (.ite (!(okE x)) (.leaf (.tup [dvX ⟨0, 0, 0, 0⟩, dvB false])) (.side [PdS x, ctrSelf x.l] (.leaf (.tup [dvX (bndE x).1, dvB (bndE x).2]))))
theorem bb_O (x : Sh) : (Dyn.dfun Try.prog tabBb Dyn.noLp 3 Try.f16 [dvS x]).ro Try.prog Try.f16.results = bbO x := by kernel_rfl
theorem figBnd_ok (x : Sh) (h : PdS x) : Dyn.CallD Try.prog 16 [dvS x] (.tup [dvX (figBnd x).1, dvB (figBnd x).2]) :=
  Dyn.dcontract (lp := Dyn.noLp) (fuel := 3) tabBb_ok mo Try.func16 (by kernel_rfl) (c := bodyD Try.f16.body) (by kernel_rfl) (fun w0 => Dyn.noLp_ok _ w0) (by kernel_rfl) (bb_O x) (by
    unfold figBnd
    refine ⟨⟨h, ctrSelf_ok _, trivial⟩, fun h1 => ?_, fun h1 => ⟨⟨h, ctrSelf_ok _, trivial⟩, ?_⟩⟩
    · rw [show okE x = false by simpa using h1]; exact ⟨Dyn.DVLe.refl _, rfl, trivial⟩
    · rw [show okE x = true by simpa using h1]; exact ⟨Dyn.DVLe.refl _, Dyn.DVLe.refl _, trivial⟩)
end Go.Proofs.Ythnenjodighlmaa

/-! ## Rpl -/
namespace Go.Proofs.Ythnenjodighlmaa
open Go Go.RowKit Sym
set_option maxRecDepth 100000

def okS (s : Shp) : Bool := (validF s 0 1000).1
theorem okE_S (s : Shp) : okE (toSh s) = okS s := by unfold okE okS; rw [vE_eq]
def figClassC (s : Shp) (b : B4) : Int := bif !(okS s) then 0 else classF s b
theorem figClassS_C (s : Shp) (b : B4) : figClassS s b = figClassC s b := by unfold figClassS figClassC; rw [okE_S]
def pClassC (s : Shp) (b : B4) : Int := foldN (fun i acc => foldF acc (figClassC (suO s i) b) (adO s i)) 0 (nuO s)
theorem pClass_C (s : Shp) (b : B4) : pClass s b = pClassC s b := by
  unfold pClass pClassC
  simp only [figClassS_C]
def figBndC (s : Shp) : B4 × Bool := bif okS s then bndF s else (⟨0, 0, 0, 0⟩, false)
theorem figBnd_C (s : Shp) : figBnd (toSh s) = figBndC s := by unfold figBnd figBndC; rw [okE_S, bndE_eq]
/-! ### what is kept -/
def kN (keep : Nat → Bool) : Nat → Nat
  | 0 => 0
  | n + 1 => bif keep n then kN keep n + 1 else kN keep n
def kIx (keep : Nat → Bool) : Nat → Nat → Nat
  | 0, _ => 0
  | n + 1, j => bif keep n && Nat.beq (kN keep n) j then n else kIx keep n j
theorem kN_le (keep : Nat → Bool) : ∀ n, kN keep n ≤ n
  | 0 => Nat.le_refl _
  | n + 1 => by
    have := kN_le keep n
    unfold kN
    cases keep n
    · show kN keep n ≤ n + 1; omega
    · show kN keep n + 1 ≤ n + 1; omega
theorem kN_mono (keep : Nat → Bool) {i : Nat} : ∀ {n : Nat}, i ≤ n → kN keep i ≤ kN keep n
  | 0, h => by obtain rfl : i = 0 := by omega
               exact Nat.le_refl _
  | n + 1, h => by
    by_cases e : i = n + 1
    · subst e; exact Nat.le_refl _
    · have := kN_mono keep (i := i) (n := n) (by omega)
      show kN keep i ≤ (bif keep n then kN keep n + 1 else kN keep n)
      cases keep n
      · exact this
      · show kN keep i ≤ kN keep n + 1; omega
theorem kN_step (keep : Nat → Bool) {i : Nat} (h : keep i = true) : kN keep (i + 1) = kN keep i + 1 := by
  show (bif keep i then kN keep i + 1 else kN keep i) = _
  rw [h]; rfl
theorem kN_skip (keep : Nat → Bool) {i : Nat} (h : keep i = false) : kN keep (i + 1) = kN keep i := by
  show (bif keep i then kN keep i + 1 else kN keep i) = _
  rw [h]; rfl
theorem kIx_at (keep : Nat → Bool) {i : Nat} (h : keep i = true) : ∀ {n : Nat}, i < n → kIx keep n (kN keep i) = i
  | 0, hn => absurd hn (Nat.not_lt_zero i)
  | n + 1, hn => by
    show (bif keep n && Nat.beq (kN keep n) (kN keep i) then n else kIx keep n (kN keep i)) = i
    by_cases e : i = n
    · subst e
      rw [h, Nat.beq_refl]; rfl
    · have k1 := kN_mono keep (i := i + 1) (n := n) (by omega)
      rw [kN_step keep h] at k1
      have : Nat.beq (kN keep n) (kN keep i) = false := by
        cases q : Nat.beq (kN keep n) (kN keep i)
        · rfl
        · have := Nat.eq_of_beq_eq_true q; omega
      rw [this, Bool.and_false]
      exact kIx_at keep h (by omega)
theorem kIx_lt (keep : Nat → Bool) {j : Nat} : ∀ {n : Nat}, j < kN keep n → kIx keep n j < n ∧ keep (kIx keep n j) = true
  | 0, h => absurd h (Nat.not_lt_zero j)
  | n + 1, h => by
    show (bif keep n && Nat.beq (kN keep n) j then n else kIx keep n j) < n + 1 ∧ keep (bif keep n && Nat.beq (kN keep n) j then n else kIx keep n j) = true
    cases hk : keep n
    · rw [kN_skip keep hk] at h
      have := kIx_lt keep (j := j) (n := n) h
      exact ⟨by show kIx keep n j < n + 1; omega, this.2⟩
    · rw [kN_step keep hk] at h
      cases q : Nat.beq (kN keep n) j
      · have ne : kN keep n ≠ j := fun e => by rw [e, Nat.beq_refl] at q; cases q
        have := kIx_lt keep (j := j) (n := n) (by omega)
        exact ⟨by show kIx keep n j < n + 1; omega, this.2⟩
      · exact ⟨by show n < n + 1; omega, hk⟩
/-- the objects that are kept -/
def filL (keep : Nat → Bool) (s : Shp) : Shp := lForm (kN keep (nuO s)) (fun j => adO s (kIx keep (nuO s) j)) (fun j => suO s (kIx keep (nuO s) j))
/-- a fold over what is kept -/
theorem fil_fold {α : Type} (keep : Nat → Bool) (g : Nat → α → α) (a : α) (n : Nat) : ∀ m, m ≤ n → foldN (fun j acc => g (kIx keep n j) acc) a (kN keep m) = foldN (fun i acc => bif keep i then g i acc else acc) a m
  | 0, _ => rfl
  | m + 1, h => by
    have ih := fil_fold keep g a n m (by omega)
    cases hk : keep m
    · rw [kN_skip keep hk, ih]
      show _ = (bif keep m then _ else _)
      rw [hk]; rfl
    · rw [kN_step keep hk]
      show g (kIx keep n (kN keep m)) (foldN _ a (kN keep m)) = (bif keep m then _ else _)
      rw [kIx_at keep hk (show m < n by omega), ih, hk]; rfl
theorem pClass_fil (keep : Nat → Bool) (s : Shp) (b : B4) : pClassC (filL keep s) b = foldN (fun i acc => bif keep i then foldF acc (figClassC (suO s i) b) (adO s i) else acc) 0 (nuO s) :=
  fil_fold keep (fun i acc => foldF acc (figClassC (suO s i) b) (adO s i)) 0 (nuO s) (nuO s) (Nat.le_refl _)
/-- whether there is a bar -/
def hbF : Shp → Bool
  | .nil => false
  | .mk k _ _ _ _ _ n _ sub => bif k == 4 then true else !((runN (fun i (_ : Unit) => (!(hbF (sub i)), ())) () n).1)
def rchK (s : Shp) (i : Nat) : Bool := (figBndC (suO s i)).2
def reachF (s : Shp) : Shp := filL (rchK s) s
def nearK (s : Shp) (b : B4) (i : Nat) : Bool := bif hbF (suO s i) then true else !(apart (figBndC (suO s i)).1 b)
def nearG (s : Shp) (b : B4) : Shp := filL (nearK s b) s
/-! ### the count of cells -/
structure ExR where
  lo : Int
  hi : Int
  e : Int
  a : Int
def exNo (e a : Int) : ExR := ⟨0, 0, e, a⟩
/-- the quarters of a box -/
def spB (b : B4) (i : Nat) : B4 := match i with
  | 0 => ⟨spl b 0 b.x0, spl b 0 b.y0, spl b 0 (midX b), spl b 0 (midY b)⟩
  | 1 => ⟨spl b 0 (midX b), spl b 0 b.y0, spl b 0 b.x1, spl b 0 (midY b)⟩
  | 2 => ⟨spl b 0 b.x0, spl b 0 (midY b), spl b 0 (midX b), spl b 0 b.y1⟩
  | _ => ⟨spl b 0 (midX b), spl b 0 (midY b), spl b 0 b.x1, spl b 0 b.y1⟩
/-- one quarter after the other -/
def exQ (f : B4 → Int → ExR) (b : B4) (a : Int) : ExR :=
  bif (f (spB b 0) a).e != 0 then exNo (f (spB b 0) a).e (f (spB b 0) a).a else
  bif (f (spB b 1) (f (spB b 0) a).a).e != 0 then exNo (f (spB b 1) (f (spB b 0) a).a).e (f (spB b 1) (f (spB b 0) a).a).a else
  bif (f (spB b 2) (f (spB b 1) (f (spB b 0) a).a).a).e != 0 then exNo (f (spB b 2) (f (spB b 1) (f (spB b 0) a).a).a).e (f (spB b 2) (f (spB b 1) (f (spB b 0) a).a).a).a else
  bif (f (spB b 3) (f (spB b 2) (f (spB b 1) (f (spB b 0) a).a).a).a).e != 0 then exNo (f (spB b 3) (f (spB b 2) (f (spB b 1) (f (spB b 0) a).a).a).a).e (f (spB b 3) (f (spB b 2) (f (spB b 1) (f (spB b 0) a).a).a).a).a else
  ⟨W (W (W (W (0 + (f (spB b 0) a).lo) + (f (spB b 1) (f (spB b 0) a).a).lo) + (f (spB b 2) (f (spB b 1) (f (spB b 0) a).a).a).lo) + (f (spB b 3) (f (spB b 2) (f (spB b 1) (f (spB b 0) a).a).a).a).lo),
   W (W (W (W (0 + (f (spB b 0) a).hi) + (f (spB b 1) (f (spB b 0) a).a).hi) + (f (spB b 2) (f (spB b 1) (f (spB b 0) a).a).a).hi) + (f (spB b 3) (f (spB b 2) (f (spB b 1) (f (spB b 0) a).a).a).a).hi),
   0, (f (spB b 3) (f (spB b 2) (f (spB b 1) (f (spB b 0) a).a).a).a).a⟩
/-- cells of a box -/
def cellsN (d : Nat) : Int := ((4 ^ d : Nat) : Int)
/-- a look at a box: c is its class; at what its quarters give, if it is to be split -/
def exT (most c : Int) (cells : Int) (m : Int → ExR) (a : Int) : ExR :=
  bif !(decide (W (a + 1) ≤ most)) then exNo 6 (W (a + 1)) else
  bif c == 0 then exNo 0 (W (a + 1)) else bif c == 2 then ⟨cells, cells, 0, W (a + 1)⟩ else m (W (a + 1))
def exF (most : Int) : Nat → Shp → B4 → Int → ExR
  | 0, s, b, a => exT most (pClassC s b) (cellsN 0) (fun a => ⟨0, 1, 0, a⟩) a
  | d + 1, s, b, a => exT most (pClassC s b) (cellsN (d + 1)) (exQ (fun q a => exF most d (nearG s q) q a) b) a
end Go.Proofs.Ythnenjodighlmaa

/-! ## Rga -/
namespace Go.Proofs.Ythnenjodighlmaa
open Go Go.RowKit Sym
set_option maxRecDepth 100000

/-! ### hasBar -/
def hbN (g : Sh → Bool) (sh : Nat → Sh) (i : Nat) (_ : Unit) : Bool × Unit := (!(g (sh i)), ())
def hbG (g : Sh → Bool) (sh : Nat → Sh) (s : Sh) : Bool := bif s.k == 4 then true else !((runN (hbN g sh) () s.n).1)
def HbOk (x : Sh) (g : Sh → Bool) : Prop := Dyn.CallD Try.prog 69 [dvS x] (rB (g x))
def tdHb (Pd : Sh → Prop) (g : Sh → Bool) : List Dyn.EntryD := [(69, en1D (qAnd qS Pd) fun x => rB (g x))]
def tabHb (Pd : Sh → Prop) (g : Sh → Bool) : Dyn.Tabs := Dyn.tabs tbF (tdHb Pd g) noD dtyS
theorem tabHb_ok {Pd : Sh → Prop} {g : Sh → Bool} (ih : ∀ x, Pd x → HbOk x g) : Dyn.TabsOk Try.prog (tabHb Pd g) :=
  Dyn.tabs_ok tbF_ok (List.forall_mem_cons.2 ⟨en1D_ok (qAnd_ok qS_ok) fun x h => ih x h.1, fun _ h => by cases h⟩)
def hbS (s : Sh) (i : Int) : Dyn.St := mkS 19 [(2, .k (vb false)), (9, sH 0 9 s.n), (10, sI s.n), (11, sI i)] [some (.deep (cS s))]
def hbR : Dyn.St := mkS 19 [(2, .k (vb true))] []
def hbK : List Nat := [2, 9, 10, 11]
def hbLp (g : Sh → Bool) (sh : Nat → Sh) (s : Sh) : Dyn.Lp := fun id st => match id with
  | 0 => some (.side [keepA 19 [0] [] hbK (2 ^ 11) st = hbS s 0] (.ite (runN (hbN g sh) () s.n).1 (.leaf .normal (hbS s s.n)) (.leaf .ret hbR)))
  | _ => none
def hbB (Pd : Sh → Prop) (g : Sh → Bool) (sh : Nat → Sh) (s : Sh) (i : Nat) : Dyn.Out :=
  .ite (decide ((i : Int) < s.n)) (.side [0 ≤ (i : Int) ∧ (i : Int) < s.n] (.side [Pd (sh i), ctrSelf (sh i).l] (.ite (g (sh i)) (.leaf .ret hbR) (.leaf .normal (hbS s (W (i + 1))))))) (.leaf (.exit 0) (hbS s i))
theorem hb_B (Pd : Sh → Prop) (g : Sh → Bool) (k : Int) (a b c : P2) (r : Int) (l : Ctr) (n : Nat) (add : Nat → Bool) (sh : Nat → Sh) (i : Nat) :
    (Dyn.lexec Try.prog (tabHb Pd g) (hbLp g sh (mkSh k a b c r l n add sh)) 3 (unloopD (blkD Try.f69.body 0)) .leaf (hbS (mkSh k a b c r l n add sh) i)).rl (keepR 19 [0] [] hbK [2]) = hbB Pd g sh (mkSh k a b c r l n add sh) i := by kernel_rfl
theorem hb_blocks : blocksL (bodyD Try.f69.body) = [(0, .loop (unloopD (blkD Try.f69.body 0))), (1, blkD Try.f69.body 1)] := by kernel_rfl
theorem hb_b0 : blocksL (unloopD (blkD Try.f69.body 0)) = [(1, blkD Try.f69.body 1)] := by kernel_rfl
theorem hb_loop {Pd : Sh → Prop} {g : Sh → Bool} (ih : ∀ x, Pd x → HbOk x g) (k : Int) (a b c : P2) (r : Int) (l : Ctr) (n : Nat) (add : Nat → Bool) (sh : Nat → Sh) (hn : n ≤ 1000000000) (hP : ∀ i, i < n → Pd (sh i)) (w0 : Dyn.Base Try.prog) (st : Dyn.St) (o : Dyn.Out) (h : hbLp g sh (mkSh k a b c r l n add sh) 0 st = some o) : Dyn.BlockSound Try.prog w0 0 (.loop (unloopD (blkD Try.f69.body 0))) st o := by
  simp only [hbLp, Option.some.injEq] at h
  subst h
  refine side_one fun hS => ?_
  refine run_block (fuel := 3) (tabHb_ok ih) mo (lp := hbLp g sh (mkSh k a b c r l n add sh)) (by rw [hb_b0]; exact lpOk_cons (fun s o h => by cases h) lpOk_nil) (fun i (_ : Unit) => hbS (mkSh k a b c r l n add sh) i) n (hbN g sh) () (fun _ => hbR) (keepR 19 [0] [] hbK [2]) (keepR_ent 19 _ _ _ _) (fun i _ => hbB Pd g sh (mkSh k a b c r l n add sh) i) (fun i _ => hb_B Pd g k a b c r l n add sh i) (fun i a hi ha => ?_) (fun a ha => ?_) (hS ▸ keepA_ent 19 _ _ _ _ st)
  · refine ⟨fun _ => ⟨⟨⟨by omega, by show (i : Int) < (n : Int); omega⟩, trivial⟩, ⟨hP i hi, ctrSelf_ok _, trivial⟩, fun hx => .inr ⟨rfl, ?_, Dyn.Fits.refl _⟩, fun hx => .inl ⟨rfl, ?_, ?_⟩⟩, fun hf => ?_⟩
    · simpa [hbN] using hx
    · simpa [hbN] using hx
    · rw [Wn1 hi hn]; exact Dyn.Fits.refl _
    · rw [decide_eq_false_iff_not] at hf
      exact absurd (show (i : Int) < (n : Int) by omega) hf
  · refine ⟨fun ht => ?_, fun _ => ⟨rfl, Dyn.Fits.refl _⟩⟩
    rw [decide_eq_true_eq] at ht
    exact absurd (show (n : Int) < (n : Int) from ht) (by omega)
def hbO (g : Sh → Bool) (sh : Nat → Sh) (s : Sh) : Dyn.RO :=
  .ite (s.k == 4) (.leaf (rB true)) (.side [hbS s 0 = hbS s 0] (.ite (runN (hbN g sh) () s.n).1 (.leaf (rB false)) (.leaf (rB true))))
theorem hb_O (Pd : Sh → Prop) (g : Sh → Bool) (sh : Nat → Sh) (s : Sh) : (Dyn.dfun Try.prog (tabHb Pd g) (hbLp g sh s) 3 Try.f69 [dvS s]).ro Try.prog Try.f69.results = hbO g sh s := by kernel_rfl
theorem hb_lvl {Pd : Sh → Prop} {g : Sh → Bool} (ih : ∀ x, Pd x → HbOk x g) (k : Int) (a b c : P2) (r : Int) (l : Ctr) (n : Nat) (add : Nat → Bool) (sh : Nat → Sh) (hn : n ≤ 1000000000) (hP : ∀ i, i < n → Pd (sh i)) : Dyn.CallD Try.prog 69 [dvS (mkSh k a b c r l n add sh)] (rB (hbG g sh (mkSh k a b c r l n add sh))) :=
  Dyn.dcontract (lp := hbLp g sh (mkSh k a b c r l n add sh)) (fuel := 3) (tabHb_ok ih) mo Try.func69 (by kernel_rfl) (c := bodyD Try.f69.body) (by kernel_rfl)
    (fun w0 => by rw [hb_blocks]; exact lpOk_cons (hb_loop ih k a b c r l n add sh hn hP w0) (lpOk_cons (fun s o h => by cases h) lpOk_nil))
    (by kernel_rfl) (hb_O Pd g sh _) (by
      unfold hbG
      refine ⟨fun h => ?_, fun h => ⟨⟨rfl, trivial⟩, fun h2 => ?_, fun h2 => ?_⟩⟩
      · rw [h]; exact ro_leaf rfl
      · rw [h, show (runN (hbN g sh) () (mkSh k a b c r l n add sh).n).1 = true from h2]; exact ro_leaf rfl
      · rw [h, show (runN (hbN g sh) () (mkSh k a b c r l n add sh).n).1 = false from h2]; exact ro_leaf rfl)
noncomputable def hbE (x : Sh) : Bool := hbF (ofSh x)
theorem hbE_eq (s : Shp) : hbE (toSh s) = hbF s := by unfold hbE; rw [ofSh_toSh]
theorem hbF_lvl (k : Int) (a b c : P2) (r : Int) (l : Ctr) (n : Nat) (add : Nat → Bool) (sub : Nat → Shp) : hbF (.mk k a b c r l n add sub) = hbG hbE (fun i => toSh (sub i)) (mkSh k a b c r l n add (fun i => toSh (sub i))) := by
  unfold hbG hbN
  simp only [hbE_eq]
  rfl
theorem hb_ok : ∀ s : Shp, ShB s → HbOk (toSh s) hbE := by
  intro s
  induction s with
  | nil => intro h; exact h.elim
  | mk k a b c r l n add sub ih =>
    intro h
    unfold HbOk
    rw [hbE_eq, hbF_lvl]
    exact hb_lvl (Pd := fun x => ∃ i, i < n ∧ x = toSh (sub i)) (fun x hx => by
      obtain ⟨i, hi, rfl⟩ := hx
      exact ih i (h.2.2 i hi)) k a b c r l n add (fun i => toSh (sub i)) h.2.1 (fun i hi => ⟨i, hi, rfl⟩)
theorem hb_all : ∀ x, PdS x → HbOk x hbE := fun x hx => by
  have k := hb_ok _ hx.1
  unfold HbOk at k
  rw [show hbE (toSh (ofSh x)) = hbE x by unfold hbE; rw [ofSh_toSh]] at k
  exact CallD_le (args := [dvS (toSh (ofSh x))]) ⟨SLe.dv hx.2, trivial⟩ k
/-! ### groups -/
structure Gr where
  n : Nat
  f : Nat → List Dyn.DC
  m : Nat
  h : Nat → List Dyn.DC
def dvG (x : Gr) : Dyn.DV := .agg [.row x.n x.f, .row x.m x.h]
def extC (b : B4) (q : Bool) : List Dyn.DC := [cI b.x0, cI b.y0, cI b.x1, cI b.y1, .p (vb q)]
def qG : Dec Gr
  | .agg [.row n f, .row m h] => some (⟨n, f, m, h⟩, [])
  | _ => none
theorem qG_ok : DecOk qG dvG (fun _ => True) := fun d x ps h hp => by
  unfold qG at h; split at h
  · simp only [Option.some.injEq, Prod.mk.injEq] at h
    obtain ⟨rfl, rfl⟩ := h
    exact ⟨⟨⟨rfl, fun _ _ => rfl⟩, ⟨rfl, fun _ _ => rfl⟩, trivial⟩, trivial⟩
  · cases h
/-- the objects of a group -/
noncomputable def ofG (x : Gr) : Shp := ofSh (obX x.n x.f)
def toG (s : Shp) : Gr := ⟨nuO s, fun i => partC (adO s i) (toSh (suO s i)), nuO s, fun i => extC (figBndC (suO s i)).1 (hbF (suO s i))⟩
def GLe (x y : Gr) : Prop := x.n = y.n ∧ (∀ i, i < x.n → x.f i = y.f i) ∧ x.m = y.m ∧ ∀ i, i < x.m → x.h i = y.h i
def GDle (x y : Gr) : Prop := Dyn.DVLe (dvG x) (dvG y)
def lst (s : Shp) : Shp := lForm (nuO s) (adO s) (suO s)
theorem ofG_toG (s : Shp) : ofG (toG s) = lst s := by
  show ofSh (toSh (lst s)) = lst s
  exact ofSh_toSh _
end Go.Proofs.Ythnenjodighlmaa

/-! ## Rgb -/
namespace Go.Proofs.Ythnenjodighlmaa
open Go Go.RowKit Sym
set_option maxRecDepth 100000

def dtyG (t : TypeId) : Bool := dtyO t || Nat.beq t 103 || Nat.beq t 123
def nilV : Value := .slice none 0 0
def slV (k n : Nat) : Value := .slice (some ⟨k, 0, some 0⟩) n 0
/-! ### reach -/
noncomputable def tdGc : List Dyn.EntryD := [(16, en1D (qAnd qS PdS) fun x => .tup [dvX (figBnd x).1, dvB (figBnd x).2]), (69, en1D (qAnd qS PdS) fun x => rB (hbE x))]
noncomputable def tabGc : Dyn.Tabs := Dyn.tabs tbF tdGc noD dtyG
theorem tabGc_ok : Dyn.TabsOk Try.prog tabGc := Dyn.tabs_ok tbF_ok (List.forall_mem_cons.2 ⟨en1D_ok (qAnd_ok qS_ok) fun x h => figBnd_ok x h.1, List.forall_mem_cons.2 ⟨en1D_ok (qAnd_ok qS_ok) fun x h => hb_all x h.1, fun _ h => by cases h⟩⟩)
noncomputable def gcKp (sh : Nat → Sh) (i : Nat) : Bool := (figBnd (sh i)).2
noncomputable def gcF (add : Nat → Bool) (sh : Nat → Sh) (n : Nat) (j : Nat) : List Dyn.DC := partC (add (kIx (gcKp sh) n j)) (sh (kIx (gcKp sh) n j))
noncomputable def gcH (sh : Nat → Sh) (n : Nat) (j : Nat) : List Dyn.DC := extC (figBnd (sh (kIx (gcKp sh) n j))).1 (hbE (sh (kIx (gcKp sh) n j)))
def gcS0 (s : Sh) (F H : Nat → List Dyn.DC) (c : Nat) (i : Int) : Dyn.St := mkS 39 [(2, sL 1), (3, sL 2), (8, sH 0 0 s.n), (9, sI s.n), (10, sI i)] [some (.deep [.row s.n s.f]), some (.cells 103 [nilV, nilV]), some (.cells 103 [slV 3 c, slV 4 c]), some (.own 62 c F), some (.own 123 c H)]
def gcK : List Nat := [2, 3, 8, 9, 10]
noncomputable def gcS (n : Nat) (add : Nat → Bool) (sh : Nat → Sh) (c : Nat) (i : Int) : Dyn.St := gcS0 (mkL n add sh) (gcF add sh n) (gcH sh n) c i
noncomputable def gcV (n : Nat) (add : Nat → Bool) (sh : Nat → Sh) (c i : Nat) : Dyn.St := gcS0 (mkL n add sh) (Dyn.appF c (gcF add sh n) (fun _ => partC (add i) (sh i))) (Dyn.appF c (gcH sh n) (fun _ => extC (figBnd (sh i)).1 (hbE (sh i)))) (c + 1) (W (i + 1))
noncomputable def gcLp (n : Nat) (add : Nat → Bool) (sh : Nat → Sh) : Dyn.Lp := fun id st => match id with
  | 0 => some (.side [Dyn.nilCell 2 1 123 (gcH sh n) (Dyn.nilCell 2 0 62 (gcF add sh n) (keepA 39 [0, 1, 2] [] gcK (2 ^ 10) st)) = gcS n add sh 0 0] (.leaf .normal (gcS n add sh (kN (gcKp sh) n) n)))
  | _ => none
noncomputable def gcB (n : Nat) (add : Nat → Bool) (sh : Nat → Sh) (c i : Nat) : Dyn.Out :=
  .ite (decide ((i : Int) < (n : Int))) (.side [0 ≤ (i : Int) ∧ (i : Int) < (n : Int)] (.side [PdS (sh i), ctrSelf (sh i).l] (.ite (figBnd (sh i)).2 (.side [szP 120 c] (.side [PdS (sh i), ctrSelf (sh i).l, szP 40 c] (.leaf .normal (gcV n add sh c i)))) (.leaf .normal (gcS n add sh c (W (i + 1))))))) (.leaf (.exit 0) (gcS n add sh c i))
theorem gc_B (n : Nat) (add : Nat → Bool) (sh : Nat → Sh) (c i : Nat) : (Dyn.lexec Try.prog tabGc (gcLp n add sh) 3 (unloopD (blkD Try.f52.body 0)) .leaf (gcS n add sh c i)).rl (keepCR 39 [0, 1, 2] [] [(2, 0), (2, 1)] gcK [] []) = gcB n add sh c i := by kernel_rfl
theorem gc_blocks : blocksL (bodyD Try.f52.body) = [(0, .loop (unloopD (blkD Try.f52.body 0))), (1, blkD Try.f52.body 1)] := by kernel_rfl
theorem gc_b0 : blocksL (unloopD (blkD Try.f52.body 0)) = [(1, blkD Try.f52.body 1)] := by kernel_rfl
theorem gc_loop (n : Nat) (add : Nat → Bool) (sh : Nat → Sh) (hn : n ≤ 1000000000) (hP : ∀ i, i < n → PdS (sh i)) (w0 : Dyn.Base Try.prog) (st : Dyn.St) (o : Dyn.Out) (h : gcLp n add sh 0 st = some o) : Dyn.BlockSound Try.prog w0 0 (.loop (unloopD (blkD Try.f52.body 0))) st o := by
  simp only [gcLp, Option.some.injEq] at h
  subst h
  refine side_one fun hS => ?_
  refine fold_block (fuel := 3) tabGc_ok mo (lp := gcLp n add sh) (by rw [gc_b0]; exact lpOk_cons (fun s o h => by cases h) lpOk_nil) (fun i (_ : Unit) => gcS n add sh (kN (gcKp sh) i) i) n (fun _ _ => ()) () (keepCR 39 [0, 1, 2] [] [(2, 0), (2, 1)] gcK [] []) (keepCR_ent 39 _ _ _ _ _ _) (fun i _ => gcB n add sh (kN (gcKp sh) i) i) (fun i _ => gc_B n add sh (kN (gcKp sh) i) i) (fun i hi => ?_) ?_ (hS ▸ ((keepA_ent 39 _ _ _ _ st).trans (Dyn.Ent.nilCell (P := Try.prog) (k := 10) (by kernel_rfl) _ _)).trans (Dyn.Ent.nilCell (P := Try.prog) (k := 4) (by kernel_rfl) _ _))
  · have hk := kN_le (gcKp sh) i
    refine ⟨fun _ => ⟨⟨⟨by omega, by omega⟩, trivial⟩, ⟨hP i hi, ctrSelf_ok _, trivial⟩, fun hx => ⟨⟨szP_ok (by decide) (by omega), trivial⟩, ⟨hP i hi, ctrSelf_ok _, szP_ok (by decide) (by omega), trivial⟩, rfl, ?_⟩, fun hx => ⟨rfl, ?_⟩⟩, fun hf => ?_⟩
    · unfold gcV
      rw [Wn1 hi hn, kN_step (gcKp sh) hx]
      have e := kIx_at (gcKp sh) hx hi
      exact ⟨rfl, Dyn.HeLe.refl _, Dyn.HeLe.refl _, Dyn.HeLe.refl _, le_app (by unfold gcF; rw [e]), le_app (by unfold gcH; rw [e]), trivial⟩
    · rw [Wn1 hi hn, kN_skip (gcKp sh) hx]; exact Dyn.Fits.refl _
    · rw [decide_eq_false_iff_not] at hf
      exact absurd (show (i : Int) < (n : Int) by omega) hf
  · refine ⟨fun ht => ?_, fun _ => ⟨rfl, Dyn.Fits.refl _⟩⟩
    rw [decide_eq_true_eq] at ht
    exact absurd (show (n : Int) < (n : Int) from ht) (by omega)
noncomputable def gcR (n : Nat) (add : Nat → Bool) (sh : Nat → Sh) : Dyn.RV := .val (dvG ⟨kN (gcKp sh) n, gcF add sh n, kN (gcKp sh) n, gcH sh n⟩)
theorem gc_O (n : Nat) (add : Nat → Bool) (sh : Nat → Sh) : (Dyn.dfun Try.prog tabGc (gcLp n add sh) 3 Try.f52 [dvL (mkL n add sh)]).ro Try.prog Try.f52.results = .side [gcS n add sh 0 0 = gcS n add sh 0 0] (.leaf (gcR n add sh)) := by kernel_rfl
theorem gc_lvl (n : Nat) (add : Nat → Bool) (sh : Nat → Sh) (hn : n ≤ 1000000000) (hP : ∀ i, i < n → PdS (sh i)) : Dyn.CallD Try.prog 52 [dvL (mkL n add sh)] (gcR n add sh) :=
  Dyn.dcontract (lp := gcLp n add sh) (fuel := 3) tabGc_ok mo Try.func52 (by kernel_rfl) (c := bodyD Try.f52.body) (by kernel_rfl)
    (fun w0 => by rw [gc_blocks]; exact lpOk_cons (gc_loop n add sh hn hP w0) (lpOk_cons (fun s o h => by cases h) lpOk_nil))
    (by kernel_rfl) (gc_O n add sh) ⟨⟨rfl, trivial⟩, ro_leaf rfl⟩
theorem greach_ok : ∀ s : Shp, ShB s → Dyn.CallD Try.prog 52 [dvL (toSh s)] (.val (dvG (toG (reachF s)))) := by
  intro s h
  cases s with
  | nil => exact h.elim
  | mk k a b c r l n add sub =>
    have q := gc_lvl n add (fun i => toSh (sub i)) h.2.1 fun i hi => PdS_mk (h.2.2 i hi)
    unfold gcR gcF gcH at q
    have e : gcKp (fun i => toSh (sub i)) = rchK (.mk k a b c r l n add sub) := funext fun i => by unfold gcKp rchK; rw [figBnd_C]; rfl
    rw [e] at q
    simp only [figBnd_C, hbE_eq] at q
    exact q
/-! ### near -/
def gnKp (B : Nat → B4) (q : Nat → Bool) (b : B4) (i : Nat) : Bool := bif q i then true else !(apart (B i) b)
def gnF0 (add : Nat → Bool) (sh : Nat → Sh) (i : Nat) : List Dyn.DC := partC (add i) (sh i)
def gnH0 (B : Nat → B4) (q : Nat → Bool) (i : Nat) : List Dyn.DC := extC (B i) (q i)
def gnF (add : Nat → Bool) (sh : Nat → Sh) (B : Nat → B4) (q : Nat → Bool) (b : B4) (n : Nat) (j : Nat) : List Dyn.DC := gnF0 add sh (kIx (gnKp B q b) n j)
def gnH (B : Nat → B4) (q : Nat → Bool) (b : B4) (n : Nat) (j : Nat) : List Dyn.DC := gnH0 B q (kIx (gnKp B q b) n j)
def tabGn : Dyn.Tabs := Dyn.tabs tbF [] noD dtyG
theorem tabGn_ok : Dyn.TabsOk Try.prog tabGn := Dyn.tabs_ok tbF_ok (fun _ h => by cases h)
def gnS0 (n : Nat) (f h : Nat → List Dyn.DC) (b : B4) (F H : Nat → List Dyn.DC) (c : Nat) (i : Int) : Dyn.St := mkS 43 [(2, sL 1), (3, sL 2), (4, sL 3), (5, sL 4), (9, sH 0 1 n), (10, sI n), (11, sI i)]
  [some (.deep [.row n f, .row n h]), some (.cells 103 [.slice (some ⟨0, 0, some 0⟩) n 0, .slice (some ⟨0, 1, some 0⟩) n 0]), some (.cells 40 (bxV b)), some (.cells 103 [nilV, nilV]), some (.cells 103 [slV 5 c, slV 6 c]), some (.own 62 c F), some (.own 123 c H)]
def gnK : List Nat := [2, 3, 4, 5, 9, 10, 11]
def gnS (n : Nat) (add : Nat → Bool) (sh : Nat → Sh) (B : Nat → B4) (q : Nat → Bool) (b : B4) (c : Nat) (i : Int) : Dyn.St := gnS0 n (gnF0 add sh) (gnH0 B q) b (gnF add sh B q b n) (gnH B q b n) c i
def gnV (n : Nat) (add : Nat → Bool) (sh : Nat → Sh) (B : Nat → B4) (q : Nat → Bool) (b : B4) (c i : Nat) : Dyn.St := gnS0 n (gnF0 add sh) (gnH0 B q) b (Dyn.appF c (gnF add sh B q b n) (fun _ => gnF0 add sh i)) (Dyn.appF c (gnH B q b n) (fun _ => gnH0 B q i)) (c + 1) (W (i + 1))
def gnLp (n : Nat) (add : Nat → Bool) (sh : Nat → Sh) (B : Nat → B4) (q : Nat → Bool) (b : B4) : Dyn.Lp := fun id st => match id with
  | 0 => some (.side [Dyn.nilCell 4 1 123 (gnH B q b n) (Dyn.nilCell 4 0 62 (gnF add sh B q b n) (keepA 43 [0, 1, 2, 3, 4] [] gnK (2 ^ 11) st)) = gnS n add sh B q b 0 0] (.leaf .normal (gnS n add sh B q b (kN (gnKp B q b) n) n)))
  | _ => none
def gnB (n : Nat) (add : Nat → Bool) (sh : Nat → Sh) (B : Nat → B4) (q : Nat → Bool) (b : B4) (c i : Nat) : Dyn.Out :=
  .ite (decide ((i : Int) < (n : Int))) (.side [0 ≤ (i : Int) ∧ (i : Int) < (n : Int)] (.ite (gnKp B q b i) (.side [0 ≤ (i : Int) ∧ (i : Int) < (n : Int), szP 120 c] (.side [szP 40 c] (.leaf .normal (gnV n add sh B q b c i)))) (.leaf .normal (gnS n add sh B q b c (W (i + 1)))))) (.leaf (.exit 0) (gnS n add sh B q b c i))
theorem gn_B (n : Nat) (add : Nat → Bool) (sh : Nat → Sh) (B : Nat → B4) (q : Nat → Bool) (b : B4) (c i : Nat) : (Dyn.lexec Try.prog tabGn (gnLp n add sh B q b) 3 (unloopD (blkD Try.f53.body 0)) .leaf (gnS n add sh B q b c i)).rl (keepCR 43 [0, 1, 2, 3, 4] [] [(4, 0), (4, 1)] gnK [] []) = gnB n add sh B q b c i := by kernel_rfl
theorem gn_blocks : blocksL (bodyD Try.f53.body) = [(0, .loop (unloopD (blkD Try.f53.body 0))), (1, blkD Try.f53.body 1)] := by kernel_rfl
theorem gn_b0 : blocksL (unloopD (blkD Try.f53.body 0)) = [(1, blkD Try.f53.body 1)] := by kernel_rfl
theorem gn_loop (n : Nat) (add : Nat → Bool) (sh : Nat → Sh) (B : Nat → B4) (q : Nat → Bool) (b : B4) (hn : n ≤ 1000000000) (w0 : Dyn.Base Try.prog) (st : Dyn.St) (o : Dyn.Out) (h : gnLp n add sh B q b 0 st = some o) : Dyn.BlockSound Try.prog w0 0 (.loop (unloopD (blkD Try.f53.body 0))) st o := by
  simp only [gnLp, Option.some.injEq] at h
  subst h
  refine side_one fun hS => ?_
  refine fold_block (fuel := 3) tabGn_ok mo (lp := gnLp n add sh B q b) (by rw [gn_b0]; exact lpOk_cons (fun s o h => by cases h) lpOk_nil) (fun i (_ : Unit) => gnS n add sh B q b (kN (gnKp B q b) i) i) n (fun _ _ => ()) () (keepCR 43 [0, 1, 2, 3, 4] [] [(4, 0), (4, 1)] gnK [] []) (keepCR_ent 43 _ _ _ _ _ _) (fun i _ => gnB n add sh B q b (kN (gnKp B q b) i) i) (fun i _ => gn_B n add sh B q b (kN (gnKp B q b) i) i) (fun i hi => ?_) ?_ (hS ▸ ((keepA_ent 43 _ _ _ _ st).trans (Dyn.Ent.nilCell (P := Try.prog) (k := 10) (by kernel_rfl) _ _)).trans (Dyn.Ent.nilCell (P := Try.prog) (k := 4) (by kernel_rfl) _ _))
  · have hk := kN_le (gnKp B q b) i
    refine ⟨fun _ => ⟨⟨⟨by omega, by omega⟩, trivial⟩, fun hx => ⟨⟨⟨by omega, by omega⟩, szP_ok (by decide) (by omega), trivial⟩, ⟨szP_ok (by decide) (by omega), trivial⟩, rfl, ?_⟩, fun hx => ⟨rfl, ?_⟩⟩, fun hf => ?_⟩
    · unfold gnV
      rw [Wn1 hi hn, kN_step (gnKp B q b) hx]
      have e := kIx_at (gnKp B q b) hx hi
      exact ⟨rfl, Dyn.HeLe.refl _, Dyn.HeLe.refl _, Dyn.HeLe.refl _, Dyn.HeLe.refl _, Dyn.HeLe.refl _, le_app (by unfold gnF; rw [e]), le_app (by unfold gnH; rw [e]), trivial⟩
    · rw [Wn1 hi hn, kN_skip (gnKp B q b) hx]; exact Dyn.Fits.refl _
    · rw [decide_eq_false_iff_not] at hf
      exact absurd (show (i : Int) < (n : Int) by omega) hf
  · refine ⟨fun ht => ?_, fun _ => ⟨rfl, Dyn.Fits.refl _⟩⟩
    rw [decide_eq_true_eq] at ht
    exact absurd (show (n : Int) < (n : Int) from ht) (by omega)
def gnR (n : Nat) (add : Nat → Bool) (sh : Nat → Sh) (B : Nat → B4) (q : Nat → Bool) (b : B4) : Dyn.RV := .val (dvG ⟨kN (gnKp B q b) n, gnF add sh B q b n, kN (gnKp B q b) n, gnH B q b n⟩)
theorem gn_O (n : Nat) (add : Nat → Bool) (sh : Nat → Sh) (B : Nat → B4) (q : Nat → Bool) (b : B4) : (Dyn.dfun Try.prog tabGn (gnLp n add sh B q b) 3 Try.f53 [dvG ⟨n, gnF0 add sh, n, gnH0 B q⟩, dvX b]).ro Try.prog Try.f53.results = .side [gnS n add sh B q b 0 0 = gnS n add sh B q b 0 0] (.leaf (gnR n add sh B q b)) := by kernel_rfl
theorem gn_lvl (n : Nat) (add : Nat → Bool) (sh : Nat → Sh) (B : Nat → B4) (q : Nat → Bool) (b : B4) (hn : n ≤ 1000000000) : Dyn.CallD Try.prog 53 [dvG ⟨n, gnF0 add sh, n, gnH0 B q⟩, dvX b] (gnR n add sh B q b) :=
  Dyn.dcontract (lp := gnLp n add sh B q b) (fuel := 3) tabGn_ok mo Try.func53 (by kernel_rfl) (c := bodyD Try.f53.body) (by kernel_rfl)
    (fun w0 => by rw [gn_blocks]; exact lpOk_cons (gn_loop n add sh B q b hn w0) (lpOk_cons (fun s o h => by cases h) lpOk_nil))
    (by kernel_rfl) (gn_O n add sh B q b) ⟨⟨rfl, trivial⟩, ro_leaf rfl⟩
theorem near_ok0 (s : Shp) (h : nuO s ≤ 1000000000) (b : B4) : Dyn.CallD Try.prog 53 [dvG (toG s), dvX b] (.val (dvG (toG (nearG s b)))) :=
  gn_lvl (nuO s) (adO s) (fun i => toSh (suO s i)) (fun i => (figBndC (suO s i)).1) (fun i => hbF (suO s i)) b h
/-! ### groups that show objects -/
def PdG (x : Gr) : Prop := PdS (obX x.n x.f) ∧ x.m = x.n ∧ ∀ i, i < x.n → x.h i = extC (figBndC (suO (ofG x) i)).1 (hbF (suO (ofG x) i))
theorem PdG_mk {s : Shp} (h : ShB (lst s)) : PdG (toG s) := by
  refine ⟨PdS_mk (s := lst s) h, rfl, fun i hi => ?_⟩
  rw [ofG_toG]; rfl
theorem obX_nu {n : Nat} {f : Nat → List Dyn.DC} (h : PdS (obX n f)) : nuO (ofSh (obX n f)) = n ∧ ∀ i, i < n → f i = partC (adO (ofSh (obX n f)) i) (toSh (suO (ofSh (obX n f)) i)) := by
  have k := h.2
  cases e : ofSh (obX n f) with
  | nil => have := h.1; rw [e] at this; exact this.elim
  | mk k' a b c r l m add sub =>
    rw [e] at k
    obtain ⟨_, _, _, _, _, _, k7, k8⟩ := k
    have k7 : n = m := k7
    exact ⟨k7.symm, fun i hi => k8 i hi⟩
theorem PdG.le {x : Gr} (h : PdG x) : Dyn.DVLe (dvG x) (dvG (toG (ofG x))) := by
  have k := obX_nu h.1
  exact ⟨⟨k.1.symm, k.2⟩, ⟨h.2.1.trans k.1.symm, fun i hi => h.2.2 i (by rw [← h.2.1]; exact hi)⟩, trivial⟩
theorem PdG.B {x : Gr} (h : PdG x) : ShB (ofG x) := h.1.1
theorem lst_B {s : Shp} (h : ShB s) : ShB (lst s) := by
  cases s with
  | nil => exact h.elim
  | mk k a b c r l n add sub => exact ⟨CtrB_ze, h.2.1, h.2.2⟩
theorem fil_B {s : Shp} (h : ShB s) (keep : Nat → Bool) : ShB (filL keep s) := by
  cases s with
  | nil => exact h.elim
  | mk k a b c r l n add sub =>
    refine ⟨CtrB_ze, Nat.le_trans (kN_le keep n) h.2.1, fun i hi => ?_⟩
    exact h.2.2 _ (kIx_lt keep hi).1
theorem ShB_nu {s : Shp} (h : ShB s) : nuO s ≤ 1000000000 := by
  cases s with
  | nil => exact h.elim
  | mk k a b c r l n add sub => exact h.2.1
noncomputable def nearE (x : Gr) (b : B4) : Gr := toG (nearG (ofG x) b)
theorem nearE_Pd {x : Gr} (h : PdG x) (b : B4) : PdG (nearE x b) := PdG_mk (lst_B (fil_B h.B _))
theorem gnear_all (x : Gr) (h : PdG x) (b : B4) : Dyn.CallD Try.prog 53 [dvG x, dvX b] (.val (dvG (nearE x b))) :=
  CallD_le (args := [dvG (toG (ofG x)), dvX b]) ⟨h.le, Dyn.DVLe.refl _, trivial⟩ (near_ok0 (ofG x) (ShB_nu h.B) b)
noncomputable def reachE (x : Sh) : Gr := toG (reachF (ofSh x))
theorem reachE_Pd {x : Sh} (h : PdS x) : PdG (reachE x) := PdG_mk (lst_B (fil_B h.1 _))
theorem greach_all (x : Sh) (h : PdS x) : Dyn.CallD Try.prog 52 [dvL x] (.val (dvG (reachE x))) :=
  CallD_le (args := [dvL (toSh (ofSh x))]) ⟨SLe.dvL h.2, trivial⟩ (greach_ok (ofSh x) h.1)
end Go.Proofs.Ythnenjodighlmaa
