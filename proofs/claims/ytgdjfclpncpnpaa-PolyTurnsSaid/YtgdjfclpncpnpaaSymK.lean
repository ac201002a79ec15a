/-
  OWN WORK. A symbolic executor for Go text over open terms, part K: all code; a function's contract.
-/
import Derived.Test.YtgdjfclpncpnpaaSymJ
namespace Go.Proofs.Ytgdjfclpncpnpaa.Sym
open Go Go.RowKit

section
variable {P : Program} {tb : Nat → List Value → Option (Value × List Prop)} {w0 : World}

theorem aexec_sound (ht : TbOk P tb) (hm : P.follows .mixedOrders = true) {F : AExit → St → Prop} {fuel : Nat} : ∀ (c : Code) (k : AExit → St → Out) (s : St) (Q : Exit → Act → World → Prop) (a : Act) (w : World) (β : Nat → Nat), M w0 β s a w → NoG s →
    (aexec P tb fuel c k s).sat F → (∀ e s β a w, M w0 β s a w → NoG s → (k e s).sat F → Q e.real a w) → c.wp P Q a w := by
  intro c
  induction c with
  | skip => intro k s Q a w β m ng h hk; exact wp_skip (hk .normal s β a w m ng h)
  | region id ops draw =>
    intro k s Q a w β m ng h hk
    simp only [aexec] at h
    split at h
    · rename_i s' ps hr
      obtain ⟨h1, h2⟩ := sideOf_sat h
      exact region_sound ht hm m ng hr h1 fun β a w m' ng' => hk .normal s' β a w m' ng' h2
    · exact h.elim
  | seq x y ihx ihy =>
    intro k s Q a w β m ng h hk
    simp only [aexec] at h
    refine wp_seq (ihx _ s _ a w β m ng h fun e s' β' a' w' m' ng' hs => ?_)
    cases e with
    | normal => exact ihy k s' Q a' w' β' m' ng' hs hk
    | exit id => exact hk (.exit id) s' β' a' w' m' ng' hs
    | ret => exact hk .ret s' β' a' w' m' ng' hs
  | cond c x y ihx ihy =>
    intro k s Q a w β m ng h hk
    simp only [aexec] at h
    split at h
    · rename_i q hq
      have hb := cond_bool m (.inl hq)
      cases q with
      | true => exact wp_cond_true hb (ihx k s Q a w β m ng h hk)
      | false => exact wp_cond_false hb (ihy k s Q a w β m ng h hk)
    · rename_i q hq
      have hb := cond_bool m (.inr hq)
      split at h
      · rename_i s' ps hsim
        obtain ⟨h1, h2⟩ := sideOf_sat h
        have ng' := (asim_frame _ _ _ _ ng hsim).1
        exact asim_sound ht hm _ _ _ _ Q a w β m ng hsim h1 fun β a w m' => hk .normal s' β a w m' ng' h2
      · cases q with
        | true => exact wp_cond_true hb (ihx k s Q a w β m ng (h.1 rfl) hk)
        | false => exact wp_cond_false hb (ihy k s Q a w β m ng (h.2 rfl) hk)
    · exact h.elim
  | block id c ih =>
    intro k s Q a w β m ng h hk
    simp only [aexec] at h
    refine wp_block (ih _ s _ a w β m ng h fun e s' β' a' w' m' ng' hs => ?_)
    cases e with
    | normal => exact hk .normal s' β' a' w' m' ng' hs
    | ret => exact hk .ret s' β' a' w' m' ng' hs
    | exit id' =>
      show if id' = id then Q Exit.normal a' w' else Q (Exit.exit id') a' w'
      dsimp only at hs
      split at hs
      · rename_i e
        rw [if_pos e]
        exact hk .normal s' β' a' w' m' ng' hs
      · rename_i e
        rw [if_neg e]
        exact hk (.exit id') s' β' a' w' m' ng' hs
  | loop c ih =>
    intro k s Q a w β m ng h hk
    simp only [aexec] at h
    refine wp_loop (fun a' w' => ∃ n s' β', M w0 β' s' a' w' ∧ NoG s' ∧ (loopN (fun self s => aexec P tb fuel c (fun e s => match e with | .normal => self s | .exit id => k (.exit id) s | .ret => k .ret s) s) n s').sat F)
      (fun a' w' => Classical.epsilon fun n => (∃ s' β', M w0 β' s' a' w' ∧ NoG s' ∧ (loopN (fun self s => aexec P tb fuel c (fun e s => match e with | .normal => self s | .exit id => k (.exit id) s | .ret => k .ret s) s) n s').sat F) ∧
        ∀ n', (∃ s' β', M w0 β' s' a' w' ∧ NoG s' ∧ (loopN (fun self s => aexec P tb fuel c (fun e s => match e with | .normal => self s | .exit id => k (.exit id) s | .ret => k .ret s) s) n' s').sat F) → n ≤ n') ⟨fuel, s, β, m, ng, h⟩ ?_
    intro a1 w1 hI
    -- the least number of rounds that serve
    have hleast : ∀ (p : Nat → Prop), (∃ n, p n) → ∃ n, p n ∧ ∀ n', p n' → n ≤ n' := by
      intro p ⟨n, hn⟩
      induction n using Nat.strongRecOn with
      | _ n ihn =>
        by_cases hx : ∃ n', n' < n ∧ p n'
        · obtain ⟨n', h1, h2⟩ := hx
          exact ihn n' h1 h2
        · exact ⟨n, hn, fun n' hn' => Nat.le_of_not_lt fun hlt => hx ⟨n', hlt, hn'⟩⟩
    have heps : ∀ (p : Nat → Prop), (∃ n, p n) → p (Classical.epsilon fun n => p n ∧ ∀ n', p n' → n ≤ n') ∧ ∀ n', p n' → (Classical.epsilon fun n => p n ∧ ∀ n', p n' → n ≤ n') ≤ n' := fun p hp =>
      Classical.epsilon_spec (p := fun n => p n ∧ ∀ n', p n' → n ≤ n') (hleast p hp)
    obtain ⟨⟨s1, β1, m1, ng1, hs1⟩, hmin⟩ := heps (fun n => ∃ s' β', M w0 β' s' a1 w1 ∧ NoG s' ∧ (loopN (fun self s => aexec P tb fuel c (fun e s => match e with | .normal => self s | .exit id => k (.exit id) s | .ret => k .ret s) s) n s').sat F) hI
    generalize (Classical.epsilon fun n => (∃ s' β', M w0 β' s' a1 w1 ∧ NoG s' ∧ (loopN (fun self s => aexec P tb fuel c (fun e s => match e with | .normal => self s | .exit id => k (.exit id) s | .ret => k .ret s) s) n s').sat F) ∧
        ∀ n', (∃ s' β', M w0 β' s' a1 w1 ∧ NoG s' ∧ (loopN (fun self s => aexec P tb fuel c (fun e s => match e with | .normal => self s | .exit id => k (.exit id) s | .ret => k .ret s) s) n' s').sat F) → n ≤ n') = N at *
    cases N with
    | zero => exact hs1.elim
    | succ N =>
      simp only [loopN] at hs1
      refine ih _ s1 _ a1 w1 β1 m1 ng1 hs1 fun e s2 β2 a2 w2 m2 ng2 hs2 => ?_
      cases e with
      | normal =>
        have hI2 : ∃ n s' β', M w0 β' s' a2 w2 ∧ NoG s' ∧ (loopN (fun self s => aexec P tb fuel c (fun e s => match e with | .normal => self s | .exit id => k (.exit id) s | .ret => k .ret s) s) n s').sat F := ⟨N, s2, β2, m2, ng2, hs2⟩
        refine ⟨hI2, ?_⟩
        have := (heps _ hI2).2 N ⟨s2, β2, m2, ng2, hs2⟩
        exact Nat.lt_succ_of_le this
      | exit id => exact hk (.exit id) s2 β2 a2 w2 m2 ng2 hs2
      | ret => exact hk .ret s2 β2 a2 w2 m2 ng2 hs2
  | exit id => intro k s Q a w β m ng h hk; exact wp_exit (hk (.exit id) s β a w m ng h)
  | ret => intro k s Q a w β m ng h hk; exact wp_ret (hk .ret s β a w m ng h)
  | _ => intro k s Q a w β m ng h; exact h.elim

/-! ### a function -/
def resOne (P : Program) (s : St) : ResultVar → Option Value
  | .tmp t => plain (s.slots.getD t .junk)
  | .cell t ty => match s.slots.getD t .junk with
    | .loc n off => match s.heap.getD n none with
      | some c => loadOf P ty c.2 off
      | none => none
    | _ => none
def resVal (P : Program) (rs : Array ResultVar) (s : St) : Option Value :=
  match rs.toList with
  | [r] => resOne P s r
  | [r, q] => match resOne P s r, resOne P s q with
    | some u, some v => some (.tuple #[u, v])
    | _, _ => none
  | [r, q, p] => match resOne P s r, resOne P s q, resOne P s p with
    | some u, some v, some x => some (.tuple #[u, v, x])
    | _, _, _ => none
  | [] => some (.tuple #[])
  | _ => none

def initSt (fn : Func) (args : List Value) : St := { slots := args.map SV.v ++ List.replicate (fn.ntmps - args.length) .junk, heap := [] }

def afun (P : Program) (tb : Nat → List Value → Option (Value × List Prop)) (fuel : Nat) (fn : Func) (args : List Value) : Out :=
  match fn.body with
  | some c => aexec P tb fuel c .leaf (initSt fn args)
  | none => .fail

def Out.val (P : Program) (rs : Array ResultVar) : Out → Option Value
  | .leaf e s => match e with
    | .exit _ => none
    | _ => resVal P rs s
  | .ite b x y => match x.val P rs, y.val P rs with
    | some u, some v => some (mergeN 3 b u v)
    | _, _ => none
  | .side _ x => x.val P rs
  | .fail => none

def Out.sides : Out → Prop
  | .leaf _ _ => True
  | .ite b x y => (b = true → x.sides) ∧ (b = false → y.sides)
  | .side ps x => allP ps ∧ x.sides
  | .fail => False

def Out.noSides : Out → Bool
  | .leaf _ _ => true
  | .ite _ x y => x.noSides && y.noSides
  | .side _ _ => false
  | .fail => false
theorem Out.sides_of : ∀ {o : Out}, o.noSides = true → o.sides
  | .leaf _ _, _ => trivial
  | .ite b x y, h => by
    simp only [Out.noSides, Bool.and_eq_true] at h
    exact ⟨fun _ => Out.sides_of h.1, fun _ => Out.sides_of h.2⟩
  | .side _ _, h => by cases h
  | .fail, h => by cases h

/-- all that must hold, in one list -/
def Out.sideList : Out → List Prop
  | .leaf _ _ => []
  | .ite b x y => (x.sideList.map fun p => (b = true → p)) ++ (y.sideList.map fun p => (b = false → p))
  | .side ps x => ps ++ x.sideList
  | .fail => [False]

theorem allP_mem {l : List Prop} : allP l ↔ ∀ p ∈ l, p := by
  induction l with
  | nil => simp [allP]
  | cons p l ih => rw [List.forall_mem_cons, ← ih]; rfl

theorem Out.sides_list : ∀ {o : Out}, allP o.sideList → o.sides
  | .leaf _ _, _ => trivial
  | .ite b x y, h => by
    simp only [Out.sideList, allP_append] at h
    refine ⟨fun hb => Out.sides_list (allP_mem.2 fun p hp => ?_), fun hb => Out.sides_list (allP_mem.2 fun p hp => ?_)⟩
    · exact (allP_mem.1 h.1 _ (List.mem_map.2 ⟨p, hp, rfl⟩)) hb
    · exact (allP_mem.1 h.2 _ (List.mem_map.2 ⟨p, hp, rfl⟩)) hb
  | .side ps x, h => by
    simp only [Out.sideList, allP_append] at h
    exact ⟨h.1, Out.sides_list h.2⟩
  | .fail, h => h.1

theorem Out.sat_val {rs : Array ResultVar} : ∀ {o : Out} {v : Value}, o.val P rs = some v → o.sides → o.sat fun e s => (e = .normal ∨ e = .ret) ∧ resVal P rs s = some v
  | .leaf e s, v, h, _ => by
    simp only [Out.val] at h
    cases e with
    | normal => exact ⟨.inl rfl, h⟩
    | ret => exact ⟨.inr rfl, h⟩
    | exit id => cases h
  | .ite b x y, v, h, hs => by
    simp only [Out.val] at h
    split at h
    · rename_i u u' hx hy
      simp only [Option.some.injEq] at h; subst h
      refine ⟨fun hb => ?_, fun hb => ?_⟩
      · subst hb; rw [mergeN_true]; exact Out.sat_val hx (hs.1 rfl)
      · subst hb; rw [mergeN_false]; exact Out.sat_val hy (hs.2 rfl)
    · cases h
  | .side ps x, v, h, hs => ⟨hs.1, Out.sat_val (o := x) h hs.2⟩
  | .fail, v, h, _ => by cases h

def OneOk (P : Program) (a : Act) (w : World) (v : Value) : ResultVar → Prop
  | .tmp t => a.tmps.getD t undef = v
  | .cell t ty => ∃ ad, a.tmps.getD t undef = .pointer (some ad) ∧ (loadVar ty ad).run P w = .ok v w

theorem one_ok {s : St} {β : Nat → Nat} {a : Act} {w : World} (m : M w0 β s a w) {r : ResultVar} {v : Value} (h : resOne P s r = some v) : OneOk P a w v r := by
  have hd : ∀ t, Den β s.slots (s.slots.getD t .junk) (a.tmps.getD t undef) := fun t => by
    rw [Array.getD_eq_getD_getElem?]
    cases hu : a.tmps[t]? with
    | some u => exact m.slot t u hu
    | none =>
      have hs : s.slots.length ≤ t := by rw [← m.size]; exact Array.getElem?_eq_none_iff.1 hu
      have : s.slots.getD t .junk = .junk := by simp [List.getElem?_eq_none hs]
      rw [this]; trivial
  cases r with
  | tmp t => exact plain_eval (hd t) h
  | cell t ty =>
    simp only [resOne] at h
    split at h
    · rename_i n off hev
      have hd' := hd t
      rw [hev] at hd'
      split at h
      · rename_i c hn
        exact ⟨_, hd', loadVar_run (m.mem.at_ n c hn).1 h⟩
      · cases h
    · cases h

/-- one result, as 'results' reads it -/
def oneSem (a : Act) : ResultVar → Sem Value
  | .tmp t => pure (a.tmps.getD t undef)
  | .cell t ty => do loadVar ty (← asAddr (a.tmps.getD t undef))

theorem one_run {a : Act} {w : World} {v : Value} {r : ResultVar} (h : OneOk P a w v r) : (oneSem a r).run P w = .ok v w := by
  cases r with
  | tmp t => show Result.ok _ w = _; rw [show a.tmps.getD t undef = v from h]
  | cell t ty =>
    obtain ⟨ad, h1, h2⟩ := h
    simp only [oneSem, Sem.run_bind, h1, asAddr, Sem.run_pure, Result.andThen_ok, h2]

theorem results_run {s : St} {β : Nat → Nat} {a : Act} {w : World} {fn : Func} (m : M w0 β s a w) {v : Value} (h : resVal P fn.results s = some v) : (results fn a.tmps).run P w = .ok v w := by
  have hmk : ∀ l, fn.results.toList = l → fn.results = l.toArray := fun l hl => by rw [← hl]
  have hres : results fn a.tmps = (do let vs ← fn.results.mapM (oneSem a); pure (if h : vs.size = 1 then vs[0] else .tuple vs)) := by
    unfold results
    refine congrArg (fun f => (do let vs ← fn.results.mapM f; pure (if h : vs.size = 1 then vs[0] else .tuple vs) : Sem Value)) ?_
    funext r; cases r <;> rfl
  rw [hres]
  unfold resVal at h
  split at h
  · rename_i r hl
    have h1 := one_run (one_ok m h)
    rw [hmk _ hl]
    simp [h1]
  · rename_i r q hl
    split at h
    · rename_i u v' h1 h2
      simp only [Option.some.injEq] at h; subst h
      have h1 := one_run (one_ok m h1)
      have h2 := one_run (one_ok m h2)
      rw [hmk _ hl]
      simp [h1, h2]
    · cases h
  · rename_i r q p hl
    split at h
    · rename_i u v' x h1 h2 h3
      simp only [Option.some.injEq] at h; subst h
      have h1 := one_run (one_ok m h1)
      have h2 := one_run (one_ok m h2)
      have h3 := one_run (one_ok m h3)
      rw [hmk _ hl]
      simp [h1, h2, h3]
    · cases h
  · rename_i hl
    simp only [Option.some.injEq] at h; subst h
    rw [hmk _ hl]
    simp
  · cases h

/-- THE CONTRACT OF A FUNCTION: what its text comes to on open terms is what its call returns; what was there stays as it was. -/
theorem contract (ht : TbOk P tb) (hm : P.follows .mixedOrders = true) {K : Nat} {fn : Func} (hf : P.funcs[K]? = some fn) {fuel : Nat} {args : List Value} {v : Value}
    (hv : (afun P tb fuel fn args).val P fn.results = some v) (hs : (afun P tb fuel fn args).sides) (w : World) :
    Calls P K args.toArray w fun e w' => e = .returned v ∧ Below w.heap.size w w' := by
  have hsat := Out.sat_val hv hs
  unfold afun at hsat
  split at hsat
  · rename_i c hb
    refine calls_of_wp hf hb ?_
    have m : M w (fun _ => 0) (initSt fn args) { tmps := args.toArray ++ Array.replicate (fn.ntmps - args.toArray.size) undef, defers := [] } w := by
      refine { defers := rfl, size := by simp [initSt], slot := fun i u hu => ?_, locs := fun i n hn => ?_, mem := { at_ := fun n c hc => by simp [initSt] at hc, inj := fun n k c d hc => by simp [initSt] at hc, below := Below.refl _ _ } }
      · by_cases hi : i < args.length
        · have e1 : (initSt fn args).slots.getD i .junk = .v args[i] := by
            simp [initSt, List.getD_eq_getElem?_getD, List.getElem?_append, hi]
          have e2 : (args.toArray ++ Array.replicate (fn.ntmps - args.toArray.size) undef)[i]? = some args[i] := by
            simp [Array.getElem?_append, hi]
          rw [e1]
          exact (Option.some.inj (hu.symm.trans e2))
        · have e1 : (initSt fn args).slots.getD i .junk = .junk := by
            simp only [initSt, List.getD_eq_getElem?_getD]
            rw [List.getElem?_append_right (by simpa using hi), List.getElem?_replicate]
            split <;> rfl
          rw [e1]; trivial
      · by_cases hi : i < args.length
        · have e1 : (initSt fn args).slots.getD i .junk = .v args[i] := by
            simp [initSt, List.getD_eq_getElem?_getD, List.getElem?_append, hi]
          rw [e1] at hn; simp [names] at hn
        · have e1 : (initSt fn args).slots.getD i .junk = .junk := by
            simp only [initSt, List.getD_eq_getElem?_getD]
            rw [List.getElem?_append_right (by simpa using hi), List.getElem?_replicate]
            split <;> rfl
          rw [e1] at hn; simp [names] at hn
    have ng : NoG (initSt fn args) := by
      intro x hx
      simp only [initSt, List.mem_append, List.mem_map, List.mem_replicate] at hx
      rcases hx with ⟨y, _, rfl⟩ | ⟨_, rfl⟩ <;> rfl
    refine aexec_sound ht hm c .leaf _ _ _ w _ m ng hsat fun e s β a w' m' _ hl => ?_
    obtain ⟨he, hr⟩ := hl
    have hpost : a.defers = [] ∧ ∃ v', (results fn a.tmps).run P w' = .ok v' w' ∧ (Ending.returned v' = .returned v ∧ Below w.heap.size w w') := ⟨m'.defers, v, results_run m' hr, rfl, m'.mem.below⟩
    rcases he with rfl | rfl <;> exact hpost
  · exact hsat.elim
end
end Go.Proofs.Ytgdjfclpncpnpaa.Sym
