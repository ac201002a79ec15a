/-
  OWN WORK. A symbolic executor for Go text over open terms, part J: code, and a function's contract.
-/
import Derived.Test.YtgdjfclpncpnpaaSymI
namespace Go.Proofs.Ytgdjfclpncpnpaa.Sym
open Go Go.RowKit

inductive AExit where
  | normal
  | exit (id : Nat)
  | ret
def AExit.real : AExit → Exit
  | .normal => .normal
  | .exit id => .exit id
  | .ret => .ret

inductive Out where
  | leaf (e : AExit) (s : St)
  | ite (b : Bool) (x y : Out)
  | side (ps : List Prop) (x : Out)
  | fail

def Out.sat (Q : AExit → St → Prop) : Out → Prop
  | .leaf e s => Q e s
  | .ite b x y => (b = true → x.sat Q) ∧ (b = false → y.sat Q)
  | .side ps x => allP ps ∧ x.sat Q
  | .fail => False

/-! ### code that only reckons: both ways of a test in one state -/
def storesIn (ops : Array Oper) : Bool := ops.any fun o => makes o || (match o.op with | .store _ _ _ => true | _ => false)

def mergeSV (b : Bool) : SV → SV → SV
  | .k u, .k v => match u, v with
    | .int k p, .int k' q => if k = k' ∧ p = q then .k (.int k p) else .v (mergeN 3 b (.int k p) (.int k' q))
    | u, v => .v (mergeN 3 b u v)
  | .k u, .v v => .v (mergeN 3 b u v)
  | .v u, .k v => .v (mergeN 3 b u v)
  | .v u, .v v => .v (mergeN 3 b u v)
  | .loc n o, .loc n' o' => if n = n' ∧ o = o' then .loc n o else .junk
  | _, _ => .junk

def writesOf : Code → List Nat
  | .region _ ops _ => ops.toList.filterMap (·.dst)
  | .seq a b => writesOf a ++ writesOf b
  | .cond _ a b => writesOf a ++ writesOf b
  | _ => []

def mergeSlots (b : Bool) (m : Nat) : Nat → List SV → List SV → List SV
  | i, x :: xs, y :: ys => (if m.testBit i then mergeSV b x y else y) :: mergeSlots b m (i + 1) xs ys
  | _, _, _ => []

/-- A test of which both ways only reckon: no store, no way out. -/
def asim (P : Program) (tb : Nat → List Value → Option (Value × List Prop)) : Code → St → Option (St × List Prop)
  | .skip, s => some (s, [])
  | .region _ ops draw, s => if storesIn ops then none else regRun P tb ops draw s
  | .seq a b, s => match asim P tb a s with
    | some (s1, p1) => match asim P tb b s1 with
      | some (s2, p2) => some (s2, p1 ++ p2)
      | none => none
    | none => none
  | .cond c a b, s => match evS s.slots [] c with
    | .v (.bool q) => match asim P tb a s, asim P tb b s with
      | some (s1, p1), some (s0, p0) =>
        if s1.slots.length = s0.slots.length then
          some ({ slots := mergeSlots q (maskOf (writesOf a ++ writesOf b)) 0 s1.slots s0.slots, heap := s.heap }, (match p1 with | [] => [] | ps => [q = true → allP ps]) ++ (match p0 with | [] => [] | ps => [q = false → allP ps]))
        else none
      | _, _ => none
    | _ => none
  | _, _ => none

def loopN (step : (St → Out) → St → Out) : Nat → St → Out
  | 0, _ => .fail
  | n + 1, s => step (loopN step n) s

def sideOf (ps : List Prop) (o : Out) : Out :=
  match ps with
  | [] => o
  | ps => .side ps o

def aexec (P : Program) (tb : Nat → List Value → Option (Value × List Prop)) (fuel : Nat) : Code → (AExit → St → Out) → St → Out
  | .skip, k, s => k .normal s
  | .region _ ops draw, k, s => match regRun P tb ops draw s with
    | some (s', ps) => sideOf ps (k .normal s')
    | none => .fail
  | .seq a b, k, s => aexec P tb fuel a (fun e s => match e with | .normal => aexec P tb fuel b k s | .exit id => k (.exit id) s | .ret => k .ret s) s
  | .cond c a b, k, s => match evS s.slots [] c with
    | .k (.bool q) => bif q then aexec P tb fuel a k s else aexec P tb fuel b k s
    | .v (.bool q) => match asim P tb (.cond c a b) s with
      | some (s', ps) => sideOf ps (k .normal s')
      | none => .ite q (aexec P tb fuel a k s) (aexec P tb fuel b k s)
    | _ => .fail
  | .block id c, k, s => aexec P tb fuel c (fun e s => match e with | .exit id' => if id' = id then k .normal s else k (.exit id') s | .normal => k .normal s | .ret => k .ret s) s
  | .loop c, k, s => loopN (fun self s => aexec P tb fuel c (fun e s => match e with | .normal => self s | .exit id => k (.exit id) s | .ret => k .ret s) s) fuel s
  | .exit id, k, s => k (.exit id) s
  | .ret, k, s => k .ret s
  | _, _, _ => .fail

/-! ### soundness -/
section
variable {P : Program} {tb : Nat → List Value → Option (Value × List Prop)} {w0 : World}

theorem sideOf_sat {Q : AExit → St → Prop} {ps : List Prop} {o : Out} (h : (sideOf ps o).sat Q) : allP ps ∧ o.sat Q := by
  unfold sideOf at h
  split at h
  · exact ⟨trivial, h⟩
  · exact h

theorem mergeSlots_at {b : Bool} {m : Nat} : ∀ (xs ys : List SV) (i : Nat), xs.length = ys.length → ∀ j, (mergeSlots b m i xs ys).getD j .junk = if m.testBit (i + j) ∧ j < ys.length then mergeSV b (xs.getD j .junk) (ys.getD j .junk) else ys.getD j .junk
  | [], [], _, _, j => by simp [mergeSlots]
  | [], _ :: _, _, h, _ => by simp at h
  | _ :: _, [], _, h, _ => by simp at h
  | x :: xs, y :: ys, i, h, j => by
    cases j with
    | zero =>
      simp only [mergeSlots, List.getD_cons_zero, Nat.add_zero, List.length_cons, Nat.zero_lt_succ, and_true]
    | succ j =>
      have := mergeSlots_at (b := b) (m := m) xs ys (i + 1) (by simpa using h) j
      simp only [mergeSlots, List.getD_cons_succ, List.length_cons, Nat.add_lt_add_iff_right]
      rw [this, show i + 1 + j = i + (j + 1) by omega]

theorem mergeSlots_length {b : Bool} {m : Nat} : ∀ (xs ys : List SV) (i : Nat), xs.length = ys.length → (mergeSlots b m i xs ys).length = ys.length
  | [], [], _, _ => rfl
  | [], _ :: _, _, h => by simp at h
  | _ :: _, [], _, h => by simp at h
  | x :: xs, y :: ys, i, h => by simp only [mergeSlots, List.length_cons]; rw [mergeSlots_length xs ys (i + 1) (by simpa using h)]

theorem mergeSV_noG (b : Bool) (x y : SV) : isG (mergeSV b x y) = false := by
  unfold mergeSV
  split
  · split
    · split <;> rfl
    · rfl
  all_goals first | rfl | (split <;> rfl)

theorem mergeSV_left {β : Nat → Nat} {l l' : List SV} {x y : SV} {u : Value} (h : Den β l x u) : Den β l' (mergeSV true x y) u := by
  unfold mergeSV
  split
  · rename_i p q
    split
    · split
      · exact h
      · show u = _; rw [mergeN_true]; exact h
    · show u = _; rw [mergeN_true]; exact h
  · show u = _; rw [mergeN_true]; exact h
  · show u = _; rw [mergeN_true]; exact h
  · show u = _; rw [mergeN_true]; exact h
  · split
    · exact h
    · trivial
  · trivial

theorem mergeSV_right {β : Nat → Nat} {l l' : List SV} {x y : SV} {u : Value} (h : Den β l y u) : Den β l' (mergeSV false x y) u := by
  unfold mergeSV
  split
  · rename_i p q
    split
    · split
      · rename_i e; obtain ⟨rfl, rfl⟩ := e; exact h
      · show u = _; rw [mergeN_false]; exact h
    · show u = _; rw [mergeN_false]; exact h
  · show u = _; rw [mergeN_false]; exact h
  · show u = _; rw [mergeN_false]; exact h
  · show u = _; rw [mergeN_false]; exact h
  · split
    · rename_i e; obtain ⟨rfl, rfl⟩ := e; exact h
    · trivial
  · trivial

theorem mergeSV_names {b : Bool} {x y : SV} {n : Nat} (h : n ∈ names (mergeSV b x y)) : n ∈ names x := by
  unfold mergeSV at h
  split at h
  · split at h
    · split at h <;> simp [names] at h
    · simp [names] at h
  all_goals first | (simp [names] at h; done) | (split at h <;> first | exact h | (simp [names] at h; done))

/-- what a region leaves alone -/
theorem lexRun_frame {ops : Array Oper} {base : Nat} : ∀ (l : List Oper) (k : Nat) (s s' : St) (ps : List Prop) (ts : List Tch), lexRun P tb ops base k l s = some (s', ps, ts) →
    s'.slots.length = s.slots.length ∧ ∀ i, i ∉ l.filterMap (·.dst) → s'.slots.getD i .junk = s.slots.getD i .junk
  | [], k, s, s', ps, ts, h => by
    simp only [lexRun, Option.some.injEq, Prod.mk.injEq] at h
    obtain ⟨rfl, _, _⟩ := h
    exact ⟨rfl, fun _ _ => rfl⟩
  | o :: l, k, s, s', ps, ts, h => by
    simp only [lexRun] at h
    split at h
    · cases h
    · split at h
      · cases h
      · rename_i r _
        split at h
        · rename_i s2 ps2 ts2 h2
          simp only [Option.some.injEq, Prod.mk.injEq] at h
          obtain ⟨rfl, _, _⟩ := h
          obtain ⟨h3, h4⟩ := lexRun_frame l _ _ _ _ _ h2
          have hl : (s.put o.dst r).slots.length = s.slots.length := by unfold St.put; cases o.dst <;> simp
          refine ⟨h3.trans hl, fun i hi => ?_⟩
          rw [h4 i (fun z => hi (by
            rw [List.filterMap_cons]; split
            · exact z
            · exact List.mem_cons_of_mem _ z))]
          unfold St.put
          cases hd : o.dst with
          | none => rfl
          | some d =>
            have : d ≠ i := fun e => hi (by rw [List.filterMap_cons, hd, e]; simp)
            dsimp only
            rw [getD_set', if_neg (fun z => this z.1)]
        · cases h

theorem clean_at (s : St) (i : Nat) : (clean s).slots.getD i .junk = if isG (s.slots.getD i .junk) then .junk else s.slots.getD i .junk := by
  simp only [clean, List.getD_eq_getElem?_getD, List.getElem?_map]
  cases s.slots[i]? <;> rfl

theorem regRun_frame {ops : Array Oper} {draw : Bool} {s s' : St} {ps : List Prop} (ng : NoG s) (h : regRun P tb ops draw s = some (s', ps)) :
    s'.slots.length = s.slots.length ∧ ∀ i, i ∉ ops.toList.filterMap (·.dst) → s'.slots.getD i .junk = s.slots.getD i .junk := by
  unfold regRun at h
  split at h
  · split at h
    · rename_i s2 ps2 ts2 hrun
      split at h
      · simp only [Option.some.injEq, Prod.mk.injEq] at h
        obtain ⟨rfl, _⟩ := h
        obtain ⟨h1, h2⟩ := lexRun_frame _ _ _ _ _ _ hrun
        refine ⟨by simp only [clean, List.length_map]; exact h1, fun i hi => ?_⟩
        rw [clean_at, h2 i hi, if_neg (by rw [ng.at_ i]; simp)]
      · cases h
    · cases h
  · cases h

theorem asim_frame : ∀ (c : Code) (s s' : St) (ps : List Prop), NoG s → asim P tb c s = some (s', ps) → NoG s' ∧ s'.slots.length = s.slots.length ∧ ∀ i, i ∉ writesOf c → s'.slots.getD i .junk = s.slots.getD i .junk := by
  intro c
  induction c with
  | skip => intro s s' ps ng h; simp only [asim, Option.some.injEq, Prod.mk.injEq] at h; obtain ⟨rfl, _⟩ := h; exact ⟨ng, rfl, fun _ _ => rfl⟩
  | region id ops draw =>
    intro s s' ps ng h
    simp only [asim] at h
    split at h
    · cases h
    · have := regRun_frame ng h
      refine ⟨?_, this⟩
      unfold regRun at h
      split at h
      · split at h
        · split at h
          · simp only [Option.some.injEq, Prod.mk.injEq] at h
            obtain ⟨rfl, _⟩ := h
            exact clean_noG _
          · cases h
        · cases h
      · cases h
  | seq a b iha ihb =>
    intro s s' ps ng h
    simp only [asim] at h
    split at h
    · rename_i s1 p1 h1
      split at h
      · rename_i s2 p2 h2
        simp only [Option.some.injEq, Prod.mk.injEq] at h
        obtain ⟨rfl, _⟩ := h
        obtain ⟨n1, l1, f1⟩ := iha _ _ _ ng h1
        obtain ⟨n2, l2, f2⟩ := ihb _ _ _ n1 h2
        exact ⟨n2, l2.trans l1, fun i hi => by simp only [writesOf, List.mem_append, not_or] at hi; rw [f2 i hi.2, f1 i hi.1]⟩
      · cases h
    · cases h
  | cond c a b iha ihb =>
    intro s s' ps ng h
    simp only [asim] at h
    split at h
    · rename_i q hq
      split at h
      · rename_i s1 p1 s0 p0 h1 h0
        split at h
        · rename_i hlen
          simp only [Option.some.injEq, Prod.mk.injEq] at h
          obtain ⟨rfl, _⟩ := h
          obtain ⟨n1, l1, f1⟩ := iha _ _ _ ng h1
          obtain ⟨n0, l0, f0⟩ := ihb _ _ _ ng h0
          have hat := fun q => mergeSlots_at (b := q) (m := maskOf (writesOf a ++ writesOf b)) s1.slots s0.slots 0 hlen
          refine ⟨fun x hx => ?_, (mergeSlots_length _ _ 0 hlen).trans l0, fun i hi => ?_⟩
          · obtain ⟨j, hj⟩ := List.getElem?_of_mem hx
            have e := hat q j
            rw [List.getD_eq_getElem?_getD, hj, Option.getD_some] at e
            rw [e]
            split
            · exact mergeSV_noG _ _ _
            · exact n0.at_ j
          · dsimp only
            rw [hat q i, if_neg]
            · exact f0 i fun z => hi (by simp only [writesOf, List.mem_append]; exact .inr z)
            · rintro ⟨hb, _⟩
              rw [Nat.zero_add] at hb
              exact hi (by simp only [writesOf]; exact maskOf_bit hb)
        · cases h
      · cases h
    · cases h
  | _ => intro s s' ps ng h; simp [asim] at h

theorem asim_heap : ∀ (c : Code) (s s' : St) (ps : List Prop), asim P tb c s = some (s', ps) → s'.heap = s.heap := by
  have reg : ∀ (ops : Array Oper) (base : Nat) (l : List Oper) (k : Nat) (s s' : St) (ps : List Prop) (ts : List Tch), (∀ o ∈ l, makes o = false ∧ ∀ t x y, o.op ≠ .store t x y) → lexRun P tb ops base k l s = some (s', ps, ts) → s'.heap = s.heap := by
    intro ops base l
    induction l with
    | nil => intro k s s' ps ts _ h; simp only [lexRun, Option.some.injEq, Prod.mk.injEq] at h; rw [← h.1]
    | cons o l ih =>
      intro k s s' ps ts hl h
      simp only [lexRun] at h
      split at h
      · cases h
      · rename_i cs hcs
        split at h
        · cases h
        · rename_i r hr
          split at h
          · rename_i s2 ps2 ts2 h2
            simp only [Option.some.injEq, Prod.mk.injEq] at h
            obtain ⟨rfl, _, _⟩ := h
            rw [ih _ _ _ _ _ (fun o ho => hl o (by simp [ho])) h2]
            obtain ⟨_, hu⟩ := core_upd hr
            have ht : (touchOf (evS s.slots cs) (base + k) o).2 = [] := by
              obtain ⟨h1, h3⟩ := hl o (by simp)
              unfold touchOf
              split
              · rfl
              · rename_i t x y ho; exact (h3 t x y ho).elim
              · rename_i t ho; simp [makes, ho] at h1
              · rename_i t x ho; simp [makes, ho] at h1
              · rename_i t n ps ho; simp [makes, ho] at h1
              · rfl
            unfold St.put
            cases hru : r.upd with
            | none => rfl
            | some x =>
              obtain ⟨n, c⟩ := x
              have := hu n c hru
              rw [ht] at this; cases this
          · cases h
  intro c
  induction c with
  | skip => intro s s' ps h; simp only [asim, Option.some.injEq, Prod.mk.injEq] at h; rw [← h.1]
  | region id ops draw =>
    intro s s' ps h
    simp only [asim] at h
    split at h
    · cases h
    · rename_i hst
      have hno : ∀ o ∈ ops, makes o = false ∧ ∀ t x y, o.op ≠ .store t x y := fun o ho => by
        have hst' : storesIn ops = false := by simpa using hst
        unfold storesIn at hst'
        have := (Array.any_eq_false'.1 hst') o ho
        simp only [Bool.or_eq_true, not_or, Bool.not_eq_true] at this
        refine ⟨this.1, fun t x y e => ?_⟩
        have h2 := this.2
        rw [e] at h2; cases h2
      unfold regRun at h
      split at h
      · split at h
        · rename_i s2 ps2 ts2 hrun
          split at h
          · simp only [Option.some.injEq, Prod.mk.injEq] at h
            obtain ⟨rfl, _⟩ := h
            have := reg _ _ _ _ _ _ _ _ (fun o ho => hno o (Array.mem_toList_iff.1 ho)) hrun
            simp only [clean]
            rw [this]
            have hp : padOf ops = 0 := by
              unfold padOf
              rw [if_neg]
              intro hany
              obtain ⟨o, ho, hm⟩ := Array.any_eq_true'.1 hany
              rw [(hno o ho).1] at hm; cases hm
            rw [hp]; simp
          · cases h
        · cases h
      · cases h
  | seq a b iha ihb =>
    intro s s' ps h
    simp only [asim] at h
    split at h
    · rename_i s1 p1 h1
      split at h
      · rename_i s2 p2 h2
        simp only [Option.some.injEq, Prod.mk.injEq] at h
        obtain ⟨rfl, _⟩ := h
        rw [ihb _ _ _ h2, iha _ _ _ h1]
      · cases h
    · cases h
  | cond c a b iha ihb =>
    intro s s' ps h
    simp only [asim] at h
    split at h
    · split at h
      · split at h
        · simp only [Option.some.injEq, Prod.mk.injEq] at h
          rw [← h.1]
        · cases h
      · cases h
    · cases h
  | _ => intro s s' ps h; simp [asim] at h

theorem cond_bool {c : Operand} {w : World} {β : Nat → Nat} {s : St} {a : Act} {q : Bool} (m : M w0 β s a w) (h : evS s.slots [] c = .k (.bool q) ∨ evS s.slots [] c = .v (.bool q)) : a.eval c = .bool q := by
  have hd := Den_eval (cs := []) m (fun c hc => by cases hc) c
  rcases h with h | h <;> rw [h] at hd <;> exact hd

theorem asim_sound (ht : TbOk P tb) (hm : P.follows .mixedOrders = true) : ∀ (c : Code) (s s' : St) (ps : List Prop) (Q : Exit → Act → World → Prop) (a : Act) (w : World) (β : Nat → Nat), M w0 β s a w → NoG s → asim P tb c s = some (s', ps) → allP ps →
    (∀ β a w, M w0 β s' a w → Q .normal a w) → c.wp P Q a w := by
  intro c
  induction c with
  | skip => intro s s' ps Q a w β m ng h hs hQ; simp only [asim, Option.some.injEq, Prod.mk.injEq] at h; obtain ⟨rfl, _⟩ := h; exact wp_skip (hQ β a w m)
  | region id ops draw =>
    intro s s' ps Q a w β m ng h hs hQ
    simp only [asim] at h
    split at h
    · cases h
    · exact region_sound ht hm m ng h hs fun β a w m' _ => hQ β a w m'
  | seq x y ihx ihy =>
    intro s s' ps Q a w β m ng h hs hQ
    have hfr := asim_frame (P := P) (tb := tb) x s
    simp only [asim] at h
    split at h
    · rename_i s1 p1 h1
      split at h
      · rename_i s2 p2 h2
        simp only [Option.some.injEq, Prod.mk.injEq] at h
        obtain ⟨rfl, rfl⟩ := h
        rw [allP_append] at hs
        exact wp_seq (ihx _ _ _ _ a w β m ng h1 hs.1 fun β a w m' => ihy _ _ _ _ a w β m' (hfr _ _ ng h1).1 h2 hs.2 hQ)
      · cases h
    · cases h
  | cond c x y ihx ihy =>
    intro s s' ps Q a w β m ng h hs hQ
    have hfx := asim_frame (P := P) (tb := tb) x s
    have hfy := asim_frame (P := P) (tb := tb) y s
    have hhx := asim_heap (P := P) (tb := tb) x s
    have hhy := asim_heap (P := P) (tb := tb) y s
    simp only [asim] at h
    split at h
    · rename_i q hq
      have hb := cond_bool m (.inr hq)
      split at h
      · rename_i s1 p1 s0 p0 h1 h0
        split at h
        · rename_i hlen
          simp only [Option.some.injEq, Prod.mk.injEq] at h
          obtain ⟨rfl, rfl⟩ := h
          rw [allP_append] at hs
          obtain ⟨n1, l1, f1⟩ := hfx _ _ ng h1
          obtain ⟨n0, l0, f0⟩ := hfy _ _ ng h0
          have hat := mergeSlots_at (b := q) (m := maskOf (writesOf x ++ writesOf y)) s1.slots s0.slots 0 hlen
          have hout : ∀ i, ¬ ((maskOf (writesOf x ++ writesOf y)).testBit (0 + i) ∧ i < s0.slots.length) → s1.slots.getD i .junk = s0.slots.getD i .junk := by
            intro i hi
            by_cases hlt : i < s0.slots.length
            · have hnot : i ∉ writesOf x ++ writesOf y := fun z => hi ⟨by rw [Nat.zero_add]; exact maskOf_mem z, hlt⟩
              simp only [List.mem_append, not_or] at hnot
              rw [f1 i hnot.1, f0 i hnot.2]
            · simp only [List.getD_eq_getElem?_getD]
              rw [List.getElem?_eq_none (by omega), List.getElem?_eq_none (by omega)]
          -- a state of one way is a state of both
          have key : ∀ (s2 : St), s2.heap = s.heap → s2.slots.length = s0.slots.length → NoG s2 → (∀ i u (β : Nat → Nat), Den β s2.slots (s2.slots.getD i .junk) u → Den β s2.slots ((mergeSlots q (maskOf (writesOf x ++ writesOf y)) 0 s1.slots s0.slots).getD i .junk) u) →
              (∀ i n, n ∈ names ((mergeSlots q (maskOf (writesOf x ++ writesOf y)) 0 s1.slots s0.slots).getD i .junk) → ∃ c, s.heap.getD n none = some c) →
              ∀ β a w, M w0 β s2 a w → M w0 β { slots := mergeSlots q (maskOf (writesOf x ++ writesOf y)) 0 s1.slots s0.slots, heap := s.heap } a w := by
            intro s2 hh hl hn hden hnm β a w m2
            refine { defers := m2.defers, size := by rw [m2.size, hl, mergeSlots_length _ _ 0 hlen], slot := fun i u hu => ?_, locs := fun i n hi => hnm i n hi, mem := hh ▸ m2.mem }
            have h3 := hden i u β (m2.slot i u hu)
            refine Den_congr (fun _ _ => rfl) (fun c hc => ?_) h3
            have : isG ((mergeSlots q (maskOf (writesOf x ++ writesOf y)) 0 s1.slots s0.slots).getD i .junk) = false := by
              rw [hat i]
              split
              · exact mergeSV_noG _ _ _
              · exact n0.at_ i
            rw [isG_conds this] at hc; cases hc
          have nm1 : ∀ i n, n ∈ names (s1.slots.getD i .junk) → (∀ β a w, M w0 β s1 a w → ∃ c, s.heap.getD n none = some c) := fun i n hn β a w m1 => by
            obtain ⟨c, hc⟩ := m1.locs i n hn
            exact ⟨c, by rw [← hhx _ _ h1]; exact hc⟩
          have nm0 : ∀ i n, n ∈ names (s0.slots.getD i .junk) → (∀ β a w, M w0 β s0 a w → ∃ c, s.heap.getD n none = some c) := fun i n hn β a w m1 => by
            obtain ⟨c, hc⟩ := m1.locs i n hn
            exact ⟨c, by rw [← hhy _ _ h0]; exact hc⟩
          cases q with
          | true =>
            refine wp_cond_true hb (ihx _ _ _ _ a w β m ng h1 ?_ fun β a w m1 => hQ β a w (key s1 (hhx _ _ h1) hlen n1 (fun i u β hd => ?_) (fun i n hn => ?_) β a w m1))
            · have := hs.1
              cases p1 with
              | nil => trivial
              | cons p ps => exact this.1 rfl
            · rw [hat i]
              split
              · exact mergeSV_left hd
              · rename_i hno; rw [← hout i hno]; exact hd
            · rw [hat i] at hn
              split at hn
              · exact nm1 i n (mergeSV_names hn) β a w m1
              · rename_i hno; rw [← hout i hno] at hn; exact nm1 i n hn β a w m1
          | false =>
            refine wp_cond_false hb (ihy _ _ _ _ a w β m ng h0 ?_ fun β a w m1 => hQ β a w (key s0 (hhy _ _ h0) rfl n0 (fun i u β hd => ?_) (fun i n hn => ?_) β a w m1))
            · have := hs.2
              cases p0 with
              | nil => trivial
              | cons p ps => exact this.1 rfl
            · rw [hat i]
              split
              · exact mergeSV_right hd
              · exact hd
            · rw [hat i] at hn
              split at hn
              · have : n ∈ names (s0.slots.getD i .junk) := by
                  revert hn
                  generalize s1.slots.getD i .junk = x1
                  generalize s0.slots.getD i .junk = y1
                  intro hn
                  unfold mergeSV at hn
                  split at hn
                  · split at hn
                    · split at hn <;> simp [names] at hn
                    · simp [names] at hn
                  · simp [names] at hn
                  · simp [names] at hn
                  · simp [names] at hn
                  · split at hn
                    · rename_i e; obtain ⟨rfl, rfl⟩ := e; exact hn
                    · simp [names] at hn
                  · simp [names] at hn
                exact nm0 i n this β a w m1
              · exact nm0 i n hn β a w m1
        · cases h
      · cases h
    · cases h
  | _ => intro s s' ps Q a w β m ng h; simp [asim] at h
end
end Go.Proofs.Ytgdjfclpncpnpaa.Sym
