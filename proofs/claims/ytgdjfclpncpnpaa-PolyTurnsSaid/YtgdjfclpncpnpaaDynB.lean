/-
  OWN WORK. A second symbolic executor, part B: states, memory, what they stand for.
-/
import Derived.Test.YtgdjfclpncpnpaaDynA
namespace Go.Proofs.Ytgdjfclpncpnpaa.Dyn
open Go Go.RowKit Sym

/-- k: a value that is closed, as it is; v: a value whose addresses bear names; ix: into an array of the call's own; ex: into a row's element; hp: into what an address shows; g: there if the guards hold. -/
inductive SV where
  | k (x : Value)
  | v (x : Value)
  | ix (n off : Nat) (i : Int) (len size : Nat)
  | ex (n j off size : Nat) (i : Int)
  | hp (n j off : Nat)
  | g (cs : List (Nat × Bool)) (x : SV)
  | junk

def boolAt (l : List SV) (t : Nat) : Option Bool :=
  match l[t]? with
  | some (.k (.bool b)) => some b
  | some (.v (.bool b)) => some b
  | some (.g _ (.k (.bool b))) => some b
  | some (.g _ (.v (.bool b))) => some b
  | _ => none
def holds (l : List SV) (cs : List (Nat × Bool)) : Prop := ∀ c ∈ cs, boolAt l c.1 = some c.2

def Den (β : Env) (l : List SV) : SV → Value → Prop
  | .k x, u => u = x
  | .v x, u => u = ren β x
  | .ix n off i len size, u => u = .pointer (some ⟨(β n).1, off + i.toNat * size, none⟩) ∧ 0 ≤ i ∧ i < len
  | .ex n j off size i, u => ∃ b o len cap, (β n).2 j = .slice (some ⟨b, o, none⟩) len cap ∧ u = .pointer (some ⟨b, o + i.toNat * size + off, none⟩) ∧ 0 ≤ i ∧ i < len
  | .hp n j off, u => ∃ b o, (β n).2 j = .pointer (some ⟨b, o, none⟩) ∧ u = .pointer (some ⟨b, o + off, none⟩)
  | .g cs x, u => (holds l cs → Den β l x u) ∧ (¬ holds l cs → u = undef)
  | .junk, _ => True

def resolve (cs : List (Nat × Bool)) : SV → SV
  | .g cs' x => if cs'.all (fun c => cs.contains c) then x else .junk
  | s => s
theorem Den_resolve {β : Env} {l : List SV} {cs : List (Nat × Bool)} (hc : holds l cs) {s : SV} {u : Value} (h : Den β l s u) : Den β l (resolve cs s) u := by
  cases s with
  | g cs' x =>
    simp only [resolve]
    split
    · rename_i ha
      refine h.1 fun c hcm => hc c ?_
      have := List.all_eq_true.1 ha c hcm
      simpa using this
    · trivial
  | _ => exact h
def evS (l : List SV) (cs : List (Nat × Bool)) : Operand → SV
  | .tmp t => resolve cs (l.getD t .junk)
  | .const v => .k v
  | .global g => .k (.pointer (some ⟨g, 0, none⟩))
  | .func f => .k (.func (.func f) #[] #[])

/-- a value without addresses -/
def plain : SV → Option Value
  | .k x => some x
  | .v x => if flat x then some x else none
  | _ => none
/-- a value whose addresses bear names -/
def named : SV → Option Value
  | .k x => if flat x then some x else none
  | .v x => some x
  | _ => none
def plainD (s : SV) : Value := (plain s).getD undef
def closed : SV → Bool
  | .k _ => true
  | _ => false
def plains (ev : Operand → SV) : List Operand → Option (List Value)
  | [] => some []
  | x :: xs => match plain (ev x), plains ev xs with
    | some v, some vs => some (v :: vs)
    | _, _ => none
def nameds (ev : Operand → SV) : List Operand → Option (List Value)
  | [] => some []
  | x :: xs => match named (ev x), nameds ev xs with
    | some v, some vs => some (v :: vs)
    | _, _ => none

/-- what stands at a name: cells of the call's own; cells that the call only reads; a slice of the call's own; nothing any more -/
inductive HE where
  | cells (t : TypeId) (cs : List Value)
  | deep (ds : List DC)
  | own (t : TypeId) (n : Nat) (f : Nat → List DC)
  | gone

structure Res where
  val : SV
  upd : List (Nat × HE)
  sides : List Prop

/-- fix: slots of arguments that nobody has written, each with the number of the lent block that it points into -/
structure St where
  slots : List SV
  heap : List (Option HE)
  fix : List (Nat × Nat) := []

def names : SV → List Nat
  | .v x => refs x
  | .ix n _ _ _ _ => [n]
  | .ex n _ _ _ _ => [n]
  | .hp n _ _ => [n]
  | .g _ x => names x
  | _ => []
def condsOf : SV → List (Nat × Bool)
  | .g cs x => cs ++ condsOf x
  | _ => []

/-! ### the world of a call -/
structure Base (P : Program) where
  w : World
  F : Nat → Prop
  lt : ∀ b, F b → b < w.heap.size
  /-- blocks that are lent: the call may write them -/
  bs : List Nat
  dis : ∀ b, b ∈ bs → ¬ F b
/-- a block that is lent -/
def Base.L {P : Program} (w0 : Base P) (b : Nat) : Prop := b ∈ w0.bs
/-- nothing that was there has changed, but for what is lent -/
structure BelowL {P : Program} (w0 : Base P) (w' : World) : Prop where
  os : w'.os = w0.w.os
  tape : w'.tape = w0.w.tape
  output : w'.output = w0.w.output
  size : w0.w.heap.size ≤ w'.heap.size
  block : ∀ k, k < w0.w.heap.size → ¬ w0.L k → w'.heap[k]? = w0.w.heap[k]?
theorem BelowL.trans {P : Program} {w0 : Base P} {a b : World} (h : BelowL w0 a) (k : Below w0.w.heap.size a b) : BelowL w0 b :=
  ⟨k.os.trans h.os, k.tape.trans h.tape, k.output.trans h.output, Nat.le_trans h.size k.size, fun i hi hL => (k.block i hi).trans (h.block i hi hL)⟩
/-- a block of the call's own, or one that is lent -/
def OwnB {P : Program} (w0 : Base P) (b : Nat) : Prop := w0.w.heap.size ≤ b ∨ w0.L b
theorem Base.own_F {P : Program} (w0 : Base P) {b : Nat} (h : OwnB w0 b) (k : w0.F b) : False := by
  rcases h with h | h
  · have := w0.lt b k; omega
  · exact w0.dis b h k

/-- the block of the call's own that stands at a name -/
def blkOf : HE → Nat × (Nat → Value) → Option Nat
  | .cells _ _, e => some e.1
  | .own _ _ _, e => (e.2 0).ownBlock
  | _, _ => none

section
variable {P : Program}
/-- blocks that stay as they are -/
def NF (w0 : Base P) (β : Env) (h : List (Option HE)) (w : World) (b : Nat) : Prop :=
  w0.F b ∨ (w0.w.heap.size ≤ b ∧ b < w.heap.size ∧ ∀ n he, h.getD n none = some he → blkOf he (β n) ≠ some b)

def HeOk (w0 : Base P) (β : Env) (N : Nat → Prop) (w : World) (e : Nat × (Nat → Value)) : HE → Prop
  | .cells t cs => w.heap[e.1]? = some (.cells (cs.map (ren0 β)).toArray t (0, 0)) ∧ OwnB w0 e.1
  | .deep ds => ∀ j d, ds[j]? = some d → DenC w N d (e.2 j)
  | .own t n f => ∃ size xs, sizeO P t = some size ∧ 0 < size ∧ w.ownsRow w0.w.heap.size t size (e.2 0) n xs ∧ ∀ i, i < n → (f i).length = size ∧ ∀ j, j < size → ∃ v, xs[i * size + j]? = some v ∧ DenC w N ((f i).getD j default) v
  | .gone => True

structure Mem (w0 : Base P) (β : Env) (h : List (Option HE)) (w : World) : Prop where
  ok : ∀ n he, h.getD n none = some he → HeOk w0 β (NF w0 β h w) w (β n) he
  inj : ∀ n m c d b, h.getD n none = some c → h.getD m none = some d → blkOf c (β n) = some b → blkOf d (β m) = some b → n = m
  refs : ∀ n t cs, h.getD n none = some (.cells t cs) → ∀ v ∈ cs, ∀ m ∈ refs0 v, ∃ c, h.getD m none = some c
  one : ∀ n j, oneCellB ((β n).2 j) = true
  below : BelowL w0 w

structure M (w0 : Base P) (β : Env) (st : St) (a : Act) (w : World) : Prop where
  defers : a.defers = []
  size : a.tmps.size = st.slots.length
  slot : ∀ i u, a.tmps[i]? = some u → Den β st.slots (st.slots.getD i .junk) u
  locs : ∀ i n, n ∈ names (st.slots.getD i .junk) → ∃ c, st.heap.getD n none = some c
  mem : Mem w0 β st.heap w
  tie : ∀ p ∈ st.fix, ∃ b off, w0.bs[p.2]? = some b ∧ a.tmps[p.1]? = some (.pointer (some ⟨b, off, none⟩))

theorem holds_congr {l l' : List SV} {cs : List (Nat × Bool)} (h : ∀ c ∈ cs, boolAt l' c.1 = boolAt l c.1) : holds l' cs ↔ holds l cs :=
  ⟨fun k c hc => (h c hc) ▸ k c hc, fun k c hc => (h c hc).trans (k c hc)⟩

theorem Den_congr {β β' : Env} {l l' : List SV} : ∀ {s : SV} {u : Value}, (∀ n ∈ names s, β' n = β n) → (∀ c ∈ condsOf s, boolAt l' c.1 = boolAt l c.1) → Den β l s u → Den β' l' s u
  | .k _, _, _, _, h => h
  | .v x, _, hn, _, h => h.trans (ren_congr hn).symm
  | .ix n off i len size, u, hn, _, h => by have e := hn n (by simp [names]); simp only [Den] at *; rw [e]; exact h
  | .ex n j off size i, u, hn, _, h => by have e := hn n (by simp [names]); simp only [Den] at *; rw [e]; exact h
  | .hp n j off, u, hn, _, h => by have e := hn n (by simp [names]); simp only [Den] at *; rw [e]; exact h
  | .g cs x, u, hn, hc, h => by
    have e := holds_congr (l := l) (l' := l') (cs := cs) fun c hcm => hc c (by simp [condsOf, hcm])
    refine ⟨fun hh => Den_congr hn (fun c hcm => hc c (by simp [condsOf, hcm])) (h.1 (e.1 hh)), fun hh => h.2 fun k => hh (e.2 k)⟩
  | .junk, _, _, _, _ => trivial

/-- an operand's value is what its symbolic value stands for -/
theorem Den_eval {w0 : Base P} {w : World} {β : Env} {st : St} {a : Act} {cs : List (Nat × Bool)} (m : M w0 β st a w) (hc : holds st.slots cs) (x : Operand) : Den β st.slots (evS st.slots cs x) (a.eval x) := by
  cases x with
  | tmp t =>
    refine Den_resolve hc ?_
    cases h : a.tmps[t]? with
    | some u =>
      have e : a.eval (.tmp t) = u := by simp [Act.eval, h]
      rw [e]; exact m.slot t u h
    | none =>
      have hs : st.slots.length ≤ t := by rw [← m.size]; exact Array.getElem?_eq_none_iff.1 h
      have : st.slots.getD t .junk = .junk := by simp [List.getElem?_eq_none hs]
      rw [this]; trivial
  | const v => rfl
  | global g => rfl
  | func f => rfl

theorem plain_eval {β : Env} {l : List SV} {s : SV} {u v : Value} (h : Den β l s u) (hp : plain s = some v) : u = v := by
  cases s with
  | k x => simp only [plain, Option.some.injEq] at hp; subst hp; exact h
  | v x =>
    simp only [plain] at hp
    split at hp
    · rename_i hf
      simp only [Option.some.injEq] at hp; subst hp
      exact (show u = _ from h).trans (ren_flat hf)
    · cases hp
  | _ => cases hp
theorem named_eval {β : Env} {l : List SV} {s : SV} {u v : Value} (h : Den β l s u) (hp : named s = some v) : u = ren β v := by
  cases s with
  | k x =>
    simp only [named] at hp
    split at hp
    · rename_i hf
      simp only [Option.some.injEq] at hp; subst hp
      exact (show u = _ from h).trans (ren_flat hf).symm
    · cases hp
  | v x => simp only [named, Option.some.injEq] at hp; subst hp; exact h
  | _ => cases hp
theorem named_refs {s : SV} {v : Value} (hp : named s = some v) {n : Nat} (h : n ∈ refs v) : n ∈ names s := by
  cases s with
  | k x =>
    simp only [named] at hp
    split at hp
    · rename_i hf
      simp only [Option.some.injEq] at hp; subst hp
      rw [refs_flat hf] at h; cases h
    · cases hp
  | v x => simp only [named, Option.some.injEq] at hp; subst hp; exact h
  | _ => cases hp

theorem names_resolve {cs : List (Nat × Bool)} {s : SV} {n : Nat} (h : n ∈ names (resolve cs s)) : n ∈ names s := by
  cases s with
  | g cs' x =>
    simp only [resolve] at h
    split at h
    · exact h
    · simp [names] at h
  | _ => exact h

theorem names_ev {w0 : Base P} {w : World} {β : Env} {st : St} {a : Act} {cs : List (Nat × Bool)} (m : M w0 β st a w) {x : Operand} {n : Nat} (h : n ∈ names (evS st.slots cs x)) : ∃ c, st.heap.getD n none = some c := by
  cases x with
  | tmp t => exact m.locs t n (names_resolve h)
  | const v => simp [evS, names] at h
  | global g => simp [evS, names] at h
  | func f => simp [evS, names] at h

/-! ### how memory goes on -/
def heapSet (h : List (Option HE)) : List (Nat × HE) → List (Option HE)
  | [] => h
  | (n, c) :: l => heapSet (h.set n (some c)) l

theorem Mem.lt {w0 : Base P} {β : Env} {h : List (Option HE)} {w : World} (m : Mem w0 β h w) {n b : Nat} {he : HE} (hn : h.getD n none = some he) (hb : blkOf he (β n) = some b) : OwnB w0 b ∧ b < w.heap.size := by
  have hk := m.ok n he hn
  cases he with
  | cells t cs =>
    simp only [blkOf, Option.some.injEq] at hb; subst hb
    refine ⟨hk.2, ?_⟩
    rcases Nat.lt_or_ge (β n).1 w.heap.size with hl | hl
    · exact hl
    · have := hk.1; rw [Array.getElem?_eq_none hl] at this; cases this
  | own t k f =>
    obtain ⟨size, xs, _, _, ho, _⟩ := hk
    have := ho.lt b hb
    exact ⟨.inl this.1, this.2⟩
  | deep ds => cases hb
  | gone => cases hb
theorem Mem.ownlt {w0 : Base P} {β : Env} {h : List (Option HE)} {w : World} (m : Mem w0 β h w) {n b : Nat} {t : TypeId} {k : Nat} {f : Nat → List DC} (hn : h.getD n none = some (.own t k f)) (hb : ((β n).2 0).ownBlock = some b) : w0.w.heap.size ≤ b ∧ b < w.heap.size := by
  obtain ⟨size, xs, _, _, ho, _⟩ := m.ok n _ hn
  exact ho.lt b hb
theorem NF_lt {w0 : Base P} {β : Env} {h : List (Option HE)} {w : World} (hb : BelowL w0 w) {b : Nat} (k : NF w0 β h w b) : b < w.heap.size := by
  rcases k with k | k
  · exact Nat.lt_of_lt_of_le (w0.lt b k) hb.size
  · exact k.2.1

theorem HeOk.mono {w0 : Base P} {β β' : Env} {N N' : Nat → Prop} {w w' : World} {e : Nat × (Nat → Value)} {he : HE} (hN : ∀ b, N b → N' b ∧ w'.heap[b]? = w.heap[b]?)
    (hb : ∀ b, blkOf he e = some b → w'.heap[b]? = w.heap[b]?) (hr : ∀ t cs, he = .cells t cs → ∀ v ∈ cs, ren0 β' v = ren0 β v) (hs : w.heap.size ≤ w'.heap.size) (k : HeOk w0 β N w e he) : HeOk w0 β' N' w' e he := by
  cases he with
  | cells t cs =>
    refine ⟨?_, k.2⟩
    rw [hb _ rfl, k.1, List.map_congr_left fun v hv => hr t cs rfl v hv]
  | deep ds => exact fun j d hd => (k j d hd).mono hN
  | own t n f =>
    obtain ⟨size, xs, h1, h2, h3, h4⟩ := k
    refine ⟨size, xs, h1, h2, ?_, fun i hi => ⟨(h4 i hi).1, fun j hj => ?_⟩⟩
    · refine ⟨h3.1, ?_⟩
      rcases h3.2 with hn | ⟨g, cap, cur, hv, hg, hc, rest⟩
      · exact .inl hn
      · exact .inr ⟨g, cap, cur, hv, hg, (hb g (by simp [blkOf, hv, Value.ownBlock])).trans hc, rest⟩
    · obtain ⟨v, hv, hd⟩ := (h4 i hi).2 j hj
      exact ⟨v, hv, hd.mono hN⟩
  | gone => trivial

/-- Memory goes on: some names are new. -/
theorem Mem.next {w0 : Base P} {β β' : Env} {h h' : List (Option HE)} {w w' : World} (m : Mem w0 β h w) (New : Nat → Prop)
    (hβ : ∀ n c, h.getD n none = some c → ¬ New n → β' n = β n)
    (hβr : ∀ n t cs, h'.getD n none = some (.cells t cs) → ¬ New n → ∀ v ∈ cs, ren0 β' v = ren0 β v)
    (hold : ∀ n he, h'.getD n none = some he → ¬ New n → h.getD n none = some he ∧ ∀ b, blkOf he (β n) = some b → w'.heap[b]? = w.heap[b]?)
    (hNF : ∀ b, NF w0 β h w b → NF w0 β' h' w' b ∧ w'.heap[b]? = w.heap[b]?)
    (hs : w.heap.size ≤ w'.heap.size)
    (hnew : ∀ n he, h'.getD n none = some he → New n → HeOk w0 β' (NF w0 β' h' w') w' (β' n) he)
    (hinj : ∀ n m c d b, h'.getD n none = some c → h'.getD m none = some d → blkOf c (β' n) = some b → blkOf d (β' m) = some b → New n → n = m)
    (hrefs : ∀ n t cs, h'.getD n none = some (.cells t cs) → ∀ v ∈ cs, ∀ m ∈ refs0 v, ∃ c, h'.getD m none = some c)
    (hone : ∀ n j, oneCellB ((β' n).2 j) = true) (hbelow : BelowL w0 w') : Mem w0 β' h' w' where
  ok n he hn := by
    by_cases hx : New n
    · exact hnew n he hn hx
    · obtain ⟨h1, h2⟩ := hold n he hn hx
      rw [hβ n he h1 hx]
      exact HeOk.mono hNF h2 (fun t cs e v hv => hβr n t cs (e ▸ hn) hx v hv) hs (m.ok n he h1)
  inj n k c d b hn hk hc hd := by
    by_cases hx : New n
    · exact hinj n k c d b hn hk hc hd hx
    · by_cases hy : New k
      · exact (hinj k n d c b hk hn hd hc hy).symm
      · have h1 := (hold n c hn hx).1; have h2 := (hold k d hk hy).1
        rw [hβ n c h1 hx] at hc; rw [hβ k d h2 hy] at hd
        exact m.inj n k c d b h1 h2 hc hd
  refs := hrefs
  one := hone
  below := hbelow

/-- A call changes nothing that was there. -/
theorem Mem.call {w0 : Base P} {β : Env} {h : List (Option HE)} {w w' : World} (m : Mem w0 β h w) (hb : Below w.heap.size w w') : Mem w0 β h w' :=
  m.next (fun _ => False) (fun _ _ _ _ => rfl) (fun _ _ _ _ _ _ _ => rfl) (fun n he hn _ => ⟨hn, fun b hx => hb.block b (m.lt hn hx).2⟩)
    (fun b hN => ⟨by rcases hN with k | k
                     · exact .inl k
                     · exact .inr ⟨k.1, Nat.lt_of_lt_of_le k.2.1 hb.size, k.2.2⟩, hb.block b (NF_lt m.below hN)⟩)
    hb.size (fun _ _ _ k => k.elim) (fun _ _ _ _ _ _ _ _ _ k => k.elim) m.refs m.one (m.below.trans (hb.mono m.below.size))

def bump (β : Env) (n : Nat) (e : Nat × (Nat → Value)) : Env := fun k => if k = n then e else β k
theorem bump_at (β : Env) (n : Nat) (e : Nat × (Nat → Value)) : bump β n e n = e := by simp [bump]
theorem bump_ne {β : Env} {n k : Nat} {e : Nat × (Nat → Value)} (h : k ≠ n) : bump β n e k = β k := by simp [bump, h]

/-- a fresh name changes nothing that bears names -/
theorem ren0_bump {w0 : Base P} {β : Env} {h : List (Option HE)} {w : World} (m : Mem w0 β h w) {n : Nat} (hn : h.getD n none = none) (e : Nat × (Nat → Value)) {k t cs} (hk : h.getD k none = some (.cells t cs)) {v : Value} (hv : v ∈ cs) : ren0 (bump β n e) v = ren0 β v :=
  ren0_congr fun q hq => bump_ne fun e' => by
    obtain ⟨c, hc⟩ := m.refs k t cs hk v hv q hq
    rw [e', hn] at hc; cases hc

theorem getD_set'' {n m : Nat} {h : List (Option HE)} {x : HE} : (h.set n (some x)).getD m none = if n = m ∧ n < h.length then some x else h.getD m none := getD_set' h n m (some x) none

/-- the world's memory with a block more -/
def push (w : World) (o : Obj) : World := { w with heap := w.heap.push o }
theorem push_old {w : World} {o : Obj} {k : Nat} (h : k < w.heap.size) : (push w o).heap[k]? = w.heap[k]? := by
  show (w.heap.push o)[k]? = _
  rw [Array.getElem?_push, if_neg (Nat.ne_of_lt h)]
theorem push_new {w : World} {o : Obj} : (push w o).heap[w.heap.size]? = some o := by
  show (w.heap.push o)[w.heap.size]? = _
  rw [Array.getElem?_push, if_pos rfl]
theorem push_below (w : World) (o : Obj) : Below w.heap.size w (push w o) := ⟨rfl, rfl, rfl, by show _ ≤ (w.heap.push o).size; rw [Array.size_push]; omega, fun k hk => push_old hk⟩

/-- a new name with what stands there: no other name's block is its block -/
theorem Mem.add {w0 : Base P} {β : Env} {h : List (Option HE)} {w w' : World} (m : Mem w0 β h w) {n : Nat} (hl : n < h.length) (hn : h.getD n none = none) (he : HE) (e : Nat × (Nat → Value)) (hb : Below w.heap.size w w')
    (hblk : ∀ b, blkOf he e = some b → w.heap.size ≤ b) (hone : ∀ j, oneCellB (e.2 j) = true) (hrefs : ∀ t cs, he = .cells t cs → ∀ v ∈ cs, ∀ k ∈ refs0 v, ∃ c, h.getD k none = some c)
    (hok : (∀ b, NF w0 β h w b → NF w0 (bump β n e) (h.set n (some he)) w' b ∧ w'.heap[b]? = w.heap[b]?) → HeOk w0 (bump β n e) (NF w0 (bump β n e) (h.set n (some he)) w') w' e he) : Mem w0 (bump β n e) (h.set n (some he)) w' := by
  have hat : ∀ k, k ≠ n → (h.set n (some he)).getD k none = h.getD k none := fun k hk => by rw [getD_set'', if_neg (fun z => hk z.1.symm)]
  have hatn : (h.set n (some he)).getD n none = some he := by rw [getD_set'', if_pos ⟨rfl, hl⟩]
  have hNF : ∀ b, NF w0 β h w b → NF w0 (bump β n e) (h.set n (some he)) w' b ∧ w'.heap[b]? = w.heap[b]? := fun b hN => by
    refine ⟨?_, hb.block b (NF_lt m.below hN)⟩
    rcases hN with k | ⟨k1, k2, k3⟩
    · exact .inl k
    · refine .inr ⟨k1, Nat.lt_of_lt_of_le k2 hb.size, fun q c hq hx => ?_⟩
      by_cases eq : q = n
      · subst eq
        rw [hatn] at hq; simp only [Option.some.injEq] at hq; subst hq
        rw [bump_at] at hx
        have := hblk b hx; omega
      · rw [hat q eq] at hq; rw [bump_ne eq] at hx
        exact k3 q c hq hx
  refine m.next (fun k => k = n) (fun k c hk hkn => bump_ne hkn) (fun k t cs hk hkn v hv => ?_) (fun k c hk hkn => ?_) hNF hb.size (fun k c hk hkn => ?_) (fun k q c d b hk hq hc hd hkn => ?_) (fun k t cs hk v hv q hq => ?_) (fun k j => ?_) (m.below.trans (hb.mono m.below.size))
  · rw [hat k hkn] at hk; exact ren0_bump m hn e hk hv
  · rw [hat k hkn] at hk; exact ⟨hk, fun b hx => hb.block b (m.lt hk hx).2⟩
  · subst hkn
    rw [hatn] at hk; simp only [Option.some.injEq] at hk; subst hk
    rw [bump_at]; exact hok hNF
  · subst hkn
    rw [hatn] at hk; simp only [Option.some.injEq] at hk; subst hk
    rw [bump_at] at hc
    by_cases e' : q = k
    · exact e'.symm
    · rw [hat q e'] at hq; rw [bump_ne e'] at hd
      have h1 := hblk b hc; have h2 := (m.lt hq hd).2
      omega
  · have key : ∃ c, h.getD q none = some c := by
      by_cases eq : k = n
      · subst eq
        rw [hatn] at hk; simp only [Option.some.injEq] at hk
        exact hrefs t cs hk v hv q hq
      · rw [hat k eq] at hk; exact m.refs k t cs hk v hv q hq
    obtain ⟨c, hc⟩ := key
    by_cases eq : q = n
    · subst eq; exact ⟨he, hatn⟩
    · exact ⟨c, (hat q eq).trans hc⟩
  · by_cases eq : k = n
    · subst eq; rw [bump_at]; exact hone j
    · rw [bump_ne eq]; exact m.one k j

/-- a new block of cells -/
theorem Mem.new {w0 : Base P} {β : Env} {h : List (Option HE)} {w : World} (m : Mem w0 β h w) {n : Nat} (hl : n < h.length) (hn : h.getD n none = none) (t : TypeId) (cs : List Value) (hr : ∀ v ∈ cs, ∀ k ∈ refs0 v, ∃ c, h.getD k none = some c) :
    Mem w0 (bump β n (w.heap.size, fun _ => .bool false)) (h.set n (some (.cells t cs))) (push w (.cells (cs.map (ren0 β)).toArray t)) := by
  refine m.add hl hn _ _ (push_below _ _) (fun b hb => by simp only [blkOf, Option.some.injEq] at hb; omega) (fun _ => rfl) (fun t' cs' e v hv k hk => by cases e; exact hr v hv k hk) (fun hN => ?_)
  refine ⟨?_, .inl m.below.size⟩
  rw [List.map_congr_left (f := ren0 (bump β n _)) (g := ren0 β) fun v hv => ren0_congr fun q hq => bump_ne fun e' => by
    obtain ⟨c, hc⟩ := hr v hv q hq
    rw [e', hn] at hc; cases hc]
  exact push_new

/-- cells that are only read -/
theorem Mem.view {w0 : Base P} {β : Env} {h : List (Option HE)} {w : World} (m : Mem w0 β h w) {n : Nat} (hl : n < h.length) (hn : h.getD n none = none) (ds : List DC) (r : Nat → Value) (hr : ∀ j, oneCellB (r j) = true) (hd : ∀ j d, ds[j]? = some d → DenC w (NF w0 β h w) d (r j)) :
    Mem w0 (bump β n (0, r)) (h.set n (some (.deep ds))) w :=
  m.add hl hn _ _ (Below.refl _ _) (fun b hb => by cases hb) hr (fun t cs e => by cases e) (fun hN j d hj => (hd j d hj).mono hN)

/-- a block's cells are others -/
theorem Mem.put {w0 : Base P} {β : Env} {h : List (Option HE)} {w : World} (m : Mem w0 β h w) {n : Nat} {t : TypeId} {cs : List Value} (hn : h.getD n none = some (.cells t cs)) {cs' : List Value} {w' : World} (hr : ∀ v ∈ cs', ∀ k ∈ refs0 v, ∃ c, h.getD k none = some c) (hb : w'.heap[(β n).1]? = some (.cells (cs'.map (ren0 β)).toArray t (0, 0)))
    (hk : ∀ k, k ≠ (β n).1 → w'.heap[k]? = w.heap[k]?) (hs : w'.heap.size = w.heap.size) (ho : w'.os = w.os) (ht : w'.tape = w.tape) (hu : w'.output = w.output) : Mem w0 β (h.set n (some (.cells t cs'))) w' := by
  have hl : n < h.length := by
    rcases Nat.lt_or_ge n h.length with k | k
    · exact k
    · rw [List.getD_eq_getElem?_getD, List.getElem?_eq_none k] at hn; cases hn
  have hat : ∀ k, k ≠ n → (h.set n (some (.cells t cs'))).getD k none = h.getD k none := fun k hk => by rw [getD_set'', if_neg (fun z => hk z.1.symm)]
  have hatn : (h.set n (some (HE.cells t cs'))).getD n none = some (.cells t cs') := by rw [getD_set'', if_pos ⟨rfl, hl⟩]
  have hlt := m.lt hn (b := (β n).1) rfl
  have old : ∀ k he, h.getD k none = some he → ∃ he', (h.set n (some (.cells t cs'))).getD k none = some he' := fun k he hk => by
    by_cases e : k = n
    · subst e; exact ⟨_, hatn⟩
    · exact ⟨he, (hat k e).trans hk⟩
  have hNF : ∀ b, NF w0 β h w b → NF w0 β (h.set n (some (.cells t cs'))) w' b ∧ w'.heap[b]? = w.heap[b]? := fun b hN => by
    have hne : b ≠ (β n).1 := by
      rintro rfl
      rcases hN with k | k
      · exact w0.own_F hlt.1 k
      · exact k.2.2 n _ hn rfl
    refine ⟨?_, hk b hne⟩
    rcases hN with k | ⟨k1, k2, k3⟩
    · exact .inl k
    · refine .inr ⟨k1, by omega, fun q c hq hx => ?_⟩
      by_cases eq : q = n
      · subst eq
        rw [hatn] at hq; simp only [Option.some.injEq] at hq; subst hq
        simp only [blkOf, Option.some.injEq] at hx
        exact hne hx.symm
      · rw [hat q eq] at hq; exact k3 q c hq hx
  refine m.next (fun k => k = n) (fun _ _ _ _ => rfl) (fun _ _ _ _ _ _ _ => rfl) (fun k c hkc hkn => ?_) hNF (by omega) (fun k c hkc hkn => ?_) (fun k q c d b hkc hq hc hd hkn => ?_) (fun k t' cs'' hkc v hv q hq => ?_) m.one ⟨ho.trans m.below.os, ht.trans m.below.tape, hu.trans m.below.output, by have := m.below.size; omega, fun k hk' hL => (hk k (by
    rintro rfl
    rcases hlt.1 with z | z
    · omega
    · exact hL z)).trans (m.below.block k hk' hL)⟩
  · rw [hat k hkn] at hkc
    refine ⟨hkc, fun b hx => hk b fun e => hkn ?_⟩
    subst e
    exact m.inj k n c _ _ hkc hn hx rfl
  · subst hkn
    rw [hatn] at hkc; simp only [Option.some.injEq] at hkc; subst hkc
    exact ⟨hb, hlt.1⟩
  · subst hkn
    rw [hatn] at hkc; simp only [Option.some.injEq] at hkc; subst hkc
    by_cases e' : q = k
    · exact e'.symm
    · rw [hat q e'] at hq
      exact m.inj k q _ d b hn hq hc hd
  · have key : ∃ c, h.getD q none = some c := by
      by_cases eq : k = n
      · subst eq
        rw [hatn] at hkc; simp only [Option.some.injEq, HE.cells.injEq] at hkc
        obtain ⟨-, rfl⟩ := hkc
        exact hr v hv q hq
      · rw [hat k eq] at hkc; exact m.refs k t' cs'' hkc v hv q hq
    obtain ⟨c, hc⟩ := key
    exact old q c hc

/-- no block becomes anybody's -/
theorem NF_tell {w0 : Base P} {β : Env} {h : List (Option HE)} {w : World} (m : Mem w0 β h w) {n : Nat} {he : HE} (hn : h.getD n none = some he) (he' : HE) (hblk : blkOf he' (β n) = none) : ∀ b, NF w0 β h w b ∨ (blkOf he (β n) = some b ∧ w0.w.heap.size ≤ b) → NF w0 β (h.set n (some he')) w b := fun b hN => by
  have hl : n < h.length := by
    rcases Nat.lt_or_ge n h.length with k | k
    · exact k
    · rw [List.getD_eq_getElem?_getD, List.getElem?_eq_none k] at hn; cases hn
  have hat : ∀ k, k ≠ n → (h.set n (some he')).getD k none = h.getD k none := fun k hk => by rw [getD_set'', if_neg (fun z => hk z.1.symm)]
  have hatn : (h.set n (some he')).getD n none = some he' := by rw [getD_set'', if_pos ⟨rfl, hl⟩]
  have hsz : w0.F b ∨ (w0.w.heap.size ≤ b ∧ b < w.heap.size) := by
    rcases hN with (k | k) | k
    · exact .inl k
    · exact .inr ⟨k.1, k.2.1⟩
    · exact .inr ⟨k.2, (m.lt hn k.1).2⟩
  rcases hsz with k | k
  · exact .inl k
  · refine .inr ⟨k.1, k.2, fun q c hq hx => ?_⟩
    by_cases eq : q = n
    · subst eq
      rw [hatn] at hq; simp only [Option.some.injEq] at hq; subst hq
      rw [hblk] at hx; cases hx
    · rw [hat q eq] at hq
      rcases hN with (hN | hN) | hN
      · have := w0.lt b hN; omega
      · exact hN.2.2 q c hq hx
      · exact eq (m.inj q n c he b hq hn hx hN.1)
/-- a name's block and what it holds stay, it is told otherwise: no block becomes anybody's -/
theorem Mem.tell {w0 : Base P} {β : Env} {h : List (Option HE)} {w : World} (m : Mem w0 β h w) {n : Nat} {he : HE} (hn : h.getD n none = some he) (he' : HE) (hblk : blkOf he' (β n) = none) (hc : ∀ t cs, he' ≠ .cells t cs)
    (hok : (∀ b, NF w0 β h w b ∨ (blkOf he (β n) = some b ∧ w0.w.heap.size ≤ b) → NF w0 β (h.set n (some he')) w b) → HeOk w0 β (NF w0 β (h.set n (some he')) w) w (β n) he') : Mem w0 β (h.set n (some he')) w := by
  have hl : n < h.length := by
    rcases Nat.lt_or_ge n h.length with k | k
    · exact k
    · rw [List.getD_eq_getElem?_getD, List.getElem?_eq_none k] at hn; cases hn
  have hat : ∀ k, k ≠ n → (h.set n (some he')).getD k none = h.getD k none := fun k hk => by rw [getD_set'', if_neg (fun z => hk z.1.symm)]
  have hatn : (h.set n (some he')).getD n none = some he' := by rw [getD_set'', if_pos ⟨rfl, hl⟩]
  have hNF := NF_tell m hn he' hblk
  refine m.next (fun k => k = n) (fun _ _ _ _ => rfl) (fun _ _ _ _ _ _ _ => rfl) (fun k c hkc hkn => ?_) (fun b hN => ⟨hNF b (.inl hN), rfl⟩) (Nat.le_refl _) (fun k c hkc hkn => ?_) (fun k q c d b hkc hq hc' hd hkn => ?_) (fun k t' cs'' hkc v hv q hq => ?_) m.one m.below
  · rw [hat k hkn] at hkc; exact ⟨hkc, fun _ _ => rfl⟩
  · subst hkn
    rw [hatn] at hkc; simp only [Option.some.injEq] at hkc; subst hkc
    exact hok hNF
  · subst hkn
    rw [hatn] at hkc; simp only [Option.some.injEq] at hkc; subst hkc
    rw [hblk] at hc'; cases hc'
  · have hkn : k ≠ n := fun e => by
      subst e
      rw [hatn] at hkc; simp only [Option.some.injEq] at hkc
      exact hc _ _ hkc
    rw [hat k hkn] at hkc
    obtain ⟨c, hcc⟩ := m.refs k t' cs'' hkc v hv q hq
    by_cases eq : q = n
    · subst eq; exact ⟨_, hatn⟩
    · exact ⟨c, (hat q eq).trans hcc⟩
/-- what stood at a name is forgotten -/
theorem Mem.drop {w0 : Base P} {β : Env} {h : List (Option HE)} {w : World} (m : Mem w0 β h w) {n : Nat} {he : HE} (hn : h.getD n none = some he) : Mem w0 β (h.set n (some .gone)) w :=
  m.tell hn .gone rfl (fun _ _ e => by cases e) (fun _ => trivial)
/-- a slice of the call's own is written no more -/
theorem Mem.freeze {w0 : Base P} {β : Env} {h : List (Option HE)} {w : World} (m : Mem w0 β h w) {n : Nat} {t : TypeId} {k : Nat} {f : Nat → List DC} (hn : h.getD n none = some (.own t k f)) : Mem w0 β (h.set n (some (.deep [.row k f]))) w := by
  refine m.tell hn _ rfl (fun _ _ e => by cases e) (fun hNF j d hj => ?_)
  cases j with
  | succ j => simp at hj
  | zero =>
    simp only [List.getElem?_cons_zero, Option.some.injEq] at hj; subst hj
    obtain ⟨size, xs, h1, h2, h3, h4⟩ := m.ok n _ hn
    have hNF' := fun b hb => hNF b (.inl hb)
    rcases h3.2 with ⟨hv, hk⟩ | ⟨g, cap, cur, hv, hg, hc, hle, hcap, hsz, htake⟩
    · rw [hv]; subst hk; exact .nil f none 0
    · rw [hv]
      refine .row k f g 0 cap size (fun i j => cur.toList.getD (i * size + j) undef) (hNF g (.inr ⟨by simp [blkOf, hv, Value.ownBlock], hg⟩)) (fun i hi => ⟨(h4 i hi).1, fun j hj => ?_⟩) (fun i j hi hj => ?_)
      · obtain ⟨v, hv', _⟩ := (h4 i hi).2 j hj
        rw [← htake, List.getElem?_take] at hv'
        split at hv'
        · simp only [World.cell?, hc, Option.isSome_none, Bool.false_eq_true, if_false]
          rw [show 0 + i * size + j = i * size + j by omega, List.getD_eq_getElem?_getD, hv']
          simpa using hv'
        · cases hv'
      · obtain ⟨v, hv', hd⟩ := (h4 i hi).2 j hj
        rw [← htake, List.getElem?_take] at hv'
        split at hv'
        · have e : cur.toList.getD (i * size + j) undef = v := by rw [List.getD_eq_getElem?_getD, hv']; rfl
          rw [e]
          exact hd.mono fun b hb => ⟨hNF' b hb, rfl⟩
        · cases hv'
end
end Go.Proofs.Ytgdjfclpncpnpaa.Dyn
