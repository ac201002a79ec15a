/-
  OWN WORK. A symbolic executor for Go text over open terms, part B: one operation, and that it is sound.
-/
import Derived.Test.YtgdjfclpncpnpaaSymA
import Derived.RegionTactic
import Derived.Laws.Build
import Derived.Laws.Pointers
namespace Go.Proofs.Ytgdjfclpncpnpaa.Sym
open Go Go.RowKit

def fillOf (P : Program) (elem : TypeId) (len : Nat) (parts : List (Nat × Value)) : Option (List Value) :=
  match sizeO P elem, (P.info? elem).bind (·.zero) with
  | some size, some z =>
    if len * size > 2 ^ 24 then none else if len * size = 0 then none else
    match Instr.fill (fun i => some (i * size, size)) ((Array.range (len * size)).map (z.cells[· % z.cells.size]!)) parts with
    | some cells => some cells.toList
    | none => none
  | _, _ => none

/-- One operation on plain values. -/
def plainRes (P : Program) (ev : Operand → SV) (o : Oper) : Option Res :=
  match plains ev o.op.operands.toList, o.op with
  | _, .select _ _ => none
  | some _, _ =>
    match pureRun P (execOp (fun x => plainD (ev x)) o) with
    | some (.value u) => some { val := if o.op.operands.toList.all (fun x => closed (ev x)) then .k u else .v u, upd := none, sides := [] }
    | _ => none
  | none, _ => none

/-- what is known when c is b -/
def withC (cs : List (Nat × Bool)) (c : Operand) (b : Bool) : List (Nat × Bool) :=
  match c with
  | .tmp t => cs ++ [(t, b)]
  | _ => cs

def opRes (P : Program) (tb : Nat → List Value → Option (Value × List Prop)) (ev : List (Nat × Bool) → Operand → SV) (hp : Nat → Option Cells) (fresh : Nat) (cs : List (Nat × Bool)) (o : Oper) : Option Res :=
  match o.op with
  | .pick c x y =>
    match ev cs c, c with
    | .k (.bool b), _ => match plain (ev (withC cs c b) (if b then x else y)) with
      | some u => some { val := if closed (ev (withC cs c b) (if b then x else y)) then .k u else .v u, upd := none, sides := [] }
      | none => none
    | .v (.bool b), .tmp t => match plain (ev (cs ++ [(t, true)]) x), plain (ev (cs ++ [(t, false)]) y) with
      | some u, some v => some { val := .v (mergeN 3 b u v), upd := none, sides := [] }
      | _, _ => none
    | _, _ => none
  | .move x => some { val := ev cs x, upd := none, sides := [] }
  | .assign x => some { val := ev cs x, upd := none, sides := [] }
  | .alloc t => match (P.info? t).bind (·.zero) with
    | some z => some { val := .loc fresh 0, upd := some (fresh, t, z.cells.toList), sides := [] }
    | none => none
  | .box t x => match plain (ev cs x) with
    | some u => some { val := .loc fresh 0, upd := some (fresh, t, u.cells.toList), sides := [] }
    | none => none
  | .load t x => match ev cs x with
    | .loc n off => match hp n with
      | some c => match loadOf P t c.2 off with
        | some u => some { val := .v u, upd := none, sides := [] }
        | none => none
      | none => none
    | .ix n off i len size => match hp n with
      | some c => match loadAll P t c.2 off size 0 len with
        | some us => match pickAt i 0 us with
          | some u => some { val := .v u, upd := none, sides := [] }
          | none => none
        | none => none
      | none => none
    | _ => none
  | .store t x y => match ev cs x, plain (ev cs y) with
    | .loc n off, some u => match hp n, sizeO P t with
      | some c, some m => if u.cells.size = m ∧ off + m ≤ c.2.length ∧ u.cells.toList.all oneCellB then some { val := .k undef, upd := some (n, c.1, setMany c.2 off u.cells.toList), sides := [] } else none
      | _, _ => none
    | .ix n off i len size, some u => match hp n, sizeO P t with
      | some c, some m => if u.cells.size = m ∧ off + (len - 1) * size + m ≤ c.2.length ∧ u.cells.toList.all oneCellB then some { val := .k undef, upd := some (n, c.1, storeAll i u.cells.toList off size 0 len c.2), sides := [] } else none
      | _, _ => none
    | _, _ => none
  | .fieldAddr s x f => match ev cs x, fieldOf P s f with
    | .loc n off, some fd => match sizeO P fd.type with
      | some (_ + 1) => some { val := .loc n (off + fd.offset), upd := none, sides := [] }
      | _ => none
    | .ix n off i len size, some fd => match sizeO P fd.type with
      | some (_ + 1) => some { val := .ix n (off + fd.offset) i len size, upd := none, sides := [] }
      | _ => none
    | _, _ => none
  | .indexAddr t x y => match ev cs x, ev cs y with
    | .loc n off, .k (.int _ i) => match arrayOf P t with
      | some (len, e) => match sizeO P e with
        | some size => if 0 ≤ i ∧ i < len then some { val := .loc n (off + i.toNat * size), upd := none, sides := [] } else none
        | none => none
      | none => none
    | .loc n off, .v (.int _ i) => match arrayOf P t with
      | some (len, e) => match sizeO P e with
        | some size => some { val := .ix n off i len size, upd := none, sides := [0 ≤ i ∧ i < len] }
        | none => none
      | none => none
    | .sl n len, .k (.int _ i) => match sliceOf P t with
      | some e => match sizeO P e with
        | some size => if 0 ≤ i ∧ i < len then some { val := .loc n (i.toNat * size), upd := none, sides := [] } else none
        | none => none
      | none => none
    | .sl n len, .v (.int _ i) => match sliceOf P t with
      | some e => match sizeO P e with
        | some size => some { val := .ix n 0 i len size, upd := none, sides := [0 ≤ i ∧ i < len] }
        | none => none
      | none => none
    | _, _ => none
  | .buildSlice t len parts => match sliceOf P t, plains (ev cs) (parts.toList.map (·.2)) with
    | some e, some _ => match fillOf P e len (parts.toList.map fun p => (p.1, plainD (ev cs p.2))) with
      | some cells => some { val := .sl fresh len, upd := some (fresh, e, cells), sides := [] }
      | none => none
    | _, _ => none
  | .call { callee := .value (.func K), args, argTypes := _ } => match plains (ev cs) args.toList with
    | some vs => match tb K vs with
      | some (u, ps) => some { val := .v u, upd := none, sides := ps }
      | none => none
    | none => none
  | .binOp op t x y _ =>
    match op, plain (ev cs x), plain (ev cs y), closed (ev cs y) with
    | .quo, some (.int k i), some (.int k' j), false => if k = k' then some { val := .v (.int k (k.wrap (i.tdiv j))), upd := none, sides := [j ≠ 0] } else none
    | .rem, some (.int k i), some (.int k' j), false => if k = k' then some { val := .v (.int k (i.tmod j)), upd := none, sides := [j ≠ 0] } else none
    | .eql, some (.agg u), some (.agg v), _ => match eqOf P t (.agg u) (.agg v) with
      | some b => some { val := .v (.bool b), upd := none, sides := [] }
      | none => none
    | .neq, some (.agg u), some (.agg v), _ => match eqOf P t (.agg u) (.agg v) with
      | some b => some { val := .v (.bool (!b)), upd := none, sides := [] }
      | none => none
    | _, _, _, _ => plainRes P (ev cs) o
  | _ => plainRes P (ev cs) o

/-! ### states and what they stand for -/
structure St where
  slots : List SV
  heap : List (Option Cells)

def names : SV → List Nat
  | .loc n _ => [n]
  | .ix n _ _ _ _ => [n]
  | .sl n _ => [n]
  | .g _ x => names x
  | _ => []
def condsOf : SV → List (Nat × Bool)
  | .g cs x => cs ++ condsOf x
  | _ => []

structure Mem (w0 : World) (β : Nat → Nat) (h : List (Option Cells)) (w : World) : Prop where
  at_ : ∀ n c, h.getD n none = some c → w.heap[β n]? = some (.cells c.2.toArray c.1 (0, 0)) ∧ w0.heap.size ≤ β n
  inj : ∀ n m c d, h.getD n none = some c → h.getD m none = some d → β n = β m → n = m
  below : Below w0.heap.size w0 w

structure M (w0 : World) (β : Nat → Nat) (st : St) (a : Act) (w : World) : Prop where
  defers : a.defers = []
  size : a.tmps.size = st.slots.length
  slot : ∀ i u, a.tmps[i]? = some u → Den β st.slots (st.slots.getD i .junk) u
  locs : ∀ i n, n ∈ names (st.slots.getD i .junk) → ∃ c, st.heap.getD n none = some c
  mem : Mem w0 β st.heap w

theorem holds_congr {l l' : List SV} {cs : List (Nat × Bool)} (h : ∀ c ∈ cs, boolAt l' c.1 = boolAt l c.1) : holds l' cs ↔ holds l cs :=
  ⟨fun k c hc => (h c hc) ▸ k c hc, fun k c hc => (h c hc).trans (k c hc)⟩

theorem Den_congr {β β' : Nat → Nat} {l l' : List SV} : ∀ {s : SV} {u : Value}, (∀ n ∈ names s, β' n = β n) → (∀ c ∈ condsOf s, boolAt l' c.1 = boolAt l c.1) → Den β l s u → Den β' l' s u
  | .k _, _, _, _, h => h
  | .v _, _, _, _, h => h
  | .loc n off, u, hn, _, h => by have e := hn n (by simp [names]); simp only [Den] at *; rw [e]; exact h
  | .ix n off i len size, u, hn, _, h => by have e := hn n (by simp [names]); simp only [Den] at *; rw [e]; exact h
  | .sl n len, u, hn, _, h => by have e := hn n (by simp [names]); simp only [Den] at *; rw [e]; exact h
  | .g cs x, u, hn, hc, h => by
    have e := holds_congr (l := l) (l' := l') (cs := cs) fun c hcm => hc c (by simp [condsOf, hcm])
    refine ⟨fun hh => Den_congr hn (fun c hcm => hc c (by simp [condsOf, hcm])) (h.1 (e.1 hh)), fun hh => h.2 fun k => hh (e.2 k)⟩
  | .junk, _, _, _, _ => trivial

theorem getD_none {a : Act} {t : Nat} (h : a.tmps[t]? = none) : a.eval (.tmp t) = undef := by
  simp [Act.eval, h]

/-- an operand's value is what its symbolic value stands for -/
theorem Den_eval {w0 w : World} {β : Nat → Nat} {st : St} {a : Act} {cs : List (Nat × Bool)} (m : M w0 β st a w) (hc : holds st.slots cs) (x : Operand) : Den β st.slots (evS st.slots cs x) (a.eval x) := by
  cases x with
  | tmp t =>
    refine Den_resolve hc ?_
    cases h : a.tmps[t]? with
    | some u =>
      have e : a.eval (.tmp t) = u := by simp [Act.eval, h]
      rw [e]; exact m.slot t u h
    | none =>
      have hs : st.slots.length ≤ t := by rw [← m.size]; exact Array.getElem?_eq_none_iff.1 h
      have : st.slots.getD t .junk = .junk := by simp [List.getElem?_eq_none hs]
      rw [this]; trivial
  | const v => rfl
  | global g => rfl
  | func f => rfl

theorem plain_eval {β : Nat → Nat} {l : List SV} {s : SV} {u v : Value} (h : Den β l s u) (hp : plain s = some v) : u = v := by
  cases s <;> simp [plain] at hp <;> subst hp <;> exact h

theorem names_resolve {cs : List (Nat × Bool)} {s : SV} {n : Nat} (h : n ∈ names (resolve cs s)) : n ∈ names s := by
  cases s with
  | g cs' x =>
    simp only [resolve] at h
    split at h
    · exact h
    · simp [names] at h
  | _ => exact h

theorem names_ev {w0 w : World} {β : Nat → Nat} {st : St} {a : Act} {cs : List (Nat × Bool)} (m : M w0 β st a w) {x : Operand} {n : Nat} (h : n ∈ names (evS st.slots cs x)) : ∃ c, st.heap.getD n none = some c := by
  cases x with
  | tmp t => exact m.locs t n (names_resolve h)
  | const v => simp [evS, names] at h
  | global g => simp [evS, names] at h
  | func f => simp [evS, names] at h

/-! ### runs -/
section
variable {P : Program} {w : World}

theorem isAgg_run {t : TypeId} {b : Bool} (h : isAggB P t = some b) : (isAgg t).run P w = .ok b w := by
  unfold isAggB at h
  split at h <;> simp at h <;> subst h <;> simp [isAgg, underlying, *]

theorem sizeOf_run {t : TypeId} {n : Nat} (h : sizeO P t = some n) : (sizeOf t).run P w = .ok n w := by
  unfold sizeO at h
  cases hi : P.info? t with
  | none => simp [hi] at h
  | some i => simp [hi] at h; subst h; simp [sizeOf, typeInfo, hi]

theorem add_off (b off i : Nat) : (Addr.mk b off none).add i = ⟨b, off + i, none⟩ := by
  unfold Addr.add; split
  · rename_i h; subst h; rfl
  · rfl

theorem cell_at {b : Nat} {cs : List Value} {t : TypeId} (h : w.heap[b]? = some (.cells cs.toArray t (0, 0))) (i : Nat) : w.cell? ⟨b, i, none⟩ = cs[i]? := by
  simp [World.cell?, h]

theorem loadCells_run {b : Nat} {cs : List Value} {t : TypeId} (h : w.heap[b]? = some (.cells cs.toArray t (0, 0))) (off : Nat) :
    ∀ (n i : Nat) (acc : Array Value), off + i + n ≤ cs.length → (loadCellsFrom ⟨b, off, none⟩ i n acc).run P w = .ok (acc ++ ((cs.drop (off + i)).take n).toArray) w
  | 0, i, acc, _ => by simp [loadCellsFrom]
  | n + 1, i, acc, hl => by
    have hc : w.cell? ⟨b, off + i, none⟩ = some (cs[off + i]'(by omega)) := by rw [cell_at h]; exact List.getElem?_eq_getElem (by omega)
    have ih := loadCells_run h off n (i + 1) (acc.push (cs[off + i]'(by omega))) (by omega)
    unfold loadCellsFrom
    simp only [add_off, Sem.run_bind, run_load, hc, Result.andThen_ok, ih]
    congr 1
    apply Array.ext'
    have e : off + (i + 1) = off + i + 1 := by omega
    have d : cs.drop (off + i) = cs[off + i]'(by omega) :: cs.drop (off + i + 1) := List.drop_eq_getElem_cons (by omega)
    rw [e]
    simp only [Array.toList_append, Array.toList_push, List.append_assoc, List.singleton_append]
    rw [d, List.take_succ_cons]

theorem loadVar_run {b : Nat} {cs : List Value} {t ty : TypeId} {off : Nat} {u : Value} (h : w.heap[b]? = some (.cells cs.toArray ty (0, 0))) (hl : loadOf P t cs off = some u) : (loadVar t ⟨b, off, none⟩).run P w = .ok u w := by
  unfold loadOf at hl
  split at hl
  · rename_i n ha hs
    split at hl
    · rename_i hle
      simp only [Option.some.injEq] at hl; subst hl
      unfold loadVar loadCells
      have := loadCells_run (P := P) h off n 0 #[] (by omega)
      simp only [Sem.run_bind, isAgg_run ha, Result.andThen_ok, if_true, sizeOf_run hs, this]
      simp
    · cases hl
  · rename_i m ha hs
    unfold loadVar
    have e : w.cell? ⟨b, off, none⟩ = some u := by rw [cell_at h]; exact hl
    simp only [Sem.run_bind, isAgg_run ha, Result.andThen_ok, Bool.false_eq_true, if_false, run_load, e]
  · cases hl
end

/-! ### stores -/
theorem setMany_length : ∀ (vs cs : List Value) (off : Nat), (setMany cs off vs).length = cs.length
  | [], cs, off => rfl
  | v :: vs, cs, off => by simp [setMany, setMany_length vs]

theorem storeCells_run {P : Program} {b t : Nat} {off : Nat} : ∀ (vs cs : List Value) (i : Nat) (w : World), w.heap[b]? = some (.cells cs.toArray t (0, 0)) → off + i + vs.length ≤ cs.length → (vs.all oneCellB = true) →
    ∃ w', (storeCells ⟨b, off, none⟩ vs i).run P w = .ok () w' ∧ w'.heap[b]? = some (.cells (setMany cs (off + i) vs).toArray t (0, 0)) ∧ (∀ k, k ≠ b → w'.heap[k]? = w.heap[k]?) ∧ w'.heap.size = w.heap.size ∧ w'.os = w.os ∧ w'.tape = w.tape ∧ w'.output = w.output
  | [], cs, i, w, h, _, _ => ⟨w, rfl, h, fun _ _ => rfl, rfl, rfl, rfl, rfl⟩
  | v :: vs, cs, i, w, h, hl, h1 => by
    have h1' : oneCellB v = true ∧ vs.all oneCellB = true := by simpa using h1
    have hv : v.oneCell' = true := by have := h1'.1; cases v <;> simp_all [oneCellB, Value.oneCell']
    simp only [List.length_cons] at hl
    have hc : w.cell? ⟨b, off + i, none⟩ = some (cs[off + i]'(by omega)) := by rw [cell_at h]; exact List.getElem?_eq_getElem (by omega)
    have hf : w.frozen? ⟨b, off + i, none⟩ = false := by simp [World.frozen?, h]
    have hset : (w.setCell ⟨b, off + i, none⟩ v).heap[b]? = some (.cells (cs.set (off + i) v).toArray t (0, 0)) := by
      simp [World.setCell, Array.getElem?_modify, h]
    obtain ⟨w', hr, hb, hk, hs, ho, ht, hu⟩ := storeCells_run (P := P) (off := off) vs (cs.set (off + i) v) (i + 1) (w.setCell ⟨b, off + i, none⟩ v) hset (by simp; omega) h1'.2
    refine ⟨w', ?_, ?_, fun k hkb => ?_, ?_, ho, ht, hu⟩
    · unfold storeCells
      simp only [add_off, Sem.run_bind, run_store P _ _ _ _ hv, hc, hf, Bool.false_eq_true, if_false, Result.andThen_ok, hr]
    · have e : off + (i + 1) = off + i + 1 := by omega
      rw [hb, e]; rfl
    · rw [hk k hkb]; exact Below.heap_setCell _ _ _ _ hkb
    · rw [hs]; simp [World.setCell]

theorem storeVar_run {P : Program} {b ty : Nat} {off m : Nat} {t : TypeId} {u : Value} {cs : List Value} {w : World} (h : w.heap[b]? = some (.cells cs.toArray ty (0, 0))) (hs : sizeO P t = some m) (hz : u.cells.size = m) (hl : off + m ≤ cs.length) (h1 : u.cells.toList.all oneCellB = true) :
    ∃ w', (storeVar t ⟨b, off, none⟩ u).run P w = .ok () w' ∧ w'.heap[b]? = some (.cells (setMany cs off u.cells.toList).toArray ty (0, 0)) ∧ (∀ k, k ≠ b → w'.heap[k]? = w.heap[k]?) ∧ w'.heap.size = w.heap.size ∧ w'.os = w.os ∧ w'.tape = w.tape ∧ w'.output = w.output := by
  obtain ⟨w', hr, hb, hrest⟩ := storeCells_run (P := P) (t := ty) (off := off) u.cells.toList cs 0 w h (by simp; omega) h1
  refine ⟨w', ?_, by simpa using hb, hrest⟩
  unfold storeVar
  simp only [Sem.run_bind, sizeOf_run hs, Result.andThen_ok, hz, ne_eq, not_true_eq_false, if_false]
  exact hr
end Go.Proofs.Ytgdjfclpncpnpaa.Sym
