/-
  OWN WORK. A symbolic executor for Go text over open terms, part D: every operation that 'opRes' takes is sound.
-/
import Derived.Test.YtgdjfclpncpnpaaSymC
namespace Go.Proofs.Ytgdjfclpncpnpaa.Sym
open Go Go.RowKit

section
variable {P : Program} {w0 w : World} {β : Nat → Nat} {st : St} {a : Act} {cs : List (Nat × Bool)} {o : Oper} {r : Res} {K : Act → World → Prop} {Q : Exit → Act → World → Prop}

theorem pickAt_eq {i : Int} : ∀ (vs : List Value) (j : Nat) {u : Value}, pickAt i j vs = some u → (j : Int) ≤ i → i < j + vs.length → vs[i.toNat - j]? = some u
  | [], j, u, h, _, _ => by simp [pickAt] at h
  | [x], j, u, h, h0, h1 => by
    simp only [pickAt, Option.some.injEq] at h; subst h
    simp only [List.length_cons, List.length_nil] at h1
    have : i.toNat - j = 0 := by omega
    simp [this]
  | x :: y :: xs, j, u, h, h0, h1 => by
    simp only [pickAt] at h
    split at h
    · rename_i r hr
      simp only [Option.some.injEq] at h; subst h
      rw [mergeN_eq]
      by_cases e : i = (j : Int)
      · simp [e]
      · have ih := pickAt_eq (i := i) (y :: xs) (j + 1) hr (by omega) (by simp only [List.length_cons] at h1 ⊢; omega)
        have e2 : i.toNat - j = (i.toNat - (j + 1)) + 1 := by omega
        rw [e2, List.getElem?_cons_succ, ih]
        simp [e]
    · cases h

theorem loadAll_at {t : TypeId} {c : List Value} {off size : Nat} : ∀ (n j : Nat) {us : List Value}, loadAll P t c off size j n = some us → us.length = n ∧ ∀ k u, us[k]? = some u → loadOf P t c (off + (j + k) * size) = some u
  | 0, j, us, h => by simp only [loadAll, Option.some.injEq] at h; subst h; exact ⟨rfl, fun k u hk => by simp at hk⟩
  | n + 1, j, us, h => by
    simp only [loadAll] at h
    split at h
    · rename_i v vs hv hvs
      simp only [Option.some.injEq] at h; subst h
      obtain ⟨hl, hk⟩ := loadAll_at n (j + 1) hvs
      refine ⟨by simp [hl], fun k u hu => ?_⟩
      cases k with
      | zero => simp at hu; subst hu; simpa using hv
      | succ k =>
        have := hk k u (by simpa using hu)
        rw [show j + (k + 1) = j + 1 + k by omega]; exact this
    · cases h

theorem load_run {t : TypeId} {x : Operand} {ad : Addr} {u : Value} (ho : o.op = .load t x) (hx : a.eval x = .pointer (some ad)) (hl : (loadVar t ad).run P w = .ok u w) : (execOp a.eval o).run P w = .ok (.value u) w := by
  simp only [execOp, ho, Instr.loadAt, hx, Instr.sureAddr, Sem.run_bind, Sem.run_pure, Result.andThen_ok, hl]

theorem load_sound {hp : Nat → Option Cells} (hhp : ∀ n c, hp n = some c → st.heap.getD n none = some c) {t : TypeId} {x : Operand} (m : M w0 β st a w) (hc : holds st.slots cs) (ho : o.op = .load t x)
    (h : (match evS st.slots cs x with
    | .loc n off => match hp n with
      | some c => match loadOf P t c.2 off with
        | some u => some ({ val := .v u, upd := none, sides := [] } : Res)
        | none => none
      | none => none
    | .ix n off i len size => match hp n with
      | some c => match loadAll P t c.2 off size 0 len with
        | some us => match pickAt i 0 us with
          | some u => some { val := .v u, upd := none, sides := [] }
          | none => none
        | none => none
      | none => none
    | _ => none) = some r) (hK : ∀ β' u w', Post w0 β st.slots st.heap r u β' w' → K (a.put o.dst u) w') : o.wp P a w K Q := by
  have hd := Den_eval m hc x
  split at h
  · rename_i n off hev
    rw [hev] at hd
    split at h
    · rename_i c hn0
      have hn := hhp n c hn0
      split at h
      · rename_i u hu
        simp only [Option.some.injEq] at h; subst h
        exact wp_value (load_run ho hd (loadVar_run (m.mem.at_ n c hn).1 hu)) (hK β u w (Post.same m rfl rfl (fun k hk => by simp [names] at hk)))
      · cases h
    · cases h
  · rename_i n off i len size hev
    rw [hev] at hd
    split at h
    · rename_i c hn0
      have hn := hhp n c hn0
      split at h
      · rename_i us hus
        split at h
        · rename_i u hu
          simp only [Option.some.injEq] at h; subst h
          obtain ⟨hd1, h0, h1⟩ := hd
          obtain ⟨hl, hk⟩ := loadAll_at len 0 hus
          have hp := pickAt_eq us 0 hu (by simpa using h0) (by rw [hl]; simpa using h1)
          have := hk _ u hp
          simp only [Nat.sub_zero, Nat.zero_add] at this
          exact wp_value (load_run ho hd1 (loadVar_run (m.mem.at_ n c hn).1 this)) (hK β u w (Post.same m rfl rfl (fun k hk => by simp [names] at hk)))
        · cases h
      · cases h
    · cases h
  · cases h

theorem setMany_same : ∀ (n off : Nat) (cs : List Value), off + n ≤ cs.length → setMany cs off ((cs.drop off).take n) = cs
  | 0, off, cs, _ => by simp [setMany]
  | n + 1, off, cs, h => by
    have e : cs.drop off = cs[off]'(by omega) :: cs.drop (off + 1) := List.drop_eq_getElem_cons (by omega)
    rw [e, List.take_succ_cons]
    simp only [setMany, List.set_getElem_self]
    exact setMany_same n (off + 1) cs (by omega)

theorem storeAll_spec {i : Int} {vs : List Value} {off size : Nat} : ∀ (n j : Nat) (cs : List Value), (∀ k, k < n → off + (j + k) * size + vs.length ≤ cs.length) →
    storeAll i vs off size j n cs = if (j : Int) ≤ i ∧ i < j + n then setMany cs (off + i.toNat * size) vs else cs
  | 0, j, cs, _ => by
    simp only [storeAll]
    rw [if_neg (by omega)]
  | n + 1, j, cs, h => by
    have h0 := h 0 (by omega)
    simp only [Nat.add_zero] at h0
    have hlen : ((cs.drop (off + j * size)).take vs.length).length = vs.length := by simp; omega
    simp only [storeAll]
    by_cases e : i = (j : Int)
    · have hz : List.zipWith (mergeN 3 (decide (i = (j : Int)))) vs ((cs.drop (off + j * size)).take vs.length) = vs := by
        rw [decide_eq_true e]; exact zipWith_left (mergeN_true 3) _ _ hlen.symm
      rw [hz, storeAll_spec n (j + 1) _ (fun k hk => by rw [setMany_length]; have := h (k + 1) (by omega); rw [show j + 1 + k = j + (k + 1) by omega]; exact this)]
      rw [if_neg (by omega), if_pos (by omega)]
      have : i.toNat = j := by omega
      rw [this]
    · have hz : List.zipWith (mergeN 3 (decide (i = (j : Int)))) vs ((cs.drop (off + j * size)).take vs.length) = (cs.drop (off + j * size)).take vs.length := by
        rw [decide_eq_false e]; exact zipWith_right (mergeN_false 3) _ _ hlen.symm
      rw [hz, setMany_same _ _ _ (by omega), storeAll_spec n (j + 1) cs (fun k hk => by have := h (k + 1) (by omega); rw [show j + 1 + k = j + (k + 1) by omega]; exact this)]
      by_cases hq : (j : Int) ≤ i ∧ i < j + (n + 1 : Nat)
      · rw [if_pos hq, if_pos (by omega)]
      · rw [if_neg hq, if_neg (by omega)]

theorem store_sound {hp : Nat → Option Cells} (hhp : ∀ n c, hp n = some c → st.heap.getD n none = some c) {t : TypeId} {x y : Operand} (m : M w0 β st a w) (hc : holds st.slots cs) (ho : o.op = .store t x y)
    (h : (match evS st.slots cs x, plain (evS st.slots cs y) with
    | .loc n off, some u => match hp n, sizeO P t with
      | some c, some m => if u.cells.size = m ∧ off + m ≤ c.2.length ∧ u.cells.toList.all oneCellB then some ({ val := .k undef, upd := some (n, c.1, setMany c.2 off u.cells.toList), sides := [] } : Res) else none
      | _, _ => none
    | .ix n off i len size, some u => match hp n, sizeO P t with
      | some c, some m => if u.cells.size = m ∧ off + (len - 1) * size + m ≤ c.2.length ∧ u.cells.toList.all oneCellB then some { val := .k undef, upd := some (n, c.1, storeAll i u.cells.toList off size 0 len c.2), sides := [] } else none
      | _, _ => none
    | _, _ => none) = some r) (hK : ∀ β' u w', Post w0 β st.slots st.heap r u β' w' → K (a.put o.dst u) w') : o.wp P a w K Q := by
  have hd := Den_eval m hc x
  split at h
  · rename_i n off u hev hu
    rw [hev] at hd
    have hy := eval_plain m hc hu
    split at h
    · rename_i c k hn0 hk
      have hn := hhp n c hn0
      split at h
      · rename_i hall
        simp only [Option.some.injEq] at h; subst h
        obtain ⟨w', hr, hb, hrest, hs, h1, h2, h3⟩ := storeVar_run (m.mem.at_ n c hn).1 hk hall.1 hall.2.1 hall.2.2
        refine wp_skip' (w' := w') ?_ (hK β undef w' ⟨fun _ _ _ => rfl, rfl, fun k hk => by simp [names] at hk, m.mem.put hn hb hrest hs h1 h2 h3⟩)
        simp only [execOp, ho, Instr.storeAt, hy, (show a.eval x = _ from hd), Instr.sureAddr, Sem.run_bind, Sem.run_pure, Result.andThen_ok, hr]
      · cases h
    · cases h
  · rename_i n off i len size u hev hu
    rw [hev] at hd
    have hy := eval_plain m hc hu
    split at h
    · rename_i c k hn0 hk
      have hn := hhp n c hn0
      split at h
      · rename_i hall
        simp only [Option.some.injEq] at h; subst h
        obtain ⟨hd1, hi0, hi1⟩ := hd
        have hle : i.toNat ≤ len - 1 := by omega
        have hmul : i.toNat * size ≤ (len - 1) * size := Nat.mul_le_mul_right _ hle
        obtain ⟨w', hr, hb, hrest, hs, h1, h2, h3⟩ := storeVar_run (off := off + i.toNat * size) (m.mem.at_ n c hn).1 hk hall.1 (by have := hall.2.1; omega) hall.2.2
        have hst : storeAll i u.cells.toList off size 0 len c.2 = setMany c.2 (off + i.toNat * size) u.cells.toList := by
          rw [storeAll_spec len 0 c.2 (fun q hq => ?_), if_pos (by omega)]
          have hq' : q * size ≤ (len - 1) * size := Nat.mul_le_mul_right _ (by omega)
          have hz := hall.1
          rw [Nat.zero_add, Array.length_toList]
          have := hall.2.1
          omega
        refine wp_skip' (w' := w') ?_ (hK β undef w' ⟨fun _ _ _ => rfl, rfl, fun k hk => by simp [names] at hk, by dsimp only [heapSet]; rw [hst]; exact m.mem.put hn hb hrest hs h1 h2 h3⟩)
        simp only [execOp, ho, Instr.storeAt, hy, hd1, Instr.sureAddr, Sem.run_bind, Sem.run_pure, Result.andThen_ok, hr]
      · cases h
    · cases h
  · cases h

theorem zero_run {t : TypeId} {z : Value} (h : (P.info? t).bind (·.zero) = some z) : (zeroValue t).run P w = .ok z w := by
  cases hi : P.info? t with
  | none => simp [hi] at h
  | some i =>
    simp only [hi, Option.bind_some] at h
    simp [zeroValue, typeInfo, hi, h]

theorem new_post (m : M w0 β st a w) {fresh : Nat} (hf : fresh < st.heap.length) (hn : st.heap.getD fresh none = none) (t : TypeId) (cells : List Value) {sv : SV} {u : Value} {sides : List Prop}
    (hd : ∀ β', β' fresh = w.heap.size → Den β' st.slots sv u) (hs : names sv = [fresh]) :
    Post w0 β st.slots st.heap { val := sv, upd := some (fresh, t, cells), sides } u (bump β fresh w.heap.size) { w with heap := w.heap.push (.cells cells.toArray t) } where
  keep n c hc := by
    unfold bump
    split
    · rename_i e; subst e; rw [hn] at hc; cases hc
    · rfl
  den := hd _ (by simp [bump])
  nm n hn' := by
    simp only [hs, List.mem_singleton] at hn'; subst hn'
    exact ⟨(t, cells), by simp only [heapSet]; rw [getD_set', if_pos ⟨rfl, hf⟩]⟩
  mem := m.mem.new hf t cells

theorem alloc_sound {t : TypeId} {fresh : Nat} (m : M w0 β st a w) (hf : fresh < st.heap.length) (hn : st.heap.getD fresh none = none) (ho : o.op = .alloc t)
    (h : (match (P.info? t).bind (·.zero) with
    | some z => some ({ val := .loc fresh 0, upd := some (fresh, t, z.cells.toList), sides := [] } : Res)
    | none => none) = some r) (hK : ∀ β' u w', Post w0 β st.slots st.heap r u β' w' → K (a.put o.dst u) w') : o.wp P a w K Q := by
  split at h
  · rename_i z hz
    simp only [Option.some.injEq] at h; subst h
    refine wp_value (u := .pointer (some ⟨w.heap.size, 0, none⟩)) ?_ (hK _ _ _ (new_post m hf hn t z.cells.toList (sv := .loc fresh 0) (fun β' hb => by simp [Den, hb]) rfl))
    simp only [execOp, ho, Instr.alloc, Sem.run_bind, zero_run hz, Result.andThen_ok, newVar, newRow, run_newObj, Sem.run_pure, Array.toArray_toList]
  · cases h

theorem box_sound {t : TypeId} {x : Operand} {fresh : Nat} (m : M w0 β st a w) (hc : holds st.slots cs) (hf : fresh < st.heap.length) (hn : st.heap.getD fresh none = none) (ho : o.op = .box t x)
    (h : (match plain (evS st.slots cs x) with
    | some u => some ({ val := .loc fresh 0, upd := some (fresh, t, u.cells.toList), sides := [] } : Res)
    | none => none) = some r) (hK : ∀ β' u w', Post w0 β st.slots st.heap r u β' w' → K (a.put o.dst u) w') : o.wp P a w K Q := by
  split at h
  · rename_i u hu
    simp only [Option.some.injEq] at h; subst h
    have hx := eval_plain m hc hu
    refine wp_value (u := .pointer (some ⟨w.heap.size, 0, none⟩)) ?_ (hK _ _ _ (new_post m hf hn t u.cells.toList (sv := .loc fresh 0) (fun β' hb => by simp [Den, hb]) rfl))
    simp only [execOp, ho, hx, Instr.box, Sem.run_bind, Result.andThen_ok, newVar, newRow, run_newObj, Sem.run_pure, Array.toArray_toList]
  · cases h

theorem boolAt_ev {l : List SV} {cs : List (Nat × Bool)} {t : Nat} {b : Bool} (h : evS l cs (.tmp t) = .k (.bool b) ∨ evS l cs (.tmp t) = .v (.bool b)) : boolAt l t = some b := by
  simp only [evS] at h
  unfold boolAt
  rw [List.getD_eq_getElem?_getD] at h
  cases hs : l[t]? with
  | none => simp [hs, resolve] at h
  | some s =>
    simp only [hs, Option.getD_some] at h
    cases s with
    | g cs' z =>
      simp only [resolve] at h
      split at h
      · rcases h with h | h <;> (subst h; rfl)
      · rcases h with h | h <;> cases h
    | _ => simp only [resolve] at h <;> rcases h with h | h <;> first | (cases h; rfl) | cases h
theorem holds_withC {l : List SV} {cs : List (Nat × Bool)} {c : Operand} {b : Bool} (hc : holds l cs) (h : evS l cs c = .k (.bool b) ∨ evS l cs c = .v (.bool b)) : holds l (withC cs c b) := by
  cases c with
  | tmp t =>
    have hb := boolAt_ev h
    intro z hz
    rcases List.mem_append.1 hz with hz | hz
    · exact hc z hz
    · simp only [List.mem_singleton] at hz; subst hz; exact hb
  | _ => exact hc
theorem pick_sound {c x y : Operand} (m : M w0 β st a w) (hc : holds st.slots cs)
    (h : (match evS st.slots cs c, c with
    | .k (.bool b), _ => match plain (evS st.slots (withC cs c b) (if b then x else y)) with
      | some u => some ({ val := if closed (evS st.slots (withC cs c b) (if b then x else y)) then .k u else .v u, upd := none, sides := [] } : Res)
      | none => none
    | .v (.bool b), .tmp t => match plain (evS st.slots (cs ++ [(t, true)]) x), plain (evS st.slots (cs ++ [(t, false)]) y) with
      | some u, some v => some { val := .v (mergeN 3 b u v), upd := none, sides := [] }
      | _, _ => none
    | _, _ => none) = some r) (ho : o.op = .pick c x y) (hK : ∀ β' u w', Post w0 β st.slots st.heap r u β' w' → K (a.put o.dst u) w') : o.wp P a w K Q := by
  have hd := Den_eval m hc c
  have hrun : ∀ b, a.eval c = .bool b → (execOp a.eval o).run P w = .ok (.value (if b then a.eval x else a.eval y)) w := fun b hb => by
    simp only [execOp, ho, hb, asBool, Sem.run_bind, Sem.run_pure, Result.andThen_ok]
  split at h
  · rename_i b hev
    rw [hev] at hd
    split at h
    · rename_i u hu
      simp only [Option.some.injEq] at h; subst h
      have hx := eval_plain m (holds_withC hc (.inl hev)) hu
      refine wp_value (u := u) ?_ (hK β u w (Post.same m rfl ?_ ?_))
      · rw [hrun b hd]; cases b
        · exact congrArg (fun z => Result.ok (Next.value z) w) hx
        · exact congrArg (fun z => Result.ok (Next.value z) w) hx
      · dsimp only; generalize closed _ = q; cases q <;> rfl
      · intro n hn; revert hn; dsimp only; generalize closed _ = q; cases q <;> simp [names]
    · cases h
  · rename_i b t hev
    have hev' := hev
    rw [hev] at hd
    split at h
    · rename_i u v hu hv
      simp only [Option.some.injEq] at h; subst h
      have hb : boolAt st.slots t = some b := boolAt_ev (.inr hev')
      have hcc : ∀ q, boolAt st.slots t = some q → holds st.slots (cs ++ [(t, q)]) := fun q hq z hz => by
        rcases List.mem_append.1 hz with hz | hz
        · exact hc z hz
        · simp only [List.mem_singleton] at hz; subst hz; exact hq
      refine wp_value (u := mergeN 3 b u v) ?_ (hK β _ w (Post.same m rfl rfl (fun k hk => by simp [names] at hk)))
      rw [hrun b hd, mergeN_eq]
      cases b
      · rw [if_neg (by simp), if_neg (by simp), eval_plain m (hcc false hb) hv]
      · rw [if_pos rfl, if_pos rfl, eval_plain m (hcc true hb) hu]
    · cases h
  · cases h

theorem field_run {s f : Nat} {x : Operand} {b off : Nat} {fd : Field} {k : Nat} (ho : o.op = .fieldAddr s x f) (hx : a.eval x = .pointer (some ⟨b, off, none⟩)) (hf : fieldOf P s f = some fd) (hk : sizeO P fd.type = some (k + 1)) :
    (execOp a.eval o).run P w = .ok (.value (.pointer (some ⟨b, off + fd.offset, none⟩))) w := by
  unfold fieldOf at hf
  split at hf
  · rename_i fs hs
    simp only [execOp, ho, Instr.fieldAt, Sem.run_bind, underlying, run_program, hs, hf, hx, Instr.sureAddr, fieldPlace, sizeOf_run hk, Sem.run_pure, Result.andThen_ok, Nat.add_one_ne_zero, if_false, add_off]
  · cases hf

theorem field_sound {s f : Nat} {x : Operand} (m : M w0 β st a w) (hc : holds st.slots cs)
    (h : (match evS st.slots cs x, fieldOf P s f with
    | .loc n off, some fd => match sizeO P fd.type with
      | some (_ + 1) => some ({ val := .loc n (off + fd.offset), upd := none, sides := [] } : Res)
      | _ => none
    | .ix n off i len size, some fd => match sizeO P fd.type with
      | some (_ + 1) => some { val := .ix n (off + fd.offset) i len size, upd := none, sides := [] }
      | _ => none
    | _, _ => none) = some r) (ho : o.op = .fieldAddr s x f) (hK : ∀ β' u w', Post w0 β st.slots st.heap r u β' w' → K (a.put o.dst u) w') : o.wp P a w K Q := by
  have hd := Den_eval m hc x
  have hn := fun n => names_ev (cs := cs) m (x := x) (n := n)
  split at h
  · rename_i n off fd hev hfd
    rw [hev] at hd hn
    split at h
    · rename_i k hk
      simp only [Option.some.injEq] at h; subst h
      exact wp_value (field_run ho hd hfd hk) (hK β _ w (Post.same m rfl rfl (fun q hq => hn q hq)))
    · cases h
  · rename_i n off i len size fd hev hfd
    rw [hev] at hd hn
    split at h
    · rename_i k hk
      simp only [Option.some.injEq] at h; subst h
      exact wp_value (field_run ho hd.1 hfd hk) (hK β _ w (Post.same m rfl ⟨by rw [show off + fd.offset + i.toNat * size = off + i.toNat * size + fd.offset by omega], hd.2⟩ (fun q hq => hn q hq)))
    · cases h
  · cases h

theorem index_run {t : Nat} {x y : Operand} {b off len size e : Nat} {ki : IntKind} {i : Int} (ho : o.op = .indexAddr t x y) (hx : a.eval x = .pointer (some ⟨b, off, none⟩)) (hy : a.eval y = .int ki i)
    (ha : arrayOf P t = some (len, e)) (hs : sizeO P e = some size) (h0 : 0 ≤ i) (h1 : i < len) : (execOp a.eval o).run P w = .ok (.value (.pointer (some ⟨b, off + i.toNat * size, none⟩))) w := by
  unfold arrayOf at ha
  split at ha
  · rename_i n e' hu
    simp only [Option.some.injEq, Prod.mk.injEq] at ha
    obtain ⟨rfl, rfl⟩ := ha
    simp only [execOp, ho, Instr.indexAt, Sem.run_bind, hy, asIntOf, underlying, run_program, hu, hx, Instr.sureAddr, Sem.run_pure, Result.andThen_ok, h0, h1, and_self, if_true, sizeOf_run hs, add_off]
  · cases ha

theorem indexS_run {t : Nat} {x y : Operand} {b len cap size e : Nat} {ki : IntKind} {i : Int} (ho : o.op = .indexAddr t x y) (hx : a.eval x = .slice (some ⟨b, 0, none⟩) len cap) (hy : a.eval y = .int ki i)
    (ha : sliceOf P t = some e) (hs : sizeO P e = some size) (h0 : 0 ≤ i) (h1 : i < len) : (execOp a.eval o).run P w = .ok (.value (.pointer (some ⟨b, i.toNat * size, none⟩))) w := by
  unfold sliceOf at ha
  split at ha
  · rename_i e' hu
    simp only [Option.some.injEq] at ha
    subst ha
    simp only [execOp, ho, Instr.indexAt, Sem.run_bind, hy, asIntOf, underlying, run_program, hu, hx, Sem.run_pure, Result.andThen_ok, h0, h1, and_self, if_true, sizeOf_run hs, add_off, Nat.zero_add]
  · cases ha

theorem index_sound {t : Nat} {x y : Operand} (m : M w0 β st a w) (hc : holds st.slots cs)
    (h : (match evS st.slots cs x, evS st.slots cs y with
    | .loc n off, .k (.int _ i) => match arrayOf P t with
      | some (len, e) => match sizeO P e with
        | some size => if 0 ≤ i ∧ i < len then some ({ val := .loc n (off + i.toNat * size), upd := none, sides := [] } : Res) else none
        | none => none
      | none => none
    | .loc n off, .v (.int _ i) => match arrayOf P t with
      | some (len, e) => match sizeO P e with
        | some size => some { val := .ix n off i len size, upd := none, sides := [0 ≤ i ∧ i < len] }
        | none => none
      | none => none
    | .sl n len, .k (.int _ i) => match sliceOf P t with
      | some e => match sizeO P e with
        | some size => if 0 ≤ i ∧ i < len then some { val := .loc n (i.toNat * size), upd := none, sides := [] } else none
        | none => none
      | none => none
    | .sl n len, .v (.int _ i) => match sliceOf P t with
      | some e => match sizeO P e with
        | some size => some { val := .ix n 0 i len size, upd := none, sides := [0 ≤ i ∧ i < len] }
        | none => none
      | none => none
    | _, _ => none) = some r) (hs : allP r.sides) (ho : o.op = .indexAddr t x y) (hK : ∀ β' u w', Post w0 β st.slots st.heap r u β' w' → K (a.put o.dst u) w') : o.wp P a w K Q := by
  have hd := Den_eval m hc x
  have hy := Den_eval m hc y
  have hn := fun n => names_ev (cs := cs) m (x := x) (n := n)
  split at h
  · rename_i n off ki i hev hevy
    rw [hev] at hd hn
    rw [hevy] at hy
    split at h
    · rename_i len e ha
      split at h
      · rename_i size hsz
        split at h
        · rename_i hi
          simp only [Option.some.injEq] at h; subst h
          exact wp_value (index_run ho hd hy ha hsz hi.1 hi.2) (hK β _ w (Post.same m rfl rfl (fun q hq => hn q hq)))
        · cases h
      · cases h
    · cases h
  · rename_i n off ki i hev hevy
    rw [hev] at hd hn
    rw [hevy] at hy
    split at h
    · rename_i len e ha
      split at h
      · rename_i size hsz
        simp only [Option.some.injEq] at h; subst h
        exact wp_value (index_run ho hd hy ha hsz hs.1.1 hs.1.2) (hK β _ w (Post.same m rfl ⟨rfl, hs.1⟩ (fun q hq => hn q hq)))
      · cases h
    · cases h
  · rename_i n len ki i hev hevy
    rw [hev] at hd hn
    rw [hevy] at hy
    split at h
    · rename_i e ha
      split at h
      · rename_i size hsz
        split at h
        · rename_i hi
          simp only [Option.some.injEq] at h; subst h
          exact wp_value (indexS_run ho hd hy ha hsz hi.1 hi.2) (hK β _ w (Post.same m rfl rfl (fun q hq => hn q hq)))
        · cases h
      · cases h
    · cases h
  · rename_i n len ki i hev hevy
    rw [hev] at hd hn
    rw [hevy] at hy
    split at h
    · rename_i e ha
      split at h
      · rename_i size hsz
        simp only [Option.some.injEq] at h; subst h
        exact wp_value (indexS_run ho hd hy ha hsz hs.1.1 hs.1.2) (hK β _ w (Post.same m rfl ⟨by rw [Nat.zero_add], hs.1⟩ (fun q hq => hn q hq)))
      · cases h
    · cases h
  · cases h

theorem buildSlice_sound {t len fresh : Nat} {parts : Array (Nat × Operand)} (m : M w0 β st a w) (hc : holds st.slots cs) (hf : fresh < st.heap.length) (hn : st.heap.getD fresh none = none)
    (h : (match sliceOf P t, plains (evS st.slots cs) (parts.toList.map (·.2)) with
    | some e, some _ => match fillOf P e len (parts.toList.map fun p => (p.1, plainD (evS st.slots cs p.2))) with
      | some cells => some ({ val := .sl fresh len, upd := some (fresh, e, cells), sides := [] } : Res)
      | none => none
    | _, _ => none) = some r) (ho : o.op = .buildSlice t len parts) (hK : ∀ β' u w', Post w0 β st.slots st.heap r u β' w' → K (a.put o.dst u) w') : o.wp P a w K Q := by
  split at h
  · rename_i e vs he hvs
    split at h
    · rename_i cells hcells
      simp only [Option.some.injEq] at h; subst h
      refine wp_value (u := .slice (some ⟨w.heap.size, 0, none⟩) len len) ?_ (hK _ _ _ (new_post m hf hn e cells (sv := .sl fresh len) (fun β' hb => by simp [Den, hb]) rfl))
      have hev : (parts.map fun p => (p.1, a.eval p.2)).toList = parts.toList.map fun p => (p.1, plainD (evS st.slots cs p.2)) := by
        rw [Array.toList_map]
        refine List.map_congr_left fun p hp => ?_
        have := (plains_spec hvs).2 p.2 (List.mem_map.2 ⟨p, hp, rfl⟩)
        rw [eval_plain m hc this]
      unfold sliceOf at he
      split at he
      · rename_i e' hu
        simp only [Option.some.injEq] at he; subst he
        unfold fillOf at hcells
        split at hcells
        · rename_i size z hsz hz
          split at hcells
          · cases hcells
          · rename_i h1
            split at hcells
            · cases hcells
            · rename_i h2
              split at hcells
              · rename_i cl hcl
                simp only [Option.some.injEq] at hcells; subst hcells
                rw [← hev] at hcl
                simp only [execOp, ho, Instr.buildSlice, Sem.run_bind, underlying, run_program, hu, Sem.run_pure, Result.andThen_ok, sizeOf_run hsz, h1, h2, if_false, zero_run hz, hcl, newRow, run_newObj, Array.toArray_toList]
              · cases hcells
        · cases hcells
      · cases he
    · cases h
  · cases h

theorem call_sound {tb : Nat → List Value → Option (Value × List Prop)} (ht : TbOk P tb) {f : Nat} {args : Array Operand} {ts : Array TypeId} (m : M w0 β st a w) (hc : holds st.slots cs)
    (h : (match plains (evS st.slots cs) args.toList with
    | some vs => match tb f vs with
      | some (u, ps) => some ({ val := .v u, upd := none, sides := ps } : Res)
      | none => none
    | none => none) = some r) (hs : allP r.sides) (ho : o.op = .call { callee := .value (.func f), args, argTypes := ts }) (hK : ∀ β' u w', Post w0 β st.slots st.heap r u β' w' → K (a.put o.dst u) w') : o.wp P a w K Q := by
  split at h
  · rename_i vs hvs
    split at h
    · rename_i u ps hu
      simp only [Option.some.injEq] at h; subst h
      have hcall := ht f vs u ps hu hs w
      have hargs : args.map a.eval = vs.toArray := by
        obtain ⟨h1, h2⟩ := plains_spec hvs
        apply Array.ext'
        rw [Array.toList_map, h1]
        exact List.map_congr_left fun x hx => eval_plain m hc (h2 x hx)
      have hrun : (execOp a.eval o).run P w = (callFunc f vs.toArray).run P w := by
        simp only [execOp, ho, Go.resolve, Deferred.ofValue, Act.eval, Sem.run_bind, Sem.run_pure, Result.andThen_ok, invoke, hargs]
        simp
      have hpost : ∀ w', Below w.heap.size w w' → Post w0 β st.slots st.heap { val := .v u, upd := none, sides := ps } u β w' := fun w' hb =>
        ⟨fun _ _ _ => rfl, rfl, fun k hk => by simp [names] at hk, m.mem.call hb⟩
      unfold Oper.wp
      rw [hrun]
      split at hcall
      · rename_i u' w' hr
        rw [hr]
        obtain ⟨rfl, hb⟩ := hcall
        exact hK β _ w' (hpost w' hb)
      · rename_i f' as w' hr
        rw [hr]
        obtain ⟨rfl, hcs⟩ := hcall
        exact hcs.mono fun e w'' ⟨he, hb⟩ => by subst he; exact hK β _ w'' (hpost w'' hb)
      · exact hcall.elim
    · cases h
  · cases h
end
end Go.Proofs.Ytgdjfclpncpnpaa.Sym
