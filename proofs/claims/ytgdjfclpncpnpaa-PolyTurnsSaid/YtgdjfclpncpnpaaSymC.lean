/-
  OWN WORK. A symbolic executor for Go text over open terms, part C: one operation is sound.
-/
import Derived.Test.YtgdjfclpncpnpaaSymB
namespace Go.Proofs.Ytgdjfclpncpnpaa.Sym
open Go Go.RowKit

theorem getD_set' {α : Type} (l : List α) (n m : Nat) (x d : α) : (l.set n x).getD m d = if n = m ∧ n < l.length then x else l.getD m d := by
  simp only [List.getD_eq_getElem?_getD, List.getElem?_set]
  by_cases h : n = m
  · subst h
    by_cases h' : n < l.length
    · simp [h']
    · simp [h']
  · simp [h]

def heapSet (h : List (Option Cells)) : Option (Nat × Cells) → List (Option Cells)
  | some (n, c) => h.set n (some c)
  | none => h

structure Post (w0 : World) (β : Nat → Nat) (l : List SV) (h : List (Option Cells)) (r : Res) (u : Value) (β' : Nat → Nat) (w' : World) : Prop where
  keep : ∀ n c, h.getD n none = some c → β' n = β n
  den : Den β' l r.val u
  nm : ∀ n ∈ names r.val, ∃ c, (heapSet h r.upd).getD n none = some c
  mem : Mem w0 β' (heapSet h r.upd) w'

/-- what a call of function K of these arguments gives -/
def CallOk (P : Program) (K : Nat) (args : List Value) (v : Value) : Prop := ∀ w : World,
  match (callFunc K args.toArray).run P w with
  | .ok (.value u) w' => u = v ∧ Below w.heap.size w w'
  | .ok (.enter f as) w' => w' = w ∧ Calls P f as w (fun e w'' => e = .returned v ∧ Below w.heap.size w w'')
  | _ => False

def TbOk (P : Program) (tb : Nat → List Value → Option (Value × List Prop)) : Prop := ∀ K args v ps, tb K args = some (v, ps) → allP ps → CallOk P K args v

section
variable {P : Program} {w0 w : World} {β : Nat → Nat} {h : List (Option Cells)}

theorem Mem.lt (m : Mem w0 β h w) {n : Nat} {c : Cells} (hn : h.getD n none = some c) : β n < w.heap.size := by
  have := (m.at_ n c hn).1
  rcases Nat.lt_or_ge (β n) w.heap.size with hl | hl
  · exact hl
  · rw [Array.getElem?_eq_none hl] at this; cases this

theorem Mem.call (m : Mem w0 β h w) {w' : World} (hb : Below w.heap.size w w') : Mem w0 β h w' where
  at_ n c hn := ⟨(hb.block _ (m.lt hn)).trans (m.at_ n c hn).1, (m.at_ n c hn).2⟩
  inj := m.inj
  below := m.below.trans (hb.mono m.below.size)

def bump (β : Nat → Nat) (n b : Nat) : Nat → Nat := fun k => if k = n then b else β k

theorem Mem.new (m : Mem w0 β h w) {n : Nat} (hl : n < h.length) (t : TypeId) (cs : List Value) :
    Mem w0 (bump β n w.heap.size) (h.set n (some (t, cs))) { w with heap := w.heap.push (.cells cs.toArray t) } where
  at_ k c hk := by
    rw [getD_set'] at hk
    unfold bump
    by_cases e : n = k
    · subst e
      rw [if_pos ⟨rfl, hl⟩] at hk
      simp only [Option.some.injEq] at hk; subst hk
      simp only [if_true]
      exact ⟨by simp, m.below.size⟩
    · rw [if_neg (fun x => e x.1)] at hk
      rw [if_neg (fun x => e x.symm)]
      have := m.lt hk
      exact ⟨by rw [← (m.at_ k c hk).1]; simp [Array.getElem?_push, Nat.ne_of_lt this], (m.at_ k c hk).2⟩
  inj k l c d hk hd hb := by
    rw [getD_set'] at hk hd
    unfold bump at hb
    by_cases e : n = k <;> by_cases e' : n = l
    · exact e.symm.trans e'
    · subst e
      rw [if_neg (fun x => e' x.1)] at hd
      rw [if_pos rfl, if_neg (fun x => e' x.symm)] at hb
      have := m.lt hd
      omega
    · subst e'
      rw [if_neg (fun x => e x.1)] at hk
      rw [if_neg (fun x => e x.symm), if_pos rfl] at hb
      have := m.lt hk
      omega
    · rw [if_neg (fun x => e x.1)] at hk
      rw [if_neg (fun x => e' x.1)] at hd
      rw [if_neg (fun x => e x.symm), if_neg (fun x => e' x.symm)] at hb
      exact m.inj k l c d hk hd hb
  below := m.below.trans ⟨rfl, rfl, rfl, by simp, fun k hk => by
    have h0 : k < w.heap.size := Nat.lt_of_lt_of_le hk m.below.size
    simp [Array.getElem?_push, Nat.ne_of_lt h0]⟩

theorem Mem.put (m : Mem w0 β h w) {n : Nat} {c : Cells} (hn : h.getD n none = some c) {cs : List Value} {w' : World} (hb : w'.heap[β n]? = some (.cells cs.toArray c.1 (0, 0)))
    (hk : ∀ k, k ≠ β n → w'.heap[k]? = w.heap[k]?) (hs : w'.heap.size = w.heap.size) (ho : w'.os = w.os) (ht : w'.tape = w.tape) (hu : w'.output = w.output) : Mem w0 β (h.set n (some (c.1, cs))) w' where
  at_ k d hd := by
    rw [getD_set'] at hd
    by_cases e : n = k
    · subst e
      by_cases hl : n < h.length
      · rw [if_pos ⟨rfl, hl⟩] at hd
        simp only [Option.some.injEq] at hd; subst hd
        exact ⟨hb, (m.at_ n c hn).2⟩
      · have : h.getD n none = none := by simp [List.getElem?_eq_none (Nat.le_of_not_lt hl)]
        rw [this] at hn; cases hn
    · rw [if_neg (fun x => e x.1)] at hd
      have hne : β k ≠ β n := fun hb => e (m.inj k n d c hd hn hb).symm
      exact ⟨(hk _ hne).trans (m.at_ k d hd).1, (m.at_ k d hd).2⟩
  inj k l d d' hd hd' := by
    rw [getD_set'] at hd hd'
    have key : ∀ j x, (if n = j ∧ n < h.length then some (c.1, cs) else h.getD j none) = some x → ∃ y, h.getD j none = some y := by
      intro j x hx
      by_cases e : n = j
      · subst e; exact ⟨c, hn⟩
      · rw [if_neg (fun z => e z.1)] at hx; exact ⟨x, hx⟩
    obtain ⟨y, hy⟩ := key k d hd
    obtain ⟨y', hy'⟩ := key l d' hd'
    exact m.inj k l y y' hy hy'
  below := m.below.trans ⟨ho, ht, hu, by omega, fun k hk' => hk k (by have := (m.at_ n c hn).2; omega)⟩
end

theorem plains_spec {ev : Operand → SV} : ∀ {xs : List Operand} {vs : List Value}, plains ev xs = some vs → vs = xs.map (fun x => plainD (ev x)) ∧ ∀ x ∈ xs, plain (ev x) = some (plainD (ev x))
  | [], vs, h => by simp only [plains, Option.some.injEq] at h; subst h; exact ⟨rfl, fun _ hx => (by cases hx)⟩
  | x :: xs, vs, h => by
    simp only [plains] at h
    split at h
    · rename_i v vs' hv hvs
      simp only [Option.some.injEq] at h; subst h
      obtain ⟨h1, h2⟩ := plains_spec hvs
      have e : plainD (ev x) = v := by simp [plainD, hv]
      refine ⟨by rw [List.map_cons, e, h1], fun y hy => ?_⟩
      rcases List.mem_cons.1 hy with rfl | hy
      · rw [hv, e]
      · exact h2 y hy
    · cases h

section
variable {P : Program} {w0 w : World} {β : Nat → Nat} {st : St} {a : Act} {cs : List (Nat × Bool)} {o : Oper} {r : Res} {K : Act → World → Prop} {Q : Exit → Act → World → Prop}

theorem eval_plain (m : M w0 β st a w) (hc : holds st.slots cs) {x : Operand} {v : Value} (h : plain (evS st.slots cs x) = some v) : a.eval x = v := plain_eval (Den_eval m hc x) h

theorem Post.same (m : M w0 β st a w) {r : Res} {u : Value} (hu : r.upd = none) (hd : Den β st.slots r.val u) (hn : ∀ n ∈ names r.val, ∃ c, st.heap.getD n none = some c) : Post w0 β st.slots st.heap r u β w :=
  ⟨fun _ _ _ => rfl, hd, by rw [hu]; exact hn, by rw [hu]; exact m.mem⟩

theorem wp_value {u : Value} {w' : World} (hr : (execOp a.eval o).run P w = .ok (.value u) w') (hk : K (a.put o.dst u) w') : o.wp P a w K Q := by
  unfold Oper.wp; rw [hr]; exact hk
theorem wp_skip' {w' : World} (hr : (execOp a.eval o).run P w = .ok .skip w') (hk : K (a.put o.dst undef) w') : o.wp P a w K Q := by
  unfold Oper.wp; rw [hr]; exact hk

theorem plainRes_sound (m : M w0 β st a w) (hc : holds st.slots cs) (h : plainRes P (evS st.slots cs) o = some r) (hK : ∀ β' u w', Post w0 β st.slots st.heap r u β' w' → K (a.put o.dst u) w') : o.wp P a w K Q := by
  unfold plainRes at h
  split at h
  · cases h
  · rename_i vs _ hvs hsel
    split at h
    · rename_i u hu
      simp only [Option.some.injEq] at h; subst h
      have hev : execOp a.eval o = execOp (fun x => plainD (evS st.slots cs x)) o := execOp_congr o hsel fun x hx => by
        have := (plains_spec hvs).2 x (Array.mem_toList_iff.2 hx)
        exact eval_plain m hc this
      have hrun := pureRun_run _ hu w
      rw [← hev] at hrun
      refine wp_value hrun (hK β u w (Post.same m rfl ?_ ?_))
      · dsimp only; split <;> rfl
      · intro n hn; dsimp only at hn; split at hn <;> simp [names] at hn
    · cases h
  · cases h
end
end Go.Proofs.Ytgdjfclpncpnpaa.Sym
