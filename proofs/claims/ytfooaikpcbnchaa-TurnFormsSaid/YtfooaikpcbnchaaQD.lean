/-
  OWN WORK. Joined by merge.py: DynR DynS DynT Geo Con Cob Dgo Row.
-/
import Derived.Test.YtfooaikpcbnchaaQC
import Derived.Test.YtfooaikpcbnchaaQA
import Derived.Test.YtfooaikpcbnchaaProg
import Derived.KernelRfl
import Derived.ProofKit
import Derived.Carry
import Derived.Lib.SmallJoins
import Derived.Deep.Fields
/-! ## DynR -/
namespace Go.Proofs.Ytfooaikpcbnchaa.Dyn
open Go Go.RowKit Sym

/-! ### other names -/
def ixOf : List Nat → Nat → Nat → Option Nat
  | [], _, _ => none
  | m :: l, k, n => bif Nat.beq m n then some k else ixOf l (k + 1) n
def mvP (σ : List Nat) : Value → Option Value
  | .pointer (some a) => match ixOf σ 0 a.block with
    | some n => some (.pointer (some ⟨n, a.off, a.spot⟩))
    | none => none
  | .slice (some a) l c => match a.spot with
    | none => some (.slice (some a) l c)
    | some s => match ixOf σ 0 a.block with
      | some n => some (.slice (some ⟨n, a.off, some s⟩) l c)
      | none => none
  | x => some x
def mvL (f : Value → Option Value) : List Value → Option (List Value)
  | [] => some []
  | x :: l => match f x, mvL f l with
    | some y, some m => some (y :: m)
    | _, _ => none
def mv0 (σ : List Nat) : Value → Option Value
  | .func fn fst caps => match mvL (mvP σ) caps.toList with
    | some l => some (.func fn fst l.toArray)
    | none => none
  | x => mvP σ x
def mv1 (σ : List Nat) : Value → Option Value
  | .agg cs => match mvL (mv0 σ) cs.toList with
    | some l => some (.agg l.toArray)
    | none => none
  | x => mv0 σ x
def mv (σ : List Nat) : Value → Option Value
  | .tuple vs => match mvL (mv1 σ) vs.toList with
    | some l => some (.tuple l.toArray)
    | none => none
  | x => mv1 σ x
def mvSV (σ : List Nat) : SV → SV
  | .k x => .k x
  | .v x => match mv σ x with
    | some y => .v y
    | none => .junk
  | .ix n off i len size => match ixOf σ 0 n with
    | some m => .ix m off i len size
    | none => .junk
  | .ex n j off size i => match ixOf σ 0 n with
    | some m => .ex m j off size i
    | none => .junk
  | .hp n j off => match ixOf σ 0 n with
    | some m => .hp m j off
    | none => .junk
  | _ => .junk
def mvHE (σ : List Nat) : Option HE → Option HE
  | some (.cells t cs) => match mvL (mv0 σ) cs with
    | some l => some (.cells t l)
    | none => some .gone
  | x => x
def mvSlots (σ : List Nat) (j v : Nat) : Nat → List SV → List SV
  | _, [] => []
  | i, x :: xs => (if j.testBit i then .junk else if v.testBit i then (match x with | .k u => if flat u then .v u else .junk | y => mvSV σ y) else mvSV σ x) :: mvSlots σ j v (i + 1) xs
def mvHeap (σ : List Nat) (h : List (Option HE)) : List Nat → List (Option HE)
  | [] => []
  | n :: l => mvHE σ (h.getD n none) :: mvHeap σ h l
/-- the names of σ, in its order, and no others; slots of the mask j are forgotten, closed values of the mask v are any values -/
def relabel (σ : List Nat) (j v : Nat) (s : St) : St := { slots := mvSlots σ j v 0 s.slots, heap := mvHeap σ s.heap σ, fix := s.fix }

def pull (σ : List Nat) (β : Env) : Env := fun n => β (σ.getD n 0)

theorem ixOf_spec : ∀ {σ : List Nat} {k n m : Nat}, ixOf σ k n = some m → k ≤ m ∧ σ[m - k]? = some n
  | [], k, n, m, h => by cases h
  | q :: σ, k, n, m, h => by
    simp only [ixOf] at h
    cases hb : Nat.beq q n with
    | true =>
      rw [hb] at h
      simp only [cond_true, Option.some.injEq] at h; subst h
      have := Nat.eq_of_beq_eq_true hb
      subst this
      simp
    | false =>
      rw [hb] at h
      obtain ⟨h1, h2⟩ := ixOf_spec (σ := σ) (k := k + 1) h
      refine ⟨by omega, ?_⟩
      rw [show m - k = (m - (k + 1)) + 1 by omega, List.getElem?_cons_succ]; exact h2
theorem ixOf_pull {σ : List Nat} {β : Env} {n m : Nat} (h : ixOf σ 0 n = some m) : pull σ β m = β n ∧ m < σ.length := by
  obtain ⟨_, h2⟩ := ixOf_spec h
  rw [Nat.sub_zero] at h2
  refine ⟨by unfold pull; rw [List.getD_eq_getElem?_getD, h2]; rfl, (List.getElem?_eq_some_iff.1 h2).1⟩

/-- renamed values: what they stand for, what they name -/
def MvOk (σ : List Nat) (ren : Env → Value → Value) (refs : Value → List Nat) (x y : Value) : Prop := (∀ β, ren (pull σ β) y = ren β x) ∧ ∀ m ∈ refs y, ∃ n ∈ refs x, σ[m]? = some n
theorem mvP_ok {σ : List Nat} {x y : Value} (h : mvP σ x = some y) : MvOk σ renP refsP x y := by
  unfold mvP at h
  split at h
  · rename_i a
    split at h
    · rename_i n hn
      simp only [Option.some.injEq] at h; subst h
      refine ⟨fun β => ?_, fun m hm => ?_⟩
      · have := (ixOf_pull (β := β) hn).1
        simp only [renP]; rw [this]
      · simp only [refsP, List.mem_singleton] at hm; subst hm
        have := (ixOf_spec hn).2
        exact ⟨a.block, by simp [refsP], by simpa using this⟩
    · cases h
  · rename_i a l c
    split at h
    · rename_i hs
      simp only [Option.some.injEq] at h; subst h
      exact ⟨fun β => by simp only [renP, hs], fun m hm => by simp only [refsP, hs] at hm; cases hm⟩
    · rename_i s hs
      split at h
      · rename_i n hn
        simp only [Option.some.injEq] at h; subst h
        refine ⟨fun β => ?_, fun m hm => ?_⟩
        · have := (ixOf_pull (β := β) hn).1
          simp only [renP, hs]; rw [this]
        · simp only [refsP, List.mem_singleton] at hm; subst hm
          have := (ixOf_spec hn).2
          exact ⟨a.block, by simp [refsP, hs], by simpa using this⟩
      · cases h
  · rename_i h1 h2
    simp only [Option.some.injEq] at h; subst h
    cases x with
    | pointer a => cases a with
      | none => exact ⟨fun β => rfl, fun m hm => by cases hm⟩
      | some a => exact absurd rfl (h1 a)
    | slice a l c => cases a with
      | none => exact ⟨fun β => rfl, fun m hm => by cases hm⟩
      | some a => exact absurd rfl (h2 a l c)
    | _ => exact ⟨fun β => rfl, fun m hm => by cases hm⟩
theorem mvL_ok {σ : List Nat} {ren : Env → Value → Value} {refs : Value → List Nat} {f : Value → Option Value} (hf : ∀ x y, f x = some y → MvOk σ ren refs x y) : ∀ {l m : List Value}, mvL f l = some m → (∀ β, m.map (ren (pull σ β)) = l.map (ren β)) ∧ ∀ q ∈ refsL refs m, ∃ n ∈ refsL refs l, σ[q]? = some n
  | [], m, h => by
    simp only [mvL, Option.some.injEq] at h; subst h
    exact ⟨fun _ => rfl, fun q hq => by cases hq⟩
  | x :: l, m, h => by
    simp only [mvL] at h
    split at h
    · rename_i y m' hy hm
      simp only [Option.some.injEq] at h; subst h
      obtain ⟨a1, a2⟩ := hf x y hy
      obtain ⟨b1, b2⟩ := mvL_ok hf hm
      refine ⟨fun β => by rw [List.map_cons, List.map_cons, a1 β, b1 β], fun q hq => ?_⟩
      simp only [refsL, List.mem_append] at hq ⊢
      rcases hq with hq | hq
      · obtain ⟨n, h1, h2⟩ := a2 q hq; exact ⟨n, .inl h1, h2⟩
      · obtain ⟨n, h1, h2⟩ := b2 q hq; exact ⟨n, .inr h1, h2⟩
    · cases h
theorem mv0_ok {σ : List Nat} {x y : Value} (h : mv0 σ x = some y) : MvOk σ ren0 refs0 x y := by
  unfold mv0 at h
  split at h
  · rename_i fn fst caps
    split at h
    · rename_i l hl
      simp only [Option.some.injEq] at h; subst h
      obtain ⟨h1, h2⟩ := mvL_ok (fun x y => mvP_ok) hl
      exact ⟨fun β => by simp only [ren0, h1 β], h2⟩
    · cases h
  · rename_i hx
    obtain ⟨h1, h2⟩ := mvP_ok h
    have hy : ∀ a b c, y ≠ .func a b c := by
      intro a b c e; subst e
      unfold mvP at h
      split at h
      · split at h <;> cases h
      · split at h
        · cases h
        · split at h <;> cases h
      · simp only [Option.some.injEq] at h; exact hx _ _ _ h
    have e1 : ∀ β z, (∀ a b c, z ≠ Value.func a b c) → ren0 β z = renP β z ∧ refs0 z = refsP z := fun β z hz => by
      cases z <;> first | exact ⟨rfl, rfl⟩ | exact absurd rfl (hz _ _ _)
    refine ⟨fun β => by rw [(e1 _ y hy).1, (e1 _ x hx).1, h1 β], fun m hm => ?_⟩
    rw [(e1 (fun _ => (0, fun _ => undef)) y hy).2] at hm
    rw [(e1 (fun _ => (0, fun _ => undef)) x hx).2]
    exact h2 m hm
theorem mv0_one {σ : List Nat} {x y : Value} (h : mv0 σ x = some y) : (∀ cs, y = .agg cs → x = .agg cs) ∧ (∀ vs, y = .tuple vs → x = .tuple vs) := by
  unfold mv0 at h
  split at h
  · split at h
    · simp only [Option.some.injEq] at h; subst h
      exact ⟨fun _ e => (by cases e), fun _ e => (by cases e)⟩
    · cases h
  · unfold mvP at h
    split at h
    · split at h
      · simp only [Option.some.injEq] at h; subst h
        exact ⟨fun _ e => (by cases e), fun _ e => (by cases e)⟩
      · cases h
    · split at h
      · simp only [Option.some.injEq] at h; subst h
        exact ⟨fun _ e => (by cases e), fun _ e => (by cases e)⟩
      · split at h
        · simp only [Option.some.injEq] at h; subst h
          exact ⟨fun _ e => (by cases e), fun _ e => (by cases e)⟩
        · cases h
    · simp only [Option.some.injEq] at h; subst h
      exact ⟨fun _ e => e, fun _ e => e⟩
theorem mv1_ok {σ : List Nat} {x y : Value} (h : mv1 σ x = some y) : MvOk σ ren1 refs1 x y := by
  unfold mv1 at h
  split at h
  · rename_i cs
    split at h
    · rename_i l hl
      simp only [Option.some.injEq] at h; subst h
      obtain ⟨h1, h2⟩ := mvL_ok (fun x y => mv0_ok) hl
      exact ⟨fun β => by simp only [ren1, h1 β], h2⟩
    · cases h
  · rename_i hx
    obtain ⟨h1, h2⟩ := mv0_ok h
    have hy : ∀ cs, y ≠ .agg cs := fun cs e => hx cs ((mv0_one h).1 cs e)
    have e1 : ∀ β z, (∀ a, z ≠ Value.agg a) → ren1 β z = ren0 β z ∧ refs1 z = refs0 z := fun β z hz => by
      cases z <;> first | exact ⟨rfl, rfl⟩ | exact absurd rfl (hz _)
    refine ⟨fun β => by rw [(e1 _ y hy).1, (e1 _ x hx).1, h1 β], fun m hm => ?_⟩
    rw [(e1 (fun _ => (0, fun _ => undef)) y hy).2] at hm
    rw [(e1 (fun _ => (0, fun _ => undef)) x hx).2]
    exact h2 m hm
theorem mv_ok {σ : List Nat} {x y : Value} (h : mv σ x = some y) : MvOk σ ren refs x y := by
  unfold mv at h
  split at h
  · rename_i vs
    split at h
    · rename_i l hl
      simp only [Option.some.injEq] at h; subst h
      obtain ⟨h1, h2⟩ := mvL_ok (fun x y => mv1_ok) hl
      exact ⟨fun β => by simp only [ren, h1 β], h2⟩
    · cases h
  · rename_i hx
    obtain ⟨h1, h2⟩ := mv1_ok h
    have hy : ∀ vs, y ≠ .tuple vs := fun vs e => by
      subst e
      unfold mv1 at h
      split at h
      · split at h <;> cases h
      · exact hx vs ((mv0_one h).2 vs rfl)
    have e1 : ∀ β z, (∀ a, z ≠ Value.tuple a) → ren β z = ren1 β z ∧ refs z = refs1 z := fun β z hz => by
      cases z <;> first | exact ⟨rfl, rfl⟩ | exact absurd rfl (hz _)
    refine ⟨fun β => by rw [(e1 _ y hy).1, (e1 _ x hx).1, h1 β], fun m hm => ?_⟩
    rw [(e1 (fun _ => (0, fun _ => undef)) y hy).2] at hm
    rw [(e1 (fun _ => (0, fun _ => undef)) x hx).2]
    exact h2 m hm

theorem mvSlots_length (σ : List Nat) (j v : Nat) : ∀ (l : List SV) (i : Nat), (mvSlots σ j v i l).length = l.length
  | [], _ => rfl
  | _ :: l, i => by simp only [mvSlots, List.length_cons]; rw [mvSlots_length σ j v l (i + 1)]
theorem mvSlots_at (σ : List Nat) (j v : Nat) : ∀ (l : List SV) (i n : Nat), (mvSlots σ j v i l).getD n .junk = .junk ∨ (∃ u, l.getD n .junk = .k u ∧ flat u = true ∧ (mvSlots σ j v i l).getD n .junk = .v u) ∨ (mvSlots σ j v i l).getD n .junk = mvSV σ (l.getD n .junk)
  | [], i, n => by simp [mvSlots]
  | x :: l, i, 0 => by
    simp only [mvSlots, List.getD_cons_zero]
    split
    · exact .inl rfl
    · split
      · split
        · rename_i u
          split
          · rename_i hf; exact .inr (.inl ⟨u, rfl, hf, rfl⟩)
          · exact .inl rfl
        · exact .inr (.inr rfl)
      · exact .inr (.inr rfl)
  | x :: l, i, n + 1 => by
    simp only [mvSlots, List.getD_cons_succ]
    exact mvSlots_at σ j v l (i + 1) n
theorem mvHeap_at (σ : List Nat) (h : List (Option HE)) : ∀ (l : List Nat) (n : Nat), (mvHeap σ h l).getD n none = match l[n]? with
    | some q => mvHE σ (h.getD q none)
    | none => none
  | [], n => by simp [mvHeap]
  | q :: l, 0 => by simp [mvHeap]
  | q :: l, n + 1 => by
    simp only [mvHeap, List.getD_cons_succ, List.getElem?_cons_succ]
    exact mvHeap_at σ h l n

section
variable {P : Program} {w0 : Base P} {w : World} {β : Env} {s : St} {a : Act}

theorem relabel_noG (σ : List Nat) (j v : Nat) (s : St) : NoG (relabel σ j v s) := by
  intro x hx
  obtain ⟨n, hn⟩ := List.mem_iff_getElem?.1 hx
  have e : (mvSlots σ j v 0 s.slots).getD n .junk = x := by
    have hn' : (mvSlots σ j v 0 s.slots)[n]? = some x := hn
    rw [List.getD_eq_getElem?_getD, hn']; rfl
  rcases mvSlots_at σ j v s.slots 0 n with h | ⟨u, _, _, h⟩ | h
  · rw [← e, h]; rfl
  · rw [← e, h]; rfl
  · rw [← e, h]
    generalize s.slots.getD n .junk = y
    cases y <;> simp only [mvSV] <;> first | rfl | (split <;> rfl)

theorem relabel_M {σ : List Nat} (hσ : σ.Nodup) (j v : Nat) (m : M w0 β s a w) (ng : NoG s) : M w0 (pull σ β) (relabel σ j v s) a w := by
  have hp : ∀ n q, σ[n]? = some q → pull σ β n = β q := fun n q h => by unfold pull; rw [List.getD_eq_getElem?_getD, h]; rfl
  -- what stands at a name
  have hold : ∀ n he, (mvHeap σ s.heap σ).getD n none = some he → ∃ q he0, σ[n]? = some q ∧ s.heap.getD q none = some he0 ∧ (he = .gone ∨ he = he0 ∧ (∀ t cs, he ≠ .cells t cs) ∨ ∃ t cs cs', he0 = .cells t cs ∧ he = .cells t cs' ∧ mvL (mv0 σ) cs = some cs') := fun n he hn => by
    rw [mvHeap_at] at hn
    split at hn
    · rename_i q hq
      refine ⟨q, ?_⟩
      unfold mvHE at hn
      split at hn
      · rename_i t cs hc
        split at hn
        · rename_i l hl
          simp only [Option.some.injEq] at hn
          exact ⟨_, hq, hc, .inr (.inr ⟨t, cs, l, rfl, hn.symm, hl⟩)⟩
        · simp only [Option.some.injEq] at hn
          exact ⟨_, hq, hc, .inl hn.symm⟩
      · rename_i hnc
        exact ⟨he, hq, hn, .inr (.inl ⟨rfl, fun t cs e => hnc t cs (by rw [hn, e])⟩)⟩
    · cases hn
  have hblk : ∀ n he b, (mvHeap σ s.heap σ).getD n none = some he → blkOf he (pull σ β n) = some b → ∃ q he0, σ[n]? = some q ∧ s.heap.getD q none = some he0 ∧ blkOf he0 (β q) = some b := fun n he b hn hb => by
    obtain ⟨q, he0, h1, h2, h3⟩ := hold n he hn
    rw [hp n q h1] at hb
    rcases h3 with rfl | ⟨rfl, _⟩ | ⟨t, cs, cs', rfl, rfl, _⟩
    · cases hb
    · exact ⟨q, he, h1, h2, hb⟩
    · exact ⟨q, _, h1, h2, hb⟩
  have hNF : ∀ b, NF w0 β s.heap w b → NF w0 (pull σ β) (mvHeap σ s.heap σ) w b ∧ w.heap[b]? = w.heap[b]? := fun b hN => ⟨by
    rcases hN with z | ⟨k1, k2, k3⟩
    · exact .inl z
    · refine .inr ⟨k1, k2, fun n he hn hb => ?_⟩
      obtain ⟨q, he0, h1, h2, h3⟩ := hblk n he b hn hb
      exact k3 q he0 h2 h3, rfl⟩
  have hex : ∀ q c, s.heap.getD q none = some c → ∀ n, σ[n]? = some q → ∃ c', (mvHeap σ s.heap σ).getD n none = some c' := fun q c hq n hn => by
    rw [mvHeap_at, hn]
    dsimp only
    rw [hq]
    unfold mvHE
    split
    · split
      · exact ⟨_, rfl⟩
      · exact ⟨_, rfl⟩
    · exact ⟨_, rfl⟩
  refine { defers := m.defers, size := by rw [m.size]; exact (mvSlots_length σ j v s.slots 0).symm, slot := fun i u hu => ?_, locs := fun i n hn => ?_, mem := ⟨fun n he hn => ?_, fun n k c d b hn hk hc hd => ?_, fun n t cs hn x hx q hq => ?_, fun n j => m.mem.one _ j, m.mem.below⟩, tie := m.tie }
  · have hd := m.slot i u hu
    have hd' : ∀ l', Den β l' (s.slots.getD i .junk) u := fun l' => Den_congr (fun _ _ => rfl) (fun c hc => by rw [isG_conds (ng.at_ i)] at hc; cases hc) hd
    show Den (pull σ β) _ ((mvSlots σ j v 0 s.slots).getD i .junk) u
    rcases mvSlots_at σ j v s.slots 0 i with h | ⟨x, h1, h2, h3⟩ | h
    · rw [h]; trivial
    · rw [h3]
      rw [h1] at hd
      exact (show u = _ from hd).trans (ren_flat h2).symm
    · rw [h]
      have hd'' := hd' (relabel σ j v s).slots
      revert hd''
      generalize s.slots.getD i .junk = y
      intro hd''
      cases y with
      | k x => exact hd''
      | v x =>
        simp only [mvSV]
        split
        · rename_i z hz
          exact (show u = _ from hd'').trans ((mv_ok hz).1 β).symm
        · trivial
      | ix n off q len size =>
        simp only [mvSV]
        split
        · rename_i z hz
          simp only [Den] at hd'' ⊢
          rw [(ixOf_pull (β := β) hz).1]; exact hd''
        · trivial
      | ex n jj off size q =>
        simp only [mvSV]
        split
        · rename_i z hz
          simp only [Den] at hd'' ⊢
          rw [(ixOf_pull (β := β) hz).1]; exact hd''
        · trivial
      | hp n jj off =>
        simp only [mvSV]
        split
        · rename_i z hz
          simp only [Den] at hd'' ⊢
          rw [(ixOf_pull (β := β) hz).1]; exact hd''
        · trivial
      | g cs x => trivial
      | junk => trivial
  · have hn' : n ∈ names ((mvSlots σ j v 0 s.slots).getD i .junk) := hn
    rcases mvSlots_at σ j v s.slots 0 i with h | ⟨x, h1, h2, h3⟩ | h
    · rw [h] at hn'; cases hn'
    · rw [h3] at hn'; simp only [names] at hn'; rw [refs_flat h2] at hn'; cases hn'
    · rw [h] at hn'
      have hl := m.locs i
      revert hn' hl
      generalize s.slots.getD i .junk = y
      intro hn' hl
      have fin : ∀ q, q ∈ names y → σ[n]? = some q → ∃ c, (mvHeap σ s.heap σ).getD n none = some c := fun q hq hs => by
        obtain ⟨c, hc⟩ := hl q hq
        exact hex q c hc n hs
      cases y with
      | k x => cases hn'
      | v x =>
        simp only [mvSV] at hn'
        split at hn'
        · rename_i z hz
          obtain ⟨q, h1, h2⟩ := (mv_ok hz).2 n hn'
          exact fin q h1 h2
        · cases hn'
      | ix k off q len size =>
        simp only [mvSV] at hn'
        split at hn'
        · rename_i z hz
          simp only [names, List.mem_singleton] at hn'; subst hn'
          exact fin k (by simp [names]) (by have := (ixOf_spec hz).2; simpa using this)
        · cases hn'
      | ex k jj off size q =>
        simp only [mvSV] at hn'
        split at hn'
        · rename_i z hz
          simp only [names, List.mem_singleton] at hn'; subst hn'
          exact fin k (by simp [names]) (by have := (ixOf_spec hz).2; simpa using this)
        · cases hn'
      | hp k jj off =>
        simp only [mvSV] at hn'
        split at hn'
        · rename_i z hz
          simp only [names, List.mem_singleton] at hn'; subst hn'
          exact fin k (by simp [names]) (by have := (ixOf_spec hz).2; simpa using this)
        · cases hn'
      | g cs x => cases hn'
      | junk => cases hn'
  · obtain ⟨q, he0, h1, h2, h3⟩ := hold n he hn
    rw [hp n q h1]
    have hok := m.mem.ok q he0 h2
    rcases h3 with rfl | ⟨rfl, hnc⟩ | ⟨t, cs, cs', rfl, rfl, hl⟩
    · trivial
    · exact HeOk.mono hNF (fun b _ => rfl) (fun t cs e => absurd e (hnc t cs)) (Nat.le_refl _) hok
    · obtain ⟨k1, _⟩ := mvL_ok (fun x y => mv0_ok) hl
      exact ⟨by rw [k1 β]; exact hok.1, hok.2⟩
  · obtain ⟨q, he0, h1, h2, h3⟩ := hblk n c b hn hc
    obtain ⟨q', he0', h1', h2', h3'⟩ := hblk k d b hk hd
    have e := m.mem.inj q q' he0 he0' b h2 h2' h3 h3'
    subst e
    have hlt1 := (List.getElem?_eq_some_iff.1 h1).1
    exact (List.getElem?_inj hlt1 hσ).1 (h1.trans h1'.symm)
  · obtain ⟨q0, he0, h1, h2, h3⟩ := hold n _ hn
    rcases h3 with h3 | ⟨rfl, hnc⟩ | ⟨t', cs0, cs', rfl, h3, hl⟩
    · cases h3
    · exact absurd rfl (hnc t cs)
    · simp only [HE.cells.injEq] at h3
      obtain ⟨rfl, rfl⟩ := h3
      obtain ⟨_, k2⟩ := mvL_ok (fun x y => mv0_ok) hl
      obtain ⟨n', m1, m2⟩ := k2 q (refsL_mem.2 ⟨x, hx, hq⟩)
      obtain ⟨y, y1, y2⟩ := refsL_mem.1 m1
      obtain ⟨c, hc⟩ := m.mem.refs q0 t cs0 h2 y y1 n' y2
      exact hex n' c hc q m2
end
end Go.Proofs.Ytfooaikpcbnchaa.Dyn

/-! ## DynS -/
namespace Go.Proofs.Ytfooaikpcbnchaa.Dyn
open Go Go.RowKit Sym

/-! ### rows by their elements -/
def HeLe : Option HE → Option HE → Prop
  | some (.own t n f), some (.own t' n' f') => t = t' ∧ n = n' ∧ ∀ i, i < n → f i = f' i
  | some (.deep [.row n f]), some (.deep [.row n' f']) => n = n' ∧ ∀ i, i < n → f i = f' i
  | x, y => x = y
def HLe : List (Option HE) → List (Option HE) → Prop
  | [], [] => True
  | x :: xs, y :: ys => HeLe x y ∧ HLe xs ys
  | _, _ => False
/-- the same slots, the same memory but for what rows have past their ends -/
def Fits (s s' : St) : Prop := (s.slots, s.fix) = (s'.slots, s'.fix) ∧ HLe s.heap s'.heap
theorem HeLe.refl : ∀ (x : Option HE), HeLe x x
  | none => rfl
  | some (.cells _ _) => rfl
  | some (.own _ _ _) => ⟨rfl, rfl, fun _ _ => rfl⟩
  | some .gone => rfl
  | some (.deep []) => rfl
  | some (.deep [.row _ _]) => ⟨rfl, fun _ _ => rfl⟩
  | some (.deep [.p _]) => rfl
  | some (.deep [.ptr _]) => rfl
  | some (.deep (.p _ :: _ :: _)) => rfl
  | some (.deep (.ptr _ :: _ :: _)) => rfl
  | some (.deep (.row _ _ :: _ :: _)) => rfl
theorem HLe.refl : ∀ (h : List (Option HE)), HLe h h
  | [] => trivial
  | x :: l => ⟨HeLe.refl x, HLe.refl l⟩
theorem Fits.refl (s : St) : Fits s s := ⟨rfl, HLe.refl _⟩
theorem HLe.at_ : ∀ {h h' : List (Option HE)}, HLe h h' → ∀ n, HeLe (h.getD n none) (h'.getD n none)
  | [], [], _, n => HeLe.refl _
  | x :: xs, y :: ys, k, 0 => k.1
  | x :: xs, y :: ys, k, n + 1 => by
    simp only [List.getD_cons_succ]
    exact HLe.at_ k.2 n
  | [], _ :: _, k, _ => k.elim
  | _ :: _, [], k, _ => k.elim

section
variable {P : Program} {X : Tabs} {lp : Lp} {w0 : Base P} {w : World} {β : Env} {s s' : St} {a : Act}

theorem DenC_row_congr {N : Nat → Prop} {n : Nat} {f f' : Nat → List DC} (hf : ∀ i, i < n → f i = f' i) {u : Value} (h : DenC w N (.row n f) u) : DenC w N (.row n f') u := by
  cases h with
  | nil f oa cap => exact .nil f' oa cap
  | row n f b off cap size g hF hc hg => exact .row n f' b off cap size g hF (fun i hi => by rw [← hf i hi]; exact hc i hi) (fun i j hi hj => by rw [← hf i hi]; exact hg i j hi hj)

theorem HeOk.congr {N : Nat → Prop} {e : Nat × (Nat → Value)} {x y : HE} (h : HeLe (some x) (some y)) (k : HeOk w0 β N w e x) : HeOk w0 β N w e y := by
  unfold HeLe at h
  split at h
  · rename_i t n f t' n' f' h1 h2
    simp only [Option.some.injEq] at h1 h2
    subst h1; subst h2
    obtain ⟨rfl, rfl, hf⟩ := h
    obtain ⟨size, xs, k1, k2, k3, k4⟩ := k
    exact ⟨size, xs, k1, k2, k3, fun i hi => by rw [← hf i hi]; exact k4 i hi⟩
  · rename_i n f n' f' h1 h2
    simp only [Option.some.injEq] at h1 h2
    subst h1; subst h2
    obtain ⟨rfl, hf⟩ := h
    intro j d hj
    cases j with
    | succ j => simp at hj
    | zero =>
      simp only [List.getElem?_cons_zero, Option.some.injEq] at hj; subst hj
      exact DenC_row_congr hf (k 0 _ rfl)
  · simp only [Option.some.injEq] at h; subst h; exact k
theorem HeLe.some_iff {x y : Option HE} (h : HeLe x y) : (x = none ↔ y = none) := by
  unfold HeLe at h
  split at h
  · simp
  · simp
  · subst h; rfl
theorem HeLe.blk {x y : HE} (h : HeLe (some x) (some y)) (e : Nat × (Nat → Value)) : blkOf x e = blkOf y e := by
  unfold HeLe at h
  split at h
  · rename_i h1 h2
    simp only [Option.some.injEq] at h1 h2
    subst h1; subst h2; rfl
  · rename_i h1 h2
    simp only [Option.some.injEq] at h1 h2
    subst h1; subst h2; rfl
  · simp only [Option.some.injEq] at h; subst h; rfl
theorem HeLe.cells {x : HE} {t : TypeId} {cs : List Value} (h : HeLe (some x) (some (.cells t cs))) : x = .cells t cs := by
  unfold HeLe at h
  split at h
  · rename_i h2; cases h2
  · rename_i h2; cases h2
  · simpa using h

theorem Fits.M (h : Fits s s') (m : M w0 β s a w) : M w0 β s' a w := by
  obtain ⟨h11, h2⟩ := h
  obtain ⟨h1, h12⟩ := Prod.mk.inj h11
  have hat : ∀ n he, s'.heap.getD n none = some he → ∃ he0, s.heap.getD n none = some he0 ∧ HeLe (some he0) (some he) := fun n he hn => by
    have hx := h2.at_ n
    cases hs : s.heap.getD n none with
    | none =>
      rw [hs, hn] at hx
      have := (HeLe.some_iff hx).1 rfl; cases this
    | some he0 => rw [hs, hn] at hx; exact ⟨he0, rfl, hx⟩
  have hat' : ∀ n he, s.heap.getD n none = some he → ∃ he0, s'.heap.getD n none = some he0 := fun n he hn => by
    have hx := h2.at_ n
    cases hs : s'.heap.getD n none with
    | none =>
      rw [hs, hn] at hx
      have := (HeLe.some_iff hx).2 rfl; cases this
    | some he0 => exact ⟨he0, rfl⟩
  have hNF : ∀ b, NF w0 β s.heap w b → NF w0 β s'.heap w b ∧ w.heap[b]? = w.heap[b]? := fun b hN => ⟨by
    rcases hN with z | ⟨k1, k2, k3⟩
    · exact .inl z
    · refine .inr ⟨k1, k2, fun n he hn hb => ?_⟩
      obtain ⟨he0, h3, h4⟩ := hat n he hn
      exact k3 n he0 h3 (by rw [h4.blk]; exact hb), rfl⟩
  refine { defers := m.defers, size := by rw [← h1]; exact m.size, slot := fun i u hu => by rw [← h1]; exact m.slot i u hu, locs := fun i n hn => ?_, mem := ⟨fun n he hn => ?_, fun n k c d b hn hk hc hd => ?_, fun n t cs hn x hx q hq => ?_, m.mem.one, m.mem.below⟩, tie := fun p hp => m.tie p (by rw [h12]; exact hp) }
  · rw [← h1] at hn
    obtain ⟨c, hc⟩ := m.locs i n hn
    exact hat' n c hc
  · obtain ⟨he0, h3, h4⟩ := hat n he hn
    exact HeOk.congr h4 (HeOk.mono hNF (fun b _ => rfl) (fun _ _ _ _ _ => rfl) (Nat.le_refl _) (m.mem.ok n he0 h3))
  · obtain ⟨c0, h3, h4⟩ := hat n c hn
    obtain ⟨d0, h5, h6⟩ := hat k d hk
    exact m.mem.inj n k c0 d0 b h3 h5 (by rw [h4.blk]; exact hc) (by rw [h6.blk]; exact hd)
  · obtain ⟨c0, h3, h4⟩ := hat n _ hn
    have := h4.cells; subst this
    obtain ⟨c, hc⟩ := m.mem.refs n t cs h3 x hx q hq
    exact hat' q c hc

/-! ### what follows from what -/
/-- state s says all that s' says -/
def Ent (w0 : Base P) (s s' : St) : Prop := ∀ β a w, M w0 β s a w → NoG s → ∃ β', M w0 β' s' a w ∧ NoG s'
theorem Ent.refl (w0 : Base P) (s : St) : Ent w0 s s := fun β a w m ng => ⟨β, m, ng⟩
theorem Ent.trans {s1 s2 s3 : St} (h : Ent w0 s1 s2) (k : Ent w0 s2 s3) : Ent w0 s1 s3 := fun β a w m ng => by
  obtain ⟨β', m', ng'⟩ := h β a w m ng
  exact k β' a w m' ng'
theorem Ent.label {σ : List Nat} (hσ : σ.Nodup) (j v : Nat) (s : St) : Ent w0 s (relabel σ j v s) := fun β a w m ng => ⟨_, relabel_M hσ j v m ng, relabel_noG σ j v s⟩
theorem Ent.fits (h : Fits s s') : Ent w0 s s' := fun β a w m ng => ⟨β, h.M m, fun x hx => ng x ((Prod.mk.inj h.1).1 ▸ hx)⟩
theorem Sem_ent {Q : Exit → Act → World → Prop} {e : AExit} (h : Ent w0 s s') (k : Dyn.Sem w0 Q e s') : Dyn.Sem w0 Q e s := fun β a w m ng => by
  obtain ⟨β', m', ng'⟩ := h β a w m ng
  exact k β' a w m' ng'

/-! ### nil, as a slice of the call's own -/
/-- a slot that is nil -/
def nilSlot (i : Nat) (t : TypeId) (f : Nat → List DC) (s : St) : St :=
  match s.slots.getD i .junk with
  | .k (.slice none 0 0) => { slots := s.slots.set i (.v (.slice (some ⟨s.heap.length, 0, some 0⟩) 0 0)), heap := s.heap ++ [some (.own t 0 f)], fix := s.fix }
  | .v (.slice none 0 0) => { slots := s.slots.set i (.v (.slice (some ⟨s.heap.length, 0, some 0⟩) 0 0)), heap := s.heap ++ [some (.own t 0 f)], fix := s.fix }
  | _ => s
theorem Mem.nil {h : List (Option HE)} (m : Mem w0 β h w) {t : TypeId} {k : Nat} (hs : sizeO P t = some (k + 1)) (f : Nat → List DC) : Mem w0 (bump β h.length (0, fun _ => .slice none 0 0)) (h ++ [some (.own t 0 f)]) w := by
  have e : h ++ [some (HE.own t 0 f)] = (h ++ [none]).set h.length (some (.own t 0 f)) := by simp
  have m0 : Mem w0 β (h ++ [none]) w := m.read (fun n => by
    simp only [List.getD_eq_getElem?_getD, List.getElem?_append]
    split
    · rfl
    · rename_i hn
      rw [List.getElem?_eq_none (Nat.le_of_not_lt hn)]
      cases n - h.length with
      | zero => rfl
      | succ q => rfl) rfl rfl rfl rfl
  rw [e]
  exact m0.add (by simp) (by simp) _ _ (Below.refl _ _) (fun b hb => by simp [blkOf, Value.ownBlock] at hb) (fun _ => rfl) (fun t cs e => by cases e) (fun _ => ⟨k + 1, [], hs, by omega, World.ownsRow_nil w _ t _, fun i hi => by omega⟩)
theorem Ent.nilSlot {i : Nat} {t : TypeId} {k : Nat} (hs : sizeO P t = some (k + 1)) (f : Nat → List DC) (s : St) : Ent w0 s (nilSlot i t f s) := fun β a w m ng => by
  have key : (s.slots.getD i .junk = .k (.slice none 0 0) ∨ s.slots.getD i .junk = .v (.slice none 0 0)) →
      ∃ β', M w0 β' { slots := s.slots.set i (.v (.slice (some ⟨s.heap.length, 0, some 0⟩) 0 0)), heap := s.heap ++ [some (.own t 0 f)], fix := s.fix } a w ∧ NoG { slots := s.slots.set i (.v (.slice (some ⟨s.heap.length, 0, some 0⟩) 0 0)), heap := s.heap ++ [some (.own t 0 f)], fix := s.fix } := fun hk => by
    have hold : ∀ n c, s.heap.getD n none = some c → (s.heap ++ [some (HE.own t 0 f)]).getD n none = some c ∧ n ≠ s.heap.length := fun n c hn => by
      have hlt : n < s.heap.length := by
        rcases Nat.lt_or_ge n s.heap.length with z | z
        · exact z
        · rw [List.getD_eq_getElem?_getD, List.getElem?_eq_none z] at hn; cases hn
      refine ⟨?_, by omega⟩
      rw [List.getD_eq_getElem?_getD, List.getElem?_append_left hlt, ← List.getD_eq_getElem?_getD]; exact hn
    have hbeta : ∀ n c, s.heap.getD n none = some c → bump β s.heap.length (0, fun _ => Value.slice none 0 0) n = β n := fun n c hn => bump_ne (hold n c hn).2
    refine ⟨bump β s.heap.length (0, fun _ => .slice none 0 0), { defers := m.defers, size := by simp [m.size], slot := fun q u hu => ?_, locs := fun q n hn => ?_, mem := m.mem.nil hs f, tie := m.tie }, fun x hx => ?_⟩
    · show Den _ _ ((s.slots.set i _).getD q .junk) u
      rw [getD_set']
      split
      · rename_i hq
        obtain ⟨rfl, hlt⟩ := hq
        have hd := m.slot i u hu
        have hu' : u = .slice none 0 0 := by rcases hk with hk | hk <;> rw [hk] at hd <;> exact hd
        show u = ren _ _
        simp only [ren, ren1, ren0, renP]
        rw [bump_at, hu']
      · exact Den_congr (fun n hn => by obtain ⟨c, hc⟩ := m.locs q n hn; exact hbeta n c hc) (fun c hc => by rw [isG_conds (ng.at_ q)] at hc; cases hc) (m.slot q u hu)
    · have hn' : n ∈ names ((s.slots.set i (.v (.slice (some ⟨s.heap.length, 0, some 0⟩) 0 0))).getD q .junk) := hn
      rw [getD_set'] at hn'
      split at hn'
      · simp only [names, refs, refs1, refs0, refsP, List.mem_singleton] at hn'; subst hn'
        exact ⟨.own t 0 f, by simp [List.getD_eq_getElem?_getD]⟩
      · obtain ⟨c, hc⟩ := m.locs q n hn'
        exact ⟨c, (hold n c hc).1⟩
    · rcases List.mem_or_eq_of_mem_set hx with hx | rfl
      · exact ng x hx
      · rfl
  unfold Dyn.nilSlot
  split
  · rename_i h; exact key (.inl h)
  · rename_i h; exact key (.inr h)
  · exact ⟨β, m, ng⟩

/-! ### loops -/
/-- A loop by its states at the head: each round leads to a state of less measure, or out. -/
theorem loop_inv (ht : TabsOk P X) (hm : P.follows .mixedOrders = true) {fuel : Nat} {c : Code} (hl : Dyn.LpOk P w0 lp (blocksL c)) {ι : Type} (S : ι → St) (inv : ι → Prop) (μ : ι → Nat) (G : AExit → St → Prop)
    (hbody : ∀ x, inv x → (lexec P X lp fuel c .leaf (S x)).sat fun e s => match e with
      | .normal => ∃ y, inv y ∧ μ y < μ x ∧ Ent w0 s (S y)
      | e => G e s)
    {x0 : ι} {s0 : St} (hi : inv x0) (h0 : Ent w0 s0 (S x0)) {Q : Exit → Act → World → Prop} (m : M w0 β s0 a w) (ng : NoG s0)
    (hQ : ∀ e s, G e s → match e with | .normal => True | e => Dyn.Sem w0 Q e s) : (Code.loop c).wp P Q a w := by
  have start : ∃ x β', inv x ∧ M w0 β' (S x) a w ∧ NoG (S x) := by
    obtain ⟨β', m', ng'⟩ := h0 β a w m ng
    exact ⟨x0, β', hi, m', ng'⟩
  refine wp_loop (fun a' w' => ∃ x β', inv x ∧ M w0 β' (S x) a' w' ∧ NoG (S x))
    (fun a' w' => Classical.epsilon fun n => (∃ x β', inv x ∧ (M w0 β' (S x) a' w' ∧ NoG (S x)) ∧ μ x = n) ∧ ∀ n', (∃ x β', inv x ∧ (M w0 β' (S x) a' w' ∧ NoG (S x)) ∧ μ x = n') → n ≤ n') start ?_
  intro a1 w1 ⟨x', β', hi', m', ng'⟩
  have hI : ∃ n, ∃ x β', inv x ∧ (M w0 β' (S x) a1 w1 ∧ NoG (S x)) ∧ μ x = n := ⟨_, x', β', hi', ⟨m', ng'⟩, rfl⟩
  obtain ⟨⟨x1, β1, hi1, ⟨m1, ng1⟩, hx1⟩, hmin⟩ := least_eps hI
  generalize (Classical.epsilon fun n => (∃ x β', inv x ∧ (M w0 β' (S x) a1 w1 ∧ NoG (S x)) ∧ μ x = n) ∧ ∀ n', (∃ x β', inv x ∧ (M w0 β' (S x) a1 w1 ∧ NoG (S x)) ∧ μ x = n') → n ≤ n') = N at *
  refine lexec_sound ht hm c hl .leaf (S x1) _ a1 w1 β1 m1 ng1 (hbody x1 hi1) fun e s2 β2 a2 w2 m2 ng2 hs2 => ?_
  cases e with
  | normal =>
    obtain ⟨y, hy, hlt, hS⟩ := hs2
    obtain ⟨β3, my, ngy⟩ := hS β2 a2 w2 m2 ng2
    refine ⟨⟨y, β3, hy, my, ngy⟩, ?_⟩
    have := (least_eps (p := fun n => ∃ x β', inv x ∧ (M w0 β' (S x) a2 w2 ∧ NoG (S x)) ∧ μ x = n) ⟨_, y, β3, hy, ⟨my, ngy⟩, rfl⟩).2 _ ⟨y, β3, hy, ⟨my, ngy⟩, rfl⟩
    show _ < N
    omega
  | exit id => exact hQ (.exit id) s2 hs2 β2 a2 w2 m2 ng2
  | ret => exact hQ .ret s2 hs2 β2 a2 w2 m2 ng2

/-- the leaves, by other names -/
def Out.rl (f : AExit → St → St) : Out → Out
  | .leaf e s => .leaf e (f e s)
  | .ite b x y => .ite b (x.rl f) (y.rl f)
  | .side ps x => .side ps (x.rl f)
  | .fail => .fail
theorem Out.sat_rl {f : AExit → St → St} {F : AExit → St → Prop} : ∀ {o : Out}, (o.rl f).sat F → o.sat fun e s => F e (f e s)
  | .leaf _ _, h => h
  | .ite _ x y, h => ⟨fun b => Out.sat_rl (h.1 b), fun b => Out.sat_rl (h.2 b)⟩
  | .side _ x, h => ⟨h.1, Out.sat_rl (o := x) h.2⟩
  | .fail, h => h.elim

/-- a block that is a loop, by its summary; its rounds end in states by other names -/
theorem block_loop (ht : TabsOk P X) (hm : P.follows .mixedOrders = true) {fuel id : Nat} {c : Code} (hl : Dyn.LpOk P w0 lp (blocksL c)) {ι : Type} (S : ι → St) (inv : ι → Prop) (μ : ι → Nat) (f : AExit → St → St) (hf : ∀ e s, Ent w0 s (f e s)) (B : ι → Out) (G : AExit → St → Prop)
    (hB : ∀ x, inv x → (lexec P X lp fuel c .leaf (S x)).rl f = B x)
    (hbody : ∀ x, inv x → (B x).sat fun e s => match e with
      | .normal => ∃ y, inv y ∧ μ y < μ x ∧ Fits s (S y)
      | e => G e s)
    {x0 : ι} {s0 : St} {o : Out} (hi : inv x0) (h0 : Ent w0 s0 (S x0))
    (hG : ∀ (F : AExit → St → Prop), (∀ e s s', Ent w0 s s' → F e s' → F e s) → o.sat F → ∀ e s, G e s → match e with
      | .normal => True
      | .exit i => if i = id then F .normal s else F (.exit i) s
      | .ret => F .ret s) : Dyn.BlockSound P w0 id (.loop c) s0 o := by
  intro Q a w β m ng ho
  refine wp_block (loop_inv (fuel := fuel) ht hm hl S inv μ (fun e s => match e with | .normal => True | e => G e (f e s)) (fun x hx => ?_) hi h0 m ng fun e s hg => ?_)
  · refine Out.sat_mono (fun e s hs => ?_) (Out.sat_rl (hB x hx ▸ hbody x hx))
    cases e with
    | normal =>
      obtain ⟨y, hy, hlt, hfit⟩ := hs
      exact ⟨y, hy, hlt, (hf .normal s).trans (Ent.fits hfit)⟩
    | exit i => exact hs
    | ret => exact hs
  · have hh := hG (Dyn.Sem w0 Q) (fun e s s' h k => Sem_ent h k) ho
    cases e with
    | normal => trivial
    | ret => exact Sem_ent (hf .ret s) (hh .ret _ hg)
    | exit i =>
      intro β' a' w' m' ng'
      show if i = id then Q Exit.normal a' w' else Q (Exit.exit i) a' w'
      have h1 := hh (.exit i) _ hg
      dsimp only at h1
      have h2 := hf (.exit i) s
      split
      · rename_i e; rw [if_pos e] at h1; exact Sem_ent h2 h1 β' a' w' m' ng'
      · rename_i e; rw [if_neg e] at h1; exact Sem_ent h2 h1 β' a' w' m' ng'
end
end Go.Proofs.Ytfooaikpcbnchaa.Dyn

/-! ## DynT -/
namespace Go.Proofs.Ytfooaikpcbnchaa.Dyn
open Go Go.RowKit Sym

/-! ### how a function starts -/
/-- the arguments' slots, and what they show -/
def initA : Nat → List DV → List SV × List (Option HE)
  | _, [] => ([], [])
  | n, v :: vs => match flatD (cellsV v) with
    | true => let r := initA n vs; (.v (instV 0 0 v) :: r.1, r.2)
    | false => let r := initA (n + 1) vs; (.v (instV n 0 v) :: r.1, some (.deep (cellsV v)) :: r.2)
def initS (fn : Func) (args : List DV) : St := { slots := (initA 0 args).1 ++ List.replicate (fn.ntmps - args.length) .junk, heap := (initA 0 args).2 }
def dfun (P : Program) (X : Tabs) (lp : Lp) (fuel : Nat) (fn : Func) (args : List DV) : Out :=
  match fn.body with
  | some c => lexec P X lp fuel c .leaf (initS fn args)
  | none => .fail
def pOks : List DV → Bool
  | [] => true
  | v :: vs => match pOk (cellsV v) with
    | true => pOks vs
    | false => false

/-! ### what a function returns -/
def hpSt (s : St) (n : Nat) : Option HE :=
  match s.heap.getD n none with
  | some (.cells _ _) => none
  | x => x
def resOne (P : Program) (s : St) : ResultVar → Option DV
  | .tmp t => match named (s.slots.getD t .junk) with
    | some v => toDV (hpSt s) v
    | none => none
  | .cell t ty => match s.slots.getD t .junk with
    | .v (.pointer (some a)) => match a.spot, s.heap.getD a.block none with
      | none, some (.cells _ cs) => match loadOf P ty cs a.off with
        | some u => if isAggB P ty = some true ∨ oneCellB u = true then toDV (hpSt s) u else none
        | none => none
      | _, _ => none
    | _ => none
def resAll (P : Program) (s : St) : List ResultVar → Option (List DV)
  | [] => some []
  | r :: l => match resOne P s r, resAll P s l with
    | some d, some ds => some (d :: ds)
    | _, _ => none
def resD (P : Program) (rs : Array ResultVar) (s : St) : Option RV :=
  match resAll P s rs.toList with
  | some [d] => some (.val d)
  | some ds => some (.tup ds)
  | none => none

/-- what comes out, on which way -/
inductive RO where
  | leaf (r : RV)
  | ite (b : Bool) (x y : RO)
  | side (ps : List Prop) (x : RO)
  | fail
def RO.sat (Q : RV → Prop) : RO → Prop
  | .leaf r => Q r
  | .ite b x y => (b = true → x.sat Q) ∧ (b = false → y.sat Q)
  | .side ps x => allP ps ∧ x.sat Q
  | .fail => False
def Out.ro (P : Program) (rs : Array ResultVar) : Out → RO
  | .leaf e s => match e, resD P rs s with
    | .exit _, _ => .fail
    | _, some r => .leaf r
    | _, none => .fail
  | .ite b x y => .ite b (x.ro P rs) (y.ro P rs)
  | .side ps x => .side ps (x.ro P rs)
  | .fail => .fail
/-- results without depth, both ways in one -/
def RO.val : RO → Option Value
  | .leaf (.val (.one (.p x))) => some x
  | .leaf _ => none
  | .ite b x y => match x.val, y.val with
    | some u, some v => some (mergeN 3 b u v)
    | _, _ => none
  | .side _ x => x.val
  | .fail => none
def RO.sideList : RO → List Prop
  | .leaf _ => []
  | .ite b x y => (x.sideList.map fun p => (b = true → p)) ++ (y.sideList.map fun p => (b = false → p))
  | .side ps x => ps ++ x.sideList
  | .fail => [False]
theorem RO.sat_val : ∀ {o : RO} {v : Value}, o.val = some v → allP o.sideList → o.sat fun r => r = .val (.one (.p v))
  | .leaf r, v, h, _ => by
    unfold RO.val at h
    split at h
    · rename_i x e
      simp only [Option.some.injEq] at h; subst h
      simp only [RO.leaf.injEq] at e; exact e
    · cases h
    · rename_i e; cases e
    · rename_i e; cases e
    · cases h
  | .ite b x y, v, h, hs => by
    simp only [RO.val] at h
    simp only [RO.sideList, allP_append] at hs
    split at h
    · rename_i u u' hx hy
      simp only [Option.some.injEq] at h; subst h
      refine ⟨fun hb => ?_, fun hb => ?_⟩
      · subst hb
        rw [mergeN_true]
        exact RO.sat_val hx (allP_mem.2 fun p hp => allP_mem.1 hs.1 _ (List.mem_map.2 ⟨p, hp, rfl⟩) rfl)
      · subst hb
        rw [mergeN_false]
        exact RO.sat_val hy (allP_mem.2 fun p hp => allP_mem.1 hs.2 _ (List.mem_map.2 ⟨p, hp, rfl⟩) rfl)
    · cases h
  | .side ps x, v, h, hs => by
    simp only [RO.sideList, allP_append] at hs
    exact ⟨hs.1, RO.sat_val (o := x) h hs.2⟩
  | .fail, v, h, _ => by cases h

/-- rows by their elements -/
def DCLe : DC → DC → Prop
  | .row n f, .row m g => n = m ∧ ∀ i, i < n → f i = g i
  | x, y => x = y
def DLLe : List DC → List DC → Prop
  | [], [] => True
  | x :: xs, y :: ys => DCLe x y ∧ DLLe xs ys
  | _, _ => False
def DVLe : DV → DV → Prop
  | .one x, .one y => DCLe x y
  | .agg xs, .agg ys => DLLe xs ys
  | _, _ => False
def DVsLe : List DV → List DV → Prop
  | [], [] => True
  | x :: xs, y :: ys => DVLe x y ∧ DVsLe xs ys
  | _, _ => False
def RVLe : RV → RV → Prop
  | .val x, .val y => DVLe x y
  | .tup xs, .tup ys => DVsLe xs ys
  | _, _ => False
theorem DCLe.refl : ∀ (x : DC), DCLe x x
  | .p _ => rfl
  | .row _ _ => ⟨rfl, fun _ _ => rfl⟩
  | .ptr _ => rfl
theorem DLLe.refl : ∀ (x : List DC), DLLe x x
  | [] => trivial
  | x :: xs => ⟨DCLe.refl x, DLLe.refl xs⟩
theorem DVLe.refl : ∀ (x : DV), DVLe x x
  | .one d => DCLe.refl d
  | .agg ds => DLLe.refl ds
theorem DVsLe.refl : ∀ (x : List DV), DVsLe x x
  | [] => trivial
  | x :: xs => ⟨DVLe.refl x, DVsLe.refl xs⟩
theorem RVLe.refl : ∀ (x : RV), RVLe x x
  | .val v => DVLe.refl v
  | .tup vs => DVsLe.refl vs

section
variable {P : Program} {X : Tabs} {lp : Lp} {w0 : Base P} {w : World} {β : Env} {s : St} {a : Act}

theorem DenC_le {N : Nat → Prop} {x y : DC} {u : Value} (h : DCLe x y) (k : DenC w N x u) : DenC w N y u := by
  cases x with
  | row n f =>
    cases y with
    | row m g => obtain ⟨rfl, hf⟩ := h; exact DenC_row_congr hf k
    | p z => cases h
    | ptr z => cases h
  | p z => simp only [DCLe] at h; subst h; exact k
  | ptr z => simp only [DCLe] at h; subst h; exact k
theorem DenL_le {N : Nat → Prop} : ∀ {xs ys : List DC} {us : List Value}, DLLe xs ys → DenL w N xs us → DenL w N ys us
  | [], [], _, _, k => k
  | x :: xs, y :: ys, [], _, k => k.elim
  | x :: xs, y :: ys, u :: us, h, k => ⟨DenC_le h.1 k.1, DenL_le h.2 k.2⟩
  | [], _ :: _, _, h, _ => h.elim
  | _ :: _, [], _, h, _ => h.elim
theorem DenV_le {N : Nat → Prop} : ∀ {x y : DV} {u : Value}, DVLe x y → DenV w N x u → DenV w N y u
  | .one _, .one _, _, h, k => DenC_le h k
  | .agg _, .agg _, _, h, ⟨us, e, k⟩ => ⟨us, e, DenL_le h k⟩
  | .one _, .agg _, _, h, _ => h.elim
  | .agg _, .one _, _, h, _ => h.elim
theorem DenVs_le {N : Nat → Prop} : ∀ {xs ys : List DV} {us : List Value}, DVsLe xs ys → DenVs w N xs us → DenVs w N ys us
  | [], [], _, _, k => k
  | x :: xs, y :: ys, [], _, k => k.elim
  | x :: xs, y :: ys, u :: us, h, k => ⟨DenV_le h.1 k.1, DenVs_le h.2 k.2⟩
  | [], _ :: _, _, h, _ => h.elim
  | _ :: _, [], _, h, _ => h.elim
theorem DenR_le {N : Nat → Prop} : ∀ {x y : RV} {u : Value}, RVLe x y → DenR w N x u → DenR w N y u
  | .val _, .val _, _, h, k => DenV_le h k
  | .tup _, .tup _, _, h, ⟨us, e, k⟩ => ⟨us, e, DenVs_le h k⟩
  | .val _, .tup _, _, h, _ => h.elim
  | .tup _, .val _, _, h, _ => h.elim

/-! ### the start -/
theorem Mem.push {h : List (Option HE)} (m : Mem w0 β h w) {ds : List DC} {us : List Value} (hd : DenL w (NF w0 β h w) ds us) (hp : pOk ds = true) (hf : flatD ds = false) :
    ∃ β', (∀ n c, h.getD n none = some c → β' n = β n) ∧ Mem w0 β' (h ++ [some (.deep ds)]) w ∧ (instC h.length 0 ds).map (ren0 β') = us ∧ ∀ y ∈ instC h.length 0 ds, ∀ k ∈ refs0 y, ∃ c, (h ++ [some (HE.deep ds)]).getD k none = some c := by
  have hg : ∀ n, (h ++ [none]).getD n none = h.getD n none := fun n => by
    simp only [List.getD_eq_getElem?_getD, List.getElem?_append]
    split
    · rfl
    · rename_i hn
      rw [List.getElem?_eq_none (Nat.le_of_not_lt hn)]
      cases n - h.length with
      | zero => rfl
      | succ q => rfl
  have m0 : Mem w0 β (h ++ [none]) w := m.read hg rfl rfl rfl rfl
  have hN : ∀ b, NF w0 β h w b → NF w0 β (h ++ [none]) w b := fun b hb => by
    rcases hb with z | z
    · exact .inl z
    · exact .inr ⟨z.1, z.2.1, fun n he hn => z.2.2 n he (by rw [← hg n]; exact hn)⟩
  obtain ⟨β', b1, b2, b3, b4, _⟩ := inst_mem m0 (fresh := h.length) (fun _ => ⟨by simp, by simp⟩) (hd.mono fun b hb => ⟨hN b hb, rfl⟩) hp
  have e : heapSet (h ++ [none]) (updD h.length ds) = h ++ [some (HE.deep ds)] := by
    unfold updD; rw [hf]; simp [heapSet]
  rw [e] at b2 b4
  exact ⟨β', fun n c hc => b1 n c ((hg n).trans hc), b2, b3 0 rfl, b4⟩

theorem init_args : ∀ (args : List DV) (us : List Value) (h : List (Option HE)) (β : Env), Mem w0 β h w → (∀ b, w0.F b → NF w0 β h w b) → pOks args = true → DenVs w w0.F args us →
    ∃ β', (∀ n c, h.getD n none = some c → β' n = β n) ∧ Mem w0 β' (h ++ (initA h.length args).2) w ∧ (initA h.length args).1.length = us.length ∧ (∀ i u, us[i]? = some u → Den β' [] ((initA h.length args).1.getD i .junk) u) ∧ (∀ i n, n ∈ names ((initA h.length args).1.getD i .junk) → ∃ c, (h ++ (initA h.length args).2).getD n none = some c) ∧ ∀ x ∈ (initA h.length args).1, isG x = false
  | [], [], h, β, m, _, _, _ => ⟨β, fun _ _ _ => rfl, by simpa [initA] using m, rfl, fun i u hu => by simp at hu, fun i n hn => by simp [initA, names] at hn, fun x hx => by cases hx⟩
  | [], _ :: _, _, _, _, _, _, k => k.elim
  | _ :: _, [], _, _, _, _, _, k => k.elim
  | v :: vs, u :: us, h, β, m, hF, hp, k => by
    simp only [pOks] at hp
    split at hp
    · rename_i hpv
      have hv : DenR w (NF w0 β h w) (.val v) u := k.1.mono fun b hb => ⟨hF b hb, rfl⟩
      obtain ⟨ws, hd, hk⟩ := DenR_cells hv
      cases hfl : flatD (cellsV v) with
      | true =>
        obtain ⟨β', i1, i2, i3, i4, i5, i6⟩ := init_args vs us h β m hF hp k.2
        have e : initA h.length (v :: vs) = (.v (instV 0 0 v) :: (initA h.length vs).1, (initA h.length vs).2) := by simp only [initA]; rw [hfl]
        rw [e]
        have hx : ∀ β, ren β (instV 0 0 v) = u := fun β => (hk 0 β (inst_flat _ _ 0 hd hpv hfl)).1
        have hr : ∀ n, n ∉ refs (instV 0 0 v) := fun n hn => by
          obtain ⟨y, y1, y2⟩ := (hk 0 β (inst_flat _ _ 0 hd hpv hfl)).2 n hn
          have := (inst_refs _ 0 hpv y y1 n y2).2
          have h2 : flatD (cellsR (.val v)) = false := this
          simp only [cellsR] at h2; rw [hfl] at h2; cases h2
        refine ⟨β', i1, i2, by simp [i3], fun i z hz => ?_, fun i n hn => ?_, fun x hx' => ?_⟩
        · cases i with
          | zero => simp only [List.getElem?_cons_zero, Option.some.injEq] at hz; subst hz; exact (hx β').symm
          | succ i => exact i4 i z (by simpa using hz)
        · cases i with
          | zero => exact absurd hn (hr n)
          | succ i => exact i5 i n (by simpa using hn)
        · rcases List.mem_cons.1 hx' with rfl | hx'
          · rfl
          · exact i6 x hx'
      | false =>
        obtain ⟨β1, j1, j2, j3, j4⟩ := m.push (ds := cellsV v) (us := ws) hd hpv hfl
        have hlen : (h ++ [some (HE.deep (cellsV v))]).length = h.length + 1 := by simp
        have hF1 : ∀ b, w0.F b → NF w0 β1 (h ++ [some (HE.deep (cellsV v))]) w b := fun b hb => .inl hb
        obtain ⟨β', i1, i2, i3, i4, i5, i6⟩ := init_args vs us _ β1 j2 hF1 hp k.2
        rw [hlen] at i2 i3 i4 i5 i6
        have e : initA h.length (v :: vs) = (.v (instV h.length 0 v) :: (initA (h.length + 1) vs).1, some (.deep (cellsV v)) :: (initA (h.length + 1) vs).2) := by simp only [initA]; rw [hfl]
        rw [e]
        have eh : h ++ (some (HE.deep (cellsV v)) :: (initA (h.length + 1) vs).2) = (h ++ [some (HE.deep (cellsV v))]) ++ (initA (h.length + 1) vs).2 := by simp
        dsimp only
        rw [eh]
        obtain ⟨x1, x2⟩ := hk h.length β1 j3
        have hold : ∀ n c, h.getD n none = some c → (h ++ [some (HE.deep (cellsV v))]).getD n none = some c := fun n c hn => by
          have hlt : n < h.length := by
            rcases Nat.lt_or_ge n h.length with z | z
            · exact z
            · rw [List.getD_eq_getElem?_getD, List.getElem?_eq_none z] at hn; cases hn
          rw [List.getD_eq_getElem?_getD, List.getElem?_append_left hlt, ← List.getD_eq_getElem?_getD]; exact hn
        have hn1 : ∀ n ∈ refs (instV h.length 0 v), ∃ c, (h ++ [some (HE.deep (cellsV v))]).getD n none = some c := fun n hn => by
          obtain ⟨y, y1, y2⟩ := x2 n hn
          exact j4 y y1 n y2
        refine ⟨β', fun n c hn => (i1 n c (hold n c hn)).trans (j1 n c hn), i2, by simp [i3], fun i z hz => ?_, fun i n hn => ?_, fun x hx' => ?_⟩
        · cases i with
          | zero =>
            simp only [List.getElem?_cons_zero, Option.some.injEq] at hz; subst hz
            show u = ren β' (instV h.length 0 v)
            rw [ren_congr (β := β1) fun n hn => by obtain ⟨c, hc⟩ := hn1 n hn; exact i1 n c hc]
            exact x1.symm
          | succ i => exact i4 i z (by simpa using hz)
        · cases i with
          | zero =>
            obtain ⟨c, hc⟩ := hn1 n hn
            have hlt : n < (h ++ [some (HE.deep (cellsV v))]).length := by
              rcases Nat.lt_or_ge n (h ++ [some (HE.deep (cellsV v))]).length with z | z
              · exact z
              · rw [List.getD_eq_getElem?_getD, List.getElem?_eq_none z] at hc; cases hc
            exact ⟨c, by rw [List.getD_eq_getElem?_getD, List.getElem?_append_left hlt, ← List.getD_eq_getElem?_getD]; exact hc⟩
          | succ i => exact i5 i n (by simpa using hn)
        · rcases List.mem_cons.1 hx' with rfl | hx'
          · rfl
          · exact i6 x hx'
    · cases hp

/-! ### the end -/
/-- where a call's result lies -/
def ResF (w0 : Base P) (w : World) (b : Nat) : Prop := w0.F b ∨ (w0.w.heap.size ≤ b ∧ b < w.heap.size)
theorem NF_resF {h : List (Option HE)} {b : Nat} (k : NF w0 β h w b) : ResF w0 w b := k.imp id fun z => ⟨z.1, z.2.1⟩
theorem resOne_sound (m : M w0 β s a w) {r : ResultVar} {d : DV} (h : resOne P s r = some d) : ∃ u, (oneSem a r).run P w = .ok u w ∧ DenV w (ResF w0 w) d u := by
  have hhp : ∀ n c, hpSt s n = some c → c = .gone ∨ s.heap.getD n none = some c := fun n c h => .inr (by
    unfold hpSt at h
    split at h
    · cases h
    · exact h)
  have hnc : ∀ n t cs, hpSt s n ≠ some (.cells t cs) := fun n t cs h => by
    unfold hpSt at h
    split at h
    · cases h
    · rename_i hno; exact hno t cs h
  have hO : ∀ (c : Value), ∀ n ∈ refs c, ∀ t k f, s.heap.getD n none = some (.own t k f) → ∀ b, ((β n).2 0).ownBlock = some b → ResF w0 w b := fun c n _ t k f hn b hb => .inr (m.mem.ownlt hn hb)
  have hd : ∀ t, Den β s.slots (s.slots.getD t .junk) (a.tmps.getD t undef) := fun t => by
    rw [Array.getD_eq_getD_getElem?]
    cases hu : a.tmps[t]? with
    | some u => exact m.slot t u hu
    | none =>
      have hs : s.slots.length ≤ t := by rw [← m.size]; exact Array.getElem?_eq_none_iff.1 hu
      have : s.slots.getD t .junk = .junk := by simp [List.getElem?_eq_none hs]
      rw [this]; trivial
  have conv : ∀ v d, toDV (hpSt s) v = some d → DenV w (ResF w0 w) d (ren β v) := fun v d hv => toDV_den m.mem hhp (fun b => NF_resF) hv (hO v) (.inr (.inr hnc))
  cases r with
  | tmp t =>
    simp only [resOne] at h
    split at h
    · rename_i v hv
      have := named_eval (hd t) hv
      exact ⟨_, rfl, by rw [show a.tmps.getD t undef = ren β v from this]; exact conv v d h⟩
    · cases h
  | cell t ty =>
    simp only [resOne] at h
    split at h
    · rename_i ad hev
      have hd' := hd t
      rw [hev] at hd'
      obtain ⟨n, off, sp⟩ := ad
      dsimp only at h
      split at h
      · rename_i ty' cs hn
        split at h
        · rename_i u hu
          split at h
          · rename_i h1
            have hok := m.mem.ok n _ hn
            have hd'' : a.tmps.getD t undef = .pointer (some ⟨(β n).1, off, none⟩) := hd'
            have hrun := loadVar_run (P := P) hok.1 (loadOf_ren (β := β) hu h1)
            refine ⟨ren β u, ?_, conv u d h⟩
            simp only [oneSem, Sem.run_bind, hd'', asAddr, Sem.run_pure, Result.andThen_ok, hrun]
          · cases h
        · cases h
      · cases h
    · cases h

theorem resAll_sound (m : M w0 β s a w) : ∀ {rs : List ResultVar} {ds : List DV}, resAll P s rs = some ds → ∃ us, (rs.mapM (oneSem a)).run P w = .ok us w ∧ DenVs w (ResF w0 w) ds us
  | [], ds, h => by simp only [resAll, Option.some.injEq] at h; subst h; exact ⟨[], rfl, trivial⟩
  | r :: rs, ds, h => by
    simp only [resAll] at h
    split at h
    · rename_i d ds' hd hds
      simp only [Option.some.injEq] at h; subst h
      obtain ⟨u, h1, h2⟩ := resOne_sound m hd
      obtain ⟨us, h3, h4⟩ := resAll_sound m hds
      exact ⟨u :: us, by rw [List.mapM_cons]; simp only [Sem.run_bind, h1, Result.andThen_ok, h3, Sem.run_pure], h2, h4⟩
    · cases h
theorem results_runD {fn : Func} (m : M w0 β s a w) {r : RV} (h : resD P fn.results s = some r) : ∃ u, (results fn a.tmps).run P w = .ok u w ∧ DenR w (ResF w0 w) r u := by
  have hres : results fn a.tmps = (do let vs ← fn.results.mapM (oneSem a); pure (if h : vs.size = 1 then vs[0] else .tuple vs)) := by
    unfold results
    refine congrArg (fun f => (do let vs ← fn.results.mapM f; pure (if h : vs.size = 1 then vs[0] else .tuple vs) : Go.Sem Value)) ?_
    funext r; cases r <;> rfl
  rw [hres]
  unfold resD at h
  have key : ∀ ds, resAll P s fn.results.toList = some ds → ∃ us, (fn.results.mapM (oneSem a)).run P w = .ok us.toArray w ∧ DenVs w (ResF w0 w) ds us := fun ds hds => by
    obtain ⟨us, h1, h2⟩ := resAll_sound m hds
    refine ⟨us, ?_, h2⟩
    rw [Array.mapM_eq_mapM_toList, map_eq_pure_bind]
    simp only [Sem.run_bind, h1, Result.andThen_ok, Sem.run_pure]
  split at h
  · rename_i d hd
    simp only [Option.some.injEq] at h; subst h
    obtain ⟨us, h1, h2⟩ := key _ hd
    cases us with
    | nil => exact h2.elim
    | cons u us =>
      cases us with
      | cons _ _ => exact h2.2.elim
      | nil =>
        refine ⟨u, ?_, h2.1⟩
        simp only [Sem.run_bind, h1, Result.andThen_ok, Sem.run_pure]
        rfl
  · rename_i ds hno hd
    simp only [Option.some.injEq] at h; subst h
    obtain ⟨us, h1, h2⟩ := key _ hd
    refine ⟨.tuple us.toArray, ?_, us.toArray, rfl, by simpa using h2⟩
    simp only [Sem.run_bind, h1, Result.andThen_ok, Sem.run_pure]
    have hlen : ¬ us.toArray.size = 1 := fun hl => by
      cases us with
      | nil => simp at hl
      | cons u us =>
        cases us with
        | cons _ _ => simp at hl
        | nil =>
          cases ds with
          | nil => exact h2.elim
          | cons d ds =>
            cases ds with
            | cons _ _ => exact h2.2.elim
            | nil => exact hno d rfl
    rw [dif_neg hlen]
  · cases h

theorem ro_sat {rs : Array ResultVar} {Q : RV → Prop} : ∀ {o : Out}, (o.ro P rs).sat Q → o.sat fun e s => (e = .normal ∨ e = .ret) ∧ ∃ r, resD P rs s = some r ∧ Q r
  | .leaf e s, h => by
    cases hr : resD P rs s with
    | none =>
      simp only [Out.ro, hr] at h
      cases e <;> exact h.elim
    | some r =>
      simp only [Out.ro, hr] at h
      cases e with
      | exit id => exact h.elim
      | normal => exact ⟨.inl rfl, r, hr, h⟩
      | ret => exact ⟨.inr rfl, r, hr, h⟩
  | .ite b x y, h => ⟨fun hb => ro_sat (o := x) (h.1 hb), fun hb => ro_sat (o := y) (h.2 hb)⟩
  | .side ps x, h => ⟨h.1, ro_sat (o := x) h.2⟩
  | .fail, h => h.elim

/-- THE CONTRACT OF A FUNCTION, over what its arguments show. -/
theorem dcontract (ht : TabsOk P X) (hm : P.follows .mixedOrders = true) {K : Nat} {fn : Func} (hf : P.funcs[K]? = some fn) (hn : (fn.name == "runtime.NumGoroutine") = false) {c : Code} (hb : fn.body = some c) (hl : ∀ w0 : Base P, Dyn.LpOk P w0 lp (blocksL c)) {fuel : Nat} {args : List DV} {r : RV} {O : RO}
    (hp : pOks args = true) (hO : (dfun P X lp fuel fn args).ro P fn.results = O) (hs : O.sat fun r' => RVLe r' r) : CallD P K args r := by
  intro w F us hF hden
  have hrun : (callFunc K us.toArray).run P w = .ok (.enter K us.toArray) w := by
    unfold callFunc
    simp only [Sem.run_bind, run_program, Result.andThen_ok, hf, hn, hb]
    simp
  rw [hrun]
  refine ⟨rfl, ?_⟩
  let w0 : Base P := ⟨w, F, hF, [], fun _ h => by cases h⟩
  have m0 : Mem w0 (fun _ => (0, fun _ => .bool false)) [] w := ⟨fun n he hn => by simp at hn, fun n k c d b hn => by simp at hn, fun n t cs hn => by simp at hn, fun _ _ => rfl, ⟨rfl, rfl, rfl, Nat.le_refl _, fun _ _ _ => rfl⟩⟩
  obtain ⟨β, _, i2, i3, i4, i5, i6⟩ := init_args (w0 := w0) args us [] _ m0 (fun b hb => .inl hb) hp hden
  simp only [List.length_nil, List.nil_append] at i2 i3 i4 i5 i6
  have hlen : us.length = args.length := by
    have : ∀ (ds : List DV) (us : List Value), DenVs w F ds us → us.length = ds.length := by
      intro ds
      induction ds with
      | nil => intro us h; cases us with
        | nil => rfl
        | cons _ _ => exact h.elim
      | cons d ds ih => intro us h; cases us with
        | nil => exact h.elim
        | cons u us => simp only [List.length_cons]; rw [ih us h.2]
    exact this args us hden
  have m : M w0 β (initS fn args) { tmps := us.toArray ++ Array.replicate (fn.ntmps - us.toArray.size) undef, defers := [] } w := by
    refine { defers := rfl, size := by simp [initS, i3, hlen], slot := fun i u hu => ?_, locs := fun i n hn => ?_, mem := i2, tie := fun p hp => by cases hp }
    · by_cases hi : i < us.length
      · have e2 : (us.toArray ++ Array.replicate (fn.ntmps - us.toArray.size) undef)[i]? = us[i]? := by
          rw [Array.getElem?_append_left (by simpa using hi)]; simp
        rw [e2] at hu
        have e1 : (initS fn args).slots.getD i .junk = (initA 0 args).1.getD i .junk := by
          simp only [initS, List.getD_eq_getElem?_getD]
          rw [List.getElem?_append_left (by rw [i3]; exact hi)]
        rw [e1]
        exact Den_congr (fun _ _ => rfl) (fun c hc => by
          have hg : isG ((initA 0 args).1.getD i .junk) = false := by
            rw [List.getD_eq_getElem?_getD, List.getElem?_eq_getElem (by rw [i3]; exact hi)]
            exact i6 _ (List.getElem_mem _)
          rw [isG_conds hg] at hc; cases hc) (i4 i u hu)
      · have e1 : (initS fn args).slots.getD i .junk = .junk := by
          simp only [initS, List.getD_eq_getElem?_getD]
          rw [List.getElem?_append_right (by rw [i3]; omega), List.getElem?_replicate]
          split <;> rfl
        rw [e1]; trivial
    · by_cases hi : i < us.length
      · have e1 : (initS fn args).slots.getD i .junk = (initA 0 args).1.getD i .junk := by
          simp only [initS, List.getD_eq_getElem?_getD]
          rw [List.getElem?_append_left (by rw [i3]; exact hi)]
        rw [e1] at hn
        exact i5 i n hn
      · have e1 : (initS fn args).slots.getD i .junk = .junk := by
          simp only [initS, List.getD_eq_getElem?_getD]
          rw [List.getElem?_append_right (by rw [i3]; omega), List.getElem?_replicate]
          split <;> rfl
        rw [e1] at hn; cases hn
  have ng : NoG (initS fn args) := by
    intro x hx
    rcases List.mem_append.1 hx with hx | hx
    · exact i6 x hx
    · rw [(List.mem_replicate.1 hx).2]; rfl
  have hsat := ro_sat (hO ▸ hs)
  unfold dfun at hsat
  rw [hb] at hsat
  refine calls_of_wp hf hb ?_
  refine lexec_sound ht hm c (hl w0) .leaf _ _ _ w _ m ng hsat fun e s β a w' m' _ hl => ?_
  obtain ⟨he, r', hr, hq⟩ := hl
  obtain ⟨u, hu1, hu2⟩ := results_runD m' hr
  have hpost : a.defers = [] ∧ ∃ v', (results fn a.tmps).run P w' = .ok v' w' ∧ ∃ u, Ending.returned v' = .returned u ∧ DenR w' (fun b => F b ∨ (w.heap.size ≤ b ∧ b < w'.heap.size)) r u ∧ Below w.heap.size w w' :=
    ⟨m'.defers, u, hu1, u, rfl, DenR_le hq hu2, ⟨m'.mem.below.os, m'.mem.below.tape, m'.mem.below.output, m'.mem.below.size, fun k hk => m'.mem.below.block k hk (fun h => by cases h)⟩⟩
  rcases he with rfl | rfl <;> exact hpost
/-- a contract whose result has no depth -/
theorem dcontractV (ht : TabsOk P X) (hm : P.follows .mixedOrders = true) {K : Nat} {fn : Func} (hf : P.funcs[K]? = some fn) (hn : (fn.name == "runtime.NumGoroutine") = false) {c : Code} (hb : fn.body = some c) (hl : ∀ w0 : Base P, Dyn.LpOk P w0 lp (blocksL c)) {fuel : Nat} {args : List DV} {v : Value} {l : List Prop}
    (hp : pOks args = true) (hv : ((dfun P X lp fuel fn args).ro P fn.results).val = some v) (hs : ((dfun P X lp fuel fn args).ro P fn.results).sideList = l) (ha : allP l) : CallD P K args (.val (.one (.p v))) :=
  dcontract (fuel := fuel) ht hm hf hn hb hl hp rfl (by
    have := RO.sat_val hv (by rw [hs]; exact ha)
    have mono : ∀ {o : RO} {Q Q' : RV → Prop}, (∀ r, Q r → Q' r) → o.sat Q → o.sat Q' := by
      intro o
      induction o with
      | leaf r => intro Q Q' h k; exact h r k
      | ite b x y ihx ihy => intro Q Q' h k; exact ⟨fun hb => ihx h (k.1 hb), fun hb => ihy h (k.2 hb)⟩
      | side ps x ih => intro Q Q' h k; exact ⟨k.1, ih h k.2⟩
      | fail => intro Q Q' h k; exact k
    exact mono (fun r hr => by subst hr; exact RVLe.refl _) this)
/-- no blocks are told -/
def noLp : Lp := fun _ _ => none
theorem noLp_ok (c : Code) (w0 : Base P) : Dyn.LpOk P w0 noLp (blocksL c) := fun p hp s o h => by cases h

/-! ### tables of contracts -/
abbrev EntryD := Nat × (List DV → Option (RV × List Prop))
def tdOf : List EntryD → Nat → List DV → Option (RV × List Prop)
  | [], _, _ => none
  | e :: es, K, args => bif Nat.beq e.1 K then e.2 args else tdOf es K args
def EntryDOk (P : Program) (e : EntryD) : Prop := ∀ args r ps, e.2 args = some (r, ps) → allP ps → CallD P e.1 args r
theorem tdOf_ok : ∀ {es : List EntryD}, (∀ e ∈ es, EntryDOk P e) → ∀ K args r ps, tdOf es K args = some (r, ps) → allP ps → CallD P K args r
  | [], _ => fun K args r ps h => by simp [tdOf] at h
  | e :: es, h => fun K args r ps hv => by
    simp only [tdOf] at hv
    cases hb : Nat.beq e.1 K with
    | true =>
      rw [hb] at hv
      have : e.1 = K := Nat.eq_of_beq_eq_true hb
      subst this
      exact h e (by simp) args r ps hv
    | false =>
      rw [hb] at hv
      exact tdOf_ok (es := es) (fun x hx => h x (by simp [hx])) K args r ps hv
def tabs (es : List Entry) (ds : List EntryD) (dres : Nat → Bool) (dty : TypeId → Bool) : Tabs := { tb := tbOf es, td := tdOf ds, dres := dres, dty := dty }
theorem tabs_ok {es : List Entry} {ds : List EntryD} {dres : Nat → Bool} {dty : TypeId → Bool} (h1 : ∀ e ∈ es, EntryOk P e) (h2 : ∀ e ∈ ds, EntryDOk P e) : TabsOk P (tabs es ds dres dty) := ⟨tbOf_ok h1, (fun K f az lent u out ps h => by cases h), tdOf_ok h2⟩
abbrev EntryX := Nat × (List LA → Lent → Option (Value × List (List Value) × List Prop))
def txOf : List EntryX → Nat → Option (List LA → Lent → Option (Value × List (List Value) × List Prop))
  | [], _ => none
  | e :: es, K => bif Nat.beq e.1 K then some e.2 else txOf es K
def EntryXOk (P : Program) (e : EntryX) : Prop := ∀ az lent u out ps, e.2 az lent = some (u, out, ps) → allP ps → CallX P e.1 az lent u out
theorem txOf_ok : ∀ {es : List EntryX}, (∀ e ∈ es, EntryXOk P e) → ∀ K f az lent u out ps, txOf es K = some f → f az lent = some (u, out, ps) → allP ps → CallX P K az lent u out
  | [], _ => fun K f az lent u out ps h => by cases h
  | e :: es, h => fun K f az lent u out ps hk hv => by
    simp only [txOf] at hk
    cases hb : Nat.beq e.1 K with
    | true =>
      rw [hb] at hk
      have : e.1 = K := Nat.eq_of_beq_eq_true hb
      subst this
      simp only [cond_true, Option.some.injEq] at hk; subst hk
      exact h e (by simp) az lent u out ps hv
    | false =>
      rw [hb] at hk
      exact txOf_ok (es := es) (fun x hx => h x (by simp [hx])) K f az lent u out ps hk hv
def tabsX (es : List Entry) (ds : List EntryD) (xs : List EntryX) (dres : Nat → Bool) (dty : TypeId → Bool) (dtmp : Bool) : Tabs := { tb := tbOf es, td := tdOf ds, dres := dres, dty := dty, tx := txOf xs, dtmp := dtmp }
theorem tabsX_ok {es : List Entry} {ds : List EntryD} {xs : List EntryX} {dres : Nat → Bool} {dty : TypeId → Bool} {dtmp : Bool} (h1 : ∀ e ∈ es, EntryOk P e) (h2 : ∀ e ∈ ds, EntryDOk P e) (h3 : ∀ e ∈ xs, EntryXOk P e) : TabsOk P (tabsX es ds xs dres dty dtmp) := ⟨tbOf_ok h1, txOf_ok h3, tdOf_ok h2⟩
end
end Go.Proofs.Ytfooaikpcbnchaa.Dyn

/-! ## Geo -/
namespace Go.Proofs.Ytfooaikpcbnchaa
open Go Go.RowKit
set_option maxRecDepth 100000

abbrev W (x : Int) : Int := IntKind.i64.wrap x
abbrev U (x : Int) : Int := IntKind.u64.wrap x
structure P2 where
  x : Int
  y : Int
structure B4 where
  x0 : Int
  y0 : Int
  x1 : Int
  y1 : Int
structure W2 where
  hi : Int
  lo : Int
abbrev vi (x : Int) : Value := .int .i64 x
abbrev vu (x : Int) : Value := .int .u64 x
abbrev vb (x : Bool) : Value := .bool x
abbrev pt (p : P2) : Value := .agg ⟨[vi p.x, vi p.y]⟩
abbrev bx (b : B4) : Value := .agg ⟨[vi b.x0, vi b.y0, vi b.x1, vi b.y1]⟩
abbrev wd (w : W2) : Value := .agg ⟨[vu w.hi, vu w.lo]⟩
def dI : Value → Option Int | .int .i64 x => some x | _ => none
def dU : Value → Option Int | .int .u64 x => some x | _ => none
def dB : Value → Option Bool | .bool x => some x | _ => none
def dP : Value → Option P2 | .agg ⟨[.int .i64 x, .int .i64 y]⟩ => some ⟨x, y⟩ | _ => none
def dBx : Value → Option B4 | .agg ⟨[.int .i64 a, .int .i64 b, .int .i64 c, .int .i64 d]⟩ => some ⟨a, b, c, d⟩ | _ => none
def dW : Value → Option W2 | .agg ⟨[.int .u64 x, .int .u64 y]⟩ => some ⟨x, y⟩ | _ => none
theorem dI_eq {v : Value} {x : Int} (h : dI v = some x) : v = vi x := by unfold dI at h; split at h <;> simp_all
theorem dU_eq {v : Value} {x : Int} (h : dU v = some x) : v = vu x := by unfold dU at h; split at h <;> simp_all
theorem dB_eq {v : Value} {x : Bool} (h : dB v = some x) : v = vb x := by unfold dB at h; split at h <;> simp_all
theorem dP_eq {v : Value} {x : P2} (h : dP v = some x) : v = pt x := by
  unfold dP at h; split at h
  · simp only [Option.some.injEq] at h; subst h; rfl
  · cases h
theorem dBx_eq {v : Value} {x : B4} (h : dBx v = some x) : v = bx x := by
  unfold dBx at h; split at h
  · simp only [Option.some.injEq] at h; subst h; rfl
  · cases h
theorem dW_eq {v : Value} {x : W2} (h : dW v = some x) : v = wd x := by
  unfold dW at h; split at h
  · simp only [Option.some.injEq] at h; subst h; rfl
  · cases h

/-! ### entries of a table by the shapes of the arguments -/
def en0 (r : Value) : List Value → Option (Value × List Prop)
  | [] => some (r, [])
  | _ => none
def en1 {α : Type} (d0 : Value → Option α) (f : α → Value) : List Value → Option (Value × List Prop)
  | [u0] => match d0 u0 with | some a0 => some (f a0, []) | _ => none
  | _ => none
def en1p {α : Type} (d0 : Value → Option α) (q : α → Prop) (f : α → Value) : List Value → Option (Value × List Prop)
  | [u0] => match d0 u0 with | some a0 => some (f a0, [q a0]) | _ => none
  | _ => none
def en2 {α β : Type} (d0 : Value → Option α) (d1 : Value → Option β) (f : α → β → Value) : List Value → Option (Value × List Prop)
  | [u0, u1] => match d0 u0, d1 u1 with | some a0, some a1 => some (f a0 a1, []) | _, _ => none
  | _ => none
def en2p {α β : Type} (d0 : Value → Option α) (d1 : Value → Option β) (q : α → β → Prop) (f : α → β → Value) : List Value → Option (Value × List Prop)
  | [u0, u1] => match d0 u0, d1 u1 with | some a0, some a1 => some (f a0 a1, [q a0 a1]) | _, _ => none
  | _ => none
def en3 {α β γ : Type} (d0 : Value → Option α) (d1 : Value → Option β) (d2 : Value → Option γ) (f : α → β → γ → Value) : List Value → Option (Value × List Prop)
  | [u0, u1, u2] => match d0 u0, d1 u1, d2 u2 with | some a0, some a1, some a2 => some (f a0 a1 a2, []) | _, _, _ => none
  | _ => none
def en3p {α β γ : Type} (d0 : Value → Option α) (d1 : Value → Option β) (d2 : Value → Option γ) (q : α → β → γ → Prop) (f : α → β → γ → Value) : List Value → Option (Value × List Prop)
  | [u0, u1, u2] => match d0 u0, d1 u1, d2 u2 with | some a0, some a1, some a2 => some (f a0 a1 a2, [q a0 a1 a2]) | _, _, _ => none
  | _ => none
def en4 {α β γ δ : Type} (d0 : Value → Option α) (d1 : Value → Option β) (d2 : Value → Option γ) (d3 : Value → Option δ) (f : α → β → γ → δ → Value) : List Value → Option (Value × List Prop)
  | [u0, u1, u2, u3] => match d0 u0, d1 u1, d2 u2, d3 u3 with | some a0, some a1, some a2, some a3 => some (f a0 a1 a2 a3, []) | _, _, _, _ => none
  | _ => none
def en4p {α β γ δ : Type} (d0 : Value → Option α) (d1 : Value → Option β) (d2 : Value → Option γ) (d3 : Value → Option δ) (q : α → β → γ → δ → Prop) (f : α → β → γ → δ → Value) : List Value → Option (Value × List Prop)
  | [u0, u1, u2, u3] => match d0 u0, d1 u1, d2 u2, d3 u3 with | some a0, some a1, some a2, some a3 => some (f a0 a1 a2 a3, [q a0 a1 a2 a3]) | _, _, _, _ => none
  | _ => none
def en5 {α β γ δ ε : Type} (d0 : Value → Option α) (d1 : Value → Option β) (d2 : Value → Option γ) (d3 : Value → Option δ) (d4 : Value → Option ε) (f : α → β → γ → δ → ε → Value) : List Value → Option (Value × List Prop)
  | [u0, u1, u2, u3, u4] => match d0 u0, d1 u1, d2 u2, d3 u3, d4 u4 with | some a0, some a1, some a2, some a3, some a4 => some (f a0 a1 a2 a3 a4, []) | _, _, _, _, _ => none
  | _ => none
def en5p {α β γ δ ε : Type} (d0 : Value → Option α) (d1 : Value → Option β) (d2 : Value → Option γ) (d3 : Value → Option δ) (d4 : Value → Option ε) (q : α → β → γ → δ → ε → Prop) (f : α → β → γ → δ → ε → Value) : List Value → Option (Value × List Prop)
  | [u0, u1, u2, u3, u4] => match d0 u0, d1 u1, d2 u2, d3 u3, d4 u4 with | some a0, some a1, some a2, some a3, some a4 => some (f a0 a1 a2 a3 a4, [q a0 a1 a2 a3 a4]) | _, _, _, _, _ => none
  | _ => none
def en6 {α β γ δ ε ζ : Type} (d0 : Value → Option α) (d1 : Value → Option β) (d2 : Value → Option γ) (d3 : Value → Option δ) (d4 : Value → Option ε) (d5 : Value → Option ζ) (f : α → β → γ → δ → ε → ζ → Value) : List Value → Option (Value × List Prop)
  | [u0, u1, u2, u3, u4, u5] => match d0 u0, d1 u1, d2 u2, d3 u3, d4 u4, d5 u5 with | some a0, some a1, some a2, some a3, some a4, some a5 => some (f a0 a1 a2 a3 a4 a5, []) | _, _, _, _, _, _ => none
  | _ => none
def en6p {α β γ δ ε ζ : Type} (d0 : Value → Option α) (d1 : Value → Option β) (d2 : Value → Option γ) (d3 : Value → Option δ) (d4 : Value → Option ε) (d5 : Value → Option ζ) (q : α → β → γ → δ → ε → ζ → Prop) (f : α → β → γ → δ → ε → ζ → Value) : List Value → Option (Value × List Prop)
  | [u0, u1, u2, u3, u4, u5] => match d0 u0, d1 u1, d2 u2, d3 u3, d4 u4, d5 u5 with | some a0, some a1, some a2, some a3, some a4, some a5 => some (f a0 a1 a2 a3 a4 a5, [q a0 a1 a2 a3 a4 a5]) | _, _, _, _, _, _ => none
  | _ => none
def en7 {α β γ δ ε ζ η : Type} (d0 : Value → Option α) (d1 : Value → Option β) (d2 : Value → Option γ) (d3 : Value → Option δ) (d4 : Value → Option ε) (d5 : Value → Option ζ) (d6 : Value → Option η) (f : α → β → γ → δ → ε → ζ → η → Value) : List Value → Option (Value × List Prop)
  | [u0, u1, u2, u3, u4, u5, u6] => match d0 u0, d1 u1, d2 u2, d3 u3, d4 u4, d5 u5, d6 u6 with | some a0, some a1, some a2, some a3, some a4, some a5, some a6 => some (f a0 a1 a2 a3 a4 a5 a6, []) | _, _, _, _, _, _, _ => none
  | _ => none
def en7p {α β γ δ ε ζ η : Type} (d0 : Value → Option α) (d1 : Value → Option β) (d2 : Value → Option γ) (d3 : Value → Option δ) (d4 : Value → Option ε) (d5 : Value → Option ζ) (d6 : Value → Option η) (q : α → β → γ → δ → ε → ζ → η → Prop) (f : α → β → γ → δ → ε → ζ → η → Value) : List Value → Option (Value × List Prop)
  | [u0, u1, u2, u3, u4, u5, u6] => match d0 u0, d1 u1, d2 u2, d3 u3, d4 u4, d5 u5, d6 u6 with | some a0, some a1, some a2, some a3, some a4, some a5, some a6 => some (f a0 a1 a2 a3 a4 a5 a6, [q a0 a1 a2 a3 a4 a5 a6]) | _, _, _, _, _, _, _ => none
  | _ => none
theorem en0_ok {P : Program} {K : Nat} {r : Value} (h : Sym.CallOk P K [] r) : Sym.EntryOk P (K, en0 r) := by
  intro args v ps hv _
  simp only [en0] at hv
  split at hv
  · simp only [Option.some.injEq, Prod.mk.injEq] at hv; obtain ⟨rfl, _⟩ := hv; exact h
  · cases hv
theorem en1_ok {P : Program} {K : Nat} {α : Type} {d0 : Value → Option α} {c0 : α → Value} {f : α → Value} (h0 : ∀ {u a}, d0 u = some a → u = c0 a) (h : ∀ a0, Sym.CallOk P K [c0 a0] (f a0)) : Sym.EntryOk P (K, en1 d0 f) := by
  intro args v ps hv hps
  simp only [en1] at hv
  split at hv
  · split at hv
    · rename_i a0 e0
      simp only [Option.some.injEq, Prod.mk.injEq] at hv
      obtain ⟨rfl, rfl⟩ := hv
      rw [h0 e0]; exact h a0
    · cases hv
  · cases hv
theorem en1p_ok {P : Program} {K : Nat} {α : Type} {d0 : Value → Option α} {c0 : α → Value} {q : α → Prop} {f : α → Value} (h0 : ∀ {u a}, d0 u = some a → u = c0 a) (h : ∀ a0, q a0 → Sym.CallOk P K [c0 a0] (f a0)) : Sym.EntryOk P (K, en1p d0 q f) := by
  intro args v ps hv hps
  simp only [en1p] at hv
  split at hv
  · split at hv
    · rename_i a0 e0
      simp only [Option.some.injEq, Prod.mk.injEq] at hv
      obtain ⟨rfl, rfl⟩ := hv
      rw [h0 e0]; exact h a0 hps.1
    · cases hv
  · cases hv
theorem en2_ok {P : Program} {K : Nat} {α β : Type} {d0 : Value → Option α} {c0 : α → Value} {d1 : Value → Option β} {c1 : β → Value} {f : α → β → Value} (h0 : ∀ {u a}, d0 u = some a → u = c0 a) (h1 : ∀ {u a}, d1 u = some a → u = c1 a) (h : ∀ a0 a1, Sym.CallOk P K [c0 a0, c1 a1] (f a0 a1)) : Sym.EntryOk P (K, en2 d0 d1 f) := by
  intro args v ps hv hps
  simp only [en2] at hv
  split at hv
  · split at hv
    · rename_i a0 a1 e0 e1
      simp only [Option.some.injEq, Prod.mk.injEq] at hv
      obtain ⟨rfl, rfl⟩ := hv
      rw [h0 e0, h1 e1]; exact h a0 a1
    · cases hv
  · cases hv
theorem en2p_ok {P : Program} {K : Nat} {α β : Type} {d0 : Value → Option α} {c0 : α → Value} {d1 : Value → Option β} {c1 : β → Value} {q : α → β → Prop} {f : α → β → Value} (h0 : ∀ {u a}, d0 u = some a → u = c0 a) (h1 : ∀ {u a}, d1 u = some a → u = c1 a) (h : ∀ a0 a1, q a0 a1 → Sym.CallOk P K [c0 a0, c1 a1] (f a0 a1)) : Sym.EntryOk P (K, en2p d0 d1 q f) := by
  intro args v ps hv hps
  simp only [en2p] at hv
  split at hv
  · split at hv
    · rename_i a0 a1 e0 e1
      simp only [Option.some.injEq, Prod.mk.injEq] at hv
      obtain ⟨rfl, rfl⟩ := hv
      rw [h0 e0, h1 e1]; exact h a0 a1 hps.1
    · cases hv
  · cases hv
theorem en3_ok {P : Program} {K : Nat} {α β γ : Type} {d0 : Value → Option α} {c0 : α → Value} {d1 : Value → Option β} {c1 : β → Value} {d2 : Value → Option γ} {c2 : γ → Value} {f : α → β → γ → Value} (h0 : ∀ {u a}, d0 u = some a → u = c0 a) (h1 : ∀ {u a}, d1 u = some a → u = c1 a) (h2 : ∀ {u a}, d2 u = some a → u = c2 a) (h : ∀ a0 a1 a2, Sym.CallOk P K [c0 a0, c1 a1, c2 a2] (f a0 a1 a2)) : Sym.EntryOk P (K, en3 d0 d1 d2 f) := by
  intro args v ps hv hps
  simp only [en3] at hv
  split at hv
  · split at hv
    · rename_i a0 a1 a2 e0 e1 e2
      simp only [Option.some.injEq, Prod.mk.injEq] at hv
      obtain ⟨rfl, rfl⟩ := hv
      rw [h0 e0, h1 e1, h2 e2]; exact h a0 a1 a2
    · cases hv
  · cases hv
theorem en3p_ok {P : Program} {K : Nat} {α β γ : Type} {d0 : Value → Option α} {c0 : α → Value} {d1 : Value → Option β} {c1 : β → Value} {d2 : Value → Option γ} {c2 : γ → Value} {q : α → β → γ → Prop} {f : α → β → γ → Value} (h0 : ∀ {u a}, d0 u = some a → u = c0 a) (h1 : ∀ {u a}, d1 u = some a → u = c1 a) (h2 : ∀ {u a}, d2 u = some a → u = c2 a) (h : ∀ a0 a1 a2, q a0 a1 a2 → Sym.CallOk P K [c0 a0, c1 a1, c2 a2] (f a0 a1 a2)) : Sym.EntryOk P (K, en3p d0 d1 d2 q f) := by
  intro args v ps hv hps
  simp only [en3p] at hv
  split at hv
  · split at hv
    · rename_i a0 a1 a2 e0 e1 e2
      simp only [Option.some.injEq, Prod.mk.injEq] at hv
      obtain ⟨rfl, rfl⟩ := hv
      rw [h0 e0, h1 e1, h2 e2]; exact h a0 a1 a2 hps.1
    · cases hv
  · cases hv
theorem en4_ok {P : Program} {K : Nat} {α β γ δ : Type} {d0 : Value → Option α} {c0 : α → Value} {d1 : Value → Option β} {c1 : β → Value} {d2 : Value → Option γ} {c2 : γ → Value} {d3 : Value → Option δ} {c3 : δ → Value} {f : α → β → γ → δ → Value} (h0 : ∀ {u a}, d0 u = some a → u = c0 a) (h1 : ∀ {u a}, d1 u = some a → u = c1 a) (h2 : ∀ {u a}, d2 u = some a → u = c2 a) (h3 : ∀ {u a}, d3 u = some a → u = c3 a) (h : ∀ a0 a1 a2 a3, Sym.CallOk P K [c0 a0, c1 a1, c2 a2, c3 a3] (f a0 a1 a2 a3)) : Sym.EntryOk P (K, en4 d0 d1 d2 d3 f) := by
  intro args v ps hv hps
  simp only [en4] at hv
  split at hv
  · split at hv
    · rename_i a0 a1 a2 a3 e0 e1 e2 e3
      simp only [Option.some.injEq, Prod.mk.injEq] at hv
      obtain ⟨rfl, rfl⟩ := hv
      rw [h0 e0, h1 e1, h2 e2, h3 e3]; exact h a0 a1 a2 a3
    · cases hv
  · cases hv
theorem en4p_ok {P : Program} {K : Nat} {α β γ δ : Type} {d0 : Value → Option α} {c0 : α → Value} {d1 : Value → Option β} {c1 : β → Value} {d2 : Value → Option γ} {c2 : γ → Value} {d3 : Value → Option δ} {c3 : δ → Value} {q : α → β → γ → δ → Prop} {f : α → β → γ → δ → Value} (h0 : ∀ {u a}, d0 u = some a → u = c0 a) (h1 : ∀ {u a}, d1 u = some a → u = c1 a) (h2 : ∀ {u a}, d2 u = some a → u = c2 a) (h3 : ∀ {u a}, d3 u = some a → u = c3 a) (h : ∀ a0 a1 a2 a3, q a0 a1 a2 a3 → Sym.CallOk P K [c0 a0, c1 a1, c2 a2, c3 a3] (f a0 a1 a2 a3)) : Sym.EntryOk P (K, en4p d0 d1 d2 d3 q f) := by
  intro args v ps hv hps
  simp only [en4p] at hv
  split at hv
  · split at hv
    · rename_i a0 a1 a2 a3 e0 e1 e2 e3
      simp only [Option.some.injEq, Prod.mk.injEq] at hv
      obtain ⟨rfl, rfl⟩ := hv
      rw [h0 e0, h1 e1, h2 e2, h3 e3]; exact h a0 a1 a2 a3 hps.1
    · cases hv
  · cases hv
theorem en5_ok {P : Program} {K : Nat} {α β γ δ ε : Type} {d0 : Value → Option α} {c0 : α → Value} {d1 : Value → Option β} {c1 : β → Value} {d2 : Value → Option γ} {c2 : γ → Value} {d3 : Value → Option δ} {c3 : δ → Value} {d4 : Value → Option ε} {c4 : ε → Value} {f : α → β → γ → δ → ε → Value} (h0 : ∀ {u a}, d0 u = some a → u = c0 a) (h1 : ∀ {u a}, d1 u = some a → u = c1 a) (h2 : ∀ {u a}, d2 u = some a → u = c2 a) (h3 : ∀ {u a}, d3 u = some a → u = c3 a) (h4 : ∀ {u a}, d4 u = some a → u = c4 a) (h : ∀ a0 a1 a2 a3 a4, Sym.CallOk P K [c0 a0, c1 a1, c2 a2, c3 a3, c4 a4] (f a0 a1 a2 a3 a4)) : Sym.EntryOk P (K, en5 d0 d1 d2 d3 d4 f) := by
  intro args v ps hv hps
  simp only [en5] at hv
  split at hv
  · split at hv
    · rename_i a0 a1 a2 a3 a4 e0 e1 e2 e3 e4
      simp only [Option.some.injEq, Prod.mk.injEq] at hv
      obtain ⟨rfl, rfl⟩ := hv
      rw [h0 e0, h1 e1, h2 e2, h3 e3, h4 e4]; exact h a0 a1 a2 a3 a4
    · cases hv
  · cases hv
theorem en5p_ok {P : Program} {K : Nat} {α β γ δ ε : Type} {d0 : Value → Option α} {c0 : α → Value} {d1 : Value → Option β} {c1 : β → Value} {d2 : Value → Option γ} {c2 : γ → Value} {d3 : Value → Option δ} {c3 : δ → Value} {d4 : Value → Option ε} {c4 : ε → Value} {q : α → β → γ → δ → ε → Prop} {f : α → β → γ → δ → ε → Value} (h0 : ∀ {u a}, d0 u = some a → u = c0 a) (h1 : ∀ {u a}, d1 u = some a → u = c1 a) (h2 : ∀ {u a}, d2 u = some a → u = c2 a) (h3 : ∀ {u a}, d3 u = some a → u = c3 a) (h4 : ∀ {u a}, d4 u = some a → u = c4 a) (h : ∀ a0 a1 a2 a3 a4, q a0 a1 a2 a3 a4 → Sym.CallOk P K [c0 a0, c1 a1, c2 a2, c3 a3, c4 a4] (f a0 a1 a2 a3 a4)) : Sym.EntryOk P (K, en5p d0 d1 d2 d3 d4 q f) := by
  intro args v ps hv hps
  simp only [en5p] at hv
  split at hv
  · split at hv
    · rename_i a0 a1 a2 a3 a4 e0 e1 e2 e3 e4
      simp only [Option.some.injEq, Prod.mk.injEq] at hv
      obtain ⟨rfl, rfl⟩ := hv
      rw [h0 e0, h1 e1, h2 e2, h3 e3, h4 e4]; exact h a0 a1 a2 a3 a4 hps.1
    · cases hv
  · cases hv
theorem en6_ok {P : Program} {K : Nat} {α β γ δ ε ζ : Type} {d0 : Value → Option α} {c0 : α → Value} {d1 : Value → Option β} {c1 : β → Value} {d2 : Value → Option γ} {c2 : γ → Value} {d3 : Value → Option δ} {c3 : δ → Value} {d4 : Value → Option ε} {c4 : ε → Value} {d5 : Value → Option ζ} {c5 : ζ → Value} {f : α → β → γ → δ → ε → ζ → Value} (h0 : ∀ {u a}, d0 u = some a → u = c0 a) (h1 : ∀ {u a}, d1 u = some a → u = c1 a) (h2 : ∀ {u a}, d2 u = some a → u = c2 a) (h3 : ∀ {u a}, d3 u = some a → u = c3 a) (h4 : ∀ {u a}, d4 u = some a → u = c4 a) (h5 : ∀ {u a}, d5 u = some a → u = c5 a) (h : ∀ a0 a1 a2 a3 a4 a5, Sym.CallOk P K [c0 a0, c1 a1, c2 a2, c3 a3, c4 a4, c5 a5] (f a0 a1 a2 a3 a4 a5)) : Sym.EntryOk P (K, en6 d0 d1 d2 d3 d4 d5 f) := by
  intro args v ps hv hps
  simp only [en6] at hv
  split at hv
  · split at hv
    · rename_i a0 a1 a2 a3 a4 a5 e0 e1 e2 e3 e4 e5
      simp only [Option.some.injEq, Prod.mk.injEq] at hv
      obtain ⟨rfl, rfl⟩ := hv
      rw [h0 e0, h1 e1, h2 e2, h3 e3, h4 e4, h5 e5]; exact h a0 a1 a2 a3 a4 a5
    · cases hv
  · cases hv
theorem en6p_ok {P : Program} {K : Nat} {α β γ δ ε ζ : Type} {d0 : Value → Option α} {c0 : α → Value} {d1 : Value → Option β} {c1 : β → Value} {d2 : Value → Option γ} {c2 : γ → Value} {d3 : Value → Option δ} {c3 : δ → Value} {d4 : Value → Option ε} {c4 : ε → Value} {d5 : Value → Option ζ} {c5 : ζ → Value} {q : α → β → γ → δ → ε → ζ → Prop} {f : α → β → γ → δ → ε → ζ → Value} (h0 : ∀ {u a}, d0 u = some a → u = c0 a) (h1 : ∀ {u a}, d1 u = some a → u = c1 a) (h2 : ∀ {u a}, d2 u = some a → u = c2 a) (h3 : ∀ {u a}, d3 u = some a → u = c3 a) (h4 : ∀ {u a}, d4 u = some a → u = c4 a) (h5 : ∀ {u a}, d5 u = some a → u = c5 a) (h : ∀ a0 a1 a2 a3 a4 a5, q a0 a1 a2 a3 a4 a5 → Sym.CallOk P K [c0 a0, c1 a1, c2 a2, c3 a3, c4 a4, c5 a5] (f a0 a1 a2 a3 a4 a5)) : Sym.EntryOk P (K, en6p d0 d1 d2 d3 d4 d5 q f) := by
  intro args v ps hv hps
  simp only [en6p] at hv
  split at hv
  · split at hv
    · rename_i a0 a1 a2 a3 a4 a5 e0 e1 e2 e3 e4 e5
      simp only [Option.some.injEq, Prod.mk.injEq] at hv
      obtain ⟨rfl, rfl⟩ := hv
      rw [h0 e0, h1 e1, h2 e2, h3 e3, h4 e4, h5 e5]; exact h a0 a1 a2 a3 a4 a5 hps.1
    · cases hv
  · cases hv
theorem en7_ok {P : Program} {K : Nat} {α β γ δ ε ζ η : Type} {d0 : Value → Option α} {c0 : α → Value} {d1 : Value → Option β} {c1 : β → Value} {d2 : Value → Option γ} {c2 : γ → Value} {d3 : Value → Option δ} {c3 : δ → Value} {d4 : Value → Option ε} {c4 : ε → Value} {d5 : Value → Option ζ} {c5 : ζ → Value} {d6 : Value → Option η} {c6 : η → Value} {f : α → β → γ → δ → ε → ζ → η → Value} (h0 : ∀ {u a}, d0 u = some a → u = c0 a) (h1 : ∀ {u a}, d1 u = some a → u = c1 a) (h2 : ∀ {u a}, d2 u = some a → u = c2 a) (h3 : ∀ {u a}, d3 u = some a → u = c3 a) (h4 : ∀ {u a}, d4 u = some a → u = c4 a) (h5 : ∀ {u a}, d5 u = some a → u = c5 a) (h6 : ∀ {u a}, d6 u = some a → u = c6 a) (h : ∀ a0 a1 a2 a3 a4 a5 a6, Sym.CallOk P K [c0 a0, c1 a1, c2 a2, c3 a3, c4 a4, c5 a5, c6 a6] (f a0 a1 a2 a3 a4 a5 a6)) : Sym.EntryOk P (K, en7 d0 d1 d2 d3 d4 d5 d6 f) := by
  intro args v ps hv hps
  simp only [en7] at hv
  split at hv
  · split at hv
    · rename_i a0 a1 a2 a3 a4 a5 a6 e0 e1 e2 e3 e4 e5 e6
      simp only [Option.some.injEq, Prod.mk.injEq] at hv
      obtain ⟨rfl, rfl⟩ := hv
      rw [h0 e0, h1 e1, h2 e2, h3 e3, h4 e4, h5 e5, h6 e6]; exact h a0 a1 a2 a3 a4 a5 a6
    · cases hv
  · cases hv
theorem en7p_ok {P : Program} {K : Nat} {α β γ δ ε ζ η : Type} {d0 : Value → Option α} {c0 : α → Value} {d1 : Value → Option β} {c1 : β → Value} {d2 : Value → Option γ} {c2 : γ → Value} {d3 : Value → Option δ} {c3 : δ → Value} {d4 : Value → Option ε} {c4 : ε → Value} {d5 : Value → Option ζ} {c5 : ζ → Value} {d6 : Value → Option η} {c6 : η → Value} {q : α → β → γ → δ → ε → ζ → η → Prop} {f : α → β → γ → δ → ε → ζ → η → Value} (h0 : ∀ {u a}, d0 u = some a → u = c0 a) (h1 : ∀ {u a}, d1 u = some a → u = c1 a) (h2 : ∀ {u a}, d2 u = some a → u = c2 a) (h3 : ∀ {u a}, d3 u = some a → u = c3 a) (h4 : ∀ {u a}, d4 u = some a → u = c4 a) (h5 : ∀ {u a}, d5 u = some a → u = c5 a) (h6 : ∀ {u a}, d6 u = some a → u = c6 a) (h : ∀ a0 a1 a2 a3 a4 a5 a6, q a0 a1 a2 a3 a4 a5 a6 → Sym.CallOk P K [c0 a0, c1 a1, c2 a2, c3 a3, c4 a4, c5 a5, c6 a6] (f a0 a1 a2 a3 a4 a5 a6)) : Sym.EntryOk P (K, en7p d0 d1 d2 d3 d4 d5 d6 q f) := by
  intro args v ps hv hps
  simp only [en7p] at hv
  split at hv
  · split at hv
    · rename_i a0 a1 a2 a3 a4 a5 a6 e0 e1 e2 e3 e4 e5 e6
      simp only [Option.some.injEq, Prod.mk.injEq] at hv
      obtain ⟨rfl, rfl⟩ := hv
      rw [h0 e0, h1 e1, h2 e2, h3 e3, h4 e4, h5 e5, h6 e6]; exact h a0 a1 a2 a3 a4 a5 a6 hps.1
    · cases hv
  · cases hv

section
open Sym
variable {P : Program} {K : Nat}
/-- a function's contract out of its evaluation, when nothing is left to be shown -/
theorem fnOk {tb : Nat → List Value → Option (Value × List Prop)} (ht : TbOk P tb) (hm : P.follows .mixedOrders = true) {fn : Func} (hf : P.funcs[K]? = some fn) (hb : fn.body.isNone = false) (hn : (fn.name == "runtime.NumGoroutine") = false) {fuel : Nat} {args : List Value} {v : Value}
    (hv : (afun P tb fuel fn args).val P fn.results = some v) (hs : (afun P tb fuel fn args).noSides = true) : CallOk P K args v :=
  call_ok hf hb hn fun w => contract ht hm hf hv (Out.sides_of hs) w
/-- .. when its sides are shown -/
theorem fnOkS {tb : Nat → List Value → Option (Value × List Prop)} (ht : TbOk P tb) (hm : P.follows .mixedOrders = true) {fn : Func} (hf : P.funcs[K]? = some fn) (hb : fn.body.isNone = false) (hn : (fn.name == "runtime.NumGoroutine") = false) {fuel : Nat} {args : List Value} {v : Value}
    {l : List Prop} (hv : (afun P tb fuel fn args).val P fn.results = some v) (hl : (afun P tb fuel fn args).sideList = l) (hs : allP l) : CallOk P K args v :=
  call_ok hf hb hn fun w => contract ht hm hf hv (Out.sides_list (by rw [hl]; exact hs)) w
end

/-! ### what is reckoned -/
def orB (a b : Bool) : Bool := bif a then true else b
def andB (a b : Bool) : Bool := bif a then b else false
def imax (x y : Int) : Int := if y > x then y else x
def imin (x y : Int) : Int := if y < x then y else x
def band (x y : Int) : Int := W ((BitVec.ofInt 64 x &&& BitVec.ofInt 64 y).toNat : Int)

-- box
def within (v : Int) : Bool := andB (decide (v ≥ -536870912)) (decide (v ≤ 536870912))
def boxOk (b : B4) : Bool := andB (andB (andB (andB (andB (decide (b.x0 ≤ b.x1)) (decide (b.y0 ≤ b.y1))) (within b.x0)) (within b.y0)) (within b.x1)) (within b.y1)
def boxHas (b : B4) (p : P2) : Bool := andB (andB (andB (decide (b.x0 ≤ p.x)) (decide (p.x ≤ b.x1))) (decide (b.y0 ≤ p.y))) (decide (p.y ≤ b.y1))
def gap (v lo hi : Int) : Int := bif decide (v < lo) then W (lo - v) else bif decide (v > hi) then W (v - hi) else 0
def reach (v lo hi : Int) : Int := imax (imax (imax (W (v - lo)) (W (lo - v))) (W (v - hi))) (W (hi - v))
def near (b : B4) (p : P2) : Int := W (W (gap p.x b.x0 b.x1 * gap p.x b.x0 b.x1) + W (gap p.y b.y0 b.y1 * gap p.y b.y0 b.y1))
def most (b : B4) (p : P2) : Int := W (W (reach p.x b.x0 b.x1 * reach p.x b.x0 b.x1) + W (reach p.y b.y0 b.y1 * reach p.y b.y0 b.y1))
def cross (o a b : P2) : Int := W (W (W (a.x - o.x) * W (b.y - o.y)) - W (W (a.y - o.y) * W (b.x - o.x)))
def emptyBx (b : B4) : Bool := orB (decide (b.x0 > b.x1)) (decide (b.y0 > b.y1))
def apart (a b : B4) : Bool := orB (orB (orB (orB (orB (emptyBx a) (emptyBx b)) (decide (a.x1 < b.x0))) (decide (b.x1 < a.x0))) (decide (a.y1 < b.y0))) (decide (b.y1 < a.y0))
def corners (b : B4) : Value := .agg ⟨[vi b.x0, vi b.y0, vi b.x1, vi b.y0, vi b.x0, vi b.y1, vi b.x1, vi b.y1]⟩
def up (c : Bool) (n : Int) : Int := bif c then W (n + 1) else n
def cnt4 (f : P2 → Bool) (b : B4) : Int := up (f ⟨b.x1, b.y1⟩) (up (f ⟨b.x0, b.y1⟩) (up (f ⟨b.x1, b.y0⟩) (up (f ⟨b.x0, b.y0⟩) 0)))
def meets (b : B4) (p q : P2) : Bool :=
  bif orB (orB (orB (orB (emptyBx b) (decide (imax p.x q.x < b.x0))) (decide (imin p.x q.x > b.x1))) (decide (imax p.y q.y < b.y0))) (decide (imin p.y q.y > b.y1)) then false
  else andB (decide (cnt4 (fun c => decide (cross p q c > 0)) b < 4)) (decide (cnt4 (fun c => decide (cross p q c < 0)) b < 4))
def halves (b : B4) : Value :=
  let x := W (b.x0 + W ((W (b.x1 - b.x0)).tdiv 2))
  let y := W (b.y0 + W ((W (b.y1 - b.y0)).tdiv 2))
  .agg ⟨[vi b.x0, vi b.y0, vi x, vi y, vi x, vi b.y0, vi b.x1, vi y, vi b.x0, vi y, vi x, vi b.y1, vi x, vi y, vi b.x1, vi b.y1]⟩
-- disc
def square (r : Int) : Int := W (imin r 2147483648 * imin r 2147483648)
def discHas (p c : P2) (r : Int) : Bool := bif decide (r < 1) then false else decide (near ⟨c.x, c.y, c.x, c.y⟩ p ≤ square r)
def discClass (b : B4) (c : P2) (r : Int) : Int :=
  bif orB (decide (r < 1)) (!(boxHas b ⟨b.x0, b.y0⟩)) then 0 else bif decide (near b c > square r) then 0 else bif decide (most b c ≤ square r) then 2 else 1
-- wide
def u64 (f : BitVec 64) : Int := U (f.toNat : Int)
def wabs (v : Int) : Int := bif decide (v < 0) then U (0 - U v) else U v
def sh32 (x : Int) : Int := x.fdiv (2 ^ min (Int.toNat 32) 64)
def lo32 (x : Int) : Int := u64 (BitVec.ofInt 64 x &&& BitVec.ofInt 64 4294967295)
def mulHi (x y : Int) : Int :=
  let w0 := U (lo32 x * lo32 y)
  let t := U (U (sh32 x * lo32 y) + sh32 w0)
  let w1 := U (lo32 t + U (lo32 x * sh32 y))
  U (U (U (sh32 x * sh32 y) + sh32 t) + sh32 w1)
def mulLo (x y : Int) : Int := U (x * y)
def wmul (x y : Int) : W2 := ⟨mulHi x y, mulLo x y⟩
def wsq (v : Int) : W2 := wmul (wabs v) (wabs v)
def ucmp (x y : Int) : Int := bif x != x then (bif y != y then 0 else -1) else bif y != y then 1 else bif decide (x < y) then -1 else bif decide (x > y) then 1 else 0
def wcmp (a b : W2) : Int := bif a.hi != b.hi then ucmp a.hi b.hi else ucmp a.lo b.lo
-- line
def dist2 (x y : Int) : Int := W (W (x * x) + W (y * y))
def lineHas (p a c : P2) (r : Int) : Bool :=
  bif decide (r < 1) then false else
  let x := W (c.x - a.x)
  let y := W (c.y - a.y)
  let along := W (W (W (p.x - a.x) * x) + W (W (p.y - a.y) * y))
  bif decide (along ≤ 0) then decide (near ⟨a.x, a.y, a.x, a.y⟩ p ≤ square r) else
  bif decide (along ≥ dist2 x y) then decide (near ⟨c.x, c.y, c.x, c.y⟩ p ≤ square r) else
  decide (wcmp (wsq (cross a c p)) (wmul (U (square r)) (U (dist2 x y))) ≤ 0)
def lineClass (b : B4) (a c : P2) (r : Int) : Int :=
  bif orB (decide (r < 1)) (!(boxHas b ⟨b.x0, b.y0⟩)) then 0 else
  let n := cnt4 (fun p => lineHas p a c r) b
  bif n == 4 then 2 else
  bif orB (orB (orB (decide (n > 0)) (decide (near b a ≤ square r))) (decide (near b c ≤ square r))) (meets b a c) then 1 else 0
-- bar
def ptEq (a c : P2) : Bool := bif a.x == c.x then (bif a.y == c.y then true else false) else false
def barVoid (a c : P2) (h : Int) : Bool := orB (ptEq a c) (decide (h < 1))
def beside (p a c : P2) (h : Int) : Int :=
  let x := W (c.x - a.x)
  let y := W (c.y - a.y)
  bif decide (wcmp (wsq (cross a c p)) (wmul (U (square h)) (U (dist2 x y))) ≤ 0) then 0 else bif decide (cross a c p > 0) then 1 else -1
def past (p a c : P2) : Int :=
  let x := W (c.x - a.x)
  let y := W (c.y - a.y)
  let along := W (W (W (p.x - a.x) * x) + W (W (p.y - a.y) * y))
  bif decide (along < 0) then -1 else bif decide (along > dist2 x y) then 1 else 0
def barHas (p a c : P2) (h : Int) : Bool := andB (andB (!(barVoid a c h)) (beside p a c h == 0)) (past p a c == 0)
structure C3 where
  m : Int
  z : Int
  p : Int
def bump3 (i : Int) (c : C3) : C3 :=
  let v := W ((bif decide (i = ((0 : Nat) : Int)) then c.m else bif decide (i = ((1 : Nat) : Int)) then c.z else c.p) + 1)
  ⟨bif decide (i = ((0 : Nat) : Int)) then v else c.m, bif decide (i = ((1 : Nat) : Int)) then v else c.z, bif decide (i = ((2 : Nat) : Int)) then v else c.p⟩
def cnt3 (f : P2 → Int) (b : B4) : C3 := bump3 (W (f ⟨b.x1, b.y1⟩ + 1)) (bump3 (W (f ⟨b.x0, b.y1⟩ + 1)) (bump3 (W (f ⟨b.x1, b.y0⟩ + 1)) (bump3 (W (f ⟨b.x0, b.y0⟩ + 1)) ⟨0, 0, 0⟩)))
def barClass (b : B4) (a c : P2) (h : Int) : Int :=
  bif barVoid a c h then 0 else
  bif !(boxHas b ⟨b.x0, b.y0⟩) then 2 else
  bif cnt4 (fun p => andB (beside p a c h == 0) (past p a c == 0)) b == 4 then 2 else
  bif orB (orB (orB ((cnt3 (fun p => beside p a c h) b).m == 4) ((cnt3 (fun p => beside p a c h) b).p == 4)) ((cnt3 (fun p => past p a c) b).m == 4)) ((cnt3 (fun p => past p a c) b).p == 4) then 0 else 1
-- ring
def ringApart (p q : P2) : Int := near ⟨q.x, q.y, q.x, q.y⟩ p
def ringOk (c a e : P2) : Bool := andB (ringApart a c != 0) (ringApart a c == ringApart e c)
def ringGreat (c a e : P2) : Bool := decide (cross c a e < 0)
def sector (p c a e : P2) : Bool :=
  bif ptEq a e then true else
  bif ringGreat c a e then orB (decide (cross c a p ≥ 0)) (decide (cross c p e ≥ 0)) else andB (decide (cross c a p ≥ 0)) (decide (cross c p e ≥ 0))
def outside (d rr r : Int) : Bool :=
  let left := W (W (rr - square r) - d)
  orB (decide (left ≤ 0)) (decide (wcmp (wsq left) (wmul (U (4 * U d)) (U (square r))) ≤ 0))
def inside (d rr r : Int) : Bool :=
  let left := W (W (d - rr) - square r)
  orB (decide (left ≤ 0)) (decide (wcmp (wsq left) (wmul (U (4 * U rr)) (U (square r))) ≤ 0))
def ringHas (p c a e : P2) (r : Int) : Bool :=
  bif orB (!(ringOk c a e)) (decide (r < 1)) then false else
  bif orB (discHas p a r) (discHas p e r) then true else
  andB (andB (sector p c a e) (outside (ringApart p c) (ringApart a c) r)) (inside (ringApart p c) (ringApart a c) r)
def liesIn (b : B4) (c a e : P2) : Bool :=
  bif ptEq a e then true else
  let u := cnt4 (fun p => decide (cross c a p < 0)) b
  let v := cnt4 (fun p => decide (cross c p e < 0)) b
  bif ringGreat c a e then orB (u == 0) (v == 0) else andB (u == 0) (v == 0)
def liesOff (b : B4) (c a e : P2) : Bool :=
  bif ptEq a e then false else
  let u := cnt4 (fun p => decide (cross c a p < 0)) b
  let v := cnt4 (fun p => decide (cross c p e < 0)) b
  bif ringGreat c a e then andB (u == 4) (v == 4) else orB (u == 4) (v == 4)
def ringClass (b : B4) (c a e : P2) (r : Int) : Int :=
  bif orB (!(ringOk c a e)) (decide (r < 1)) then 0 else
  bif !(boxHas b ⟨b.x0, b.y0⟩) then 2 else
  bif orB (discClass b a r == 2) (discClass b e r == 2) then 2 else
  bif andB (andB (liesIn b c a e) (outside (near b c) (ringApart a c) r)) (inside (most b c) (ringApart a c) r) then 2 else
  bif orB (discClass b a r != 0) (discClass b e r != 0) then 1 else
  bif orB (orB (liesOff b c a e) (!(inside (near b c) (ringApart a c) r))) (!(outside (most b c) (ringApart a c) r)) then 0 else 1
-- the references
def rAbs (v : Int) : Int := bif decide (v < 0) then U (U (W (0 - W (v + 1))) + 1) else U v
def rMul (a b : Int) : W2 :=
  let x := sh32 a
  let y := lo32 a
  let u := sh32 b
  let v := lo32 b
  let p := U (x * u)
  let q := U (x * v)
  let s := U (y * u)
  let t := U (y * v)
  let mid := U (U (sh32 t + lo32 q) + lo32 s)
  ⟨U (U (U (p + sh32 q) + sh32 s) + sh32 mid), u64 (BitVec.ofInt 64 (U (mid * 2 ^ min (Int.toNat 32) 64)) ||| BitVec.ofInt 64 (lo32 t))⟩
def rSq (v : Int) : W2 := rMul (rAbs v) (rAbs v)
def wEq (a b : W2) : Bool := bif a.hi == b.hi then (bif a.lo == b.lo then true else false) else false
def rCmp (a b : W2) : Int := bif wEq a b then 0 else bif orB (decide (a.hi < b.hi)) (andB (a.hi == b.hi) (decide (a.lo < b.lo))) then -1 else 1
def rBoxHas (b : B4) (p : P2) : Bool := andB (andB (andB (decide (p.x ≥ b.x0)) (decide (p.x ≤ b.x1))) (decide (p.y ≥ b.y0))) (decide (p.y ≤ b.y1))
def rBoxOk (b : B4) : Bool := andB (andB (andB (andB (andB (decide (b.x0 ≤ b.x1)) (decide (b.y0 ≤ b.y1))) (decide (b.x0 ≥ -536870912))) (decide (b.y0 ≥ -536870912))) (decide (b.x1 ≤ 536870912))) (decide (b.y1 ≤ 536870912))
def rDist (p q : P2) : Int := W (W (W (p.x - q.x) * W (p.x - q.x)) + W (W (p.y - q.y) * W (p.y - q.y)))
def rNear (b : B4) (p : P2) : Int := rDist p ⟨imin (imax p.x b.x0) b.x1, imin (imax p.y b.y0) b.y1⟩
def rMost (b : B4) (p : P2) : Int := imax (imax (imax (rDist p ⟨b.x0, b.y0⟩) (rDist p ⟨b.x1, b.y0⟩)) (rDist p ⟨b.x0, b.y1⟩)) (rDist p ⟨b.x1, b.y1⟩)
def rDot (o a b : P2) : Int := W (W (W (a.x - o.x) * W (b.x - o.x)) + W (W (a.y - o.y) * W (b.y - o.y)))
def rApart (a b : B4) : Bool := orB (orB (orB (decide (a.x1 < b.x0)) (decide (b.x1 < a.x0))) (decide (a.y1 < b.y0))) (decide (b.y1 < a.y0))
def rMeets (b : B4) (p q : P2) : Bool :=
  bif rApart b ⟨imin p.x q.x, imin p.y q.y, imax p.x q.x, imax p.y q.y⟩ then false
  else andB (decide (cnt4 (fun c => decide (cross p q c > 0)) b < 4)) (decide (cnt4 (fun c => decide (cross p q c < 0)) b < 4))
def rDiscHas (p c : P2) (r : Int) : Bool := andB (decide (r ≥ 1)) (decide (rDist p c ≤ W (r * r)))
def rDisc (b : B4) (c : P2) (r : Int) : Int := bif orB (decide (r < 1)) (decide (rNear b c > W (r * r))) then 0 else bif decide (rMost b c ≤ W (r * r)) then 2 else 1
def rWithin (k h long : Int) : Bool := decide (rCmp (rSq k) (rMul (U (W (h * h))) (U long)) ≤ 0)
def rLineHas (p a c : P2) (r : Int) : Bool :=
  bif decide (r < 1) then false else
  bif decide (rDot a c p ≤ 0) then decide (rDist p a ≤ W (r * r)) else
  bif decide (rDot a c p ≥ rDist a c) then decide (rDist p c ≤ W (r * r)) else rWithin (cross a c p) r (rDist a c)
def rLine (b : B4) (a c : P2) (r : Int) : Int :=
  bif decide (r < 1) then 0 else
  let n := cnt4 (fun p => rLineHas p a c r) b
  bif n == 4 then 2 else
  bif orB (orB (orB (decide (n > 0)) (rMeets b a c)) (decide (rNear b a ≤ W (r * r)))) (decide (rNear b c ≤ W (r * r))) then 1 else 0
def rBarHas (p a c : P2) (h : Int) : Bool := andB (andB (andB (andB (decide (h ≥ 1)) (decide (rDist a c > 0))) (decide (rDot a c p ≥ 0))) (decide (rDot a c p ≤ rDist a c))) (rWithin (cross a c p) h (rDist a c))
def rBar (b : B4) (a c : P2) (h : Int) : Int :=
  bif orB (decide (h < 1)) (rDist a c == 0) then 0 else
  let far := fun q => !(rWithin (cross a c q) h (rDist a c))
  bif cnt4 (fun q => rBarHas q a c h) b == 4 then 2 else
  bif orB (orB (orB (cnt4 (fun q => andB (far q) (decide (cross a c q > 0))) b == 4) (cnt4 (fun q => andB (far q) (decide (cross a c q < 0))) b == 4)) (cnt4 (fun q => decide (rDot a c q < 0)) b == 4)) (cnt4 (fun q => decide (rDot a c q > rDist a c)) b == 4) then 0 else 1
-- the laws' own helpers
def lPt (p : P2) : P2 := ⟨p.x.tmod 536870913, p.y.tmod 536870913⟩
def lClose (p : P2) (n : Int) : P2 := ⟨p.x.tmod (W (n + 1)), p.y.tmod (W (n + 1))⟩
def lBox (b : B4) : B4 :=
  let p := lPt ⟨b.x0, b.y0⟩
  let q := lPt ⟨b.x1, b.y1⟩
  ⟨imin p.x q.x, imin p.y q.y, imax p.x q.x, imax p.y q.y⟩
def lR (r : Int) : Int := W (W ((U r).tmod 536870912) + 1)
def lInX (lo hi x : Int) : Int := W (lo + W ((U x).tmod (U (W (W (hi - lo) + 1)))))
def lIn (b : B4) (x y : Int) : P2 := ⟨lInX b.x0 b.x1 x, lInX b.y0 b.y1 y⟩
def lInOk (b : B4) : Prop := U (W (W (b.x1 - b.x0) + 1)) ≠ 0 ∧ U (W (W (b.y1 - b.y0) + 1)) ≠ 0
def lSmall (b : B4) : B4 := ⟨b.x0.tmod 20, b.y0.tmod 20, W (b.x0.tmod 20 + band b.x1 7), W (b.y0.tmod 20 + band b.y1 7)⟩
end Go.Proofs.Ytfooaikpcbnchaa

/-! ## Con -/
namespace Go.Proofs.Ytfooaikpcbnchaa
open Go Go.RowKit Sym
set_option maxRecDepth 100000

theorem mo : Try.prog.follows .mixedOrders = true := by kernel_rfl
def tb0 : List Entry := []
theorem tb0_ok : ∀ e ∈ tb0, EntryOk Try.prog e := fun e he => by cases he
theorem box_gap_ok (a : Int) (b : Int) (c : Int) : CallOk Try.prog 106 [vi a, vi b, vi c] (vi (gap a b c)) := fnOk (fuel := 16) (tbOf_ok tb0_ok) mo Try.func106 (by kernel_rfl) (by kernel_rfl) (by kernel_rfl) (by kernel_rfl)
theorem box_reach_ok (a : Int) (b : Int) (c : Int) : CallOk Try.prog 107 [vi a, vi b, vi c] (vi (reach a b c)) := fnOk (fuel := 16) (tbOf_ok tb0_ok) mo Try.func107 (by kernel_rfl) (by kernel_rfl) (by kernel_rfl) (by kernel_rfl)
theorem box_Has_ok (a : B4) (b : P2) : CallOk Try.prog 83 [bx a, pt b] (vb (boxHas a b)) := fnOk (fuel := 16) (tbOf_ok tb0_ok) mo Try.func83 (by kernel_rfl) (by kernel_rfl) (by kernel_rfl) (by kernel_rfl)
theorem box_empty_ok (a : B4) : CallOk Try.prog 77 [bx a] (vb (emptyBx a)) := fnOk (fuel := 16) (tbOf_ok tb0_ok) mo Try.func77 (by kernel_rfl) (by kernel_rfl) (by kernel_rfl) (by kernel_rfl)
theorem box_Corners_ok (a : B4) : CallOk Try.prog 89 [bx a] (corners a) := fnOk (fuel := 16) (tbOf_ok tb0_ok) mo Try.func89 (by kernel_rfl) (by kernel_rfl) (by kernel_rfl) (by kernel_rfl)
theorem box_Cross_ok (a : P2) (b : P2) (c : P2) : CallOk Try.prog 102 [pt a, pt b, pt c] (vi (cross a b c)) := fnOk (fuel := 16) (tbOf_ok tb0_ok) mo Try.func102 (by kernel_rfl) (by kernel_rfl) (by kernel_rfl) (by kernel_rfl)
theorem disc_square_ok (a : Int) : CallOk Try.prog 85 [vi a] (vi (square a)) := fnOk (fuel := 16) (tbOf_ok tb0_ok) mo Try.func85 (by kernel_rfl) (by kernel_rfl) (by kernel_rfl) (by kernel_rfl)
theorem line_square_ok (a : Int) : CallOk Try.prog 90 [vi a] (vi (square a)) := fnOk (fuel := 16) (tbOf_ok tb0_ok) mo Try.func90 (by kernel_rfl) (by kernel_rfl) (by kernel_rfl) (by kernel_rfl)
theorem wide_Abs_ok (a : Int) : CallOk Try.prog 110 [vi a] (vu (wabs a)) := fnOk (fuel := 16) (tbOf_ok tb0_ok) mo Try.func110 (by kernel_rfl) (by kernel_rfl) (by kernel_rfl) (by kernel_rfl)
theorem bits_Mul64_ok (a : Int) (b : Int) : CallOk Try.prog 112 [vu a, vu b] (.tuple ⟨[vu (mulHi a b), vu (mulLo a b)]⟩) := fnOk (fuel := 16) (tbOf_ok tb0_ok) mo Try.func112 (by kernel_rfl) (by kernel_rfl) (by kernel_rfl) (by kernel_rfl)
theorem cmp_isNaN_uint64_ok (a : Int) : CallOk Try.prog 113 [vu a] (vb (a != a)) := fnOk (fuel := 16) (tbOf_ok tb0_ok) mo Try.func113 (by kernel_rfl) (by kernel_rfl) (by kernel_rfl) (by kernel_rfl)
theorem bar_void_ok (a : P2) (b : P2) (c : Int) : CallOk Try.prog 92 [pt a, pt b, vi c] (vb (barVoid a b c)) := fnOk (fuel := 16) (tbOf_ok tb0_ok) mo Try.func92 (by kernel_rfl) (by kernel_rfl) (by kernel_rfl) (by kernel_rfl)
theorem bar_past_ok (a : P2) (b : P2) (c : P2) : CallOk Try.prog 94 [pt a, pt b, pt c] (vi (past a b c)) := fnOk (fuel := 16) (tbOf_ok tb0_ok) mo Try.func94 (by kernel_rfl) (by kernel_rfl) (by kernel_rfl) (by kernel_rfl)
theorem poly_spot_ok (a : P2) : CallOk Try.prog 99 [pt a] (bx ⟨a.x, a.y, a.x, a.y⟩) := fnOk (fuel := 16) (tbOf_ok tb0_ok) mo Try.func99 (by kernel_rfl) (by kernel_rfl) (by kernel_rfl) (by kernel_rfl)
theorem heliographref1_BoxHas_ok (a : B4) (b : P2) : CallOk Try.prog 32 [bx a, pt b] (vb (rBoxHas a b)) := fnOk (fuel := 16) (tbOf_ok tb0_ok) mo Try.func32 (by kernel_rfl) (by kernel_rfl) (by kernel_rfl) (by kernel_rfl)
theorem heliographref1_BoxOk_ok (a : B4) : CallOk Try.prog 34 [bx a] (vb (rBoxOk a)) := fnOk (fuel := 16) (tbOf_ok tb0_ok) mo Try.func34 (by kernel_rfl) (by kernel_rfl) (by kernel_rfl) (by kernel_rfl)
theorem heliographref1_Apart_ok (a : B4) (b : B4) : CallOk Try.prog 33 [bx a, bx b] (vb (rApart a b)) := fnOk (fuel := 16) (tbOf_ok tb0_ok) mo Try.func33 (by kernel_rfl) (by kernel_rfl) (by kernel_rfl) (by kernel_rfl)
theorem heliographlaw4_Pt_ok (a : P2) : CallOk Try.prog 23 [pt a] (pt (lPt a)) := fnOk (fuel := 16) (tbOf_ok tb0_ok) mo Try.func23 (by kernel_rfl) (by kernel_rfl) (by kernel_rfl) (by kernel_rfl)
theorem heliographlaw5_R_ok (a : Int) : CallOk Try.prog 24 [vi a] (vi (lR a)) := fnOk (fuel := 16) (tbOf_ok tb0_ok) mo Try.func24 (by kernel_rfl) (by kernel_rfl) (by kernel_rfl) (by kernel_rfl)
theorem heliographlaw5_Small_ok (a : B4) : CallOk Try.prog 28 [bx a] (bx (lSmall a)) := fnOk (fuel := 16) (tbOf_ok tb0_ok) mo Try.func28 (by kernel_rfl) (by kernel_rfl) (by kernel_rfl) (by kernel_rfl)
def tb1_0 : List Entry := tb0
theorem tb1_0_ok : ∀ e ∈ tb1_0, EntryOk Try.prog e := tb0_ok
def tb1_1 : List Entry := (106, en3 dI dI dI (fun a b c => vi (gap a b c))) :: tb1_0
theorem tb1_1_ok : ∀ e ∈ tb1_1, EntryOk Try.prog e := List.forall_mem_cons.2 ⟨en3_ok dI_eq dI_eq dI_eq box_gap_ok, tb1_0_ok⟩
def tb1_2 : List Entry := (107, en3 dI dI dI (fun a b c => vi (reach a b c))) :: tb1_1
theorem tb1_2_ok : ∀ e ∈ tb1_2, EntryOk Try.prog e := List.forall_mem_cons.2 ⟨en3_ok dI_eq dI_eq dI_eq box_reach_ok, tb1_1_ok⟩
def tb1_3 : List Entry := (83, en2 dBx dP (fun a b => vb (boxHas a b))) :: tb1_2
theorem tb1_3_ok : ∀ e ∈ tb1_3, EntryOk Try.prog e := List.forall_mem_cons.2 ⟨en2_ok dBx_eq dP_eq box_Has_ok, tb1_2_ok⟩
def tb1_4 : List Entry := (77, en1 dBx (fun a => vb (emptyBx a))) :: tb1_3
theorem tb1_4_ok : ∀ e ∈ tb1_4, EntryOk Try.prog e := List.forall_mem_cons.2 ⟨en1_ok dBx_eq box_empty_ok, tb1_3_ok⟩
def tb1_5 : List Entry := (89, en1 dBx (fun a => corners a)) :: tb1_4
theorem tb1_5_ok : ∀ e ∈ tb1_5, EntryOk Try.prog e := List.forall_mem_cons.2 ⟨en1_ok dBx_eq box_Corners_ok, tb1_4_ok⟩
def tb1_6 : List Entry := (102, en3 dP dP dP (fun a b c => vi (cross a b c))) :: tb1_5
theorem tb1_6_ok : ∀ e ∈ tb1_6, EntryOk Try.prog e := List.forall_mem_cons.2 ⟨en3_ok dP_eq dP_eq dP_eq box_Cross_ok, tb1_5_ok⟩
def tb1_7 : List Entry := (85, en1 dI (fun a => vi (square a))) :: tb1_6
theorem tb1_7_ok : ∀ e ∈ tb1_7, EntryOk Try.prog e := List.forall_mem_cons.2 ⟨en1_ok dI_eq disc_square_ok, tb1_6_ok⟩
def tb1_8 : List Entry := (90, en1 dI (fun a => vi (square a))) :: tb1_7
theorem tb1_8_ok : ∀ e ∈ tb1_8, EntryOk Try.prog e := List.forall_mem_cons.2 ⟨en1_ok dI_eq line_square_ok, tb1_7_ok⟩
def tb1_9 : List Entry := (110, en1 dI (fun a => vu (wabs a))) :: tb1_8
theorem tb1_9_ok : ∀ e ∈ tb1_9, EntryOk Try.prog e := List.forall_mem_cons.2 ⟨en1_ok dI_eq wide_Abs_ok, tb1_8_ok⟩
def tb1_10 : List Entry := (112, en2 dU dU (fun a b => .tuple ⟨[vu (mulHi a b), vu (mulLo a b)]⟩)) :: tb1_9
theorem tb1_10_ok : ∀ e ∈ tb1_10, EntryOk Try.prog e := List.forall_mem_cons.2 ⟨en2_ok dU_eq dU_eq bits_Mul64_ok, tb1_9_ok⟩
def tb1_11 : List Entry := (113, en1 dU (fun a => vb (a != a))) :: tb1_10
theorem tb1_11_ok : ∀ e ∈ tb1_11, EntryOk Try.prog e := List.forall_mem_cons.2 ⟨en1_ok dU_eq cmp_isNaN_uint64_ok, tb1_10_ok⟩
def tb1_12 : List Entry := (92, en3 dP dP dI (fun a b c => vb (barVoid a b c))) :: tb1_11
theorem tb1_12_ok : ∀ e ∈ tb1_12, EntryOk Try.prog e := List.forall_mem_cons.2 ⟨en3_ok dP_eq dP_eq dI_eq bar_void_ok, tb1_11_ok⟩
def tb1_13 : List Entry := (94, en3 dP dP dP (fun a b c => vi (past a b c))) :: tb1_12
theorem tb1_13_ok : ∀ e ∈ tb1_13, EntryOk Try.prog e := List.forall_mem_cons.2 ⟨en3_ok dP_eq dP_eq dP_eq bar_past_ok, tb1_12_ok⟩
def tb1_14 : List Entry := (99, en1 dP (fun a => bx ⟨a.x, a.y, a.x, a.y⟩)) :: tb1_13
theorem tb1_14_ok : ∀ e ∈ tb1_14, EntryOk Try.prog e := List.forall_mem_cons.2 ⟨en1_ok dP_eq poly_spot_ok, tb1_13_ok⟩
def tb1_15 : List Entry := tb1_14
theorem tb1_15_ok : ∀ e ∈ tb1_15, EntryOk Try.prog e := tb1_14_ok
def tb1_16 : List Entry := tb1_15
theorem tb1_16_ok : ∀ e ∈ tb1_16, EntryOk Try.prog e := tb1_15_ok
def tb1_17 : List Entry := tb1_16
theorem tb1_17_ok : ∀ e ∈ tb1_17, EntryOk Try.prog e := tb1_16_ok
def tb1_18 : List Entry := (32, en2 dBx dP (fun a b => vb (rBoxHas a b))) :: tb1_17
theorem tb1_18_ok : ∀ e ∈ tb1_18, EntryOk Try.prog e := List.forall_mem_cons.2 ⟨en2_ok dBx_eq dP_eq heliographref1_BoxHas_ok, tb1_17_ok⟩
def tb1_19 : List Entry := (34, en1 dBx (fun a => vb (rBoxOk a))) :: tb1_18
theorem tb1_19_ok : ∀ e ∈ tb1_19, EntryOk Try.prog e := List.forall_mem_cons.2 ⟨en1_ok dBx_eq heliographref1_BoxOk_ok, tb1_18_ok⟩
def tb1_20 : List Entry := tb1_19
theorem tb1_20_ok : ∀ e ∈ tb1_20, EntryOk Try.prog e := tb1_19_ok
def tb1_21 : List Entry := tb1_20
theorem tb1_21_ok : ∀ e ∈ tb1_21, EntryOk Try.prog e := tb1_20_ok
def tb1_22 : List Entry := tb1_21
theorem tb1_22_ok : ∀ e ∈ tb1_22, EntryOk Try.prog e := tb1_21_ok
def tb1_23 : List Entry := tb1_22
theorem tb1_23_ok : ∀ e ∈ tb1_23, EntryOk Try.prog e := tb1_22_ok
def tb1_24 : List Entry := (33, en2 dBx dBx (fun a b => vb (rApart a b))) :: tb1_23
theorem tb1_24_ok : ∀ e ∈ tb1_24, EntryOk Try.prog e := List.forall_mem_cons.2 ⟨en2_ok dBx_eq dBx_eq heliographref1_Apart_ok, tb1_23_ok⟩
def tb1_25 : List Entry := (23, en1 dP (fun a => pt (lPt a))) :: tb1_24
theorem tb1_25_ok : ∀ e ∈ tb1_25, EntryOk Try.prog e := List.forall_mem_cons.2 ⟨en1_ok dP_eq heliographlaw4_Pt_ok, tb1_24_ok⟩
def tb1_26 : List Entry := (24, en1 dI (fun a => vi (lR a))) :: tb1_25
theorem tb1_26_ok : ∀ e ∈ tb1_26, EntryOk Try.prog e := List.forall_mem_cons.2 ⟨en1_ok dI_eq heliographlaw5_R_ok, tb1_25_ok⟩
def tb1_27 : List Entry := (28, en1 dBx (fun a => bx (lSmall a))) :: tb1_26
theorem tb1_27_ok : ∀ e ∈ tb1_27, EntryOk Try.prog e := List.forall_mem_cons.2 ⟨en1_ok dBx_eq heliographlaw5_Small_ok, tb1_26_ok⟩
def tb1 : List Entry := tb1_27
theorem tb1_ok : ∀ e ∈ tb1, EntryOk Try.prog e := tb1_27_ok
theorem box_Near_ok (a : B4) (b : P2) : CallOk Try.prog 84 [bx a, pt b] (vi (near a b)) := fnOk (fuel := 16) (tbOf_ok tb1_ok) mo Try.func84 (by kernel_rfl) (by kernel_rfl) (by kernel_rfl) (by kernel_rfl)
theorem box_Most_ok (a : B4) (b : P2) : CallOk Try.prog 86 [bx a, pt b] (vi (most a b)) := fnOk (fuel := 16) (tbOf_ok tb1_ok) mo Try.func86 (by kernel_rfl) (by kernel_rfl) (by kernel_rfl) (by kernel_rfl)
theorem box_Apart_ok (a : B4) (b : B4) : CallOk Try.prog 59 [bx a, bx b] (vb (apart a b)) := fnOk (fuel := 16) (tbOf_ok tb1_ok) mo Try.func59 (by kernel_rfl) (by kernel_rfl) (by kernel_rfl) (by kernel_rfl)
theorem box_Meets_ok (a : B4) (b : P2) (c : P2) : CallOk Try.prog 91 [bx a, pt b, pt c] (vb (meets a b c)) := fnOk (fuel := 16) (tbOf_ok tb1_ok) mo Try.func91 (by kernel_rfl) (by kernel_rfl) (by kernel_rfl) (by kernel_rfl)
theorem wide_Mul_ok (a : Int) (b : Int) : CallOk Try.prog 104 [vu a, vu b] (wd (wmul a b)) := fnOk (fuel := 16) (tbOf_ok tb1_ok) mo Try.func104 (by kernel_rfl) (by kernel_rfl) (by kernel_rfl) (by kernel_rfl)
theorem cmp_Compare_uint64_ok (a : Int) (b : Int) : CallOk Try.prog 111 [vu a, vu b] (vi (ucmp a b)) := fnOk (fuel := 16) (tbOf_ok tb1_ok) mo Try.func111 (by kernel_rfl) (by kernel_rfl) (by kernel_rfl) (by kernel_rfl)
theorem ring_great_ok (a : P2) (b : P2) (c : P2) : CallOk Try.prog 109 [pt a, pt b, pt c] (vb (ringGreat a b c)) := fnOk (fuel := 16) (tbOf_ok tb1_ok) mo Try.func109 (by kernel_rfl) (by kernel_rfl) (by kernel_rfl) (by kernel_rfl)
theorem heliographlaw4_Box_ok (a : B4) : CallOk Try.prog 27 [bx a] (bx (lBox a)) := fnOk (fuel := 16) (tbOf_ok tb1_ok) mo Try.func27 (by kernel_rfl) (by kernel_rfl) (by kernel_rfl) (by kernel_rfl)
def tb2_0 : List Entry := tb1
theorem tb2_0_ok : ∀ e ∈ tb2_0, EntryOk Try.prog e := tb1_ok
def tb2_1 : List Entry := (84, en2 dBx dP (fun a b => vi (near a b))) :: tb2_0
theorem tb2_1_ok : ∀ e ∈ tb2_1, EntryOk Try.prog e := List.forall_mem_cons.2 ⟨en2_ok dBx_eq dP_eq box_Near_ok, tb2_0_ok⟩
def tb2_2 : List Entry := (86, en2 dBx dP (fun a b => vi (most a b))) :: tb2_1
theorem tb2_2_ok : ∀ e ∈ tb2_2, EntryOk Try.prog e := List.forall_mem_cons.2 ⟨en2_ok dBx_eq dP_eq box_Most_ok, tb2_1_ok⟩
def tb2_3 : List Entry := (59, en2 dBx dBx (fun a b => vb (apart a b))) :: tb2_2
theorem tb2_3_ok : ∀ e ∈ tb2_3, EntryOk Try.prog e := List.forall_mem_cons.2 ⟨en2_ok dBx_eq dBx_eq box_Apart_ok, tb2_2_ok⟩
def tb2_4 : List Entry := (91, en3 dBx dP dP (fun a b c => vb (meets a b c))) :: tb2_3
theorem tb2_4_ok : ∀ e ∈ tb2_4, EntryOk Try.prog e := List.forall_mem_cons.2 ⟨en3_ok dBx_eq dP_eq dP_eq box_Meets_ok, tb2_3_ok⟩
def tb2_5 : List Entry := (104, en2 dU dU (fun a b => wd (wmul a b))) :: tb2_4
theorem tb2_5_ok : ∀ e ∈ tb2_5, EntryOk Try.prog e := List.forall_mem_cons.2 ⟨en2_ok dU_eq dU_eq wide_Mul_ok, tb2_4_ok⟩
def tb2_6 : List Entry := (111, en2 dU dU (fun a b => vi (ucmp a b))) :: tb2_5
theorem tb2_6_ok : ∀ e ∈ tb2_6, EntryOk Try.prog e := List.forall_mem_cons.2 ⟨en2_ok dU_eq dU_eq cmp_Compare_uint64_ok, tb2_5_ok⟩
def tb2_7 : List Entry := (109, en3 dP dP dP (fun a b c => vb (ringGreat a b c))) :: tb2_6
theorem tb2_7_ok : ∀ e ∈ tb2_7, EntryOk Try.prog e := List.forall_mem_cons.2 ⟨en3_ok dP_eq dP_eq dP_eq ring_great_ok, tb2_6_ok⟩
def tb2_8 : List Entry := tb2_7
theorem tb2_8_ok : ∀ e ∈ tb2_8, EntryOk Try.prog e := tb2_7_ok
def tb2_9 : List Entry := tb2_8
theorem tb2_9_ok : ∀ e ∈ tb2_9, EntryOk Try.prog e := tb2_8_ok
def tb2_10 : List Entry := tb2_9
theorem tb2_10_ok : ∀ e ∈ tb2_10, EntryOk Try.prog e := tb2_9_ok
def tb2_11 : List Entry := tb2_10
theorem tb2_11_ok : ∀ e ∈ tb2_11, EntryOk Try.prog e := tb2_10_ok
def tb2_12 : List Entry := tb2_11
theorem tb2_12_ok : ∀ e ∈ tb2_12, EntryOk Try.prog e := tb2_11_ok
def tb2_13 : List Entry := (27, en1 dBx (fun a => bx (lBox a))) :: tb2_12
theorem tb2_13_ok : ∀ e ∈ tb2_13, EntryOk Try.prog e := List.forall_mem_cons.2 ⟨en1_ok dBx_eq heliographlaw4_Box_ok, tb2_12_ok⟩
def tb2 : List Entry := tb2_13
theorem tb2_ok : ∀ e ∈ tb2, EntryOk Try.prog e := tb2_13_ok
theorem wide_Sq_ok (a : Int) : CallOk Try.prog 101 [vi a] (wd (wsq a)) := fnOk (fuel := 16) (tbOf_ok tb2_ok) mo Try.func101 (by kernel_rfl) (by kernel_rfl) (by kernel_rfl) (by kernel_rfl)
theorem wide_Cmp_ok (a : W2) (b : W2) : CallOk Try.prog 103 [wd a, wd b] (vi (wcmp a b)) := fnOk (fuel := 16) (tbOf_ok tb2_ok) mo Try.func103 (by kernel_rfl) (by kernel_rfl) (by kernel_rfl) (by kernel_rfl)
theorem disc_Has_ok (a : P2) (b : P2) (c : Int) : CallOk Try.prog 69 [pt a, pt b, vi c] (vb (discHas a b c)) := fnOk (fuel := 16) (tbOf_ok tb2_ok) mo Try.func69 (by kernel_rfl) (by kernel_rfl) (by kernel_rfl) (by kernel_rfl)
theorem disc_Class_ok (a : B4) (b : P2) (c : Int) : CallOk Try.prog 64 [bx a, pt b, vi c] (vi (discClass a b c)) := fnOk (fuel := 16) (tbOf_ok tb2_ok) mo Try.func64 (by kernel_rfl) (by kernel_rfl) (by kernel_rfl) (by kernel_rfl)
theorem line_apart_ok (a : P2) (b : P2) : CallOk Try.prog 100 [pt a, pt b] (vi (ringApart a b)) := fnOk (fuel := 16) (tbOf_ok tb2_ok) mo Try.func100 (by kernel_rfl) (by kernel_rfl) (by kernel_rfl) (by kernel_rfl)
theorem ring_apart_ok (a : P2) (b : P2) : CallOk Try.prog 96 [pt a, pt b] (vi (ringApart a b)) := fnOk (fuel := 16) (tbOf_ok tb2_ok) mo Try.func96 (by kernel_rfl) (by kernel_rfl) (by kernel_rfl) (by kernel_rfl)
theorem ring_Sector_ok (a : P2) (b : P2) (c : P2) (d : P2) : CallOk Try.prog 105 [pt a, pt b, pt c, pt d] (vb (sector a b c d)) := fnOk (fuel := 16) (tbOf_ok tb2_ok) mo Try.func105 (by kernel_rfl) (by kernel_rfl) (by kernel_rfl) (by kernel_rfl)
def tb3_0 : List Entry := (101, en1 dI (fun a => wd (wsq a))) :: tb2
theorem tb3_0_ok : ∀ e ∈ tb3_0, EntryOk Try.prog e := List.forall_mem_cons.2 ⟨en1_ok dI_eq wide_Sq_ok, tb2_ok⟩
def tb3_1 : List Entry := (103, en2 dW dW (fun a b => vi (wcmp a b))) :: tb3_0
theorem tb3_1_ok : ∀ e ∈ tb3_1, EntryOk Try.prog e := List.forall_mem_cons.2 ⟨en2_ok dW_eq dW_eq wide_Cmp_ok, tb3_0_ok⟩
def tb3_2 : List Entry := (69, en3 dP dP dI (fun a b c => vb (discHas a b c))) :: tb3_1
theorem tb3_2_ok : ∀ e ∈ tb3_2, EntryOk Try.prog e := List.forall_mem_cons.2 ⟨en3_ok dP_eq dP_eq dI_eq disc_Has_ok, tb3_1_ok⟩
def tb3_3 : List Entry := (64, en3 dBx dP dI (fun a b c => vi (discClass a b c))) :: tb3_2
theorem tb3_3_ok : ∀ e ∈ tb3_3, EntryOk Try.prog e := List.forall_mem_cons.2 ⟨en3_ok dBx_eq dP_eq dI_eq disc_Class_ok, tb3_2_ok⟩
def tb3_4 : List Entry := (100, en2 dP dP (fun a b => vi (ringApart a b))) :: tb3_3
theorem tb3_4_ok : ∀ e ∈ tb3_4, EntryOk Try.prog e := List.forall_mem_cons.2 ⟨en2_ok dP_eq dP_eq line_apart_ok, tb3_3_ok⟩
def tb3_5 : List Entry := (96, en2 dP dP (fun a b => vi (ringApart a b))) :: tb3_4
theorem tb3_5_ok : ∀ e ∈ tb3_5, EntryOk Try.prog e := List.forall_mem_cons.2 ⟨en2_ok dP_eq dP_eq ring_apart_ok, tb3_4_ok⟩
def tb3_6 : List Entry := (105, en4 dP dP dP dP (fun a b c d => vb (sector a b c d))) :: tb3_5
theorem tb3_6_ok : ∀ e ∈ tb3_6, EntryOk Try.prog e := List.forall_mem_cons.2 ⟨en4_ok dP_eq dP_eq dP_eq dP_eq ring_Sector_ok, tb3_5_ok⟩
def tb3_7 : List Entry := tb3_6
theorem tb3_7_ok : ∀ e ∈ tb3_7, EntryOk Try.prog e := tb3_6_ok
def tb3_8 : List Entry := tb3_7
theorem tb3_8_ok : ∀ e ∈ tb3_8, EntryOk Try.prog e := tb3_7_ok
def tb3 : List Entry := tb3_8
theorem tb3_ok : ∀ e ∈ tb3, EntryOk Try.prog e := tb3_8_ok
theorem bar_beside_ok (a : P2) (b : P2) (c : P2) (d : Int) : CallOk Try.prog 93 [pt a, pt b, pt c, vi d] (vi (beside a b c d)) := fnOk (fuel := 16) (tbOf_ok tb3_ok) mo Try.func93 (by kernel_rfl) (by kernel_rfl) (by kernel_rfl) (by kernel_rfl)
theorem line_Has_ok (a : P2) (b : P2) (c : P2) (d : Int) : CallOk Try.prog 71 [pt a, pt b, pt c, vi d] (vb (lineHas a b c d)) := fnOk (fuel := 16) (tbOf_ok tb3_ok) mo Try.func71 (by kernel_rfl) (by kernel_rfl) (by kernel_rfl) (by kernel_rfl)
theorem ring_Ok_ok (a : P2) (b : P2) (c : P2) : CallOk Try.prog 82 [pt a, pt b, pt c] (vb (ringOk a b c)) := fnOk (fuel := 16) (tbOf_ok tb3_ok) mo Try.func82 (by kernel_rfl) (by kernel_rfl) (by kernel_rfl) (by kernel_rfl)
theorem ring_outside_ok (a : Int) (b : Int) (c : Int) : CallOk Try.prog 97 [vi a, vi b, vi c] (vb (outside a b c)) := fnOk (fuel := 16) (tbOf_ok tb3_ok) mo Try.func97 (by kernel_rfl) (by kernel_rfl) (by kernel_rfl) (by kernel_rfl)
theorem ring_inside_ok (a : Int) (b : Int) (c : Int) : CallOk Try.prog 98 [vi a, vi b, vi c] (vb (inside a b c)) := fnOk (fuel := 16) (tbOf_ok tb3_ok) mo Try.func98 (by kernel_rfl) (by kernel_rfl) (by kernel_rfl) (by kernel_rfl)
theorem ring_lies_ok (a : B4) (b : P2) (c : P2) (d : P2) : CallOk Try.prog 95 [bx a, pt b, pt c, pt d] (.tuple ⟨[vb (liesIn a b c d), vb (liesOff a b c d)]⟩) := fnOk (fuel := 16) (tbOf_ok tb3_ok) mo Try.func95 (by kernel_rfl) (by kernel_rfl) (by kernel_rfl) (by kernel_rfl)
def tb4_0 : List Entry := (93, en4 dP dP dP dI (fun a b c d => vi (beside a b c d))) :: tb3
theorem tb4_0_ok : ∀ e ∈ tb4_0, EntryOk Try.prog e := List.forall_mem_cons.2 ⟨en4_ok dP_eq dP_eq dP_eq dI_eq bar_beside_ok, tb3_ok⟩
def tb4_1 : List Entry := (71, en4 dP dP dP dI (fun a b c d => vb (lineHas a b c d))) :: tb4_0
theorem tb4_1_ok : ∀ e ∈ tb4_1, EntryOk Try.prog e := List.forall_mem_cons.2 ⟨en4_ok dP_eq dP_eq dP_eq dI_eq line_Has_ok, tb4_0_ok⟩
def tb4_2 : List Entry := (82, en3 dP dP dP (fun a b c => vb (ringOk a b c))) :: tb4_1
theorem tb4_2_ok : ∀ e ∈ tb4_2, EntryOk Try.prog e := List.forall_mem_cons.2 ⟨en3_ok dP_eq dP_eq dP_eq ring_Ok_ok, tb4_1_ok⟩
def tb4_3 : List Entry := (97, en3 dI dI dI (fun a b c => vb (outside a b c))) :: tb4_2
theorem tb4_3_ok : ∀ e ∈ tb4_3, EntryOk Try.prog e := List.forall_mem_cons.2 ⟨en3_ok dI_eq dI_eq dI_eq ring_outside_ok, tb4_2_ok⟩
def tb4_4 : List Entry := (98, en3 dI dI dI (fun a b c => vb (inside a b c))) :: tb4_3
theorem tb4_4_ok : ∀ e ∈ tb4_4, EntryOk Try.prog e := List.forall_mem_cons.2 ⟨en3_ok dI_eq dI_eq dI_eq ring_inside_ok, tb4_3_ok⟩
def tb4_5 : List Entry := (95, en4 dBx dP dP dP (fun a b c d => .tuple ⟨[vb (liesIn a b c d), vb (liesOff a b c d)]⟩)) :: tb4_4
theorem tb4_5_ok : ∀ e ∈ tb4_5, EntryOk Try.prog e := List.forall_mem_cons.2 ⟨en4_ok dBx_eq dP_eq dP_eq dP_eq ring_lies_ok, tb4_4_ok⟩
def tb4_6 : List Entry := tb4_5
theorem tb4_6_ok : ∀ e ∈ tb4_6, EntryOk Try.prog e := tb4_5_ok
def tb4_7 : List Entry := tb4_6
theorem tb4_7_ok : ∀ e ∈ tb4_7, EntryOk Try.prog e := tb4_6_ok
def tb4 : List Entry := tb4_7
theorem tb4_ok : ∀ e ∈ tb4, EntryOk Try.prog e := tb4_7_ok
theorem bar_Has_ok (a : P2) (b : P2) (c : P2) (d : Int) : CallOk Try.prog 72 [pt a, pt b, pt c, vi d] (vb (barHas a b c d)) := fnOk (fuel := 16) (tbOf_ok tb4_ok) mo Try.func72 (by kernel_rfl) (by kernel_rfl) (by kernel_rfl) (by kernel_rfl)
theorem line_Class_ok (a : B4) (b : P2) (c : P2) (d : Int) : CallOk Try.prog 66 [bx a, pt b, pt c, vi d] (vi (lineClass a b c d)) := fnOk (fuel := 16) (tbOf_ok tb4_ok) mo Try.func66 (by kernel_rfl) (by kernel_rfl) (by kernel_rfl) (by kernel_rfl)
theorem ring_Has_ok (a : P2) (b : P2) (c : P2) (d : P2) (e : Int) : CallOk Try.prog 73 [pt a, pt b, pt c, pt d, vi e] (vb (ringHas a b c d e)) := fnOk (fuel := 16) (tbOf_ok tb4_ok) mo Try.func73 (by kernel_rfl) (by kernel_rfl) (by kernel_rfl) (by kernel_rfl)
theorem ring_Class_ok (a : B4) (b : P2) (c : P2) (d : P2) (e : Int) : CallOk Try.prog 68 [bx a, pt b, pt c, pt d, vi e] (vi (ringClass a b c d e)) := fnOk (fuel := 16) (tbOf_ok tb4_ok) mo Try.func68 (by kernel_rfl) (by kernel_rfl) (by kernel_rfl) (by kernel_rfl)
def tb5_0 : List Entry := (72, en4 dP dP dP dI (fun a b c d => vb (barHas a b c d))) :: tb4
theorem tb5_0_ok : ∀ e ∈ tb5_0, EntryOk Try.prog e := List.forall_mem_cons.2 ⟨en4_ok dP_eq dP_eq dP_eq dI_eq bar_Has_ok, tb4_ok⟩
def tb5_1 : List Entry := (66, en4 dBx dP dP dI (fun a b c d => vi (lineClass a b c d))) :: tb5_0
theorem tb5_1_ok : ∀ e ∈ tb5_1, EntryOk Try.prog e := List.forall_mem_cons.2 ⟨en4_ok dBx_eq dP_eq dP_eq dI_eq line_Class_ok, tb5_0_ok⟩
def tb5_2 : List Entry := (73, en5 dP dP dP dP dI (fun a b c d e => vb (ringHas a b c d e))) :: tb5_1
theorem tb5_2_ok : ∀ e ∈ tb5_2, EntryOk Try.prog e := List.forall_mem_cons.2 ⟨en5_ok dP_eq dP_eq dP_eq dP_eq dI_eq ring_Has_ok, tb5_1_ok⟩
def tb5_3 : List Entry := (68, en5 dBx dP dP dP dI (fun a b c d e => vi (ringClass a b c d e))) :: tb5_2
theorem tb5_3_ok : ∀ e ∈ tb5_3, EntryOk Try.prog e := List.forall_mem_cons.2 ⟨en5_ok dBx_eq dP_eq dP_eq dP_eq dI_eq ring_Class_ok, tb5_2_ok⟩
def tb5_4 : List Entry := tb5_3
theorem tb5_4_ok : ∀ e ∈ tb5_4, EntryOk Try.prog e := tb5_3_ok
def tb5_5 : List Entry := tb5_4
theorem tb5_5_ok : ∀ e ∈ tb5_5, EntryOk Try.prog e := tb5_4_ok
def tb5 : List Entry := tb5_5
theorem tb5_ok : ∀ e ∈ tb5, EntryOk Try.prog e := tb5_5_ok
end Go.Proofs.Ytfooaikpcbnchaa

/-! ## Cob -/
namespace Go.Proofs.Ytfooaikpcbnchaa
open Go Go.RowKit Sym
set_option maxRecDepth 100000

theorem close_ok (a : P2) (n : Int) (h : W (n + 1) ≠ 0) : CallOk Try.prog 17 [pt a, vi n] (pt (lClose a n)) :=
  fnOkS (fuel := 8) (tbOf_ok tb5_ok) mo Try.func17 (by kernel_rfl) (by kernel_rfl) (by kernel_rfl) (show _ = [W (n + 1) ≠ 0, W (n + 1) ≠ 0] by kernel_rfl) ⟨h, h, trivial⟩
theorem in_ok (b : B4) (x y : Int) (h : lInOk b) : CallOk Try.prog 31 [bx b, vi x, vi y] (pt (lIn b x y)) :=
  fnOkS (fuel := 8) (tbOf_ok tb5_ok) mo Try.func31 (by kernel_rfl) (by kernel_rfl) (by kernel_rfl) (show _ = [U (W (W (b.x1 - b.x0) + 1)) ≠ 0, U (W (W (b.y1 - b.y0) + 1)) ≠ 0] by kernel_rfl) ⟨h.1, h.2, trivial⟩
def spl (b : B4) (z v : Int) : Int :=
  bif !(boxOk b) then z else
  bif orB (orB (orB (W (b.x1 - b.x0) == 0) (W (b.y1 - b.y0) == 0)) ((W (b.x1 - b.x0)).tmod 2 != 0)) ((W (b.y1 - b.y0)).tmod 2 != 0) then z else v
def splOk (b : B4) : Bool :=
  bif !(boxOk b) then false else
  bif orB (orB (orB (W (b.x1 - b.x0) == 0) (W (b.y1 - b.y0) == 0)) ((W (b.x1 - b.x0)).tmod 2 != 0)) ((W (b.y1 - b.y0)).tmod 2 != 0) then false else true
def midX (b : B4) : Int := W (b.x0 + W ((W (b.x1 - b.x0)).tdiv 2))
def midY (b : B4) : Int := W (b.y0 + W ((W (b.y1 - b.y0)).tdiv 2))
def splits (b : B4) : Value := .agg ⟨[vi (spl b 0 b.x0), vi (spl b 0 b.y0), vi (spl b 0 (midX b)), vi (spl b 0 (midY b)), vi (spl b 0 (midX b)), vi (spl b 0 b.y0), vi (spl b 0 b.x1), vi (spl b 0 (midY b)),
  vi (spl b 0 b.x0), vi (spl b 0 (midY b)), vi (spl b 0 (midX b)), vi (spl b 0 b.y1), vi (spl b 0 (midX b)), vi (spl b 0 (midY b)), vi (spl b 0 b.x1), vi (spl b 0 b.y1)]⟩

/-- an index that is 0, 1 or 2 -/
def idx3 (i : Int) : Prop := 0 ≤ i ∧ i < ((3 : Nat) : Int)
theorem idx3_of {x : Int} (h : x = 0 ∨ x = 1 ∨ x = -1) : idx3 (W (x + 1)) := by
  rcases h with rfl | rfl | rfl <;> exact ⟨by decide, by decide⟩
theorem three (q q' : Bool) : (bif q then 0 else bif q' then 1 else -1 : Int) = 0 ∨ (bif q then 0 else bif q' then 1 else -1 : Int) = 1 ∨ (bif q then 0 else bif q' then 1 else -1 : Int) = -1 := by
  cases q <;> cases q' <;> simp
theorem three' (q q' : Bool) : (bif q then -1 else bif q' then 1 else 0 : Int) = 0 ∨ (bif q then -1 else bif q' then 1 else 0 : Int) = 1 ∨ (bif q then -1 else bif q' then 1 else 0 : Int) = -1 := by
  cases q <;> cases q' <;> simp
theorem past_01 (p a c : P2) : past p a c = 0 ∨ past p a c = 1 ∨ past p a c = -1 := three' _ _
theorem beside_01 (p a c : P2) (h : Int) : beside p a c h = 0 ∨ beside p a c h = 1 ∨ beside p a c h = -1 := three _ _
def barQ (b : B4) (a c : P2) (h i : Int) : Prop := barVoid a c h = false → ((!(boxHas b ⟨b.x0, b.y0⟩)) = false → idx3 (W (i + 1)))
theorem barClass_ok (b : B4) (a c : P2) (h : Int) : CallOk Try.prog 67 [bx b, pt a, pt c, vi h] (vi (barClass b a c h)) :=
  fnOkS (fuel := 16) (tbOf_ok tb5_ok) mo Try.func67 (by kernel_rfl) (by kernel_rfl) (by kernel_rfl)
    (show _ = [barQ b a c h (beside ⟨b.x0, b.y0⟩ a c h), barQ b a c h (beside ⟨b.x0, b.y0⟩ a c h), barQ b a c h (past ⟨b.x0, b.y0⟩ a c), barQ b a c h (past ⟨b.x0, b.y0⟩ a c),
      barQ b a c h (beside ⟨b.x1, b.y0⟩ a c h), barQ b a c h (beside ⟨b.x1, b.y0⟩ a c h), barQ b a c h (past ⟨b.x1, b.y0⟩ a c), barQ b a c h (past ⟨b.x1, b.y0⟩ a c),
      barQ b a c h (beside ⟨b.x0, b.y1⟩ a c h), barQ b a c h (beside ⟨b.x0, b.y1⟩ a c h), barQ b a c h (past ⟨b.x0, b.y1⟩ a c), barQ b a c h (past ⟨b.x0, b.y1⟩ a c),
      barQ b a c h (beside ⟨b.x1, b.y1⟩ a c h), barQ b a c h (beside ⟨b.x1, b.y1⟩ a c h), barQ b a c h (past ⟨b.x1, b.y1⟩ a c), barQ b a c h (past ⟨b.x1, b.y1⟩ a c)] by kernel_rfl)
    (by
      have hs : ∀ p, barQ b a c h (beside p a c h) := fun p _ _ => idx3_of (beside_01 p a c h)
      have hp : ∀ p, barQ b a c h (past p a c) := fun p _ _ => idx3_of (past_01 p a c)
      exact ⟨hs _, hs _, hp _, hp _, hs _, hs _, hp _, hp _, hs _, hs _, hp _, hp _, hs _, hs _, hp _, hp _, trivial⟩)

/-! ### the table of all of them -/
def tc0 : List Entry := (17, en2p dP dI (fun _ n => W (n + 1) ≠ 0) (fun a n => pt (lClose a n))) :: tb5
theorem tc0_ok : ∀ e ∈ tc0, EntryOk Try.prog e := List.forall_mem_cons.2 ⟨en2p_ok dP_eq dI_eq close_ok, tb5_ok⟩
def tc1 : List Entry := (31, en3p dBx dI dI (fun b _ _ => lInOk b) (fun b x y => pt (lIn b x y))) :: tc0
theorem tc1_ok : ∀ e ∈ tc1, EntryOk Try.prog e := List.forall_mem_cons.2 ⟨en3p_ok dBx_eq dI_eq dI_eq in_ok, tc0_ok⟩
def tc2 : List Entry := tc1
theorem tc2_ok : ∀ e ∈ tc2, EntryOk Try.prog e := tc1_ok
def tc3 : List Entry := (67, en4 dBx dP dP dI (fun b p q h => vi (barClass b p q h))) :: tc2
theorem tc3_ok : ∀ e ∈ tc3, EntryOk Try.prog e := List.forall_mem_cons.2 ⟨en4_ok dBx_eq dP_eq dP_eq dI_eq barClass_ok, tc2_ok⟩
/-- all but the laws' own tests -/
def tbA : List Entry := tc3
theorem tbA_ok : ∀ e ∈ tbA, EntryOk Try.prog e := tc3_ok
def tbA9 : List Entry := tbA
theorem tbA9_ok : ∀ e ∈ tbA9, EntryOk Try.prog e := tbA_ok
end Go.Proofs.Ytfooaikpcbnchaa

/-! ## Dgo -/
namespace Go.Proofs.Ytfooaikpcbnchaa
open Go Go.RowKit Sym
set_option maxRecDepth 100000

/-! ### what values show -/
def cI (x : Int) : Dyn.DC := .p (vi x)
def cB (x : Bool) : Dyn.DC := .p (vb x)
def dvI (x : Int) : Dyn.DV := .one (cI x)
def dvB (x : Bool) : Dyn.DV := .one (cB x)
def cP (p : P2) : List Dyn.DC := [.p (vi p.x), .p (vi p.y)]
def cX (b : B4) : List Dyn.DC := [.p (vi b.x0), .p (vi b.y0), .p (vi b.x1), .p (vi b.y1)]
def dvP (p : P2) : Dyn.DV := .agg (cP p)
def dvX (b : B4) : Dyn.DV := .agg (cX b)
def rI (x : Int) : Dyn.RV := .val (dvI x)
def rB (x : Bool) : Dyn.RV := .val (dvB x)
/-- contours: how many, how many points each has, which -/
structure Ctr where
  n : Nat
  m : Nat → Nat
  p : Nat → Nat → P2
def cRow (n : Nat) (p : Nat → P2) : Dyn.DC := .row n fun k => cP (p k)
def cCtr (l : Ctr) : Dyn.DC := .row l.n fun i => [cRow (l.m i) (l.p i)]
def dvC (l : Ctr) : Dyn.DV := .one (cCtr l)

/-! ### blocks -/
def bodyD : Option Code → Code
  | some c => c
  | none => .skip
def blkD (c : Option Code) (i : Nat) : Code := match c with
  | some c => ((blocksL c).getD i (0, .skip)).2
  | none => .skip
def unloopD : Code → Code
  | .loop c => c
  | c => c
def intD : Dyn.SV → Int
  | .v (.int _ x) => x
  | .k (.int _ x) => x
  | _ => 0
def boolD : Dyn.SV → Bool
  | .v (.bool x) => x
  | .k (.bool x) => x
  | _ => false
/-- what a step of a loop forgets: the names from the n-th on, the slots of the mask -/
def keepN (n j v : Nat) (_ : AExit) (s : Dyn.St) : Dyn.St := Dyn.relabel (List.range n) j v s
theorem keepN_ent {P : Program} {w0 : Dyn.Base P} (n j v : Nat) (e : AExit) (s : Dyn.St) : Dyn.Ent w0 s (keepN n j v e s) := Dyn.Ent.label (List.nodup_range) j v s
/-- slots, by their numbers -/
def sparse : Nat → Nat → List (Nat × Dyn.SV) → List Dyn.SV
  | _, 0, _ => []
  | i, n + 1, [] => .junk :: sparse (i + 1) n []
  | i, n + 1, (k, x) :: l => bif Nat.beq k i then x :: sparse (i + 1) n l else .junk :: sparse (i + 1) n ((k, x) :: l)
def mkS (n : Nat) (l : List (Nat × Dyn.SV)) (h : List (Option Dyn.HE)) : Dyn.St := { slots := sparse 0 n l, heap := h }
def mkF (n : Nat) (l : List (Nat × Dyn.SV)) (h : List (Option Dyn.HE)) (fx : List (Nat × Nat)) : Dyn.St := { slots := sparse 0 n l, heap := h, fix := fx }
/-- names σ, slots ks of n -/
def keepS (n : Nat) (σ ks : List Nat) (v : Nat) (s : Dyn.St) : Dyn.St := Dyn.relabel σ ((2 ^ n - 1) ^^^ maskOf ks) v s
theorem keepS_ent {P : Program} {w0 : Dyn.Base P} (n : Nat) {σ : List Nat} (hσ : σ.Nodup) (ks : List Nat) (v : Nat) (s : Dyn.St) : Dyn.Ent w0 s (keepS n σ ks v s) := Dyn.Ent.label hσ _ v s
/-- a value in a slot; a row's handle -/
def sV (x : Value) : Dyn.SV := .v x
def sH (n j len : Nat) : Dyn.SV := .v (.slice (some ⟨n, j, some 0⟩) len 0)
def sL (n : Nat) : Dyn.SV := .v (.pointer (some ⟨n, 0, none⟩))
def sI (x : Int) : Dyn.SV := .v (vi x)
def sB (x : Bool) : Dyn.SV := .v (vb x)
/-- an odd number of the first n -/
def parN (f : Nat → Bool) : Nat → Bool
  | 0 => false
  | n + 1 => xor (parN f n) (f n)
def anyN (f : Nat → Bool) : Nat → Bool
  | 0 => false
  | n + 1 => anyN f n || f n
/-- A loop that counts from 0 to n: its states at the head, what each round does to the rest. -/
theorem count_block {P : Program} {X : Dyn.Tabs} {lp : Dyn.Lp} {w0 : Dyn.Base P} (ht : Dyn.TabsOk P X) (hm : P.follows .mixedOrders = true) {fuel id : Nat} {c : Code} (hl : Dyn.LpOk P w0 lp (blocksL c)) {α : Type} (S : Nat → α → Dyn.St) (n : Nat) (I : Nat → α → Prop)
    (f : AExit → Dyn.St → Dyn.St) (hf : ∀ e s, Dyn.Ent w0 s (f e s)) (B : Nat → α → Dyn.Out) (E : AExit → Dyn.St → Prop) (hB : ∀ k a, (Dyn.lexec P X lp fuel c .leaf (S k a)).rl f = B k a)
    (hstep : ∀ k a, k < n → I k a → (B k a).sat fun e s => match e with
      | .normal => ∃ a', I (k + 1) a' ∧ Dyn.Fits s (S (k + 1) a')
      | e => E e s)
    (hend : ∀ a, I n a → (B n a).sat fun e s => match e with
      | .normal => False
      | e => E e s)
    {a0 : α} {s0 : Dyn.St} {o : Dyn.Out} (hi : I 0 a0) (h0 : Dyn.Ent w0 s0 (S 0 a0))
    (hG : ∀ (F : AExit → Dyn.St → Prop), (∀ e s s', Dyn.Ent w0 s s' → F e s' → F e s) → o.sat F → ∀ e s, E e s → match e with
      | .normal => True
      | .exit i => if i = id then F .normal s else F (.exit i) s
      | .ret => F .ret s) : Dyn.BlockSound P w0 id (.loop c) s0 o := by
  refine Dyn.block_loop ht hm hl (ι := Nat × α) (fun x => S x.1 x.2) (fun x => x.1 ≤ n ∧ I x.1 x.2) (fun x => n - x.1) f hf (fun x => B x.1 x.2) E (fun x _ => hB x.1 x.2) ?_ (x0 := (0, a0)) ⟨Nat.zero_le _, hi⟩ h0 hG
  rintro ⟨k, a⟩ ⟨hk, hI⟩
  dsimp only at hk hI ⊢
  rcases Nat.lt_or_eq_of_le hk with hlt | rfl
  · refine Dyn.Out.sat_mono (fun e s hs => ?_) (hstep k a hlt hI)
    cases e with
    | normal =>
      obtain ⟨a', h1, h2⟩ := hs
      exact ⟨(k + 1, a'), ⟨hlt, h1⟩, by dsimp only; omega, h2⟩
    | exit i => exact hs
    | ret => exact hs
  · refine Dyn.Out.sat_mono (fun e s hs => ?_) (hend a hI)
    cases e with
    | normal => exact hs.elim
    | exit i => exact hs
    | ret => exact hs
/-- entries of tables over what arguments show -/
theorem lpOk_cons {P : Program} {w0 : Dyn.Base P} {lp : Dyn.Lp} {p : Nat × Code} {l : List (Nat × Code)} (h : ∀ s o, lp p.1 s = some o → Dyn.BlockSound P w0 p.1 p.2 s o) (k : Dyn.LpOk P w0 lp l) : Dyn.LpOk P w0 lp (p :: l) := fun q hq => by
  rcases List.mem_cons.1 hq with rfl | hq
  · exact h
  · exact k q hq
theorem lpOk_nil {P : Program} {w0 : Dyn.Base P} {lp : Dyn.Lp} : Dyn.LpOk P w0 lp [] := fun q hq => by cases hq
/-- what a summary asks of its state -/
theorem side_one {P : Program} {w0 : Dyn.Base P} {id : Nat} {c : Code} {s : Dyn.St} {p : Prop} {o : Dyn.Out} (h : p → Dyn.BlockSound P w0 id c s o) : Dyn.BlockSound P w0 id c s (.side [p] o) := fun Q a w β m ng ho => h ho.1.1 Q a w β m ng ho.2
theorem side_two {P : Program} {w0 : Dyn.Base P} {id : Nat} {c : Code} {s : Dyn.St} {p q : Prop} {o : Dyn.Out} (h : p → q → Dyn.BlockSound P w0 id c s o) : Dyn.BlockSound P w0 id c s (.side [p, q] o) := fun Q a w β m ng ho => h ho.1.1 ho.1.2.1 Q a w β m ng ho.2
def foldN {α : Type} (g : Nat → α → α) (a : α) : Nat → α
  | 0 => a
  | n + 1 => g n (foldN g a n)
theorem anyN_iff {f : Nat → Bool} : ∀ {n : Nat}, anyN f n = true ↔ ∃ k, k < n ∧ f k = true
  | 0 => by simp [anyN]
  | n + 1 => by
    simp only [anyN, Bool.or_eq_true, anyN_iff (n := n)]
    constructor
    · rintro (⟨k, h1, h2⟩ | h)
      · exact ⟨k, by omega, h2⟩
      · exact ⟨n, by omega, h⟩
    · rintro ⟨k, h1, h2⟩
      rcases Nat.lt_or_eq_of_le (Nat.le_of_lt_succ h1) with h | rfl
      · exact .inl ⟨k, h, h2⟩
      · exact .inr h2
/-- A loop that counts and reckons on. -/
theorem fold_block {P : Program} {X : Dyn.Tabs} {lp : Dyn.Lp} {w0 : Dyn.Base P} (ht : Dyn.TabsOk P X) (hm : P.follows .mixedOrders = true) {fuel id : Nat} {c : Code} (hl : Dyn.LpOk P w0 lp (blocksL c)) {α : Type} (S : Nat → α → Dyn.St) (n : Nat) (g : Nat → α → α) (a0 : α)
    (f : AExit → Dyn.St → Dyn.St) (hf : ∀ e s, Dyn.Ent w0 s (f e s)) (B : Nat → α → Dyn.Out) (hB : ∀ k a, (Dyn.lexec P X lp fuel c .leaf (S k a)).rl f = B k a)
    (hstep : ∀ k, k < n → (B k (foldN g a0 k)).sat fun e s => e = .normal ∧ Dyn.Fits s (S (k + 1) (g k (foldN g a0 k))))
    (hend : (B n (foldN g a0 n)).sat fun e s => e = .exit id ∧ Dyn.Fits s (S n (foldN g a0 n)))
    {s0 : Dyn.St} (h0 : Dyn.Ent w0 s0 (S 0 a0)) : Dyn.BlockSound P w0 id (.loop c) s0 (.leaf .normal (S n (foldN g a0 n))) := by
  refine count_block ht hm hl S n (fun k a => a = foldN g a0 k) f hf B (fun e s => e = .exit id ∧ Dyn.Fits s (S n (foldN g a0 n))) hB (fun k a hk ha => ?_) (fun a ha => ?_) rfl h0 (fun F hF ho e s hE => ?_)
  · subst ha
    refine Dyn.Out.sat_mono (fun e s hs => ?_) (hstep k hk)
    obtain ⟨rfl, hs⟩ := hs
    exact ⟨_, rfl, hs⟩
  · subst ha
    refine Dyn.Out.sat_mono (fun e s hs => ?_) hend
    obtain ⟨rfl, hs⟩ := hs
    exact ⟨rfl, hs⟩
  · obtain ⟨rfl, hs⟩ := hE
    dsimp only
    rw [if_pos rfl]; exact hF _ _ _ (Dyn.Ent.fits hs) ho
/-- A loop that counts until something holds: then it returns. -/
theorem any_block {P : Program} {X : Dyn.Tabs} {lp : Dyn.Lp} {w0 : Dyn.Base P} (ht : Dyn.TabsOk P X) (hm : P.follows .mixedOrders = true) {fuel id : Nat} {c : Code} (hl : Dyn.LpOk P w0 lp (blocksL c)) (S : Nat → Dyn.St) (n : Nat) (q : Nat → Bool) (R : Dyn.St)
    (f : AExit → Dyn.St → Dyn.St) (hf : ∀ e s, Dyn.Ent w0 s (f e s)) (B : Nat → Dyn.Out) (hB : ∀ k, (Dyn.lexec P X lp fuel c .leaf (S k)).rl f = B k)
    (hstep : ∀ k, k < n → (B k).sat fun e s => (e = .normal ∧ q k = false ∧ Dyn.Fits s (S (k + 1))) ∨ (e = .ret ∧ q k = true ∧ s = R))
    (hend : (B n).sat fun e s => e = .exit id ∧ Dyn.Fits s (S n))
    {s0 : Dyn.St} (h0 : Dyn.Ent w0 s0 (S 0)) : Dyn.BlockSound P w0 id (.loop c) s0 (.ite (anyN q n) (.leaf .ret R) (.leaf .normal (S n))) := by
  refine count_block ht hm hl (α := Unit) (fun k _ => S k) n (fun k _ => anyN q k = false) f hf (fun k _ => B k) (fun e s => (e = .exit id ∧ anyN q n = false ∧ Dyn.Fits s (S n)) ∨ (e = .ret ∧ anyN q n = true ∧ s = R)) (fun k _ => hB k) (fun k a hk ha => ?_) (fun a ha => ?_) (a0 := ()) rfl h0 (fun F hF ho e s hE => ?_)
  · refine Dyn.Out.sat_mono (fun e s hs => ?_) (hstep k hk)
    rcases hs with ⟨rfl, h1, h2⟩ | ⟨rfl, h1, h2⟩
    · exact ⟨(), by simp only [anyN, ha, h1, Bool.or_false], h2⟩
    · exact .inr ⟨rfl, anyN_iff.2 ⟨k, hk, h1⟩, h2⟩
  · refine Dyn.Out.sat_mono (fun e s hs => ?_) hend
    obtain ⟨rfl, hs⟩ := hs
    exact .inl ⟨rfl, ha, hs⟩
  · rcases hE with ⟨rfl, h1, h2⟩ | ⟨rfl, h1, rfl⟩
    · dsimp only
      rw [if_pos rfl]; exact hF _ _ _ (Dyn.Ent.fits h2) (ho.2 h1)
    · exact ho.1 h1
/-- rounds that go on, or end -/
def runN {α : Type} (g : Nat → α → Bool × α) (a : α) : Nat → Bool × α
  | 0 => (true, a)
  | n + 1 => match runN g a n with
    | (true, b) => g n b
    | (false, b) => (false, b)
theorem runN_stop {α : Type} {g : Nat → α → Bool × α} {a b : α} {k : Nat} (h : runN g a k = (false, b)) : ∀ {n : Nat}, k ≤ n → runN g a n = (false, b)
  | 0, hn => by obtain rfl : k = 0 := by omega
                exact h
  | n + 1, hn => by
    rcases Nat.lt_or_eq_of_le hn with hlt | rfl
    · simp only [runN]; rw [runN_stop h (Nat.le_of_lt_succ hlt)]
    · exact h
theorem runN_go {α : Type} {g : Nat → α → Bool × α} {a b : α} {k : Nat} (h : runN g a k = (true, b)) : runN g a (k + 1) = g k b := by simp only [runN]; rw [h]
/-- A loop that counts, reckons on, and may return. -/
theorem run_block {P : Program} {X : Dyn.Tabs} {lp : Dyn.Lp} {w0 : Dyn.Base P} (ht : Dyn.TabsOk P X) (hm : P.follows .mixedOrders = true) {fuel id : Nat} {c : Code} (hl : Dyn.LpOk P w0 lp (blocksL c)) {α : Type} (S : Nat → α → Dyn.St) (n : Nat) (g : Nat → α → Bool × α) (a0 : α) (R : α → Dyn.St)
    (f : AExit → Dyn.St → Dyn.St) (hf : ∀ e s, Dyn.Ent w0 s (f e s)) (B : Nat → α → Dyn.Out) (hB : ∀ k a, (Dyn.lexec P X lp fuel c .leaf (S k a)).rl f = B k a)
    (hstep : ∀ k a, k < n → runN g a0 k = (true, a) → (B k a).sat fun e s => (e = .normal ∧ (g k a).1 = true ∧ Dyn.Fits s (S (k + 1) (g k a).2)) ∨ (e = .ret ∧ (g k a).1 = false ∧ Dyn.Fits s (R (g k a).2)))
    (hend : ∀ a, runN g a0 n = (true, a) → (B n a).sat fun e s => e = .exit id ∧ Dyn.Fits s (S n a))
    {s0 : Dyn.St} (h0 : Dyn.Ent w0 s0 (S 0 a0)) : Dyn.BlockSound P w0 id (.loop c) s0 (.ite (runN g a0 n).1 (.leaf .normal (S n (runN g a0 n).2)) (.leaf .ret (R (runN g a0 n).2))) := by
  refine count_block ht hm hl S n (fun k a => runN g a0 k = (true, a)) f hf B (fun e s => (e = .exit id ∧ (runN g a0 n).1 = true ∧ Dyn.Fits s (S n (runN g a0 n).2)) ∨ (e = .ret ∧ (runN g a0 n).1 = false ∧ Dyn.Fits s (R (runN g a0 n).2))) hB (fun k a hk ha => ?_) (fun a ha => ?_) rfl h0 (fun F hF ho e s hE => ?_)
  · refine Dyn.Out.sat_mono (fun e s hs => ?_) (hstep k a hk ha)
    rcases hs with ⟨rfl, h1, h2⟩ | ⟨rfl, h1, h2⟩
    · exact ⟨(g k a).2, by rw [runN_go ha]; exact Prod.ext h1 rfl, h2⟩
    · have e := runN_stop (n := n) (k := k + 1) (b := (g k a).2) (by rw [runN_go ha]; exact Prod.ext h1 rfl) hk
      exact .inr ⟨rfl, by rw [e], by rw [e]; exact h2⟩
  · refine Dyn.Out.sat_mono (fun e s hs => ?_) (hend a ha)
    obtain ⟨rfl, hs⟩ := hs
    exact .inl ⟨rfl, by rw [ha], by rw [ha]; exact hs⟩
  · rcases hE with ⟨rfl, h1, h2⟩ | ⟨rfl, h1, h2⟩
    · dsimp only
      rw [if_pos rfl]; exact hF _ _ _ (Dyn.Ent.fits h2) (ho.1 h1)
    · exact hF _ _ _ (Dyn.Ent.fits h2) (ho.2 h1)
/-! ### entries -/
theorem CallD_le {P : Program} {K : Nat} {args args' : List Dyn.DV} {r : Dyn.RV} (h : Dyn.DVsLe args' args) (k : Dyn.CallD P K args r) : Dyn.CallD P K args' r := fun w F us hF hd => k w F us hF (Dyn.DenVs_le h hd)
/-- the contours that a row shows -/
def ctrOf (n : Nat) (f : Nat → List Dyn.DC) : Ctr := ⟨n, fun i => match f i with
  | [.row m _] => m
  | _ => 0, fun i k => match f i with
  | [.row _ g] => match g k with
    | [.p (.int _ x), .p (.int _ y)] => ⟨x, y⟩
    | _ => ⟨0, 0⟩
  | _ => ⟨0, 0⟩⟩
def ctrIs (n : Nat) (f : Nat → List Dyn.DC) : Prop := ∀ i, i < n → f i = [cRow ((ctrOf n f).m i) ((ctrOf n f).p i)]
def CtrB (l : Ctr) : Prop := l.n ≤ 1000000000 ∧ ∀ i, i < l.n → l.m i ≤ 1000000000
def aP : Dyn.DV → Option P2
  | .agg [.p (.int .i64 x), .p (.int .i64 y)] => some ⟨x, y⟩
  | _ => none
def aX : Dyn.DV → Option B4
  | .agg [.p (.int .i64 a), .p (.int .i64 b), .p (.int .i64 c), .p (.int .i64 d)] => some ⟨a, b, c, d⟩
  | _ => none
def aI : Dyn.DV → Option Int
  | .one (.p (.int .i64 x)) => some x
  | _ => none
def aB : Dyn.DV → Option Bool
  | .one (.p (.bool x)) => some x
  | _ => none
def aC : Dyn.DV → Option (Ctr × List Prop)
  | .one (.row n f) => some (ctrOf n f, [CtrB (ctrOf n f), ctrIs n f])
  | _ => none
theorem aP_eq {d : Dyn.DV} {x : P2} (h : aP d = some x) : Dyn.DVLe d (dvP x) := by
  unfold aP at h; split at h
  · simp only [Option.some.injEq] at h; subst h; exact Dyn.DVLe.refl _
  · cases h
theorem aX_eq {d : Dyn.DV} {x : B4} (h : aX d = some x) : Dyn.DVLe d (dvX x) := by
  unfold aX at h; split at h
  · simp only [Option.some.injEq] at h; subst h; exact Dyn.DVLe.refl _
  · cases h
theorem aI_eq {d : Dyn.DV} {x : Int} (h : aI d = some x) : Dyn.DVLe d (dvI x) := by
  unfold aI at h; split at h
  · simp only [Option.some.injEq] at h; subst h; exact Dyn.DVLe.refl _
  · cases h
theorem aB_eq {d : Dyn.DV} {x : Bool} (h : aB d = some x) : Dyn.DVLe d (dvB x) := by
  unfold aB at h; split at h
  · simp only [Option.some.injEq] at h; subst h; exact Dyn.DVLe.refl _
  · cases h
theorem aC_eq {d : Dyn.DV} {x : Ctr} {ps : List Prop} (h : aC d = some (x, ps)) (hp : allP ps) : Dyn.DVLe d (dvC x) ∧ CtrB x := by
  unfold aC at h; split at h
  · simp only [Option.some.injEq, Prod.mk.injEq] at h
    obtain ⟨rfl, rfl⟩ := h
    exact ⟨⟨rfl, hp.2.1⟩, hp.1⟩
  · cases h
/-- an entry of two arguments, the second of them contours -/
def enPC (F : P2 → Ctr → Dyn.RV) : List Dyn.DV → Option (Dyn.RV × List Prop)
  | [a, b] => match aP a, aC b with
    | some x, some (l, ps) => some (F x l, ps)
    | _, _ => none
  | _ => none
def enXC (F : B4 → Ctr → Dyn.RV) : List Dyn.DV → Option (Dyn.RV × List Prop)
  | [a, b] => match aX a, aC b with
    | some x, some (l, ps) => some (F x l, ps)
    | _, _ => none
  | _ => none
theorem enPC_ok {P : Program} {K : Nat} {F : P2 → Ctr → Dyn.RV} (h : ∀ x l, CtrB l → Dyn.CallD P K [dvP x, dvC l] (F x l)) : Dyn.EntryDOk P (K, enPC F) := fun args r ps hr hp => by
  dsimp only at hr
  unfold enPC at hr
  split at hr
  · split at hr
    · rename_i x l ps' hx hl
      simp only [Option.some.injEq, Prod.mk.injEq] at hr
      obtain ⟨rfl, rfl⟩ := hr
      obtain ⟨h1, h2⟩ := aC_eq hl hp
      exact CallD_le (args := [dvP x, dvC l]) ⟨aP_eq hx, h1, trivial⟩ (h x l h2)
    · cases hr
  · cases hr
theorem enXC_ok {P : Program} {K : Nat} {F : B4 → Ctr → Dyn.RV} (h : ∀ x l, CtrB l → Dyn.CallD P K [dvX x, dvC l] (F x l)) : Dyn.EntryDOk P (K, enXC F) := fun args r ps hr hp => by
  dsimp only at hr
  unfold enXC at hr
  split at hr
  · split at hr
    · rename_i x l ps' hx hl
      simp only [Option.some.injEq, Prod.mk.injEq] at hr
      obtain ⟨rfl, rfl⟩ := hr
      obtain ⟨h1, h2⟩ := aC_eq hl hp
      exact CallD_le (args := [dvX x, dvC l]) ⟨aX_eq hx, h1, trivial⟩ (h x l h2)
    · cases hr
  · cases hr
/-! ### names that are found in slots -/
def nmOf : Dyn.SV → Nat
  | .v (.slice (some a) _ _) => a.block
  | .v (.pointer (some a)) => a.block
  | _ => 0
def nmsOf (s : Dyn.St) : List Nat → List Nat
  | [] => []
  | t :: l => nmOf (s.slots.getD t .junk) :: nmsOf s l
def memB (n : Nat) : List Nat → Bool
  | [] => false
  | m :: l => bif Nat.beq m n then true else memB n l
def nodupB : List Nat → Bool
  | [] => true
  | n :: l => bif memB n l then false else nodupB l
theorem memB_iff {n : Nat} : ∀ {l : List Nat}, memB n l = true ↔ n ∈ l
  | [] => by simp [memB]
  | m :: l => by
    simp only [memB, List.mem_cons]
    cases h : Nat.beq m n with
    | true => simp [Nat.eq_of_beq_eq_true h]
    | false =>
      have : ¬ n = m := fun e => by subst e; rw [Nat.beq_refl] at h; cases h
      simp [memB_iff (l := l), this]
theorem nodupB_ok : ∀ {l : List Nat}, nodupB l = true → l.Nodup
  | [], _ => List.nodup_nil
  | n :: l, h => by
    simp only [nodupB] at h
    cases hb : memB n l with
    | true => rw [hb] at h; cases h
    | false =>
      rw [hb] at h
      exact List.nodup_cons.2 ⟨fun hm => (by rw [memB_iff.2 hm] at hb; cases hb), nodupB_ok h⟩
/-- names σ, then those that the slots hs name; slots ks of n -/
def keepA (n : Nat) (σ hs ks : List Nat) (v : Nat) (s : Dyn.St) : Dyn.St :=
  match nodupB (σ ++ nmsOf s hs) with
  | true => Dyn.relabel (σ ++ nmsOf s hs) ((2 ^ n - 1) ^^^ maskOf ks) v s
  | false => s
theorem keepA_ent {P : Program} {w0 : Dyn.Base P} (n : Nat) (σ hs ks : List Nat) (v : Nat) (s : Dyn.St) : Dyn.Ent w0 s (keepA n σ hs ks v s) := by
  unfold keepA
  split
  · rename_i h; exact Dyn.Ent.label (nodupB_ok h) _ v s
  · exact Dyn.Ent.refl w0 s
/-- where a round ends: on the way out by a return slots r alone are kept -/
def keepQ (n : Nat) (σ hs ks σr r : List Nat) : AExit → Dyn.St → Dyn.St
  | .ret, s => keepA n σr [] r 0 s
  | _, s => keepA n σ hs ks 0 s
theorem keepQ_ent {P : Program} {w0 : Dyn.Base P} (n : Nat) (σ hs ks σr r : List Nat) (e : AExit) (s : Dyn.St) : Dyn.Ent w0 s (keepQ n σ hs ks σr r e s) := by
  cases e
  · exact keepA_ent n σ hs ks 0 s
  · exact keepA_ent n σ hs ks 0 s
  · exact keepA_ent n σr [] r 0 s
def keepR (n : Nat) (σ hs ks r : List Nat) : AExit → Dyn.St → Dyn.St := keepQ n σ hs ks [] r
theorem keepR_ent {P : Program} {w0 : Dyn.Base P} (n : Nat) (σ hs ks r : List Nat) (e : AExit) (s : Dyn.St) : Dyn.Ent w0 s (keepR n σ hs ks r e s) := keepQ_ent n σ hs ks [] r e s
theorem Wn1 {k m : Nat} (h : k < m) (hm : m ≤ 1000000000) : W ((k : Int) + 1) = ((k + 1 : Nat) : Int) := by
  unfold W; rw [IntKind.wrap_i64]; omega
/-- after an append of one element -/
theorem le_app {t : TypeId} {n : Nat} {f g : Nat → List Dyn.DC} (h : g 0 = f n) : Dyn.HeLe (some (.own t (n + 1) (Dyn.appF n f g))) (some (.own t (n + 1) f)) := by
  refine ⟨rfl, rfl, fun i hi => ?_⟩
  unfold Dyn.appF
  by_cases k : i < n
  · rw [show Nat.blt i n = true from by rw [Nat.blt_eq]; exact k]; rfl
  · rw [show Nat.blt i n = false from by rw [Bool.eq_false_iff]; intro h; rw [Nat.blt_eq] at h; exact k h]
    have : i = n := by omega
    subst this
    rw [Nat.sub_self]; exact h
/-- a contract over plain values as one of the first executor's -/
theorem callOk_D {P : Program} {K : Nat} {ds : List Dyn.DV} {us : List Value} {v : Value} (h : ∀ w F, Dyn.DenVs w F ds us) (hd : Dyn.CallD P K ds (.val (.one (.p v)))) : CallOk P K us v := fun w => by
  have k := hd w (fun _ => False) us (fun b hb => hb.elim) (h w _)
  split at k
  · rename_i u w' heq
    rw [heq]
    obtain ⟨k1, k2⟩ := k
    cases k1
    exact ⟨rfl, k2⟩
  · rename_i f ax w1 heq
    rw [heq]
    obtain ⟨rfl, k⟩ := k
    refine ⟨rfl, k.mono ?_⟩
    rintro e w2 ⟨u, rfl, h1, h2⟩
    cases h1
    exact ⟨rfl, h2⟩
  · exact k.elim
theorem den_X (b : B4) (w : World) (F : Nat → Prop) : Dyn.DenV w F (dvX b) (bx b) := ⟨_, rfl, .p _ rfl, .p _ rfl, .p _ rfl, .p _ rfl, trivial⟩
theorem den_P (p : P2) (w : World) (F : Nat → Prop) : Dyn.DenV w F (dvP p) (pt p) := ⟨_, rfl, .p _ rfl, .p _ rfl, trivial⟩
theorem den_I (x : Int) (w : World) (F : Nat → Prop) : Dyn.DenV w F (dvI x) (vi x) := .p _ rfl
theorem den_B (x : Bool) (w : World) (F : Nat → Prop) : Dyn.DenV w F (dvB x) (vb x) := .p _ rfl
end Go.Proofs.Ytfooaikpcbnchaa

/-! ## Row -/
namespace Go.Proofs.Ytfooaikpcbnchaa
open Go Go.ChangeShapes Go.WideShapes Go.ChangeAt Go.RowKit Go.Joins Go.Deep
set_option maxRecDepth 100000

section
variable {H : Type} {enc : TypeId × Value → H} {P : Program} {w : World} {base : Nat} {spare : Nat → Bool} {held : Bool}
theorem open_I {r : Reach} {b0 : Nat} {t : TypeId} {v : Value} {d : DataW H} {ps : List MemPlace} (ht : P.underlying t = some (.int .i64)) (hval : Value.okWide P w r b0 t v) (hd : DataW.Trod enc P w base spare held t v d ps) : ∃ x : Int, v = vi x := by
  obtain ⟨x, h, _⟩ := open_int ht hval hd
  exact ⟨x, h⟩
theorem open_B {r : Reach} {b0 : Nat} {t : TypeId} {v : Value} {d : DataW H} {ps : List MemPlace} (ht : P.underlying t = some .bool) (hval : Value.okWide P w r b0 t v) (hd : DataW.Trod enc P w base spare held t v d ps) : ∃ x : Bool, v = vb x := by
  obtain ⟨x, h, _⟩ := open_bool ht hval hd
  exact ⟨x, h⟩
theorem open_P {r : Reach} {b0 : Nat} {t : TypeId} {f0 f1 : Field} {v : Value} {d : DataW H} {p : List MemPlace} (hs : P.underlying t = some (.struct #[f0, f1])) (hone : oneCellFields P #[f0, f1] = true) (hC : P.cellsOf t = 2)
    (k0 : P.underlying f0.type = some (.int .i64)) (k1 : P.underlying f1.type = some (.int .i64)) (hv : Value.okWide P w r b0 t v) (h : DataW.Trod enc P w base spare held t v d p) : ∃ q : P2, v = pt q := by
  obtain ⟨v0, v1, y0, y1, n, rfl, _, _, h0, h1⟩ := open_agg2 hs hone hC hv h
  obtain ⟨x, e0, _⟩ := DataW.trod_int k0 h0
  obtain ⟨y, e1, _⟩ := DataW.trod_int k1 h1
  simp only [List.cons.injEq, and_true] at e0 e1
  exact ⟨⟨x, y⟩, by rw [e0, e1]⟩
theorem open_X {r : Reach} {b0 : Nat} {t : TypeId} {f0 f1 f2 f3 : Field} {v : Value} {d : DataW H} {p : List MemPlace} (hs : P.underlying t = some (.struct #[f0, f1, f2, f3])) (hone : oneCellFields P #[f0, f1, f2, f3] = true) (hC : P.cellsOf t = 4)
    (k0 : P.underlying f0.type = some (.int .i64)) (k1 : P.underlying f1.type = some (.int .i64)) (k2 : P.underlying f2.type = some (.int .i64)) (k3 : P.underlying f3.type = some (.int .i64)) (hv : Value.okWide P w r b0 t v) (h : DataW.Trod enc P w base spare held t v d p) : ∃ q : B4, v = bx q := by
  obtain ⟨v0, v1, v2, v3, y0, y1, y2, y3, n, rfl, _, _, h0, h1, h2, h3⟩ := open_agg4 hs hone hC hv h
  obtain ⟨x, e0, _⟩ := DataW.trod_int k0 h0
  obtain ⟨y, e1, _⟩ := DataW.trod_int k1 h1
  obtain ⟨x', e2, _⟩ := DataW.trod_int k2 h2
  obtain ⟨y', e3, _⟩ := DataW.trod_int k3 h3
  simp only [List.cons.injEq, and_true] at e0 e1 e2 e3
  exact ⟨⟨x, y, x', y'⟩, by rw [e0, e1, e2, e3]⟩

theorem trodAll_stays (hl : laidOutB P = true) {W W' : World} {sp' : Nat → Bool} : ∀ {ts : List TypeId} {vs : List Value} {ds : List (DataW H)} {ps : List MemPlace}, (∀ t ∈ ts, P.readableRec t = true ∧ t < P.types.size) →
    DataW.TrodAll enc P W base (fun _ => true) true ts vs ds ps → (∀ p ∈ ps, W.sameAt W' p) → (∀ p ∈ ps, sp' p.block = true) → DataW.TrodAll enc P W' base sp' true ts vs ds ps
  | [], vs, ds, ps, _, h, _, _ => by
    obtain ⟨rfl, rfl, rfl⟩ := trodAll_nil h
    exact trodAll_mk0
  | t :: ts, vs, ds, ps, ht, h, hs, hsp => by
    obtain ⟨v, vs', d, ds', p, q, rfl, rfl, rfl, h1, h2⟩ := trodAll_cons h
    have hr := ht t (by simp)
    exact trodAll_cons_mk (WideElems.Trod_stays hl hr.1 hr.2 h1 (fun x hx => hs x (by simp [hx])) (fun x hx => hsp x (by simp [hx])))
      (trodAll_stays hl (fun t ht' => ht t (by simp [ht'])) h2 (fun x hx => hs x (by simp [hx])) (fun x hx => hsp x (by simp [hx])))

/-- the post of a law's row -/
theorem law_post {f : Func} {s : ChangeSpec} {apart : Bool} {W W' : World} {args : Array Value} {ds : List (DataW H)} {before : List MemPlace} {tr : TypeId} (hl : laidOutB P = true) (hrt : f.resultTypes = #[tr]) (hb : P.underlying tr = some .bool)
    (hts : ∀ t ∈ f.params.toList, P.readableRec t = true ∧ t < P.types.size) (hvars : s.vars = []) (hfn : s.fn H (ds ++ []) = { results := [.lit (.bool true)], args := ds })
    (hW : DataW.Whole enc P f.params.toList s.vars apart W args.toList ds [] before) (hA : DataW.TrodAll enc P W 0 (fun _ => true) true f.params.toList args.toList ds before) (hbel : Below W.heap.size W W') :
    s.post enc P f apart true false false W args (.bool true) W' := by
  have hlt : ∀ p ∈ before, p.block < W.heap.size := fun p hp => hW.lt p hp
  refine ⟨ds, [], before, [], before, [], hW, ?_, ?_, ?_, World.keptBut_mono (fun p hp => ⟨hp, .inr (.inl hp)⟩) (hbel.frame (· ∈ before)), fun h => by cases h⟩
  · rw [hfn, hrt]
    exact trodAll_cons_mk (shut_bool hb true) trodAll_mk0
  · rw [hfn]
    exact trodAll_stays hl hts hA (fun p hp => hbel.same (hlt p hp)) (fun p hp => by simpa using hlt p hp)
  · rw [hfn, hvars]
    rfl
end

/-- a law's contract as a call -/
theorem calls_of_ok {P : Program} {K : Nat} {fn : Func} (hf : P.funcs[K]? = some fn) (hb : fn.body.isNone = false) (hn : (fn.name == "runtime.NumGoroutine") = false) {args : List Value} {v : Value} (h : Sym.CallOk P K args v) (w : World) :
    Calls P K args.toArray w fun e w' => e = .returned v ∧ Below w.heap.size w w' := by
  have hr : (callFunc K args.toArray).run P w = .ok (.enter K args.toArray) w := by
    unfold callFunc
    simp only [Sem.run_bind, run_program, Result.andThen_ok, hf, hn, hb]
    simp
  have := h w
  rw [hr] at this
  exact this.2
end Go.Proofs.Ytfooaikpcbnchaa
