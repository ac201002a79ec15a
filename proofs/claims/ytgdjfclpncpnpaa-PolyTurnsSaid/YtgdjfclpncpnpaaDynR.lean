/-
  OWN WORK. A second symbolic executor, part R: states that say less; loops by their states at the head.
-/
import Derived.Test.YtgdjfclpncpnpaaDynQ
namespace Go.Proofs.Ytgdjfclpncpnpaa.Dyn
open Go Go.RowKit Sym

/-! ### other names -/
def ixOf : List Nat → Nat → Nat → Option Nat
  | [], _, _ => none
  | m :: l, k, n => bif Nat.beq m n then some k else ixOf l (k + 1) n
def mvP (σ : List Nat) : Value → Option Value
  | .pointer (some a) => match ixOf σ 0 a.block with
    | some n => some (.pointer (some ⟨n, a.off, a.spot⟩))
    | none => none
  | .slice (some a) l c => match a.spot with
    | none => some (.slice (some a) l c)
    | some s => match ixOf σ 0 a.block with
      | some n => some (.slice (some ⟨n, a.off, some s⟩) l c)
      | none => none
  | x => some x
def mvL (f : Value → Option Value) : List Value → Option (List Value)
  | [] => some []
  | x :: l => match f x, mvL f l with
    | some y, some m => some (y :: m)
    | _, _ => none
def mv0 (σ : List Nat) : Value → Option Value
  | .func fn fst caps => match mvL (mvP σ) caps.toList with
    | some l => some (.func fn fst l.toArray)
    | none => none
  | x => mvP σ x
def mv1 (σ : List Nat) : Value → Option Value
  | .agg cs => match mvL (mv0 σ) cs.toList with
    | some l => some (.agg l.toArray)
    | none => none
  | x => mv0 σ x
def mv (σ : List Nat) : Value → Option Value
  | .tuple vs => match mvL (mv1 σ) vs.toList with
    | some l => some (.tuple l.toArray)
    | none => none
  | x => mv1 σ x
def mvSV (σ : List Nat) : SV → SV
  | .k x => .k x
  | .v x => match mv σ x with
    | some y => .v y
    | none => .junk
  | .ix n off i len size => match ixOf σ 0 n with
    | some m => .ix m off i len size
    | none => .junk
  | .ex n j off size i => match ixOf σ 0 n with
    | some m => .ex m j off size i
    | none => .junk
  | .hp n j off => match ixOf σ 0 n with
    | some m => .hp m j off
    | none => .junk
  | _ => .junk
def mvHE (σ : List Nat) : Option HE → Option HE
  | some (.cells t cs) => match mvL (mv0 σ) cs with
    | some l => some (.cells t l)
    | none => some .gone
  | x => x
def mvSlots (σ : List Nat) (j v : Nat) : Nat → List SV → List SV
  | _, [] => []
  | i, x :: xs => (if j.testBit i then .junk else if v.testBit i then (match x with | .k u => if flat u then .v u else .junk | y => mvSV σ y) else mvSV σ x) :: mvSlots σ j v (i + 1) xs
def mvHeap (σ : List Nat) (h : List (Option HE)) : List Nat → List (Option HE)
  | [] => []
  | n :: l => mvHE σ (h.getD n none) :: mvHeap σ h l
/-- the names of σ, in its order, and no others; slots of the mask j are forgotten, closed values of the mask v are any values -/
def relabel (σ : List Nat) (j v : Nat) (s : St) : St := { slots := mvSlots σ j v 0 s.slots, heap := mvHeap σ s.heap σ, fix := s.fix }

def pull (σ : List Nat) (β : Env) : Env := fun n => β (σ.getD n 0)

theorem ixOf_spec : ∀ {σ : List Nat} {k n m : Nat}, ixOf σ k n = some m → k ≤ m ∧ σ[m - k]? = some n
  | [], k, n, m, h => by cases h
  | q :: σ, k, n, m, h => by
    simp only [ixOf] at h
    cases hb : Nat.beq q n with
    | true =>
      rw [hb] at h
      simp only [cond_true, Option.some.injEq] at h; subst h
      have := Nat.eq_of_beq_eq_true hb
      subst this
      simp
    | false =>
      rw [hb] at h
      obtain ⟨h1, h2⟩ := ixOf_spec (σ := σ) (k := k + 1) h
      refine ⟨by omega, ?_⟩
      rw [show m - k = (m - (k + 1)) + 1 by omega, List.getElem?_cons_succ]; exact h2
theorem ixOf_pull {σ : List Nat} {β : Env} {n m : Nat} (h : ixOf σ 0 n = some m) : pull σ β m = β n ∧ m < σ.length := by
  obtain ⟨_, h2⟩ := ixOf_spec h
  rw [Nat.sub_zero] at h2
  refine ⟨by unfold pull; rw [List.getD_eq_getElem?_getD, h2]; rfl, (List.getElem?_eq_some_iff.1 h2).1⟩

/-- renamed values: what they stand for, what they name -/
def MvOk (σ : List Nat) (ren : Env → Value → Value) (refs : Value → List Nat) (x y : Value) : Prop := (∀ β, ren (pull σ β) y = ren β x) ∧ ∀ m ∈ refs y, ∃ n ∈ refs x, σ[m]? = some n
theorem mvP_ok {σ : List Nat} {x y : Value} (h : mvP σ x = some y) : MvOk σ renP refsP x y := by
  unfold mvP at h
  split at h
  · rename_i a
    split at h
    · rename_i n hn
      simp only [Option.some.injEq] at h; subst h
      refine ⟨fun β => ?_, fun m hm => ?_⟩
      · have := (ixOf_pull (β := β) hn).1
        simp only [renP]; rw [this]
      · simp only [refsP, List.mem_singleton] at hm; subst hm
        have := (ixOf_spec hn).2
        exact ⟨a.block, by simp [refsP], by simpa using this⟩
    · cases h
  · rename_i a l c
    split at h
    · rename_i hs
      simp only [Option.some.injEq] at h; subst h
      exact ⟨fun β => by simp only [renP, hs], fun m hm => by simp only [refsP, hs] at hm; cases hm⟩
    · rename_i s hs
      split at h
      · rename_i n hn
        simp only [Option.some.injEq] at h; subst h
        refine ⟨fun β => ?_, fun m hm => ?_⟩
        · have := (ixOf_pull (β := β) hn).1
          simp only [renP, hs]; rw [this]
        · simp only [refsP, List.mem_singleton] at hm; subst hm
          have := (ixOf_spec hn).2
          exact ⟨a.block, by simp [refsP, hs], by simpa using this⟩
      · cases h
  · rename_i h1 h2
    simp only [Option.some.injEq] at h; subst h
    cases x with
    | pointer a => cases a with
      | none => exact ⟨fun β => rfl, fun m hm => by cases hm⟩
      | some a => exact absurd rfl (h1 a)
    | slice a l c => cases a with
      | none => exact ⟨fun β => rfl, fun m hm => by cases hm⟩
      | some a => exact absurd rfl (h2 a l c)
    | _ => exact ⟨fun β => rfl, fun m hm => by cases hm⟩
theorem mvL_ok {σ : List Nat} {ren : Env → Value → Value} {refs : Value → List Nat} {f : Value → Option Value} (hf : ∀ x y, f x = some y → MvOk σ ren refs x y) : ∀ {l m : List Value}, mvL f l = some m → (∀ β, m.map (ren (pull σ β)) = l.map (ren β)) ∧ ∀ q ∈ refsL refs m, ∃ n ∈ refsL refs l, σ[q]? = some n
  | [], m, h => by
    simp only [mvL, Option.some.injEq] at h; subst h
    exact ⟨fun _ => rfl, fun q hq => by cases hq⟩
  | x :: l, m, h => by
    simp only [mvL] at h
    split at h
    · rename_i y m' hy hm
      simp only [Option.some.injEq] at h; subst h
      obtain ⟨a1, a2⟩ := hf x y hy
      obtain ⟨b1, b2⟩ := mvL_ok hf hm
      refine ⟨fun β => by rw [List.map_cons, List.map_cons, a1 β, b1 β], fun q hq => ?_⟩
      simp only [refsL, List.mem_append] at hq ⊢
      rcases hq with hq | hq
      · obtain ⟨n, h1, h2⟩ := a2 q hq; exact ⟨n, .inl h1, h2⟩
      · obtain ⟨n, h1, h2⟩ := b2 q hq; exact ⟨n, .inr h1, h2⟩
    · cases h
theorem mv0_ok {σ : List Nat} {x y : Value} (h : mv0 σ x = some y) : MvOk σ ren0 refs0 x y := by
  unfold mv0 at h
  split at h
  · rename_i fn fst caps
    split at h
    · rename_i l hl
      simp only [Option.some.injEq] at h; subst h
      obtain ⟨h1, h2⟩ := mvL_ok (fun x y => mvP_ok) hl
      exact ⟨fun β => by simp only [ren0, h1 β], h2⟩
    · cases h
  · rename_i hx
    obtain ⟨h1, h2⟩ := mvP_ok h
    have hy : ∀ a b c, y ≠ .func a b c := by
      intro a b c e; subst e
      unfold mvP at h
      split at h
      · split at h <;> cases h
      · split at h
        · cases h
        · split at h <;> cases h
      · simp only [Option.some.injEq] at h; exact hx _ _ _ h
    have e1 : ∀ β z, (∀ a b c, z ≠ Value.func a b c) → ren0 β z = renP β z ∧ refs0 z = refsP z := fun β z hz => by
      cases z <;> first | exact ⟨rfl, rfl⟩ | exact absurd rfl (hz _ _ _)
    refine ⟨fun β => by rw [(e1 _ y hy).1, (e1 _ x hx).1, h1 β], fun m hm => ?_⟩
    rw [(e1 (fun _ => (0, fun _ => undef)) y hy).2] at hm
    rw [(e1 (fun _ => (0, fun _ => undef)) x hx).2]
    exact h2 m hm
theorem mv0_one {σ : List Nat} {x y : Value} (h : mv0 σ x = some y) : (∀ cs, y = .agg cs → x = .agg cs) ∧ (∀ vs, y = .tuple vs → x = .tuple vs) := by
  unfold mv0 at h
  split at h
  · split at h
    · simp only [Option.some.injEq] at h; subst h
      exact ⟨fun _ e => (by cases e), fun _ e => (by cases e)⟩
    · cases h
  · unfold mvP at h
    split at h
    · split at h
      · simp only [Option.some.injEq] at h; subst h
        exact ⟨fun _ e => (by cases e), fun _ e => (by cases e)⟩
      · cases h
    · split at h
      · simp only [Option.some.injEq] at h; subst h
        exact ⟨fun _ e => (by cases e), fun _ e => (by cases e)⟩
      · split at h
        · simp only [Option.some.injEq] at h; subst h
          exact ⟨fun _ e => (by cases e), fun _ e => (by cases e)⟩
        · cases h
    · simp only [Option.some.injEq] at h; subst h
      exact ⟨fun _ e => e, fun _ e => e⟩
theorem mv1_ok {σ : List Nat} {x y : Value} (h : mv1 σ x = some y) : MvOk σ ren1 refs1 x y := by
  unfold mv1 at h
  split at h
  · rename_i cs
    split at h
    · rename_i l hl
      simp only [Option.some.injEq] at h; subst h
      obtain ⟨h1, h2⟩ := mvL_ok (fun x y => mv0_ok) hl
      exact ⟨fun β => by simp only [ren1, h1 β], h2⟩
    · cases h
  · rename_i hx
    obtain ⟨h1, h2⟩ := mv0_ok h
    have hy : ∀ cs, y ≠ .agg cs := fun cs e => hx cs ((mv0_one h).1 cs e)
    have e1 : ∀ β z, (∀ a, z ≠ Value.agg a) → ren1 β z = ren0 β z ∧ refs1 z = refs0 z := fun β z hz => by
      cases z <;> first | exact ⟨rfl, rfl⟩ | exact absurd rfl (hz _)
    refine ⟨fun β => by rw [(e1 _ y hy).1, (e1 _ x hx).1, h1 β], fun m hm => ?_⟩
    rw [(e1 (fun _ => (0, fun _ => undef)) y hy).2] at hm
    rw [(e1 (fun _ => (0, fun _ => undef)) x hx).2]
    exact h2 m hm
theorem mv_ok {σ : List Nat} {x y : Value} (h : mv σ x = some y) : MvOk σ ren refs x y := by
  unfold mv at h
  split at h
  · rename_i vs
    split at h
    · rename_i l hl
      simp only [Option.some.injEq] at h; subst h
      obtain ⟨h1, h2⟩ := mvL_ok (fun x y => mv1_ok) hl
      exact ⟨fun β => by simp only [ren, h1 β], h2⟩
    · cases h
  · rename_i hx
    obtain ⟨h1, h2⟩ := mv1_ok h
    have hy : ∀ vs, y ≠ .tuple vs := fun vs e => by
      subst e
      unfold mv1 at h
      split at h
      · split at h <;> cases h
      · exact hx vs ((mv0_one h).2 vs rfl)
    have e1 : ∀ β z, (∀ a, z ≠ Value.tuple a) → ren β z = ren1 β z ∧ refs z = refs1 z := fun β z hz => by
      cases z <;> first | exact ⟨rfl, rfl⟩ | exact absurd rfl (hz _)
    refine ⟨fun β => by rw [(e1 _ y hy).1, (e1 _ x hx).1, h1 β], fun m hm => ?_⟩
    rw [(e1 (fun _ => (0, fun _ => undef)) y hy).2] at hm
    rw [(e1 (fun _ => (0, fun _ => undef)) x hx).2]
    exact h2 m hm

theorem mvSlots_length (σ : List Nat) (j v : Nat) : ∀ (l : List SV) (i : Nat), (mvSlots σ j v i l).length = l.length
  | [], _ => rfl
  | _ :: l, i => by simp only [mvSlots, List.length_cons]; rw [mvSlots_length σ j v l (i + 1)]
theorem mvSlots_at (σ : List Nat) (j v : Nat) : ∀ (l : List SV) (i n : Nat), (mvSlots σ j v i l).getD n .junk = .junk ∨ (∃ u, l.getD n .junk = .k u ∧ flat u = true ∧ (mvSlots σ j v i l).getD n .junk = .v u) ∨ (mvSlots σ j v i l).getD n .junk = mvSV σ (l.getD n .junk)
  | [], i, n => by simp [mvSlots]
  | x :: l, i, 0 => by
    simp only [mvSlots, List.getD_cons_zero]
    split
    · exact .inl rfl
    · split
      · split
        · rename_i u
          split
          · rename_i hf; exact .inr (.inl ⟨u, rfl, hf, rfl⟩)
          · exact .inl rfl
        · exact .inr (.inr rfl)
      · exact .inr (.inr rfl)
  | x :: l, i, n + 1 => by
    simp only [mvSlots, List.getD_cons_succ]
    exact mvSlots_at σ j v l (i + 1) n
theorem mvHeap_at (σ : List Nat) (h : List (Option HE)) : ∀ (l : List Nat) (n : Nat), (mvHeap σ h l).getD n none = match l[n]? with
    | some q => mvHE σ (h.getD q none)
    | none => none
  | [], n => by simp [mvHeap]
  | q :: l, 0 => by simp [mvHeap]
  | q :: l, n + 1 => by
    simp only [mvHeap, List.getD_cons_succ, List.getElem?_cons_succ]
    exact mvHeap_at σ h l n

section
variable {P : Program} {w0 : Base P} {w : World} {β : Env} {s : St} {a : Act}

theorem relabel_noG (σ : List Nat) (j v : Nat) (s : St) : NoG (relabel σ j v s) := by
  intro x hx
  obtain ⟨n, hn⟩ := List.mem_iff_getElem?.1 hx
  have e : (mvSlots σ j v 0 s.slots).getD n .junk = x := by
    have hn' : (mvSlots σ j v 0 s.slots)[n]? = some x := hn
    rw [List.getD_eq_getElem?_getD, hn']; rfl
  rcases mvSlots_at σ j v s.slots 0 n with h | ⟨u, _, _, h⟩ | h
  · rw [← e, h]; rfl
  · rw [← e, h]; rfl
  · rw [← e, h]
    generalize s.slots.getD n .junk = y
    cases y <;> simp only [mvSV] <;> first | rfl | (split <;> rfl)

theorem relabel_M {σ : List Nat} (hσ : σ.Nodup) (j v : Nat) (m : M w0 β s a w) (ng : NoG s) : M w0 (pull σ β) (relabel σ j v s) a w := by
  have hp : ∀ n q, σ[n]? = some q → pull σ β n = β q := fun n q h => by unfold pull; rw [List.getD_eq_getElem?_getD, h]; rfl
  -- what stands at a name
  have hold : ∀ n he, (mvHeap σ s.heap σ).getD n none = some he → ∃ q he0, σ[n]? = some q ∧ s.heap.getD q none = some he0 ∧ (he = .gone ∨ he = he0 ∧ (∀ t cs, he ≠ .cells t cs) ∨ ∃ t cs cs', he0 = .cells t cs ∧ he = .cells t cs' ∧ mvL (mv0 σ) cs = some cs') := fun n he hn => by
    rw [mvHeap_at] at hn
    split at hn
    · rename_i q hq
      refine ⟨q, ?_⟩
      unfold mvHE at hn
      split at hn
      · rename_i t cs hc
        split at hn
        · rename_i l hl
          simp only [Option.some.injEq] at hn
          exact ⟨_, hq, hc, .inr (.inr ⟨t, cs, l, rfl, hn.symm, hl⟩)⟩
        · simp only [Option.some.injEq] at hn
          exact ⟨_, hq, hc, .inl hn.symm⟩
      · rename_i hnc
        exact ⟨he, hq, hn, .inr (.inl ⟨rfl, fun t cs e => hnc t cs (by rw [hn, e])⟩)⟩
    · cases hn
  have hblk : ∀ n he b, (mvHeap σ s.heap σ).getD n none = some he → blkOf he (pull σ β n) = some b → ∃ q he0, σ[n]? = some q ∧ s.heap.getD q none = some he0 ∧ blkOf he0 (β q) = some b := fun n he b hn hb => by
    obtain ⟨q, he0, h1, h2, h3⟩ := hold n he hn
    rw [hp n q h1] at hb
    rcases h3 with rfl | ⟨rfl, _⟩ | ⟨t, cs, cs', rfl, rfl, _⟩
    · cases hb
    · exact ⟨q, he, h1, h2, hb⟩
    · exact ⟨q, _, h1, h2, hb⟩
  have hNF : ∀ b, NF w0 β s.heap w b → NF w0 (pull σ β) (mvHeap σ s.heap σ) w b ∧ w.heap[b]? = w.heap[b]? := fun b hN => ⟨by
    rcases hN with z | ⟨k1, k2, k3⟩
    · exact .inl z
    · refine .inr ⟨k1, k2, fun n he hn hb => ?_⟩
      obtain ⟨q, he0, h1, h2, h3⟩ := hblk n he b hn hb
      exact k3 q he0 h2 h3, rfl⟩
  have hex : ∀ q c, s.heap.getD q none = some c → ∀ n, σ[n]? = some q → ∃ c', (mvHeap σ s.heap σ).getD n none = some c' := fun q c hq n hn => by
    rw [mvHeap_at, hn]
    dsimp only
    rw [hq]
    unfold mvHE
    split
    · split
      · exact ⟨_, rfl⟩
      · exact ⟨_, rfl⟩
    · exact ⟨_, rfl⟩
  refine { defers := m.defers, size := by rw [m.size]; exact (mvSlots_length σ j v s.slots 0).symm, slot := fun i u hu => ?_, locs := fun i n hn => ?_, mem := ⟨fun n he hn => ?_, fun n k c d b hn hk hc hd => ?_, fun n t cs hn x hx q hq => ?_, fun n j => m.mem.one _ j, m.mem.below⟩, tie := m.tie }
  · have hd := m.slot i u hu
    have hd' : ∀ l', Den β l' (s.slots.getD i .junk) u := fun l' => Den_congr (fun _ _ => rfl) (fun c hc => by rw [isG_conds (ng.at_ i)] at hc; cases hc) hd
    show Den (pull σ β) _ ((mvSlots σ j v 0 s.slots).getD i .junk) u
    rcases mvSlots_at σ j v s.slots 0 i with h | ⟨x, h1, h2, h3⟩ | h
    · rw [h]; trivial
    · rw [h3]
      rw [h1] at hd
      exact (show u = _ from hd).trans (ren_flat h2).symm
    · rw [h]
      have hd'' := hd' (relabel σ j v s).slots
      revert hd''
      generalize s.slots.getD i .junk = y
      intro hd''
      cases y with
      | k x => exact hd''
      | v x =>
        simp only [mvSV]
        split
        · rename_i z hz
          exact (show u = _ from hd'').trans ((mv_ok hz).1 β).symm
        · trivial
      | ix n off q len size =>
        simp only [mvSV]
        split
        · rename_i z hz
          simp only [Den] at hd'' ⊢
          rw [(ixOf_pull (β := β) hz).1]; exact hd''
        · trivial
      | ex n jj off size q =>
        simp only [mvSV]
        split
        · rename_i z hz
          simp only [Den] at hd'' ⊢
          rw [(ixOf_pull (β := β) hz).1]; exact hd''
        · trivial
      | hp n jj off =>
        simp only [mvSV]
        split
        · rename_i z hz
          simp only [Den] at hd'' ⊢
          rw [(ixOf_pull (β := β) hz).1]; exact hd''
        · trivial
      | g cs x => trivial
      | junk => trivial
  · have hn' : n ∈ names ((mvSlots σ j v 0 s.slots).getD i .junk) := hn
    rcases mvSlots_at σ j v s.slots 0 i with h | ⟨x, h1, h2, h3⟩ | h
    · rw [h] at hn'; cases hn'
    · rw [h3] at hn'; simp only [names] at hn'; rw [refs_flat h2] at hn'; cases hn'
    · rw [h] at hn'
      have hl := m.locs i
      revert hn' hl
      generalize s.slots.getD i .junk = y
      intro hn' hl
      have fin : ∀ q, q ∈ names y → σ[n]? = some q → ∃ c, (mvHeap σ s.heap σ).getD n none = some c := fun q hq hs => by
        obtain ⟨c, hc⟩ := hl q hq
        exact hex q c hc n hs
      cases y with
      | k x => cases hn'
      | v x =>
        simp only [mvSV] at hn'
        split at hn'
        · rename_i z hz
          obtain ⟨q, h1, h2⟩ := (mv_ok hz).2 n hn'
          exact fin q h1 h2
        · cases hn'
      | ix k off q len size =>
        simp only [mvSV] at hn'
        split at hn'
        · rename_i z hz
          simp only [names, List.mem_singleton] at hn'; subst hn'
          exact fin k (by simp [names]) (by have := (ixOf_spec hz).2; simpa using this)
        · cases hn'
      | ex k jj off size q =>
        simp only [mvSV] at hn'
        split at hn'
        · rename_i z hz
          simp only [names, List.mem_singleton] at hn'; subst hn'
          exact fin k (by simp [names]) (by have := (ixOf_spec hz).2; simpa using this)
        · cases hn'
      | hp k jj off =>
        simp only [mvSV] at hn'
        split at hn'
        · rename_i z hz
          simp only [names, List.mem_singleton] at hn'; subst hn'
          exact fin k (by simp [names]) (by have := (ixOf_spec hz).2; simpa using this)
        · cases hn'
      | g cs x => cases hn'
      | junk => cases hn'
  · obtain ⟨q, he0, h1, h2, h3⟩ := hold n he hn
    rw [hp n q h1]
    have hok := m.mem.ok q he0 h2
    rcases h3 with rfl | ⟨rfl, hnc⟩ | ⟨t, cs, cs', rfl, rfl, hl⟩
    · trivial
    · exact HeOk.mono hNF (fun b _ => rfl) (fun t cs e => absurd e (hnc t cs)) (Nat.le_refl _) hok
    · obtain ⟨k1, _⟩ := mvL_ok (fun x y => mv0_ok) hl
      exact ⟨by rw [k1 β]; exact hok.1, hok.2⟩
  · obtain ⟨q, he0, h1, h2, h3⟩ := hblk n c b hn hc
    obtain ⟨q', he0', h1', h2', h3'⟩ := hblk k d b hk hd
    have e := m.mem.inj q q' he0 he0' b h2 h2' h3 h3'
    subst e
    have hlt1 := (List.getElem?_eq_some_iff.1 h1).1
    exact (List.getElem?_inj hlt1 hσ).1 (h1.trans h1'.symm)
  · obtain ⟨q0, he0, h1, h2, h3⟩ := hold n _ hn
    rcases h3 with h3 | ⟨rfl, hnc⟩ | ⟨t', cs0, cs', rfl, h3, hl⟩
    · cases h3
    · exact absurd rfl (hnc t cs)
    · simp only [HE.cells.injEq] at h3
      obtain ⟨rfl, rfl⟩ := h3
      obtain ⟨_, k2⟩ := mvL_ok (fun x y => mv0_ok) hl
      obtain ⟨n', m1, m2⟩ := k2 q (refsL_mem.2 ⟨x, hx, hq⟩)
      obtain ⟨y, y1, y2⟩ := refsL_mem.1 m1
      obtain ⟨c, hc⟩ := m.mem.refs q0 t cs0 h2 y y1 n' y2
      exact hex n' c hc q m2
end
end Go.Proofs.Ytgdjfclpncpnpaa.Dyn
