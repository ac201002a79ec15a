/-
  OWN WORK. A second symbolic executor, part N: a region in any order.
-/
import Derived.Test.YtgdjfclpncpnpaaDynM
namespace Go.Proofs.Ytgdjfclpncpnpaa.Dyn
open Go Go.RowKit Sym

/-! ### all orders -/
section
variable (P : Program) (X : Tabs) (ops : Array Oper) (base : Nat) (ts : List Tch)

def stepAt (i : Nat) (s : St) : Option (Oper × Res) :=
  match ops[i]? with
  | some o => match core P X ops base i o (ts.getD i ([], [])) s with
    | some r => some (o, r)
    | none => none
  | none => none

def AllO (F : St → Prop) : Nat → Array Bool → St → Prop
  | 0, L, s => Region.ready .any ops L = [] ∧ F s
  | f + 1, L, s => (Region.ready .any ops L = [] → F s) ∧
    ∀ i ∈ Region.ready .any ops L, ∃ o r, stepAt P X ops base ts i s = some (o, r) ∧ allP r.sides ∧ AllO F f (L.setIfInBounds i true) (s.put o.dst r)
end

section
variable {P : Program} {X : Tabs} {ops : Array Oper} {base : Nat} {ts : List Tch} {F : St → Prop}

theorem stepAt_spec {i : Nat} {s : St} {o : Oper} {r : Res} (h : stepAt P X ops base ts i s = some (o, r)) : ops[i]? = some o ∧ core P X ops base i o (ts.getD i ([], [])) s = some r := by
  unfold stepAt at h
  split at h
  · rename_i o' ho
    split at h
    · rename_i r' hr
      simp only [Option.some.injEq, Prod.mk.injEq] at h
      obtain ⟨rfl, rfl⟩ := h
      exact ⟨ho, hr⟩
    · cases h
  · cases h

theorem core_upd {i : Nat} {o : Oper} {t : Tch} {s : St} {r : Res} (h : core P X ops base i o t s = some r) : (∃ cs, chainOf ops (ops.size + 1) o = some cs) ∧ ∀ n c, (n, c) ∈ r.upd → n ∈ t.2 := by
  unfold core at h
  split at h
  · cases h
  · rename_i cs hcs
    refine ⟨⟨cs, hcs⟩, ?_⟩
    split at h
    · split at h
      · simp only [Option.some.injEq] at h; subst h
        intro n c hn; cases hn
      split at h
      · cases h
      · rename_i r0 _
        split at h
        · rename_i hc
          simp only [Bool.and_eq_true] at hc
          split at h
          · simp only [Option.some.injEq] at h; subst h
            rw [pinRes_upd]
            exact updIn_mem hc.1.1
          split at h
          · cases h
          · split at h
            · split at h
              · simp only [Option.some.injEq] at h; subst h
                intro n c hn; cases hn
              · cases h
            · cases h
        · cases h
    · cases h

theorem heapSet_at : ∀ (l : List (Nat × HE)) (h : List (Option HE)) (n : Nat), (heapSet h l)[n]? = match l.reverse.find? (fun q => q.1 == n) with
    | some q => if n < h.length then some (some q.2) else none
    | none => h[n]?
  | [], h, n => rfl
  | (k, e) :: l, h, n => by
    simp only [heapSet]
    rw [heapSet_at l, List.reverse_cons, List.find?_append]
    cases l.reverse.find? (fun q => q.1 == n) with
    | some q => simp
    | none =>
      simp only [Option.none_or, List.find?_singleton]
      by_cases e' : k = n
      · subst e'
        simp only [beq_self_eq_true, if_true]
        by_cases hl : k < h.length
        · rw [List.getElem?_set_self hl, if_pos hl]
        · rw [List.getElem?_eq_none (by simp; omega), if_neg hl]
      · have : (k == n) = false := by simpa using e'
        simp only [this, Bool.false_eq_true, if_false]
        rw [List.getElem?_set_ne e']
theorem heapSet_comm {a b : List (Nat × HE)} (h : List (Option HE)) (hab : ∀ n c m e, (n, c) ∈ a → (m, e) ∈ b → n ≠ m) : heapSet (heapSet h a) b = heapSet (heapSet h b) a := by
  apply List.ext_getElem?
  intro n
  rw [heapSet_at, heapSet_at, heapSet_at, heapSet_at, heapSet_length, heapSet_length]
  cases hb : b.reverse.find? (fun q => q.1 == n) with
  | none => cases a.reverse.find? (fun q => q.1 == n) <;> rfl
  | some q =>
    cases ha : a.reverse.find? (fun q => q.1 == n) with
    | none => rfl
    | some p =>
      exfalso
      have h1 := List.find?_some ha; have h2 := List.find?_some hb
      have m1 := List.mem_of_find?_eq_some ha; have m2 := List.mem_of_find?_eq_some hb
      simp only [beq_iff_eq] at h1 h2
      exact hab p.1 p.2 q.1 q.2 (by simpa using m1) (by simpa using m2) (by rw [h1, h2])

theorem put_comm {s : St} {ri rj : Res} {di dj : Option Nat} (hd : ∀ d, di = some d → dj ≠ some d) (hu : ∀ n c m e, (n, c) ∈ ri.upd → (m, e) ∈ rj.upd → n ≠ m) :
    (s.put di ri).put dj rj = (s.put dj rj).put di ri := by
  unfold St.put
  have hfx : dropFix dj (dropFix di s.fix) = dropFix di (dropFix dj s.fix) := by
    cases di with
    | none => cases dj <;> rfl
    | some d => cases dj with
      | none => rfl
      | some e => exact dropF_comm e d s.fix
  dsimp only
  rw [hfx]
  congr 1
  · cases di with
    | none => cases dj <;> rfl
    | some d => cases dj with
      | none => rfl
      | some e =>
        have : d ≠ e := fun z => hd d rfl (by rw [z])
        exact List.set_comm _ _ this
  · exact heapSet_comm _ hu

/-- Two operations that are apart may change places. -/
theorem swap {i j : Nat} {s : St} {oi oj : Oper} {ri rj : Res} (hap : Apart (ops := ops) (ts := ts) i j) (hi : stepAt P X ops base ts i s = some (oi, ri)) (hj : stepAt P X ops base ts j (s.put oi.dst ri) = some (oj, rj)) :
    stepAt P X ops base ts j s = some (oj, rj) ∧ stepAt P X ops base ts i (s.put oj.dst rj) = some (oi, ri) ∧ (s.put oi.dst ri).put oj.dst rj = (s.put oj.dst rj).put oi.dst ri := by
  obtain ⟨hoi, hci⟩ := stepAt_spec hi
  obtain ⟨hoj, hcj⟩ := stepAt_spec hj
  obtain ⟨h1, h2, h3, h4, h5⟩ := ind_spec (hap oi oj hoi hoj)
  obtain ⟨⟨csi, hcsi⟩, hui⟩ := core_upd hci
  obtain ⟨⟨csj, hcsj⟩, huj⟩ := core_upd hcj
  have ej := core_frame (P := P) (X := X) (base := base) (j := j) (t := ts.getD j ([], [])) (st := s) (dst := oi.dst) (r := ri) hcsj (fun d hd => ⟨(h1 d hd).1, (h1 d hd).2 csj hcsj⟩) (fun n c hn => h4 n (hui n c hn))
  rw [ej] at hcj
  have ei := core_frame (P := P) (X := X) (base := base) (j := i) (t := ts.getD i ([], [])) (st := s) (dst := oj.dst) (r := rj) hcsi (fun d hd => ⟨(h2 d hd).1, (h2 d hd).2 csi hcsi⟩) (fun n c hn => h5 n (huj n c hn))
  refine ⟨by unfold stepAt; rw [hoj]; dsimp only; rw [hcj], by unfold stepAt; rw [hoi]; dsimp only; rw [ei, hci], put_comm h3 fun n c m e hn hm he => ?_⟩
  subst he
  exact (h4 n (hui n c hn)).2 (huj n e hm)

/-- What may come up now may be taken first. -/
theorem AllO_first {i : Nat} {oi : Oper} : ∀ (f : Nat) (L : Array Bool) (s : St) (ri : Res),
    (∀ j oj, ops[j]? = some oj → j ≠ i → L.getD j true = false → ((twOf ops).getD j 0).testBit i = false → Apart (ops := ops) (ts := ts) i j) → Closed ops L →
    i ∈ Region.ready .any ops L → stepAt P X ops base ts i s = some (oi, ri) → allP ri.sides →
    AllO P X ops base ts F f (L.setIfInBounds i true) (s.put oi.dst ri) → AllO P X ops base ts F (f + 1) L s := by
  intro f
  induction f with
  | zero =>
    intro L s ri _ _ hr hi hs H
    refine ⟨fun h => (by rw [h] at hr; cases hr), fun j hj => ?_⟩
    by_cases hji : j = i
    · subst hji; exact ⟨oi, ri, hi, hs, H⟩
    · have := ready_mono hj hji
      rw [H.1] at this
      cases this
  | succ f ih =>
    intro L s ri hfree hcl hr hi hs H
    refine ⟨fun h => (by rw [h] at hr; cases hr), fun j hj => ?_⟩
    by_cases hji : j = i
    · subst hji; exact ⟨oi, ri, hi, hs, H⟩
    · obtain ⟨oj, rj, hsj, hsides, hall⟩ := H.2 j (ready_mono hj hji)
      obtain ⟨hjun, oj', hoj, hwait⟩ := mem_ready.1 hj
      have hnot : ((twOf ops).getD j 0).testBit i = false := by
        cases hb : ((twOf ops).getD j 0).testBit i with
        | false => rfl
        | true =>
          have h0 := (mem_ready.1 hr).1
          have hil : L.getD i false = true := by
            obtain ⟨n, hn, hx⟩ := twOf_spec hoj hb
            obtain ⟨e, he, hbd, rfl⟩ := waits_iff.1 hn
            have hnl := hwait e he hbd
            rcases hx with rfl | ⟨hlt, hx⟩
            · exact hnl
            · have hjlt : j < ops.size := (Array.getElem?_eq_some_iff.1 hoj).1
              exact hcl.through e.on (ops[e.on]'(by omega)) (Array.getElem?_eq_getElem (by omega)) hnl hx
          rcases Nat.lt_or_ge i L.size with h' | h'
          · simp [h'] at h0 hil; rw [h0] at hil; cases hil
          · simp [Array.getElem?_eq_none h'] at hil
      obtain ⟨e1, e2, e3⟩ := swap (hfree j oj' hoj hji hjun hnot) hi hsj
      refine ⟨oj, rj, e1, hsides, ih _ _ ri (fun k ok hk hki hun hno => hfree k ok hk hki ?_ hno) (hcl.set hj) (ready_mono hr (Ne.symm hji)) e2 hs ?_⟩
      · by_cases hjk : j = k
        · subst hjk; exact hjun
        · rw [getD_set_ne true hjk] at hun; exact hun
      · rw [Array.setIfInBounds_comm _ _ hji, ← e3]
        exact hall
end
end Go.Proofs.Ytgdjfclpncpnpaa.Dyn
