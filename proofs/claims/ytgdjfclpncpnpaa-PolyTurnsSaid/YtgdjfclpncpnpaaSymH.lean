/-
  OWN WORK. A symbolic executor for Go text over open terms, part H: a region in any order.
-/
import Derived.Test.YtgdjfclpncpnpaaSymG
namespace Go.Proofs.Ytgdjfclpncpnpaa.Sym
open Go Go.RowKit

/-! ### sets of small numbers, as the bits of a number -/
def maskOf : List Nat → Nat
  | [] => 0
  | n :: ns => 2 ^ n ||| maskOf ns

theorem maskOf_mem {l : List Nat} {n : Nat} (h : n ∈ l) : (maskOf l).testBit n = true := by
  induction l with
  | nil => cases h
  | cons m ms ih =>
    simp only [maskOf, Nat.testBit_or, Bool.or_eq_true]
    rcases List.mem_cons.1 h with rfl | h
    · left; simp [Nat.testBit_two_pow_self]
    · exact .inr (ih h)

theorem mask_apart {l m : List Nat} (h : maskOf l &&& maskOf m = 0) {n : Nat} (h1 : n ∈ l) (h2 : n ∈ m) : False := by
  have e : (maskOf l &&& maskOf m).testBit n = true := by rw [Nat.testBit_and, maskOf_mem h1, maskOf_mem h2]; rfl
  rw [h] at e; simp at e

/-- what an operation waits for, reads, writes -/
structure FP where
  w : Nat
  rd : Nat
  d : Nat
  hr : Nat
  hw : Nat

def waitsOf (o : Oper) : List Nat := (o.after.toList.filter fun e => Region.binds .any e).map (·.on)

def Waits (o : Oper) (i : Nat) : Prop := ∃ e ∈ o.after, Region.binds .any e = true ∧ e.on = i

theorem waits_iff {o : Oper} {i : Nat} : i ∈ waitsOf o ↔ Waits o i := by
  unfold waitsOf Waits
  constructor
  · intro h
    obtain ⟨e, he, rfl⟩ := List.mem_map.1 h
    rw [List.mem_filter] at he
    exact ⟨e, Array.mem_toList_iff.1 he.1, he.2, rfl⟩
  · rintro ⟨e, he, hb, rfl⟩
    exact List.mem_map.2 ⟨e, List.mem_filter.2 ⟨Array.mem_toList_iff.2 he, hb⟩, rfl⟩

/-- what each operation waits for, itself or through others, as the bits of a number -/
def twMask (acc : List Nat) : List Nat → Nat
  | [] => 0
  | n :: ns => 2 ^ n ||| acc.getD n 0 ||| twMask acc ns
def twGo : List Nat → List Oper → List Nat
  | acc, [] => acc
  | acc, o :: l => twGo (acc ++ [twMask acc (waitsOf o)]) l
def twOf (ops : Array Oper) : List Nat := twGo [] ops.toList

theorem twMask_bit {acc : List Nat} {i : Nat} : ∀ {ns : List Nat}, (twMask acc ns).testBit i = true → ∃ n ∈ ns, i = n ∨ (acc.getD n 0).testBit i = true
  | [], h => by simp [twMask] at h
  | n :: ns, h => by
    simp only [twMask, Nat.testBit_or, Bool.or_eq_true] at h
    rcases h with (h | h) | h
    · by_cases e : n = i
      · exact ⟨n, by simp, .inl e.symm⟩
      · rw [Nat.testBit_two_pow_of_ne e] at h; cases h
    · exact ⟨n, by simp, .inr h⟩
    · obtain ⟨k, hk, h⟩ := twMask_bit h
      exact ⟨k, by simp [hk], h⟩

theorem twGo_spec : ∀ (l : List Oper) (acc : List Nat), ∃ r, twGo acc l = acc ++ r ∧ r.length = l.length ∧ ∀ j o, l[j]? = some o → r[j]? = some (twMask (acc ++ r.take j) (waitsOf o))
  | [], acc => ⟨[], by simp [twGo], rfl, fun j o h => by simp at h⟩
  | o :: l, acc => by
    obtain ⟨r, h1, h2, h3⟩ := twGo_spec l (acc ++ [twMask acc (waitsOf o)])
    refine ⟨twMask acc (waitsOf o) :: r, by simp only [twGo, h1, List.append_assoc, List.singleton_append], by simp [h2], fun j o' hj => ?_⟩
    cases j with
    | zero =>
      simp only [List.getElem?_cons_zero, Option.some.injEq] at hj; subst hj
      simp
    | succ j =>
      have := h3 j o' (by simpa using hj)
      simp only [List.getElem?_cons_succ, List.take_succ_cons]
      rw [this]
      simp [List.append_assoc]

theorem twOf_spec {ops : Array Oper} {j i : Nat} {o : Oper} (hj : ops[j]? = some o) (h : ((twOf ops).getD j 0).testBit i = true) : ∃ n ∈ waitsOf o, i = n ∨ (n < j ∧ ((twOf ops).getD n 0).testBit i = true) := by
  obtain ⟨r, h1, h2, h3⟩ := twGo_spec ops.toList []
  have e : twOf ops = r := by unfold twOf; rw [h1]; rfl
  rw [e] at h ⊢
  have hr := h3 j o (by simpa using hj)
  rw [List.getD_eq_getElem?_getD, hr, Option.getD_some] at h
  obtain ⟨n, hn, hb⟩ := twMask_bit h
  refine ⟨n, hn, ?_⟩
  rcases hb with hb | hb
  · exact .inl hb
  · rw [List.nil_append, List.getD_eq_getElem?_getD] at hb
    by_cases hlt : n < j
    · rw [List.getElem?_take_of_lt hlt] at hb
      exact .inr ⟨hlt, by rw [List.getD_eq_getElem?_getD]; exact hb⟩
    · rw [List.getElem?_eq_none (by simp; omega)] at hb
      simp at hb

def fpOf (ops : Array Oper) (o : Oper) (t : Tch) : FP :=
  { w := 0,
    rd := maskOf (readsOf o ++ match chainOf ops (ops.size + 1) o with | some cs => cs.map (·.1) | none => []),
    d := maskOf o.dst.toList, hr := maskOf t.1, hw := maskOf t.2 }

def ind (f g : FP) : Bool :=
  f.d &&& g.rd == 0 && g.d &&& f.rd == 0 && f.d &&& g.d == 0 && f.hw &&& (g.hr ||| g.hw) == 0 && g.hw &&& f.hr == 0

def laterOk (k : Nat) (f : FP) : List FP → Bool
  | [] => true
  | g :: gs => (g.w.testBit k || ind f g) && laterOk k f gs

def orderB : Nat → List FP → Bool
  | _, [] => true
  | k, f :: fs => decide (f.w < 2 ^ k) && laterOk k f fs && orderB (k + 1) fs

theorem laterOk_spec {k : Nat} {f : FP} : ∀ {gs : List FP}, laterOk k f gs = true → ∀ g ∈ gs, g.w.testBit k = true ∨ ind f g = true
  | [], _, _, hg => by cases hg
  | g :: gs, h, g', hg => by
    simp only [laterOk, Bool.and_eq_true, Bool.or_eq_true] at h
    rcases List.mem_cons.1 hg with rfl | hg
    · exact h.1
    · exact laterOk_spec h.2 g' hg

theorem orderB_spec : ∀ {fs : List FP} {k : Nat}, orderB k fs = true → ∀ i f, fs[i]? = some f → f.w < 2 ^ (k + i) ∧ ∀ j g, i < j → fs[j]? = some g → g.w.testBit (k + i) = true ∨ ind f g = true
  | [], _, _, i, f, hi => by simp at hi
  | f :: fs, k, h, i, f', hi => by
    simp only [orderB, Bool.and_eq_true, decide_eq_true_eq] at h
    cases i with
    | zero =>
      simp only [List.getElem?_cons_zero, Option.some.injEq] at hi; subst hi
      refine ⟨h.1.1, fun j g hj hg => ?_⟩
      cases j with
      | zero => omega
      | succ j => exact laterOk_spec h.1.2 g (List.mem_of_getElem? (by simpa using hg))
    | succ i =>
      obtain ⟨h1, h2⟩ := orderB_spec h.2 i f' (by simpa using hi)
      rw [show k + (i + 1) = k + 1 + i by omega]
      refine ⟨h1, fun j g hj hg => ?_⟩
      cases j with
      | zero => omega
      | succ j => exact h2 j g (by omega) (by simpa using hg)

theorem maskOf_bit {l : List Nat} {n : Nat} (h : (maskOf l).testBit n = true) : n ∈ l := by
  induction l with
  | nil => simp [maskOf] at h
  | cons m ms ih =>
    simp only [maskOf, Nat.testBit_or, Bool.or_eq_true] at h
    rcases h with h | h
    · by_cases e : m = n
      · simp [e]
      · rw [Nat.testBit_two_pow_of_ne e] at h; cases h
    · exact List.mem_cons_of_mem _ (ih h)

/-! ### all orders -/
section
variable (P : Program) (tb : Nat → List Value → Option (Value × List Prop)) (ops : Array Oper) (base : Nat) (ts : List Tch)

def stepAt (i : Nat) (s : St) : Option (Oper × Res) :=
  match ops[i]? with
  | some o => match core P tb ops base i o (ts.getD i ([], [])) s with
    | some r => some (o, r)
    | none => none
  | none => none

def AllO (F : St → Prop) : Nat → Array Bool → St → Prop
  | 0, L, s => Region.ready .any ops L = [] ∧ F s
  | f + 1, L, s => (Region.ready .any ops L = [] → F s) ∧
    ∀ i ∈ Region.ready .any ops L, ∃ o r, stepAt P tb ops base ts i s = some (o, r) ∧ allP r.sides ∧ AllO F f (L.setIfInBounds i true) (s.put o.dst r)
end

section
variable {P : Program} {tb : Nat → List Value → Option (Value × List Prop)} {ops : Array Oper} {base : Nat} {ts : List Tch} {F : St → Prop}

theorem stepAt_spec {i : Nat} {s : St} {o : Oper} {r : Res} (h : stepAt P tb ops base ts i s = some (o, r)) : ops[i]? = some o ∧ core P tb ops base i o (ts.getD i ([], [])) s = some r := by
  unfold stepAt at h
  split at h
  · rename_i o' ho
    split at h
    · rename_i r' hr
      simp only [Option.some.injEq, Prod.mk.injEq] at h
      obtain ⟨rfl, rfl⟩ := h
      exact ⟨ho, hr⟩
    · cases h
  · cases h

theorem core_upd {i : Nat} {o : Oper} {t : Tch} {s : St} {r : Res} (h : core P tb ops base i o t s = some r) : (∃ cs, chainOf ops (ops.size + 1) o = some cs) ∧ ∀ n c, r.upd = some (n, c) → n ∈ t.2 := by
  unfold core at h
  split at h
  · cases h
  · rename_i cs hcs
    refine ⟨⟨cs, hcs⟩, ?_⟩
    split at h
    · split at h
      · cases h
      · rename_i r0 _
        split at h
        · rename_i hc
          simp only [Bool.and_eq_true] at hc
          split at h
          · simp only [Option.some.injEq] at h; subst h
            intro n c hn
            have := hc.1
            rw [hn] at this
            simpa [updIn] using this
          · split at h
            · split at h
              · simp only [Option.some.injEq] at h; subst h
                intro n c hn; cases hn
              · cases h
            · cases h
        · cases h
    · cases h

/-- two operations that are apart -/
def Apart (i j : Nat) : Prop := ∀ oi oj, ops[i]? = some oi → ops[j]? = some oj → ind (fpOf ops oi (ts.getD i ([], []))) (fpOf ops oj (ts.getD j ([], []))) = true

theorem ind_spec {oi oj : Oper} {ti tj : Tch} (h : ind (fpOf ops oi ti) (fpOf ops oj tj) = true) :
    (∀ d, oi.dst = some d → d ∉ readsOf oj ∧ ∀ cs, chainOf ops (ops.size + 1) oj = some cs → ∀ c ∈ cs, c.1 ≠ d) ∧
    (∀ d, oj.dst = some d → d ∉ readsOf oi ∧ ∀ cs, chainOf ops (ops.size + 1) oi = some cs → ∀ c ∈ cs, c.1 ≠ d) ∧
    (∀ d, oi.dst = some d → oj.dst ≠ some d) ∧ (∀ n ∈ ti.2, n ∉ tj.1 ∧ n ∉ tj.2) ∧ (∀ n ∈ tj.2, n ∉ ti.1 ∧ n ∉ ti.2) := by
  simp only [ind, fpOf, Bool.and_eq_true, beq_iff_eq] at h
  obtain ⟨⟨⟨⟨h1, h2⟩, h3⟩, h4⟩, h5⟩ := h
  have key : ∀ {o o' : Oper}, maskOf o.dst.toList &&& maskOf (readsOf o' ++ match chainOf ops (ops.size + 1) o' with | some cs => cs.map (·.1) | none => []) = 0 →
      ∀ d, o.dst = some d → d ∉ readsOf o' ∧ ∀ cs, chainOf ops (ops.size + 1) o' = some cs → ∀ c ∈ cs, c.1 ≠ d := by
    intro o o' hm d hd
    have hdm : d ∈ o.dst.toList := by simp [hd]
    refine ⟨fun hr => mask_apart hm hdm (by simp [hr]), fun cs hcs c hc he => mask_apart hm hdm ?_⟩
    rw [hcs]
    exact List.mem_append.2 (.inr (List.mem_map.2 ⟨c, hc, he⟩))
  have h4' : ∀ n ∈ ti.2, n ∉ tj.1 ∧ n ∉ tj.2 := by
    intro n hn
    have e : ∀ m, (maskOf ti.2 &&& (maskOf tj.1 ||| maskOf tj.2)).testBit m = false := fun m => by rw [h4]; simp
    have := e n
    rw [Nat.testBit_and, Nat.testBit_or, maskOf_mem hn, Bool.true_and, Bool.or_eq_false_iff] at this
    exact ⟨fun z => (by rw [maskOf_mem z] at this; exact Bool.noConfusion this.1), fun z => (by rw [maskOf_mem z] at this; exact Bool.noConfusion this.2)⟩
  refine ⟨key h1, key h2, fun d hd he => mask_apart h3 (n := d) (by simp [hd]) (by simp [he]), h4', fun n hn => ⟨fun z => mask_apart h5 hn z, fun z => (h4' n z).2 hn⟩⟩

theorem put_comm {s : St} {ri rj : Res} {di dj : Option Nat} (hd : ∀ d, di = some d → dj ≠ some d) (hu : ∀ n c m e, ri.upd = some (n, c) → rj.upd = some (m, e) → n ≠ m) :
    (s.put di ri).put dj rj = (s.put dj rj).put di ri := by
  unfold St.put
  congr 1
  · cases di with
    | none => cases dj <;> rfl
    | some d => cases dj with
      | none => rfl
      | some e =>
        have : d ≠ e := fun z => hd d rfl (by rw [z])
        exact List.set_comm _ _ this
  · cases hi : ri.upd with
    | none => cases hj : rj.upd <;> rfl
    | some x => cases hj : rj.upd with
      | none => rfl
      | some y =>
        obtain ⟨n, c⟩ := x
        obtain ⟨m, e⟩ := y
        exact List.set_comm _ _ (hu n c m e hi hj)

/-- Two operations that are apart may change places. -/
theorem swap {i j : Nat} {s : St} {oi oj : Oper} {ri rj : Res} (hap : Apart (ops := ops) (ts := ts) i j) (hi : stepAt P tb ops base ts i s = some (oi, ri)) (hj : stepAt P tb ops base ts j (s.put oi.dst ri) = some (oj, rj)) :
    stepAt P tb ops base ts j s = some (oj, rj) ∧ stepAt P tb ops base ts i (s.put oj.dst rj) = some (oi, ri) ∧ (s.put oi.dst ri).put oj.dst rj = (s.put oj.dst rj).put oi.dst ri := by
  obtain ⟨hoi, hci⟩ := stepAt_spec hi
  obtain ⟨hoj, hcj⟩ := stepAt_spec hj
  obtain ⟨h1, h2, h3, h4, h5⟩ := ind_spec (hap oi oj hoi hoj)
  obtain ⟨⟨csi, hcsi⟩, hui⟩ := core_upd hci
  obtain ⟨⟨csj, hcsj⟩, huj⟩ := core_upd hcj
  have ej := core_frame (P := P) (tb := tb) (base := base) (j := j) (t := ts.getD j ([], [])) (st := s) (dst := oi.dst) (r := ri) hcsj (fun d hd => ⟨(h1 d hd).1, (h1 d hd).2 csj hcsj⟩) (fun n c hn => h4 n (hui n c hn))
  rw [ej] at hcj
  have ei := core_frame (P := P) (tb := tb) (base := base) (j := i) (t := ts.getD i ([], [])) (st := s) (dst := oj.dst) (r := rj) hcsi (fun d hd => ⟨(h2 d hd).1, (h2 d hd).2 csi hcsi⟩) (fun n c hn => h5 n (huj n c hn))
  refine ⟨by unfold stepAt; rw [hoj]; dsimp only; rw [hcj], by unfold stepAt; rw [hoi]; dsimp only; rw [ei, hci], put_comm h3 fun n c m e hn hm he => ?_⟩
  subst he
  exact (h4 n (hui n c hn)).2 (huj n e hm)

/-- what is listed, all that it waits for is listed -/
def Closed (ops : Array Oper) (L : Array Bool) : Prop := ∀ j oj, ops[j]? = some oj → L.getD j false = true → ∀ n, Waits oj n → L.getD n false = true

theorem Closed.through {L : Array Bool} (h : Closed ops L) {i : Nat} : ∀ (j : Nat) (oj : Oper), ops[j]? = some oj → L.getD j false = true → ((twOf ops).getD j 0).testBit i = true → L.getD i false = true := by
  intro j
  induction j using Nat.strongRecOn with
  | _ j ih =>
    intro oj hj hl hb
    obtain ⟨n, hn, hx⟩ := twOf_spec hj hb
    have hnl := h j oj hj hl n (waits_iff.1 hn)
    rcases hx with rfl | ⟨hlt, hx⟩
    · exact hnl
    · cases hon : ops[n]? with
      | some on => exact ih n hlt on hon hnl hx
      | none =>
        have hsz : (twOf ops).length = ops.size := by
          obtain ⟨r, h1, h2, _⟩ := twGo_spec ops.toList []
          unfold twOf; rw [h1]; simpa using h2
        have : ops.size ≤ n := Array.getElem?_eq_none_iff.1 hon
        rw [List.getD_eq_getElem?_getD, List.getElem?_eq_none (by omega)] at hx
        simp at hx

theorem Closed.set {L : Array Bool} (h : Closed ops L) {i : Nat} (hi : i ∈ Region.ready .any ops L) : Closed ops (L.setIfInBounds i true) := by
  obtain ⟨_, oi, hoi, hw⟩ := mem_ready.1 hi
  intro j oj hj hl n hn
  refine getD_set_true ?_
  by_cases e : i = j
  · subst e
    have : oj = oi := Option.some.inj (hj.symm.trans hoi)
    subst this
    obtain ⟨e, he, hb, rfl⟩ := hn
    exact hw e he hb
  · rw [getD_set_ne false e] at hl
    exact h j oj hj hl n hn

/-- What may come up now may be taken first. -/
theorem AllO_first {i : Nat} {oi : Oper} : ∀ (f : Nat) (L : Array Bool) (s : St) (ri : Res),
    (∀ j oj, ops[j]? = some oj → j ≠ i → L.getD j true = false → ((twOf ops).getD j 0).testBit i = false → Apart (ops := ops) (ts := ts) i j) → Closed ops L →
    i ∈ Region.ready .any ops L → stepAt P tb ops base ts i s = some (oi, ri) → allP ri.sides →
    AllO P tb ops base ts F f (L.setIfInBounds i true) (s.put oi.dst ri) → AllO P tb ops base ts F (f + 1) L s := by
  intro f
  induction f with
  | zero =>
    intro L s ri _ _ hr hi hs H
    refine ⟨fun h => (by rw [h] at hr; cases hr), fun j hj => ?_⟩
    by_cases hji : j = i
    · subst hji; exact ⟨oi, ri, hi, hs, H⟩
    · have := ready_mono hj hji
      rw [H.1] at this
      cases this
  | succ f ih =>
    intro L s ri hfree hcl hr hi hs H
    refine ⟨fun h => (by rw [h] at hr; cases hr), fun j hj => ?_⟩
    by_cases hji : j = i
    · subst hji; exact ⟨oi, ri, hi, hs, H⟩
    · obtain ⟨oj, rj, hsj, hsides, hall⟩ := H.2 j (ready_mono hj hji)
      obtain ⟨hjun, oj', hoj, hwait⟩ := mem_ready.1 hj
      have hnot : ((twOf ops).getD j 0).testBit i = false := by
        cases hb : ((twOf ops).getD j 0).testBit i with
        | false => rfl
        | true =>
          have h0 := (mem_ready.1 hr).1
          have hil : L.getD i false = true := by
            obtain ⟨n, hn, hx⟩ := twOf_spec hoj hb
            obtain ⟨e, he, hbd, rfl⟩ := waits_iff.1 hn
            have hnl := hwait e he hbd
            rcases hx with rfl | ⟨hlt, hx⟩
            · exact hnl
            · have hjlt : j < ops.size := (Array.getElem?_eq_some_iff.1 hoj).1
              exact hcl.through e.on (ops[e.on]'(by omega)) (Array.getElem?_eq_getElem (by omega)) hnl hx
          rcases Nat.lt_or_ge i L.size with h' | h'
          · simp [h'] at h0 hil; rw [h0] at hil; cases hil
          · simp [Array.getElem?_eq_none h'] at hil
      obtain ⟨e1, e2, e3⟩ := swap (hfree j oj' hoj hji hjun hnot) hi hsj
      refine ⟨oj, rj, e1, hsides, ih _ _ ri (fun k ok hk hki hun hno => hfree k ok hk hki ?_ hno) (hcl.set hj) (ready_mono hr (Ne.symm hji)) e2 hs ?_⟩
      · by_cases hjk : j = k
        · subst hjk; exact hjun
        · rw [getD_set_ne true hjk] at hun; exact hun
      · rw [Array.setIfInBounds_comm _ _ hji, ← e3]
        exact hall
end
end Go.Proofs.Ytgdjfclpncpnpaa.Sym
