/-
  OWN WORK. A symbolic executor for Go text over open terms, part I: a region, run once in the order of the text, is sound in every order.
-/
import Derived.Test.YtgdjfclpncpnpaaSymH
namespace Go.Proofs.Ytgdjfclpncpnpaa.Sym
open Go Go.RowKit

def lexRun (P : Program) (tb : Nat → List Value → Option (Value × List Prop)) (ops : Array Oper) (base : Nat) : Nat → List Oper → St → Option (St × List Prop × List Tch)
  | _, [], s => some (s, [], [])
  | j, o :: l, s =>
    match chainOf ops (ops.size + 1) o with
    | none => none
    | some cs =>
      match core P tb ops base j o (touchOf (evS s.slots cs) (base + j) o) s with
      | none => none
      | some r =>
        match lexRun P tb ops base (j + 1) l (s.put o.dst r) with
        | some (s', ps, ts) => some (s', r.sides ++ ps, touchOf (evS s.slots cs) (base + j) o :: ts)
        | none => none

def dstOk : Nat → List Oper → Bool
  | _, [] => true
  | m, o :: l => match o.dst with
    | none => dstOk m l
    | some d => !m.testBit d && dstOk (m ||| 2 ^ d) l
def grdOk : Nat → List Oper → Bool
  | _, [] => true
  | j, o :: l => (match o.guard with
    | none => true
    | some (g, _) => decide (g < j) && o.after.any fun e => Region.binds .any e && e.on == g) && grdOk (j + 1) l
def regB (ops : Array Oper) : Bool := dstOk 0 ops.toList && grdOk 0 ops.toList

theorem dstOk_fresh : ∀ {l : List Oper} {m : Nat}, dstOk m l = true → ∀ (j : Nat) (o : Oper) (d : Nat), l[j]? = some o → o.dst = some d → m.testBit d = false
  | [], _, _, j, o, d, hj, _ => by simp at hj
  | o' :: l, m, h, j, o, d, hj, hd => by
    simp only [dstOk] at h
    cases j with
    | zero =>
      simp only [List.getElem?_cons_zero, Option.some.injEq] at hj; subst hj
      rw [hd] at h
      simp only [Bool.and_eq_true, Bool.not_eq_true'] at h
      exact h.1
    | succ j =>
      split at h
      · exact dstOk_fresh h j o d (by simpa using hj) hd
      · simp only [Bool.and_eq_true] at h
        have := dstOk_fresh h.2 j o d (by simpa using hj) hd
        rw [Nat.testBit_or, Bool.or_eq_false_iff] at this
        exact this.1

theorem dstOk_spec : ∀ {l : List Oper} {m : Nat}, dstOk m l = true → ∀ (i j : Nat) (oi oj : Oper) (d : Nat), i < j → l[i]? = some oi → l[j]? = some oj → oi.dst = some d → oj.dst = some d → False
  | [], _, _, i, j, oi, oj, d, _, hi, _, _, _ => by simp at hi
  | o' :: l, m, h, i, j, oi, oj, d, hij, hi, hj, hdi, hdj => by
    simp only [dstOk] at h
    cases j with
    | zero => omega
    | succ j =>
      cases i with
      | zero =>
        simp only [List.getElem?_cons_zero, Option.some.injEq] at hi; subst hi
        rw [hdi] at h
        simp only [Bool.and_eq_true] at h
        have := dstOk_fresh h.2 j oj d (by simpa using hj) hdj
        rw [Nat.testBit_or, Nat.testBit_two_pow_self] at this
        simp at this
      | succ i =>
        split at h
        · exact dstOk_spec h i j oi oj d (by omega) (by simpa using hi) (by simpa using hj) hdi hdj
        · simp only [Bool.and_eq_true] at h
          exact dstOk_spec h.2 i j oi oj d (by omega) (by simpa using hi) (by simpa using hj) hdi hdj

theorem grdOk_spec : ∀ {l : List Oper} {k : Nat}, grdOk k l = true → ∀ (j : Nat) (o : Oper) (g : Nat) (w : Bool), l[j]? = some o → o.guard = some (g, w) → g < k + j ∧ ∃ e ∈ o.after, Region.binds .any e = true ∧ e.on = g
  | [], _, _, j, o, g, w, hj, _ => by simp at hj
  | o' :: l, k, h, j, o, g, w, hj, hg => by
    simp only [grdOk, Bool.and_eq_true] at h
    cases j with
    | zero =>
      simp only [List.getElem?_cons_zero, Option.some.injEq] at hj; subst hj
      rw [hg] at h
      simp only [Bool.and_eq_true, decide_eq_true_eq] at h
      obtain ⟨e, he, hb⟩ := Array.any_eq_true'.1 h.1.2
      simp only [Bool.and_eq_true, beq_iff_eq] at hb
      exact ⟨by omega, e, he, hb.1, hb.2⟩
    | succ j =>
      have := grdOk_spec h.2 j o g w (by simpa using hj) hg
      exact ⟨by omega, this.2⟩

theorem regB_spec {ops : Array Oper} (h : regB ops = true) : RegOk ops := by
  simp only [regB, Bool.and_eq_true] at h
  refine ⟨fun i j oi oj d hi hj hdi hdj => ?_, fun j o g w hj hg => ?_⟩
  · have hi' : ops.toList[i]? = some oi := by simpa using hi
    have hj' : ops.toList[j]? = some oj := by simpa using hj
    rcases Nat.lt_trichotomy i j with hlt | he | hlt
    · exact (dstOk_spec h.1 i j oi oj d hlt hi' hj' hdi hdj).elim
    · exact he
    · exact (dstOk_spec h.1 j i oj oi d hlt hj' hi' hdj hdi).elim
  · have := grdOk_spec h.2 j o g w (by simpa using hj) hg
    exact ⟨by omega, this.2⟩

section
variable {P : Program} {tb : Nat → List Value → Option (Value × List Prop)} {ops : Array Oper} {base : Nat} {ts : List Tch} {F : St → Prop} {w0 : World} {Q : Exit → Act → World → Prop}

theorem Inv.iff {L L' : Nat → Prop} {s : St} (h : Inv ops base L s) (e : ∀ i, L i ↔ L' i) : Inv ops base L' s :=
  ⟨fun i c hc => by obtain ⟨j, oj, h1, h2, h3⟩ := h.conds i c hc; exact ⟨j, oj, h1, (e j).1 h2, h3⟩, fun j o hj hL hm => h.fresh j o hj (fun z => hL ((e j).1 z)) hm⟩

theorem getD_false_of {L : Array Bool} {i : Nat} (h : L.getD i true = false) : L.getD i false = false := by
  rcases Nat.lt_or_ge i L.size with h' | h'
  · simp [h'] at h ⊢; exact h
  · simp [Array.getElem?_eq_none h'] at h

theorem getD_set_iff {L : Array Bool} {i j : Nat} (h : L.getD j true = false) : (L.setIfInBounds j true).getD i false = true ↔ (L.getD i false = true ∨ i = j) := by
  have hlt : j < L.size := by
    rcases Nat.lt_or_ge j L.size with h' | h'
    · exact h'
    · simp [Array.getElem?_eq_none h'] at h
  by_cases e : j = i
  · subst e; simp [hlt]
  · rw [getD_set_ne false e]
    exact ⟨.inl, fun z => z.resolve_right (fun z => e z.symm)⟩

theorem wpAny_of_AllO (rk : RegOk ops) (ht : TbOk P tb) (hQ : ∀ β s a w, F s → M w0 β s a w → Q .normal a w) : ∀ (f : Nat) (L : Array Bool) (s : St) (a : Act) (w : World) (β : Nat → Nat),
    AllO P tb ops base ts F f L s → M w0 β s a w → Inv ops base (fun i => L.getD i false = true) s → wpAny P .any ops Q f L a w
  | 0, L, s, a, w, β, h, m, _ => ⟨h.1, hQ β s a w h.2 m⟩
  | f + 1, L, s, a, w, β, h, m, inv => by
    refine ⟨fun hr => hQ β s a w (h.1 hr) m, fun i hi => ?_⟩
    obtain ⟨o, r, hs, hsd, hall⟩ := h.2 i hi
    obtain ⟨ho, hc⟩ := stepAt_spec hs
    obtain ⟨h0, o', ho', hw⟩ := mem_ready.1 hi
    have e : o' = o := Option.some.inj (ho'.symm.trans ho)
    subst e
    refine step_sound rk ht m inv ho (by simp [getD_false_of h0]) (fun g q hg => ?_) hc hsd fun β' a' w' m' inv' => ?_
    · obtain ⟨_, e, he, hb, hon⟩ := rk.guards i o' g q ho hg
      rw [← hon]; exact hw e he hb
    · exact wpAny_of_AllO rk ht hQ f _ _ _ _ β' hall m' (inv'.iff fun k => (getD_set_iff h0).symm)

def fpsOf (ops : Array Oper) (ts : List Tch) : List FP := List.zipWith (fun f w => { f with w := w }) (List.zipWith (fpOf ops) ops.toList ts) (twOf ops)

theorem lexRun_ts : ∀ (l : List Oper) (k : Nat) (s s' : St) (ps : List Prop) (ts : List Tch), lexRun P tb ops base k l s = some (s', ps, ts) → ts.length = l.length
  | [], k, s, s', ps, ts, h => by simp only [lexRun, Option.some.injEq, Prod.mk.injEq] at h; rw [← h.2.2]; rfl
  | o :: l, k, s, s', ps, ts, h => by
    simp only [lexRun] at h
    split at h
    · cases h
    · split at h
      · cases h
      · split at h
        · rename_i s2 ps2 ts2 h2
          simp only [Option.some.injEq, Prod.mk.injEq] at h
          rw [← h.2.2, List.length_cons, List.length_cons, lexRun_ts l _ _ _ _ _ h2]
        · cases h

theorem AllO_lex (hB : orderB 0 (fpsOf ops ts) = true) (hts : ts.length = ops.size) (hF : ∀ s', F s' ↔ F s') : ∀ (l : List Oper) (k : Nat) (L : Array Bool) (s s' : St) (ps : List Prop) (ts' : List Tch),
    (∀ j, l[j]? = ops[k + j]?) → k + l.length = ops.size → (∀ i, L.getD i true = false ↔ (k ≤ i ∧ i < ops.size)) → (∀ i, L.getD i false = true ↔ i < k) → Closed ops L →
    lexRun P tb ops base k l s = some (s', ps, ts') → (∀ j, ts'[j]? = ts[k + j]?) → allP ps → F s' → AllO P tb ops base ts F l.length L s
  | [], k, L, s, s', ps, ts', hl, hk, hL, hL', hcl, hrun, htk, hps, hf => by
    simp only [lexRun, Option.some.injEq, Prod.mk.injEq] at hrun
    obtain ⟨rfl, _, _⟩ := hrun
    refine ⟨?_, hf⟩
    cases hr : Region.ready .any ops L with
    | nil => rfl
    | cons x xs =>
      have hx : x ∈ Region.ready .any ops L := by rw [hr]; simp
      have := (hL x).1 (mem_ready.1 hx).1
      simp only [List.length_nil] at hk
      omega
  | o :: l, k, L, s, s', ps, ts', hl, hk, hL, hL', hcl, hrun, htk, hps, hf => by
    have h0 : ops[k]? = some o := by simpa using (hl 0).symm
    have hklt : k < ops.size := (Array.getElem?_eq_some_iff.1 h0).1
    simp only [lexRun] at hrun
    split at hrun
    · cases hrun
    · rename_i cs hcs
      split at hrun
      · cases hrun
      · rename_i r hr
        split at hrun
        · rename_i s2 ps2 ts2 h2
          simp only [Option.some.injEq, Prod.mk.injEq] at hrun
          obtain ⟨rfl, rfl, rfl⟩ := hrun
          rw [allP_append] at hps
          have htk0 : ts.getD k ([], []) = touchOf (evS s.slots cs) (base + k) o := by
            have := htk 0
            simp only [List.getElem?_cons_zero, Nat.add_zero] at this
            rw [List.getD_eq_getElem?_getD, ← this]; rfl
          have hstep : stepAt P tb ops base ts k s = some (o, r) := by
            unfold stepAt; rw [h0]; dsimp only; rw [htk0, hr]
          have fpAt : ∀ j oj, ops[j]? = some oj → (fpsOf ops ts)[j]? = some { fpOf ops oj (ts.getD j ([], [])) with w := (twOf ops).getD j 0 } := fun j oj hj => by
            have hlt : j < ops.size := (Array.getElem?_eq_some_iff.1 hj).1
            unfold fpsOf
            rw [List.getElem?_zipWith, List.getElem?_zipWith]
            have h1 : ops.toList[j]? = some oj := by simpa using hj
            have h3 : ts[j]? = some (ts.getD j ([], [])) := by
              rw [List.getD_eq_getElem?_getD, List.getElem?_eq_getElem (by omega)]; rfl
            have h4 : (twOf ops)[j]? = some ((twOf ops).getD j 0) := by
              obtain ⟨r, g1, g2, _⟩ := twGo_spec ops.toList []
              have e : twOf ops = r := by unfold twOf; rw [g1]; rfl
              rw [List.getD_eq_getElem?_getD, List.getElem?_eq_getElem (by rw [e, g2]; simpa using hlt)]; rfl
            rw [h1, h3, h4]
          obtain ⟨hw, hlater⟩ := orderB_spec hB k _ (fpAt k o h0)
          rw [Nat.zero_add] at hw
          dsimp only at hw
          have hready : k ∈ Region.ready .any ops L := by
            rw [mem_ready]
            refine ⟨(hL k).2 ⟨Nat.le_refl _, hklt⟩, o, h0, fun e he hb => (hL' e.on).2 ?_⟩
            have hm : e.on ∈ waitsOf o := waits_iff.2 ⟨e, he, hb, rfl⟩
            have hbit : ((twOf ops).getD k 0).testBit e.on = true := by
              obtain ⟨r, g1, g2, g3⟩ := twGo_spec ops.toList []
              have e' : twOf ops = r := by unfold twOf; rw [g1]; rfl
              rw [e', List.getD_eq_getElem?_getD, g3 k o (by simpa using h0), Option.getD_some]
              generalize [] ++ r.take k = acc
              revert hm
              generalize waitsOf o = ws
              intro hm
              induction ws with
              | nil => cases hm
              | cons x xs ih =>
                simp only [twMask, Nat.testBit_or, Bool.or_eq_true]
                rcases List.mem_cons.1 hm with rfl | hm
                · exact .inl (.inl (Nat.testBit_two_pow_self))
                · exact .inr (ih hm)
            rcases Nat.lt_or_ge e.on k with h | h
            · exact h
            · have : ((twOf ops).getD k 0).testBit e.on = false := Nat.testBit_lt_two_pow (Nat.lt_of_lt_of_le hw (Nat.pow_le_pow_right (by decide) h))
              rw [this] at hbit; cases hbit
          refine AllO_first (oi := o) l.length L s r (fun j oj hj hjk hun hno => ?_) hcl hready hstep hps.1 ?_
          · intro oi oj' hoi hoj'
            have e1 : oi = o := Option.some.inj (hoi.symm.trans h0)
            have e2 : oj' = oj := Option.some.inj (hoj'.symm.trans hj)
            subst e1; subst e2
            have hkj : k < j := by have := ((hL j).1 hun).1; omega
            rcases hlater j _ hkj (fpAt j oj' hj) with h | h
            · rw [Nat.zero_add] at h
              dsimp only at h
              rw [hno] at h; cases h
            · exact h
          · refine AllO_lex hB hts hF l (k + 1) _ _ _ ps2 ts2 (fun j => by have := hl (j + 1); simpa [Nat.add_assoc, Nat.add_comm 1 j] using this) (by simp only [List.length_cons] at hk; omega)
              (fun i => ?_) (fun i => ?_) (hcl.set hready) h2 (fun j => by have := htk (j + 1); simpa [Nat.add_assoc, Nat.add_comm 1 j] using this) hps.2 hf
            · have hkL : L.getD k true = false := (hL k).2 ⟨Nat.le_refl _, hklt⟩
              have hksz : k < L.size := by
                rcases Nat.lt_or_ge k L.size with h' | h'
                · exact h'
                · simp [Array.getElem?_eq_none h'] at hkL
              by_cases e : k = i
              · subst e
                constructor
                · intro h; simp [hksz] at h
                · intro h; omega
              · rw [getD_set_ne true e, hL i]; omega
            · rw [getD_set_iff ((hL k).2 ⟨Nat.le_refl _, hklt⟩), hL' i]; omega
        · cases hrun

theorem wpOps_lex (rk : RegOk ops) (ht : TbOk P tb) : ∀ (l : List Oper) (k : Nat) (s s' : St) (ps : List Prop) (ts' : List Tch) (a : Act) (w : World) (β : Nat → Nat),
    (∀ j, l[j]? = ops[k + j]?) → lexRun P tb ops base k l s = some (s', ps, ts') → allP ps → M w0 β s a w → Inv ops base (fun i => i < k) s → (∀ β a w, M w0 β s' a w → Q .normal a w) →
    wpOps P ops Q (List.range' k l.length) a w
  | [], k, s, s', ps, ts', a, w, β, hl, hrun, hps, m, inv, hQ => by
    simp only [lexRun, Option.some.injEq, Prod.mk.injEq] at hrun
    obtain ⟨rfl, _, _⟩ := hrun
    exact hQ β a w m
  | o :: l, k, s, s', ps, ts', a, w, β, hl, hrun, hps, m, inv, hQ => by
    have h0 : ops[k]? = some o := by simpa using (hl 0).symm
    simp only [lexRun] at hrun
    split at hrun
    · cases hrun
    · rename_i cs hcs
      split at hrun
      · cases hrun
      · rename_i r hr
        split at hrun
        · rename_i s2 ps2 ts2 h2
          simp only [Option.some.injEq, Prod.mk.injEq] at hrun
          obtain ⟨rfl, rfl, rfl⟩ := hrun
          rw [allP_append] at hps
          rw [List.length_cons, List.range'_succ, wpOps_cons]
          refine step_sound rk ht m inv h0 (by omega) (fun g q hg => (rk.guards k o g q h0 hg).1) hr hps.1 fun β' a' w' m' inv' => ?_
          exact wpOps_lex rk ht l (k + 1) _ _ ps2 ts2 a' w' β' (fun j => by have := hl (j + 1); simpa [Nat.add_assoc, Nat.add_comm 1 j] using this) h2 hps.2 m' (inv'.iff fun i => by omega) hQ
        · cases hrun
end

/-! ### a region -/
theorem repl_false (n i : Nat) : (Array.replicate n false).getD i false = false := by
  by_cases h : i < n
  · simp [h]
  · simp [h]

def clean (s : St) : St := { s with slots := s.slots.map fun x => if isG x then .junk else x }

def padOf (ops : Array Oper) : Nat := if ops.any makes then ops.size else 0

def regRun (P : Program) (tb : Nat → List Value → Option (Value × List Prop)) (ops : Array Oper) (draw : Bool) (st : St) : Option (St × List Prop) :=
  if regB ops then
    match lexRun P tb ops st.heap.length 0 ops.toList { st with heap := st.heap ++ List.replicate (padOf ops) none } with
    | some (s, ps, ts) => if !draw || orderB 0 (fpsOf ops ts) then some (clean s, ps) else none
    | none => none
  else none

def NoG (st : St) : Prop := ∀ s ∈ st.slots, isG s = false

section
variable {P : Program} {tb : Nat → List Value → Option (Value × List Prop)} {ops : Array Oper} {w0 w : World} {β : Nat → Nat} {st s' : St} {a : Act} {ps : List Prop} {Q : Exit → Act → World → Prop}

theorem NoG.at_ (h : NoG st) (i : Nat) : isG (st.slots.getD i .junk) = false := by
  rw [List.getD_eq_getElem?_getD]
  cases hi : st.slots[i]? with
  | none => rfl
  | some s => exact h s (List.mem_of_getElem? hi)

theorem clean_noG (s : St) : NoG (clean s) := by
  intro x hx
  obtain ⟨y, _, rfl⟩ := List.mem_map.1 hx
  split
  · rfl
  · rename_i h; simpa using h

theorem clean_M (m : M w0 β st a w) : M w0 β (clean st) a w := by
  have hg : ∀ i, (clean st).slots.getD i .junk = if isG (st.slots.getD i .junk) then .junk else st.slots.getD i .junk := fun i => by
    simp only [clean, List.getD_eq_getElem?_getD, List.getElem?_map]
    cases st.slots[i]? <;> rfl
  refine { defers := m.defers, size := by simp [clean, m.size], slot := fun i u hu => ?_, locs := fun i n hn => ?_, mem := m.mem }
  · rw [hg i]
    split
    · trivial
    · rename_i h
      exact Den_congr (fun _ _ => rfl) (fun c hc => by rw [isG_conds (by simpa using h)] at hc; cases hc) (m.slot i u hu)
  · rw [hg i] at hn
    split at hn
    · simp [names] at hn
    · exact m.locs i n hn

theorem pad_M (m : M w0 β st a w) (k : Nat) : M w0 β { st with heap := st.heap ++ List.replicate k none } a w := by
  have hg : ∀ n, (st.heap ++ List.replicate k none).getD n none = st.heap.getD n none := fun n => by
    simp only [List.getD_eq_getElem?_getD, List.getElem?_append]
    split
    · rfl
    · rename_i h
      rw [List.getElem?_replicate, List.getElem?_eq_none (Nat.le_of_not_lt h)]
      split <;> rfl
  exact { defers := m.defers, size := m.size, slot := m.slot, locs := fun i n hn => (by obtain ⟨c, hc⟩ := m.locs i n hn; exact ⟨c, (hg n).trans hc⟩), mem := { at_ := fun n c hc => m.mem.at_ n c ((hg n).symm.trans hc), inj := fun n k c d hn hk => m.mem.inj n k c d ((hg n).symm.trans hn) ((hg k).symm.trans hk), below := m.mem.below } }

theorem pad_Inv (ng : NoG st) : Inv ops st.heap.length (fun i => (Array.replicate ops.size false).getD i false = true) { st with heap := st.heap ++ List.replicate (padOf ops) none } := by
  refine ⟨fun i c hc => ?_, fun j o hj _ hm => ?_⟩
  · rw [isG_conds (ng.at_ i)] at hc; cases hc
  · have hlt : j < ops.size := (Array.getElem?_eq_some_iff.1 hj).1
    have hp : padOf ops = ops.size := by
      unfold padOf
      rw [if_pos]
      rw [Array.any_eq_true']
      exact ⟨o, Array.mem_of_getElem? hj, hm⟩
    rw [hp]
    refine ⟨by simp; omega, ?_⟩
    simp only [List.getD_eq_getElem?_getD, List.getElem?_append, List.getElem?_replicate]
    rw [if_neg (by omega)]
    split <;> rfl

theorem M.drew' (m : M w0 β st a w) : M w0 β st a { w with drawn := w.drawn + 1 } :=
  { defers := m.defers, size := m.size, slot := m.slot, locs := m.locs, mem := { at_ := m.mem.at_, inj := m.mem.inj, below := ⟨m.mem.below.os, m.mem.below.tape, m.mem.below.output, m.mem.below.size, m.mem.below.block⟩ } }

theorem region_sound (ht : TbOk P tb) {id : Nat} {draw : Bool} (hm : P.follows .mixedOrders = true) (m : M w0 β st a w) (ng : NoG st) (h : regRun P tb ops draw st = some (s', ps)) (hs : allP ps)
    (hQ : ∀ β a w, M w0 β s' a w → NoG s' → Q .normal a w) : (Code.region id ops draw).wp P Q a w := by
  unfold regRun at h
  split at h
  · rename_i hreg
    have rk := regB_spec hreg
    split at h
    · rename_i s ps' ts hrun
      split at h
      · rename_i hord
        simp only [Option.some.injEq, Prod.mk.injEq] at h
        obtain ⟨rfl, rfl⟩ := h
        have m0 := pad_M m (padOf ops)
        have inv0 := pad_Inv (ops := ops) ng
        have hfin : ∀ β a w, M w0 β s a w → Q .normal a w := fun β a w mm => hQ β a w (clean_M mm) (clean_noG s)
        cases draw with
        | false =>
          refine wp_region ?_
          rw [List.range_eq_range']
          have := wpOps_lex (Q := Q) rk ht ops.toList 0 _ _ ps' ts a w β (fun j => by simp) hrun hs m0 (inv0.iff fun i => ?_) hfin
          · simpa using this
          · rw [repl_false]; simp
        | true =>
          have hord' : orderB 0 (fpsOf ops ts) = true := by simpa using hord
          refine wp_region_any hm ?_
          have hall := AllO_lex (F := fun x => x = s) hord' (by rw [lexRun_ts _ _ _ _ _ _ hrun]; simp) (fun _ => Iff.rfl) ops.toList 0 (Array.replicate ops.size false) _ s ps' ts (fun j => by simp) (by simp)
            (fun i => ?_) (fun i => by rw [repl_false]; simp) (fun j oj _ hl => by rw [repl_false] at hl; cases hl) hrun (fun j => by simp) hs rfl
          · have := wpAny_of_AllO (Q := Q) rk ht (fun β x a w hx mm => by subst hx; exact hfin β a w mm) _ _ _ a _ β hall m0.drew' inv0
            simpa using this
          · by_cases hi : i < ops.size
            · simp [hi]
            · simp [hi]
      · cases h
    · cases h
  · cases h
end
end Go.Proofs.Ytgdjfclpncpnpaa.Sym
