/-
  OWN WORK. A symbolic executor for Go text over open terms, part F: guards; one step of a region.
-/
import Derived.Test.YtgdjfclpncpnpaaSymE
namespace Go.Proofs.Ytgdjfclpncpnpaa.Sym
open Go Go.RowKit

def chainOf (ops : Array Oper) : Nat → Oper → Option (List (Nat × Bool))
  | 0, _ => none
  | n + 1, o => match o.guard with
    | none => some []
    | some (j, want) => match ops[j]? with
      | some oj => match oj.dst, chainOf ops n oj with
        | some d, some cs => some (cs ++ [(d, want)])
        | _, _ => none
      | none => none

abbrev Tch := List Nat × List Nat
def touchOf (ev : Operand → SV) (fresh : Nat) (o : Oper) : Tch :=
  match o.op with
  | .load _ x => (names (ev x), [])
  | .store _ x _ => ([], names (ev x))
  | .alloc _ => ([], [fresh])
  | .box _ _ => ([], [fresh])
  | .buildSlice _ _ _ => ([], [fresh])
  | _ => ([], [])

def hpOf (h : List (Option Cells)) (t : Tch) (n : Nat) : Option Cells := if t.1.contains n || t.2.contains n then h.getD n none else none

def gslot (l : List SV) (d : Nat) (cs : List (Nat × Bool)) : Bool :=
  match l[d]? with
  | some (.k (.bool _)) => cs.isEmpty
  | some (.v (.bool _)) => cs.isEmpty
  | some (.g cs' (.k (.bool _))) => cs' == cs
  | some (.g cs' (.v (.bool _))) => cs' == cs
  | _ => false

def condP (l : List SV) : List (Nat × Bool) → Prop
  | [] => True
  | c :: cs => boolAt l c.1 = some c.2 ∧ condP l cs

theorem condP_holds {l : List SV} {cs : List (Nat × Bool)} (h : holds l cs) : condP l cs := by
  induction cs with
  | nil => trivial
  | cons c cs ih => exact ⟨h c (by simp), ih fun d hd => h d (by simp [hd])⟩

def isG : SV → Bool
  | .g _ _ => true
  | _ => false

def updIn (t : Tch) : Option (Nat × Cells) → Bool
  | some (n, _) => t.2.contains n
  | none => true

def core (P : Program) (tb : Nat → List Value → Option (Value × List Prop)) (ops : Array Oper) (base j : Nat) (o : Oper) (t : Tch) (st : St) : Option Res :=
  match chainOf ops (ops.size + 1) o with
  | none => none
  | some cs =>
    if touchOf (evS st.slots cs) (base + j) o == t then
      match opRes P tb (evS st.slots) (hpOf st.heap t) (base + j) cs o with
      | none => none
      | some r =>
        if updIn t r.upd && !isG r.val then
          match o.guard with
          | none => some r
          | some (g, want) =>
            match (ops[g]?).bind (·.dst), r.upd with
            | some d, none =>
              if gslot st.slots d cs.dropLast && cs == cs.dropLast ++ [(d, want)] then
                some { val := .g cs r.val, upd := none, sides := match r.sides with | [] => [] | ss => [condP st.slots cs → allP ss] }
              else none
            | _, _ => none
        else none
    else none

def St.put (st : St) (dst : Option Nat) (r : Res) : St :=
  { slots := match dst with | some d => st.slots.set d r.val | none => st.slots, heap := heapSet st.heap r.upd }

theorem boolAt_set {l : List SV} {d t : Nat} {s : SV} (h : t ≠ d) : boolAt (l.set d s) t = boolAt l t := by
  unfold boolAt
  rw [List.getElem?_set_ne (Ne.symm h)]

section
variable {P : Program} {w0 w : World} {β β' : Nat → Nat} {st : St} {a : Act} {o : Oper} {r : Res} {K : Act → World → Prop} {Q : Exit → Act → World → Prop}

theorem M_put {u : Value} {w' : World} {dst : Option Nat} (m : M w0 β st a w) (hp : Post w0 β st.slots st.heap r u β' w')
    (hd : ∀ d, dst = some d → (∀ i, ∀ c ∈ condsOf (st.slots.getD i .junk), c.1 ≠ d) ∧ ∀ c ∈ condsOf r.val, c.1 ≠ d) : M w0 β' (st.put dst r) (a.put dst u) w' := by
  have keepD : ∀ i v, Den β st.slots (st.slots.getD i .junk) v → Den β' st.slots (st.slots.getD i .junk) v := fun i v hv =>
    Den_congr (fun n hn => by obtain ⟨c, hc⟩ := m.locs i n hn; exact hp.keep n c hc) (fun _ _ => rfl) hv
  have keepN : ∀ n c, st.heap.getD n none = some c → ∃ c', (heapSet st.heap r.upd).getD n none = some c' := fun n c hc => by
    cases hu : r.upd with
    | none => exact ⟨c, hc⟩
    | some x =>
      obtain ⟨k, c'⟩ := x
      simp only [heapSet]
      rw [getD_set']
      split
      · exact ⟨c', rfl⟩
      · exact ⟨c, hc⟩
  cases dst with
  | none => exact { defers := m.defers, size := m.size, slot := fun i v hv => keepD i v (m.slot i v hv), locs := fun i n hn => by obtain ⟨c, hc⟩ := m.locs i n hn; exact keepN n c hc, mem := hp.mem }
  | some d =>
    obtain ⟨h1, h2⟩ := hd d rfl
    have hb : ∀ t, t ≠ d → boolAt (st.slots.set d r.val) t = boolAt st.slots t := fun t ht => boolAt_set ht
    refine { defers := m.defers, size := by simp [Act.put, St.put, m.size], slot := fun i v hv => ?_, locs := fun i n hn => ?_, mem := hp.mem }
    · simp only [Act.put, Array.getElem?_setIfInBounds] at hv
      show Den β' (st.slots.set d r.val) ((st.slots.set d r.val).getD i .junk) v
      rw [getD_set']
      by_cases e : d = i
      · subst e
        by_cases hl : d < st.slots.length
        · rw [if_pos ⟨rfl, hl⟩]
          rw [if_pos rfl, if_pos (by rw [m.size]; exact hl)] at hv
          simp only [Option.some.injEq] at hv; subst hv
          exact Den_congr (fun _ _ => rfl) (fun c hc => hb c.1 (h2 c hc)) hp.den
        · rw [if_pos rfl, if_neg (by rw [m.size]; exact hl)] at hv; cases hv
      · rw [if_neg (fun x => e x.1)]
        rw [if_neg e] at hv
        exact Den_congr (fun _ _ => rfl) (fun c hc => hb c.1 (h1 i c hc)) (keepD i v (m.slot i v hv))
    · have hn' : n ∈ names ((st.slots.set d r.val).getD i .junk) := hn
      rw [getD_set'] at hn'
      split at hn'
      · exact hp.nm n hn'
      · obtain ⟨c, hc⟩ := m.locs i n hn'; exact keepN n c hc

structure RegOk (ops : Array Oper) : Prop where
  dsts : ∀ (i j : Nat) (oi oj : Oper) (d : Nat), ops[i]? = some oi → ops[j]? = some oj → oi.dst = some d → oj.dst = some d → i = j
  guards : ∀ (j : Nat) (o : Oper) (g : Nat) (w : Bool), ops[j]? = some o → o.guard = some (g, w) → g < j ∧ ∃ e ∈ o.after, Region.binds .any e = true ∧ e.on = g

structure Inv (ops : Array Oper) (base : Nat) (L : Nat → Prop) (st : St) : Prop where
  conds : ∀ i c, c ∈ condsOf (st.slots.getD i .junk) → ∃ j oj, ops[j]? = some oj ∧ L j ∧ oj.dst = some c.1
  fresh : ∀ j o, ops[j]? = some o → ¬ L j → makes o = true → base + j < st.heap.length ∧ st.heap.getD (base + j) none = none

theorem hpOf_some {h : List (Option Cells)} {t : Tch} {n : Nat} {c : Cells} (hh : hpOf h t n = some c) : h.getD n none = some c := by
  unfold hpOf at hh; split at hh
  · exact hh
  · cases hh

/-- the guard's answer in the frame is what the state says -/
theorem wanted_iff {ops : Array Oper} {g d : Nat} {want : Bool} {og : Oper} {cs : List (Nat × Bool)} (m : M w0 β st a w) (ho : o.guard = some (g, want)) (hg : ops[g]? = some og) (hd : og.dst = some d) (hs : gslot st.slots d cs = true) :
    Region.wanted o (yielded ops a.tmps) = true ↔ holds st.slots (cs ++ [(d, want)]) := by
  unfold gslot at hs
  have lt : ∀ s, st.slots[d]? = some s → ∃ u, a.tmps[d]? = some u ∧ Den β st.slots s u := fun s hsd => by
    have h1 : d < st.slots.length := (List.getElem?_eq_some_iff.1 hsd).1
    have h2 : d < a.tmps.size := by rw [m.size]; exact h1
    refine ⟨a.tmps[d], Array.getElem?_eq_getElem h2, ?_⟩
    have := m.slot d _ (Array.getElem?_eq_getElem h2)
    rwa [List.getD_eq_getElem?_getD, hsd] at this
  have plainCase : ∀ b, cs = [] → st.slots[d]? = some (.k (.bool b)) ∨ st.slots[d]? = some (.v (.bool b)) → (Region.wanted o (yielded ops a.tmps) = true ↔ holds st.slots (cs ++ [(d, want)])) := by
    intro b hc hb
    subst hc
    have hu : a.tmps[d]? = some (.bool b) := by
      rcases hb with hb | hb <;> obtain ⟨u, hu, hd⟩ := lt _ hb <;> rw [hu, (show u = _ from hd)]
    have hba : boolAt st.slots d = some b := by unfold boolAt; rcases hb with hb | hb <;> rw [hb]
    simp only [Region.wanted, ho, yielded, hg, Option.bind_some, hd, hu, holds, List.nil_append, List.mem_singleton, forall_eq, hba, beq_iff_eq]
  have guardCase : ∀ b, st.slots[d]? = some (.g cs (.k (.bool b))) ∨ st.slots[d]? = some (.g cs (.v (.bool b))) → (Region.wanted o (yielded ops a.tmps) = true ↔ holds st.slots (cs ++ [(d, want)])) := by
    intro b hb
    have hba : boolAt st.slots d = some b := by unfold boolAt; rcases hb with hb | hb <;> rw [hb]
    have hu : ∃ u, a.tmps[d]? = some u ∧ (holds st.slots cs → u = .bool b) ∧ (¬ holds st.slots cs → u = undef) := by
      rcases hb with hb | hb <;> obtain ⟨u, hu, hd⟩ := lt _ hb <;> exact ⟨u, hu, hd⟩
    obtain ⟨u, hu, h1, h2⟩ := hu
    have happ : holds st.slots (cs ++ [(d, want)]) ↔ holds st.slots cs ∧ b = want := by
      constructor
      · intro h
        refine ⟨fun c hc => h c (by simp [hc]), ?_⟩
        have := h (d, want) (by simp)
        rw [hba] at this; simpa using this
      · rintro ⟨h, rfl⟩ c hc
        rcases List.mem_append.1 hc with hc | hc
        · exact h c hc
        · simp only [List.mem_singleton] at hc; subst hc; exact hba
    rw [happ]
    by_cases hh : holds st.slots cs
    · have := h1 hh; subst this
      simp only [Region.wanted, ho, yielded, hg, Option.bind_some, hd, hu, hh, true_and, beq_iff_eq, Option.some.injEq]
    · have := h2 hh; subst this
      simp only [Region.wanted, ho, yielded, hg, Option.bind_some, hd, hu, hh, false_and, iff_false, undef]
      simp
  split at hs
  · rename_i b hb; exact plainCase b (by simpa using hs) (.inl hb)
  · rename_i b hb; exact plainCase b (by simpa using hs) (.inr hb)
  · rename_i cs' b hb
    have e : cs' = cs := by simpa using hs
    subst e; exact guardCase b (.inl hb)
  · rename_i cs' b hb
    have e : cs' = cs := by simpa using hs
    subst e; exact guardCase b (.inr hb)
  · cases hs

theorem isG_conds {s : SV} (h : isG s = false) : condsOf s = [] := by cases s <;> first | rfl | (simp [isG] at h)

theorem step_sound {tb : Nat → List Value → Option (Value × List Prop)} {ops : Array Oper} {base j : Nat} {t : Tch} {L : Nat → Prop} (rk : RegOk ops) (ht : TbOk P tb) (m : M w0 β st a w) (inv : Inv ops base L st)
    (hj : ops[j]? = some o) (hL : ¬ L j) (hg : ∀ g q, o.guard = some (g, q) → L g) (h : core P tb ops base j o t st = some r) (hs : allP r.sides)
    (hK : ∀ β' a' w', M w0 β' (st.put o.dst r) a' w' → Inv ops base (fun i => L i ∨ i = j) (st.put o.dst r) → K a' w') : wpOp P ops Q j K a w := by
  unfold core at h
  split at h
  · cases h
  · rename_i cs hcs
    split at h
    · split at h
      · cases h
      · rename_i r0 hr0
        split at h
        · rename_i hchk
          simp only [Bool.and_eq_true, Bool.not_eq_true'] at hchk
          obtain ⟨_, hng⟩ := hchk
          obtain ⟨hnm, hup⟩ := opRes_names m hr0
          have hfr : makes o = true → base + j < st.heap.length ∧ st.heap.getD (base + j) none = none := inv.fresh j o hj hL
          -- what a step keeps of the invariant
          have invOf : ∀ (r1 : Res), (∀ n c, r1.upd = some (n, c) → (n = base + j ∧ makes o = true) ∨ ∃ d, hpOf st.heap t n = some d) → (∀ c ∈ condsOf r1.val, ∃ i oi, ops[i]? = some oi ∧ L i ∧ oi.dst = some c.1) → Inv ops base (fun i => L i ∨ i = j) (st.put o.dst r1) := by
            intro r1 hu1 hc1
            refine ⟨fun i c hc => ?_, fun k ok hk hLk hmk => ?_⟩
            · have : c ∈ condsOf r1.val ∨ c ∈ condsOf (st.slots.getD i .junk) := by
                unfold St.put at hc
                cases hd : o.dst with
                | none => rw [hd] at hc; exact .inr hc
                | some d =>
                  rw [hd] at hc
                  have hc' : c ∈ condsOf ((st.slots.set d r1.val).getD i .junk) := hc
                  rw [getD_set'] at hc'
                  split at hc'
                  · exact .inl hc'
                  · exact .inr hc'
              rcases this with hc | hc
              · obtain ⟨i', oi, h1, h2, h3⟩ := hc1 c hc
                exact ⟨i', oi, h1, .inl h2, h3⟩
              · obtain ⟨i', oi, h1, h2, h3⟩ := inv.conds i c hc
                exact ⟨i', oi, h1, .inl h2, h3⟩
            · have hkj : k ≠ j := fun e => hLk (.inr e)
              obtain ⟨h1, h2⟩ := inv.fresh k ok hk (fun hl => hLk (.inl hl)) hmk
              show base + k < (heapSet st.heap r1.upd).length ∧ (heapSet st.heap r1.upd).getD (base + k) none = none
              cases hu : r1.upd with
              | none => exact ⟨h1, h2⟩
              | some x =>
                obtain ⟨n, c⟩ := x
                simp only [heapSet]
                refine ⟨by simpa using h1, ?_⟩
                rw [getD_set', if_neg ?_]
                · exact h2
                · rintro ⟨e, _⟩
                  rcases hu1 n c hu with ⟨e', _⟩ | ⟨d, hd⟩
                  · omega
                  · have hz := hpOf_some hd
                    rw [e, h2] at hz; cases hz
          have condD : ∀ d, o.dst = some d → ∀ i, ∀ c ∈ condsOf (st.slots.getD i .junk), c.1 ≠ d := fun d hd i c hc he => by
            obtain ⟨i', oi, h1, h2, h3⟩ := inv.conds i c hc
            have := rk.dsts i' j oi o d h1 hj (by rw [h3, he]) hd
            exact hL (this ▸ h2)
          unfold wpOp
          rw [hj]
          dsimp only
          split at h
          · rename_i hgd
            simp only [Option.some.injEq] at h; subst h
            have hw : Region.wanted o (yielded ops a.tmps) = true := by simp [Region.wanted, hgd]
            have hc0 : cs = [] := by
              simp only [chainOf, hgd, Option.some.injEq] at hcs; exact hcs.symm
            subst hc0
            rw [if_pos hw]
            refine .inl (opRes_sound ht m (fun c hc => by cases hc) hfr (fun n c hc => hpOf_some hc) hr0 hs fun β' u w' hp => ?_)
            refine hK β' _ w' (M_put m hp fun d hd => ⟨condD d hd, fun c hc => by rw [isG_conds hng] at hc; cases hc⟩) (invOf r0 hup fun c hc => by rw [isG_conds hng] at hc; cases hc)
          · rename_i g want hgd
            split at h
            · rename_i d hd hun
              split at h
              · rename_i hgs
                simp only [Bool.and_eq_true, beq_iff_eq] at hgs
                obtain ⟨hgs1, hgs2⟩ := hgs
                simp only [Option.some.injEq] at h; subst h
                obtain ⟨og, hog, hogd⟩ : ∃ og, ops[g]? = some og ∧ og.dst = some d := by
                  cases hx : ops[g]? with
                  | none => rw [hx] at hd; cases hd
                  | some og => rw [hx] at hd; exact ⟨og, rfl, hd⟩
                have hwi := wanted_iff m hgd hog hogd hgs1
                rw [← hgs2] at hwi
                have hLg : L g := hg g want hgd
                -- the guards' tmps are those of operations that have come up
                have hconds : ∀ c ∈ condsOf (SV.g cs r0.val), ∃ i oi, ops[i]? = some oi ∧ L i ∧ oi.dst = some c.1 := by
                  intro c hc
                  simp only [condsOf, isG_conds hng, List.append_nil] at hc
                  rw [hgs2] at hc
                  rcases List.mem_append.1 hc with hc | hc
                  · have hgc : c ∈ condsOf (st.slots.getD d .junk) := by
                      unfold gslot at hgs1
                      rw [List.getD_eq_getElem?_getD]
                      split at hgs1
                      · have : cs.dropLast = [] := by simpa using hgs1
                        rw [this] at hc; cases hc
                      · have : cs.dropLast = [] := by simpa using hgs1
                        rw [this] at hc; cases hc
                      · rename_i cs' b hb
                        have e : cs' = cs.dropLast := by simpa using hgs1
                        rw [hb]; simp only [Option.getD_some, condsOf, List.append_nil]; rw [e]; exact hc
                      · rename_i cs' b hb
                        have e : cs' = cs.dropLast := by simpa using hgs1
                        rw [hb]; simp only [Option.getD_some, condsOf, List.append_nil]; rw [e]; exact hc
                      · cases hgs1
                    exact inv.conds d c hgc
                  · simp only [List.mem_singleton] at hc; subst hc
                    exact ⟨g, og, hog, hLg, hogd⟩
                have hdn : ∀ d', o.dst = some d' → ∀ c ∈ condsOf (SV.g cs r0.val), c.1 ≠ d' := fun d' hd' c hc he => by
                  obtain ⟨i, oi, h1, h2, h3⟩ := hconds c hc
                  have := rk.dsts i j oi o d' h1 hj (by rw [h3, he]) hd'
                  exact hL (this ▸ h2)
                have hinv : ∀ ss, Inv ops base (fun i => L i ∨ i = j) (st.put o.dst { val := .g cs r0.val, upd := none, sides := ss }) := fun ss => invOf _ (fun n c hu => by cases hu) hconds
                split
                · rename_i hw
                  have hh := hwi.1 hw
                  have hs0 : allP r0.sides := by
                    cases hss : r0.sides with
                    | nil => trivial
                    | cons p ps => rw [hss] at hs; exact hs.1 (condP_holds hh)
                  refine .inl (opRes_sound ht m hh hfr (fun n c hc => hpOf_some hc) hr0 hs0 fun β' u w' hp => ?_)
                  have hp' : ∀ ss, Post w0 β st.slots st.heap { val := .g cs r0.val, upd := none, sides := ss } u β' w' := fun ss =>
                    ⟨hp.keep, ⟨fun _ => hp.den, fun hn => absurd hh hn⟩, fun n hn => by have := hp.nm n hn; rw [hun] at this; exact this, by have := hp.mem; rw [hun] at this; exact this⟩
                  exact hK β' _ w' (M_put m (hp' _) fun d' hd' => ⟨condD d' hd', hdn d' hd'⟩) (hinv _)
                · rename_i hw
                  have hh : ¬ holds st.slots cs := fun z => hw (hwi.2 z)
                  have hp' : ∀ ss, Post w0 β st.slots st.heap { val := .g cs r0.val, upd := none, sides := ss } undef β w := fun ss =>
                    ⟨fun _ _ _ => rfl, ⟨fun z => absurd z hh, fun _ => rfl⟩, fun n hn => hnm hun n hn, m.mem⟩
                  exact hK β _ w (M_put m (hp' _) fun d' hd' => ⟨condD d' hd', hdn d' hd'⟩) (hinv _)
              · cases h
            · cases h
        · cases h
    · cases h
end
end Go.Proofs.Ytgdjfclpncpnpaa.Sym
