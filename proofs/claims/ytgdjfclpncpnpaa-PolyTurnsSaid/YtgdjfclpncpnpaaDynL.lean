/-
  OWN WORK. A second symbolic executor, part L: guards; one step of a region.
-/
import Derived.Test.YtgdjfclpncpnpaaDynK
namespace Go.Proofs.Ytgdjfclpncpnpaa.Dyn
open Go Go.RowKit Sym

def hpOf (h : List (Option HE)) (t : Tch) (n : Nat) : Option HE := if t.1.contains n || t.2.contains n then h.getD n none else none

def gslot (l : List SV) (d : Nat) (cs : List (Nat × Bool)) : Bool :=
  match l[d]? with
  | some (.k (.bool _)) => cs.isEmpty
  | some (.v (.bool _)) => cs.isEmpty
  | some (.g cs' (.k (.bool _))) => cs' == cs
  | some (.g cs' (.v (.bool _))) => cs' == cs
  | _ => false

def condP (l : List SV) : List (Nat × Bool) → Prop
  | [] => True
  | c :: cs => boolAt l c.1 = some c.2 ∧ condP l cs

theorem namesL_mem {ev : Operand → SV} {n : Nat} : ∀ {l : List Operand}, n ∈ namesL ev l → ∃ x ∈ l, n ∈ names (ev x)
  | [], h => by cases h
  | x :: l, h => by
    simp only [namesL, List.mem_append] at h
    rcases h with h | h
    · exact ⟨x, by simp, h⟩
    · obtain ⟨y, hy, hn⟩ := namesL_mem h
      exact ⟨y, by simp [hy], hn⟩

theorem condP_holds {l : List SV} {cs : List (Nat × Bool)} (h : holds l cs) : condP l cs := by
  induction cs with
  | nil => trivial
  | cons c cs ih => exact ⟨h c (by simp), ih fun d hd => h d (by simp [hd])⟩

def isG : SV → Bool
  | .g _ _ => true
  | _ => false

def updIn (t : Tch) : List (Nat × HE) → Bool
  | [] => true
  | (n, _) :: l => t.2.contains n && updIn t l
def updNew (h : Nat → Option HE) (fresh : Nat) (mk : Bool) : List (Nat × HE) → Bool
  | [] => true
  | (n, _) :: l => (mk && Nat.beq n fresh || (h n).isSome) && updNew h fresh mk l
def subN (a b : List Nat) : Bool := a.all fun n => b.contains n
theorem updIn_mem {t : Tch} : ∀ {l : List (Nat × HE)}, updIn t l = true → ∀ n c, (n, c) ∈ l → n ∈ t.2
  | [], _, n, c, h => by cases h
  | (k, e) :: l, h, n, c, hm => by
    simp only [updIn, Bool.and_eq_true] at h
    rcases List.mem_cons.1 hm with z | hm
    · simp only [Prod.mk.injEq] at z; rw [z.1]; simpa using h.1
    · exact updIn_mem h.2 n c hm
theorem updNew_mem {h : Nat → Option HE} {fresh : Nat} {mk : Bool} : ∀ {l : List (Nat × HE)}, updNew h fresh mk l = true → ∀ n c, (n, c) ∈ l → (n = fresh ∧ mk = true) ∨ ∃ d, h n = some d
  | [], _, n, c, h => by cases h
  | (k, e) :: l, hh, n, c, hm => by
    simp only [updNew, Bool.and_eq_true, Bool.or_eq_true] at hh
    rcases List.mem_cons.1 hm with z | hm
    · simp only [Prod.mk.injEq] at z
      rw [z.1]
      rcases hh.1 with ⟨h1, h2⟩ | h1
      · exact .inl ⟨Nat.eq_of_beq_eq_true h2, h1⟩
      · exact .inr (Option.isSome_iff_exists.1 h1)
    · exact updNew_mem hh.2 n c hm

/-- tests that are known to hold -/
def onB (l : List SV) : List (Nat × Bool) → Bool
  | [] => true
  | c :: cs => (match l[c.1]? with
    | some (.k (.bool b)) => b == c.2
    | _ => false) && onB l cs
/-- .. left out, as far as they come first -/
def dropOn (l : List SV) : List (Nat × Bool) → List (Nat × Bool)
  | [] => []
  | c :: cs => match (match l[c.1]? with
    | some (.k (.bool b)) => b == c.2
    | _ => false) with
    | true => dropOn l cs
    | false => c :: cs
theorem dropOn_mem {l : List SV} : ∀ {cs : List (Nat × Bool)} {c : Nat × Bool}, c ∈ dropOn l cs → c ∈ cs
  | [], _, h => h
  | x :: cs, c, h => by
    simp only [dropOn] at h
    split at h
    · exact List.mem_cons_of_mem _ (dropOn_mem h)
    · exact h
theorem dropOn_holds {l : List SV} : ∀ {cs : List (Nat × Bool)}, holds l (dropOn l cs) → holds l cs
  | [], h => h
  | x :: cs, h => by
    simp only [dropOn] at h
    split at h
    · rename_i hx
      intro c hc
      rcases List.mem_cons.1 hc with rfl | hc
      · split at hx
        · rename_i b hb
          unfold boolAt
          rw [hb]
          have : b = c.2 := by simpa using hx
          rw [this]
        · cases hx
      · exact dropOn_holds h c hc
    · exact h
theorem dropOn_iff {l : List SV} {cs : List (Nat × Bool)} : holds l (dropOn l cs) ↔ holds l cs := ⟨dropOn_holds, fun h c hc => h c (dropOn_mem hc)⟩
theorem dropOn_set {l : List SV} {d : Nat} {s : SV} : ∀ {cs : List (Nat × Bool)}, (∀ c ∈ cs, c.1 ≠ d) → dropOn (l.set d s) cs = dropOn l cs
  | [], _ => rfl
  | c :: cs, h => by
    simp only [dropOn]
    rw [dropOn_set fun x hx => h x (by simp [hx]), List.getElem?_set_ne (Ne.symm (h c (by simp)))]
/-- a guard that is known to say no -/
def offB (l : List SV) (ops : Array Oper) (o : Oper) : Bool :=
  match o.guard with
  | none => false
  | some (g, want) => match (ops[g]?).bind (·.dst) with
    | some d => match l[d]? with
      | some (.k (.bool b)) => !(b == want)
      | some (.k _) => true
      | _ => false
    | none => false
/-- a test's answer that is taken as known -/
def pinRes (X : Tabs) (j : Nat) (r : Res) : Res :=
  match X.pin j, r.val with
  | some q, .v (.bool x) => { val := .k (.bool q), upd := r.upd, sides := (x = q) :: r.sides }
  | _, _ => r
def core (P : Program) (X : Tabs) (ops : Array Oper) (base j : Nat) (o : Oper) (t : Tch) (st : St) : Option Res :=
  match chainOf ops (ops.size + 1) o with
  | none => none
  | some cs =>
    if touchOf X (evS st.slots cs) (base + j) o == t then
      match offB st.slots ops o with
      | true => some { val := .k undef, upd := [], sides := [] }
      | false =>
      match opRes P X (evS st.slots) (hpOf st.heap t) (base + j) cs o with
      | none => none
      | some r =>
        if updIn t r.upd && updNew (hpOf st.heap t) (base + j) (makes X o) r.upd && !isG r.val then
          match onB st.slots cs with
          | true => some (pinRes X j r)
          | false =>
          match o.guard with
          | none => none
          | some (g, want) =>
            match (ops[g]?).bind (·.dst), r.upd with
            | some d, [] =>
              if gslot st.slots d (dropOn st.slots cs).dropLast && dropOn st.slots cs == (dropOn st.slots cs).dropLast ++ [(d, want)] && subN (names r.val) (namesL (evS st.slots cs) o.op.operands.toList) then
                some { val := .g (dropOn st.slots cs) r.val, upd := [], sides := match r.sides with | [] => [] | ss => [condP st.slots cs → allP ss] }
              else none
            | _, _ => none
        else none
    else none

def dropF (d : Nat) : List (Nat × Nat) → List (Nat × Nat)
  | [] => []
  | p :: l => bif Nat.beq p.1 d then dropF d l else p :: dropF d l
def dropFix (dst : Option Nat) (l : List (Nat × Nat)) : List (Nat × Nat) :=
  match dst with
  | none => l
  | some d => dropF d l
theorem dropF_mem {d : Nat} {p : Nat × Nat} : ∀ {l : List (Nat × Nat)}, p ∈ dropF d l ↔ p ∈ l ∧ p.1 ≠ d
  | [] => by simp [dropF]
  | q :: l => by
    simp only [dropF, List.mem_cons]
    cases hb : Nat.beq q.1 d with
    | true =>
      have hq : q.1 = d := Nat.eq_of_beq_eq_true hb
      rw [cond_true, dropF_mem (l := l)]
      constructor
      · exact fun h => ⟨.inr h.1, h.2⟩
      · rintro ⟨rfl | h, k⟩
        · exact absurd hq k
        · exact ⟨h, k⟩
    | false =>
      have hq : q.1 ≠ d := fun e => by rw [e, Nat.beq_refl] at hb; cases hb
      rw [cond_false, List.mem_cons, dropF_mem (l := l)]
      constructor
      · rintro (rfl | h)
        · exact ⟨.inl rfl, hq⟩
        · exact ⟨.inr h.1, h.2⟩
      · rintro ⟨rfl | h, k⟩
        · exact .inl rfl
        · exact .inr ⟨h, k⟩
theorem dropF_comm (d e : Nat) : ∀ (l : List (Nat × Nat)), dropF d (dropF e l) = dropF e (dropF d l)
  | [] => rfl
  | p :: l => by
    have ih := dropF_comm d e l
    simp only [dropF]
    cases h1 : Nat.beq p.1 d <;> cases h2 : Nat.beq p.1 e <;> simp only [cond_true, cond_false, dropF, h1, h2, ih]
def St.put (st : St) (dst : Option Nat) (r : Res) : St :=
  { slots := match dst with | some d => st.slots.set d r.val | none => st.slots, heap := heapSet st.heap r.upd, fix := dropFix dst st.fix }

theorem boolAt_set {l : List SV} {d t : Nat} {s : SV} (h : t ≠ d) : boolAt (l.set d s) t = boolAt l t := by
  unfold boolAt
  rw [List.getElem?_set_ne (Ne.symm h)]

section
variable {P : Program} {w0 : Base P} {w : World} {β β' : Env} {st : St} {a : Act} {o : Oper} {r : Res} {K : Act → World → Prop} {Q : Exit → Act → World → Prop}

theorem M_put {u : Value} {w' : World} {dst : Option Nat} (m : M w0 β st a w) (hp : Post w0 β st.slots st.heap r u β' w')
    (hd : ∀ d, dst = some d → (∀ i, ∀ c ∈ condsOf (st.slots.getD i .junk), c.1 ≠ d) ∧ ∀ c ∈ condsOf r.val, c.1 ≠ d) : M w0 β' (st.put dst r) (a.put dst u) w' := by
  have keepD : ∀ i v, Den β st.slots (st.slots.getD i .junk) v → Den β' st.slots (st.slots.getD i .junk) v := fun i v hv =>
    Den_congr (fun n hn => by obtain ⟨c, hc⟩ := m.locs i n hn; exact hp.keep n c hc) (fun _ _ => rfl) hv
  have keepN : ∀ n c, st.heap.getD n none = some c → ∃ c', (heapSet st.heap r.upd).getD n none = some c' := fun n c hc => heapSet_some _ _ hc
  cases dst with
  | none => exact { defers := m.defers, size := m.size, slot := fun i v hv => keepD i v (m.slot i v hv), locs := fun i n hn => by obtain ⟨c, hc⟩ := m.locs i n hn; exact keepN n c hc, mem := hp.mem, tie := m.tie }
  | some d =>
    obtain ⟨h1, h2⟩ := hd d rfl
    have hb : ∀ t, t ≠ d → boolAt (st.slots.set d r.val) t = boolAt st.slots t := fun t ht => boolAt_set ht
    refine { defers := m.defers, size := by simp [Act.put, St.put, m.size], slot := fun i v hv => ?_, locs := fun i n hn => ?_, mem := hp.mem, tie := fun p hp' => ?_ }
    · simp only [Act.put, Array.getElem?_setIfInBounds] at hv
      show Den β' (st.slots.set d r.val) ((st.slots.set d r.val).getD i .junk) v
      rw [getD_set']
      by_cases e : d = i
      · subst e
        by_cases hl : d < st.slots.length
        · rw [if_pos ⟨rfl, hl⟩]
          rw [if_pos rfl, if_pos (by rw [m.size]; exact hl)] at hv
          simp only [Option.some.injEq] at hv; subst hv
          exact Den_congr (fun _ _ => rfl) (fun c hc => hb c.1 (h2 c hc)) hp.den
        · rw [if_pos rfl, if_neg (by rw [m.size]; exact hl)] at hv; cases hv
      · rw [if_neg (fun x => e x.1)]
        rw [if_neg e] at hv
        exact Den_congr (fun _ _ => rfl) (fun c hc => hb c.1 (h1 i c hc)) (keepD i v (m.slot i v hv))
    · have hn' : n ∈ names ((st.slots.set d r.val).getD i .junk) := hn
      rw [getD_set'] at hn'
      split at hn'
      · exact hp.nm n hn'
      · obtain ⟨c, hc⟩ := m.locs i n hn'; exact keepN n c hc
    · obtain ⟨h3, h4⟩ := dropF_mem.1 hp'
      obtain ⟨b, off, e1, e2⟩ := m.tie p h3
      refine ⟨b, off, e1, ?_⟩
      simp only [Act.put, Array.getElem?_setIfInBounds]
      rw [if_neg (Ne.symm h4)]; exact e2

structure Inv (X : Tabs) (ops : Array Oper) (base : Nat) (L : Nat → Prop) (st : St) : Prop where
  conds : ∀ i c, c ∈ condsOf (st.slots.getD i .junk) → ∃ j oj, ops[j]? = some oj ∧ L j ∧ oj.dst = some c.1
  fresh : ∀ j o, ops[j]? = some o → ¬ L j → makes X o = true → base + j < st.heap.length ∧ st.heap.getD (base + j) none = none

theorem hpOf_some {h : List (Option HE)} {t : Tch} {n : Nat} {c : HE} (hh : hpOf h t n = some c) : h.getD n none = some c := by
  unfold hpOf at hh; split at hh
  · exact hh
  · cases hh

/-- the guard's answer in the frame is what the state says -/
theorem wanted_iff {ops : Array Oper} {g d : Nat} {want : Bool} {og : Oper} {cs : List (Nat × Bool)} (m : M w0 β st a w) (ho : o.guard = some (g, want)) (hg : ops[g]? = some og) (hd : og.dst = some d) (hs : gslot st.slots d cs = true) :
    Region.wanted o (yielded ops a.tmps) = true ↔ holds st.slots (cs ++ [(d, want)]) := by
  unfold gslot at hs
  have lt : ∀ s, st.slots[d]? = some s → ∃ u, a.tmps[d]? = some u ∧ Den β st.slots s u := fun s hsd => by
    have h1 : d < st.slots.length := (List.getElem?_eq_some_iff.1 hsd).1
    have h2 : d < a.tmps.size := by rw [m.size]; exact h1
    refine ⟨a.tmps[d], Array.getElem?_eq_getElem h2, ?_⟩
    have := m.slot d _ (Array.getElem?_eq_getElem h2)
    rwa [List.getD_eq_getElem?_getD, hsd] at this
  have plainCase : ∀ b, cs = [] → st.slots[d]? = some (.k (.bool b)) ∨ st.slots[d]? = some (.v (.bool b)) → (Region.wanted o (yielded ops a.tmps) = true ↔ holds st.slots (cs ++ [(d, want)])) := by
    intro b hc hb
    subst hc
    have hu : a.tmps[d]? = some (.bool b) := by
      rcases hb with hb | hb <;> obtain ⟨u, hu, hd⟩ := lt _ hb <;> rw [hu, (show u = Value.bool b from hd)]
    have hba : boolAt st.slots d = some b := by unfold boolAt; rcases hb with hb | hb <;> rw [hb]
    simp only [Region.wanted, ho, yielded, hg, Option.bind_some, hd, hu, holds, List.nil_append, List.mem_singleton, forall_eq, hba, beq_iff_eq]
  have guardCase : ∀ b, st.slots[d]? = some (.g cs (.k (.bool b))) ∨ st.slots[d]? = some (.g cs (.v (.bool b))) → (Region.wanted o (yielded ops a.tmps) = true ↔ holds st.slots (cs ++ [(d, want)])) := by
    intro b hb
    have hba : boolAt st.slots d = some b := by unfold boolAt; rcases hb with hb | hb <;> rw [hb]
    have hu : ∃ u, a.tmps[d]? = some u ∧ (holds st.slots cs → u = .bool b) ∧ (¬ holds st.slots cs → u = undef) := by
      rcases hb with hb | hb <;> obtain ⟨u, hu, hd⟩ := lt _ hb <;> exact ⟨u, hu, hd⟩
    obtain ⟨u, hu, h1, h2⟩ := hu
    have happ : holds st.slots (cs ++ [(d, want)]) ↔ holds st.slots cs ∧ b = want := by
      constructor
      · intro h
        refine ⟨fun c hc => h c (by simp [hc]), ?_⟩
        have := h (d, want) (by simp)
        rw [hba] at this; simpa using this
      · rintro ⟨h, rfl⟩ c hc
        rcases List.mem_append.1 hc with hc | hc
        · exact h c hc
        · simp only [List.mem_singleton] at hc; subst hc; exact hba
    rw [happ]
    by_cases hh : holds st.slots cs
    · have := h1 hh; subst this
      simp only [Region.wanted, ho, yielded, hg, Option.bind_some, hd, hu, hh, true_and, beq_iff_eq, Option.some.injEq]
    · have := h2 hh; subst this
      simp only [Region.wanted, ho, yielded, hg, Option.bind_some, hd, hu, hh, false_and, iff_false, undef]
      simp
  split at hs
  · rename_i b hb; exact plainCase b (by simpa using hs) (.inl hb)
  · rename_i b hb; exact plainCase b (by simpa using hs) (.inr hb)
  · rename_i cs' b hb
    have e : cs' = cs := by simpa using hs
    subst e; exact guardCase b (.inl hb)
  · rename_i cs' b hb
    have e : cs' = cs := by simpa using hs
    subst e; exact guardCase b (.inr hb)
  · cases hs

theorem tmp_den (m : M w0 β st a w) {d : Nat} {s : SV} (hsd : st.slots[d]? = some s) : ∃ u, a.tmps[d]? = some u ∧ Den β st.slots s u := by
  have h1 : d < st.slots.length := (List.getElem?_eq_some_iff.1 hsd).1
  have h2 : d < a.tmps.size := by rw [m.size]; exact h1
  refine ⟨a.tmps[d], Array.getElem?_eq_getElem h2, ?_⟩
  have := m.slot d _ (Array.getElem?_eq_getElem h2)
  rwa [List.getD_eq_getElem?_getD, hsd] at this
theorem off_wanted {ops : Array Oper} (m : M w0 β st a w) (h : offB st.slots ops o = true) : Region.wanted o (yielded ops a.tmps) = false := by
  unfold offB at h
  split at h
  · cases h
  · rename_i g want ho
    split at h
    · rename_i d hd
      split at h
      · rename_i b hb
        obtain ⟨u, hu, hd'⟩ := tmp_den m hb
        have : u = .bool b := hd'
        subst this
        cases hx : ops[g]? with
        | none => rw [hx] at hd; cases hd
        | some og =>
          rw [hx] at hd
          have hd2 : og.dst = some d := hd
          have hn : ¬ b = want := by simpa using h
          simp only [Region.wanted, ho, yielded, hx, Option.bind_some, hd2, hu]
          simpa using hn
      · rename_i v hv hb
        obtain ⟨u, hu, hd'⟩ := tmp_den m hb
        have : u = v := hd'
        subst this
        cases hx : ops[g]? with
        | none => rw [hx] at hd; cases hd
        | some og =>
          rw [hx] at hd
          have hd2 : og.dst = some d := hd
          have hn : ¬ u = .bool want := fun e => hv want e
          simp only [Region.wanted, ho, yielded, hx, Option.bind_some, hd2, hu]
          rw [beq_eq_false_iff_ne]
          intro e
          split at e
          · rename_i b hub
            simp only [Option.some.injEq] at hub e
            exact hn (by rw [hub, e])
          · cases e
      · cases h
    · cases h
theorem onB_holds {l : List SV} : ∀ {cs : List (Nat × Bool)}, onB l cs = true → holds l cs
  | [], _ => fun c hc => by cases hc
  | c :: cs, h => by
    simp only [onB, Bool.and_eq_true] at h
    intro x hx
    rcases List.mem_cons.1 hx with rfl | hx
    · have := h.1
      split at this
      · rename_i b hb
        unfold boolAt
        rw [hb]
        have : b = x.2 := by simpa using this
        rw [this]
      · cases this
    · exact onB_holds h.2 x hx
theorem on_wanted {ops : Array Oper} {n : Nat} {cs : List (Nat × Bool)} (m : M w0 β st a w) (hc : chainOf ops (n + 1) o = some cs) (h : onB st.slots cs = true) : Region.wanted o (yielded ops a.tmps) = true := by
  simp only [chainOf] at hc
  split at hc
  · rename_i hg; simp [Region.wanted, hg]
  · rename_i g want ho
    split at hc
    · rename_i og hog
      split at hc
      · rename_i d cs' hd hcs'
        simp only [Option.some.injEq] at hc; subst hc
        have hh := onB_holds h (d, want) (by simp)
        have hk : ∃ b, st.slots[d]? = some (.k (.bool b)) ∧ b = want := by
          have : ∀ (l : List (Nat × Bool)), onB st.slots l = true → ∀ c ∈ l, ∃ b, st.slots[c.1]? = some (.k (.bool b)) ∧ b = c.2 := by
            intro l
            induction l with
            | nil => intro _ c hc; cases hc
            | cons x l ih =>
              intro h c hc
              simp only [onB, Bool.and_eq_true] at h
              rcases List.mem_cons.1 hc with rfl | hc
              · have := h.1
                split at this
                · rename_i b hb; exact ⟨b, hb, by simpa using this⟩
                · cases this
              · exact ih h.2 c hc
          exact this _ h (d, want) (by simp)
        obtain ⟨b, hb, rfl⟩ := hk
        obtain ⟨u, hu, hd'⟩ := tmp_den m hb
        have : u = .bool b := hd'
        subst this
        simp only [Region.wanted, ho, yielded, hog, Option.bind_some, hd, hu]
        simp
      · cases hc
    · cases hc
theorem pinRes_upd {X : Tabs} {j : Nat} {r : Res} : (pinRes X j r).upd = r.upd := by unfold pinRes; split <;> rfl
theorem pinRes_isG {X : Tabs} {j : Nat} {r : Res} (h : isG r.val = false) : isG (pinRes X j r).val = false := by
  unfold pinRes; split
  · rfl
  · exact h
theorem pinRes_sides {X : Tabs} {j : Nat} {r : Res} (h : allP (pinRes X j r).sides) : allP r.sides := by
  unfold pinRes at h; split at h
  · exact h.2
  · exact h
theorem pinRes_post {X : Tabs} {j : Nat} {u : Value} {w' : World} (h : allP (pinRes X j r).sides) (hp : Post w0 β st.slots st.heap r u β' w') : Post w0 β st.slots st.heap (pinRes X j r) u β' w' := by
  unfold pinRes at h ⊢
  split at h
  · rename_i q x _ hv
    have hx : x = q := h.1
    have hd := hp.den
    rw [hv] at hd
    have hu : u = .bool x := hd
    exact ⟨hp.keep, (by rw [hu, hx]; rfl), fun n hn => (by cases hn), hp.mem⟩
  · exact hp

theorem isG_conds {s : SV} (h : isG s = false) : condsOf s = [] := by cases s <;> first | rfl | (simp [isG] at h)

theorem step_sound {X : Tabs} {ops : Array Oper} {base j : Nat} {t : Tch} {L : Nat → Prop} (rk : RegOk ops) (ht : TabsOk P X) (m : M w0 β st a w) (inv : Inv X ops base L st)
    (hj : ops[j]? = some o) (hL : ¬ L j) (hg : ∀ g q, o.guard = some (g, q) → L g) (h : core P X ops base j o t st = some r) (hs : allP r.sides)
    (hK : ∀ β' a' w', M w0 β' (st.put o.dst r) a' w' → Inv X ops base (fun i => L i ∨ i = j) (st.put o.dst r) → K a' w') : wpOp P ops Q j K a w := by
  unfold core at h
  split at h
  · cases h
  · rename_i cs hcs
    split at h
    · split at h
      · rename_i hoff
        simp only [Option.some.injEq] at h; subst h
        unfold wpOp
        rw [hj]
        dsimp only
        have hw := off_wanted m hoff
        rw [if_neg (by rw [hw]; decide)]
        have hp' : Post w0 β st.slots st.heap { val := .k undef, upd := [], sides := [] } undef β w := ⟨fun _ _ _ => rfl, rfl, fun n hn => (by cases hn), m.mem⟩
        refine hK β _ w (M_put m hp' fun d hd => ⟨fun i c hc he => ?_, fun c hc => by cases hc⟩) ⟨fun i c hc => ?_, fun k ok hk hLk hmk => inv.fresh k ok hk (fun hl => hLk (.inl hl)) hmk⟩
        · obtain ⟨i', oi, h1, h2, h3⟩ := inv.conds i c hc
          have := rk.dsts i' j oi o d h1 hj (by rw [h3, he]) hd
          exact hL (this ▸ h2)
        · have : c ∈ condsOf (st.slots.getD i .junk) := by
            unfold St.put at hc
            cases hd : o.dst with
            | none => rw [hd] at hc; exact hc
            | some d =>
              rw [hd] at hc
              have hc' : c ∈ condsOf ((st.slots.set d (SV.k undef)).getD i .junk) := hc
              rw [getD_set'] at hc'
              split at hc'
              · cases hc'
              · exact hc'
          obtain ⟨i', oi, h1, h2, h3⟩ := inv.conds i c this
          exact ⟨i', oi, h1, .inl h2, h3⟩
      split at h
      · cases h
      · rename_i r0 hr0
        split at h
        · rename_i hchk
          simp only [Bool.and_eq_true, Bool.not_eq_true'] at hchk
          obtain ⟨⟨_, hnew⟩, hng⟩ := hchk
          have hup := updNew_mem hnew
          have hfr : makes X o = true → base + j < st.heap.length ∧ st.heap.getD (base + j) none = none := inv.fresh j o hj hL
          -- what a step keeps of the invariant
          have invOf : ∀ (r1 : Res), (∀ n c, (n, c) ∈ r1.upd → (n = base + j ∧ makes X o = true) ∨ ∃ d, hpOf st.heap t n = some d) → (∀ c ∈ condsOf r1.val, ∃ i oi, ops[i]? = some oi ∧ L i ∧ oi.dst = some c.1) → Inv X ops base (fun i => L i ∨ i = j) (st.put o.dst r1) := by
            intro r1 hu1 hc1
            refine ⟨fun i c hc => ?_, fun k ok hk hLk hmk => ?_⟩
            · have : c ∈ condsOf r1.val ∨ c ∈ condsOf (st.slots.getD i .junk) := by
                unfold St.put at hc
                cases hd : o.dst with
                | none => rw [hd] at hc; exact .inr hc
                | some d =>
                  rw [hd] at hc
                  have hc' : c ∈ condsOf ((st.slots.set d r1.val).getD i .junk) := hc
                  rw [getD_set'] at hc'
                  split at hc'
                  · exact .inl hc'
                  · exact .inr hc'
              rcases this with hc | hc
              · obtain ⟨i', oi, h1, h2, h3⟩ := hc1 c hc
                exact ⟨i', oi, h1, .inl h2, h3⟩
              · obtain ⟨i', oi, h1, h2, h3⟩ := inv.conds i c hc
                exact ⟨i', oi, h1, .inl h2, h3⟩
            · have hkj : k ≠ j := fun e => hLk (.inr e)
              obtain ⟨h1, h2⟩ := inv.fresh k ok hk (fun hl => hLk (.inl hl)) hmk
              show base + k < (heapSet st.heap r1.upd).length ∧ (heapSet st.heap r1.upd).getD (base + k) none = none
              refine ⟨by rw [heapSet_length]; exact h1, heapSet_none _ _ h2 fun c hc => ?_⟩
              rcases hu1 _ c hc with ⟨e', _⟩ | ⟨d, hd⟩
              · omega
              · have hz := hpOf_some hd
                rw [h2] at hz; cases hz
          have condD : ∀ d, o.dst = some d → ∀ i, ∀ c ∈ condsOf (st.slots.getD i .junk), c.1 ≠ d := fun d hd i c hc he => by
            obtain ⟨i', oi, h1, h2, h3⟩ := inv.conds i c hc
            have := rk.dsts i' j oi o d h1 hj (by rw [h3, he]) hd
            exact hL (this ▸ h2)
          unfold wpOp
          rw [hj]
          dsimp only
          split at h
          · rename_i hon
            simp only [Option.some.injEq] at h; subst h
            have hw : Region.wanted o (yielded ops a.tmps) = true := on_wanted m hcs hon
            rw [if_pos hw]
            refine .inl (opRes_sound ht m (onB_holds hon) hfr (fun n c hc => hpOf_some hc) hr0 (pinRes_sides hs) fun β' u w' hp => ?_)
            have hcn : condsOf (pinRes X j r0).val = [] := isG_conds (pinRes_isG hng)
            refine hK β' _ w' (M_put m (pinRes_post hs hp) fun d hd => ⟨condD d hd, fun c hc => by rw [hcn] at hc; cases hc⟩) (invOf _ (by rw [pinRes_upd]; exact hup) fun c hc => by rw [hcn] at hc; cases hc)
          · split at h
            · cases h
            · rename_i g want hgd
              split at h
              · rename_i d hd hun
                split at h
                · rename_i hgs
                  simp only [Bool.and_eq_true, beq_iff_eq] at hgs
                  obtain ⟨⟨hgs1, hgs2⟩, hgs3⟩ := hgs
                  simp only [Option.some.injEq] at h; subst h
                  obtain ⟨og, hog, hogd⟩ : ∃ og, ops[g]? = some og ∧ og.dst = some d := by
                    cases hx : ops[g]? with
                    | none => rw [hx] at hd; cases hd
                    | some og => rw [hx] at hd; exact ⟨og, rfl, hd⟩
                  have hwi := wanted_iff m hgd hog hogd hgs1
                  rw [← hgs2] at hwi
                  have hLg : L g := hg g want hgd
                  -- the guards' tmps are those of operations that have come up
                  have hconds : ∀ c ∈ condsOf (SV.g (dropOn st.slots cs) r0.val), ∃ i oi, ops[i]? = some oi ∧ L i ∧ oi.dst = some c.1 := by
                    intro c hc
                    simp only [condsOf, isG_conds hng, List.append_nil] at hc
                    rw [hgs2] at hc
                    rcases List.mem_append.1 hc with hc | hc
                    · have hgc : c ∈ condsOf (st.slots.getD d .junk) := by
                        unfold gslot at hgs1
                        rw [List.getD_eq_getElem?_getD]
                        split at hgs1
                        · have : (dropOn st.slots cs).dropLast = [] := by simpa using hgs1
                          rw [this] at hc; cases hc
                        · have : (dropOn st.slots cs).dropLast = [] := by simpa using hgs1
                          rw [this] at hc; cases hc
                        · rename_i cs' b hb
                          have e : cs' = (dropOn st.slots cs).dropLast := by simpa using hgs1
                          rw [hb]; simp only [Option.getD_some, condsOf, List.append_nil]; rw [e]; exact hc
                        · rename_i cs' b hb
                          have e : cs' = (dropOn st.slots cs).dropLast := by simpa using hgs1
                          rw [hb]; simp only [Option.getD_some, condsOf, List.append_nil]; rw [e]; exact hc
                        · cases hgs1
                      exact inv.conds d c hgc
                    · simp only [List.mem_singleton] at hc; subst hc
                      exact ⟨g, og, hog, hLg, hogd⟩
                  have hdn : ∀ d', o.dst = some d' → ∀ c ∈ condsOf (SV.g (dropOn st.slots cs) r0.val), c.1 ≠ d' := fun d' hd' c hc he => by
                    obtain ⟨i, oi, h1, h2, h3⟩ := hconds c hc
                    have := rk.dsts i j oi o d' h1 hj (by rw [h3, he]) hd'
                    exact hL (this ▸ h2)
                  have hinv : ∀ ss, Inv X ops base (fun i => L i ∨ i = j) (st.put o.dst { val := .g (dropOn st.slots cs) r0.val, upd := [], sides := ss }) := fun ss => invOf _ (fun n c hu => by cases hu) hconds
                  split
                  · rename_i hw
                    have hh2 := hwi.1 hw
                    have hh := dropOn_holds hh2
                    have hs0 : allP r0.sides := by
                      cases hss : r0.sides with
                      | nil => trivial
                      | cons p ps => rw [hss] at hs; exact hs.1 (condP_holds hh)
                    refine .inl (opRes_sound ht m hh hfr (fun n c hc => hpOf_some hc) hr0 hs0 fun β' u w' hp => ?_)
                    have hp' : ∀ ss, Post w0 β st.slots st.heap { val := .g (dropOn st.slots cs) r0.val, upd := [], sides := ss } u β' w' := fun ss =>
                      ⟨hp.keep, ⟨fun _ => hp.den, fun hn => absurd hh2 hn⟩, fun n hn => by have := hp.nm n hn; rw [hun] at this; exact this, by have := hp.mem; rw [hun] at this; exact this⟩
                    exact hK β' _ w' (M_put m (hp' _) fun d' hd' => ⟨condD d' hd', hdn d' hd'⟩) (hinv _)
                  · rename_i hw
                    have hh : ¬ holds st.slots (dropOn st.slots cs) := fun z => hw (hwi.2 z)
                    have hnm : ∀ n ∈ names r0.val, ∃ c, st.heap.getD n none = some c := fun n hn => by
                      have := List.all_eq_true.1 hgs3 n hn
                      have hm : n ∈ namesL (evS st.slots cs) o.op.operands.toList := by simpa using this
                      obtain ⟨x, _, hx⟩ := namesL_mem hm
                      exact names_ev m hx
                    have hp' : ∀ ss, Post w0 β st.slots st.heap { val := .g (dropOn st.slots cs) r0.val, upd := [], sides := ss } undef β w := fun ss =>
                      ⟨fun _ _ _ => rfl, ⟨fun z => absurd z hh, fun _ => rfl⟩, fun n hn => hnm n hn, m.mem⟩
                    exact hK β _ w (M_put m (hp' _) fun d' hd' => ⟨condD d' hd', hdn d' hd'⟩) (hinv _)
                · cases h
              · cases h
        · cases h
    · cases h
end
end Go.Proofs.Ytgdjfclpncpnpaa.Dyn
