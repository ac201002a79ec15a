/-
  OWN WORK. A second symbolic executor, with slices and what lies behind them, part A: values, states, what they stand for.
-/
import Derived.Test.YtgdjfclpncpnpaaSymM
import Derived.Laws.AppendOwn
namespace Go.Proofs.Ytgdjfclpncpnpaa.Dyn
open Go Go.RowKit Sym

/-! ### what lies behind a value -/
/-- a cell: a value without addresses; a slice of n elements, of which f tells the cells; an address of some cells -/
inductive DC where
  | p (x : Value)
  | row (n : Nat) (f : Nat → List DC)
  | ptr (cs : List DC)
instance : Inhabited DC := ⟨.p undef⟩

/-- what cell u is in world w: its memory lies in blocks of F -/
inductive DenC (w : World) (F : Nat → Prop) : DC → Value → Prop where
  | p (x : Value) : oneCellB x = true → DenC w F (.p x) x
  | nil (f : Nat → List DC) (oa : Option Addr) (cap : Nat) : DenC w F (.row 0 f) (.slice oa 0 cap)
  | row (n : Nat) (f : Nat → List DC) (b off cap size : Nat) (g : Nat → Nat → Value) : F b →
      (∀ i, i < n → (f i).length = size ∧ ∀ j, j < size → w.cell? ⟨b, off + i * size + j, none⟩ = some (g i j)) →
      (∀ i j, i < n → j < size → DenC w F ((f i).getD j default) (g i j)) → DenC w F (.row n f) (.slice (some ⟨b, off, none⟩) n cap)
  | ptr (cs : List DC) (b off : Nat) (g : Nat → Value) : F b → (∀ j, j < cs.length → w.cell? ⟨b, off + j, none⟩ = some (g j)) →
      (∀ j, j < cs.length → DenC w F (cs.getD j default) (g j)) → DenC w F (.ptr cs) (.pointer (some ⟨b, off, none⟩))

theorem cell_congr {w w' : World} {b : Nat} (h : w'.heap[b]? = w.heap[b]?) (i : Nat) : w'.cell? ⟨b, i, none⟩ = w.cell? ⟨b, i, none⟩ := by simp [World.cell?, h]

theorem DenC.mono {w w' : World} {F F' : Nat → Prop} (h : ∀ b, F b → F' b ∧ w'.heap[b]? = w.heap[b]?) {d : DC} {u : Value} (k : DenC w F d u) : DenC w' F' d u := by
  induction k with
  | p x h => exact .p x h
  | nil f oa cap => exact .nil f oa cap
  | row n f b off cap size g hF hc _ ih => exact .row n f b off cap size g (h b hF).1 (fun i hi => ⟨(hc i hi).1, fun j hj => (cell_congr (h b hF).2 _).trans ((hc i hi).2 j hj)⟩) ih
  | ptr cs b off g hF hc _ ih => exact .ptr cs b off g (h b hF).1 (fun j hj => (cell_congr (h b hF).2 _).trans (hc j hj)) ih

theorem DenC.one {w : World} {F : Nat → Prop} {d : DC} {u : Value} (k : DenC w F d u) : oneCellB u = true := by
  cases k <;> first | assumption | rfl

/-- values: one cell, or some -/
inductive DV where
  | one (d : DC)
  | agg (ds : List DC)
inductive RV where
  | val (v : DV)
  | tup (vs : List DV)
def DenL (w : World) (F : Nat → Prop) : List DC → List Value → Prop
  | [], [] => True
  | d :: ds, u :: us => DenC w F d u ∧ DenL w F ds us
  | _, _ => False
def DenV (w : World) (F : Nat → Prop) : DV → Value → Prop
  | .one d, u => DenC w F d u
  | .agg ds, u => ∃ us, u = .agg us ∧ DenL w F ds us.toList
def DenVs (w : World) (F : Nat → Prop) : List DV → List Value → Prop
  | [], [] => True
  | d :: ds, u :: us => DenV w F d u ∧ DenVs w F ds us
  | _, _ => False
def DenR (w : World) (F : Nat → Prop) : RV → Value → Prop
  | .val v, u => DenV w F v u
  | .tup vs, u => ∃ us, u = .tuple us ∧ DenVs w F vs us.toList

theorem DenL.mono {w w' : World} {F F' : Nat → Prop} (h : ∀ b, F b → F' b ∧ w'.heap[b]? = w.heap[b]?) : ∀ {ds : List DC} {us : List Value}, DenL w F ds us → DenL w' F' ds us
  | [], [], _ => trivial
  | _ :: _, _ :: _, k => ⟨k.1.mono h, DenL.mono h k.2⟩
  | [], _ :: _, k => k.elim
  | _ :: _, [], k => k.elim
theorem DenV.mono {w w' : World} {F F' : Nat → Prop} (h : ∀ b, F b → F' b ∧ w'.heap[b]? = w.heap[b]?) : ∀ {d : DV} {u : Value}, DenV w F d u → DenV w' F' d u
  | .one _, _, k => DenC.mono h k
  | .agg _, _, ⟨us, e, k⟩ => ⟨us, e, k.mono h⟩
theorem DenVs.mono {w w' : World} {F F' : Nat → Prop} (h : ∀ b, F b → F' b ∧ w'.heap[b]? = w.heap[b]?) : ∀ {ds : List DV} {us : List Value}, DenVs w F ds us → DenVs w' F' ds us
  | [], [], _ => trivial
  | _ :: _, _ :: _, k => ⟨k.1.mono h, DenVs.mono h k.2⟩
  | [], _ :: _, k => k.elim
  | _ :: _, [], k => k.elim
theorem DenR.mono {w w' : World} {F F' : Nat → Prop} (h : ∀ b, F b → F' b ∧ w'.heap[b]? = w.heap[b]?) : ∀ {d : RV} {u : Value}, DenR w F d u → DenR w' F' d u
  | .val _, _, k => DenV.mono h k
  | .tup _, _, ⟨us, e, k⟩ => ⟨us, e, k.mono h⟩
theorem DenL.length {w : World} {F : Nat → Prop} : ∀ {ds : List DC} {us : List Value}, DenL w F ds us → us.length = ds.length
  | [], [], _ => rfl
  | _ :: _, _ :: _, k => congrArg (· + 1) (DenL.length k.2)
  | [], _ :: _, k => k.elim
  | _ :: _, [], k => k.elim
theorem DenL.at_ {w : World} {F : Nat → Prop} : ∀ {ds : List DC} {us : List Value}, DenL w F ds us → ∀ (j : Nat) (d : DC), ds[j]? = some d → ∃ u, us[j]? = some u ∧ DenC w F d u
  | [], [], _, j, d, h => by simp at h
  | d :: ds, u :: us, k, 0, d', h => by simp only [List.getElem?_cons_zero, Option.some.injEq] at h; subst h; exact ⟨u, rfl, k.1⟩
  | d :: ds, u :: us, k, j + 1, d', h => by
    obtain ⟨u', h1, h2⟩ := DenL.at_ k.2 j d' (by simpa using h)
    exact ⟨u', by simpa using h1, h2⟩
  | [], _ :: _, k, _, _, _ => k.elim
  | _ :: _, [], k, _, _, _ => k.elim
theorem DenL.of {w : World} {F : Nat → Prop} : ∀ {ds : List DC} {us : List Value}, us.length = ds.length → (∀ (j : Nat) (d : DC), ds[j]? = some d → ∃ u, us[j]? = some u ∧ DenC w F d u) → DenL w F ds us
  | [], [], _, _ => trivial
  | d :: ds, u :: us, hl, h => by
    obtain ⟨u', h1, h2⟩ := h 0 d rfl
    simp only [List.getElem?_cons_zero, Option.some.injEq] at h1; subst h1
    exact ⟨h2, DenL.of (by simpa using hl) fun j d hd => by have := h (j + 1) d (by simpa using hd); simpa using this⟩
  | [], _ :: _, hl, _ => by simp at hl
  | _ :: _, [], hl, _ => by simp at hl

/-! ### symbolic values: values whose addresses bear names
  pointer ⟨n, off, none⟩: into the own block n; pointer or slice ⟨n, j, some 0⟩: the j-th of what stands at n -/
abbrev Env := Nat → Nat × (Nat → Value)

def renP (β : Env) : Value → Value
  | .pointer (some a) => match a.spot with
    | none => .pointer (some ⟨(β a.block).1, a.off, none⟩)
    | some _ => (β a.block).2 a.off
  | .slice (some a) n c => match a.spot with
    | none => .slice (some a) n c
    | some _ => (β a.block).2 a.off
  | x => x
def ren0 (β : Env) : Value → Value
  | .func f fst caps => .func f fst (caps.toList.map (renP β)).toArray
  | x => renP β x
def ren1 (β : Env) : Value → Value
  | .agg cs => .agg (cs.toList.map (ren0 β)).toArray
  | x => ren0 β x
def ren (β : Env) : Value → Value
  | .tuple vs => .tuple (vs.toList.map (ren1 β)).toArray
  | x => ren1 β x

def refsP : Value → List Nat
  | .pointer (some a) => [a.block]
  | .slice (some a) _ _ => match a.spot with
    | none => []
    | some _ => [a.block]
  | _ => []
def refsL (f : Value → List Nat) : List Value → List Nat
  | [] => []
  | x :: l => f x ++ refsL f l
theorem refsL_mem {f : Value → List Nat} {n : Nat} : ∀ {l : List Value}, n ∈ refsL f l ↔ ∃ x ∈ l, n ∈ f x
  | [] => by simp [refsL]
  | x :: l => by simp [refsL, refsL_mem (l := l)]
def refs0 : Value → List Nat
  | .func _ _ caps => refsL refsP caps.toList
  | x => refsP x
def refs1 : Value → List Nat
  | .agg cs => refsL refs0 cs.toList
  | x => refs0 x
def refs : Value → List Nat
  | .tuple vs => refsL refs1 vs.toList
  | x => refs1 x

theorem renP_congr {β β' : Env} {x : Value} (h : ∀ n ∈ refsP x, β' n = β n) : renP β' x = renP β x := by
  unfold renP
  split
  · rename_i a
    have := h a.block (by simp [refsP])
    rw [this]
  · rename_i a n c
    cases hs : a.spot with
    | none => rfl
    | some s =>
      have := h a.block (by simp [refsP, hs])
      simp only [this]
  · rfl
theorem map_congr' {f g : Value → Value} {l : List Value} (h : ∀ x ∈ l, f x = g x) : l.map f = l.map g := List.map_congr_left h
theorem ren0_congr {β β' : Env} {x : Value} (h : ∀ n ∈ refs0 x, β' n = β n) : ren0 β' x = ren0 β x := by
  unfold ren0
  split
  · rename_i f fst caps
    rw [map_congr' fun y hy => renP_congr fun n hn => h n (by simp only [refs0]; exact refsL_mem.2 ⟨y, hy, hn⟩)]
  · rename_i hx
    refine renP_congr fun n hn => h n ?_
    cases x <;> first | exact hn | exact (hx _ _ _ rfl).elim
theorem ren1_congr {β β' : Env} {x : Value} (h : ∀ n ∈ refs1 x, β' n = β n) : ren1 β' x = ren1 β x := by
  unfold ren1
  split
  · rename_i cs
    rw [map_congr' fun y hy => ren0_congr fun n hn => h n (by simp only [refs1]; exact refsL_mem.2 ⟨y, hy, hn⟩)]
  · rename_i hx
    refine ren0_congr fun n hn => h n ?_
    cases x <;> first | exact hn | exact (hx _ rfl).elim
theorem ren_congr {β β' : Env} {x : Value} (h : ∀ n ∈ refs x, β' n = β n) : ren β' x = ren β x := by
  unfold ren
  split
  · rename_i vs
    rw [map_congr' fun y hy => ren1_congr fun n hn => h n (by simp only [refs]; exact refsL_mem.2 ⟨y, hy, hn⟩)]
  · rename_i hx
    refine ren1_congr fun n hn => h n ?_
    cases x <;> first | exact hn | exact (hx _ rfl).elim

/-! ### values without addresses -/
def flatP : Value → Bool
  | .pointer (some _) => false
  | .slice (some _) _ _ => false
  | _ => true
def allB (f : Value → Bool) : List Value → Bool
  | [] => true
  | x :: l => match f x with
    | true => allB f l
    | false => false
theorem allB_iff {f : Value → Bool} : ∀ {l : List Value}, allB f l = true ↔ ∀ x ∈ l, f x = true
  | [] => by simp [allB]
  | x :: l => by
    simp only [allB, List.forall_mem_cons, ← allB_iff (l := l)]
    cases f x <;> simp
def flat0 : Value → Bool
  | .func _ _ caps => allB flatP caps.toList
  | x => flatP x
def flat1 : Value → Bool
  | .agg cs => allB flat0 cs.toList
  | x => flat0 x
def flat : Value → Bool
  | .tuple vs => allB flat1 vs.toList
  | x => flat1 x
theorem map_id_of {f : Value → Value} {l : List Value} (h : ∀ x ∈ l, f x = x) : l.map f = l := by
  rw [List.map_congr_left (g := id) h, List.map_id]
theorem renP_flat {β : Env} {x : Value} (h : flatP x = true) : renP β x = x := by
  cases x with
  | pointer a => cases a with
    | none => rfl
    | some a => cases h
  | slice a n c => cases a with
    | none => rfl
    | some a => cases h
  | _ => rfl
theorem ren0_flat {β : Env} {x : Value} (h : flat0 x = true) : ren0 β x = x := by
  by_cases e : ∃ f fst caps, x = .func f fst caps
  · obtain ⟨f, fst, caps, rfl⟩ := e
    simp only [ren0]
    rw [map_id_of fun y hy => renP_flat (allB_iff.1 h y hy)]
  · have e1 : ren0 β x = renP β x := by cases x <;> first | rfl | exact (e ⟨_, _, _, rfl⟩).elim
    have e2 : flat0 x = flatP x := by cases x <;> first | rfl | exact (e ⟨_, _, _, rfl⟩).elim
    rw [e1]; exact renP_flat (e2 ▸ h)
theorem ren1_flat {β : Env} {x : Value} (h : flat1 x = true) : ren1 β x = x := by
  by_cases e : ∃ cs, x = .agg cs
  · obtain ⟨cs, rfl⟩ := e
    simp only [ren1]
    rw [map_id_of fun y hy => ren0_flat (allB_iff.1 h y hy)]
  · have e1 : ren1 β x = ren0 β x := by cases x <;> first | rfl | exact (e ⟨_, rfl⟩).elim
    have e2 : flat1 x = flat0 x := by cases x <;> first | rfl | exact (e ⟨_, rfl⟩).elim
    rw [e1]; exact ren0_flat (e2 ▸ h)
theorem ren_flat {β : Env} {x : Value} (h : flat x = true) : ren β x = x := by
  by_cases e : ∃ vs, x = .tuple vs
  · obtain ⟨vs, rfl⟩ := e
    simp only [ren]
    rw [map_id_of fun y hy => ren1_flat (allB_iff.1 h y hy)]
  · have e1 : ren β x = ren1 β x := by cases x <;> first | rfl | exact (e ⟨_, rfl⟩).elim
    have e2 : flat x = flat1 x := by cases x <;> first | rfl | exact (e ⟨_, rfl⟩).elim
    rw [e1]; exact ren1_flat (e2 ▸ h)
theorem refsP_flat {x : Value} (h : flatP x = true) : refsP x = [] := by
  cases x with
  | pointer a => cases a with
    | none => rfl
    | some a => cases h
  | slice a n c => cases a with
    | none => rfl
    | some a => cases h
  | _ => rfl
theorem refsL_nil {f : Value → List Nat} {l : List Value} (h : ∀ x ∈ l, f x = []) : refsL f l = [] := by
  induction l with
  | nil => rfl
  | cons x l ih => simp only [refsL]; rw [h x (by simp), ih fun y hy => h y (by simp [hy])]; rfl
theorem refs0_flat {x : Value} (h : flat0 x = true) : refs0 x = [] := by
  by_cases e : ∃ f fst caps, x = .func f fst caps
  · obtain ⟨f, fst, caps, rfl⟩ := e
    exact refsL_nil fun y hy => refsP_flat (allB_iff.1 h y hy)
  · have e1 : refs0 x = refsP x := by cases x <;> first | rfl | exact (e ⟨_, _, _, rfl⟩).elim
    have e2 : flat0 x = flatP x := by cases x <;> first | rfl | exact (e ⟨_, _, _, rfl⟩).elim
    rw [e1]; exact refsP_flat (e2 ▸ h)
theorem refs1_flat {x : Value} (h : flat1 x = true) : refs1 x = [] := by
  by_cases e : ∃ cs, x = .agg cs
  · obtain ⟨cs, rfl⟩ := e
    exact refsL_nil fun y hy => refs0_flat (allB_iff.1 h y hy)
  · have e1 : refs1 x = refs0 x := by cases x <;> first | rfl | exact (e ⟨_, rfl⟩).elim
    have e2 : flat1 x = flat0 x := by cases x <;> first | rfl | exact (e ⟨_, rfl⟩).elim
    rw [e1]; exact refs0_flat (e2 ▸ h)
theorem refs_flat {x : Value} (h : flat x = true) : refs x = [] := by
  by_cases e : ∃ vs, x = .tuple vs
  · obtain ⟨vs, rfl⟩ := e
    exact refsL_nil fun y hy => refs1_flat (allB_iff.1 h y hy)
  · have e1 : refs x = refs1 x := by cases x <;> first | rfl | exact (e ⟨_, rfl⟩).elim
    have e2 : flat x = flat1 x := by cases x <;> first | rfl | exact (e ⟨_, rfl⟩).elim
    rw [e1]; exact refs1_flat (e2 ▸ h)
/-- a value of one cell, by its cell -/
theorem ren_one {β : Env} {x : Value} (h : oneCellB x = true) : ren β x = ren0 β x := by cases x <;> first | rfl | cases h
theorem refs_one {x : Value} (h : oneCellB x = true) : refs x = refs0 x := by cases x <;> first | rfl | cases h
theorem ren0_one {β : Env} {x : Value} (h : oneCellB x = true) (hβ : ∀ n j, oneCellB ((β n).2 j) = true) : oneCellB (ren0 β x) = true := by
  cases x with
  | pointer a => cases a with
    | none => rfl
    | some a =>
      simp only [ren0, renP]
      split
      · rfl
      · exact hβ _ _
  | slice a n c => cases a with
    | none => rfl
    | some a =>
      simp only [ren0, renP]
      split
      · rfl
      · exact hβ _ _
  | _ => first | rfl | cases h
/-- the cells of a value -/
theorem ren_cells {β : Env} {x : Value} (h : oneCellB x = true ∨ ∃ cs, x = .agg cs) (hβ : ∀ n j, oneCellB ((β n).2 j) = true) : (ren β x).cells.toList = x.cells.toList.map (ren0 β) := by
  rcases h with h | ⟨cs, rfl⟩
  · have e := ren_one (β := β) h
    rw [e]
    have h3 := ren0_one h hβ
    have c1 : ∀ y : Value, oneCellB y = true → y.cells = #[y] := fun y hy => by cases y <;> first | rfl | cases hy
    rw [c1 _ h3, c1 _ h]; rfl
  · simp [ren, ren1, Value.cells]
end Go.Proofs.Ytgdjfclpncpnpaa.Dyn
