/-
  OWN WORK. A symbolic executor for Go text over open terms, part A: values, states, what one operation gives. Nothing of a program stands here.
-/
import Derived.Orders
import Derived.Below
import Derived.Laws.Sem
import Derived.Laws.World
import Derived.Laws.Small
import Derived.Laws.StructEq
namespace Go.Proofs.Ytgdjfclpncpnpaa.Sym
open Go Go.RowKit

/-! ### operations of values alone -/
def pureRun {α : Type} (P : Program) : Sem α → Option α
  | .pure a => some a
  | .program k => pureRun P (k P)
  | .mark _ k => pureRun P k
  | _ => none

theorem pureRun_run {α : Type} {P : Program} : ∀ (s : Sem α) {a : α}, pureRun P s = some a → ∀ w, s.run P w = .ok a w := by
  intro s
  induction s with
  | pure b => intro a h w; simp only [pureRun, Option.some.injEq] at h; subst h; rfl
  | program k ih => intro a h w; exact ih P (by simpa [pureRun] using h) w
  | mark m k ih => intro a h w; exact ih (by simpa [pureRun] using h) w
  | _ => intro a h; simp [pureRun] at h

/-! ### one of two values -/
def mergeN : Nat → Bool → Value → Value → Value
  | 0, b, x, y => bif b then x else y
  | n + 1, b, x, y =>
    match x, y with
    | .int k p, .int k' q => if k = k' then .int k (bif b then p else q) else (bif b then .int k p else .int k' q)
    | .bool p, .bool q => .bool (bif b then p else q)
    | .agg xs, .agg ys => if xs.size = ys.size then .agg (List.zipWith (mergeN n b) xs.toList ys.toList).toArray else (bif b then .agg xs else .agg ys)
    | .tuple xs, .tuple ys => if xs.size = ys.size then .tuple (List.zipWith (mergeN n b) xs.toList ys.toList).toArray else (bif b then .tuple xs else .tuple ys)
    | x, y => bif b then x else y

theorem zipWith_left {α : Type} {f : α → α → α} (h : ∀ x y, f x y = x) : ∀ (xs ys : List α), xs.length = ys.length → List.zipWith f xs ys = xs
  | [], [], _ => rfl
  | x :: xs, y :: ys, hl => by simp only [List.zipWith_cons_cons, h, zipWith_left h xs ys (by simpa using hl)]
  | [], _ :: _, hl => by simp at hl
  | _ :: _, [], hl => by simp at hl
theorem zipWith_right {α : Type} {f : α → α → α} (h : ∀ x y, f x y = y) : ∀ (xs ys : List α), xs.length = ys.length → List.zipWith f xs ys = ys
  | [], [], _ => rfl
  | x :: xs, y :: ys, hl => by simp only [List.zipWith_cons_cons, h, zipWith_right h xs ys (by simpa using hl)]
  | [], _ :: _, hl => by simp at hl
  | _ :: _, [], hl => by simp at hl

theorem mergeN_true : ∀ (n : Nat) (x y : Value), mergeN n true x y = x
  | 0, _, _ => rfl
  | n + 1, x, y => by
    have ih := mergeN_true n
    unfold mergeN
    split
    · rename_i k p k' q; by_cases h : k = k' <;> simp [h]
    · rfl
    · rename_i xs ys; split
      · rename_i h; rw [zipWith_left ih _ _ (by simpa using h)]
      · rfl
    · rename_i xs ys; split
      · rename_i h; rw [zipWith_left ih _ _ (by simpa using h)]
      · rfl
    · rfl
theorem mergeN_false : ∀ (n : Nat) (x y : Value), mergeN n false x y = y
  | 0, _, _ => rfl
  | n + 1, x, y => by
    have ih := mergeN_false n
    unfold mergeN
    split
    · rename_i k p k' q; by_cases h : k = k' <;> simp [h]
    · rfl
    · rename_i xs ys; split
      · rename_i h; rw [zipWith_right ih _ _ (by simpa using h)]
      · rfl
    · rename_i xs ys; split
      · rename_i h; rw [zipWith_right ih _ _ (by simpa using h)]
      · rfl
    · rfl
theorem mergeN_eq (n : Nat) (b : Bool) (x y : Value) : mergeN n b x y = if b then x else y := by
  cases b
  · rw [mergeN_false]; rfl
  · rw [mergeN_true]; rfl

/-! ### symbolic values -/
/-- k: a value that is closed; v: any value; loc, ix, sl: into a block of the call's own; g: there if the guards hold. -/
inductive SV where
  | k (x : Value)
  | v (x : Value)
  | loc (n off : Nat)
  | ix (n off : Nat) (i : Int) (len size : Nat)
  | sl (n len : Nat)
  | g (cs : List (Nat × Bool)) (x : SV)
  | junk

def boolAt (l : List SV) (t : Nat) : Option Bool :=
  match l[t]? with
  | some (.k (.bool b)) => some b
  | some (.v (.bool b)) => some b
  | some (.g _ (.k (.bool b))) => some b
  | some (.g _ (.v (.bool b))) => some b
  | _ => none

def holds (l : List SV) (cs : List (Nat × Bool)) : Prop := ∀ c ∈ cs, boolAt l c.1 = some c.2

def Den (β : Nat → Nat) (l : List SV) : SV → Value → Prop
  | .k x, u => u = x
  | .v x, u => u = x
  | .loc n off, u => u = .pointer (some ⟨β n, off, none⟩)
  | .ix n off i len size, u => u = .pointer (some ⟨β n, off + i.toNat * size, none⟩) ∧ 0 ≤ i ∧ i < len
  | .sl n len, u => u = .slice (some ⟨β n, 0, none⟩) len len
  | .g cs x, u => (holds l cs → Den β l x u) ∧ (¬ holds l cs → u = undef)
  | .junk, _ => True

def resolve (cs : List (Nat × Bool)) : SV → SV
  | .g cs' x => if cs'.all (fun c => cs.contains c) then x else .junk
  | s => s

theorem Den_resolve {β : Nat → Nat} {l : List SV} {cs : List (Nat × Bool)} (hc : holds l cs) {s : SV} {u : Value} (h : Den β l s u) : Den β l (resolve cs s) u := by
  cases s with
  | g cs' x =>
    simp only [resolve]
    split
    · rename_i ha
      refine h.1 fun c hcm => hc c ?_
      have := List.all_eq_true.1 ha c hcm
      simpa using this
    · trivial
  | _ => exact h

def evS (l : List SV) (cs : List (Nat × Bool)) : Operand → SV
  | .tmp t => resolve cs (l.getD t .junk)
  | .const v => .k v
  | .global g => .k (.pointer (some ⟨g, 0, none⟩))
  | .func f => .k (.func (.func f) #[] #[])

def plain : SV → Option Value
  | .k x => some x
  | .v x => some x
  | _ => none
def plainD (s : SV) : Value := (plain s).getD undef
def closed : SV → Bool
  | .k _ => true
  | _ => false

def plains (ev : Operand → SV) : List Operand → Option (List Value)
  | [] => some []
  | x :: xs => match plain (ev x), plains ev xs with
    | some v, some vs => some (v :: vs)
    | _, _ => none

abbrev Cells := TypeId × List Value

/-- What one operation gives: the value, the block that it sets, what must hold. -/
structure Res where
  val : SV
  upd : Option (Nat × Cells)
  sides : List Prop

def allP : List Prop → Prop
  | [] => True
  | p :: ps => p ∧ allP ps

theorem allP_append {l m : List Prop} : allP (l ++ m) ↔ allP l ∧ allP m := by
  induction l with
  | nil => simp [allP]
  | cons p l ih => simp [allP, ih, and_assoc]

def isAggB (P : Program) (t : TypeId) : Option Bool :=
  match P.underlying t with
  | some (.struct _) => some true
  | some (.array _ _) => some true
  | some _ => some false
  | none => none

def sizeO (P : Program) (t : TypeId) : Option Nat := (P.info? t).map (·.size)

/-- a value of type t out of cells, from 'off' on -/
def loadOf (P : Program) (t : TypeId) (cs : List Value) (off : Nat) : Option Value :=
  match isAggB P t, sizeO P t with
  | some true, some n => if off + n ≤ cs.length then some (.agg ((cs.drop off).take n).toArray) else none
  | some false, some _ => cs[off]?
  | _, _ => none

def setMany : List Value → Nat → List Value → List Value
  | cs, _, [] => cs
  | cs, off, v :: vs => setMany (cs.set off v) (off + 1) vs

def oneCellB : Value → Bool
  | .agg _ => false
  | .tuple _ => false
  | _ => true

/-- element number i of some: the last one where i is no other -/
def pickAt (i : Int) : Nat → List Value → Option Value
  | _, [] => none
  | _, [x] => some x
  | j, x :: y :: xs => match pickAt i (j + 1) (y :: xs) with
    | some r => some (mergeN 3 (decide (i = (j : Int))) x r)
    | none => none

/-- the elements of a row of the call's own: element j from off + j * size on -/
def loadAll (P : Program) (t : TypeId) (cs : List Value) (off size : Nat) : Nat → Nat → Option (List Value)
  | _, 0 => some []
  | j, n + 1 => match loadOf P t cs (off + j * size), loadAll P t cs off size (j + 1) n with
    | some v, some vs => some (v :: vs)
    | _, _ => none

/-- each element's cells: the new ones where i is its number -/
def storeAll (i : Int) (vs : List Value) (off size : Nat) : Nat → Nat → List Value → List Value
  | _, 0, cs => cs
  | j, n + 1, cs => storeAll i vs off size (j + 1) n (setMany cs (off + j * size) (List.zipWith (mergeN 3 (decide (i = (j : Int)))) vs ((cs.drop (off + j * size)).take vs.length)))

def fieldOf (P : Program) (s : TypeId) (f : Nat) : Option Field :=
  match P.underlying s with
  | some (.struct fs) => fs[f]?
  | _ => none

def arrayOf (P : Program) (t : TypeId) : Option (Nat × TypeId) :=
  match P.underlying t with
  | some (.array n e) => some (n, e)
  | _ => none
def sliceOf (P : Program) (t : TypeId) : Option TypeId :=
  match P.underlying t with
  | some (.slice e) => some e
  | _ => none

/-- a part of a struct's or an array's cells -/
def partOf (P : Program) (t : TypeId) (cs : List Value) (off : Nat) : Option Value :=
  match isAggB P t, sizeO P t with
  | some true, some n => some (.agg ((cs.drop off).take n).toArray)
  | some false, _ => cs[off]?
  | _, _ => none

/-- structs, field by field -/
def eqFs (P : Program) (eq : TypeId → Value → Value → Option Bool) (xs ys : List Value) : List Field → Option Bool
  | [] => some true
  | f :: fs =>
    if f.name == "_" then eqFs P eq xs ys fs else
    match partOf P f.type xs f.offset, partOf P f.type ys f.offset with
    | some a, some b => match eq f.type a b, eqFs P eq xs ys fs with
      | some r, some q => some (bif r then q else false)
      | _, _ => none
    | _, _ => none

def eqV (P : Program) : Nat → TypeId → Value → Value → Option Bool
  | 0, _, _, _ => none
  | n + 1, t, x, y =>
    match P.underlying t, x, y with
    | some .bool, .bool a, .bool b => some (a == b)
    | some (.int _), .int k a, .int k' b => if k = k' then some (a == b) else none
    | some (.struct fs), .agg xs, .agg ys => if P.stoodInHeld t then none else eqFs P (eqV P n) xs.toList ys.toList fs.toList
    | _, _, _ => none

/-- '==' on structs of integers and bools, structs in them too -/
def eqOf (P : Program) (t : TypeId) (x y : Value) : Option Bool :=
  match x, y with
  | .agg _, .agg _ => if P.eqGuardType P.depth t then none else eqV P 6 t x y
  | _, _ => none
end Go.Proofs.Ytgdjfclpncpnpaa.Sym
