/-
  OWN WORK. A second symbolic executor, part C: one operation.
-/
import Derived.Test.YtgdjfclpncpnpaaDynB
namespace Go.Proofs.Ytgdjfclpncpnpaa.Dyn
open Go Go.RowKit Sym

/-! ### cells that are told, as values -/
def instC (fresh : Nat) : Nat → List DC → List Value
  | _, [] => []
  | j, .p x :: l => x :: instC fresh (j + 1) l
  | j, .row n _ :: l => .slice (some ⟨fresh, j, some 0⟩) n 0 :: instC fresh (j + 1) l
  | j, .ptr _ :: l => .pointer (some ⟨fresh, j, some 0⟩) :: instC fresh (j + 1) l
/-- no plain cell bears an address -/
def pOk : List DC → Bool
  | [] => true
  | .p x :: l => match flat0 x with
    | true => pOk l
    | false => false
  | _ :: l => pOk l
def flatD : List DC → Bool
  | [] => true
  | .p _ :: l => flatD l
  | _ => false
def cellsV : DV → List DC
  | .one d => [d]
  | .agg ds => ds
def cellsVs : List DV → List DC
  | [] => []
  | v :: vs => cellsV v ++ cellsVs vs
def cellsR : RV → List DC
  | .val v => cellsV v
  | .tup vs => cellsVs vs
def instV (fresh j : Nat) : DV → Value
  | .one d => (instC fresh j [d]).headD undef
  | .agg ds => .agg (instC fresh j ds).toArray
def instVs (fresh : Nat) : Nat → List DV → List Value
  | _, [] => []
  | j, v :: vs => instV fresh j v :: instVs fresh (j + (cellsV v).length) vs
def instR (fresh : Nat) : RV → Value
  | .val v => instV fresh 0 v
  | .tup vs => .tuple (instVs fresh 0 vs).toArray

/-! ### values, as cells that are told -/
def rowAt (h : Nat → Option HE) (n j : Nat) : Option (Nat × (Nat → List DC)) :=
  match h n with
  | some (.deep ds) => match ds[j]? with
    | some (.row k f) => some (k, f)
    | _ => none
  | some (.own _ k f) => match j with
    | 0 => some (k, f)
    | _ => none
  | _ => none
def viewAt (h : Nat → Option HE) (n j : Nat) : Option (List DC) :=
  match h n with
  | some (.deep ds) => match ds[j]? with
    | some (.ptr cs) => some cs
    | _ => none
  | _ => none
/-- slices, and cells without addresses -/
def toDC0 (h : Nat → Option HE) : Value → Option DC
  | .slice none 0 0 => some (.row 0 fun _ => [])
  | .slice (some a) n _ => match a.spot, rowAt h a.block a.off with
    | some _, some (k, f) => some (.row k f)
    | _, _ => none
  | .pointer (some a) => match a.spot, viewAt h a.block a.off with
    | some _, some cs => some (.ptr cs)
    | _, _ => none
  | x => if flat0 x && oneCellB x then some (.p x) else none
def mapO (f : Value → Option DC) : List Value → Option (List DC)
  | [] => some []
  | x :: l => match f x, mapO f l with
    | some y, some m => some (y :: m)
    | _, _ => none
/-- an address of a block of the call's own, too -/
def toDC (h : Nat → Option HE) : Value → Option DC
  | .pointer (some a) => match a.spot, a.off, h a.block with
    | none, 0, some (.cells _ cs) => match mapO (toDC0 h) cs with
      | some ds => some (.ptr ds)
      | none => none
    | none, _, _ => none
    | some _, _, _ => toDC0 h (.pointer (some a))
  | x => toDC0 h x
def toDV (h : Nat → Option HE) : Value → Option DV
  | .agg cs => match mapO (toDC0 h) cs.toList with
    | some ds => some (.agg ds)
    | none => none
  | x => match toDC h x with
    | some d => some (.one d)
    | none => none
def toDVs (h : Nat → Option HE) : List Value → Option (List DV)
  | [] => some []
  | x :: l => match toDV h x, toDVs h l with
    | some y, some m => some (y :: m)
    | _, _ => none

def setF (h : Nat → Option HE) (n : Nat) (e : HE) : Nat → Option HE := fun k => bif Nat.beq k n then some e else h k
/-- the slices of the call's own that are written no more -/
def frz : (Nat → Option HE) → List Nat → Option (List (Nat × HE))
  | _, [] => some []
  | h, n :: l => match h n with
    | some (.own _ k f) => match frz (setF h n (.deep [.row k f])) l with
      | some m => some ((n, .deep [.row k f]) :: m)
      | none => none
    | some (.deep _) => frz h l
    | _ => none
def frz1 (h : Nat → Option HE) (l : List Nat) : List (Nat × HE) :=
  match frz h l with
  | some m => m
  | none => []

/-! ### calls that are lent cells -/
/-- an argument: what is only read; an address into a lent block; a function with such addresses -/
inductive LA where
  | d (v : DV)
  | lp (i off : Nat)
  | fn (K : Nat) (caps : List (Nat × Nat))
abbrev Lent := List (TypeId × List Value)
/-! ### tables -/
structure Tabs where
  tb : Nat → List Value → Option (Value × List Prop)
  td : Nat → List DV → Option (RV × List Prop)
  dres : Nat → Bool
  dty : TypeId → Bool
  pin : Nat → Option Bool := fun _ => none
  tx : Nat → Option (List LA → Lent → Option (Value × List (List Value) × List Prop)) := fun _ => none
  dtmp : Bool := false

def isDeepCall (X : Tabs) : Op → Bool
  | .call c => match c.callee with
    | .builtin .append => true
    | .value (.func K) => X.dres K
    | .value (.tmp _) => X.dtmp
    | _ => false
  | _ => false
def makes (X : Tabs) (o : Oper) : Bool :=
  match o.op with
  | .alloc _ => true
  | .box _ _ => true
  | .buildSlice _ _ _ => true
  | .makeSlice _ _ _ => true
  | .load t _ => X.dty t
  | .call _ => isDeepCall X o.op
  | _ => false

/-! ### operations -/
/-- One operation on plain values. -/
def plainRes (P : Program) (ev : Operand → SV) (o : Oper) : Option Res :=
  match plains ev o.op.operands.toList, o.op with
  | _, .select _ _ => none
  | some _, _ =>
    match pureRun P (execOp (fun x => plainD (ev x)) o) with
    | some (.value u) => if flat u then some { val := if o.op.operands.toList.all (fun x => closed (ev x)) then .k u else .v u, upd := [], sides := [] } else none
    | _ => none
  | none, _ => none

/-- a value of type t out of cells that are told -/
def updD (fresh : Nat) (ds : List DC) : List (Nat × HE) :=
  match flatD ds with
  | true => []
  | false => [(fresh, .deep ds)]
def loadD (P : Program) (t : TypeId) (fresh : Nat) (deep : Bool) (cs : List DC) (off : Nat) : Option Res :=
  match isAggB P t, sizeO P t with
  | some true, some n =>
    if off + n ≤ cs.length ∧ pOk ((cs.drop off).take n) = true ∧ (flatD ((cs.drop off).take n) || deep) = true then
      some { val := .v (.agg (instC fresh 0 ((cs.drop off).take n)).toArray), upd := updD fresh ((cs.drop off).take n), sides := [] }
    else none
  | some false, some _ => match cs[off]? with
    | some d => if pOk [d] = true ∧ (flatD [d] || deep) = true then some { val := .v ((instC fresh 0 [d]).headD undef), upd := updD fresh [d], sides := [] } else none
    | none => none
  | _, _ => none

/-- the elements of a slice that is built -/
def chunks (size : Nat) : Nat → List DC → List (List DC)
  | 0, _ => []
  | n + 1, l => l.take size :: chunks size n (l.drop size)
def mergeDC (b : Bool) : DC → DC → DC
  | .p x, .p y => .p (mergeN 3 b x y)
  | x, y => bif b then x else y
def pickL : Nat → List (List DC) → Nat → List DC
  | _, [], _ => []
  | _, [c], _ => c
  | k, c :: d :: l, i => List.zipWith (mergeDC (Nat.beq i k)) c (pickL (k + 1) (d :: l) i)
def appF (n : Nat) (f g : Nat → List DC) : Nat → List DC := fun i => bif Nat.blt i n then f i else g (i - n)
def setMany' : List DC → Nat → List DC → List DC
  | cs, _, [] => cs
  | cs, off, v :: vs => setMany' (cs.set off v) (off + 1) vs
def updF (f : Nat → List DC) (i : Nat) (off : Nat) (ds : List DC) : Nat → List DC := fun k => bif Nat.beq k i then setMany' (f k) off ds else f k

/-- where an address leads -/
inductive Plc where
  | own (n off : Nat)
  | ix (n off : Nat) (i : Int) (len size : Nat)
  | ex (n j off size : Nat) (i : Int)
  | hp (n j off : Nat)
def plcOf : SV → Option Plc
  | .v (.pointer (some a)) => match a.spot with
    | none => some (.own a.block a.off)
    | some _ => some (.hp a.block a.off 0)
  | .ix n off i len size => some (.ix n off i len size)
  | .ex n j off size i => some (.ex n j off size i)
  | .hp n j off => some (.hp n j off)
  | _ => none

def loadRes (P : Program) (hp : Nat → Option HE) (fresh : Nat) (deep : Bool) (t : TypeId) : Plc → Option Res
  | .own n off => match hp n with
    | some (.cells _ cs) => match loadOf P t cs off with
      | some u => if isAggB P t = some true ∨ oneCellB u = true then some { val := .v u, upd := [], sides := [] } else none
      | none => none
    | _ => none
  | .ix n off i len size => match hp n with
    | some (.cells _ cs) => match loadAll P t cs off size 0 len with
      | some us => match pickAt i 0 us with
        | some u => if allB flat0 cs && flat u then some { val := .v u, upd := [], sides := [] } else none
        | none => none
      | none => none
    | _ => none
  | .ex n j off size i => match rowAt hp n j with
    | some (_, f) => if (f i.toNat).length = size then loadD P t fresh deep (f i.toNat) off else none
    | none => none
  | .hp n j off => match viewAt hp n j with
    | some cs => loadD P t fresh deep cs off
    | none => none

def storeRes (P : Program) (hp : Nat → Option HE) (t : TypeId) (u : Value) : Plc → Option Res
  | .own n off => match hp n, sizeO P t with
    | some (.cells ty cs), some m => if u.cells.size = m ∧ off + m ≤ cs.length ∧ u.cells.toList.all oneCellB then some { val := .k undef, upd := [(n, .cells ty (setMany cs off u.cells.toList))], sides := [] } else none
    | _, _ => none
  | .ix n off i len size => match hp n, sizeO P t with
    | some (.cells ty cs), some m => if flat u && allB flat0 cs && decide (u.cells.size = m ∧ off + (len - 1) * size + m ≤ cs.length ∧ u.cells.toList.all oneCellB) && allB flat0 (storeAll i u.cells.toList off size 0 len cs) then some { val := .k undef, upd := [(n, .cells ty (storeAll i u.cells.toList off size 0 len cs))], sides := [] } else none
    | _, _ => none
  | .ex n j off size i => match hp n, j, sizeO P t, mapO (toDC0 hp) u.cells.toList with
    | some (.own ty k f), 0, some m, some ds =>
      match frz (setF hp n .gone) (refs u) with
      | some l => if u.cells.size = m ∧ (f i.toNat).length = size ∧ off + m ≤ size ∧ u.cells.toList.all oneCellB then some { val := .k undef, upd := l ++ [(n, .own ty k (updF f i.toNat off ds))], sides := [] } else none
      | none => none
    | _, _, _, _ => none
  | .hp _ _ _ => none

/-- the result of a call -/
def callRes (hp : Nat → Option HE) (fresh : Nat) (deep : Bool) (vs : List Value) (r : RV) (ps : List Prop) : Option Res :=
  if pOk (cellsR r) then
    if flatD (cellsR r) = true then some { val := .v (instR fresh r), upd := [], sides := ps }
    else match deep, frz hp (refsL refs vs) with
      | true, some l => some { val := .v (instR fresh r), upd := l ++ [(fresh, .deep (cellsR r))], sides := ps }
      | _, _ => none
  else none
def callAny (X : Tabs) (hp : Nat → Option HE) (fresh : Nat) (K : Nat) (vs : List Value) : Option Res :=
  match toDVs hp vs with
  | some ds => match X.td K ds with
    | some (r, ps) => callRes hp fresh (X.dres K) vs r ps
    | none => none
  | none => none
/-! ### calls that are lent cells -/
def hideC (hp : Nat → Option HE) (n : Nat) : Option HE :=
  match hp n with
  | some (.cells _ _) => none
  | x => x
def ixAt (n : Nat) : Nat → List Nat → Option Nat
  | _, [] => none
  | k, m :: l => bif Nat.beq m n then some k else ixAt n (k + 1) l
def addN (l : List Nat) (n : Nat) : List Nat × Nat :=
  match ixAt n 0 l with
  | some k => (l, k)
  | none => (l ++ [n], l.length)
def lendCaps : List Nat → List Value → Option (List Nat × List (Nat × Nat))
  | l, [] => some (l, [])
  | l, .pointer (some a) :: vs => match a.spot with
    | none => match lendCaps (addN l a.block).1 vs with
      | some (l', cs) => some (l', ((addN l a.block).2, a.off) :: cs)
      | none => none
    | some _ => none
  | _, _ :: _ => none
def lendOne (hp : Nat → Option HE) (l : List Nat) : Value → Option (List Nat × LA)
  | .pointer (some a) => match a.spot with
    | none => some ((addN l a.block).1, .lp (addN l a.block).2 a.off)
    | some _ => match toDV (hideC hp) (.pointer (some a)) with
      | some d => some (l, .d d)
      | none => none
  | .func (.func K) fst caps => match fst.toList, lendCaps l caps.toList with
    | [], some (l', cs) => some (l', .fn K cs)
    | _, _ => none
  | v => match toDV (hideC hp) v with
    | some d => some (l, .d d)
    | none => none
def lendAll (hp : Nat → Option HE) : List Nat → List Value → Option (List Nat × List LA)
  | l, [] => some (l, [])
  | l, v :: vs => match lendOne hp l v with
    | some (l', a) => match lendAll hp l' vs with
      | some (l'', as) => some (l'', a :: as)
      | none => none
    | none => none
def lentOf (hp : Nat → Option HE) : List Nat → Option Lent
  | [] => some []
  | n :: l => match hp n, lentOf hp l with
    | some (.cells t cs), some m => match allB flat0 cs with
      | true => some ((t, cs) :: m)
      | false => none
    | _, _ => none
/-- what the lent blocks hold now -/
def lentUpd : List Nat → Lent → List (List Value) → Option (List (Nat × HE))
  | [], [], [] => some []
  | n :: l, (t, cs) :: m, o :: os => match allB flat0 o, Nat.beq o.length cs.length, lentUpd l m os with
    | true, true, some u => some ((n, .cells t o) :: u)
    | _, _, _ => none
  | _, _, _ => none
def callIO (X : Tabs) (hp : Nat → Option HE) (K : Nat) (vs : List Value) : Option Res :=
  match X.tx K, lendAll hp [] vs with
  | some f, some (σ, as) => match lentOf hp σ with
    | some lent => match f as lent with
      | some (u, os, ps) => match lentUpd σ lent os, flat u with
        | some up, true => some { val := .v u, upd := up, sides := ps }
        | _, _ => none
      | none => none
    | none => none
  | _, _ => none
def callAll (X : Tabs) (hp : Nat → Option HE) (fresh : Nat) (K : Nat) (vs : List Value) : Option Res :=
  match X.tx K with
  | some _ => match X.dres K with
    | true => callIO X hp K vs
    | false => none
  | none => callAny X hp fresh K vs
/-- the slice that a value is -/
def asRow (hp : Nat → Option HE) : Value → Option (Nat × (Nat → List DC))
  | .slice none 0 0 => some (0, fun _ => [])
  | .slice (some a) _ _ => match a.spot with
    | some _ => rowAt hp a.block a.off
    | none => none
  | _ => none
/-- the slice that is appended to: it, what becomes of its name -/
def asOwn (hp : Nat → Option HE) (e : TypeId) : Value → Option ((Nat × (Nat → List DC)) × List (Nat × HE))
  | .slice none 0 0 => some ((0, fun _ => []), [])
  | .slice (some a) _ _ => match a.spot, a.off, hp a.block with
    | some _, 0, some (.own t n f) => if t = e then some ((n, f), [(a.block, .gone)]) else none
    | _, _, _ => none
  | _ => none
def bytesO (P : Program) (t : TypeId) : Option Nat := (P.info? t).map (·.bytes)
def zeroDC (P : Program) (t : TypeId) : Option (List DC) :=
  match (P.info? t).bind (·.zero) with
  | some z => if allB flat0 z.cells.toList && z.cells.toList.all oneCellB then mapO (toDC0 fun _ => none) z.cells.toList else none
  | none => none

def opRes (P : Program) (X : Tabs) (ev : List (Nat × Bool) → Operand → SV) (hp : Nat → Option HE) (fresh : Nat) (cs : List (Nat × Bool)) (o : Oper) : Option Res :=
  match o.op with
  | .pick c x y =>
    match ev cs c, c with
    | .k (.bool b), _ => match named (ev (withC cs c b) (if b then x else y)) with
      | some u => some { val := .v u, upd := [], sides := [] }
      | none => none
    | .v (.bool b), .tmp t => match plain (ev (cs ++ [(t, true)]) x), plain (ev (cs ++ [(t, false)]) y) with
      | some u, some v => if flat (mergeN 3 b u v) then some { val := .v (mergeN 3 b u v), upd := [], sides := [] } else none
      | _, _ => none
    | _, _ => none
  | .move x => some { val := ev cs x, upd := [], sides := [] }
  | .assign x => some { val := ev cs x, upd := [], sides := [] }
  | .alloc t => match (P.info? t).bind (·.zero) with
    | some z => if allB flat0 z.cells.toList then some { val := .v (.pointer (some ⟨fresh, 0, none⟩)), upd := [(fresh, .cells t z.cells.toList)], sides := [] } else none
    | none => none
  | .box t x => match named (ev cs x) with
    | some u => if u.cells.toList.all oneCellB then some { val := .v (.pointer (some ⟨fresh, 0, none⟩)), upd := [(fresh, .cells t u.cells.toList)], sides := [] } else none
    | none => none
  | .load t x => match plcOf (ev cs x) with
    | some p => loadRes P hp fresh (X.dty t) t p
    | none => none
  | .store t x y => match plcOf (ev cs x), named (ev cs y) with
    | some p, some u => storeRes P hp t u p
    | _, _ => none
  | .fieldAddr s x f => match plcOf (ev cs x), fieldOf P s f with
    | some p, some fd => match sizeO P fd.type with
      | some (_ + 1) => match p with
        | .own n off => some { val := .v (.pointer (some ⟨n, off + fd.offset, none⟩)), upd := [], sides := [] }
        | .ix n off i len size => some { val := .ix n (off + fd.offset) i len size, upd := [], sides := [] }
        | .ex n j off size i => some { val := .ex n j (off + fd.offset) size i, upd := [], sides := [] }
        | .hp n j off => match viewAt hp n j with
          | some _ => some { val := .hp n j (off + fd.offset), upd := [], sides := [] }
          | none => none
      | _ => none
    | _, _ => none
  | .indexAddr t x y => match ev cs x, plain (ev cs y), closed (ev cs y) with
    | .v (.pointer (some a)), some (.int _ i), c => match a.spot, arrayOf P t with
      | none, some (len, e) => match sizeO P e with
        | some size => match c with
          | true => if 0 ≤ i ∧ i < len then some { val := .v (.pointer (some ⟨a.block, a.off + i.toNat * size, none⟩)), upd := [], sides := [] } else none
          | false => some { val := .ix a.block a.off i len size, upd := [], sides := [0 ≤ i ∧ i < len] }
        | none => none
      | _, _ => none
    | .v (.slice (some a) n _), some (.int _ i), _ => match a.spot, sliceOf P t, rowAt hp a.block a.off with
      | some _, some e, some (k, _) => match sizeO P e with
        | some size => some { val := .ex a.block a.off 0 size i, upd := [], sides := [0 ≤ i ∧ i < (k : Int)] }
        | none => none
      | _, _, _ => none
    | _, _, _ => none
  | .build t parts => match nameds (ev cs) (parts.toList.map (·.2)), P.underlying t, (P.info? t).bind (·.zero) with
    | some vs, some (.struct fields), some z => match fields.toList.mapM (fun f => (sizeO P f.type).map fun s => (f.offset, s)) with
      | some places => if allB flat0 z.cells.toList && vs.all (fun v => v.cells.toList.all oneCellB) then
          match Instr.fill (places[·]?) z.cells ((parts.toList.map (·.1)).zip vs) with
          | some cells => some { val := .v (.agg cells), upd := [], sides := [] }
          | none => none
        else none
      | none => none
    | _, _, _ => none
  | .extract x i => match ev cs x with
    | .v (.tuple vs) => match vs.toList[i]? with
      | some (.tuple _) => none
      | some u => some { val := .v u, upd := [], sides := [] }
      | none => none
    | _ => plainRes P (ev cs) o
  | .field t x f => match ev cs x, fieldOf P t f with
    | .v (.agg vs), some fd => match partOf P fd.type vs.toList fd.offset with
      | some u => if isAggB P fd.type = some true ∨ oneCellB u = true then some { val := .v u, upd := [], sides := [] } else none
      | none => none
    | _, _ => none
  | .makeFunc (.func K) first caps => match first.toList, nameds (ev cs) caps.toList with
    | [], some vs => if vs.all oneCellB && vs.all (fun v => match v with | .func _ _ _ => false | _ => true) then some { val := .v (.func (.func K) #[] vs.toArray), upd := [], sides := [] } else none
    | _, _ => none
  | .buildSlice t len parts => match sliceOf P t, nameds (ev cs) (parts.toList.map (·.2)) with
    | some e, some vs => match sizeO P e, (P.info? e).bind (·.zero) with
      | some size, some z =>
        if len * size > 2 ^ 24 then none else if len * size = 0 then none else
        if vs.all (fun v => v.cells.toList.all oneCellB) && allB flat0 ((Array.range (len * size)).map (z.cells[· % z.cells.size]!)).toList then
          match Instr.fill (fun i => some (i * size, size)) ((Array.range (len * size)).map (z.cells[· % z.cells.size]!)) ((parts.toList.map (·.1)).zip vs) with
          | some cells => match mapO (toDC0 hp) cells.toList, frz hp (refsL refs vs) with
            | some ds, some l => some { val := .v (.slice (some ⟨fresh, 0, some 0⟩) len 0), upd := l ++ [(fresh, .own e len (pickL 0 (chunks size len ds)))], sides := [] }
            | _, _ => none
          | none => none
        else none
      | _, _ => none
    | _, _ => none
  | .makeSlice t x y => match sliceOf P t, plain (ev cs x), plain (ev cs y) with
    | some e, some (.int _ i), some (.int _ j) => match sizeO P e, bytesO P e, zeroDC P e with
      | some (size + 1), some b, some ds => if ds.length = size + 1 then some { val := .v (.slice (some ⟨fresh, 0, some 0⟩) i.toNat 0), upd := [(fresh, .own e i.toNat fun _ => ds)], sides := [0 ≤ i ∧ i ≤ j ∧ j ≤ 9223372036854775807 ∧ (b : Int) * j ≤ 281474976710656] } else none
      | _, _, _ => none
    | _, _, _ => none
  | .call { callee := .builtin .len, args, argTypes } => match args.toList, argTypes.toList with
    | [x], [t] => match ev cs x, sliceOf P t with
      | .v (.slice (some a) n c), some _ => match asRow hp (.slice (some a) n c) with
        | some (k, _) => some { val := .v (.int .i64 (k : Int)), upd := [], sides := [] }
        | none => none
      | .v (.slice none 0 0), some _ => some { val := .k (.int .i64 0), upd := [], sides := [] }
      | .k (.slice none 0 0), some _ => some { val := .k (.int .i64 0), upd := [], sides := [] }
      | _, _ => plainRes P (ev cs) o
    | _, _ => none
  | .call { callee := .builtin .append, args, argTypes } => match args.toList, argTypes.toList with
    | [x, y], [t, t'] => match named (ev cs x), named (ev cs y), sliceOf P t with
      | some u, some v, some e => if t = t' then
          match asOwn hp e u, asRow hp v, sizeO P e, bytesO P e, (P.info? e).bind (·.zero) with
          | some ((n, f), l), some (m, g), some (size + 1), some b, some z =>
            if z.cells.size = size + 1 ∧ ((g 0).length = size + 1 ∨ m = 0) then
              match frz (fun k => bif l.any (fun q => Nat.beq q.1 k) then none else hp k) (refs v) with
              | some l' => some { val := .v (.slice (some ⟨fresh, 0, some 0⟩) (n + m) 0), upd := l' ++ l ++ [(fresh, .own e (n + m) (appF n f g))], sides := [((n + m : Nat) : Int) * b ≤ 140737488355328 ∧ ((n + m : Nat) : Int) ≤ 9223372036854775807] }
              | none => none
            else none
          | _, _, _, _, _ => none
        else none
      | _, _, _ => none
    | _, _ => none
  | .call { callee := .value (.func K), args, argTypes := _ } =>
    match (match plains (ev cs) args.toList with
      | some vs => X.tb K vs
      | none => none) with
    | some (u, ps) => if flat u then some { val := .v u, upd := [], sides := ps } else none
    | none => match nameds (ev cs) args.toList with
      | some vs => callAll X hp fresh K vs
      | none => none
  | .call { callee := .value (.tmp t), args, argTypes := _ } =>
    match ev cs (.tmp t), nameds (ev cs) args.toList with
    | .v (.func (.func K) fst caps), some vs => match fst.toList, (match X.dres K with | true => X.dtmp | false => true) with
      | [], true => if caps.toList.all oneCellB && caps.toList.all (fun v => match v with | .func _ _ _ => false | _ => true) then callAll X hp fresh K (vs ++ caps.toList) else none
      | _, _ => none
    | .k (.func (.func K) fst caps), some vs => match fst.toList, caps.toList, X.dres K with
      | [], [], false => match (match plains (ev cs) args.toList with
          | some ws => X.tb K ws
          | none => none) with
        | some (u, ps) => if flat u then some { val := .v u, upd := [], sides := ps } else none
        | none => callAny X hp fresh K vs
      | _, _, _ => none
    | _, _ => none
  | .binOp op t x y _ =>
    match op, plain (ev cs x), plain (ev cs y), closed (ev cs y) with
    | .quo, some (.int k i), some (.int k' j), false => if k = k' then some { val := .v (.int k (k.wrap (i.tdiv j))), upd := [], sides := [j ≠ 0] } else none
    | .rem, some (.int k i), some (.int k' j), false => if k = k' then some { val := .v (.int k (i.tmod j)), upd := [], sides := [j ≠ 0] } else none
    | .eql, some (.agg u), some (.agg v), _ => match eqOf P t (.agg u) (.agg v) with
      | some b => some { val := .v (.bool b), upd := [], sides := [] }
      | none => none
    | .neq, some (.agg u), some (.agg v), _ => match eqOf P t (.agg u) (.agg v) with
      | some b => some { val := .v (.bool (!b)), upd := [], sides := [] }
      | none => none
    | _, _, _, _ => plainRes P (ev cs) o
  | _ => plainRes P (ev cs) o

/-! ### what an operation touches -/
abbrev Tch := List Nat × List Nat
def namesL (ev : Operand → SV) : List Operand → List Nat
  | [] => []
  | x :: l => names (ev x) ++ namesL ev l
def touchOf (X : Tabs) (ev : Operand → SV) (fresh : Nat) (o : Oper) : Tch :=
  match o.op with
  | .load t x => (names (ev x), if X.dty t then [fresh] else [])
  | .store _ x y => ([], names (ev x) ++ names (ev y))
  | .alloc _ => ([], [fresh])
  | .box _ _ => ([], [fresh])
  | .makeSlice _ _ _ => ([], [fresh])
  | .buildSlice _ _ ps => ([], namesL ev (ps.toList.map (·.2)) ++ [fresh])
  | .indexAddr _ x _ => (names (ev x), [])
  | .fieldAddr _ x _ => match plcOf (ev x) with
    | some (.hp n _ _) => ([n], [])
    | _ => ([], [])
  | .call { callee := .builtin .append, args, argTypes := _ } => ([], namesL ev args.toList ++ [fresh])
  | .call { callee := .builtin _, args, argTypes := _ } => (namesL ev args.toList, [])
  | .call { callee := .value (.func K), args, argTypes := _ } => if X.dres K then ([], namesL ev args.toList ++ [fresh]) else (namesL ev args.toList, [])
  | .call { callee := .value (.tmp t), args, argTypes := _ } => if X.dtmp then ([], names (ev (.tmp t)) ++ namesL ev args.toList ++ [fresh]) else (names (ev (.tmp t)) ++ namesL ev args.toList, [])
  | _ => ([], [])
end Go.Proofs.Ytgdjfclpncpnpaa.Dyn
