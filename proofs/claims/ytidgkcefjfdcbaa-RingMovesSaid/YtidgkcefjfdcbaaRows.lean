/-
  No cell of these rows narrows 'for every input' (looked for: loops, veiled, ifaces, maps, wideKeys, modest, calm, conditions, laid).
  DERIVED. THE GIVEN ROWS OF THIS SEAT. 12 by the template 'for every input the law returns true; each argument reads behind the call as it read before'; 0 by the template 'total and deterministic' (their statements: YtidgkcefjfdcbaaTotals.lean).
  GIVEN WITH THE SEED: the statements are not yours to turn. If you find one false, say at which input.
  Laid BY PROGRAM, IN A SANDBOX (cutbox-rows.mjs): the forced cells as the released guide's own fill.sh prints them over the translation 2a002d094f7e07e8… (all of the seat's roots in one cut). By AI agents, Wed Nov 11 2026. No macro, syntax, notation, axiom, sorry.
-/
import Derived.Test.YtidgkcefjfdcbaaChecked
import GoSem.Claim
import GoSem.ClaimJoined
import GoSem.ClaimMapViews
import Derived.JoinedTies
import Derived.KernelRfl
namespace Go.Proofs.Ytidgkcefjfdcbaa
/- THE CELL 'sum', in the pinned program and in every row, IS THE sha256 OF THE DUMP (.gsa) THAT YtidgkcefjfdcbaaProg.lean LOADS. Nothing in Lean hashes anything: it is a label: what it is worth is what the hold of that sum in a sandbox is worth. -/
noncomputable def Try.pinned : Pinned := { name := "ytidgkcefjfdcbaa", sum := "2a002d094f7e07e802e29c37ba079557333157d4406c852c1268b101f2dd8d7e", checked := Try.checked }
namespace Rows
def none {H : Type} : Left H := { results := [], args := [] }

/-- 'heliographlaw8.BarSure': WHATEVER THE INPUT: true; the input reads as it did. -/
def barSureSpec : ChangeSpec := { name := "barSure", fn := fun _ => fun
  | [d1, d2, d3, d4, d5, d6, d7] => { results := [.lit (.bool true)], args := [d1, d2, d3, d4, d5, d6, d7] }
  | _ => none }
def barSureRow : OpenClaim := { program := "ytidgkcefjfdcbaa", sum := "2a002d094f7e07e802e29c37ba079557333157d4406c852c1268b101f2dd8d7e", func := "heliograph/heliographlaw8.BarSure", spec := "barSure", apart := false }
def BarSureSaid : Prop := barSureRow.holds Try.pinned (OpenSpec.ofChange barSureSpec)

/-- ITS FALSE NEIGHBOUR: 'it returns false'. Refute it at one input. -/
def barSureWrong : ChangeSpec := { name := "barSure", fn := fun _ => fun
  | [d1, d2, d3, d4, d5, d6, d7] => { results := [.lit (.bool false)], args := [d1, d2, d3, d4, d5, d6, d7] }
  | _ => none }
def BarSureWrongFalsely : Prop := barSureRow.holds Try.pinned (OpenSpec.ofChange barSureWrong)

/-- 'heliographlaw8.BarStraight': WHATEVER THE INPUT: true; the input reads as it did. -/
def barStraightSpec : ChangeSpec := { name := "barStraight", fn := fun _ => fun
  | [d1, d2, d3, d4] => { results := [.lit (.bool true)], args := [d1, d2, d3, d4] }
  | _ => none }
def barStraightRow : OpenClaim := { program := "ytidgkcefjfdcbaa", sum := "2a002d094f7e07e802e29c37ba079557333157d4406c852c1268b101f2dd8d7e", func := "heliograph/heliographlaw8.BarStraight", spec := "barStraight", apart := false }
def BarStraightSaid : Prop := barStraightRow.holds Try.pinned (OpenSpec.ofChange barStraightSpec)

/-- ITS FALSE NEIGHBOUR: 'it returns false'. Refute it at one input. -/
def barStraightWrong : ChangeSpec := { name := "barStraight", fn := fun _ => fun
  | [d1, d2, d3, d4] => { results := [.lit (.bool false)], args := [d1, d2, d3, d4] }
  | _ => none }
def BarStraightWrongFalsely : Prop := barStraightRow.holds Try.pinned (OpenSpec.ofChange barStraightWrong)

/-- 'heliographlaw7.LineThick': WHATEVER THE INPUT: true; the input reads as it did. -/
def lineThickSpec : ChangeSpec := { name := "lineThick", fn := fun _ => fun
  | [d1, d2, d3, d4, d5, d6] => { results := [.lit (.bool true)], args := [d1, d2, d3, d4, d5, d6] }
  | _ => none }
def lineThickRow : OpenClaim := { program := "ytidgkcefjfdcbaa", sum := "2a002d094f7e07e802e29c37ba079557333157d4406c852c1268b101f2dd8d7e", func := "heliograph/heliographlaw7.LineThick", spec := "lineThick", apart := false }
def LineThickSaid : Prop := lineThickRow.holds Try.pinned (OpenSpec.ofChange lineThickSpec)

/-- ITS FALSE NEIGHBOUR: 'it returns false'. Refute it at one input. -/
def lineThickWrong : ChangeSpec := { name := "lineThick", fn := fun _ => fun
  | [d1, d2, d3, d4, d5, d6] => { results := [.lit (.bool false)], args := [d1, d2, d3, d4, d5, d6] }
  | _ => none }
def LineThickWrongFalsely : Prop := lineThickRow.holds Try.pinned (OpenSpec.ofChange lineThickWrong)

/-- 'heliographlaw7.LineTells': WHATEVER THE INPUT: true; the input reads as it did. -/
def lineTellsSpec : ChangeSpec := { name := "lineTells", fn := fun _ => fun
  | [d1, d2, d3, d4, d5, d6] => { results := [.lit (.bool true)], args := [d1, d2, d3, d4, d5, d6] }
  | _ => none }
def lineTellsRow : OpenClaim := { program := "ytidgkcefjfdcbaa", sum := "2a002d094f7e07e802e29c37ba079557333157d4406c852c1268b101f2dd8d7e", func := "heliograph/heliographlaw7.LineTells", spec := "lineTells", apart := false }
def LineTellsSaid : Prop := lineTellsRow.holds Try.pinned (OpenSpec.ofChange lineTellsSpec)

/-- ITS FALSE NEIGHBOUR: 'it returns false'. Refute it at one input. -/
def lineTellsWrong : ChangeSpec := { name := "lineTells", fn := fun _ => fun
  | [d1, d2, d3, d4, d5, d6] => { results := [.lit (.bool false)], args := [d1, d2, d3, d4, d5, d6] }
  | _ => none }
def LineTellsWrongFalsely : Prop := lineTellsRow.holds Try.pinned (OpenSpec.ofChange lineTellsWrong)

/-- 'heliographlaw7.LineSure': WHATEVER THE INPUT: true; the input reads as it did. -/
def lineSureSpec : ChangeSpec := { name := "lineSure", fn := fun _ => fun
  | [d1, d2, d3, d4, d5, d6, d7] => { results := [.lit (.bool true)], args := [d1, d2, d3, d4, d5, d6, d7] }
  | _ => none }
def lineSureRow : OpenClaim := { program := "ytidgkcefjfdcbaa", sum := "2a002d094f7e07e802e29c37ba079557333157d4406c852c1268b101f2dd8d7e", func := "heliograph/heliographlaw7.LineSure", spec := "lineSure", apart := false }
def LineSureSaid : Prop := lineSureRow.holds Try.pinned (OpenSpec.ofChange lineSureSpec)

/-- ITS FALSE NEIGHBOUR: 'it returns false'. Refute it at one input. -/
def lineSureWrong : ChangeSpec := { name := "lineSure", fn := fun _ => fun
  | [d1, d2, d3, d4, d5, d6, d7] => { results := [.lit (.bool false)], args := [d1, d2, d3, d4, d5, d6, d7] }
  | _ => none }
def LineSureWrongFalsely : Prop := lineSureRow.holds Try.pinned (OpenSpec.ofChange lineSureWrong)

/-- 'heliographlaw7.LineStraight': WHATEVER THE INPUT: true; the input reads as it did. -/
def lineStraightSpec : ChangeSpec := { name := "lineStraight", fn := fun _ => fun
  | [d1, d2, d3, d4] => { results := [.lit (.bool true)], args := [d1, d2, d3, d4] }
  | _ => none }
def lineStraightRow : OpenClaim := { program := "ytidgkcefjfdcbaa", sum := "2a002d094f7e07e802e29c37ba079557333157d4406c852c1268b101f2dd8d7e", func := "heliograph/heliographlaw7.LineStraight", spec := "lineStraight", apart := false }
def LineStraightSaid : Prop := lineStraightRow.holds Try.pinned (OpenSpec.ofChange lineStraightSpec)

/-- ITS FALSE NEIGHBOUR: 'it returns false'. Refute it at one input. -/
def lineStraightWrong : ChangeSpec := { name := "lineStraight", fn := fun _ => fun
  | [d1, d2, d3, d4] => { results := [.lit (.bool false)], args := [d1, d2, d3, d4] }
  | _ => none }
def LineStraightWrongFalsely : Prop := lineStraightRow.holds Try.pinned (OpenSpec.ofChange lineStraightWrong)

/-- 'heliographlaw8.BarLine': WHATEVER THE INPUT: true; the input reads as it did. -/
def barLineSpec : ChangeSpec := { name := "barLine", fn := fun _ => fun
  | [d1, d2, d3, d4] => { results := [.lit (.bool true)], args := [d1, d2, d3, d4] }
  | _ => none }
def barLineRow : OpenClaim := { program := "ytidgkcefjfdcbaa", sum := "2a002d094f7e07e802e29c37ba079557333157d4406c852c1268b101f2dd8d7e", func := "heliograph/heliographlaw8.BarLine", spec := "barLine", apart := false }
def BarLineSaid : Prop := barLineRow.holds Try.pinned (OpenSpec.ofChange barLineSpec)

/-- ITS FALSE NEIGHBOUR: 'it returns false'. Refute it at one input. -/
def barLineWrong : ChangeSpec := { name := "barLine", fn := fun _ => fun
  | [d1, d2, d3, d4] => { results := [.lit (.bool false)], args := [d1, d2, d3, d4] }
  | _ => none }
def BarLineWrongFalsely : Prop := barLineRow.holds Try.pinned (OpenSpec.ofChange barLineWrong)

/-- 'heliographlaw7.LineMeans': WHATEVER THE INPUT: true; the input reads as it did. -/
def lineMeansSpec : ChangeSpec := { name := "lineMeans", fn := fun _ => fun
  | [d1, d2, d3, d4, d5, d6] => { results := [.lit (.bool true)], args := [d1, d2, d3, d4, d5, d6] }
  | _ => none }
def lineMeansRow : OpenClaim := { program := "ytidgkcefjfdcbaa", sum := "2a002d094f7e07e802e29c37ba079557333157d4406c852c1268b101f2dd8d7e", func := "heliograph/heliographlaw7.LineMeans", spec := "lineMeans", apart := false }
def LineMeansSaid : Prop := lineMeansRow.holds Try.pinned (OpenSpec.ofChange lineMeansSpec)

/-- ITS FALSE NEIGHBOUR: 'it returns false'. Refute it at one input. -/
def lineMeansWrong : ChangeSpec := { name := "lineMeans", fn := fun _ => fun
  | [d1, d2, d3, d4, d5, d6] => { results := [.lit (.bool false)], args := [d1, d2, d3, d4, d5, d6] }
  | _ => none }
def LineMeansWrongFalsely : Prop := lineMeansRow.holds Try.pinned (OpenSpec.ofChange lineMeansWrong)

/-- 'heliographlaw9.RingMoves': WHATEVER THE INPUT: true; the input reads as it did. -/
def ringMovesSpec : ChangeSpec := { name := "ringMoves", fn := fun _ => fun
  | [d1, d2, d3, d4, d5, d6, d7, d8, d9] => { results := [.lit (.bool true)], args := [d1, d2, d3, d4, d5, d6, d7, d8, d9] }
  | _ => none }
def ringMovesRow : OpenClaim := { program := "ytidgkcefjfdcbaa", sum := "2a002d094f7e07e802e29c37ba079557333157d4406c852c1268b101f2dd8d7e", func := "heliograph/heliographlaw9.RingMoves", spec := "ringMoves", unfollowed := true, recurses := true, apart := false }
def RingMovesSaid : Prop := ringMovesRow.holds Try.pinned (OpenSpec.ofChange ringMovesSpec)

/-- ITS FALSE NEIGHBOUR: 'it returns false'. Refute it at one input. -/
def ringMovesWrong : ChangeSpec := { name := "ringMoves", fn := fun _ => fun
  | [d1, d2, d3, d4, d5, d6, d7, d8, d9] => { results := [.lit (.bool false)], args := [d1, d2, d3, d4, d5, d6, d7, d8, d9] }
  | _ => none }
def RingMovesWrongFalsely : Prop := ringMovesRow.holds Try.pinned (OpenSpec.ofChange ringMovesWrong)

/-- 'heliographlaw9.RingSure': WHATEVER THE INPUT: true; the input reads as it did. -/
def ringSureSpec : ChangeSpec := { name := "ringSure", fn := fun _ => fun
  | [d1, d2, d3, d4, d5, d6, d7, d8, d9] => { results := [.lit (.bool true)], args := [d1, d2, d3, d4, d5, d6, d7, d8, d9] }
  | _ => none }
def ringSureRow : OpenClaim := { program := "ytidgkcefjfdcbaa", sum := "2a002d094f7e07e802e29c37ba079557333157d4406c852c1268b101f2dd8d7e", func := "heliograph/heliographlaw9.RingSure", spec := "ringSure", apart := false }
def RingSureSaid : Prop := ringSureRow.holds Try.pinned (OpenSpec.ofChange ringSureSpec)

/-- ITS FALSE NEIGHBOUR: 'it returns false'. Refute it at one input. -/
def ringSureWrong : ChangeSpec := { name := "ringSure", fn := fun _ => fun
  | [d1, d2, d3, d4, d5, d6, d7, d8, d9] => { results := [.lit (.bool false)], args := [d1, d2, d3, d4, d5, d6, d7, d8, d9] }
  | _ => none }
def RingSureWrongFalsely : Prop := ringSureRow.holds Try.pinned (OpenSpec.ofChange ringSureWrong)

/-- 'heliographlaw9.RingCloses': WHATEVER THE INPUT: true; the input reads as it did. -/
def ringClosesSpec : ChangeSpec := { name := "ringCloses", fn := fun _ => fun
  | [d1, d2, d3, d4, d5, d6] => { results := [.lit (.bool true)], args := [d1, d2, d3, d4, d5, d6] }
  | _ => none }
def ringClosesRow : OpenClaim := { program := "ytidgkcefjfdcbaa", sum := "2a002d094f7e07e802e29c37ba079557333157d4406c852c1268b101f2dd8d7e", func := "heliograph/heliographlaw9.RingCloses", spec := "ringCloses", apart := false }
def RingClosesSaid : Prop := ringClosesRow.holds Try.pinned (OpenSpec.ofChange ringClosesSpec)

/-- ITS FALSE NEIGHBOUR: 'it returns false'. Refute it at one input. -/
def ringClosesWrong : ChangeSpec := { name := "ringCloses", fn := fun _ => fun
  | [d1, d2, d3, d4, d5, d6] => { results := [.lit (.bool false)], args := [d1, d2, d3, d4, d5, d6] }
  | _ => none }
def RingClosesWrongFalsely : Prop := ringClosesRow.holds Try.pinned (OpenSpec.ofChange ringClosesWrong)

/-- 'heliographlaw9.RingDiscs': WHATEVER THE INPUT: true; the input reads as it did. -/
def ringDiscsSpec : ChangeSpec := { name := "ringDiscs", fn := fun _ => fun
  | [d1, d2, d3, d4, d5, d6, d7] => { results := [.lit (.bool true)], args := [d1, d2, d3, d4, d5, d6, d7] }
  | _ => none }
def ringDiscsRow : OpenClaim := { program := "ytidgkcefjfdcbaa", sum := "2a002d094f7e07e802e29c37ba079557333157d4406c852c1268b101f2dd8d7e", func := "heliograph/heliographlaw9.RingDiscs", spec := "ringDiscs", apart := false }
def RingDiscsSaid : Prop := ringDiscsRow.holds Try.pinned (OpenSpec.ofChange ringDiscsSpec)

/-- ITS FALSE NEIGHBOUR: 'it returns false'. Refute it at one input. -/
def ringDiscsWrong : ChangeSpec := { name := "ringDiscs", fn := fun _ => fun
  | [d1, d2, d3, d4, d5, d6, d7] => { results := [.lit (.bool false)], args := [d1, d2, d3, d4, d5, d6, d7] }
  | _ => none }
def RingDiscsWrongFalsely : Prop := ringDiscsRow.holds Try.pinned (OpenSpec.ofChange ringDiscsWrong)

/- THE SECOND FORM. 'bulk': how many values and letters a reading holds, each counted each time it is reached (what is shared counts as often as it is met; a slice's spare places count too). A statement '..UptoSaid' is the law's where the arguments, and the package variables that the reading takes, are together of bulk at most 1048576: NARROWER than '..Said'. Prove '..Said' where nothing that the law and all that it calls make is longer than what came in: it says more and counts as full. Else prove '..UptoSaid'. A law counts once. -/
mutual
def uptoBulk {H : Type} : DataW H → Nat
  | .lit (.string bytes) => bytes.length + 1
  | .lit _ => 1
  | .nil => 1
  | .ptr d => uptoBulk d + 1
  | .slice elems spare => uptoBulkAll elems + uptoBulkAll spare + 1
  | .agg parts => uptoBulkAll parts + 1
  | .iface _ d => uptoBulk d + 1
  | .map entries => uptoBulkEntries entries + 1
  | .held _ => 1
def uptoBulkAll {H : Type} : List (DataW H) → Nat
  | [] => 0
  | d :: r => uptoBulk d + uptoBulkAll r
def uptoBulkEntries {H : Type} : List (Lit × DataW H) → Nat
  | [] => 0
  | x :: r => uptoBulkEntry x + uptoBulkEntries r
def uptoBulkEntry {H : Type} : Lit × DataW H → Nat
  | (.string bytes, d) => bytes.length + uptoBulk d + 1
  | (_, d) => uptoBulk d + 1
 end
def uptoSmall : (H : Type) → List (DataW H) → Bool := fun _ ds => decide (uptoBulkAll ds ≤ 1048576)
def OpenSpec.upto (s : _root_.Go.ChangeSpec) : _root_.Go.OpenSpec := { _root_.Go.OpenSpec.ofChange s with cond := some uptoSmall }

/-- 'heliographlaw8.BarSure', WHERE WHAT IT READS IS OF BULK AT MOST 1048576: true; the input reads as it did. -/
def barSureUptoRow : OpenClaim := { program := "ytidgkcefjfdcbaa", sum := "2a002d094f7e07e802e29c37ba079557333157d4406c852c1268b101f2dd8d7e", func := "heliograph/heliographlaw8.BarSure", spec := "barSure", apart := false, narrowed := true }
def BarSureUptoSaid : Prop := barSureUptoRow.holds Try.pinned (OpenSpec.upto barSureSpec)

/-- 'heliographlaw8.BarStraight', WHERE WHAT IT READS IS OF BULK AT MOST 1048576: true; the input reads as it did. -/
def barStraightUptoRow : OpenClaim := { program := "ytidgkcefjfdcbaa", sum := "2a002d094f7e07e802e29c37ba079557333157d4406c852c1268b101f2dd8d7e", func := "heliograph/heliographlaw8.BarStraight", spec := "barStraight", apart := false, narrowed := true }
def BarStraightUptoSaid : Prop := barStraightUptoRow.holds Try.pinned (OpenSpec.upto barStraightSpec)

/-- 'heliographlaw7.LineThick', WHERE WHAT IT READS IS OF BULK AT MOST 1048576: true; the input reads as it did. -/
def lineThickUptoRow : OpenClaim := { program := "ytidgkcefjfdcbaa", sum := "2a002d094f7e07e802e29c37ba079557333157d4406c852c1268b101f2dd8d7e", func := "heliograph/heliographlaw7.LineThick", spec := "lineThick", apart := false, narrowed := true }
def LineThickUptoSaid : Prop := lineThickUptoRow.holds Try.pinned (OpenSpec.upto lineThickSpec)

/-- 'heliographlaw7.LineTells', WHERE WHAT IT READS IS OF BULK AT MOST 1048576: true; the input reads as it did. -/
def lineTellsUptoRow : OpenClaim := { program := "ytidgkcefjfdcbaa", sum := "2a002d094f7e07e802e29c37ba079557333157d4406c852c1268b101f2dd8d7e", func := "heliograph/heliographlaw7.LineTells", spec := "lineTells", apart := false, narrowed := true }
def LineTellsUptoSaid : Prop := lineTellsUptoRow.holds Try.pinned (OpenSpec.upto lineTellsSpec)

/-- 'heliographlaw7.LineSure', WHERE WHAT IT READS IS OF BULK AT MOST 1048576: true; the input reads as it did. -/
def lineSureUptoRow : OpenClaim := { program := "ytidgkcefjfdcbaa", sum := "2a002d094f7e07e802e29c37ba079557333157d4406c852c1268b101f2dd8d7e", func := "heliograph/heliographlaw7.LineSure", spec := "lineSure", apart := false, narrowed := true }
def LineSureUptoSaid : Prop := lineSureUptoRow.holds Try.pinned (OpenSpec.upto lineSureSpec)

/-- 'heliographlaw7.LineStraight', WHERE WHAT IT READS IS OF BULK AT MOST 1048576: true; the input reads as it did. -/
def lineStraightUptoRow : OpenClaim := { program := "ytidgkcefjfdcbaa", sum := "2a002d094f7e07e802e29c37ba079557333157d4406c852c1268b101f2dd8d7e", func := "heliograph/heliographlaw7.LineStraight", spec := "lineStraight", apart := false, narrowed := true }
def LineStraightUptoSaid : Prop := lineStraightUptoRow.holds Try.pinned (OpenSpec.upto lineStraightSpec)

/-- 'heliographlaw8.BarLine', WHERE WHAT IT READS IS OF BULK AT MOST 1048576: true; the input reads as it did. -/
def barLineUptoRow : OpenClaim := { program := "ytidgkcefjfdcbaa", sum := "2a002d094f7e07e802e29c37ba079557333157d4406c852c1268b101f2dd8d7e", func := "heliograph/heliographlaw8.BarLine", spec := "barLine", apart := false, narrowed := true }
def BarLineUptoSaid : Prop := barLineUptoRow.holds Try.pinned (OpenSpec.upto barLineSpec)

/-- 'heliographlaw7.LineMeans', WHERE WHAT IT READS IS OF BULK AT MOST 1048576: true; the input reads as it did. -/
def lineMeansUptoRow : OpenClaim := { program := "ytidgkcefjfdcbaa", sum := "2a002d094f7e07e802e29c37ba079557333157d4406c852c1268b101f2dd8d7e", func := "heliograph/heliographlaw7.LineMeans", spec := "lineMeans", apart := false, narrowed := true }
def LineMeansUptoSaid : Prop := lineMeansUptoRow.holds Try.pinned (OpenSpec.upto lineMeansSpec)

/-- 'heliographlaw9.RingMoves', WHERE WHAT IT READS IS OF BULK AT MOST 1048576: true; the input reads as it did. -/
def ringMovesUptoRow : OpenClaim := { program := "ytidgkcefjfdcbaa", sum := "2a002d094f7e07e802e29c37ba079557333157d4406c852c1268b101f2dd8d7e", func := "heliograph/heliographlaw9.RingMoves", spec := "ringMoves", unfollowed := true, recurses := true, apart := false, narrowed := true }
def RingMovesUptoSaid : Prop := ringMovesUptoRow.holds Try.pinned (OpenSpec.upto ringMovesSpec)

/-- 'heliographlaw9.RingSure', WHERE WHAT IT READS IS OF BULK AT MOST 1048576: true; the input reads as it did. -/
def ringSureUptoRow : OpenClaim := { program := "ytidgkcefjfdcbaa", sum := "2a002d094f7e07e802e29c37ba079557333157d4406c852c1268b101f2dd8d7e", func := "heliograph/heliographlaw9.RingSure", spec := "ringSure", apart := false, narrowed := true }
def RingSureUptoSaid : Prop := ringSureUptoRow.holds Try.pinned (OpenSpec.upto ringSureSpec)

/-- 'heliographlaw9.RingCloses', WHERE WHAT IT READS IS OF BULK AT MOST 1048576: true; the input reads as it did. -/
def ringClosesUptoRow : OpenClaim := { program := "ytidgkcefjfdcbaa", sum := "2a002d094f7e07e802e29c37ba079557333157d4406c852c1268b101f2dd8d7e", func := "heliograph/heliographlaw9.RingCloses", spec := "ringCloses", apart := false, narrowed := true }
def RingClosesUptoSaid : Prop := ringClosesUptoRow.holds Try.pinned (OpenSpec.upto ringClosesSpec)

/-- 'heliographlaw9.RingDiscs', WHERE WHAT IT READS IS OF BULK AT MOST 1048576: true; the input reads as it did. -/
def ringDiscsUptoRow : OpenClaim := { program := "ytidgkcefjfdcbaa", sum := "2a002d094f7e07e802e29c37ba079557333157d4406c852c1268b101f2dd8d7e", func := "heliograph/heliographlaw9.RingDiscs", spec := "ringDiscs", apart := false, narrowed := true }
def RingDiscsUptoSaid : Prop := ringDiscsUptoRow.holds Try.pinned (OpenSpec.upto ringDiscsSpec)

end Rows
end Go.Proofs.Ytidgkcefjfdcbaa
