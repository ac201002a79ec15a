/-
  No cell of these rows narrows 'for every input' (looked for: loops, veiled, ifaces, maps, wideKeys, modest, calm, conditions, laid).
  DERIVED. THE GIVEN ROWS OF THIS SEAT. 12 by the template 'for every input the law returns true; each argument reads behind the call as it read before'; 0 by the template 'total and deterministic' (their statements: YtgdjfclpncpnpaaTotals.lean).
  GIVEN WITH THE SEED: the statements are not yours to turn. If you find one false, say at which input.
  Laid BY PROGRAM, IN A SANDBOX (cutbox-rows.mjs): the forced cells as the released guide's own fill.sh prints them over the translation 74196630e8459c3c… (all of the seat's roots in one cut). By AI agents, Wed Nov 11 2026. No macro, syntax, notation, axiom, sorry.
-/
import Derived.Test.YtgdjfclpncpnpaaChecked
import GoSem.Claim
import GoSem.ClaimJoined
import GoSem.ClaimMapViews
import Derived.JoinedTies
import Derived.KernelRfl
namespace Go.Proofs.Ytgdjfclpncpnpaa
/- THE CELL 'sum', in the pinned program and in every row, IS THE sha256 OF THE DUMP (.gsa) THAT YtgdjfclpncpnpaaProg.lean LOADS. Nothing in Lean hashes anything: it is a label: what it is worth is what the hold of that sum in a sandbox is worth. -/
noncomputable def Try.pinned : Pinned := { name := "ytgdjfclpncpnpaa", sum := "74196630e8459c3c4a67eab04c77cc29fdbbd52b52ef86d983637b9f7df385eb", checked := Try.checked }
namespace Rows
def none {H : Type} : Left H := { results := [], args := [] }

/-- 'heliographlaw5.DiscFar': WHATEVER THE INPUT: true; the input reads as it did. -/
def discFarSpec : ChangeSpec := { name := "discFar", fn := fun _ => fun
  | [d1, d2, d3] => { results := [.lit (.bool true)], args := [d1, d2, d3] }
  | _ => none }
def discFarRow : OpenClaim := { program := "ytgdjfclpncpnpaa", sum := "74196630e8459c3c4a67eab04c77cc29fdbbd52b52ef86d983637b9f7df385eb", func := "heliograph/heliographlaw5.DiscFar", spec := "discFar", apart := false }
def DiscFarSaid : Prop := discFarRow.holds Try.pinned (OpenSpec.ofChange discFarSpec)

/-- ITS FALSE NEIGHBOUR: 'it returns false'. Refute it at one input. -/
def discFarWrong : ChangeSpec := { name := "discFar", fn := fun _ => fun
  | [d1, d2, d3] => { results := [.lit (.bool false)], args := [d1, d2, d3] }
  | _ => none }
def DiscFarWrongFalsely : Prop := discFarRow.holds Try.pinned (OpenSpec.ofChange discFarWrong)

/-- 'heliographlaw5.DiscTells': WHATEVER THE INPUT: true; the input reads as it did. -/
def discTellsSpec : ChangeSpec := { name := "discTells", fn := fun _ => fun
  | [d1, d2, d3, d4, d5] => { results := [.lit (.bool true)], args := [d1, d2, d3, d4, d5] }
  | _ => none }
def discTellsRow : OpenClaim := { program := "ytgdjfclpncpnpaa", sum := "74196630e8459c3c4a67eab04c77cc29fdbbd52b52ef86d983637b9f7df385eb", func := "heliograph/heliographlaw5.DiscTells", spec := "discTells", apart := false }
def DiscTellsSaid : Prop := discTellsRow.holds Try.pinned (OpenSpec.ofChange discTellsSpec)

/-- ITS FALSE NEIGHBOUR: 'it returns false'. Refute it at one input. -/
def discTellsWrong : ChangeSpec := { name := "discTells", fn := fun _ => fun
  | [d1, d2, d3, d4, d5] => { results := [.lit (.bool false)], args := [d1, d2, d3, d4, d5] }
  | _ => none }
def DiscTellsWrongFalsely : Prop := discTellsRow.holds Try.pinned (OpenSpec.ofChange discTellsWrong)

/-- 'heliographlaw5.DiscSure': WHATEVER THE INPUT: true; the input reads as it did. -/
def discSureSpec : ChangeSpec := { name := "discSure", fn := fun _ => fun
  | [d1, d2, d3, d4, d5, d6] => { results := [.lit (.bool true)], args := [d1, d2, d3, d4, d5, d6] }
  | _ => none }
def discSureRow : OpenClaim := { program := "ytgdjfclpncpnpaa", sum := "74196630e8459c3c4a67eab04c77cc29fdbbd52b52ef86d983637b9f7df385eb", func := "heliograph/heliographlaw5.DiscSure", spec := "discSure", apart := false }
def DiscSureSaid : Prop := discSureRow.holds Try.pinned (OpenSpec.ofChange discSureSpec)

/-- ITS FALSE NEIGHBOUR: 'it returns false'. Refute it at one input. -/
def discSureWrong : ChangeSpec := { name := "discSure", fn := fun _ => fun
  | [d1, d2, d3, d4, d5, d6] => { results := [.lit (.bool false)], args := [d1, d2, d3, d4, d5, d6] }
  | _ => none }
def DiscSureWrongFalsely : Prop := discSureRow.holds Try.pinned (OpenSpec.ofChange discSureWrong)

/-- 'heliographlaw5.DiscMoves': WHATEVER THE INPUT: true; the input reads as it did. -/
def discMovesSpec : ChangeSpec := { name := "discMoves", fn := fun _ => fun
  | [d1, d2, d3, d4, d5] => { results := [.lit (.bool true)], args := [d1, d2, d3, d4, d5] }
  | _ => none }
def discMovesRow : OpenClaim := { program := "ytgdjfclpncpnpaa", sum := "74196630e8459c3c4a67eab04c77cc29fdbbd52b52ef86d983637b9f7df385eb", func := "heliograph/heliographlaw5.DiscMoves", spec := "discMoves", apart := false }
def DiscMovesSaid : Prop := discMovesRow.holds Try.pinned (OpenSpec.ofChange discMovesSpec)

/-- ITS FALSE NEIGHBOUR: 'it returns false'. Refute it at one input. -/
def discMovesWrong : ChangeSpec := { name := "discMoves", fn := fun _ => fun
  | [d1, d2, d3, d4, d5] => { results := [.lit (.bool false)], args := [d1, d2, d3, d4, d5] }
  | _ => none }
def DiscMovesWrongFalsely : Prop := discMovesRow.holds Try.pinned (OpenSpec.ofChange discMovesWrong)

/-- 'heliographlaw4.BoxApart': WHATEVER THE INPUT: true; the input reads as it did. -/
def boxApartSpec : ChangeSpec := { name := "boxApart", fn := fun _ => fun
  | [d1, d2] => { results := [.lit (.bool true)], args := [d1, d2] }
  | _ => none }
def boxApartRow : OpenClaim := { program := "ytgdjfclpncpnpaa", sum := "74196630e8459c3c4a67eab04c77cc29fdbbd52b52ef86d983637b9f7df385eb", func := "heliograph/heliographlaw4.BoxApart", spec := "boxApart", apart := false }
def BoxApartSaid : Prop := boxApartRow.holds Try.pinned (OpenSpec.ofChange boxApartSpec)

/-- ITS FALSE NEIGHBOUR: 'it returns false'. Refute it at one input. -/
def boxApartWrong : ChangeSpec := { name := "boxApart", fn := fun _ => fun
  | [d1, d2] => { results := [.lit (.bool false)], args := [d1, d2] }
  | _ => none }
def BoxApartWrongFalsely : Prop := boxApartRow.holds Try.pinned (OpenSpec.ofChange boxApartWrong)

/-- 'heliographlaw4.BoxHolds': WHATEVER THE INPUT: true; the input reads as it did. -/
def boxHoldsSpec : ChangeSpec := { name := "boxHolds", fn := fun _ => fun
  | [d1, d2, d3, d4] => { results := [.lit (.bool true)], args := [d1, d2, d3, d4] }
  | _ => none }
def boxHoldsRow : OpenClaim := { program := "ytgdjfclpncpnpaa", sum := "74196630e8459c3c4a67eab04c77cc29fdbbd52b52ef86d983637b9f7df385eb", func := "heliograph/heliographlaw4.BoxHolds", spec := "boxHolds", apart := false }
def BoxHoldsSaid : Prop := boxHoldsRow.holds Try.pinned (OpenSpec.ofChange boxHoldsSpec)

/-- ITS FALSE NEIGHBOUR: 'it returns false'. Refute it at one input. -/
def boxHoldsWrong : ChangeSpec := { name := "boxHolds", fn := fun _ => fun
  | [d1, d2, d3, d4] => { results := [.lit (.bool false)], args := [d1, d2, d3, d4] }
  | _ => none }
def BoxHoldsWrongFalsely : Prop := boxHoldsRow.holds Try.pinned (OpenSpec.ofChange boxHoldsWrong)

/-- 'heliographlaw4.BoxCrosses': WHATEVER THE INPUT: true; the input reads as it did. -/
def boxCrossesSpec : ChangeSpec := { name := "boxCrosses", fn := fun _ => fun
  | [d1, d2, d3] => { results := [.lit (.bool true)], args := [d1, d2, d3] }
  | _ => none }
def boxCrossesRow : OpenClaim := { program := "ytgdjfclpncpnpaa", sum := "74196630e8459c3c4a67eab04c77cc29fdbbd52b52ef86d983637b9f7df385eb", func := "heliograph/heliographlaw4.BoxCrosses", spec := "boxCrosses", apart := false }
def BoxCrossesSaid : Prop := boxCrossesRow.holds Try.pinned (OpenSpec.ofChange boxCrossesSpec)

/-- ITS FALSE NEIGHBOUR: 'it returns false'. Refute it at one input. -/
def boxCrossesWrong : ChangeSpec := { name := "boxCrosses", fn := fun _ => fun
  | [d1, d2, d3] => { results := [.lit (.bool false)], args := [d1, d2, d3] }
  | _ => none }
def BoxCrossesWrongFalsely : Prop := boxCrossesRow.holds Try.pinned (OpenSpec.ofChange boxCrossesWrong)

/-- 'heliographlaw6.PolySure': WHATEVER THE INPUT: true; the input reads as it did. -/
def polySureSpec : ChangeSpec := { name := "polySure", fn := fun _ => fun
  | [d1, d2, d3, d4, d5] => { results := [.lit (.bool true)], args := [d1, d2, d3, d4, d5] }
  | _ => none }
def polySureRow : OpenClaim := { program := "ytgdjfclpncpnpaa", sum := "74196630e8459c3c4a67eab04c77cc29fdbbd52b52ef86d983637b9f7df385eb", func := "heliograph/heliographlaw6.PolySure", spec := "polySure", apart := false }
def PolySureSaid : Prop := polySureRow.holds Try.pinned (OpenSpec.ofChange polySureSpec)

/-- ITS FALSE NEIGHBOUR: 'it returns false'. Refute it at one input. -/
def polySureWrong : ChangeSpec := { name := "polySure", fn := fun _ => fun
  | [d1, d2, d3, d4, d5] => { results := [.lit (.bool false)], args := [d1, d2, d3, d4, d5] }
  | _ => none }
def PolySureWrongFalsely : Prop := polySureRow.holds Try.pinned (OpenSpec.ofChange polySureWrong)

/-- 'heliographlaw6.PolyTurns': WHATEVER THE INPUT: true; the input reads as it did. -/
def polyTurnsSpec : ChangeSpec := { name := "polyTurns", fn := fun _ => fun
  | [d1, d2, d3, d4, d5] => { results := [.lit (.bool true)], args := [d1, d2, d3, d4, d5] }
  | _ => none }
def polyTurnsRow : OpenClaim := { program := "ytgdjfclpncpnpaa", sum := "74196630e8459c3c4a67eab04c77cc29fdbbd52b52ef86d983637b9f7df385eb", func := "heliograph/heliographlaw6.PolyTurns", spec := "polyTurns", apart := false }
def PolyTurnsSaid : Prop := polyTurnsRow.holds Try.pinned (OpenSpec.ofChange polyTurnsSpec)

/-- ITS FALSE NEIGHBOUR: 'it returns false'. Refute it at one input. -/
def polyTurnsWrong : ChangeSpec := { name := "polyTurns", fn := fun _ => fun
  | [d1, d2, d3, d4, d5] => { results := [.lit (.bool false)], args := [d1, d2, d3, d4, d5] }
  | _ => none }
def PolyTurnsWrongFalsely : Prop := polyTurnsRow.holds Try.pinned (OpenSpec.ofChange polyTurnsWrong)

/-- 'heliographlaw6.PolyOdd': WHATEVER THE INPUT: true; the input reads as it did. -/
def polyOddSpec : ChangeSpec := { name := "polyOdd", fn := fun _ => fun
  | [d1, d2, d3] => { results := [.lit (.bool true)], args := [d1, d2, d3] }
  | _ => none }
def polyOddRow : OpenClaim := { program := "ytgdjfclpncpnpaa", sum := "74196630e8459c3c4a67eab04c77cc29fdbbd52b52ef86d983637b9f7df385eb", func := "heliograph/heliographlaw6.PolyOdd", spec := "polyOdd", apart := false }
def PolyOddSaid : Prop := polyOddRow.holds Try.pinned (OpenSpec.ofChange polyOddSpec)

/-- ITS FALSE NEIGHBOUR: 'it returns false'. Refute it at one input. -/
def polyOddWrong : ChangeSpec := { name := "polyOdd", fn := fun _ => fun
  | [d1, d2, d3] => { results := [.lit (.bool false)], args := [d1, d2, d3] }
  | _ => none }
def PolyOddWrongFalsely : Prop := polyOddRow.holds Try.pinned (OpenSpec.ofChange polyOddWrong)

/-- 'heliographlaw8.BarParts': WHATEVER THE INPUT: true; the input reads as it did. -/
def barPartsSpec : ChangeSpec := { name := "barParts", fn := fun _ => fun
  | [d1, d2, d3, d4, d5, d6] => { results := [.lit (.bool true)], args := [d1, d2, d3, d4, d5, d6] }
  | _ => none }
def barPartsRow : OpenClaim := { program := "ytgdjfclpncpnpaa", sum := "74196630e8459c3c4a67eab04c77cc29fdbbd52b52ef86d983637b9f7df385eb", func := "heliograph/heliographlaw8.BarParts", spec := "barParts", apart := false }
def BarPartsSaid : Prop := barPartsRow.holds Try.pinned (OpenSpec.ofChange barPartsSpec)

/-- ITS FALSE NEIGHBOUR: 'it returns false'. Refute it at one input. -/
def barPartsWrong : ChangeSpec := { name := "barParts", fn := fun _ => fun
  | [d1, d2, d3, d4, d5, d6] => { results := [.lit (.bool false)], args := [d1, d2, d3, d4, d5, d6] }
  | _ => none }
def BarPartsWrongFalsely : Prop := barPartsRow.holds Try.pinned (OpenSpec.ofChange barPartsWrong)

/-- 'heliographlaw8.BarTells': WHATEVER THE INPUT: true; the input reads as it did. -/
def barTellsSpec : ChangeSpec := { name := "barTells", fn := fun _ => fun
  | [d1, d2, d3, d4, d5, d6] => { results := [.lit (.bool true)], args := [d1, d2, d3, d4, d5, d6] }
  | _ => none }
def barTellsRow : OpenClaim := { program := "ytgdjfclpncpnpaa", sum := "74196630e8459c3c4a67eab04c77cc29fdbbd52b52ef86d983637b9f7df385eb", func := "heliograph/heliographlaw8.BarTells", spec := "barTells", apart := false }
def BarTellsSaid : Prop := barTellsRow.holds Try.pinned (OpenSpec.ofChange barTellsSpec)

/-- ITS FALSE NEIGHBOUR: 'it returns false'. Refute it at one input. -/
def barTellsWrong : ChangeSpec := { name := "barTells", fn := fun _ => fun
  | [d1, d2, d3, d4, d5, d6] => { results := [.lit (.bool false)], args := [d1, d2, d3, d4, d5, d6] }
  | _ => none }
def BarTellsWrongFalsely : Prop := barTellsRow.holds Try.pinned (OpenSpec.ofChange barTellsWrong)

/- THE SECOND FORM. 'bulk': how many values and letters a reading holds, each counted each time it is reached (what is shared counts as often as it is met; a slice's spare places count too). A statement '..UptoSaid' is the law's where the arguments, and the package variables that the reading takes, are together of bulk at most 1048576: NARROWER than '..Said'. Prove '..Said' where nothing that the law and all that it calls make is longer than what came in: it says more and counts as full. Else prove '..UptoSaid'. A law counts once. -/
mutual
def uptoBulk {H : Type} : DataW H → Nat
  | .lit (.string bytes) => bytes.length + 1
  | .lit _ => 1
  | .nil => 1
  | .ptr d => uptoBulk d + 1
  | .slice elems spare => uptoBulkAll elems + uptoBulkAll spare + 1
  | .agg parts => uptoBulkAll parts + 1
  | .iface _ d => uptoBulk d + 1
  | .map entries => uptoBulkEntries entries + 1
  | .held _ => 1
def uptoBulkAll {H : Type} : List (DataW H) → Nat
  | [] => 0
  | d :: r => uptoBulk d + uptoBulkAll r
def uptoBulkEntries {H : Type} : List (Lit × DataW H) → Nat
  | [] => 0
  | x :: r => uptoBulkEntry x + uptoBulkEntries r
def uptoBulkEntry {H : Type} : Lit × DataW H → Nat
  | (.string bytes, d) => bytes.length + uptoBulk d + 1
  | (_, d) => uptoBulk d + 1
 end
def uptoSmall : (H : Type) → List (DataW H) → Bool := fun _ ds => decide (uptoBulkAll ds ≤ 1048576)
def OpenSpec.upto (s : _root_.Go.ChangeSpec) : _root_.Go.OpenSpec := { _root_.Go.OpenSpec.ofChange s with cond := some uptoSmall }

/-- 'heliographlaw5.DiscFar', WHERE WHAT IT READS IS OF BULK AT MOST 1048576: true; the input reads as it did. -/
def discFarUptoRow : OpenClaim := { program := "ytgdjfclpncpnpaa", sum := "74196630e8459c3c4a67eab04c77cc29fdbbd52b52ef86d983637b9f7df385eb", func := "heliograph/heliographlaw5.DiscFar", spec := "discFar", apart := false, narrowed := true }
def DiscFarUptoSaid : Prop := discFarUptoRow.holds Try.pinned (OpenSpec.upto discFarSpec)

/-- 'heliographlaw5.DiscTells', WHERE WHAT IT READS IS OF BULK AT MOST 1048576: true; the input reads as it did. -/
def discTellsUptoRow : OpenClaim := { program := "ytgdjfclpncpnpaa", sum := "74196630e8459c3c4a67eab04c77cc29fdbbd52b52ef86d983637b9f7df385eb", func := "heliograph/heliographlaw5.DiscTells", spec := "discTells", apart := false, narrowed := true }
def DiscTellsUptoSaid : Prop := discTellsUptoRow.holds Try.pinned (OpenSpec.upto discTellsSpec)

/-- 'heliographlaw5.DiscSure', WHERE WHAT IT READS IS OF BULK AT MOST 1048576: true; the input reads as it did. -/
def discSureUptoRow : OpenClaim := { program := "ytgdjfclpncpnpaa", sum := "74196630e8459c3c4a67eab04c77cc29fdbbd52b52ef86d983637b9f7df385eb", func := "heliograph/heliographlaw5.DiscSure", spec := "discSure", apart := false, narrowed := true }
def DiscSureUptoSaid : Prop := discSureUptoRow.holds Try.pinned (OpenSpec.upto discSureSpec)

/-- 'heliographlaw5.DiscMoves', WHERE WHAT IT READS IS OF BULK AT MOST 1048576: true; the input reads as it did. -/
def discMovesUptoRow : OpenClaim := { program := "ytgdjfclpncpnpaa", sum := "74196630e8459c3c4a67eab04c77cc29fdbbd52b52ef86d983637b9f7df385eb", func := "heliograph/heliographlaw5.DiscMoves", spec := "discMoves", apart := false, narrowed := true }
def DiscMovesUptoSaid : Prop := discMovesUptoRow.holds Try.pinned (OpenSpec.upto discMovesSpec)

/-- 'heliographlaw4.BoxApart', WHERE WHAT IT READS IS OF BULK AT MOST 1048576: true; the input reads as it did. -/
def boxApartUptoRow : OpenClaim := { program := "ytgdjfclpncpnpaa", sum := "74196630e8459c3c4a67eab04c77cc29fdbbd52b52ef86d983637b9f7df385eb", func := "heliograph/heliographlaw4.BoxApart", spec := "boxApart", apart := false, narrowed := true }
def BoxApartUptoSaid : Prop := boxApartUptoRow.holds Try.pinned (OpenSpec.upto boxApartSpec)

/-- 'heliographlaw4.BoxHolds', WHERE WHAT IT READS IS OF BULK AT MOST 1048576: true; the input reads as it did. -/
def boxHoldsUptoRow : OpenClaim := { program := "ytgdjfclpncpnpaa", sum := "74196630e8459c3c4a67eab04c77cc29fdbbd52b52ef86d983637b9f7df385eb", func := "heliograph/heliographlaw4.BoxHolds", spec := "boxHolds", apart := false, narrowed := true }
def BoxHoldsUptoSaid : Prop := boxHoldsUptoRow.holds Try.pinned (OpenSpec.upto boxHoldsSpec)

/-- 'heliographlaw4.BoxCrosses', WHERE WHAT IT READS IS OF BULK AT MOST 1048576: true; the input reads as it did. -/
def boxCrossesUptoRow : OpenClaim := { program := "ytgdjfclpncpnpaa", sum := "74196630e8459c3c4a67eab04c77cc29fdbbd52b52ef86d983637b9f7df385eb", func := "heliograph/heliographlaw4.BoxCrosses", spec := "boxCrosses", apart := false, narrowed := true }
def BoxCrossesUptoSaid : Prop := boxCrossesUptoRow.holds Try.pinned (OpenSpec.upto boxCrossesSpec)

/-- 'heliographlaw6.PolySure', WHERE WHAT IT READS IS OF BULK AT MOST 1048576: true; the input reads as it did. -/
def polySureUptoRow : OpenClaim := { program := "ytgdjfclpncpnpaa", sum := "74196630e8459c3c4a67eab04c77cc29fdbbd52b52ef86d983637b9f7df385eb", func := "heliograph/heliographlaw6.PolySure", spec := "polySure", apart := false, narrowed := true }
def PolySureUptoSaid : Prop := polySureUptoRow.holds Try.pinned (OpenSpec.upto polySureSpec)

/-- 'heliographlaw6.PolyTurns', WHERE WHAT IT READS IS OF BULK AT MOST 1048576: true; the input reads as it did. -/
def polyTurnsUptoRow : OpenClaim := { program := "ytgdjfclpncpnpaa", sum := "74196630e8459c3c4a67eab04c77cc29fdbbd52b52ef86d983637b9f7df385eb", func := "heliograph/heliographlaw6.PolyTurns", spec := "polyTurns", apart := false, narrowed := true }
def PolyTurnsUptoSaid : Prop := polyTurnsUptoRow.holds Try.pinned (OpenSpec.upto polyTurnsSpec)

/-- 'heliographlaw6.PolyOdd', WHERE WHAT IT READS IS OF BULK AT MOST 1048576: true; the input reads as it did. -/
def polyOddUptoRow : OpenClaim := { program := "ytgdjfclpncpnpaa", sum := "74196630e8459c3c4a67eab04c77cc29fdbbd52b52ef86d983637b9f7df385eb", func := "heliograph/heliographlaw6.PolyOdd", spec := "polyOdd", apart := false, narrowed := true }
def PolyOddUptoSaid : Prop := polyOddUptoRow.holds Try.pinned (OpenSpec.upto polyOddSpec)

/-- 'heliographlaw8.BarParts', WHERE WHAT IT READS IS OF BULK AT MOST 1048576: true; the input reads as it did. -/
def barPartsUptoRow : OpenClaim := { program := "ytgdjfclpncpnpaa", sum := "74196630e8459c3c4a67eab04c77cc29fdbbd52b52ef86d983637b9f7df385eb", func := "heliograph/heliographlaw8.BarParts", spec := "barParts", apart := false, narrowed := true }
def BarPartsUptoSaid : Prop := barPartsUptoRow.holds Try.pinned (OpenSpec.upto barPartsSpec)

/-- 'heliographlaw8.BarTells', WHERE WHAT IT READS IS OF BULK AT MOST 1048576: true; the input reads as it did. -/
def barTellsUptoRow : OpenClaim := { program := "ytgdjfclpncpnpaa", sum := "74196630e8459c3c4a67eab04c77cc29fdbbd52b52ef86d983637b9f7df385eb", func := "heliograph/heliographlaw8.BarTells", spec := "barTells", apart := false, narrowed := true }
def BarTellsUptoSaid : Prop := barTellsUptoRow.holds Try.pinned (OpenSpec.upto barTellsSpec)

end Rows
end Go.Proofs.Ytgdjfclpncpnpaa
