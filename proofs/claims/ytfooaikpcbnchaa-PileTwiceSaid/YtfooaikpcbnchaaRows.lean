/-
  NARROWER THAN 'FOR EVERY INPUT', by the rows' own cells (each row's printed sentence says how): TurnThen: loops · TurnForms: loops · FigureSure: loops · FigureBounds: loops · FigureParts: loops · TurnPoints: loops · PileTwice: loops · PileSure: loops · PileOrder: loops · PileSplits: loops.
  DERIVED. THE GIVEN ROWS OF THIS SEAT. 11 by the template 'for every input the law returns true; each argument reads behind the call as it read before'; 0 by the template 'total and deterministic' (their statements: YtfooaikpcbnchaaTotals.lean).
  GIVEN WITH THE SEED: the statements are not yours to turn. If you find one false, say at which input.
  Laid BY PROGRAM, IN A SANDBOX (cutbox-rows.mjs): the forced cells as the released guide's own fill.sh prints them over the translation 31c16809b7212506… (all of the seat's roots in one cut). By AI agents, Wed Nov 11 2026. No macro, syntax, notation, axiom, sorry.
-/
import Derived.Test.YtfooaikpcbnchaaChecked
import GoSem.Claim
import GoSem.ClaimJoined
import GoSem.ClaimMapViews
import Derived.JoinedTies
import Derived.KernelRfl
namespace Go.Proofs.Ytfooaikpcbnchaa
/- THE CELL 'sum', in the pinned program and in every row, IS THE sha256 OF THE DUMP (.gsa) THAT YtfooaikpcbnchaaProg.lean LOADS. Nothing in Lean hashes anything: it is a label: what it is worth is what the hold of that sum in a sandbox is worth. -/
noncomputable def Try.pinned : Pinned := { name := "ytfooaikpcbnchaa", sum := "31c16809b721250638577744f4996e9ad35f6ce6ff4282ac0488504af894d521", checked := Try.checked }
namespace Rows
def none {H : Type} : Left H := { results := [], args := [] }

/-- 'heliographlaw11.TurnThen': WHATEVER THE INPUT: true; the input reads as it did. -/
def turnThenSpec : ChangeSpec := { name := "turnThen", fn := fun _ => fun
  | [d1, d2, d3, d4, d5] => { results := [.lit (.bool true)], args := [d1, d2, d3, d4, d5] }
  | _ => none }
def turnThenRow : OpenClaim := { program := "ytfooaikpcbnchaa", sum := "31c16809b721250638577744f4996e9ad35f6ce6ff4282ac0488504af894d521", func := "heliograph/heliographlaw11.TurnThen", spec := "turnThen", unfollowed := true, recurses := true, loops := true, plainKeys := false, apart := false }
def TurnThenSaid : Prop := turnThenRow.holds Try.pinned (OpenSpec.ofChange turnThenSpec)

/-- ITS FALSE NEIGHBOUR: 'it returns false'. Refute it at one input. -/
def turnThenWrong : ChangeSpec := { name := "turnThen", fn := fun _ => fun
  | [d1, d2, d3, d4, d5] => { results := [.lit (.bool false)], args := [d1, d2, d3, d4, d5] }
  | _ => none }
def TurnThenWrongFalsely : Prop := turnThenRow.holds Try.pinned (OpenSpec.ofChange turnThenWrong)

/-- 'heliographlaw11.TurnFar': WHATEVER THE INPUT: true; the input reads as it did. -/
def turnFarSpec : ChangeSpec := { name := "turnFar", fn := fun _ => fun
  | [d1, d2, d3] => { results := [.lit (.bool true)], args := [d1, d2, d3] }
  | _ => none }
def turnFarRow : OpenClaim := { program := "ytfooaikpcbnchaa", sum := "31c16809b721250638577744f4996e9ad35f6ce6ff4282ac0488504af894d521", func := "heliograph/heliographlaw11.TurnFar", spec := "turnFar", recurses := true, plainKeys := false, apart := false }
def TurnFarSaid : Prop := turnFarRow.holds Try.pinned (OpenSpec.ofChange turnFarSpec)

/-- ITS FALSE NEIGHBOUR: 'it returns false'. Refute it at one input. -/
def turnFarWrong : ChangeSpec := { name := "turnFar", fn := fun _ => fun
  | [d1, d2, d3] => { results := [.lit (.bool false)], args := [d1, d2, d3] }
  | _ => none }
def TurnFarWrongFalsely : Prop := turnFarRow.holds Try.pinned (OpenSpec.ofChange turnFarWrong)

/-- 'heliographlaw11.TurnForms': WHATEVER THE INPUT: true; the input reads as it did. -/
def turnFormsSpec : ChangeSpec := { name := "turnForms", fn := fun _ => fun
  | [d1, d2, d3, d4] => { results := [.lit (.bool true)], args := [d1, d2, d3, d4] }
  | _ => none }
def turnFormsRow : OpenClaim := { program := "ytfooaikpcbnchaa", sum := "31c16809b721250638577744f4996e9ad35f6ce6ff4282ac0488504af894d521", func := "heliograph/heliographlaw11.TurnForms", spec := "turnForms", unfollowed := true, recurses := true, loops := true, plainKeys := false, apart := false }
def TurnFormsSaid : Prop := turnFormsRow.holds Try.pinned (OpenSpec.ofChange turnFormsSpec)

/-- ITS FALSE NEIGHBOUR: 'it returns false'. Refute it at one input. -/
def turnFormsWrong : ChangeSpec := { name := "turnForms", fn := fun _ => fun
  | [d1, d2, d3, d4] => { results := [.lit (.bool false)], args := [d1, d2, d3, d4] }
  | _ => none }
def TurnFormsWrongFalsely : Prop := turnFormsRow.holds Try.pinned (OpenSpec.ofChange turnFormsWrong)

/-- 'heliographlaw10.FigureSure': WHATEVER THE INPUT: true; the input reads as it did. -/
def figureSureSpec : ChangeSpec := { name := "figureSure", fn := fun _ => fun
  | [d1, d2, d3, d4, d5] => { results := [.lit (.bool true)], args := [d1, d2, d3, d4, d5] }
  | _ => none }
def figureSureRow : OpenClaim := { program := "ytfooaikpcbnchaa", sum := "31c16809b721250638577744f4996e9ad35f6ce6ff4282ac0488504af894d521", func := "heliograph/heliographlaw10.FigureSure", spec := "figureSure", unfollowed := true, recurses := true, loops := true, plainKeys := false, apart := false }
def FigureSureSaid : Prop := figureSureRow.holds Try.pinned (OpenSpec.ofChange figureSureSpec)

/-- ITS FALSE NEIGHBOUR: 'it returns false'. Refute it at one input. -/
def figureSureWrong : ChangeSpec := { name := "figureSure", fn := fun _ => fun
  | [d1, d2, d3, d4, d5] => { results := [.lit (.bool false)], args := [d1, d2, d3, d4, d5] }
  | _ => none }
def FigureSureWrongFalsely : Prop := figureSureRow.holds Try.pinned (OpenSpec.ofChange figureSureWrong)

/-- 'heliographlaw10.FigureBounds': WHATEVER THE INPUT: true; the input reads as it did. -/
def figureBoundsSpec : ChangeSpec := { name := "figureBounds", fn := fun _ => fun
  | [d1, d2, d3, d4] => { results := [.lit (.bool true)], args := [d1, d2, d3, d4] }
  | _ => none }
def figureBoundsRow : OpenClaim := { program := "ytfooaikpcbnchaa", sum := "31c16809b721250638577744f4996e9ad35f6ce6ff4282ac0488504af894d521", func := "heliograph/heliographlaw10.FigureBounds", spec := "figureBounds", unfollowed := true, recurses := true, loops := true, plainKeys := false, apart := false }
def FigureBoundsSaid : Prop := figureBoundsRow.holds Try.pinned (OpenSpec.ofChange figureBoundsSpec)

/-- ITS FALSE NEIGHBOUR: 'it returns false'. Refute it at one input. -/
def figureBoundsWrong : ChangeSpec := { name := "figureBounds", fn := fun _ => fun
  | [d1, d2, d3, d4] => { results := [.lit (.bool false)], args := [d1, d2, d3, d4] }
  | _ => none }
def FigureBoundsWrongFalsely : Prop := figureBoundsRow.holds Try.pinned (OpenSpec.ofChange figureBoundsWrong)

/-- 'heliographlaw10.FigureParts': WHATEVER THE INPUT: true; the input reads as it did. -/
def figurePartsSpec : ChangeSpec := { name := "figureParts", fn := fun _ => fun
  | [d1, d2, d3, d4] => { results := [.lit (.bool true)], args := [d1, d2, d3, d4] }
  | _ => none }
def figurePartsRow : OpenClaim := { program := "ytfooaikpcbnchaa", sum := "31c16809b721250638577744f4996e9ad35f6ce6ff4282ac0488504af894d521", func := "heliograph/heliographlaw10.FigureParts", spec := "figureParts", unfollowed := true, recurses := true, loops := true, plainKeys := false, apart := false }
def FigurePartsSaid : Prop := figurePartsRow.holds Try.pinned (OpenSpec.ofChange figurePartsSpec)

/-- ITS FALSE NEIGHBOUR: 'it returns false'. Refute it at one input. -/
def figurePartsWrong : ChangeSpec := { name := "figureParts", fn := fun _ => fun
  | [d1, d2, d3, d4] => { results := [.lit (.bool false)], args := [d1, d2, d3, d4] }
  | _ => none }
def FigurePartsWrongFalsely : Prop := figurePartsRow.holds Try.pinned (OpenSpec.ofChange figurePartsWrong)

/-- 'heliographlaw11.TurnPoints': WHATEVER THE INPUT: true; the input reads as it did. -/
def turnPointsSpec : ChangeSpec := { name := "turnPoints", fn := fun _ => fun
  | [d1, d2, d3, d4] => { results := [.lit (.bool true)], args := [d1, d2, d3, d4] }
  | _ => none }
def turnPointsRow : OpenClaim := { program := "ytfooaikpcbnchaa", sum := "31c16809b721250638577744f4996e9ad35f6ce6ff4282ac0488504af894d521", func := "heliograph/heliographlaw11.TurnPoints", spec := "turnPoints", unfollowed := true, recurses := true, loops := true, plainKeys := false, apart := false }
def TurnPointsSaid : Prop := turnPointsRow.holds Try.pinned (OpenSpec.ofChange turnPointsSpec)

/-- ITS FALSE NEIGHBOUR: 'it returns false'. Refute it at one input. -/
def turnPointsWrong : ChangeSpec := { name := "turnPoints", fn := fun _ => fun
  | [d1, d2, d3, d4] => { results := [.lit (.bool false)], args := [d1, d2, d3, d4] }
  | _ => none }
def TurnPointsWrongFalsely : Prop := turnPointsRow.holds Try.pinned (OpenSpec.ofChange turnPointsWrong)

/-- 'heliographlaw21.PileTwice': WHATEVER THE INPUT: true; the input reads as it did. -/
def pileTwiceSpec : ChangeSpec := { name := "pileTwice", fn := fun _ => fun
  | [d1, d2, d3, d4, d5] => { results := [.lit (.bool true)], args := [d1, d2, d3, d4, d5] }
  | _ => none }
def pileTwiceRow : OpenClaim := { program := "ytfooaikpcbnchaa", sum := "31c16809b721250638577744f4996e9ad35f6ce6ff4282ac0488504af894d521", func := "heliograph/heliographlaw21.PileTwice", spec := "pileTwice", unfollowed := true, recurses := true, loops := true, plainKeys := false, apart := false }
def PileTwiceSaid : Prop := pileTwiceRow.holds Try.pinned (OpenSpec.ofChange pileTwiceSpec)

/-- ITS FALSE NEIGHBOUR: 'it returns false'. Refute it at one input. -/
def pileTwiceWrong : ChangeSpec := { name := "pileTwice", fn := fun _ => fun
  | [d1, d2, d3, d4, d5] => { results := [.lit (.bool false)], args := [d1, d2, d3, d4, d5] }
  | _ => none }
def PileTwiceWrongFalsely : Prop := pileTwiceRow.holds Try.pinned (OpenSpec.ofChange pileTwiceWrong)

/-- 'heliographlaw21.PileSure': WHATEVER THE INPUT: true; the input reads as it did. -/
def pileSureSpec : ChangeSpec := { name := "pileSure", fn := fun _ => fun
  | [d1, d2, d3, d4, d5] => { results := [.lit (.bool true)], args := [d1, d2, d3, d4, d5] }
  | _ => none }
def pileSureRow : OpenClaim := { program := "ytfooaikpcbnchaa", sum := "31c16809b721250638577744f4996e9ad35f6ce6ff4282ac0488504af894d521", func := "heliograph/heliographlaw21.PileSure", spec := "pileSure", unfollowed := true, recurses := true, loops := true, plainKeys := false, apart := false }
def PileSureSaid : Prop := pileSureRow.holds Try.pinned (OpenSpec.ofChange pileSureSpec)

/-- ITS FALSE NEIGHBOUR: 'it returns false'. Refute it at one input. -/
def pileSureWrong : ChangeSpec := { name := "pileSure", fn := fun _ => fun
  | [d1, d2, d3, d4, d5] => { results := [.lit (.bool false)], args := [d1, d2, d3, d4, d5] }
  | _ => none }
def PileSureWrongFalsely : Prop := pileSureRow.holds Try.pinned (OpenSpec.ofChange pileSureWrong)

/-- 'heliographlaw21.PileOrder': WHATEVER THE INPUT: true; the input reads as it did. -/
def pileOrderSpec : ChangeSpec := { name := "pileOrder", fn := fun _ => fun
  | [d1, d2, d3, d4, d5] => { results := [.lit (.bool true)], args := [d1, d2, d3, d4, d5] }
  | _ => none }
def pileOrderRow : OpenClaim := { program := "ytfooaikpcbnchaa", sum := "31c16809b721250638577744f4996e9ad35f6ce6ff4282ac0488504af894d521", func := "heliograph/heliographlaw21.PileOrder", spec := "pileOrder", unfollowed := true, recurses := true, loops := true, plainKeys := false, apart := false }
def PileOrderSaid : Prop := pileOrderRow.holds Try.pinned (OpenSpec.ofChange pileOrderSpec)

/-- ITS FALSE NEIGHBOUR: 'it returns false'. Refute it at one input. -/
def pileOrderWrong : ChangeSpec := { name := "pileOrder", fn := fun _ => fun
  | [d1, d2, d3, d4, d5] => { results := [.lit (.bool false)], args := [d1, d2, d3, d4, d5] }
  | _ => none }
def PileOrderWrongFalsely : Prop := pileOrderRow.holds Try.pinned (OpenSpec.ofChange pileOrderWrong)

/-- 'heliographlaw21.PileSplits': WHATEVER THE INPUT: true; the input reads as it did. -/
def pileSplitsSpec : ChangeSpec := { name := "pileSplits", fn := fun _ => fun
  | [d1, d2, d3, d4, d5] => { results := [.lit (.bool true)], args := [d1, d2, d3, d4, d5] }
  | _ => none }
def pileSplitsRow : OpenClaim := { program := "ytfooaikpcbnchaa", sum := "31c16809b721250638577744f4996e9ad35f6ce6ff4282ac0488504af894d521", func := "heliograph/heliographlaw21.PileSplits", spec := "pileSplits", unfollowed := true, recurses := true, loops := true, plainKeys := false, apart := false }
def PileSplitsSaid : Prop := pileSplitsRow.holds Try.pinned (OpenSpec.ofChange pileSplitsSpec)

/-- ITS FALSE NEIGHBOUR: 'it returns false'. Refute it at one input. -/
def pileSplitsWrong : ChangeSpec := { name := "pileSplits", fn := fun _ => fun
  | [d1, d2, d3, d4, d5] => { results := [.lit (.bool false)], args := [d1, d2, d3, d4, d5] }
  | _ => none }
def PileSplitsWrongFalsely : Prop := pileSplitsRow.holds Try.pinned (OpenSpec.ofChange pileSplitsWrong)

/- THE SECOND FORM. 'bulk': how many values and letters a reading holds, each counted each time it is reached (what is shared counts as often as it is met; a slice's spare places count too). A statement '..UptoSaid' is the law's where the arguments, and the package variables that the reading takes, are together of bulk at most 1048576: NARROWER than '..Said'. Prove '..Said' where nothing that the law and all that it calls make is longer than what came in: it says more and counts as full. Else prove '..UptoSaid'. A law counts once. -/
mutual
def uptoBulk {H : Type} : DataW H → Nat
  | .lit (.string bytes) => bytes.length + 1
  | .lit _ => 1
  | .nil => 1
  | .ptr d => uptoBulk d + 1
  | .slice elems spare => uptoBulkAll elems + uptoBulkAll spare + 1
  | .agg parts => uptoBulkAll parts + 1
  | .iface _ d => uptoBulk d + 1
  | .map entries => uptoBulkEntries entries + 1
  | .held _ => 1
def uptoBulkAll {H : Type} : List (DataW H) → Nat
  | [] => 0
  | d :: r => uptoBulk d + uptoBulkAll r
def uptoBulkEntries {H : Type} : List (Lit × DataW H) → Nat
  | [] => 0
  | x :: r => uptoBulkEntry x + uptoBulkEntries r
def uptoBulkEntry {H : Type} : Lit × DataW H → Nat
  | (.string bytes, d) => bytes.length + uptoBulk d + 1
  | (_, d) => uptoBulk d + 1
 end
def uptoSmall : (H : Type) → List (DataW H) → Bool := fun _ ds => decide (uptoBulkAll ds ≤ 1048576)
def OpenSpec.upto (s : _root_.Go.ChangeSpec) : _root_.Go.OpenSpec := { _root_.Go.OpenSpec.ofChange s with cond := some uptoSmall }

/-- 'heliographlaw11.TurnThen', WHERE WHAT IT READS IS OF BULK AT MOST 1048576: true; the input reads as it did. -/
def turnThenUptoRow : OpenClaim := { program := "ytfooaikpcbnchaa", sum := "31c16809b721250638577744f4996e9ad35f6ce6ff4282ac0488504af894d521", func := "heliograph/heliographlaw11.TurnThen", spec := "turnThen", unfollowed := true, recurses := true, loops := true, plainKeys := false, apart := false, narrowed := true }
def TurnThenUptoSaid : Prop := turnThenUptoRow.holds Try.pinned (OpenSpec.upto turnThenSpec)

/-- 'heliographlaw11.TurnFar', WHERE WHAT IT READS IS OF BULK AT MOST 1048576: true; the input reads as it did. -/
def turnFarUptoRow : OpenClaim := { program := "ytfooaikpcbnchaa", sum := "31c16809b721250638577744f4996e9ad35f6ce6ff4282ac0488504af894d521", func := "heliograph/heliographlaw11.TurnFar", spec := "turnFar", recurses := true, plainKeys := false, apart := false, narrowed := true }
def TurnFarUptoSaid : Prop := turnFarUptoRow.holds Try.pinned (OpenSpec.upto turnFarSpec)

/-- 'heliographlaw11.TurnForms', WHERE WHAT IT READS IS OF BULK AT MOST 1048576: true; the input reads as it did. -/
def turnFormsUptoRow : OpenClaim := { program := "ytfooaikpcbnchaa", sum := "31c16809b721250638577744f4996e9ad35f6ce6ff4282ac0488504af894d521", func := "heliograph/heliographlaw11.TurnForms", spec := "turnForms", unfollowed := true, recurses := true, loops := true, plainKeys := false, apart := false, narrowed := true }
def TurnFormsUptoSaid : Prop := turnFormsUptoRow.holds Try.pinned (OpenSpec.upto turnFormsSpec)

/-- 'heliographlaw10.FigureSure', WHERE WHAT IT READS IS OF BULK AT MOST 1048576: true; the input reads as it did. -/
def figureSureUptoRow : OpenClaim := { program := "ytfooaikpcbnchaa", sum := "31c16809b721250638577744f4996e9ad35f6ce6ff4282ac0488504af894d521", func := "heliograph/heliographlaw10.FigureSure", spec := "figureSure", unfollowed := true, recurses := true, loops := true, plainKeys := false, apart := false, narrowed := true }
def FigureSureUptoSaid : Prop := figureSureUptoRow.holds Try.pinned (OpenSpec.upto figureSureSpec)

/-- 'heliographlaw10.FigureBounds', WHERE WHAT IT READS IS OF BULK AT MOST 1048576: true; the input reads as it did. -/
def figureBoundsUptoRow : OpenClaim := { program := "ytfooaikpcbnchaa", sum := "31c16809b721250638577744f4996e9ad35f6ce6ff4282ac0488504af894d521", func := "heliograph/heliographlaw10.FigureBounds", spec := "figureBounds", unfollowed := true, recurses := true, loops := true, plainKeys := false, apart := false, narrowed := true }
def FigureBoundsUptoSaid : Prop := figureBoundsUptoRow.holds Try.pinned (OpenSpec.upto figureBoundsSpec)

/-- 'heliographlaw10.FigureParts', WHERE WHAT IT READS IS OF BULK AT MOST 1048576: true; the input reads as it did. -/
def figurePartsUptoRow : OpenClaim := { program := "ytfooaikpcbnchaa", sum := "31c16809b721250638577744f4996e9ad35f6ce6ff4282ac0488504af894d521", func := "heliograph/heliographlaw10.FigureParts", spec := "figureParts", unfollowed := true, recurses := true, loops := true, plainKeys := false, apart := false, narrowed := true }
def FigurePartsUptoSaid : Prop := figurePartsUptoRow.holds Try.pinned (OpenSpec.upto figurePartsSpec)

/-- 'heliographlaw11.TurnPoints', WHERE WHAT IT READS IS OF BULK AT MOST 1048576: true; the input reads as it did. -/
def turnPointsUptoRow : OpenClaim := { program := "ytfooaikpcbnchaa", sum := "31c16809b721250638577744f4996e9ad35f6ce6ff4282ac0488504af894d521", func := "heliograph/heliographlaw11.TurnPoints", spec := "turnPoints", unfollowed := true, recurses := true, loops := true, plainKeys := false, apart := false, narrowed := true }
def TurnPointsUptoSaid : Prop := turnPointsUptoRow.holds Try.pinned (OpenSpec.upto turnPointsSpec)

/-- 'heliographlaw21.PileTwice', WHERE WHAT IT READS IS OF BULK AT MOST 1048576: true; the input reads as it did. -/
def pileTwiceUptoRow : OpenClaim := { program := "ytfooaikpcbnchaa", sum := "31c16809b721250638577744f4996e9ad35f6ce6ff4282ac0488504af894d521", func := "heliograph/heliographlaw21.PileTwice", spec := "pileTwice", unfollowed := true, recurses := true, loops := true, plainKeys := false, apart := false, narrowed := true }
def PileTwiceUptoSaid : Prop := pileTwiceUptoRow.holds Try.pinned (OpenSpec.upto pileTwiceSpec)

/-- 'heliographlaw21.PileSure', WHERE WHAT IT READS IS OF BULK AT MOST 1048576: true; the input reads as it did. -/
def pileSureUptoRow : OpenClaim := { program := "ytfooaikpcbnchaa", sum := "31c16809b721250638577744f4996e9ad35f6ce6ff4282ac0488504af894d521", func := "heliograph/heliographlaw21.PileSure", spec := "pileSure", unfollowed := true, recurses := true, loops := true, plainKeys := false, apart := false, narrowed := true }
def PileSureUptoSaid : Prop := pileSureUptoRow.holds Try.pinned (OpenSpec.upto pileSureSpec)

/-- 'heliographlaw21.PileOrder', WHERE WHAT IT READS IS OF BULK AT MOST 1048576: true; the input reads as it did. -/
def pileOrderUptoRow : OpenClaim := { program := "ytfooaikpcbnchaa", sum := "31c16809b721250638577744f4996e9ad35f6ce6ff4282ac0488504af894d521", func := "heliograph/heliographlaw21.PileOrder", spec := "pileOrder", unfollowed := true, recurses := true, loops := true, plainKeys := false, apart := false, narrowed := true }
def PileOrderUptoSaid : Prop := pileOrderUptoRow.holds Try.pinned (OpenSpec.upto pileOrderSpec)

/-- 'heliographlaw21.PileSplits', WHERE WHAT IT READS IS OF BULK AT MOST 1048576: true; the input reads as it did. -/
def pileSplitsUptoRow : OpenClaim := { program := "ytfooaikpcbnchaa", sum := "31c16809b721250638577744f4996e9ad35f6ce6ff4282ac0488504af894d521", func := "heliograph/heliographlaw21.PileSplits", spec := "pileSplits", unfollowed := true, recurses := true, loops := true, plainKeys := false, apart := false, narrowed := true }
def PileSplitsUptoSaid : Prop := pileSplitsUptoRow.holds Try.pinned (OpenSpec.upto pileSplitsSpec)

end Rows
end Go.Proofs.Ytfooaikpcbnchaa
