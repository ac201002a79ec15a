/-
  No cell of these rows narrows 'for every input' (looked for: loops, veiled, ifaces, maps, wideKeys, modest, calm, conditions, laid).
  DERIVED. THE GIVEN ROWS OF THIS SEAT. 2 by the template 'for every input the law returns true; each argument reads behind the call as it read before'; 0 by the template 'total and deterministic' (their statements: YtddgibadiadccaaTotals.lean).
  GIVEN WITH THE SEED: the statements are not yours to turn. If you find one false, say at which input.
  Laid BY PROGRAM, IN A SANDBOX (cutbox-rows.mjs): the forced cells as the released guide's own fill.sh prints them over the translation 93807af5f9ca4a2a… (all of the seat's roots in one cut). By AI agents, Wed Nov 11 2026. No macro, syntax, notation, axiom, sorry.
-/
import Derived.Test.YtddgibadiadccaaChecked
import GoSem.Claim
import GoSem.ClaimJoined
import GoSem.ClaimMapViews
import Derived.JoinedTies
import Derived.KernelRfl
namespace Go.Proofs.Ytddgibadiadccaa
/- THE CELL 'sum', in the pinned program and in every row, IS THE sha256 OF THE DUMP (.gsa) THAT YtddgibadiadccaaProg.lean LOADS. Nothing in Lean hashes anything: it is a label: what it is worth is what the hold of that sum in a sandbox is worth. -/
noncomputable def Try.pinned : Pinned := { name := "ytddgibadiadccaa", sum := "93807af5f9ca4a2a05cfaee81e0d300feabab13dbfc45ef19cc0cc40e8987b10", checked := Try.checked }
namespace Rows
def none {H : Type} : Left H := { results := [], args := [] }

/-- 'heliographlaw17.AperRefuses': WHATEVER THE INPUT: true; the input reads as it did. -/
def aperRefusesSpec : ChangeSpec := { name := "aperRefuses", fn := fun _ => fun
  | [d1, d2] => { results := [.lit (.bool true)], args := [d1, d2] }
  | _ => none }
def aperRefusesRow : OpenClaim := { program := "ytddgibadiadccaa", sum := "93807af5f9ca4a2a05cfaee81e0d300feabab13dbfc45ef19cc0cc40e8987b10", func := "heliograph/heliographlaw17.AperRefuses", spec := "aperRefuses", recurses := true, plainKeys := false, apart := false }
def AperRefusesSaid : Prop := aperRefusesRow.holds Try.pinned (OpenSpec.ofChange aperRefusesSpec)

/-- ITS FALSE NEIGHBOUR: 'it returns false'. Refute it at one input. -/
def aperRefusesWrong : ChangeSpec := { name := "aperRefuses", fn := fun _ => fun
  | [d1, d2] => { results := [.lit (.bool false)], args := [d1, d2] }
  | _ => none }
def AperRefusesWrongFalsely : Prop := aperRefusesRow.holds Try.pinned (OpenSpec.ofChange aperRefusesWrong)

/-- 'heliographlaw17.AperMeans': WHATEVER THE INPUT: true; the input reads as it did. -/
def aperMeansSpec : ChangeSpec := { name := "aperMeans", fn := fun _ => fun
  | [d1, d2, d3, d4, d5, d6] => { results := [.lit (.bool true)], args := [d1, d2, d3, d4, d5, d6] }
  | _ => none }
def aperMeansRow : OpenClaim := { program := "ytddgibadiadccaa", sum := "93807af5f9ca4a2a05cfaee81e0d300feabab13dbfc45ef19cc0cc40e8987b10", func := "heliograph/heliographlaw17.AperMeans", spec := "aperMeans", recurses := true, plainKeys := false, apart := false }
def AperMeansSaid : Prop := aperMeansRow.holds Try.pinned (OpenSpec.ofChange aperMeansSpec)

/-- ITS FALSE NEIGHBOUR: 'it returns false'. Refute it at one input. -/
def aperMeansWrong : ChangeSpec := { name := "aperMeans", fn := fun _ => fun
  | [d1, d2, d3, d4, d5, d6] => { results := [.lit (.bool false)], args := [d1, d2, d3, d4, d5, d6] }
  | _ => none }
def AperMeansWrongFalsely : Prop := aperMeansRow.holds Try.pinned (OpenSpec.ofChange aperMeansWrong)

/- THE SECOND FORM. 'bulk': how many values and letters a reading holds, each counted each time it is reached (what is shared counts as often as it is met; a slice's spare places count too). A statement '..UptoSaid' is the law's where the arguments, and the package variables that the reading takes, are together of bulk at most 1048576: NARROWER than '..Said'. Prove '..Said' where nothing that the law and all that it calls make is longer than what came in: it says more and counts as full. Else prove '..UptoSaid'. A law counts once. -/
mutual
def uptoBulk {H : Type} : DataW H → Nat
  | .lit (.string bytes) => bytes.length + 1
  | .lit _ => 1
  | .nil => 1
  | .ptr d => uptoBulk d + 1
  | .slice elems spare => uptoBulkAll elems + uptoBulkAll spare + 1
  | .agg parts => uptoBulkAll parts + 1
  | .iface _ d => uptoBulk d + 1
  | .map entries => uptoBulkEntries entries + 1
  | .held _ => 1
def uptoBulkAll {H : Type} : List (DataW H) → Nat
  | [] => 0
  | d :: r => uptoBulk d + uptoBulkAll r
def uptoBulkEntries {H : Type} : List (Lit × DataW H) → Nat
  | [] => 0
  | x :: r => uptoBulkEntry x + uptoBulkEntries r
def uptoBulkEntry {H : Type} : Lit × DataW H → Nat
  | (.string bytes, d) => bytes.length + uptoBulk d + 1
  | (_, d) => uptoBulk d + 1
 end
def uptoSmall : (H : Type) → List (DataW H) → Bool := fun _ ds => decide (uptoBulkAll ds ≤ 1048576)
def OpenSpec.upto (s : _root_.Go.ChangeSpec) : _root_.Go.OpenSpec := { _root_.Go.OpenSpec.ofChange s with cond := some uptoSmall }

/-- 'heliographlaw17.AperRefuses', WHERE WHAT IT READS IS OF BULK AT MOST 1048576: true; the input reads as it did. -/
def aperRefusesUptoRow : OpenClaim := { program := "ytddgibadiadccaa", sum := "93807af5f9ca4a2a05cfaee81e0d300feabab13dbfc45ef19cc0cc40e8987b10", func := "heliograph/heliographlaw17.AperRefuses", spec := "aperRefuses", recurses := true, plainKeys := false, apart := false, narrowed := true }
def AperRefusesUptoSaid : Prop := aperRefusesUptoRow.holds Try.pinned (OpenSpec.upto aperRefusesSpec)

/-- 'heliographlaw17.AperMeans', WHERE WHAT IT READS IS OF BULK AT MOST 1048576: true; the input reads as it did. -/
def aperMeansUptoRow : OpenClaim := { program := "ytddgibadiadccaa", sum := "93807af5f9ca4a2a05cfaee81e0d300feabab13dbfc45ef19cc0cc40e8987b10", func := "heliograph/heliographlaw17.AperMeans", spec := "aperMeans", recurses := true, plainKeys := false, apart := false, narrowed := true }
def AperMeansUptoSaid : Prop := aperMeansUptoRow.holds Try.pinned (OpenSpec.upto aperMeansSpec)

end Rows
end Go.Proofs.Ytddgibadiadccaa
