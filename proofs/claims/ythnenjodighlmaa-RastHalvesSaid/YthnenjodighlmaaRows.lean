/-
  NARROWER THAN 'FOR EVERY INPUT', by the rows' own cells (each row's printed sentence says how): TurnForms: loops · PileSure: loops · PileSplits: loops · RastEmpty: loops · RastFiner: loops.
  DERIVED. THE GIVEN ROWS OF THIS SEAT. 7 by the template 'for every input the law returns true; each argument reads behind the call as it read before'; 0 by the template 'total and deterministic' (their statements: YthnenjodighlmaaTotals.lean).
  GIVEN WITH THE SEED: the statements are not yours to turn. If you find one false, say at which input.
  Laid BY PROGRAM, IN A SANDBOX (cutbox-rows.mjs): the forced cells as the released guide's own fill.sh prints them over the translation cc50acc8c551d195… (all of the seat's roots in one cut). By AI agents, Wed Nov 11 2026. No macro, syntax, notation, axiom, sorry.
-/
import Derived.Test.YthnenjodighlmaaChecked
import GoSem.Claim
import GoSem.ClaimJoined
import GoSem.ClaimMapViews
import Derived.JoinedTies
import Derived.KernelRfl
namespace Go.Proofs.Ythnenjodighlmaa
/- THE CELL 'sum', in the pinned program and in every row, IS THE sha256 OF THE DUMP (.gsa) THAT YthnenjodighlmaaProg.lean LOADS. Nothing in Lean hashes anything: it is a label: what it is worth is what the hold of that sum in a sandbox is worth. -/
noncomputable def Try.pinned : Pinned := { name := "ythnenjodighlmaa", sum := "cc50acc8c551d195f831b3f10ae9f098010fdfd96162f41291472ebe87534a1e", checked := Try.checked }
namespace Rows
def none {H : Type} : Left H := { results := [], args := [] }

/-- 'heliographlaw11.TurnForms': WHATEVER THE INPUT: true; the input reads as it did. -/
def turnFormsSpec : ChangeSpec := { name := "turnForms", fn := fun _ => fun
  | [d1, d2, d3, d4] => { results := [.lit (.bool true)], args := [d1, d2, d3, d4] }
  | _ => none }
def turnFormsRow : OpenClaim := { program := "ythnenjodighlmaa", sum := "cc50acc8c551d195f831b3f10ae9f098010fdfd96162f41291472ebe87534a1e", func := "heliograph/heliographlaw11.TurnForms", spec := "turnForms", unfollowed := true, recurses := true, loops := true, plainKeys := false, apart := false }
def TurnFormsSaid : Prop := turnFormsRow.holds Try.pinned (OpenSpec.ofChange turnFormsSpec)

/-- ITS FALSE NEIGHBOUR: 'it returns false'. Refute it at one input. -/
def turnFormsWrong : ChangeSpec := { name := "turnForms", fn := fun _ => fun
  | [d1, d2, d3, d4] => { results := [.lit (.bool false)], args := [d1, d2, d3, d4] }
  | _ => none }
def TurnFormsWrongFalsely : Prop := turnFormsRow.holds Try.pinned (OpenSpec.ofChange turnFormsWrong)

/-- 'heliographlaw21.PileSure': WHATEVER THE INPUT: true; the input reads as it did. -/
def pileSureSpec : ChangeSpec := { name := "pileSure", fn := fun _ => fun
  | [d1, d2, d3, d4, d5] => { results := [.lit (.bool true)], args := [d1, d2, d3, d4, d5] }
  | _ => none }
def pileSureRow : OpenClaim := { program := "ythnenjodighlmaa", sum := "cc50acc8c551d195f831b3f10ae9f098010fdfd96162f41291472ebe87534a1e", func := "heliograph/heliographlaw21.PileSure", spec := "pileSure", unfollowed := true, recurses := true, loops := true, plainKeys := false, apart := false }
def PileSureSaid : Prop := pileSureRow.holds Try.pinned (OpenSpec.ofChange pileSureSpec)

/-- ITS FALSE NEIGHBOUR: 'it returns false'. Refute it at one input. -/
def pileSureWrong : ChangeSpec := { name := "pileSure", fn := fun _ => fun
  | [d1, d2, d3, d4, d5] => { results := [.lit (.bool false)], args := [d1, d2, d3, d4, d5] }
  | _ => none }
def PileSureWrongFalsely : Prop := pileSureRow.holds Try.pinned (OpenSpec.ofChange pileSureWrong)

/-- 'heliographlaw21.PileSplits': WHATEVER THE INPUT: true; the input reads as it did. -/
def pileSplitsSpec : ChangeSpec := { name := "pileSplits", fn := fun _ => fun
  | [d1, d2, d3, d4, d5] => { results := [.lit (.bool true)], args := [d1, d2, d3, d4, d5] }
  | _ => none }
def pileSplitsRow : OpenClaim := { program := "ythnenjodighlmaa", sum := "cc50acc8c551d195f831b3f10ae9f098010fdfd96162f41291472ebe87534a1e", func := "heliograph/heliographlaw21.PileSplits", spec := "pileSplits", unfollowed := true, recurses := true, loops := true, plainKeys := false, apart := false }
def PileSplitsSaid : Prop := pileSplitsRow.holds Try.pinned (OpenSpec.ofChange pileSplitsSpec)

/-- ITS FALSE NEIGHBOUR: 'it returns false'. Refute it at one input. -/
def pileSplitsWrong : ChangeSpec := { name := "pileSplits", fn := fun _ => fun
  | [d1, d2, d3, d4, d5] => { results := [.lit (.bool false)], args := [d1, d2, d3, d4, d5] }
  | _ => none }
def PileSplitsWrongFalsely : Prop := pileSplitsRow.holds Try.pinned (OpenSpec.ofChange pileSplitsWrong)

/-- 'heliographlaw23.RastMeter': WHATEVER THE INPUT: true; the input reads as it did. -/
def rastMeterSpec : ChangeSpec := { name := "rastMeter", fn := fun _ => fun
  | [d1, d2] => { results := [.lit (.bool true)], args := [d1, d2] }
  | _ => none }
def rastMeterRow : OpenClaim := { program := "ythnenjodighlmaa", sum := "cc50acc8c551d195f831b3f10ae9f098010fdfd96162f41291472ebe87534a1e", func := "heliograph/heliographlaw23.RastMeter", spec := "rastMeter", inPlace := ["sync/atomic.AddInt64", "sync/atomic.LoadInt64"], unfollowed := true, recurses := true, plainKeys := false, apart := false }
def RastMeterSaid : Prop := rastMeterRow.holds Try.pinned (OpenSpec.ofChange rastMeterSpec)

/-- ITS FALSE NEIGHBOUR: 'it returns false'. Refute it at one input. -/
def rastMeterWrong : ChangeSpec := { name := "rastMeter", fn := fun _ => fun
  | [d1, d2] => { results := [.lit (.bool false)], args := [d1, d2] }
  | _ => none }
def RastMeterWrongFalsely : Prop := rastMeterRow.holds Try.pinned (OpenSpec.ofChange rastMeterWrong)

/-- 'heliographlaw23.RastEmpty': WHATEVER THE INPUT: true; the input reads as it did. -/
def rastEmptySpec : ChangeSpec := { name := "rastEmpty", fn := fun _ => fun
  | [d1, d2, d3, d4, d5] => { results := [.lit (.bool true)], args := [d1, d2, d3, d4, d5] }
  | _ => none }
def rastEmptyRow : OpenClaim := { program := "ythnenjodighlmaa", sum := "cc50acc8c551d195f831b3f10ae9f098010fdfd96162f41291472ebe87534a1e", func := "heliograph/heliographlaw23.RastEmpty", spec := "rastEmpty", inPlace := ["sync/atomic.AddInt64", "sync/atomic.LoadInt64"], unfollowed := true, recurses := true, loops := true, plainKeys := false, apart := false }
def RastEmptySaid : Prop := rastEmptyRow.holds Try.pinned (OpenSpec.ofChange rastEmptySpec)

/-- ITS FALSE NEIGHBOUR: 'it returns false'. Refute it at one input. -/
def rastEmptyWrong : ChangeSpec := { name := "rastEmpty", fn := fun _ => fun
  | [d1, d2, d3, d4, d5] => { results := [.lit (.bool false)], args := [d1, d2, d3, d4, d5] }
  | _ => none }
def RastEmptyWrongFalsely : Prop := rastEmptyRow.holds Try.pinned (OpenSpec.ofChange rastEmptyWrong)

/-- 'heliographlaw23.RastFiner': WHATEVER THE INPUT: true; the input reads as it did. -/
def rastFinerSpec : ChangeSpec := { name := "rastFiner", fn := fun _ => fun
  | [d1, d2, d3, d4, d5] => { results := [.lit (.bool true)], args := [d1, d2, d3, d4, d5] }
  | _ => none }
def rastFinerRow : OpenClaim := { program := "ythnenjodighlmaa", sum := "cc50acc8c551d195f831b3f10ae9f098010fdfd96162f41291472ebe87534a1e", func := "heliograph/heliographlaw23.RastFiner", spec := "rastFiner", inPlace := ["sync/atomic.AddInt64", "sync/atomic.LoadInt64"], unfollowed := true, recurses := true, loops := true, plainKeys := false, apart := false }
def RastFinerSaid : Prop := rastFinerRow.holds Try.pinned (OpenSpec.ofChange rastFinerSpec)

/-- ITS FALSE NEIGHBOUR: 'it returns false'. Refute it at one input. -/
def rastFinerWrong : ChangeSpec := { name := "rastFiner", fn := fun _ => fun
  | [d1, d2, d3, d4, d5] => { results := [.lit (.bool false)], args := [d1, d2, d3, d4, d5] }
  | _ => none }
def RastFinerWrongFalsely : Prop := rastFinerRow.holds Try.pinned (OpenSpec.ofChange rastFinerWrong)

/-- 'heliographlaw23.RastHalves': WHATEVER THE INPUT: true; the input reads as it did. -/
def rastHalvesSpec : ChangeSpec := { name := "rastHalves", fn := fun _ => fun
  | [d1, d2, d3] => { results := [.lit (.bool true)], args := [d1, d2, d3] }
  | _ => none }
def rastHalvesRow : OpenClaim := { program := "ythnenjodighlmaa", sum := "cc50acc8c551d195f831b3f10ae9f098010fdfd96162f41291472ebe87534a1e", func := "heliograph/heliographlaw23.RastHalves", spec := "rastHalves", inPlace := ["sync/atomic.AddInt64", "sync/atomic.LoadInt64"], unfollowed := true, recurses := true, plainKeys := false, apart := false }
def RastHalvesSaid : Prop := rastHalvesRow.holds Try.pinned (OpenSpec.ofChange rastHalvesSpec)

/-- ITS FALSE NEIGHBOUR: 'it returns false'. Refute it at one input. -/
def rastHalvesWrong : ChangeSpec := { name := "rastHalves", fn := fun _ => fun
  | [d1, d2, d3] => { results := [.lit (.bool false)], args := [d1, d2, d3] }
  | _ => none }
def RastHalvesWrongFalsely : Prop := rastHalvesRow.holds Try.pinned (OpenSpec.ofChange rastHalvesWrong)

/- THE SECOND FORM. 'bulk': how many values and letters a reading holds, each counted each time it is reached (what is shared counts as often as it is met; a slice's spare places count too). A statement '..UptoSaid' is the law's where the arguments, and the package variables that the reading takes, are together of bulk at most 1048576: NARROWER than '..Said'. Prove '..Said' where nothing that the law and all that it calls make is longer than what came in: it says more and counts as full. Else prove '..UptoSaid'. A law counts once. -/
mutual
def uptoBulk {H : Type} : DataW H → Nat
  | .lit (.string bytes) => bytes.length + 1
  | .lit _ => 1
  | .nil => 1
  | .ptr d => uptoBulk d + 1
  | .slice elems spare => uptoBulkAll elems + uptoBulkAll spare + 1
  | .agg parts => uptoBulkAll parts + 1
  | .iface _ d => uptoBulk d + 1
  | .map entries => uptoBulkEntries entries + 1
  | .held _ => 1
def uptoBulkAll {H : Type} : List (DataW H) → Nat
  | [] => 0
  | d :: r => uptoBulk d + uptoBulkAll r
def uptoBulkEntries {H : Type} : List (Lit × DataW H) → Nat
  | [] => 0
  | x :: r => uptoBulkEntry x + uptoBulkEntries r
def uptoBulkEntry {H : Type} : Lit × DataW H → Nat
  | (.string bytes, d) => bytes.length + uptoBulk d + 1
  | (_, d) => uptoBulk d + 1
 end
def uptoSmall : (H : Type) → List (DataW H) → Bool := fun _ ds => decide (uptoBulkAll ds ≤ 1048576)
def OpenSpec.upto (s : _root_.Go.ChangeSpec) : _root_.Go.OpenSpec := { _root_.Go.OpenSpec.ofChange s with cond := some uptoSmall }

/-- 'heliographlaw11.TurnForms', WHERE WHAT IT READS IS OF BULK AT MOST 1048576: true; the input reads as it did. -/
def turnFormsUptoRow : OpenClaim := { program := "ythnenjodighlmaa", sum := "cc50acc8c551d195f831b3f10ae9f098010fdfd96162f41291472ebe87534a1e", func := "heliograph/heliographlaw11.TurnForms", spec := "turnForms", unfollowed := true, recurses := true, loops := true, plainKeys := false, apart := false, narrowed := true }
def TurnFormsUptoSaid : Prop := turnFormsUptoRow.holds Try.pinned (OpenSpec.upto turnFormsSpec)

/-- 'heliographlaw21.PileSure', WHERE WHAT IT READS IS OF BULK AT MOST 1048576: true; the input reads as it did. -/
def pileSureUptoRow : OpenClaim := { program := "ythnenjodighlmaa", sum := "cc50acc8c551d195f831b3f10ae9f098010fdfd96162f41291472ebe87534a1e", func := "heliograph/heliographlaw21.PileSure", spec := "pileSure", unfollowed := true, recurses := true, loops := true, plainKeys := false, apart := false, narrowed := true }
def PileSureUptoSaid : Prop := pileSureUptoRow.holds Try.pinned (OpenSpec.upto pileSureSpec)

/-- 'heliographlaw21.PileSplits', WHERE WHAT IT READS IS OF BULK AT MOST 1048576: true; the input reads as it did. -/
def pileSplitsUptoRow : OpenClaim := { program := "ythnenjodighlmaa", sum := "cc50acc8c551d195f831b3f10ae9f098010fdfd96162f41291472ebe87534a1e", func := "heliograph/heliographlaw21.PileSplits", spec := "pileSplits", unfollowed := true, recurses := true, loops := true, plainKeys := false, apart := false, narrowed := true }
def PileSplitsUptoSaid : Prop := pileSplitsUptoRow.holds Try.pinned (OpenSpec.upto pileSplitsSpec)

/-- 'heliographlaw23.RastMeter', WHERE WHAT IT READS IS OF BULK AT MOST 1048576: true; the input reads as it did. -/
def rastMeterUptoRow : OpenClaim := { program := "ythnenjodighlmaa", sum := "cc50acc8c551d195f831b3f10ae9f098010fdfd96162f41291472ebe87534a1e", func := "heliograph/heliographlaw23.RastMeter", spec := "rastMeter", inPlace := ["sync/atomic.AddInt64", "sync/atomic.LoadInt64"], unfollowed := true, recurses := true, plainKeys := false, apart := false, narrowed := true }
def RastMeterUptoSaid : Prop := rastMeterUptoRow.holds Try.pinned (OpenSpec.upto rastMeterSpec)

/-- 'heliographlaw23.RastEmpty', WHERE WHAT IT READS IS OF BULK AT MOST 1048576: true; the input reads as it did. -/
def rastEmptyUptoRow : OpenClaim := { program := "ythnenjodighlmaa", sum := "cc50acc8c551d195f831b3f10ae9f098010fdfd96162f41291472ebe87534a1e", func := "heliograph/heliographlaw23.RastEmpty", spec := "rastEmpty", inPlace := ["sync/atomic.AddInt64", "sync/atomic.LoadInt64"], unfollowed := true, recurses := true, loops := true, plainKeys := false, apart := false, narrowed := true }
def RastEmptyUptoSaid : Prop := rastEmptyUptoRow.holds Try.pinned (OpenSpec.upto rastEmptySpec)

/-- 'heliographlaw23.RastFiner', WHERE WHAT IT READS IS OF BULK AT MOST 1048576: true; the input reads as it did. -/
def rastFinerUptoRow : OpenClaim := { program := "ythnenjodighlmaa", sum := "cc50acc8c551d195f831b3f10ae9f098010fdfd96162f41291472ebe87534a1e", func := "heliograph/heliographlaw23.RastFiner", spec := "rastFiner", inPlace := ["sync/atomic.AddInt64", "sync/atomic.LoadInt64"], unfollowed := true, recurses := true, loops := true, plainKeys := false, apart := false, narrowed := true }
def RastFinerUptoSaid : Prop := rastFinerUptoRow.holds Try.pinned (OpenSpec.upto rastFinerSpec)

/-- 'heliographlaw23.RastHalves', WHERE WHAT IT READS IS OF BULK AT MOST 1048576: true; the input reads as it did. -/
def rastHalvesUptoRow : OpenClaim := { program := "ythnenjodighlmaa", sum := "cc50acc8c551d195f831b3f10ae9f098010fdfd96162f41291472ebe87534a1e", func := "heliograph/heliographlaw23.RastHalves", spec := "rastHalves", inPlace := ["sync/atomic.AddInt64", "sync/atomic.LoadInt64"], unfollowed := true, recurses := true, plainKeys := false, apart := false, narrowed := true }
def RastHalvesUptoSaid : Prop := rastHalvesUptoRow.holds Try.pinned (OpenSpec.upto rastHalvesSpec)

end Rows
end Go.Proofs.Ythnenjodighlmaa
