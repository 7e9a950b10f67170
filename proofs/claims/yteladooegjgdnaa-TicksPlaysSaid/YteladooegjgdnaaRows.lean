/-
  No cell of these rows narrows 'for every input' (looked for: loops, veiled, ifaces, maps, wideKeys, modest, calm, conditions, laid).
  DERIVED. THE GIVEN ROWS OF THIS SEAT. 5 by the template 'for every input the law returns true; each argument reads behind the call as it read before'; 0 by the template 'total and deterministic' (their statements: YteladooegjgdnaaTotals.lean).
  GIVEN WITH THE SEED: the statements are not yours to turn. If you find one false, say at which input.
  Laid BY PROGRAM, IN A SANDBOX (cutbox-rows.mjs): the forced cells as the released guide's own fill.sh prints them over the translation 6aef863e5fe10b63… (all of the seat's roots in one cut). By AI agents, Wed Nov 11 2026. No macro, syntax, notation, axiom, sorry.
-/
import Derived.Test.YteladooegjgdnaaChecked
import GoSem.Claim
import GoSem.ClaimJoined
import GoSem.ClaimMapViews
import Derived.JoinedTies
import Derived.KernelRfl
namespace Go.Proofs.Yteladooegjgdnaa
/- THE CELL 'sum', in the pinned program and in every row, IS THE sha256 OF THE DUMP (.gsa) THAT YteladooegjgdnaaProg.lean LOADS. Nothing in Lean hashes anything: it is a label: what it is worth is what the hold of that sum in a sandbox is worth. -/
noncomputable def Try.pinned : Pinned := { name := "yteladooegjgdnaa", sum := "6aef863e5fe10b632a10bbfe83e069db51fddb903f7796203faa926f9ead83bf", checked := Try.checked }
namespace Rows
def none {H : Type} : Left H := { results := [], args := [] }

/-- 'thresherlaw08.TicksSplit': WHATEVER THE INPUT: true; the input reads as it did. -/
def ticksSplitSpec : ChangeSpec := { name := "ticksSplit", fn := fun _ => fun
  | [d1, d2, d3] => { results := [.lit (.bool true)], args := [d1, d2, d3] }
  | _ => none }
def ticksSplitRow : OpenClaim := { program := "yteladooegjgdnaa", sum := "6aef863e5fe10b632a10bbfe83e069db51fddb903f7796203faa926f9ead83bf", func := "thresher/thresherlaw08.TicksSplit", spec := "ticksSplit", unfollowed := true, recurses := true, apart := false }
def TicksSplitSaid : Prop := ticksSplitRow.holds Try.pinned (OpenSpec.ofChange ticksSplitSpec)

/-- ITS FALSE NEIGHBOUR: 'it returns false'. Refute it at one input. -/
def ticksSplitWrong : ChangeSpec := { name := "ticksSplit", fn := fun _ => fun
  | [d1, d2, d3] => { results := [.lit (.bool false)], args := [d1, d2, d3] }
  | _ => none }
def TicksSplitWrongFalsely : Prop := ticksSplitRow.holds Try.pinned (OpenSpec.ofChange ticksSplitWrong)

/-- 'thresherlaw08.TicksPlays': WHATEVER THE INPUT: true; the input reads as it did. -/
def ticksPlaysSpec : ChangeSpec := { name := "ticksPlays", fn := fun _ => fun
  | [d] => { results := [.lit (.bool true)], args := [d] }
  | _ => none }
def ticksPlaysRow : OpenClaim := { program := "yteladooegjgdnaa", sum := "6aef863e5fe10b632a10bbfe83e069db51fddb903f7796203faa926f9ead83bf", func := "thresher/thresherlaw08.TicksPlays", spec := "ticksPlays", unfollowed := true, recurses := true, apart := false }
def TicksPlaysSaid : Prop := ticksPlaysRow.holds Try.pinned (OpenSpec.ofChange ticksPlaysSpec)

/-- ITS FALSE NEIGHBOUR: 'it returns false'. Refute it at one input. -/
def ticksPlaysWrong : ChangeSpec := { name := "ticksPlays", fn := fun _ => fun
  | [d] => { results := [.lit (.bool false)], args := [d] }
  | _ => none }
def TicksPlaysWrongFalsely : Prop := ticksPlaysRow.holds Try.pinned (OpenSpec.ofChange ticksPlaysWrong)

/-- 'thresherlaw08.TicksOnce': WHATEVER THE INPUT: true; the input reads as it did. -/
def ticksOnceSpec : ChangeSpec := { name := "ticksOnce", fn := fun _ => fun
  | [d] => { results := [.lit (.bool true)], args := [d] }
  | _ => none }
def ticksOnceRow : OpenClaim := { program := "yteladooegjgdnaa", sum := "6aef863e5fe10b632a10bbfe83e069db51fddb903f7796203faa926f9ead83bf", func := "thresher/thresherlaw08.TicksOnce", spec := "ticksOnce", unfollowed := true, recurses := true, apart := false }
def TicksOnceSaid : Prop := ticksOnceRow.holds Try.pinned (OpenSpec.ofChange ticksOnceSpec)

/-- ITS FALSE NEIGHBOUR: 'it returns false'. Refute it at one input. -/
def ticksOnceWrong : ChangeSpec := { name := "ticksOnce", fn := fun _ => fun
  | [d] => { results := [.lit (.bool false)], args := [d] }
  | _ => none }
def TicksOnceWrongFalsely : Prop := ticksOnceRow.holds Try.pinned (OpenSpec.ofChange ticksOnceWrong)

/-- 'thresherlaw08.TicksNone': WHATEVER THE INPUT: true; the input reads as it did. -/
def ticksNoneSpec : ChangeSpec := { name := "ticksNone", fn := fun _ => fun
  | [d1, d2] => { results := [.lit (.bool true)], args := [d1, d2] }
  | _ => none }
def ticksNoneRow : OpenClaim := { program := "yteladooegjgdnaa", sum := "6aef863e5fe10b632a10bbfe83e069db51fddb903f7796203faa926f9ead83bf", func := "thresher/thresherlaw08.TicksNone", spec := "ticksNone", unfollowed := true, recurses := true, apart := false }
def TicksNoneSaid : Prop := ticksNoneRow.holds Try.pinned (OpenSpec.ofChange ticksNoneSpec)

/-- ITS FALSE NEIGHBOUR: 'it returns false'. Refute it at one input. -/
def ticksNoneWrong : ChangeSpec := { name := "ticksNone", fn := fun _ => fun
  | [d1, d2] => { results := [.lit (.bool false)], args := [d1, d2] }
  | _ => none }
def TicksNoneWrongFalsely : Prop := ticksNoneRow.holds Try.pinned (OpenSpec.ofChange ticksNoneWrong)

/-- 'thresherlaw08.TicksFull': WHATEVER THE INPUT: true; the input reads as it did. -/
def ticksFullSpec : ChangeSpec := { name := "ticksFull", fn := fun _ => fun
  | [d1, d2] => { results := [.lit (.bool true)], args := [d1, d2] }
  | _ => none }
def ticksFullRow : OpenClaim := { program := "yteladooegjgdnaa", sum := "6aef863e5fe10b632a10bbfe83e069db51fddb903f7796203faa926f9ead83bf", func := "thresher/thresherlaw08.TicksFull", spec := "ticksFull", unfollowed := true, recurses := true, apart := false }
def TicksFullSaid : Prop := ticksFullRow.holds Try.pinned (OpenSpec.ofChange ticksFullSpec)

/-- ITS FALSE NEIGHBOUR: 'it returns false'. Refute it at one input. -/
def ticksFullWrong : ChangeSpec := { name := "ticksFull", fn := fun _ => fun
  | [d1, d2] => { results := [.lit (.bool false)], args := [d1, d2] }
  | _ => none }
def TicksFullWrongFalsely : Prop := ticksFullRow.holds Try.pinned (OpenSpec.ofChange ticksFullWrong)

/- THE SECOND FORM. 'bulk': how many values and letters a reading holds, each counted each time it is reached (what is shared counts as often as it is met; a slice's spare places count too). A statement '..UptoSaid' is the law's where the arguments, and the package variables that the reading takes, are together of bulk at most 1048576: NARROWER than '..Said'. Prove '..Said' where nothing that the law and all that it calls make is longer than what came in: it says more and counts as full. Else prove '..UptoSaid'. A law counts once. -/
mutual
def uptoBulk {H : Type} : DataW H → Nat
  | .lit (.string bytes) => bytes.length + 1
  | .lit _ => 1
  | .nil => 1
  | .ptr d => uptoBulk d + 1
  | .slice elems spare => uptoBulkAll elems + uptoBulkAll spare + 1
  | .agg parts => uptoBulkAll parts + 1
  | .iface _ d => uptoBulk d + 1
  | .map entries => uptoBulkEntries entries + 1
  | .held _ => 1
def uptoBulkAll {H : Type} : List (DataW H) → Nat
  | [] => 0
  | d :: r => uptoBulk d + uptoBulkAll r
def uptoBulkEntries {H : Type} : List (Lit × DataW H) → Nat
  | [] => 0
  | x :: r => uptoBulkEntry x + uptoBulkEntries r
def uptoBulkEntry {H : Type} : Lit × DataW H → Nat
  | (.string bytes, d) => bytes.length + uptoBulk d + 1
  | (_, d) => uptoBulk d + 1
 end
def uptoSmall : (H : Type) → List (DataW H) → Bool := fun _ ds => decide (uptoBulkAll ds ≤ 1048576)
def OpenSpec.upto (s : _root_.Go.ChangeSpec) : _root_.Go.OpenSpec := { _root_.Go.OpenSpec.ofChange s with cond := some uptoSmall }

/-- 'thresherlaw08.TicksSplit', WHERE WHAT IT READS IS OF BULK AT MOST 1048576: true; the input reads as it did. -/
def ticksSplitUptoRow : OpenClaim := { program := "yteladooegjgdnaa", sum := "6aef863e5fe10b632a10bbfe83e069db51fddb903f7796203faa926f9ead83bf", func := "thresher/thresherlaw08.TicksSplit", spec := "ticksSplit", unfollowed := true, recurses := true, apart := false, narrowed := true }
def TicksSplitUptoSaid : Prop := ticksSplitUptoRow.holds Try.pinned (OpenSpec.upto ticksSplitSpec)

/-- 'thresherlaw08.TicksPlays', WHERE WHAT IT READS IS OF BULK AT MOST 1048576: true; the input reads as it did. -/
def ticksPlaysUptoRow : OpenClaim := { program := "yteladooegjgdnaa", sum := "6aef863e5fe10b632a10bbfe83e069db51fddb903f7796203faa926f9ead83bf", func := "thresher/thresherlaw08.TicksPlays", spec := "ticksPlays", unfollowed := true, recurses := true, apart := false, narrowed := true }
def TicksPlaysUptoSaid : Prop := ticksPlaysUptoRow.holds Try.pinned (OpenSpec.upto ticksPlaysSpec)

/-- 'thresherlaw08.TicksOnce', WHERE WHAT IT READS IS OF BULK AT MOST 1048576: true; the input reads as it did. -/
def ticksOnceUptoRow : OpenClaim := { program := "yteladooegjgdnaa", sum := "6aef863e5fe10b632a10bbfe83e069db51fddb903f7796203faa926f9ead83bf", func := "thresher/thresherlaw08.TicksOnce", spec := "ticksOnce", unfollowed := true, recurses := true, apart := false, narrowed := true }
def TicksOnceUptoSaid : Prop := ticksOnceUptoRow.holds Try.pinned (OpenSpec.upto ticksOnceSpec)

/-- 'thresherlaw08.TicksNone', WHERE WHAT IT READS IS OF BULK AT MOST 1048576: true; the input reads as it did. -/
def ticksNoneUptoRow : OpenClaim := { program := "yteladooegjgdnaa", sum := "6aef863e5fe10b632a10bbfe83e069db51fddb903f7796203faa926f9ead83bf", func := "thresher/thresherlaw08.TicksNone", spec := "ticksNone", unfollowed := true, recurses := true, apart := false, narrowed := true }
def TicksNoneUptoSaid : Prop := ticksNoneUptoRow.holds Try.pinned (OpenSpec.upto ticksNoneSpec)

/-- 'thresherlaw08.TicksFull', WHERE WHAT IT READS IS OF BULK AT MOST 1048576: true; the input reads as it did. -/
def ticksFullUptoRow : OpenClaim := { program := "yteladooegjgdnaa", sum := "6aef863e5fe10b632a10bbfe83e069db51fddb903f7796203faa926f9ead83bf", func := "thresher/thresherlaw08.TicksFull", spec := "ticksFull", unfollowed := true, recurses := true, apart := false, narrowed := true }
def TicksFullUptoSaid : Prop := ticksFullUptoRow.holds Try.pinned (OpenSpec.upto ticksFullSpec)

end Rows
end Go.Proofs.Yteladooegjgdnaa
