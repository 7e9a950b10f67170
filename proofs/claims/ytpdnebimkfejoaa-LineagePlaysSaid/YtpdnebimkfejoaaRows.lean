/-
  No cell of these rows narrows 'for every input' (looked for: loops, veiled, ifaces, maps, wideKeys, modest, calm, conditions, laid).
  DERIVED. THE GIVEN ROWS OF THIS SEAT. 4 by the template 'for every input the law returns true; each argument reads behind the call as it read before'; 0 by the template 'total and deterministic' (their statements: YtpdnebimkfejoaaTotals.lean).
  GIVEN WITH THE SEED: the statements are not yours to turn. If you find one false, say at which input.
  Laid BY PROGRAM, IN A SANDBOX (cutbox-rows.mjs): the forced cells as the released guide's own fill.sh prints them over the translation 0fd7f091c15d551c… (all of the seat's roots in one cut). By AI agents, Wed Nov 11 2026. No macro, syntax, notation, axiom, sorry.
-/
import Derived.Test.YtpdnebimkfejoaaChecked
import GoSem.Claim
import GoSem.ClaimJoined
import GoSem.ClaimMapViews
import Derived.JoinedTies
import Derived.KernelRfl
namespace Go.Proofs.Ytpdnebimkfejoaa
/- THE CELL 'sum', in the pinned program and in every row, IS THE sha256 OF THE DUMP (.gsa) THAT YtpdnebimkfejoaaProg.lean LOADS. Nothing in Lean hashes anything: it is a label: what it is worth is what the hold of that sum in a sandbox is worth. -/
noncomputable def Try.pinned : Pinned := { name := "ytpdnebimkfejoaa", sum := "0fd7f091c15d551ca633500d21dd8d62cde23de86fdbba76bfc49a6302553d56", checked := Try.checked }
namespace Rows
def none {H : Type} : Left H := { results := [], args := [] }

/-- 'thresherlaw25.LineageBack': WHATEVER THE INPUT: true; the input reads as it did. -/
def lineageBackSpec : ChangeSpec := { name := "lineageBack", fn := fun _ => fun
  | [d] => { results := [.lit (.bool true)], args := [d] }
  | _ => none }
def lineageBackRow : OpenClaim := { program := "ytpdnebimkfejoaa", sum := "0fd7f091c15d551ca633500d21dd8d62cde23de86fdbba76bfc49a6302553d56", func := "thresher/thresherlaw25.LineageBack", spec := "lineageBack", unfollowed := true, recurses := true, plainKeys := false, apart := false }
def LineageBackSaid : Prop := lineageBackRow.holds Try.pinned (OpenSpec.ofChange lineageBackSpec)

/-- ITS FALSE NEIGHBOUR: 'it returns false'. Refute it at one input. -/
def lineageBackWrong : ChangeSpec := { name := "lineageBack", fn := fun _ => fun
  | [d] => { results := [.lit (.bool false)], args := [d] }
  | _ => none }
def LineageBackWrongFalsely : Prop := lineageBackRow.holds Try.pinned (OpenSpec.ofChange lineageBackWrong)

/-- 'thresherlaw25.LineageOne': WHATEVER THE INPUT: true; the input reads as it did. -/
def lineageOneSpec : ChangeSpec := { name := "lineageOne", fn := fun _ => fun
  | [d] => { results := [.lit (.bool true)], args := [d] }
  | _ => none }
def lineageOneRow : OpenClaim := { program := "ytpdnebimkfejoaa", sum := "0fd7f091c15d551ca633500d21dd8d62cde23de86fdbba76bfc49a6302553d56", func := "thresher/thresherlaw25.LineageOne", spec := "lineageOne", unfollowed := true, recurses := true, plainKeys := false, apart := false }
def LineageOneSaid : Prop := lineageOneRow.holds Try.pinned (OpenSpec.ofChange lineageOneSpec)

/-- ITS FALSE NEIGHBOUR: 'it returns false'. Refute it at one input. -/
def lineageOneWrong : ChangeSpec := { name := "lineageOne", fn := fun _ => fun
  | [d] => { results := [.lit (.bool false)], args := [d] }
  | _ => none }
def LineageOneWrongFalsely : Prop := lineageOneRow.holds Try.pinned (OpenSpec.ofChange lineageOneWrong)

/-- 'thresherlaw25.LineagePlays': WHATEVER THE INPUT: true; the input reads as it did. -/
def lineagePlaysSpec : ChangeSpec := { name := "lineagePlays", fn := fun _ => fun
  | [d] => { results := [.lit (.bool true)], args := [d] }
  | _ => none }
def lineagePlaysRow : OpenClaim := { program := "ytpdnebimkfejoaa", sum := "0fd7f091c15d551ca633500d21dd8d62cde23de86fdbba76bfc49a6302553d56", func := "thresher/thresherlaw25.LineagePlays", spec := "lineagePlays", unfollowed := true, recurses := true, plainKeys := false, apart := false }
def LineagePlaysSaid : Prop := lineagePlaysRow.holds Try.pinned (OpenSpec.ofChange lineagePlaysSpec)

/-- ITS FALSE NEIGHBOUR: 'it returns false'. Refute it at one input. -/
def lineagePlaysWrong : ChangeSpec := { name := "lineagePlays", fn := fun _ => fun
  | [d] => { results := [.lit (.bool false)], args := [d] }
  | _ => none }
def LineagePlaysWrongFalsely : Prop := lineagePlaysRow.holds Try.pinned (OpenSpec.ofChange lineagePlaysWrong)

/-- 'thresherlaw25.LineageNone': WHATEVER THE INPUT: true; the input reads as it did. -/
def lineageNoneSpec : ChangeSpec := { name := "lineageNone", fn := fun _ => fun
  | [d1, d2, d3] => { results := [.lit (.bool true)], args := [d1, d2, d3] }
  | _ => none }
def lineageNoneRow : OpenClaim := { program := "ytpdnebimkfejoaa", sum := "0fd7f091c15d551ca633500d21dd8d62cde23de86fdbba76bfc49a6302553d56", func := "thresher/thresherlaw25.LineageNone", spec := "lineageNone", unfollowed := true, recurses := true, plainKeys := false, apart := false }
def LineageNoneSaid : Prop := lineageNoneRow.holds Try.pinned (OpenSpec.ofChange lineageNoneSpec)

/-- ITS FALSE NEIGHBOUR: 'it returns false'. Refute it at one input. -/
def lineageNoneWrong : ChangeSpec := { name := "lineageNone", fn := fun _ => fun
  | [d1, d2, d3] => { results := [.lit (.bool false)], args := [d1, d2, d3] }
  | _ => none }
def LineageNoneWrongFalsely : Prop := lineageNoneRow.holds Try.pinned (OpenSpec.ofChange lineageNoneWrong)

/- THE SECOND FORM. 'bulk': how many values and letters a reading holds, each counted each time it is reached (what is shared counts as often as it is met; a slice's spare places count too). A statement '..UptoSaid' is the law's where the arguments, and the package variables that the reading takes, are together of bulk at most 1048576: NARROWER than '..Said'. Prove '..Said' where nothing that the law and all that it calls make is longer than what came in: it says more and counts as full. Else prove '..UptoSaid'. A law counts once. -/
mutual
def uptoBulk {H : Type} : DataW H → Nat
  | .lit (.string bytes) => bytes.length + 1
  | .lit _ => 1
  | .nil => 1
  | .ptr d => uptoBulk d + 1
  | .slice elems spare => uptoBulkAll elems + uptoBulkAll spare + 1
  | .agg parts => uptoBulkAll parts + 1
  | .iface _ d => uptoBulk d + 1
  | .map entries => uptoBulkEntries entries + 1
  | .held _ => 1
def uptoBulkAll {H : Type} : List (DataW H) → Nat
  | [] => 0
  | d :: r => uptoBulk d + uptoBulkAll r
def uptoBulkEntries {H : Type} : List (Lit × DataW H) → Nat
  | [] => 0
  | x :: r => uptoBulkEntry x + uptoBulkEntries r
def uptoBulkEntry {H : Type} : Lit × DataW H → Nat
  | (.string bytes, d) => bytes.length + uptoBulk d + 1
  | (_, d) => uptoBulk d + 1
 end
def uptoSmall : (H : Type) → List (DataW H) → Bool := fun _ ds => decide (uptoBulkAll ds ≤ 1048576)
def OpenSpec.upto (s : _root_.Go.ChangeSpec) : _root_.Go.OpenSpec := { _root_.Go.OpenSpec.ofChange s with cond := some uptoSmall }

/-- 'thresherlaw25.LineageBack', WHERE WHAT IT READS IS OF BULK AT MOST 1048576: true; the input reads as it did. -/
def lineageBackUptoRow : OpenClaim := { program := "ytpdnebimkfejoaa", sum := "0fd7f091c15d551ca633500d21dd8d62cde23de86fdbba76bfc49a6302553d56", func := "thresher/thresherlaw25.LineageBack", spec := "lineageBack", unfollowed := true, recurses := true, plainKeys := false, apart := false, narrowed := true }
def LineageBackUptoSaid : Prop := lineageBackUptoRow.holds Try.pinned (OpenSpec.upto lineageBackSpec)

/-- 'thresherlaw25.LineageOne', WHERE WHAT IT READS IS OF BULK AT MOST 1048576: true; the input reads as it did. -/
def lineageOneUptoRow : OpenClaim := { program := "ytpdnebimkfejoaa", sum := "0fd7f091c15d551ca633500d21dd8d62cde23de86fdbba76bfc49a6302553d56", func := "thresher/thresherlaw25.LineageOne", spec := "lineageOne", unfollowed := true, recurses := true, plainKeys := false, apart := false, narrowed := true }
def LineageOneUptoSaid : Prop := lineageOneUptoRow.holds Try.pinned (OpenSpec.upto lineageOneSpec)

/-- 'thresherlaw25.LineagePlays', WHERE WHAT IT READS IS OF BULK AT MOST 1048576: true; the input reads as it did. -/
def lineagePlaysUptoRow : OpenClaim := { program := "ytpdnebimkfejoaa", sum := "0fd7f091c15d551ca633500d21dd8d62cde23de86fdbba76bfc49a6302553d56", func := "thresher/thresherlaw25.LineagePlays", spec := "lineagePlays", unfollowed := true, recurses := true, plainKeys := false, apart := false, narrowed := true }
def LineagePlaysUptoSaid : Prop := lineagePlaysUptoRow.holds Try.pinned (OpenSpec.upto lineagePlaysSpec)

/-- 'thresherlaw25.LineageNone', WHERE WHAT IT READS IS OF BULK AT MOST 1048576: true; the input reads as it did. -/
def lineageNoneUptoRow : OpenClaim := { program := "ytpdnebimkfejoaa", sum := "0fd7f091c15d551ca633500d21dd8d62cde23de86fdbba76bfc49a6302553d56", func := "thresher/thresherlaw25.LineageNone", spec := "lineageNone", unfollowed := true, recurses := true, plainKeys := false, apart := false, narrowed := true }
def LineageNoneUptoSaid : Prop := lineageNoneUptoRow.holds Try.pinned (OpenSpec.upto lineageNoneSpec)

end Rows
end Go.Proofs.Ytpdnebimkfejoaa
