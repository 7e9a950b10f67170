/-
  No cell of these rows narrows 'for every input' (looked for: loops, veiled, ifaces, maps, wideKeys, modest, calm, conditions, laid).
  DERIVED. THE GIVEN ROWS OF THIS SEAT. 4 by the template 'for every input the law returns true; each argument reads behind the call as it read before'; 0 by the template 'total and deterministic' (their statements: YtbelafkklblidaaTotals.lean).
  GIVEN WITH THE SEED: the statements are not yours to turn. If you find one false, say at which input.
  Laid BY PROGRAM, IN A SANDBOX (cutbox-rows.mjs): the forced cells as the released guide's own fill.sh prints them over the translation 05436cae5db58f90… (all of the seat's roots in one cut). By AI agents, Wed Nov 11 2026. No macro, syntax, notation, axiom, sorry.
-/
import Derived.Test.YtbelafkklblidaaChecked
import GoSem.Claim
import GoSem.ClaimJoined
import GoSem.ClaimMapViews
import Derived.JoinedTies
import Derived.KernelRfl
namespace Go.Proofs.Ytbelafkklblidaa
/- THE CELL 'sum', in the pinned program and in every row, IS THE sha256 OF THE DUMP (.gsa) THAT YtbelafkklblidaaProg.lean LOADS. Nothing in Lean hashes anything: it is a label: what it is worth is what the hold of that sum in a sandbox is worth. -/
noncomputable def Try.pinned : Pinned := { name := "ytbelafkklblidaa", sum := "05436cae5db58f90b3176f1c3c5a8a55ba0a94ef216807951a24a1ea7a12553f", checked := Try.checked }
namespace Rows
def none {H : Type} : Left H := { results := [], args := [] }

/-- 'thresherlaw22.EpochPlays': WHATEVER THE INPUT: true; the input reads as it did. -/
def epochPlaysSpec : ChangeSpec := { name := "epochPlays", fn := fun _ => fun
  | [d1, d2, d3] => { results := [.lit (.bool true)], args := [d1, d2, d3] }
  | _ => none }
def epochPlaysRow : OpenClaim := { program := "ytbelafkklblidaa", sum := "05436cae5db58f90b3176f1c3c5a8a55ba0a94ef216807951a24a1ea7a12553f", func := "thresher/thresherlaw22.EpochPlays", spec := "epochPlays", unfollowed := true, recurses := true, plainKeys := false, apart := false }
def EpochPlaysSaid : Prop := epochPlaysRow.holds Try.pinned (OpenSpec.ofChange epochPlaysSpec)

/-- ITS FALSE NEIGHBOUR: 'it returns false'. Refute it at one input. -/
def epochPlaysWrong : ChangeSpec := { name := "epochPlays", fn := fun _ => fun
  | [d1, d2, d3] => { results := [.lit (.bool false)], args := [d1, d2, d3] }
  | _ => none }
def EpochPlaysWrongFalsely : Prop := epochPlaysRow.holds Try.pinned (OpenSpec.ofChange epochPlaysWrong)

/-- 'thresherlaw22.EpochFences': WHATEVER THE INPUT: true; the input reads as it did. -/
def epochFencesSpec : ChangeSpec := { name := "epochFences", fn := fun _ => fun
  | [d] => { results := [.lit (.bool true)], args := [d] }
  | _ => none }
def epochFencesRow : OpenClaim := { program := "ytbelafkklblidaa", sum := "05436cae5db58f90b3176f1c3c5a8a55ba0a94ef216807951a24a1ea7a12553f", func := "thresher/thresherlaw22.EpochFences", spec := "epochFences", unfollowed := true, recurses := true, plainKeys := false, apart := false }
def EpochFencesSaid : Prop := epochFencesRow.holds Try.pinned (OpenSpec.ofChange epochFencesSpec)

/-- ITS FALSE NEIGHBOUR: 'it returns false'. Refute it at one input. -/
def epochFencesWrong : ChangeSpec := { name := "epochFences", fn := fun _ => fun
  | [d] => { results := [.lit (.bool false)], args := [d] }
  | _ => none }
def EpochFencesWrongFalsely : Prop := epochFencesRow.holds Try.pinned (OpenSpec.ofChange epochFencesWrong)

/-- 'thresherlaw22.EpochNone': WHATEVER THE INPUT: true; the input reads as it did. -/
def epochNoneSpec : ChangeSpec := { name := "epochNone", fn := fun _ => fun
  | [d1, d2] => { results := [.lit (.bool true)], args := [d1, d2] }
  | _ => none }
def epochNoneRow : OpenClaim := { program := "ytbelafkklblidaa", sum := "05436cae5db58f90b3176f1c3c5a8a55ba0a94ef216807951a24a1ea7a12553f", func := "thresher/thresherlaw22.EpochNone", spec := "epochNone", unfollowed := true, recurses := true, plainKeys := false, apart := false }
def EpochNoneSaid : Prop := epochNoneRow.holds Try.pinned (OpenSpec.ofChange epochNoneSpec)

/-- ITS FALSE NEIGHBOUR: 'it returns false'. Refute it at one input. -/
def epochNoneWrong : ChangeSpec := { name := "epochNone", fn := fun _ => fun
  | [d1, d2] => { results := [.lit (.bool false)], args := [d1, d2] }
  | _ => none }
def EpochNoneWrongFalsely : Prop := epochNoneRow.holds Try.pinned (OpenSpec.ofChange epochNoneWrong)

/-- 'thresherlaw22.EpochBack': WHATEVER THE INPUT: true; the input reads as it did. -/
def epochBackSpec : ChangeSpec := { name := "epochBack", fn := fun _ => fun
  | [d] => { results := [.lit (.bool true)], args := [d] }
  | _ => none }
def epochBackRow : OpenClaim := { program := "ytbelafkklblidaa", sum := "05436cae5db58f90b3176f1c3c5a8a55ba0a94ef216807951a24a1ea7a12553f", func := "thresher/thresherlaw22.EpochBack", spec := "epochBack", unfollowed := true, recurses := true, plainKeys := false, apart := false }
def EpochBackSaid : Prop := epochBackRow.holds Try.pinned (OpenSpec.ofChange epochBackSpec)

/-- ITS FALSE NEIGHBOUR: 'it returns false'. Refute it at one input. -/
def epochBackWrong : ChangeSpec := { name := "epochBack", fn := fun _ => fun
  | [d] => { results := [.lit (.bool false)], args := [d] }
  | _ => none }
def EpochBackWrongFalsely : Prop := epochBackRow.holds Try.pinned (OpenSpec.ofChange epochBackWrong)

/- THE SECOND FORM. 'bulk': how many values and letters a reading holds, each counted each time it is reached (what is shared counts as often as it is met; a slice's spare places count too). A statement '..UptoSaid' is the law's where the arguments, and the package variables that the reading takes, are together of bulk at most 1048576: NARROWER than '..Said'. Prove '..Said' where nothing that the law and all that it calls make is longer than what came in: it says more and counts as full. Else prove '..UptoSaid'. A law counts once. -/
mutual
def uptoBulk {H : Type} : DataW H → Nat
  | .lit (.string bytes) => bytes.length + 1
  | .lit _ => 1
  | .nil => 1
  | .ptr d => uptoBulk d + 1
  | .slice elems spare => uptoBulkAll elems + uptoBulkAll spare + 1
  | .agg parts => uptoBulkAll parts + 1
  | .iface _ d => uptoBulk d + 1
  | .map entries => uptoBulkEntries entries + 1
  | .held _ => 1
def uptoBulkAll {H : Type} : List (DataW H) → Nat
  | [] => 0
  | d :: r => uptoBulk d + uptoBulkAll r
def uptoBulkEntries {H : Type} : List (Lit × DataW H) → Nat
  | [] => 0
  | x :: r => uptoBulkEntry x + uptoBulkEntries r
def uptoBulkEntry {H : Type} : Lit × DataW H → Nat
  | (.string bytes, d) => bytes.length + uptoBulk d + 1
  | (_, d) => uptoBulk d + 1
 end
def uptoSmall : (H : Type) → List (DataW H) → Bool := fun _ ds => decide (uptoBulkAll ds ≤ 1048576)
def OpenSpec.upto (s : _root_.Go.ChangeSpec) : _root_.Go.OpenSpec := { _root_.Go.OpenSpec.ofChange s with cond := some uptoSmall }

/-- 'thresherlaw22.EpochPlays', WHERE WHAT IT READS IS OF BULK AT MOST 1048576: true; the input reads as it did. -/
def epochPlaysUptoRow : OpenClaim := { program := "ytbelafkklblidaa", sum := "05436cae5db58f90b3176f1c3c5a8a55ba0a94ef216807951a24a1ea7a12553f", func := "thresher/thresherlaw22.EpochPlays", spec := "epochPlays", unfollowed := true, recurses := true, plainKeys := false, apart := false, narrowed := true }
def EpochPlaysUptoSaid : Prop := epochPlaysUptoRow.holds Try.pinned (OpenSpec.upto epochPlaysSpec)

/-- 'thresherlaw22.EpochFences', WHERE WHAT IT READS IS OF BULK AT MOST 1048576: true; the input reads as it did. -/
def epochFencesUptoRow : OpenClaim := { program := "ytbelafkklblidaa", sum := "05436cae5db58f90b3176f1c3c5a8a55ba0a94ef216807951a24a1ea7a12553f", func := "thresher/thresherlaw22.EpochFences", spec := "epochFences", unfollowed := true, recurses := true, plainKeys := false, apart := false, narrowed := true }
def EpochFencesUptoSaid : Prop := epochFencesUptoRow.holds Try.pinned (OpenSpec.upto epochFencesSpec)

/-- 'thresherlaw22.EpochNone', WHERE WHAT IT READS IS OF BULK AT MOST 1048576: true; the input reads as it did. -/
def epochNoneUptoRow : OpenClaim := { program := "ytbelafkklblidaa", sum := "05436cae5db58f90b3176f1c3c5a8a55ba0a94ef216807951a24a1ea7a12553f", func := "thresher/thresherlaw22.EpochNone", spec := "epochNone", unfollowed := true, recurses := true, plainKeys := false, apart := false, narrowed := true }
def EpochNoneUptoSaid : Prop := epochNoneUptoRow.holds Try.pinned (OpenSpec.upto epochNoneSpec)

/-- 'thresherlaw22.EpochBack', WHERE WHAT IT READS IS OF BULK AT MOST 1048576: true; the input reads as it did. -/
def epochBackUptoRow : OpenClaim := { program := "ytbelafkklblidaa", sum := "05436cae5db58f90b3176f1c3c5a8a55ba0a94ef216807951a24a1ea7a12553f", func := "thresher/thresherlaw22.EpochBack", spec := "epochBack", unfollowed := true, recurses := true, plainKeys := false, apart := false, narrowed := true }
def EpochBackUptoSaid : Prop := epochBackUptoRow.holds Try.pinned (OpenSpec.upto epochBackSpec)

end Rows
end Go.Proofs.Ytbelafkklblidaa
