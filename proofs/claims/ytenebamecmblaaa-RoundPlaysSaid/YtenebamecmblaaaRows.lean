/-
  No cell of these rows narrows 'for every input' (looked for: loops, veiled, ifaces, maps, wideKeys, modest, calm, conditions, laid).
  DERIVED. THE GIVEN ROWS OF THIS SEAT. 4 by the template 'for every input the law returns true; each argument reads behind the call as it read before'; 0 by the template 'total and deterministic' (their statements: YtenebamecmblaaaTotals.lean).
  GIVEN WITH THE SEED: the statements are not yours to turn. If you find one false, say at which input.
  Laid BY PROGRAM, IN A SANDBOX (cutbox-rows.mjs): the forced cells as the released guide's own fill.sh prints them over the translation 27bda65f725c4aa4… (all of the seat's roots in one cut). By AI agents, Wed Nov 11 2026. No macro, syntax, notation, axiom, sorry.
-/
import Derived.Test.YtenebamecmblaaaChecked
import GoSem.Claim
import GoSem.ClaimJoined
import GoSem.ClaimMapViews
import Derived.JoinedTies
import Derived.KernelRfl
namespace Go.Proofs.Ytenebamecmblaaa
/- THE CELL 'sum', in the pinned program and in every row, IS THE sha256 OF THE DUMP (.gsa) THAT YtenebamecmblaaaProg.lean LOADS. Nothing in Lean hashes anything: it is a label: what it is worth is what the hold of that sum in a sandbox is worth. -/
noncomputable def Try.pinned : Pinned := { name := "ytenebamecmblaaa", sum := "27bda65f725c4aa48aafecbe481a57b9921b1f7c14b1eae87683596644698429", checked := Try.checked }
namespace Rows
def none {H : Type} : Left H := { results := [], args := [] }

/-- 'thresherlaw21.RoundFull': WHATEVER THE INPUT: true; the input reads as it did. -/
def roundFullSpec : ChangeSpec := { name := "roundFull", fn := fun _ => fun
  | [d] => { results := [.lit (.bool true)], args := [d] }
  | _ => none }
def roundFullRow : OpenClaim := { program := "ytenebamecmblaaa", sum := "27bda65f725c4aa48aafecbe481a57b9921b1f7c14b1eae87683596644698429", func := "thresher/thresherlaw21.RoundFull", spec := "roundFull", inPlace := ["slices.overlaps[int]"], unfollowed := true, recurses := true, plainKeys := false, apart := false }
def RoundFullSaid : Prop := roundFullRow.holds Try.pinned (OpenSpec.ofChange roundFullSpec)

/-- ITS FALSE NEIGHBOUR: 'it returns false'. Refute it at one input. -/
def roundFullWrong : ChangeSpec := { name := "roundFull", fn := fun _ => fun
  | [d] => { results := [.lit (.bool false)], args := [d] }
  | _ => none }
def RoundFullWrongFalsely : Prop := roundFullRow.holds Try.pinned (OpenSpec.ofChange roundFullWrong)

/-- 'thresherlaw21.RoundPlays': WHATEVER THE INPUT: true; the input reads as it did. -/
def roundPlaysSpec : ChangeSpec := { name := "roundPlays", fn := fun _ => fun
  | [d] => { results := [.lit (.bool true)], args := [d] }
  | _ => none }
def roundPlaysRow : OpenClaim := { program := "ytenebamecmblaaa", sum := "27bda65f725c4aa48aafecbe481a57b9921b1f7c14b1eae87683596644698429", func := "thresher/thresherlaw21.RoundPlays", spec := "roundPlays", inPlace := ["slices.overlaps[int]"], unfollowed := true, recurses := true, plainKeys := false, apart := false }
def RoundPlaysSaid : Prop := roundPlaysRow.holds Try.pinned (OpenSpec.ofChange roundPlaysSpec)

/-- ITS FALSE NEIGHBOUR: 'it returns false'. Refute it at one input. -/
def roundPlaysWrong : ChangeSpec := { name := "roundPlays", fn := fun _ => fun
  | [d] => { results := [.lit (.bool false)], args := [d] }
  | _ => none }
def RoundPlaysWrongFalsely : Prop := roundPlaysRow.holds Try.pinned (OpenSpec.ofChange roundPlaysWrong)

/-- 'thresherlaw21.RoundSums': WHATEVER THE INPUT: true; the input reads as it did. -/
def roundSumsSpec : ChangeSpec := { name := "roundSums", fn := fun _ => fun
  | [d] => { results := [.lit (.bool true)], args := [d] }
  | _ => none }
def roundSumsRow : OpenClaim := { program := "ytenebamecmblaaa", sum := "27bda65f725c4aa48aafecbe481a57b9921b1f7c14b1eae87683596644698429", func := "thresher/thresherlaw21.RoundSums", spec := "roundSums", inPlace := ["slices.overlaps[int]"], unfollowed := true, recurses := true, plainKeys := false, apart := false }
def RoundSumsSaid : Prop := roundSumsRow.holds Try.pinned (OpenSpec.ofChange roundSumsSpec)

/-- ITS FALSE NEIGHBOUR: 'it returns false'. Refute it at one input. -/
def roundSumsWrong : ChangeSpec := { name := "roundSums", fn := fun _ => fun
  | [d] => { results := [.lit (.bool false)], args := [d] }
  | _ => none }
def RoundSumsWrongFalsely : Prop := roundSumsRow.holds Try.pinned (OpenSpec.ofChange roundSumsWrong)

/-- 'thresherlaw21.RoundNone': WHATEVER THE INPUT: true; the input reads as it did. -/
def roundNoneSpec : ChangeSpec := { name := "roundNone", fn := fun _ => fun
  | [d] => { results := [.lit (.bool true)], args := [d] }
  | _ => none }
def roundNoneRow : OpenClaim := { program := "ytenebamecmblaaa", sum := "27bda65f725c4aa48aafecbe481a57b9921b1f7c14b1eae87683596644698429", func := "thresher/thresherlaw21.RoundNone", spec := "roundNone", inPlace := ["slices.overlaps[int]"], unfollowed := true, recurses := true, plainKeys := false, apart := false }
def RoundNoneSaid : Prop := roundNoneRow.holds Try.pinned (OpenSpec.ofChange roundNoneSpec)

/-- ITS FALSE NEIGHBOUR: 'it returns false'. Refute it at one input. -/
def roundNoneWrong : ChangeSpec := { name := "roundNone", fn := fun _ => fun
  | [d] => { results := [.lit (.bool false)], args := [d] }
  | _ => none }
def RoundNoneWrongFalsely : Prop := roundNoneRow.holds Try.pinned (OpenSpec.ofChange roundNoneWrong)

/- THE SECOND FORM. 'bulk': how many values and letters a reading holds, each counted each time it is reached (what is shared counts as often as it is met; a slice's spare places count too). A statement '..UptoSaid' is the law's where the arguments, and the package variables that the reading takes, are together of bulk at most 1048576: NARROWER than '..Said'. Prove '..Said' where nothing that the law and all that it calls make is longer than what came in: it says more and counts as full. Else prove '..UptoSaid'. A law counts once. -/
mutual
def uptoBulk {H : Type} : DataW H → Nat
  | .lit (.string bytes) => bytes.length + 1
  | .lit _ => 1
  | .nil => 1
  | .ptr d => uptoBulk d + 1
  | .slice elems spare => uptoBulkAll elems + uptoBulkAll spare + 1
  | .agg parts => uptoBulkAll parts + 1
  | .iface _ d => uptoBulk d + 1
  | .map entries => uptoBulkEntries entries + 1
  | .held _ => 1
def uptoBulkAll {H : Type} : List (DataW H) → Nat
  | [] => 0
  | d :: r => uptoBulk d + uptoBulkAll r
def uptoBulkEntries {H : Type} : List (Lit × DataW H) → Nat
  | [] => 0
  | x :: r => uptoBulkEntry x + uptoBulkEntries r
def uptoBulkEntry {H : Type} : Lit × DataW H → Nat
  | (.string bytes, d) => bytes.length + uptoBulk d + 1
  | (_, d) => uptoBulk d + 1
 end
def uptoSmall : (H : Type) → List (DataW H) → Bool := fun _ ds => decide (uptoBulkAll ds ≤ 1048576)
def OpenSpec.upto (s : _root_.Go.ChangeSpec) : _root_.Go.OpenSpec := { _root_.Go.OpenSpec.ofChange s with cond := some uptoSmall }

/-- 'thresherlaw21.RoundFull', WHERE WHAT IT READS IS OF BULK AT MOST 1048576: true; the input reads as it did. -/
def roundFullUptoRow : OpenClaim := { program := "ytenebamecmblaaa", sum := "27bda65f725c4aa48aafecbe481a57b9921b1f7c14b1eae87683596644698429", func := "thresher/thresherlaw21.RoundFull", spec := "roundFull", inPlace := ["slices.overlaps[int]"], unfollowed := true, recurses := true, plainKeys := false, apart := false, narrowed := true }
def RoundFullUptoSaid : Prop := roundFullUptoRow.holds Try.pinned (OpenSpec.upto roundFullSpec)

/-- 'thresherlaw21.RoundPlays', WHERE WHAT IT READS IS OF BULK AT MOST 1048576: true; the input reads as it did. -/
def roundPlaysUptoRow : OpenClaim := { program := "ytenebamecmblaaa", sum := "27bda65f725c4aa48aafecbe481a57b9921b1f7c14b1eae87683596644698429", func := "thresher/thresherlaw21.RoundPlays", spec := "roundPlays", inPlace := ["slices.overlaps[int]"], unfollowed := true, recurses := true, plainKeys := false, apart := false, narrowed := true }
def RoundPlaysUptoSaid : Prop := roundPlaysUptoRow.holds Try.pinned (OpenSpec.upto roundPlaysSpec)

/-- 'thresherlaw21.RoundSums', WHERE WHAT IT READS IS OF BULK AT MOST 1048576: true; the input reads as it did. -/
def roundSumsUptoRow : OpenClaim := { program := "ytenebamecmblaaa", sum := "27bda65f725c4aa48aafecbe481a57b9921b1f7c14b1eae87683596644698429", func := "thresher/thresherlaw21.RoundSums", spec := "roundSums", inPlace := ["slices.overlaps[int]"], unfollowed := true, recurses := true, plainKeys := false, apart := false, narrowed := true }
def RoundSumsUptoSaid : Prop := roundSumsUptoRow.holds Try.pinned (OpenSpec.upto roundSumsSpec)

/-- 'thresherlaw21.RoundNone', WHERE WHAT IT READS IS OF BULK AT MOST 1048576: true; the input reads as it did. -/
def roundNoneUptoRow : OpenClaim := { program := "ytenebamecmblaaa", sum := "27bda65f725c4aa48aafecbe481a57b9921b1f7c14b1eae87683596644698429", func := "thresher/thresherlaw21.RoundNone", spec := "roundNone", inPlace := ["slices.overlaps[int]"], unfollowed := true, recurses := true, plainKeys := false, apart := false, narrowed := true }
def RoundNoneUptoSaid : Prop := roundNoneUptoRow.holds Try.pinned (OpenSpec.upto roundNoneSpec)

end Rows
end Go.Proofs.Ytenebamecmblaaa
