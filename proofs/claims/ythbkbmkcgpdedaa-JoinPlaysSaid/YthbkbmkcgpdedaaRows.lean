/-
  No cell of these rows narrows 'for every input' (looked for: loops, veiled, ifaces, maps, wideKeys, modest, calm, conditions, laid).
  DERIVED. THE GIVEN ROWS OF THIS SEAT. 3 by the template 'for every input the law returns true; each argument reads behind the call as it read before'; 0 by the template 'total and deterministic' (their statements: YthbkbmkcgpdedaaTotals.lean).
  GIVEN WITH THE SEED: the statements are not yours to turn. If you find one false, say at which input.
  Laid BY PROGRAM, IN A SANDBOX (cutbox-rows.mjs): the forced cells as the released guide's own fill.sh prints them over the translation 66ea27641f3cec92… (all of the seat's roots in one cut). By AI agents, Wed Nov 11 2026. No macro, syntax, notation, axiom, sorry.
-/
import Derived.Test.YthbkbmkcgpdedaaChecked
import GoSem.Claim
import GoSem.ClaimJoined
import GoSem.ClaimMapViews
import Derived.JoinedTies
import Derived.KernelRfl
namespace Go.Proofs.Ythbkbmkcgpdedaa
/- THE CELL 'sum', in the pinned program and in every row, IS THE sha256 OF THE DUMP (.gsa) THAT YthbkbmkcgpdedaaProg.lean LOADS. Nothing in Lean hashes anything: it is a label: what it is worth is what the hold of that sum in a sandbox is worth. -/
noncomputable def Try.pinned : Pinned := { name := "ythbkbmkcgpdedaa", sum := "66ea27641f3cec928bfe7380ac8e5d2271053b8c1cc20179efbf4c58f12b5d0f", checked := Try.checked }
namespace Rows
def none {H : Type} : Left H := { results := [], args := [] }

/-- 'thresherlaw17.JoinPlays': WHATEVER THE INPUT: true; the input reads as it did. -/
def joinPlaysSpec : ChangeSpec := { name := "joinPlays", fn := fun _ => fun
  | [d1, d2] => { results := [.lit (.bool true)], args := [d1, d2] }
  | _ => none }
def joinPlaysRow : OpenClaim := { program := "ythbkbmkcgpdedaa", sum := "66ea27641f3cec928bfe7380ac8e5d2271053b8c1cc20179efbf4c58f12b5d0f", func := "thresher/thresherlaw17.JoinPlays", spec := "joinPlays", unfollowed := true, recurses := true, plainKeys := false, apart := false }
def JoinPlaysSaid : Prop := joinPlaysRow.holds Try.pinned (OpenSpec.ofChange joinPlaysSpec)

/-- ITS FALSE NEIGHBOUR: 'it returns false'. Refute it at one input. -/
def joinPlaysWrong : ChangeSpec := { name := "joinPlays", fn := fun _ => fun
  | [d1, d2] => { results := [.lit (.bool false)], args := [d1, d2] }
  | _ => none }
def JoinPlaysWrongFalsely : Prop := joinPlaysRow.holds Try.pinned (OpenSpec.ofChange joinPlaysWrong)

/-- 'thresherlaw17.JoinWakes': WHATEVER THE INPUT: true; the input reads as it did. -/
def joinWakesSpec : ChangeSpec := { name := "joinWakes", fn := fun _ => fun
  | [d] => { results := [.lit (.bool true)], args := [d] }
  | _ => none }
def joinWakesRow : OpenClaim := { program := "ythbkbmkcgpdedaa", sum := "66ea27641f3cec928bfe7380ac8e5d2271053b8c1cc20179efbf4c58f12b5d0f", func := "thresher/thresherlaw17.JoinWakes", spec := "joinWakes", unfollowed := true, recurses := true, plainKeys := false, apart := false }
def JoinWakesSaid : Prop := joinWakesRow.holds Try.pinned (OpenSpec.ofChange joinWakesSpec)

/-- ITS FALSE NEIGHBOUR: 'it returns false'. Refute it at one input. -/
def joinWakesWrong : ChangeSpec := { name := "joinWakes", fn := fun _ => fun
  | [d] => { results := [.lit (.bool false)], args := [d] }
  | _ => none }
def JoinWakesWrongFalsely : Prop := joinWakesRow.holds Try.pinned (OpenSpec.ofChange joinWakesWrong)

/-- 'thresherlaw17.JoinNone': WHATEVER THE INPUT: true; the input reads as it did. -/
def joinNoneSpec : ChangeSpec := { name := "joinNone", fn := fun _ => fun
  | [d1, d2, d3] => { results := [.lit (.bool true)], args := [d1, d2, d3] }
  | _ => none }
def joinNoneRow : OpenClaim := { program := "ythbkbmkcgpdedaa", sum := "66ea27641f3cec928bfe7380ac8e5d2271053b8c1cc20179efbf4c58f12b5d0f", func := "thresher/thresherlaw17.JoinNone", spec := "joinNone", unfollowed := true, recurses := true, plainKeys := false, apart := false }
def JoinNoneSaid : Prop := joinNoneRow.holds Try.pinned (OpenSpec.ofChange joinNoneSpec)

/-- ITS FALSE NEIGHBOUR: 'it returns false'. Refute it at one input. -/
def joinNoneWrong : ChangeSpec := { name := "joinNone", fn := fun _ => fun
  | [d1, d2, d3] => { results := [.lit (.bool false)], args := [d1, d2, d3] }
  | _ => none }
def JoinNoneWrongFalsely : Prop := joinNoneRow.holds Try.pinned (OpenSpec.ofChange joinNoneWrong)

/- THE SECOND FORM. 'bulk': how many values and letters a reading holds, each counted each time it is reached (what is shared counts as often as it is met; a slice's spare places count too). A statement '..UptoSaid' is the law's where the arguments, and the package variables that the reading takes, are together of bulk at most 1048576: NARROWER than '..Said'. Prove '..Said' where nothing that the law and all that it calls make is longer than what came in: it says more and counts as full. Else prove '..UptoSaid'. A law counts once. -/
mutual
def uptoBulk {H : Type} : DataW H → Nat
  | .lit (.string bytes) => bytes.length + 1
  | .lit _ => 1
  | .nil => 1
  | .ptr d => uptoBulk d + 1
  | .slice elems spare => uptoBulkAll elems + uptoBulkAll spare + 1
  | .agg parts => uptoBulkAll parts + 1
  | .iface _ d => uptoBulk d + 1
  | .map entries => uptoBulkEntries entries + 1
  | .held _ => 1
def uptoBulkAll {H : Type} : List (DataW H) → Nat
  | [] => 0
  | d :: r => uptoBulk d + uptoBulkAll r
def uptoBulkEntries {H : Type} : List (Lit × DataW H) → Nat
  | [] => 0
  | x :: r => uptoBulkEntry x + uptoBulkEntries r
def uptoBulkEntry {H : Type} : Lit × DataW H → Nat
  | (.string bytes, d) => bytes.length + uptoBulk d + 1
  | (_, d) => uptoBulk d + 1
 end
def uptoSmall : (H : Type) → List (DataW H) → Bool := fun _ ds => decide (uptoBulkAll ds ≤ 1048576)
def OpenSpec.upto (s : _root_.Go.ChangeSpec) : _root_.Go.OpenSpec := { _root_.Go.OpenSpec.ofChange s with cond := some uptoSmall }

/-- 'thresherlaw17.JoinPlays', WHERE WHAT IT READS IS OF BULK AT MOST 1048576: true; the input reads as it did. -/
def joinPlaysUptoRow : OpenClaim := { program := "ythbkbmkcgpdedaa", sum := "66ea27641f3cec928bfe7380ac8e5d2271053b8c1cc20179efbf4c58f12b5d0f", func := "thresher/thresherlaw17.JoinPlays", spec := "joinPlays", unfollowed := true, recurses := true, plainKeys := false, apart := false, narrowed := true }
def JoinPlaysUptoSaid : Prop := joinPlaysUptoRow.holds Try.pinned (OpenSpec.upto joinPlaysSpec)

/-- 'thresherlaw17.JoinWakes', WHERE WHAT IT READS IS OF BULK AT MOST 1048576: true; the input reads as it did. -/
def joinWakesUptoRow : OpenClaim := { program := "ythbkbmkcgpdedaa", sum := "66ea27641f3cec928bfe7380ac8e5d2271053b8c1cc20179efbf4c58f12b5d0f", func := "thresher/thresherlaw17.JoinWakes", spec := "joinWakes", unfollowed := true, recurses := true, plainKeys := false, apart := false, narrowed := true }
def JoinWakesUptoSaid : Prop := joinWakesUptoRow.holds Try.pinned (OpenSpec.upto joinWakesSpec)

/-- 'thresherlaw17.JoinNone', WHERE WHAT IT READS IS OF BULK AT MOST 1048576: true; the input reads as it did. -/
def joinNoneUptoRow : OpenClaim := { program := "ythbkbmkcgpdedaa", sum := "66ea27641f3cec928bfe7380ac8e5d2271053b8c1cc20179efbf4c58f12b5d0f", func := "thresher/thresherlaw17.JoinNone", spec := "joinNone", unfollowed := true, recurses := true, plainKeys := false, apart := false, narrowed := true }
def JoinNoneUptoSaid : Prop := joinNoneUptoRow.holds Try.pinned (OpenSpec.upto joinNoneSpec)

end Rows
end Go.Proofs.Ythbkbmkcgpdedaa
