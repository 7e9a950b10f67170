/-
  No cell of these rows narrows 'for every input' (looked for: loops, veiled, ifaces, maps, wideKeys, modest, calm, conditions, laid).
  DERIVED. THE GIVEN ROWS OF THIS SEAT. 3 by the template 'for every input the law returns true; each argument reads behind the call as it read before'; 0 by the template 'total and deterministic' (their statements: YtibfcoaiodmimaaTotals.lean).
  GIVEN WITH THE SEED: the statements are not yours to turn. If you find one false, say at which input.
  Laid BY PROGRAM, IN A SANDBOX (cutbox-rows.mjs): the forced cells as the released guide's own fill.sh prints them over the translation 4ba3c88249ef4f9a… (all of the seat's roots in one cut). By AI agents, Wed Nov 11 2026. No macro, syntax, notation, axiom, sorry.
-/
import Derived.Test.YtibfcoaiodmimaaChecked
import GoSem.Claim
import GoSem.ClaimJoined
import GoSem.ClaimMapViews
import Derived.JoinedTies
import Derived.KernelRfl
namespace Go.Proofs.Ytibfcoaiodmimaa
/- THE CELL 'sum', in the pinned program and in every row, IS THE sha256 OF THE DUMP (.gsa) THAT YtibfcoaiodmimaaProg.lean LOADS. Nothing in Lean hashes anything: it is a label: what it is worth is what the hold of that sum in a sandbox is worth. -/
noncomputable def Try.pinned : Pinned := { name := "ytibfcoaiodmimaa", sum := "4ba3c88249ef4f9a2b37afd358e95fcc9207e8e55b6cd8a5553d211dc9924c7a", checked := Try.checked }
namespace Rows
def none {H : Type} : Left H := { results := [], args := [] }

/-- 'thresherlaw24.CommitOrder': WHATEVER THE INPUT: true; the input reads as it did. -/
def commitOrderSpec : ChangeSpec := { name := "commitOrder", fn := fun _ => fun
  | [d1, d2] => { results := [.lit (.bool true)], args := [d1, d2] }
  | _ => none }
def commitOrderRow : OpenClaim := { program := "ytibfcoaiodmimaa", sum := "4ba3c88249ef4f9a2b37afd358e95fcc9207e8e55b6cd8a5553d211dc9924c7a", func := "thresher/thresherlaw24.CommitOrder", spec := "commitOrder", unfollowed := true, recurses := true, plainKeys := false, apart := false }
def CommitOrderSaid : Prop := commitOrderRow.holds Try.pinned (OpenSpec.ofChange commitOrderSpec)

/-- ITS FALSE NEIGHBOUR: 'it returns false'. Refute it at one input. -/
def commitOrderWrong : ChangeSpec := { name := "commitOrder", fn := fun _ => fun
  | [d1, d2] => { results := [.lit (.bool false)], args := [d1, d2] }
  | _ => none }
def CommitOrderWrongFalsely : Prop := commitOrderRow.holds Try.pinned (OpenSpec.ofChange commitOrderWrong)

/-- 'thresherlaw24.CommitOnce': WHATEVER THE INPUT: true; the input reads as it did. -/
def commitOnceSpec : ChangeSpec := { name := "commitOnce", fn := fun _ => fun
  | [d1, d2, d3] => { results := [.lit (.bool true)], args := [d1, d2, d3] }
  | _ => none }
def commitOnceRow : OpenClaim := { program := "ytibfcoaiodmimaa", sum := "4ba3c88249ef4f9a2b37afd358e95fcc9207e8e55b6cd8a5553d211dc9924c7a", func := "thresher/thresherlaw24.CommitOnce", spec := "commitOnce", unfollowed := true, recurses := true, plainKeys := false, apart := false }
def CommitOnceSaid : Prop := commitOnceRow.holds Try.pinned (OpenSpec.ofChange commitOnceSpec)

/-- ITS FALSE NEIGHBOUR: 'it returns false'. Refute it at one input. -/
def commitOnceWrong : ChangeSpec := { name := "commitOnce", fn := fun _ => fun
  | [d1, d2, d3] => { results := [.lit (.bool false)], args := [d1, d2, d3] }
  | _ => none }
def CommitOnceWrongFalsely : Prop := commitOnceRow.holds Try.pinned (OpenSpec.ofChange commitOnceWrong)

/-- 'thresherlaw24.CommitNone': WHATEVER THE INPUT: true; the input reads as it did. -/
def commitNoneSpec : ChangeSpec := { name := "commitNone", fn := fun _ => fun
  | [d] => { results := [.lit (.bool true)], args := [d] }
  | _ => none }
def commitNoneRow : OpenClaim := { program := "ytibfcoaiodmimaa", sum := "4ba3c88249ef4f9a2b37afd358e95fcc9207e8e55b6cd8a5553d211dc9924c7a", func := "thresher/thresherlaw24.CommitNone", spec := "commitNone", unfollowed := true, recurses := true, plainKeys := false, apart := false }
def CommitNoneSaid : Prop := commitNoneRow.holds Try.pinned (OpenSpec.ofChange commitNoneSpec)

/-- ITS FALSE NEIGHBOUR: 'it returns false'. Refute it at one input. -/
def commitNoneWrong : ChangeSpec := { name := "commitNone", fn := fun _ => fun
  | [d] => { results := [.lit (.bool false)], args := [d] }
  | _ => none }
def CommitNoneWrongFalsely : Prop := commitNoneRow.holds Try.pinned (OpenSpec.ofChange commitNoneWrong)

/- THE SECOND FORM. 'bulk': how many values and letters a reading holds, each counted each time it is reached (what is shared counts as often as it is met; a slice's spare places count too). A statement '..UptoSaid' is the law's where the arguments, and the package variables that the reading takes, are together of bulk at most 1048576: NARROWER than '..Said'. Prove '..Said' where nothing that the law and all that it calls make is longer than what came in: it says more and counts as full. Else prove '..UptoSaid'. A law counts once. -/
mutual
def uptoBulk {H : Type} : DataW H → Nat
  | .lit (.string bytes) => bytes.length + 1
  | .lit _ => 1
  | .nil => 1
  | .ptr d => uptoBulk d + 1
  | .slice elems spare => uptoBulkAll elems + uptoBulkAll spare + 1
  | .agg parts => uptoBulkAll parts + 1
  | .iface _ d => uptoBulk d + 1
  | .map entries => uptoBulkEntries entries + 1
  | .held _ => 1
def uptoBulkAll {H : Type} : List (DataW H) → Nat
  | [] => 0
  | d :: r => uptoBulk d + uptoBulkAll r
def uptoBulkEntries {H : Type} : List (Lit × DataW H) → Nat
  | [] => 0
  | x :: r => uptoBulkEntry x + uptoBulkEntries r
def uptoBulkEntry {H : Type} : Lit × DataW H → Nat
  | (.string bytes, d) => bytes.length + uptoBulk d + 1
  | (_, d) => uptoBulk d + 1
 end
def uptoSmall : (H : Type) → List (DataW H) → Bool := fun _ ds => decide (uptoBulkAll ds ≤ 1048576)
def OpenSpec.upto (s : _root_.Go.ChangeSpec) : _root_.Go.OpenSpec := { _root_.Go.OpenSpec.ofChange s with cond := some uptoSmall }

/-- 'thresherlaw24.CommitOrder', WHERE WHAT IT READS IS OF BULK AT MOST 1048576: true; the input reads as it did. -/
def commitOrderUptoRow : OpenClaim := { program := "ytibfcoaiodmimaa", sum := "4ba3c88249ef4f9a2b37afd358e95fcc9207e8e55b6cd8a5553d211dc9924c7a", func := "thresher/thresherlaw24.CommitOrder", spec := "commitOrder", unfollowed := true, recurses := true, plainKeys := false, apart := false, narrowed := true }
def CommitOrderUptoSaid : Prop := commitOrderUptoRow.holds Try.pinned (OpenSpec.upto commitOrderSpec)

/-- 'thresherlaw24.CommitOnce', WHERE WHAT IT READS IS OF BULK AT MOST 1048576: true; the input reads as it did. -/
def commitOnceUptoRow : OpenClaim := { program := "ytibfcoaiodmimaa", sum := "4ba3c88249ef4f9a2b37afd358e95fcc9207e8e55b6cd8a5553d211dc9924c7a", func := "thresher/thresherlaw24.CommitOnce", spec := "commitOnce", unfollowed := true, recurses := true, plainKeys := false, apart := false, narrowed := true }
def CommitOnceUptoSaid : Prop := commitOnceUptoRow.holds Try.pinned (OpenSpec.upto commitOnceSpec)

/-- 'thresherlaw24.CommitNone', WHERE WHAT IT READS IS OF BULK AT MOST 1048576: true; the input reads as it did. -/
def commitNoneUptoRow : OpenClaim := { program := "ytibfcoaiodmimaa", sum := "4ba3c88249ef4f9a2b37afd358e95fcc9207e8e55b6cd8a5553d211dc9924c7a", func := "thresher/thresherlaw24.CommitNone", spec := "commitNone", unfollowed := true, recurses := true, plainKeys := false, apart := false, narrowed := true }
def CommitNoneUptoSaid : Prop := commitNoneUptoRow.holds Try.pinned (OpenSpec.upto commitNoneSpec)

end Rows
end Go.Proofs.Ytibfcoaiodmimaa
