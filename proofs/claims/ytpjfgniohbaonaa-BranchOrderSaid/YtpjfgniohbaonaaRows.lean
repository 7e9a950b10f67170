/-
  No cell of these rows narrows 'for every input' (looked for: loops, veiled, ifaces, maps, wideKeys, modest, calm, conditions, laid).
  DERIVED. THE GIVEN ROWS OF THIS SEAT. 4 by the template 'for every input the law returns true; each argument reads behind the call as it read before'; 0 by the template 'total and deterministic' (their statements: YtpjfgniohbaonaaTotals.lean).
  GIVEN WITH THE SEED: the statements are not yours to turn. If you find one false, say at which input.
  Laid BY PROGRAM, IN A SANDBOX (cutbox-rows.mjs): the forced cells as the released guide's own fill.sh prints them over the translation 457d3b09f65b8392… (all of the seat's roots in one cut). By AI agents, Wed Nov 11 2026. No macro, syntax, notation, axiom, sorry.
-/
import Derived.Test.YtpjfgniohbaonaaChecked
import GoSem.Claim
import GoSem.ClaimJoined
import GoSem.ClaimMapViews
import Derived.JoinedTies
import Derived.KernelRfl
namespace Go.Proofs.Ytpjfgniohbaonaa
/- THE CELL 'sum', in the pinned program and in every row, IS THE sha256 OF THE DUMP (.gsa) THAT YtpjfgniohbaonaaProg.lean LOADS. Nothing in Lean hashes anything: it is a label: what it is worth is what the hold of that sum in a sandbox is worth. -/
noncomputable def Try.pinned : Pinned := { name := "ytpjfgniohbaonaa", sum := "457d3b09f65b8392143c615abe3cdda68861e9f5e0a79367a9bdda54a152dcb7", checked := Try.checked }
namespace Rows
def none {H : Type} : Left H := { results := [], args := [] }

/-- 'thresherlaw12.BranchTells': WHATEVER THE INPUT: true; the input reads as it did. -/
def branchTellsSpec : ChangeSpec := { name := "branchTells", fn := fun _ => fun
  | [d1, d2, d3] => { results := [.lit (.bool true)], args := [d1, d2, d3] }
  | _ => none }
def branchTellsRow : OpenClaim := { program := "ytpjfgniohbaonaa", sum := "457d3b09f65b8392143c615abe3cdda68861e9f5e0a79367a9bdda54a152dcb7", func := "thresher/thresherlaw12.BranchTells", spec := "branchTells", unfollowed := true, recurses := true, apart := false }
def BranchTellsSaid : Prop := branchTellsRow.holds Try.pinned (OpenSpec.ofChange branchTellsSpec)

/-- ITS FALSE NEIGHBOUR: 'it returns false'. Refute it at one input. -/
def branchTellsWrong : ChangeSpec := { name := "branchTells", fn := fun _ => fun
  | [d1, d2, d3] => { results := [.lit (.bool false)], args := [d1, d2, d3] }
  | _ => none }
def BranchTellsWrongFalsely : Prop := branchTellsRow.holds Try.pinned (OpenSpec.ofChange branchTellsWrong)

/-- 'thresherlaw12.BranchSorts': WHATEVER THE INPUT: true; the input reads as it did. -/
def branchSortsSpec : ChangeSpec := { name := "branchSorts", fn := fun _ => fun
  | [d] => { results := [.lit (.bool true)], args := [d] }
  | _ => none }
def branchSortsRow : OpenClaim := { program := "ytpjfgniohbaonaa", sum := "457d3b09f65b8392143c615abe3cdda68861e9f5e0a79367a9bdda54a152dcb7", func := "thresher/thresherlaw12.BranchSorts", spec := "branchSorts", unfollowed := true, recurses := true, apart := false }
def BranchSortsSaid : Prop := branchSortsRow.holds Try.pinned (OpenSpec.ofChange branchSortsSpec)

/-- ITS FALSE NEIGHBOUR: 'it returns false'. Refute it at one input. -/
def branchSortsWrong : ChangeSpec := { name := "branchSorts", fn := fun _ => fun
  | [d] => { results := [.lit (.bool false)], args := [d] }
  | _ => none }
def BranchSortsWrongFalsely : Prop := branchSortsRow.holds Try.pinned (OpenSpec.ofChange branchSortsWrong)

/-- 'thresherlaw12.BranchKin': WHATEVER THE INPUT: true; the input reads as it did. -/
def branchKinSpec : ChangeSpec := { name := "branchKin", fn := fun _ => fun
  | [d1, d2, d3, d4] => { results := [.lit (.bool true)], args := [d1, d2, d3, d4] }
  | _ => none }
def branchKinRow : OpenClaim := { program := "ytpjfgniohbaonaa", sum := "457d3b09f65b8392143c615abe3cdda68861e9f5e0a79367a9bdda54a152dcb7", func := "thresher/thresherlaw12.BranchKin", spec := "branchKin", unfollowed := true, recurses := true, apart := false }
def BranchKinSaid : Prop := branchKinRow.holds Try.pinned (OpenSpec.ofChange branchKinSpec)

/-- ITS FALSE NEIGHBOUR: 'it returns false'. Refute it at one input. -/
def branchKinWrong : ChangeSpec := { name := "branchKin", fn := fun _ => fun
  | [d1, d2, d3, d4] => { results := [.lit (.bool false)], args := [d1, d2, d3, d4] }
  | _ => none }
def BranchKinWrongFalsely : Prop := branchKinRow.holds Try.pinned (OpenSpec.ofChange branchKinWrong)

/-- 'thresherlaw12.BranchOrder': WHATEVER THE INPUT: true; the input reads as it did. -/
def branchOrderSpec : ChangeSpec := { name := "branchOrder", fn := fun _ => fun
  | [d1, d2, d3, d4] => { results := [.lit (.bool true)], args := [d1, d2, d3, d4] }
  | _ => none }
def branchOrderRow : OpenClaim := { program := "ytpjfgniohbaonaa", sum := "457d3b09f65b8392143c615abe3cdda68861e9f5e0a79367a9bdda54a152dcb7", func := "thresher/thresherlaw12.BranchOrder", spec := "branchOrder", unfollowed := true, recurses := true, apart := false }
def BranchOrderSaid : Prop := branchOrderRow.holds Try.pinned (OpenSpec.ofChange branchOrderSpec)

/-- ITS FALSE NEIGHBOUR: 'it returns false'. Refute it at one input. -/
def branchOrderWrong : ChangeSpec := { name := "branchOrder", fn := fun _ => fun
  | [d1, d2, d3, d4] => { results := [.lit (.bool false)], args := [d1, d2, d3, d4] }
  | _ => none }
def BranchOrderWrongFalsely : Prop := branchOrderRow.holds Try.pinned (OpenSpec.ofChange branchOrderWrong)

/- THE SECOND FORM. 'bulk': how many values and letters a reading holds, each counted each time it is reached (what is shared counts as often as it is met; a slice's spare places count too). A statement '..UptoSaid' is the law's where the arguments, and the package variables that the reading takes, are together of bulk at most 1048576: NARROWER than '..Said'. Prove '..Said' where nothing that the law and all that it calls make is longer than what came in: it says more and counts as full. Else prove '..UptoSaid'. A law counts once. -/
mutual
def uptoBulk {H : Type} : DataW H → Nat
  | .lit (.string bytes) => bytes.length + 1
  | .lit _ => 1
  | .nil => 1
  | .ptr d => uptoBulk d + 1
  | .slice elems spare => uptoBulkAll elems + uptoBulkAll spare + 1
  | .agg parts => uptoBulkAll parts + 1
  | .iface _ d => uptoBulk d + 1
  | .map entries => uptoBulkEntries entries + 1
  | .held _ => 1
def uptoBulkAll {H : Type} : List (DataW H) → Nat
  | [] => 0
  | d :: r => uptoBulk d + uptoBulkAll r
def uptoBulkEntries {H : Type} : List (Lit × DataW H) → Nat
  | [] => 0
  | x :: r => uptoBulkEntry x + uptoBulkEntries r
def uptoBulkEntry {H : Type} : Lit × DataW H → Nat
  | (.string bytes, d) => bytes.length + uptoBulk d + 1
  | (_, d) => uptoBulk d + 1
 end
def uptoSmall : (H : Type) → List (DataW H) → Bool := fun _ ds => decide (uptoBulkAll ds ≤ 1048576)
def OpenSpec.upto (s : _root_.Go.ChangeSpec) : _root_.Go.OpenSpec := { _root_.Go.OpenSpec.ofChange s with cond := some uptoSmall }

/-- 'thresherlaw12.BranchTells', WHERE WHAT IT READS IS OF BULK AT MOST 1048576: true; the input reads as it did. -/
def branchTellsUptoRow : OpenClaim := { program := "ytpjfgniohbaonaa", sum := "457d3b09f65b8392143c615abe3cdda68861e9f5e0a79367a9bdda54a152dcb7", func := "thresher/thresherlaw12.BranchTells", spec := "branchTells", unfollowed := true, recurses := true, apart := false, narrowed := true }
def BranchTellsUptoSaid : Prop := branchTellsUptoRow.holds Try.pinned (OpenSpec.upto branchTellsSpec)

/-- 'thresherlaw12.BranchSorts', WHERE WHAT IT READS IS OF BULK AT MOST 1048576: true; the input reads as it did. -/
def branchSortsUptoRow : OpenClaim := { program := "ytpjfgniohbaonaa", sum := "457d3b09f65b8392143c615abe3cdda68861e9f5e0a79367a9bdda54a152dcb7", func := "thresher/thresherlaw12.BranchSorts", spec := "branchSorts", unfollowed := true, recurses := true, apart := false, narrowed := true }
def BranchSortsUptoSaid : Prop := branchSortsUptoRow.holds Try.pinned (OpenSpec.upto branchSortsSpec)

/-- 'thresherlaw12.BranchKin', WHERE WHAT IT READS IS OF BULK AT MOST 1048576: true; the input reads as it did. -/
def branchKinUptoRow : OpenClaim := { program := "ytpjfgniohbaonaa", sum := "457d3b09f65b8392143c615abe3cdda68861e9f5e0a79367a9bdda54a152dcb7", func := "thresher/thresherlaw12.BranchKin", spec := "branchKin", unfollowed := true, recurses := true, apart := false, narrowed := true }
def BranchKinUptoSaid : Prop := branchKinUptoRow.holds Try.pinned (OpenSpec.upto branchKinSpec)

/-- 'thresherlaw12.BranchOrder', WHERE WHAT IT READS IS OF BULK AT MOST 1048576: true; the input reads as it did. -/
def branchOrderUptoRow : OpenClaim := { program := "ytpjfgniohbaonaa", sum := "457d3b09f65b8392143c615abe3cdda68861e9f5e0a79367a9bdda54a152dcb7", func := "thresher/thresherlaw12.BranchOrder", spec := "branchOrder", unfollowed := true, recurses := true, apart := false, narrowed := true }
def BranchOrderUptoSaid : Prop := branchOrderUptoRow.holds Try.pinned (OpenSpec.upto branchOrderSpec)

end Rows
end Go.Proofs.Ytpjfgniohbaonaa
