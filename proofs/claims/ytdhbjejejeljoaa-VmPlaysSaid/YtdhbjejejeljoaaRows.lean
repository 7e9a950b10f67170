/-
  No cell of these rows narrows 'for every input' (looked for: loops, veiled, ifaces, maps, wideKeys, modest, calm, conditions, laid).
  DERIVED. THE GIVEN ROWS OF THIS SEAT. 3 by the template 'for every input the law returns true; each argument reads behind the call as it read before'; 0 by the template 'total and deterministic' (their statements: YtdhbjejejeljoaaTotals.lean).
  GIVEN WITH THE SEED: the statements are not yours to turn. If you find one false, say at which input.
  Laid BY PROGRAM, IN A SANDBOX (cutbox-rows.mjs): the forced cells as the released guide's own fill.sh prints them over the translation 87396c372fe1ca86… (all of the seat's roots in one cut). By AI agents, Wed Nov 11 2026. No macro, syntax, notation, axiom, sorry.
-/
import Derived.Test.YtdhbjejejeljoaaChecked
import GoSem.Claim
import GoSem.ClaimJoined
import GoSem.ClaimMapViews
import Derived.JoinedTies
import Derived.KernelRfl
namespace Go.Proofs.Ytdhbjejejeljoaa
/- THE CELL 'sum', in the pinned program and in every row, IS THE sha256 OF THE DUMP (.gsa) THAT YtdhbjejejeljoaaProg.lean LOADS. Nothing in Lean hashes anything: it is a label: what it is worth is what the hold of that sum in a sandbox is worth. -/
noncomputable def Try.pinned : Pinned := { name := "ytdhbjejejeljoaa", sum := "87396c372fe1ca864efbf90029099d2b62d1ccccf24a458e9298663f86b08d34", checked := Try.checked }
namespace Rows
def none {H : Type} : Left H := { results := [], args := [] }

/-- 'thresherlaw14.VmPlays': WHATEVER THE INPUT: true; the input reads as it did. -/
def vmPlaysSpec : ChangeSpec := { name := "vmPlays", fn := fun _ => fun
  | [d1, d2, d3] => { results := [.lit (.bool true)], args := [d1, d2, d3] }
  | _ => none }
def vmPlaysRow : OpenClaim := { program := "ytdhbjejejeljoaa", sum := "87396c372fe1ca864efbf90029099d2b62d1ccccf24a458e9298663f86b08d34", func := "thresher/thresherlaw14.VmPlays", spec := "vmPlays", unfollowed := true, recurses := true, apart := false }
def VmPlaysSaid : Prop := vmPlaysRow.holds Try.pinned (OpenSpec.ofChange vmPlaysSpec)

/-- ITS FALSE NEIGHBOUR: 'it returns false'. Refute it at one input. -/
def vmPlaysWrong : ChangeSpec := { name := "vmPlays", fn := fun _ => fun
  | [d1, d2, d3] => { results := [.lit (.bool false)], args := [d1, d2, d3] }
  | _ => none }
def VmPlaysWrongFalsely : Prop := vmPlaysRow.holds Try.pinned (OpenSpec.ofChange vmPlaysWrong)

/-- 'thresherlaw14.VmNil': WHATEVER THE INPUT: true; the input reads as it did. -/
def vmNilSpec : ChangeSpec := { name := "vmNil", fn := fun _ => fun
  | [d1, d2] => { results := [.lit (.bool true)], args := [d1, d2] }
  | _ => none }
def vmNilRow : OpenClaim := { program := "ytdhbjejejeljoaa", sum := "87396c372fe1ca864efbf90029099d2b62d1ccccf24a458e9298663f86b08d34", func := "thresher/thresherlaw14.VmNil", spec := "vmNil", unfollowed := true, recurses := true, apart := false }
def VmNilSaid : Prop := vmNilRow.holds Try.pinned (OpenSpec.ofChange vmNilSpec)

/-- ITS FALSE NEIGHBOUR: 'it returns false'. Refute it at one input. -/
def vmNilWrong : ChangeSpec := { name := "vmNil", fn := fun _ => fun
  | [d1, d2] => { results := [.lit (.bool false)], args := [d1, d2] }
  | _ => none }
def VmNilWrongFalsely : Prop := vmNilRow.holds Try.pinned (OpenSpec.ofChange vmNilWrong)

/-- 'thresherlaw14.VmPieces': WHATEVER THE INPUT: true; the input reads as it did. -/
def vmPiecesSpec : ChangeSpec := { name := "vmPieces", fn := fun _ => fun
  | [d1, d2, d3, d4] => { results := [.lit (.bool true)], args := [d1, d2, d3, d4] }
  | _ => none }
def vmPiecesRow : OpenClaim := { program := "ytdhbjejejeljoaa", sum := "87396c372fe1ca864efbf90029099d2b62d1ccccf24a458e9298663f86b08d34", func := "thresher/thresherlaw14.VmPieces", spec := "vmPieces", unfollowed := true, recurses := true, apart := false }
def VmPiecesSaid : Prop := vmPiecesRow.holds Try.pinned (OpenSpec.ofChange vmPiecesSpec)

/-- ITS FALSE NEIGHBOUR: 'it returns false'. Refute it at one input. -/
def vmPiecesWrong : ChangeSpec := { name := "vmPieces", fn := fun _ => fun
  | [d1, d2, d3, d4] => { results := [.lit (.bool false)], args := [d1, d2, d3, d4] }
  | _ => none }
def VmPiecesWrongFalsely : Prop := vmPiecesRow.holds Try.pinned (OpenSpec.ofChange vmPiecesWrong)

/- THE SECOND FORM. 'bulk': how many values and letters a reading holds, each counted each time it is reached (what is shared counts as often as it is met; a slice's spare places count too). A statement '..UptoSaid' is the law's where the arguments, and the package variables that the reading takes, are together of bulk at most 1048576: NARROWER than '..Said'. Prove '..Said' where nothing that the law and all that it calls make is longer than what came in: it says more and counts as full. Else prove '..UptoSaid'. A law counts once. -/
mutual
def uptoBulk {H : Type} : DataW H → Nat
  | .lit (.string bytes) => bytes.length + 1
  | .lit _ => 1
  | .nil => 1
  | .ptr d => uptoBulk d + 1
  | .slice elems spare => uptoBulkAll elems + uptoBulkAll spare + 1
  | .agg parts => uptoBulkAll parts + 1
  | .iface _ d => uptoBulk d + 1
  | .map entries => uptoBulkEntries entries + 1
  | .held _ => 1
def uptoBulkAll {H : Type} : List (DataW H) → Nat
  | [] => 0
  | d :: r => uptoBulk d + uptoBulkAll r
def uptoBulkEntries {H : Type} : List (Lit × DataW H) → Nat
  | [] => 0
  | x :: r => uptoBulkEntry x + uptoBulkEntries r
def uptoBulkEntry {H : Type} : Lit × DataW H → Nat
  | (.string bytes, d) => bytes.length + uptoBulk d + 1
  | (_, d) => uptoBulk d + 1
 end
def uptoSmall : (H : Type) → List (DataW H) → Bool := fun _ ds => decide (uptoBulkAll ds ≤ 1048576)
def OpenSpec.upto (s : _root_.Go.ChangeSpec) : _root_.Go.OpenSpec := { _root_.Go.OpenSpec.ofChange s with cond := some uptoSmall }

/-- 'thresherlaw14.VmPlays', WHERE WHAT IT READS IS OF BULK AT MOST 1048576: true; the input reads as it did. -/
def vmPlaysUptoRow : OpenClaim := { program := "ytdhbjejejeljoaa", sum := "87396c372fe1ca864efbf90029099d2b62d1ccccf24a458e9298663f86b08d34", func := "thresher/thresherlaw14.VmPlays", spec := "vmPlays", unfollowed := true, recurses := true, apart := false, narrowed := true }
def VmPlaysUptoSaid : Prop := vmPlaysUptoRow.holds Try.pinned (OpenSpec.upto vmPlaysSpec)

/-- 'thresherlaw14.VmNil', WHERE WHAT IT READS IS OF BULK AT MOST 1048576: true; the input reads as it did. -/
def vmNilUptoRow : OpenClaim := { program := "ytdhbjejejeljoaa", sum := "87396c372fe1ca864efbf90029099d2b62d1ccccf24a458e9298663f86b08d34", func := "thresher/thresherlaw14.VmNil", spec := "vmNil", unfollowed := true, recurses := true, apart := false, narrowed := true }
def VmNilUptoSaid : Prop := vmNilUptoRow.holds Try.pinned (OpenSpec.upto vmNilSpec)

/-- 'thresherlaw14.VmPieces', WHERE WHAT IT READS IS OF BULK AT MOST 1048576: true; the input reads as it did. -/
def vmPiecesUptoRow : OpenClaim := { program := "ytdhbjejejeljoaa", sum := "87396c372fe1ca864efbf90029099d2b62d1ccccf24a458e9298663f86b08d34", func := "thresher/thresherlaw14.VmPieces", spec := "vmPieces", unfollowed := true, recurses := true, apart := false, narrowed := true }
def VmPiecesUptoSaid : Prop := vmPiecesUptoRow.holds Try.pinned (OpenSpec.upto vmPiecesSpec)

end Rows
end Go.Proofs.Ytdhbjejejeljoaa
