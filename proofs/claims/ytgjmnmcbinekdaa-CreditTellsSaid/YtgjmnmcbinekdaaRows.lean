/-
  No cell of these rows narrows 'for every input' (looked for: loops, veiled, ifaces, maps, wideKeys, modest, calm, conditions, laid).
  DERIVED. THE GIVEN ROWS OF THIS SEAT. 4 by the template 'for every input the law returns true; each argument reads behind the call as it read before'; 0 by the template 'total and deterministic' (their statements: YtgjmnmcbinekdaaTotals.lean).
  GIVEN WITH THE SEED: the statements are not yours to turn. If you find one false, say at which input.
  Laid BY PROGRAM, IN A SANDBOX (cutbox-rows.mjs): the forced cells as the released guide's own fill.sh prints them over the translation 069fa09267bffbd1… (all of the seat's roots in one cut). By AI agents, Wed Nov 11 2026. No macro, syntax, notation, axiom, sorry.
-/
import Derived.Test.YtgjmnmcbinekdaaChecked
import GoSem.Claim
import GoSem.ClaimJoined
import GoSem.ClaimMapViews
import Derived.JoinedTies
import Derived.KernelRfl
namespace Go.Proofs.Ytgjmnmcbinekdaa
/- THE CELL 'sum', in the pinned program and in every row, IS THE sha256 OF THE DUMP (.gsa) THAT YtgjmnmcbinekdaaProg.lean LOADS. Nothing in Lean hashes anything: it is a label: what it is worth is what the hold of that sum in a sandbox is worth. -/
noncomputable def Try.pinned : Pinned := { name := "ytgjmnmcbinekdaa", sum := "069fa09267bffbd18d67c5d2b01b15fc6e1f902ba177b209d971ee4613206044", checked := Try.checked }
namespace Rows
def none {H : Type} : Left H := { results := [], args := [] }

/-- 'thresherlaw20.CreditTells': WHATEVER THE INPUT: true; the input reads as it did. -/
def creditTellsSpec : ChangeSpec := { name := "creditTells", fn := fun _ => fun
  | [d1, d2, d3] => { results := [.lit (.bool true)], args := [d1, d2, d3] }
  | _ => none }
def creditTellsRow : OpenClaim := { program := "ytgjmnmcbinekdaa", sum := "069fa09267bffbd18d67c5d2b01b15fc6e1f902ba177b209d971ee4613206044", func := "thresher/thresherlaw20.CreditTells", spec := "creditTells", inPlace := ["slices.overlaps[int]", "internal/abi.NoEscape"], unfollowed := true, recurses := true, apart := false }
def CreditTellsSaid : Prop := creditTellsRow.holds Try.pinned (OpenSpec.ofChange creditTellsSpec)

/-- ITS FALSE NEIGHBOUR: 'it returns false'. Refute it at one input. -/
def creditTellsWrong : ChangeSpec := { name := "creditTells", fn := fun _ => fun
  | [d1, d2, d3] => { results := [.lit (.bool false)], args := [d1, d2, d3] }
  | _ => none }
def CreditTellsWrongFalsely : Prop := creditTellsRow.holds Try.pinned (OpenSpec.ofChange creditTellsWrong)

/-- 'thresherlaw20.CreditSums': WHATEVER THE INPUT: true; the input reads as it did. -/
def creditSumsSpec : ChangeSpec := { name := "creditSums", fn := fun _ => fun
  | [d1, d2, d3] => { results := [.lit (.bool true)], args := [d1, d2, d3] }
  | _ => none }
def creditSumsRow : OpenClaim := { program := "ytgjmnmcbinekdaa", sum := "069fa09267bffbd18d67c5d2b01b15fc6e1f902ba177b209d971ee4613206044", func := "thresher/thresherlaw20.CreditSums", spec := "creditSums", inPlace := ["slices.overlaps[int]", "internal/abi.NoEscape"], unfollowed := true, recurses := true, apart := false }
def CreditSumsSaid : Prop := creditSumsRow.holds Try.pinned (OpenSpec.ofChange creditSumsSpec)

/-- ITS FALSE NEIGHBOUR: 'it returns false'. Refute it at one input. -/
def creditSumsWrong : ChangeSpec := { name := "creditSums", fn := fun _ => fun
  | [d1, d2, d3] => { results := [.lit (.bool false)], args := [d1, d2, d3] }
  | _ => none }
def CreditSumsWrongFalsely : Prop := creditSumsRow.holds Try.pinned (OpenSpec.ofChange creditSumsWrong)

/-- 'thresherlaw20.CreditBack': WHATEVER THE INPUT: true; the input reads as it did. -/
def creditBackSpec : ChangeSpec := { name := "creditBack", fn := fun _ => fun
  | [d1, d2, d3] => { results := [.lit (.bool true)], args := [d1, d2, d3] }
  | _ => none }
def creditBackRow : OpenClaim := { program := "ytgjmnmcbinekdaa", sum := "069fa09267bffbd18d67c5d2b01b15fc6e1f902ba177b209d971ee4613206044", func := "thresher/thresherlaw20.CreditBack", spec := "creditBack", inPlace := ["slices.overlaps[int]", "internal/abi.NoEscape"], unfollowed := true, recurses := true, apart := false }
def CreditBackSaid : Prop := creditBackRow.holds Try.pinned (OpenSpec.ofChange creditBackSpec)

/-- ITS FALSE NEIGHBOUR: 'it returns false'. Refute it at one input. -/
def creditBackWrong : ChangeSpec := { name := "creditBack", fn := fun _ => fun
  | [d1, d2, d3] => { results := [.lit (.bool false)], args := [d1, d2, d3] }
  | _ => none }
def CreditBackWrongFalsely : Prop := creditBackRow.holds Try.pinned (OpenSpec.ofChange creditBackWrong)

/-- 'thresherlaw20.CreditOrder': WHATEVER THE INPUT: true; the input reads as it did. -/
def creditOrderSpec : ChangeSpec := { name := "creditOrder", fn := fun _ => fun
  | [d1, d2, d3] => { results := [.lit (.bool true)], args := [d1, d2, d3] }
  | _ => none }
def creditOrderRow : OpenClaim := { program := "ytgjmnmcbinekdaa", sum := "069fa09267bffbd18d67c5d2b01b15fc6e1f902ba177b209d971ee4613206044", func := "thresher/thresherlaw20.CreditOrder", spec := "creditOrder", inPlace := ["slices.overlaps[int]", "internal/abi.NoEscape"], unfollowed := true, recurses := true, apart := false }
def CreditOrderSaid : Prop := creditOrderRow.holds Try.pinned (OpenSpec.ofChange creditOrderSpec)

/-- ITS FALSE NEIGHBOUR: 'it returns false'. Refute it at one input. -/
def creditOrderWrong : ChangeSpec := { name := "creditOrder", fn := fun _ => fun
  | [d1, d2, d3] => { results := [.lit (.bool false)], args := [d1, d2, d3] }
  | _ => none }
def CreditOrderWrongFalsely : Prop := creditOrderRow.holds Try.pinned (OpenSpec.ofChange creditOrderWrong)

/- THE SECOND FORM. 'bulk': how many values and letters a reading holds, each counted each time it is reached (what is shared counts as often as it is met; a slice's spare places count too). A statement '..UptoSaid' is the law's where the arguments, and the package variables that the reading takes, are together of bulk at most 1048576: NARROWER than '..Said'. Prove '..Said' where nothing that the law and all that it calls make is longer than what came in: it says more and counts as full. Else prove '..UptoSaid'. A law counts once. -/
mutual
def uptoBulk {H : Type} : DataW H → Nat
  | .lit (.string bytes) => bytes.length + 1
  | .lit _ => 1
  | .nil => 1
  | .ptr d => uptoBulk d + 1
  | .slice elems spare => uptoBulkAll elems + uptoBulkAll spare + 1
  | .agg parts => uptoBulkAll parts + 1
  | .iface _ d => uptoBulk d + 1
  | .map entries => uptoBulkEntries entries + 1
  | .held _ => 1
def uptoBulkAll {H : Type} : List (DataW H) → Nat
  | [] => 0
  | d :: r => uptoBulk d + uptoBulkAll r
def uptoBulkEntries {H : Type} : List (Lit × DataW H) → Nat
  | [] => 0
  | x :: r => uptoBulkEntry x + uptoBulkEntries r
def uptoBulkEntry {H : Type} : Lit × DataW H → Nat
  | (.string bytes, d) => bytes.length + uptoBulk d + 1
  | (_, d) => uptoBulk d + 1
 end
def uptoSmall : (H : Type) → List (DataW H) → Bool := fun _ ds => decide (uptoBulkAll ds ≤ 1048576)
def OpenSpec.upto (s : _root_.Go.ChangeSpec) : _root_.Go.OpenSpec := { _root_.Go.OpenSpec.ofChange s with cond := some uptoSmall }

/-- 'thresherlaw20.CreditTells', WHERE WHAT IT READS IS OF BULK AT MOST 1048576: true; the input reads as it did. -/
def creditTellsUptoRow : OpenClaim := { program := "ytgjmnmcbinekdaa", sum := "069fa09267bffbd18d67c5d2b01b15fc6e1f902ba177b209d971ee4613206044", func := "thresher/thresherlaw20.CreditTells", spec := "creditTells", inPlace := ["slices.overlaps[int]", "internal/abi.NoEscape"], unfollowed := true, recurses := true, apart := false, narrowed := true }
def CreditTellsUptoSaid : Prop := creditTellsUptoRow.holds Try.pinned (OpenSpec.upto creditTellsSpec)

/-- 'thresherlaw20.CreditSums', WHERE WHAT IT READS IS OF BULK AT MOST 1048576: true; the input reads as it did. -/
def creditSumsUptoRow : OpenClaim := { program := "ytgjmnmcbinekdaa", sum := "069fa09267bffbd18d67c5d2b01b15fc6e1f902ba177b209d971ee4613206044", func := "thresher/thresherlaw20.CreditSums", spec := "creditSums", inPlace := ["slices.overlaps[int]", "internal/abi.NoEscape"], unfollowed := true, recurses := true, apart := false, narrowed := true }
def CreditSumsUptoSaid : Prop := creditSumsUptoRow.holds Try.pinned (OpenSpec.upto creditSumsSpec)

/-- 'thresherlaw20.CreditBack', WHERE WHAT IT READS IS OF BULK AT MOST 1048576: true; the input reads as it did. -/
def creditBackUptoRow : OpenClaim := { program := "ytgjmnmcbinekdaa", sum := "069fa09267bffbd18d67c5d2b01b15fc6e1f902ba177b209d971ee4613206044", func := "thresher/thresherlaw20.CreditBack", spec := "creditBack", inPlace := ["slices.overlaps[int]", "internal/abi.NoEscape"], unfollowed := true, recurses := true, apart := false, narrowed := true }
def CreditBackUptoSaid : Prop := creditBackUptoRow.holds Try.pinned (OpenSpec.upto creditBackSpec)

/-- 'thresherlaw20.CreditOrder', WHERE WHAT IT READS IS OF BULK AT MOST 1048576: true; the input reads as it did. -/
def creditOrderUptoRow : OpenClaim := { program := "ytgjmnmcbinekdaa", sum := "069fa09267bffbd18d67c5d2b01b15fc6e1f902ba177b209d971ee4613206044", func := "thresher/thresherlaw20.CreditOrder", spec := "creditOrder", inPlace := ["slices.overlaps[int]", "internal/abi.NoEscape"], unfollowed := true, recurses := true, apart := false, narrowed := true }
def CreditOrderUptoSaid : Prop := creditOrderUptoRow.holds Try.pinned (OpenSpec.upto creditOrderSpec)

end Rows
end Go.Proofs.Ytgjmnmcbinekdaa
