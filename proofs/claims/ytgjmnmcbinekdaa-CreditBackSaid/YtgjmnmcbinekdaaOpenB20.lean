/- How bytes and answers that came in read. -/
import Derived.Test.YtgjmnmcbinekdaaOpenG
namespace Go.Proofs.Ytgjmnmcbinekdaa
open Go.ChangeShapes Go.WideShapes Go.ChangeAt Go.RowKit Go.Joins Go.Deep

def encU8 (x : Nat) : List Value := [.int .u8 (x : Int)]
def encBo (b : Bool) : List Value := [.bool b]
section
variable {H : Type} {enc : TypeId × Value → H} {W : World} {base : Nat} {v : Value} {d : DataW H} {p : List MemPlace}
set_option maxRecDepth 20000 in
theorem open_bytes (hv : Value.okWide Try.prog W .any base 49 v) (h : DataW.Trod enc Try.prog W 0 (fun _ => true) true 49 v d p) : ∃ l : List Nat, ReadsK encU8 1 W v l ∧ l.length ≤ maxLen ∧ ∀ x ∈ l, x < 256 := by
  exact open_K (enc := encU8) (k := 1) (Q := fun x => x < 256) Try.underlying49 (by kernel_rfl) (fun _ => rfl) (by decide)
    (fun _ _ _ h => by
      obtain ⟨j, e0, _, wf⟩ := DataW.trod_int Try.underlying5 h
      have h1 : 0 ≤ j ∧ j < 256 := by
        have := wf
        simp [Lit.wf] at this
        have e1 : IntKind.u8.min = 0 := rfl
        have e2 : IntKind.u8.max = 255 := rfl
        omega
      refine ⟨j.toNat, ?_, by omega⟩
      rw [e0]
      unfold encU8
      rw [show ((j.toNat : Nat) : Int) = j by omega]) hv h
set_option maxRecDepth 20000 in
theorem open_bools (hv : Value.okWide Try.prog W .any base 50 v) (h : DataW.Trod enc Try.prog W 0 (fun _ => true) true 50 v d p) : ∃ l : List Bool, ReadsK encBo 1 W v l ∧ l.length ≤ maxLen := by
  obtain ⟨l, h1, h2, _⟩ := open_K (enc := encBo) (k := 1) (Q := fun _ => True) Try.underlying50 (by kernel_rfl) (fun _ => rfl) (by decide)
    (fun _ _ _ h => by
      obtain ⟨b, e0, _⟩ := DataW.trod_bool Try.underlying4 h
      exact ⟨b, e0, trivial⟩) hv h
  exact ⟨l, h1, h2⟩
end
end Go.Proofs.Ytgjmnmcbinekdaa
