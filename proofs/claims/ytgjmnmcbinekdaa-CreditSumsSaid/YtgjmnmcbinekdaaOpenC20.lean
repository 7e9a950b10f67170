/- How several credits, and a text, that came in read. -/
import Derived.Test.YtgjmnmcbinekdaaOpenT
import Derived.Test.YtgjmnmcbinekdaaOpen20
import Derived.Test.YtgjmnmcbinekdaaCred8
namespace Go.Proofs.Ytgjmnmcbinekdaa
open Go.ChangeShapes Go.WideShapes Go.ChangeAt Go.RowKit Go.Joins Go.Deep

section
variable {H : Type} {enc : TypeId × Value → H} {W : World} {base : Nat} {v : Value} {d : DataW H} {p : List MemPlace}
set_option maxRecDepth 20000 in
theorem credit_read {n : Nat} {cs : List Value} {x : DataW H × List MemPlace} (h : DataW.trod enc Try.prog W 0 (fun _ => true) true n 23 cs = some x) : ∃ y : Value × List Int, cs = encV y ∧ ReadsK encC 1 W y.1 y.2 ∧ y.2.length ≤ maxLen := by
  obtain ⟨u, rfl⟩ : ∃ u, cs = [u] := by
    rcases open_slice Try.underlying23 h with ⟨hcs, _⟩ | ⟨_, _, _, _, _, _, _, hcs, _⟩
    · exact ⟨_, hcs⟩
    · exact ⟨_, hcs⟩
  obtain ⟨l, h1, h2, _⟩ := open_Kt (enc := encC) (k := 1) (Q := fun _ => True) Try.underlying23 (by kernel_rfl) (fun _ => rfl) (by decide)
    (fun _ _ _ h => by
      obtain ⟨j, e0, _⟩ := DataW.trod_int Try.underlying3 h
      exact ⟨j, e0, trivial⟩) h
  exact ⟨(u, l), rfl, h1, h2⟩
/-- Several credits that came in. -/
def Crs (w : World) (v : Value) (L : List (Value × List Int)) : Prop := ReadsK encV 1 w v L ∧ L.length ≤ maxLen ∧ ∀ p ∈ L, ReadsK encC 1 w p.1 p.2 ∧ p.2.length ≤ maxLen
set_option maxRecDepth 20000 in
theorem open_credits (hv : Value.okWide Try.prog W .any base 25 v) (h : DataW.Trod enc Try.prog W 0 (fun _ => true) true 25 v d p) : ∃ L, Crs W v L := by
  obtain ⟨l, h1, h2, h3⟩ := open_K (enc := encV) (k := 1) (Q := fun y : Value × List Int => ReadsK encC 1 W y.1 y.2 ∧ y.2.length ≤ maxLen) Try.underlying25 (by kernel_rfl) (fun _ => rfl) (by decide)
    (fun _ _ _ h => credit_read h) hv h
  exact ⟨l, h1, h2, h3⟩
end
end Go.Proofs.Ytgjmnmcbinekdaa
