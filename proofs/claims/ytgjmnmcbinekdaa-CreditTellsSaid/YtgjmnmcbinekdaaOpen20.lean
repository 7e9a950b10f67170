/- How a credit that came in reads. -/
import Derived.Test.YtgjmnmcbinekdaaOpenG
import Derived.Test.YtgjmnmcbinekdaaCred1
namespace Go.Proofs.Ytgjmnmcbinekdaa
open Go.ChangeShapes Go.WideShapes Go.ChangeAt Go.RowKit Go.Joins Go.Deep

theorem open_cap {P : Program} {H : Type} {encV : TypeId × Value → H} {W : World} {base : Nat} {v : Value} {d : DataW H} {p : List MemPlace} {t e : TypeId} (ht : P.underlying t = some (.slice e))
    (hv : Value.okWide P W .any base t v) (h : DataW.Trod encV P W 0 (fun _ => true) true t v d p) : ∀ a n c, v = .slice a n c → n ≤ c := by
  obtain ⟨a0, len, cap, rfl⟩ := okWide_slice ht hv
  obtain ⟨fuel, hf⟩ := h
  intro a n c hs
  injection hs with _ h1 h2
  subst h1; subst h2
  rcases open_slice ht hf with ⟨hcs, _⟩ | ⟨a, len', cap', m, n, D, Pl, hcs, hb, hl, hm, hmm, hx, hi⟩
  · simp [Value.cells] at hcs
    omega
  · simp [Value.cells] at hcs
    omega
section
variable {H : Type} {enc : TypeId × Value → H} {W : World} {base : Nat} {v : Value} {d : DataW H} {p : List MemPlace}
/-- A credit that came in. -/
def Cr (w : World) (v : Value) (l : List Int) : Prop := ReadsK encC 1 w v l ∧ l.length ≤ maxLen ∧ ∀ a n c, v = .slice a n c → n ≤ c
set_option maxRecDepth 20000 in
theorem open_credit (hv : Value.okWide Try.prog W .any base 23 v) (h : DataW.Trod enc Try.prog W 0 (fun _ => true) true 23 v d p) : ∃ l, Cr W v l := by
  obtain ⟨l, h1, h2, _⟩ := open_K (enc := encC) (k := 1) (Q := fun _ => True) Try.underlying23 (by kernel_rfl) (fun _ => rfl) (by decide)
    (fun _ _ _ h => by
      obtain ⟨j, e0, _⟩ := DataW.trod_int Try.underlying3 h
      exact ⟨j, e0, trivial⟩) hv h
  exact ⟨l, h1, h2, open_cap Try.underlying23 hv h⟩
end
end Go.Proofs.Ytgjmnmcbinekdaa
