/- RoundPlays: its walk at what came in. -/
import Derived.Test.YtenebamecmblaaaPlays21
namespace Go.Proofs.Ytenebamecmblaaa
open Go.RowKit Go.Sort Go.Lib

theorem plays_row (v : Value) (W : World) (h : ∃ l, ReadsK encS 5 W v l ∧ l.length ≤ maxLen ∧ ∀ x ∈ l, x.2.1.2.size ≤ maxLen ∧ x.2.2.2.size ≤ maxLen) :
    Calls Try.prog 4 #[v] W fun e w' => e = .returned (.bool true) ∧ Below W.heap.size W w' := by
  obtain ⟨l, hv, hl, hz⟩ := h
  unfold maxLen at hl hz
  exact plays_any v l W hv (fun x hx => hz x hx) (by omega)
end Go.Proofs.Ytenebamecmblaaa
