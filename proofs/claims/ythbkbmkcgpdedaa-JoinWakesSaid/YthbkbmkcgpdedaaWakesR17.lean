/- JoinWakes at what came in. -/
import Derived.Test.YthbkbmkcgpdedaaWakes17
import Derived.Test.YthbkbmkcgpdedaaStepW17
namespace Go.Proofs.Ythbkbmkcgpdedaa
open Go.RowKit Go.Sort Go.Lib
theorem wakes_row (v : Value) (W : World) (h : ∃ l, ReadsK encS 12 W v l ∧ l.length ≤ maxLen ∧ ∀ s ∈ l, StpOk W s ∧ StpZ s) :
    Calls Try.prog 4 #[v] W fun e w' => e = .returned (.bool true) ∧ Below W.heap.size W w' := by
  obtain ⟨l, h1, h2, h3⟩ := h
  exact wakes_any v l W h1 (fun s hs => (h3 s hs).2) (fun s hs => (h3 s hs).1.2.2) (by unfold maxLen at h2; omega)
end Go.Proofs.Ythbkbmkcgpdedaa
