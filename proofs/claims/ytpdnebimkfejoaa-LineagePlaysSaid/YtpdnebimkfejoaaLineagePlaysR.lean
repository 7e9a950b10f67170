/- LineagePlays: its walk at what came in. -/
import Derived.Test.YtpdnebimkfejoaaLineagePlays
import Derived.Test.YtpdnebimkfejoaaStepW25
namespace Go.Proofs.Ytpdnebimkfejoaa
open Go.RowKit Go.Sort Go.Lib

theorem plays_row (v : Value) (W : World) (h : ∃ l, ReadsK encS 10 W v l ∧ l.length ≤ maxLen ∧ ∀ s ∈ l, TskOk W s.t ∧ StpZ s) :
    Calls Try.prog 5 #[v] W fun e w' => e = .returned (.bool true) ∧ Below W.heap.size W w' := by
  obtain ⟨l, h1, h2, h3⟩ := h
  exact plays_any v l W h1 (fun s hs => (h3 s hs).2) (fun s hs => (h3 s hs).1) (by unfold maxLen at h2; omega)
end Go.Proofs.Ytpdnebimkfejoaa
