/- TicksPlays, over what came in. -/
import Derived.Test.YteladooegjgdnaaTicksPlays
namespace Go.Proofs.Yteladooegjgdnaa
open Go.RowKit Go.Sort Go.Lib

theorem ticksplays_x (v : Value) (w : World) (h0 : ∃ l, ReadsK encS 4 w v l ∧ l.length ≤ maxLen ∧ ∀ x ∈ l, (Lit.int .i64 x.2.2.2).wf = true) :
    Calls Try.prog 4 #[v] w fun e w' => e = .returned (.bool true) ∧ Below w.heap.size w w' := by
  obtain ⟨l, hl, hn, _⟩ := h0
  exact ticksplays_row v l w hl (by unfold maxLen at hn; omega)
end Go.Proofs.Yteladooegjgdnaa
