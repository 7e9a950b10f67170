/- JoinPlays at what came in. -/
import Derived.Test.YthbkbmkcgpdedaaJoinPlays
import Derived.Test.YthbkbmkcgpdedaaStepW17
namespace Go.Proofs.Ythbkbmkcgpdedaa
open Go.RowKit Go.Sort Go.Lib
theorem plays_row (mo : Int) (v : Value) (W : World) {P : Prop} (_hp : P) (h : ∃ l, ReadsK encS 12 W v l ∧ l.length ≤ maxLen ∧ ∀ s ∈ l, StpOk W s ∧ StpZ s) :
    Calls Try.prog 3 #[.int .i64 mo, v] W fun e w' => e = .returned (.bool true) ∧ Below W.heap.size W w' := by
  obtain ⟨l, h1, h2, h3⟩ := h
  exact plays_any mo v l W h1 (fun s hs => (h3 s hs).2) (fun s hs => (h3 s hs).1.2.2) (by unfold maxLen at h2; omega)
end Go.Proofs.Ythbkbmkcgpdedaa
