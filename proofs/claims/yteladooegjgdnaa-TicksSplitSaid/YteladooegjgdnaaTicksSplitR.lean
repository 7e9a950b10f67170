/- TicksSplit, over what came in. -/
import Derived.Test.YteladooegjgdnaaTicksSplit
namespace Go.Proofs.Yteladooegjgdnaa
open Go.RowKit Go.Sort Go.Lib

theorem u16_in {x : Int} (h : (Lit.int .u16 x).wf = true) : 0 ≤ x ∧ x ≤ 65535 := by
  simp [Lit.wf] at h
  have h1 : IntKind.u16.min = 0 := rfl
  have h2 : IntKind.u16.max = 65535 := rfl
  omega
theorem ticksplit_x (v : Value) (a b : Int) (w : World) (h0 : ∃ l, ReadsK encS 4 w v l ∧ l.length ≤ maxLen ∧ ∀ x ∈ l, (Lit.int .i64 x.2.2.2).wf = true) (h1 : (Lit.int .u16 a).wf = true) (h2 : (Lit.int .u16 b).wf = true) :
    Calls Try.prog 3 #[v, .int .u16 a, .int .u16 b] w fun e w' => e = .returned (.bool true) ∧ Below w.heap.size w w' := by
  obtain ⟨l, hl, hn, _⟩ := h0
  exact ticksplit_row v l a b w hl (by unfold maxLen at hn; omega) (u16_in h1).1 (u16_in h1).2 (u16_in h2).1 (u16_in h2).2
end Go.Proofs.Yteladooegjgdnaa
