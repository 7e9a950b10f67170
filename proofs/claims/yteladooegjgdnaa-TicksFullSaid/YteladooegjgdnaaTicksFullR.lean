/- TicksFull, over what came in. -/
import Derived.Test.YteladooegjgdnaaTicksFull
namespace Go.Proofs.Yteladooegjgdnaa
open Go.RowKit Go.Sort Go.Lib

theorem u16_inF {x : Int} (h : (Lit.int .u16 x).wf = true) : 0 ≤ x ∧ x ≤ 65535 := by
  simp [Lit.wf] at h
  have h1 : IntKind.u16.min = 0 := rfl
  have h2 : IntKind.u16.max = 65535 := rfl
  omega
theorem ticksfull_x (a b : Int) (w : World) (h1 : (Lit.int .u16 a).wf = true) (h2 : (Lit.int .u16 b).wf = true) :
    Calls Try.prog 7 #[.int .u16 a, .int .u16 b] w fun e w' => e = .returned (.bool true) ∧ Below w.heap.size w w' := by
  obtain ⟨n, rfl⟩ : ∃ n : Nat, b = (n : Int) := ⟨b.toNat, by have := (u16_inF h2).1; omega⟩
  exact ticksfull_row a n w (u16_inF h1).1 (u16_inF h1).2 (by have := (u16_inF h2).2; omega)
end Go.Proofs.Yteladooegjgdnaa
