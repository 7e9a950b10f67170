/- How a name that came in reads. -/
import Derived.Test.YthbkbmkcgpdedaaMap
import Derived.ProofKit
import Derived.Lib.SmallJoins
namespace Go.Proofs.Ythbkbmkcgpdedaa
open Go.ChangeShapes Go.WideShapes Go.ChangeAt Go.RowKit Go.Joins Go.Deep

theorem nm_fields : ∃ f0 f1 : Field, Try.prog.underlying 35 = some (.struct #[f0, f1]) ∧ f0.type = 33 ∧ f1.type = 9 ∧ oneCellFields Try.prog #[f0, f1] = true := by
  refine ⟨_, _, Try.underlying35, rfl, rfl, ?_⟩
  kernel_rfl
set_option maxRecDepth 20000 in
theorem open_nm {H : Type} {enc : TypeId × Value → H} {W : World} {base : Nat} {v : Value} {d : DataW H} {p : List MemPlace} (hv : Value.okWide Try.prog W .any base 35 v)
    (h : DataW.Trod enc Try.prog W 0 (fun _ => true) true 35 v d p) : ∃ n : Nm, v = .agg #[.int .u64 n.1, .string n.2] ∧ (Lit.int .u64 n.1).wf = true ∧ n.2.size ≤ maxLen := by
  obtain ⟨f0, f1, hu, t0, t1, ho⟩ := nm_fields
  have hC : Try.prog.cellsOf 35 = 2 := by kernel_rfl
  obtain ⟨v0, v1, y0, y1, k, rfl, rfl, rfl, h0, h1⟩ := open_agg2 hu ho hC hv h
  rw [t0] at h0
  rw [t1] at h1
  obtain ⟨j, e0, _, wf⟩ := DataW.trod_int Try.underlying33 h0
  obtain ⟨s, e1, _, hs⟩ := DataW.trod_string Try.underlying9 h1
  injection e0 with e0; injection e1 with e1
  subst e0; subst e1
  exact ⟨(j, s), rfl, wf, hs⟩
end Go.Proofs.Ythbkbmkcgpdedaa
