/- How a script of steps that came in reads. -/
import Derived.Test.YteladooegjgdnaaOpenG
namespace Go.Proofs.Yteladooegjgdnaa
open Go.ChangeShapes Go.WideShapes Go.ChangeAt Go.RowKit Go.Joins Go.Deep

abbrev Stp := Int × ByteArray × ByteArray × Int
def encS (s : Stp) : List Value := [.int .i64 s.1, .string s.2.1, .string s.2.2.1, .int .i64 s.2.2.2]
theorem step_fields : ∃ f0 f1 f2 f3 : Field, Try.prog.underlying 29 = some (.struct #[f0, f1, f2, f3]) ∧ (f0.type = 3 ∧ f0.offset = 0) ∧ (f1.type = 9 ∧ f1.offset = 1) ∧ (f2.type = 9 ∧ f2.offset = 2) ∧ f3.type = 2 ∧ f3.offset = 3 :=
  ⟨_, _, _, _, Try.underlying29, ⟨rfl, rfl⟩, ⟨rfl, rfl⟩, ⟨rfl, rfl⟩, rfl, rfl⟩
section
variable {H : Type} {enc : TypeId × Value → H} {W : World} {base : Nat} {v : Value} {d : DataW H} {p : List MemPlace}
set_option maxRecDepth 20000 in
theorem open_script (hv : Value.okWide Try.prog W .any base 22 v) (h : DataW.Trod enc Try.prog W 0 (fun _ => true) true 22 v d p) :
    ∃ l, ReadsK encS 4 W v l ∧ l.length ≤ maxLen ∧ ∀ x ∈ l, (Lit.int .i64 x.2.2.2).wf = true :=
  open_K Try.underlying22 (by kernel_rfl) (fun _ => rfl) (by decide)
    (fun _ cs _ h => by
      obtain ⟨f0, f1, f2, f3, hu, ⟨t0, o0⟩, ⟨t1, o1⟩, ⟨t2, o2⟩, t3, o3⟩ := step_fields
      obtain ⟨y0, y1, y2, y3, n', _, hl, h0, h1, h2, h3⟩ := trod_struct4 hu h
      rw [show Try.prog.cellsOf 29 = 4 by kernel_rfl] at hl
      match cs, hl with
      | [a0, a1, a2, a3], _ =>
        rw [t0, o0, show Try.prog.cellsOf 3 = 1 by kernel_rfl] at h0
        rw [t1, o1, show Try.prog.cellsOf 9 = 1 by kernel_rfl] at h1
        rw [t2, o2, show Try.prog.cellsOf 9 = 1 by kernel_rfl] at h2
        rw [t3, o3, show Try.prog.cellsOf 2 = 1 by kernel_rfl] at h3
        simp only [List.drop_succ_cons, List.drop_zero, List.take_succ_cons, List.take_zero] at h0 h1 h2 h3
        obtain ⟨j, e0, _⟩ := DataW.trod_int Try.underlying3 h0
        obtain ⟨s, e1, _⟩ := DataW.trod_string Try.underlying9 h1
        obtain ⟨u, e2, _⟩ := DataW.trod_string Try.underlying9 h2
        obtain ⟨a, e3, _, wf⟩ := DataW.trod_int Try.underlying2 h3
        simp only [List.cons.injEq, and_true] at e0 e1 e2 e3
        exact ⟨(j, s, u, a), by rw [e0, e1, e2, e3]; rfl, wf⟩) hv h
end
end Go.Proofs.Yteladooegjgdnaa
