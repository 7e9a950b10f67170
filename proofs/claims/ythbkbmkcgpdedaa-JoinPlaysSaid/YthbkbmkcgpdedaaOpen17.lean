/- How tasks, results, steps that came in read. -/
import Derived.Test.YthbkbmkcgpdedaaOpenT
import Derived.Test.YthbkbmkcgpdedaaOpen22
import Derived.Test.YthbkbmkcgpdedaaJoin8
namespace Go.Proofs.Ythbkbmkcgpdedaa
set_option maxRecDepth 100000
open Go.ChangeShapes Go.WideShapes Go.ChangeAt Go.RowKit Go.Joins Go.Deep

/-- A task, as a caller holds it: its path, function, arguments' slice, fuel; the arguments. -/
structure Tsk where
  p : ByteArray
  fn : Int
  v : Value
  fuel : Int
  args : List Int
def cT (t : Tsk) : List Value := [.string t.p, .int .i64 t.fn, t.v, .int .i64 t.fuel]
def TskOk (W : World) (t : Tsk) : Prop := ReadsK encI 1 W t.v t.args ∧ t.args.length ≤ maxLen ∧ t.p.size ≤ maxLen
theorem task_fields : ∃ f0 f1 f2 f3 : Field, Try.prog.underlying 38 = some (.struct #[f0, f1, f2, f3]) ∧ f0.type = 9 ∧ f0.offset = 0 ∧ f1.type = 3 ∧ f1.offset = 1 ∧ f2.type = 36 ∧ f2.offset = 2 ∧ f3.type = 3 ∧ f3.offset = 3 :=
  ⟨_, _, _, _, Try.underlying38, rfl, rfl, rfl, rfl, rfl, rfl, rfl, rfl⟩
theorem res_fields : ∃ f0 f1 : Field, Try.prog.underlying 40 = some (.struct #[f0, f1]) ∧ f0.type = 2 ∧ f0.offset = 0 ∧ f1.type = 26 ∧ f1.offset = 1 :=
  ⟨_, _, Try.underlying40, rfl, rfl, rfl, rfl⟩
section
variable {H : Type} {enc : TypeId × Value → H} {W : World}
theorem task_read {n : Nat} {cs : List Value} {x : DataW H × List MemPlace} (h : DataW.trod enc Try.prog W 0 (fun _ => true) true n 38 cs = some x) : ∃ t : Tsk, cs = cT t ∧ TskOk W t := by
  obtain ⟨f0, f1, f2, f3, hu, t0, o0, t1, o1, t2, o2, t3, o3⟩ := task_fields
  obtain ⟨y0, y1, y2, y3, n', _, hl, h0, h1, h2, h3⟩ := trod_struct4 hu h
  rw [show Try.prog.cellsOf 38 = 4 by kernel_rfl] at hl
  match cs, hl with
  | [a0, a1, a2, a3], _ =>
    rw [t0, o0, show Try.prog.cellsOf 9 = 1 by kernel_rfl] at h0
    rw [t1, o1, show Try.prog.cellsOf 3 = 1 by kernel_rfl] at h1
    rw [t2, o2, show Try.prog.cellsOf 36 = 1 by kernel_rfl] at h2
    rw [t3, o3, show Try.prog.cellsOf 3 = 1 by kernel_rfl] at h3
    obtain ⟨s, e0, _, hs⟩ := DataW.trod_string Try.underlying9 h0
    obtain ⟨j, e1, _⟩ := DataW.trod_int Try.underlying3 h1
    obtain ⟨q, e3, _⟩ := DataW.trod_int Try.underlying3 h3
    simp at e0 e1 e3
    simp only [List.drop_succ_cons, List.drop_zero, List.take_succ_cons, List.take_zero] at h2
    obtain ⟨l, hr, hll, _⟩ := open_Kt (enc := encI) (Q := fun _ => True) Try.underlying36 (by kernel_rfl) (fun _ => rfl) (by decide) (fun _ cs _ h => by
      obtain ⟨j, e0, _, wf⟩ := DataW.trod_int Try.underlying2 h
      exact ⟨j, e0, trivial⟩) h2
    exact ⟨⟨s, j, a2, q, l⟩, by rw [e0, e1, e3]; rfl, hr, hll, hs⟩
theorem res_read {n : Nat} {cs : List Value} {x : DataW H × List MemPlace} (h : DataW.trod enc Try.prog W 0 (fun _ => true) true n 40 cs = some x) : ∃ m : Int × Int, cs = [.int .i64 m.1, .int .i64 m.2] := by
  obtain ⟨f0, f1, hu, t0, o0, t1, o1⟩ := res_fields
  obtain ⟨y0, y1, n', _, hl, h0, h1⟩ := trod_struct2 hu h
  rw [show Try.prog.cellsOf 40 = 2 by kernel_rfl] at hl
  match cs, hl with
  | [a, b], _ =>
    rw [t0, o0, show Try.prog.cellsOf 2 = 1 by kernel_rfl] at h0
    rw [t1, o1, show Try.prog.cellsOf 26 = 1 by kernel_rfl] at h1
    obtain ⟨j, e0, _⟩ := DataW.trod_int Try.underlying2 h0
    obtain ⟨u, e1, _⟩ := DataW.trod_int Try.underlying26 h1
    simp at e0 e1
    exact ⟨(j, u), by rw [e0, e1]⟩
variable {base : Nat} {v : Value} {d : DataW H} {p : List MemPlace}
theorem open_task (hv : Value.okWide Try.prog W .any base 38 v) (h : DataW.Trod enc Try.prog W 0 (fun _ => true) true 38 v d p) : ∃ t : Tsk, v = .agg #[.string t.p, .int .i64 t.fn, t.v, .int .i64 t.fuel] ∧ TskOk W t := by
  obtain ⟨f0, f1, f2, f3, hu, _⟩ := task_fields
  obtain ⟨cs, rfl, hsz⟩ := okWide_struct hu hv
  obtain ⟨fuel, hf⟩ := h
  obtain ⟨t, ht, ho⟩ := task_read hf
  refine ⟨t, ?_, ho⟩
  congr 1
  rw [← Array.toList_inj]
  exact ht
theorem open_res (hv : Value.okWide Try.prog W .any base 40 v) (h : DataW.Trod enc Try.prog W 0 (fun _ => true) true 40 v d p) : ∃ m : Int × Int, v = .agg #[.int .i64 m.1, .int .i64 m.2] := by
  obtain ⟨f0, f1, hu, _⟩ := res_fields
  obtain ⟨cs, rfl, hsz⟩ := okWide_struct hu hv
  obtain ⟨fuel, hf⟩ := h
  obtain ⟨m, hm⟩ := res_read hf
  refine ⟨m, ?_⟩
  congr 1
  rw [← Array.toList_inj]
  exact hm
end
end Go.Proofs.Ythbkbmkcgpdedaa
