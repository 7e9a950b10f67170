/- The steps of a script that came in; heavy; a task of one's own. -/
import Derived.Test.YthbkbmkcgpdedaaOpen17
import Derived.Test.YthbkbmkcgpdedaaJoin14
import Derived.Deep.LoopGhost
namespace Go.Proofs.Ythbkbmkcgpdedaa
set_option maxRecDepth 100000
open Go.ChangeShapes Go.WideShapes Go.ChangeAt Go.RowKit Go.Joins Go.Deep Go.Lib

structure Stp where
  op : Int
  job : Int
  n : Nm
  m : Nm
  t : Tsk
  val : Int
  err : Int
def encS (s : Stp) : List Value := [.int .i64 s.op, .int .u64 s.job, .int .u64 s.n.1, .string s.n.2, .int .u64 s.m.1, .string s.m.2, .string s.t.p, .int .i64 s.t.fn, s.t.v, .int .i64 s.t.fuel, .int .i64 s.val, .int .i64 s.err]
theorem encS_len (s : Stp) : (encS s).length = 12 := rfl
def StpOk (W : World) (s : Stp) : Prop := s.n.2.size ≤ maxLen ∧ s.m.2.size ≤ maxLen ∧ TskOk W s.t
theorem step_fields : ∃ f0 f1 f2 f3 f4 f5 : Field, Try.prog.underlying 42 = some (.struct #[f0, f1, f2, f3, f4, f5]) ∧ f0.type = 3 ∧ f0.offset = 0 ∧ f1.type = 33 ∧ f1.offset = 1 ∧ f2.type = 35 ∧ f2.offset = 2 ∧ f3.type = 35 ∧ f3.offset = 4 ∧ f4.type = 38 ∧ f4.offset = 6 ∧ f5.type = 40 ∧ f5.offset = 10 :=
  ⟨_, _, _, _, _, _, Try.underlying42, rfl, rfl, rfl, rfl, rfl, rfl, rfl, rfl, rfl, rfl, rfl, rfl⟩
theorem name_fields : ∃ f0 f1 : Field, Try.prog.underlying 35 = some (.struct #[f0, f1]) ∧ f0.type = 33 ∧ f0.offset = 0 ∧ f1.type = 9 ∧ f1.offset = 1 :=
  ⟨_, _, Try.underlying35, rfl, rfl, rfl, rfl⟩
section
variable {H : Type} {enc : TypeId × Value → H} {W : World}
theorem trod_struct6 {P : Program} {t : TypeId} {f0 f1 f2 f3 f4 f5 : Field} {fuel : Nat} {cs : List Value} {x : DataW H × List MemPlace} (ht : P.underlying t = some (.struct #[f0, f1, f2, f3, f4, f5])) (h : DataW.trod enc P W 0 (fun _ => true) true fuel t cs = some x) :
    ∃ y0 y1 y2 y3 y4 y5 n, cs.length = P.cellsOf t ∧ DataW.trod enc P W 0 (fun _ => true) true n f0.type ((cs.drop f0.offset).take (P.cellsOf f0.type)) = some y0 ∧
      DataW.trod enc P W 0 (fun _ => true) true n f1.type ((cs.drop f1.offset).take (P.cellsOf f1.type)) = some y1 ∧ DataW.trod enc P W 0 (fun _ => true) true n f2.type ((cs.drop f2.offset).take (P.cellsOf f2.type)) = some y2 ∧
      DataW.trod enc P W 0 (fun _ => true) true n f3.type ((cs.drop f3.offset).take (P.cellsOf f3.type)) = some y3 ∧ DataW.trod enc P W 0 (fun _ => true) true n f4.type ((cs.drop f4.offset).take (P.cellsOf f4.type)) = some y4 ∧
      DataW.trod enc P W 0 (fun _ => true) true n f5.type ((cs.drop f5.offset).take (P.cellsOf f5.type)) = some y5 := by
  obtain ⟨xs, n, _, rfl, hl, hlen, hf⟩ := DataW.trod_struct ht h
  match xs, hlen with
  | [y0, y1, y2, y3, y4, y5], _ => exact ⟨y0, y1, y2, y3, y4, y5, n, hl, by simpa using hf 0 f0 rfl, by simpa using hf 1 f1 rfl, by simpa using hf 2 f2 rfl, by simpa using hf 3 f3 rfl, by simpa using hf 4 f4 rfl, by simpa using hf 5 f5 rfl⟩
theorem name_read {n : Nat} {a b : Value} {x : DataW H × List MemPlace} (h : DataW.trod enc Try.prog W 0 (fun _ => true) true n 35 [a, b] = some x) :
    ∃ m : Nm, a = .int .u64 m.1 ∧ b = .string m.2 ∧ m.2.size ≤ maxLen := by
  obtain ⟨f0, f1, hu, t0, o0, t1, o1⟩ := name_fields
  obtain ⟨y0, y1, n', _, _, h0, h1⟩ := trod_struct2 hu h
  rw [t0, o0, show Try.prog.cellsOf 33 = 1 by kernel_rfl] at h0
  rw [t1, o1, show Try.prog.cellsOf 9 = 1 by kernel_rfl] at h1
  obtain ⟨j, e0, _⟩ := DataW.trod_int Try.underlying33 h0
  obtain ⟨u, e1, _, hs⟩ := DataW.trod_string Try.underlying9 h1
  simp at e0 e1
  exact ⟨(j, u), e0, e1, hs⟩
theorem step_read {n : Nat} {cs : List Value} {x : DataW H × List MemPlace} (h : DataW.trod enc Try.prog W 0 (fun _ => true) true n 42 cs = some x) : ∃ s : Stp, cs = encS s ∧ StpOk W s := by
  obtain ⟨f0, f1, f2, f3, f4, f5, hu, t0, o0, t1, o1, t2, o2, t3, o3, t4, o4, t5, o5⟩ := step_fields
  obtain ⟨y0, y1, y2, y3, y4, y5, n', hl, h0, h1, h2, h3, h4, h5⟩ := trod_struct6 hu h
  rw [show Try.prog.cellsOf 42 = 12 by kernel_rfl] at hl
  match cs, hl with
  | [a0, a1, a2, a3, a4, a5, a6, a7, a8, a9, a10, a11], _ =>
    rw [t0, o0, show Try.prog.cellsOf 3 = 1 by kernel_rfl] at h0
    rw [t1, o1, show Try.prog.cellsOf 33 = 1 by kernel_rfl] at h1
    rw [t2, o2, show Try.prog.cellsOf 35 = 2 by kernel_rfl] at h2
    rw [t3, o3, show Try.prog.cellsOf 35 = 2 by kernel_rfl] at h3
    rw [t4, o4, show Try.prog.cellsOf 38 = 4 by kernel_rfl] at h4
    rw [t5, o5, show Try.prog.cellsOf 40 = 2 by kernel_rfl] at h5
    simp only [List.drop_succ_cons, List.drop_zero, List.take_succ_cons, List.take_zero] at h0 h1 h2 h3 h4 h5
    obtain ⟨j, e0, _⟩ := DataW.trod_int Try.underlying3 h0
    obtain ⟨q, e1, _⟩ := DataW.trod_int Try.underlying33 h1
    obtain ⟨n1, e2, e3, hn⟩ := name_read h2
    obtain ⟨m1, e4, e5, hm⟩ := name_read h3
    obtain ⟨t, e6, ht⟩ := task_read h4
    obtain ⟨r, e7⟩ := res_read h5
    simp only [List.cons.injEq, and_true] at e0 e1
    unfold cT at e6
    simp only [List.cons.injEq, and_true] at e6 e7
    obtain ⟨e6, e8, e9, e10⟩ := e6
    obtain ⟨e11, e12⟩ := e7
    exact ⟨⟨j, q, n1, m1, t, r.1, r.2⟩, by rw [e0, e1, e2, e3, e4, e5, e6, e8, e9, e10, e11, e12]; rfl, hn, hm, ht⟩
variable {base : Nat} {v : Value} {d : DataW H} {p : List MemPlace}
theorem open_script (hv : Value.okWide Try.prog W .any base 22 v) (h : DataW.Trod enc Try.prog W 0 (fun _ => true) true 22 v d p) : ∃ l, ReadsK encS 12 W v l ∧ l.length ≤ maxLen ∧ ∀ s ∈ l, StpOk W s :=
  open_K (enc := encS) (k := 12) (Q := StpOk W) Try.underlying22 (by kernel_rfl) (fun _ => rfl) (by decide) (fun _ _ _ h => step_read h) hv h
end
end Go.Proofs.Ythbkbmkcgpdedaa
