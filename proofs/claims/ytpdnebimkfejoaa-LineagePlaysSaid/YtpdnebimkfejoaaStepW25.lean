/- The steps of a script that came in, with their sizes. -/
import Derived.Test.YtpdnebimkfejoaaLin15
import Derived.Test.YtpdnebimkfejoaaOpen22
import Derived.Test.YtpdnebimkfejoaaOpenW
namespace Go.Proofs.Ytpdnebimkfejoaa
set_option maxRecDepth 100000
open Go.ChangeShapes Go.WideShapes Go.ChangeAt Go.RowKit Go.Joins Go.Deep Go.Lib

/-- A task, as a caller holds it: its path, function, arguments' slice, fuel; the arguments. -/
structure Tsk where
  p : ByteArray
  fn : Int
  v : Value
  fuel : Int
  args : List Int
def cT (t : Tsk) : List Value := [.string t.p, .int .i64 t.fn, t.v, .int .i64 t.fuel]
def TskOk (W : World) (t : Tsk) : Prop := ReadsK encI 1 W t.v t.args ∧ t.args.length ≤ maxLen ∧ t.p.size ≤ maxLen
theorem task_fields : ∃ f0 f1 f2 f3 : Field, Try.prog.underlying 32 = some (.struct #[f0, f1, f2, f3]) ∧ f0.type = 9 ∧ f0.offset = 0 ∧ f1.type = 3 ∧ f1.offset = 1 ∧ f2.type = 30 ∧ f2.offset = 2 ∧ f3.type = 3 ∧ f3.offset = 3 :=
  ⟨_, _, _, _, Try.underlying32, rfl, rfl, rfl, rfl, rfl, rfl, rfl, rfl⟩
theorem name_fields : ∃ f0 f1 : Field, Try.prog.underlying 29 = some (.struct #[f0, f1]) ∧ f0.type = 27 ∧ f0.offset = 0 ∧ f1.type = 9 ∧ f1.offset = 1 :=
  ⟨_, _, Try.underlying29, rfl, rfl, rfl, rfl⟩
structure Stp where
  op : Int
  n : Nm
  t : Tsk
  wk : Int
  vk : Int
  ep : Int
def encS (s : Stp) : List Value := [.int .i64 s.op, .int .u64 s.n.1, .string s.n.2, .string s.t.p, .int .i64 s.t.fn, s.t.v, .int .i64 s.t.fuel, .int .i64 s.wk, .int .i64 s.vk, .int .u64 s.ep]
theorem encS_len (s : Stp) : (encS s).length = 10 := rfl
def StpZ (s : Stp) : Prop := s.n.2.size ≤ 140737488351232 ∧ s.t.p.size ≤ 140737488351232 ∧ s.t.args.length ≤ 140737488351232
theorem step_fields : ∃ f0 f1 f2 f3 f4 f5 : Field, Try.prog.underlying 34 = some (.struct #[f0, f1, f2, f3, f4, f5]) ∧ f0.type = 3 ∧ f0.offset = 0 ∧ f1.type = 29 ∧ f1.offset = 1 ∧ f2.type = 32 ∧ f2.offset = 3 ∧ f3.type = 3 ∧ f3.offset = 7 ∧ f4.type = 3 ∧ f4.offset = 8 ∧ f5.type = 27 ∧ f5.offset = 9 :=
  ⟨_, _, _, _, _, _, Try.underlying34, rfl, rfl, rfl, rfl, rfl, rfl, rfl, rfl, rfl, rfl, rfl, rfl⟩
section
variable {H : Type} {enc : TypeId × Value → H} {W : World}
theorem name_readW {n : Nat} {a b : Value} {x : DataW H × List MemPlace} (h : DataW.trod enc Try.prog W 0 (fun _ => true) true n 29 [a, b] = some x) (hw : Wle Try.prog 29 x.1) :
    ∃ m : Nm, a = .int .u64 m.1 ∧ b = .string m.2 ∧ m.2.size ≤ maxLen ∧ m.2.size ≤ reachBytes := by
  obtain ⟨f0, f1, hu, t0, o0, t1, o1⟩ := name_fields
  obtain ⟨ys, n', _, hf⟩ := trod_structW hu h hw
  obtain ⟨h0, _⟩ := hf 0 f0 rfl
  obtain ⟨h1, w1⟩ := hf 1 f1 rfl
  rw [t0, o0, show Try.prog.cellsOf 27 = 1 by kernel_rfl] at h0
  rw [t1, o1, show Try.prog.cellsOf 9 = 1 by kernel_rfl] at h1
  rw [t1] at w1
  obtain ⟨j, e0, _⟩ := DataW.trod_int Try.underlying27 h0
  obtain ⟨u, e1, hs, hr⟩ := trod_stringW Try.underlying9 h1 w1
  simp at e0 e1
  exact ⟨(j, u), e0, e1, hs, hr⟩
theorem task_readW {n : Nat} {cs : List Value} {x : DataW H × List MemPlace} (h : DataW.trod enc Try.prog W 0 (fun _ => true) true n 32 cs = some x) (hw : Wle Try.prog 32 x.1) : ∃ t : Tsk, cs = cT t ∧ TskOk W t ∧ t.p.size ≤ reachBytes ∧ t.args.length * 8 ≤ reachBytes := by
  obtain ⟨f0, f1, f2, f3, hu, t0, o0, t1, o1, t2, o2, t3, o3⟩ := task_fields
  obtain ⟨ys, n', hl, hf⟩ := trod_structW hu h hw
  obtain ⟨h0, w0⟩ := hf 0 f0 rfl
  obtain ⟨h1, _⟩ := hf 1 f1 rfl
  obtain ⟨h2, w2⟩ := hf 2 f2 rfl
  obtain ⟨h3, _⟩ := hf 3 f3 rfl
  rw [t0] at w0
  rw [t2] at w2
  rw [show Try.prog.cellsOf 32 = 4 by kernel_rfl] at hl
  match cs, hl with
  | [a0, a1, a2, a3], _ =>
    rw [t0, o0, show Try.prog.cellsOf 9 = 1 by kernel_rfl] at h0
    rw [t1, o1, show Try.prog.cellsOf 3 = 1 by kernel_rfl] at h1
    rw [t2, o2, show Try.prog.cellsOf 30 = 1 by kernel_rfl] at h2
    rw [t3, o3, show Try.prog.cellsOf 3 = 1 by kernel_rfl] at h3
    obtain ⟨s, e0, hs, hr⟩ := trod_stringW Try.underlying9 h0 w0
    obtain ⟨j, e1, _⟩ := DataW.trod_int Try.underlying3 h1
    obtain ⟨q, e3, _⟩ := DataW.trod_int Try.underlying3 h3
    simp at e0 e1 e3
    simp only [List.drop_succ_cons, List.drop_zero, List.take_succ_cons, List.take_zero] at h2
    obtain ⟨l, hrd, hll, hlb, _⟩ := open_KtW (enc := encI) (Q := fun _ => True) Try.underlying30 (by kernel_rfl) (fun _ => rfl) (by decide) (fun _ cs _ h _ => by
      obtain ⟨j, e0, _, wf⟩ := DataW.trod_int Try.underlying2 h
      exact ⟨j, e0, trivial⟩) h2 w2
    rw [show Try.prog.bytesOf 2 = 8 by kernel_rfl] at hlb
    exact ⟨⟨s, j, a2, q, l⟩, by rw [e0, e1, e3]; rfl, ⟨hrd, hll, hs⟩, hr, hlb⟩
theorem step_readW {n : Nat} {cs : List Value} {x : DataW H × List MemPlace} (h : DataW.trod enc Try.prog W 0 (fun _ => true) true n 34 cs = some x) (hw : Wle Try.prog 34 x.1) : ∃ s : Stp, cs = encS s ∧ TskOk W s.t ∧ StpZ s := by
  obtain ⟨f0, f1, f2, f3, f4, f5, hu, t0, o0, t1, o1, t2, o2, t3, o3, t4, o4, t5, o5⟩ := step_fields
  obtain ⟨ys, n', hl, hf⟩ := trod_structW hu h hw
  obtain ⟨h0, _⟩ := hf 0 f0 rfl
  obtain ⟨h1, w1⟩ := hf 1 f1 rfl
  obtain ⟨h2, w2⟩ := hf 2 f2 rfl
  obtain ⟨h3, _⟩ := hf 3 f3 rfl
  obtain ⟨h4, _⟩ := hf 4 f4 rfl
  obtain ⟨h5, _⟩ := hf 5 f5 rfl
  rw [t1] at w1
  rw [t2] at w2
  rw [show Try.prog.cellsOf 34 = 10 by kernel_rfl] at hl
  match cs, hl with
  | [a0, a1, a2, a3, a4, a5, a6, a7, a8, a9], _ =>
    rw [t0, o0, show Try.prog.cellsOf 3 = 1 by kernel_rfl] at h0
    rw [t1, o1, show Try.prog.cellsOf 29 = 2 by kernel_rfl] at h1
    rw [t2, o2, show Try.prog.cellsOf 32 = 4 by kernel_rfl] at h2
    rw [t3, o3, show Try.prog.cellsOf 3 = 1 by kernel_rfl] at h3
    rw [t4, o4, show Try.prog.cellsOf 3 = 1 by kernel_rfl] at h4
    rw [t5, o5, show Try.prog.cellsOf 27 = 1 by kernel_rfl] at h5
    simp only [List.drop_succ_cons, List.drop_zero, List.take_succ_cons, List.take_zero] at h0 h1 h2 h3 h4 h5
    obtain ⟨j, e0, _⟩ := DataW.trod_int Try.underlying3 h0
    obtain ⟨n1, e1, e2, hn, zn⟩ := name_readW h1 w1
    obtain ⟨t, e3, ht, zp, za⟩ := task_readW h2 w2
    obtain ⟨k1, e4, _⟩ := DataW.trod_int Try.underlying3 h3
    obtain ⟨k2, e5, _⟩ := DataW.trod_int Try.underlying3 h4
    obtain ⟨k3, e6, _⟩ := DataW.trod_int Try.underlying27 h5
    simp only [List.cons.injEq, and_true] at e0 e4 e5 e6
    unfold cT at e3
    simp only [List.cons.injEq, and_true] at e3
    obtain ⟨e31, e32, e33, e34⟩ := e3
    refine ⟨⟨j, n1, t, k1, k2, k3⟩, by rw [e0, e1, e2, e31, e32, e33, e34, e4, e5, e6]; rfl, ht, zn, zp, ?_⟩
    have : reachBytes = 140737488351232 := rfl
    show t.args.length ≤ 140737488351232
    omega
variable {base : Nat} {v : Value} {d : DataW H} {p : List MemPlace}
theorem open_scriptW (hv : Value.okWide Try.prog W .any base 22 v) (h : DataW.Trod enc Try.prog W 0 (fun _ => true) true 22 v d p) (hw : Wle Try.prog 22 d) : ∃ l, ReadsK encS 10 W v l ∧ l.length ≤ maxLen ∧ ∀ s ∈ l, TskOk W s.t ∧ StpZ s := by
  obtain ⟨l, h1, h2, _, h3⟩ := open_KW (enc := encS) (k := 10) (Q := fun s => TskOk W s.t ∧ StpZ s) Try.underlying22 (by kernel_rfl) (fun _ => rfl) (by decide) (fun _ _ _ h w => step_readW h w) hv h hw
  exact ⟨l, h1, h2, h3⟩
end
end Go.Proofs.Ytpdnebimkfejoaa
