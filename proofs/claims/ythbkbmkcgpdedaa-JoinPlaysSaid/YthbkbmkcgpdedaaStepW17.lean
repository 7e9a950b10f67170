/- The steps of a script that came in, with their sizes. -/
import Derived.Test.YthbkbmkcgpdedaaHeavy17
import Derived.Test.YthbkbmkcgpdedaaOpenW
namespace Go.Proofs.Ythbkbmkcgpdedaa
set_option maxRecDepth 100000
open Go.ChangeShapes Go.WideShapes Go.ChangeAt Go.RowKit Go.Joins Go.Deep Go.Lib

section
variable {H : Type} {enc : TypeId × Value → H} {W : World}
theorem name_readW {n : Nat} {a b : Value} {x : DataW H × List MemPlace} (h : DataW.trod enc Try.prog W 0 (fun _ => true) true n 35 [a, b] = some x) (hw : Wle Try.prog 35 x.1) :
    ∃ m : Nm, a = .int .u64 m.1 ∧ b = .string m.2 ∧ m.2.size ≤ maxLen ∧ m.2.size ≤ reachBytes := by
  obtain ⟨f0, f1, hu, t0, o0, t1, o1⟩ := name_fields
  obtain ⟨ys, n', _, hf⟩ := trod_structW hu h hw
  obtain ⟨h0, _⟩ := hf 0 f0 rfl
  obtain ⟨h1, w1⟩ := hf 1 f1 rfl
  rw [t0, o0, show Try.prog.cellsOf 33 = 1 by kernel_rfl] at h0
  rw [t1, o1, show Try.prog.cellsOf 9 = 1 by kernel_rfl] at h1
  rw [t1] at w1
  obtain ⟨j, e0, _⟩ := DataW.trod_int Try.underlying33 h0
  obtain ⟨u, e1, hs, hr⟩ := trod_stringW Try.underlying9 h1 w1
  simp at e0 e1
  exact ⟨(j, u), e0, e1, hs, hr⟩
theorem task_readW {n : Nat} {cs : List Value} {x : DataW H × List MemPlace} (h : DataW.trod enc Try.prog W 0 (fun _ => true) true n 38 cs = some x) (hw : Wle Try.prog 38 x.1) : ∃ t : Tsk, cs = cT t ∧ TskOk W t ∧ t.p.size ≤ reachBytes ∧ t.args.length * 8 ≤ reachBytes := by
  obtain ⟨f0, f1, f2, f3, hu, t0, o0, t1, o1, t2, o2, t3, o3⟩ := task_fields
  obtain ⟨ys, n', hl, hf⟩ := trod_structW hu h hw
  obtain ⟨h0, w0⟩ := hf 0 f0 rfl
  obtain ⟨h1, _⟩ := hf 1 f1 rfl
  obtain ⟨h2, w2⟩ := hf 2 f2 rfl
  obtain ⟨h3, _⟩ := hf 3 f3 rfl
  rw [t0] at w0
  rw [t2] at w2
  rw [show Try.prog.cellsOf 38 = 4 by kernel_rfl] at hl
  match cs, hl with
  | [a0, a1, a2, a3], _ =>
    rw [t0, o0, show Try.prog.cellsOf 9 = 1 by kernel_rfl] at h0
    rw [t1, o1, show Try.prog.cellsOf 3 = 1 by kernel_rfl] at h1
    rw [t2, o2, show Try.prog.cellsOf 36 = 1 by kernel_rfl] at h2
    rw [t3, o3, show Try.prog.cellsOf 3 = 1 by kernel_rfl] at h3
    obtain ⟨s, e0, hs, hr⟩ := trod_stringW Try.underlying9 h0 w0
    obtain ⟨j, e1, _⟩ := DataW.trod_int Try.underlying3 h1
    obtain ⟨q, e3, _⟩ := DataW.trod_int Try.underlying3 h3
    simp at e0 e1 e3
    simp only [List.drop_succ_cons, List.drop_zero, List.take_succ_cons, List.take_zero] at h2
    obtain ⟨l, hrd, hll, hlb, _⟩ := open_KtW (enc := encI) (Q := fun _ => True) Try.underlying36 (by kernel_rfl) (fun _ => rfl) (by decide) (fun _ cs _ h _ => by
      obtain ⟨j, e0, _, wf⟩ := DataW.trod_int Try.underlying2 h
      exact ⟨j, e0, trivial⟩) h2 w2
    rw [show Try.prog.bytesOf 2 = 8 by kernel_rfl] at hlb
    exact ⟨⟨s, j, a2, q, l⟩, by rw [e0, e1, e3]; rfl, ⟨hrd, hll, hs⟩, hr, hlb⟩
theorem step_readW {n : Nat} {cs : List Value} {x : DataW H × List MemPlace} (h : DataW.trod enc Try.prog W 0 (fun _ => true) true n 42 cs = some x) (hw : Wle Try.prog 42 x.1) : ∃ s : Stp, cs = encS s ∧ StpOk W s ∧ StpZ s := by
  obtain ⟨f0, f1, f2, f3, f4, f5, hu, t0, o0, t1, o1, t2, o2, t3, o3, t4, o4, t5, o5⟩ := step_fields
  obtain ⟨ys, n', hl, hf⟩ := trod_structW hu h hw
  obtain ⟨h0, _⟩ := hf 0 f0 rfl
  obtain ⟨h1, _⟩ := hf 1 f1 rfl
  obtain ⟨h2, w2⟩ := hf 2 f2 rfl
  obtain ⟨h3, w3⟩ := hf 3 f3 rfl
  obtain ⟨h4, w4⟩ := hf 4 f4 rfl
  obtain ⟨h5, _⟩ := hf 5 f5 rfl
  rw [t2] at w2
  rw [t3] at w3
  rw [t4] at w4
  rw [show Try.prog.cellsOf 42 = 12 by kernel_rfl] at hl
  match cs, hl with
  | [a0, a1, a2, a3, a4, a5, a6, a7, a8, a9, a10, a11], _ =>
    rw [t0, o0, show Try.prog.cellsOf 3 = 1 by kernel_rfl] at h0
    rw [t1, o1, show Try.prog.cellsOf 33 = 1 by kernel_rfl] at h1
    rw [t2, o2, show Try.prog.cellsOf 35 = 2 by kernel_rfl] at h2
    rw [t3, o3, show Try.prog.cellsOf 35 = 2 by kernel_rfl] at h3
    rw [t4, o4, show Try.prog.cellsOf 38 = 4 by kernel_rfl] at h4
    rw [t5, o5, show Try.prog.cellsOf 40 = 2 by kernel_rfl] at h5
    simp only [List.drop_succ_cons, List.drop_zero, List.take_succ_cons, List.take_zero] at h0 h1 h2 h3 h4 h5
    obtain ⟨j, e0, _⟩ := DataW.trod_int Try.underlying3 h0
    obtain ⟨q, e1, _⟩ := DataW.trod_int Try.underlying33 h1
    obtain ⟨n1, e2, e3, hn, zn⟩ := name_readW h2 w2
    obtain ⟨m1, e4, e5, hm, zm⟩ := name_readW h3 w3
    obtain ⟨t, e6, ht, zp, za⟩ := task_readW h4 w4
    obtain ⟨r, e7⟩ := res_read h5
    simp only [List.cons.injEq, and_true] at e0 e1
    unfold cT at e6
    simp only [List.cons.injEq, and_true] at e6 e7
    obtain ⟨e6, e8, e9, e10⟩ := e6
    obtain ⟨e11, e12⟩ := e7
    refine ⟨⟨j, q, n1, m1, t, r.1, r.2⟩, by rw [e0, e1, e2, e3, e4, e5, e6, e8, e9, e10, e11, e12]; rfl, ⟨hn, hm, ht⟩, zn, zm, zp, ?_⟩
    have : reachBytes = 140737488351232 := rfl
    show t.args.length ≤ 140737488351232
    omega
variable {base : Nat} {v : Value} {d : DataW H} {p : List MemPlace}
theorem open_scriptW (hv : Value.okWide Try.prog W .any base 22 v) (h : DataW.Trod enc Try.prog W 0 (fun _ => true) true 22 v d p) (hw : Wle Try.prog 22 d) : ∃ l, ReadsK encS 12 W v l ∧ l.length ≤ maxLen ∧ ∀ s ∈ l, StpOk W s ∧ StpZ s := by
  obtain ⟨l, h1, h2, _, h3⟩ := open_KW (enc := encS) (k := 12) (Q := fun s => StpOk W s ∧ StpZ s) Try.underlying22 (by kernel_rfl) (fun _ => rfl) (by decide) (fun _ _ _ h w => step_readW h w) hv h hw
  exact ⟨l, h1, h2, h3⟩
end
end Go.Proofs.Ythbkbmkcgpdedaa
