/- How a program, and a list of numbers, that came in read. -/
import Derived.Test.YtdhbjejejeljoaaOpenT
import Derived.Test.YtdhbjejejeljoaaEvH
namespace Go.Proofs.Ytdhbjejejeljoaa
open Go.ChangeShapes Go.WideShapes Go.ChangeAt Go.RowKit Go.Joins Go.Deep

theorem op_fields : ∃ f0 f1 f2 f3 f4 : Field, Try.prog.underlying 56 = some (.struct #[f0, f1, f2, f3, f4]) ∧ (f0.type = 5 ∧ f0.offset = 0) ∧ (f1.type = 3 ∧ f1.offset = 1) ∧ (f2.type = 3 ∧ f2.offset = 2) ∧ (f3.type = 3 ∧ f3.offset = 3) ∧ f4.type = 2 ∧ f4.offset = 4 :=
  ⟨_, _, _, _, _, Try.underlying56, ⟨rfl, rfl⟩, ⟨rfl, rfl⟩, ⟨rfl, rfl⟩, ⟨rfl, rfl⟩, rfl, rfl⟩
theorem func_fields : ∃ f0 f1 f2 : Field, Try.prog.underlying 78 = some (.struct #[f0, f1, f2]) ∧ (f0.type = 3 ∧ f0.offset = 0) ∧ (f1.type = 3 ∧ f1.offset = 1) ∧ f2.type = 76 ∧ f2.offset = 2 :=
  ⟨_, _, _, Try.underlying78, ⟨rfl, rfl⟩, ⟨rfl, rfl⟩, rfl, rfl⟩
theorem prog_fields : ∃ f0 : Field, Try.prog.underlying 24 = some (.struct #[f0]) ∧ f0.type = 22 ∧ f0.offset = 0 :=
  ⟨_, Try.underlying24, rfl, rfl⟩
section
variable {H : Type} {enc : TypeId × Value → H} {W : World}
theorem trod_struct5 {P : Program} {t : TypeId} {f0 f1 f2 f3 f4 : Field} {fuel : Nat} {cs : List Value} {x : DataW H × List MemPlace} (ht : P.underlying t = some (.struct #[f0, f1, f2, f3, f4])) (h : DataW.trod enc P W 0 (fun _ => true) true fuel t cs = some x) :
    ∃ y0 y1 y2 y3 y4 n, cs.length = P.cellsOf t ∧ DataW.trod enc P W 0 (fun _ => true) true n f0.type ((cs.drop f0.offset).take (P.cellsOf f0.type)) = some y0 ∧
      DataW.trod enc P W 0 (fun _ => true) true n f1.type ((cs.drop f1.offset).take (P.cellsOf f1.type)) = some y1 ∧ DataW.trod enc P W 0 (fun _ => true) true n f2.type ((cs.drop f2.offset).take (P.cellsOf f2.type)) = some y2 ∧
      DataW.trod enc P W 0 (fun _ => true) true n f3.type ((cs.drop f3.offset).take (P.cellsOf f3.type)) = some y3 ∧ DataW.trod enc P W 0 (fun _ => true) true n f4.type ((cs.drop f4.offset).take (P.cellsOf f4.type)) = some y4 := by
  obtain ⟨xs, n, _, rfl, hl, hlen, hf⟩ := DataW.trod_struct ht h
  match xs, hlen with
  | [y0, y1, y2, y3, y4], _ => exact ⟨y0, y1, y2, y3, y4, n, hl, by simpa using hf 0 f0 rfl, by simpa using hf 1 f1 rfl, by simpa using hf 2 f2 rfl, by simpa using hf 3 f3 rfl, by simpa using hf 4 f4 rfl⟩
theorem trod_struct3' {P : Program} {t : TypeId} {f0 f1 f2 : Field} {fuel : Nat} {cs : List Value} {x : DataW H × List MemPlace} (ht : P.underlying t = some (.struct #[f0, f1, f2])) (h : DataW.trod enc P W 0 (fun _ => true) true fuel t cs = some x) :
    ∃ y0 y1 y2 n, cs.length = P.cellsOf t ∧ DataW.trod enc P W 0 (fun _ => true) true n f0.type ((cs.drop f0.offset).take (P.cellsOf f0.type)) = some y0 ∧
      DataW.trod enc P W 0 (fun _ => true) true n f1.type ((cs.drop f1.offset).take (P.cellsOf f1.type)) = some y1 ∧ DataW.trod enc P W 0 (fun _ => true) true n f2.type ((cs.drop f2.offset).take (P.cellsOf f2.type)) = some y2 := by
  obtain ⟨xs, n, _, rfl, hl, hlen, hf⟩ := DataW.trod_struct ht h
  match xs, hlen with
  | [y0, y1, y2], _ => exact ⟨y0, y1, y2, n, hl, by simpa using hf 0 f0 rfl, by simpa using hf 1 f1 rfl, by simpa using hf 2 f2 rfl⟩
set_option maxRecDepth 20000 in
theorem op_read {n : Nat} {cs : List Value} {x : DataW H × List MemPlace} (h : DataW.trod enc Try.prog W 0 (fun _ => true) true n 56 cs = some x) : ∃ o : Opr, cs = encO o ∧ True := by
  obtain ⟨f0, f1, f2, f3, f4, hu, ⟨t0, o0⟩, ⟨t1, o1⟩, ⟨t2, o2⟩, ⟨t3, o3⟩, t4, o4⟩ := op_fields
  obtain ⟨y0, y1, y2, y3, y4, n', hl, h0, h1, h2, h3, h4⟩ := trod_struct5 hu h
  rw [show Try.prog.cellsOf 56 = 5 by kernel_rfl] at hl
  match cs, hl with
  | [a0, a1, a2, a3, a4], _ =>
    rw [t0, o0, show Try.prog.cellsOf 5 = 1 by kernel_rfl] at h0
    rw [t1, o1, show Try.prog.cellsOf 3 = 1 by kernel_rfl] at h1
    rw [t2, o2, show Try.prog.cellsOf 3 = 1 by kernel_rfl] at h2
    rw [t3, o3, show Try.prog.cellsOf 3 = 1 by kernel_rfl] at h3
    rw [t4, o4, show Try.prog.cellsOf 2 = 1 by kernel_rfl] at h4
    simp only [List.drop_succ_cons, List.drop_zero, List.take_succ_cons, List.take_zero] at h0 h1 h2 h3 h4
    obtain ⟨j0, e0, _⟩ := DataW.trod_int Try.underlying5 h0
    obtain ⟨j1, e1, _⟩ := DataW.trod_int Try.underlying3 h1
    obtain ⟨j2, e2, _⟩ := DataW.trod_int Try.underlying3 h2
    obtain ⟨j3, e3, _⟩ := DataW.trod_int Try.underlying3 h3
    obtain ⟨j4, e4, _⟩ := DataW.trod_int Try.underlying2 h4
    simp only [List.cons.injEq, and_true] at e0 e1 e2 e3 e4
    exact ⟨⟨j0, j1, j2, j3, j4⟩, by rw [e0, e1, e2, e3, e4]; rfl, trivial⟩
set_option maxRecDepth 20000 in
theorem func_read {n : Nat} {cs : List Value} {x : DataW H × List MemPlace} (h : DataW.trod enc Try.prog W 0 (fun _ => true) true n 78 cs = some x) : ∃ f : Fnc, cs = encF f ∧ ReadsK encO 5 W (.slice f.oa f.ops.length f.oc) f.ops := by
  obtain ⟨f0, f1, f2, hu, ⟨t0, o0⟩, ⟨t1, o1⟩, t2, o2⟩ := func_fields
  obtain ⟨y0, y1, y2, n', hl, h0, h1, h2⟩ := trod_struct3' hu h
  rw [show Try.prog.cellsOf 78 = 3 by kernel_rfl] at hl
  match cs, hl with
  | [a0, a1, a2], _ =>
    rw [t0, o0, show Try.prog.cellsOf 3 = 1 by kernel_rfl] at h0
    rw [t1, o1, show Try.prog.cellsOf 3 = 1 by kernel_rfl] at h1
    rw [t2, o2, show Try.prog.cellsOf 76 = 1 by kernel_rfl] at h2
    simp only [List.drop_succ_cons, List.drop_zero, List.take_succ_cons, List.take_zero] at h0 h1 h2
    obtain ⟨j0, e0, _⟩ := DataW.trod_int Try.underlying3 h0
    obtain ⟨j1, e1, _⟩ := DataW.trod_int Try.underlying3 h1
    simp only [List.cons.injEq, and_true] at e0 e1
    obtain ⟨l, hr, _, _⟩ := open_Kt (enc := encO) (k := 5) (Q := fun _ => True) Try.underlying76 (by kernel_rfl) (fun _ => rfl) (by decide) (fun _ _ _ h => op_read h) h2
    obtain ⟨oa, oc, rfl⟩ := hr.slice
    exact ⟨⟨j0, j1, l, oa, oc⟩, by rw [e0, e1]; rfl, hr⟩
variable {base : Nat} {v : Value} {d : DataW H} {p : List MemPlace}
set_option maxRecDepth 20000 in
theorem open_prog (hv : Value.okWide Try.prog W .any base 24 v) (h : DataW.Trod enc Try.prog W 0 (fun _ => true) true 24 v d p) : ∃ u l, v = .agg #[u] ∧ ProgIn W u l := by
  obtain ⟨f0, hu, t0, o0⟩ := prog_fields
  obtain ⟨cs, rfl, hsz⟩ := okWide_struct hu hv
  rw [show Try.prog.cellsOf 24 = 1 by kernel_rfl] at hsz
  obtain ⟨u, rfl⟩ : ∃ u, cs = #[u] := by
    obtain ⟨l⟩ := cs
    match l, hsz with
    | [u], _ => exact ⟨u, rfl⟩
  obtain ⟨fuel, hf⟩ := h
  obtain ⟨y0, n, _, _, h0⟩ := trod_struct1 hu hf
  rw [t0, o0, show Try.prog.cellsOf 22 = 1 by kernel_rfl] at h0
  have h1 : DataW.trod enc Try.prog W 0 (fun _ => true) true n 22 [u] = some y0 := by simpa [Value.cells] using h0
  obtain ⟨l, hr, hl, hq⟩ := open_Kt (enc := encF) (k := 3) (Q := fun f : Fnc => ReadsK encO 5 W (.slice f.oa f.ops.length f.oc) f.ops) Try.underlying22 (by kernel_rfl) (fun _ => rfl) (by decide) (fun _ _ _ h => func_read h) h1
  exact ⟨u, l, rfl, hr, hq, hl⟩
set_option maxRecDepth 100000 in
theorem open_nums (hv : Value.okWide Try.prog W .any base 25 v) (h : DataW.Trod enc Try.prog W 0 (fun _ => true) true 25 v d p) : ∃ l, ReadsK encN1 1 W v l ∧ l.length ≤ maxLen := by
  obtain ⟨l, h1, h2, _⟩ := open_K (enc := encN1) (k := 1) (Q := fun _ => True) Try.underlying25 (by kernel_rfl) (fun _ => rfl) (by decide)
    (fun _ _ _ h => by
      obtain ⟨j, e0, _⟩ := DataW.trod_int Try.underlying2 h
      exact ⟨j, e0, trivial⟩) hv h
  exact ⟨l, h1, h2⟩
end
end Go.Proofs.Ytdhbjejejeljoaa
