/- How a task, a result, a list of steps and a list of bytes that came in read. -/
import Derived.Test.YtdhbjejejeljoaaOpenP13
import Derived.Test.YtdhbjejejeljoaaVm16
namespace Go.Proofs.Ytdhbjejejeljoaa
open Go.ChangeShapes Go.WideShapes Go.ChangeAt Go.RowKit Go.Joins Go.Deep

theorem res_fields : ∃ f0 f1 : Field, Try.prog.underlying 39 = some (.struct #[f0, f1]) ∧ (f0.type = 2 ∧ f0.offset = 0) ∧ f1.offset = 1 ∧ Try.prog.underlying f1.type = some (.int .i64) ∧ Try.prog.cellsOf f1.type = 1 ∧ oneCellFields Try.prog #[f0, f1] = true :=
  ⟨_, _, Try.underlying39, ⟨rfl, rfl⟩, rfl, by kernel_rfl, by kernel_rfl, by kernel_rfl⟩
theorem task_fields : ∃ f0 f1 f2 f3 : Field, Try.prog.underlying 27 = some (.struct #[f0, f1, f2, f3]) ∧ (f0.type = 9 ∧ f0.offset = 0) ∧ (f1.type = 3 ∧ f1.offset = 1) ∧ (f2.type = 25 ∧ f2.offset = 2) ∧ f3.type = 3 ∧ f3.offset = 3 :=
  ⟨_, _, _, _, Try.underlying27, ⟨rfl, rfl⟩, ⟨rfl, rfl⟩, ⟨rfl, rfl⟩, rfl, rfl⟩
section
variable {H : Type} {enc : TypeId × Value → H} {W : World}
theorem trod_struct4' {P : Program} {t : TypeId} {f0 f1 f2 f3 : Field} {fuel : Nat} {cs : List Value} {x : DataW H × List MemPlace} (ht : P.underlying t = some (.struct #[f0, f1, f2, f3])) (h : DataW.trod enc P W 0 (fun _ => true) true fuel t cs = some x) :
    ∃ y0 y1 y2 y3 n, cs.length = P.cellsOf t ∧ DataW.trod enc P W 0 (fun _ => true) true n f0.type ((cs.drop f0.offset).take (P.cellsOf f0.type)) = some y0 ∧
      DataW.trod enc P W 0 (fun _ => true) true n f1.type ((cs.drop f1.offset).take (P.cellsOf f1.type)) = some y1 ∧ DataW.trod enc P W 0 (fun _ => true) true n f2.type ((cs.drop f2.offset).take (P.cellsOf f2.type)) = some y2 ∧
      DataW.trod enc P W 0 (fun _ => true) true n f3.type ((cs.drop f3.offset).take (P.cellsOf f3.type)) = some y3 := by
  obtain ⟨xs, n, _, rfl, hl, hlen, hf⟩ := DataW.trod_struct ht h
  match xs, hlen with
  | [y0, y1, y2, y3], _ => exact ⟨y0, y1, y2, y3, n, hl, by simpa using hf 0 f0 rfl, by simpa using hf 1 f1 rfl, by simpa using hf 2 f2 rfl, by simpa using hf 3 f3 rfl⟩
theorem trod_struct2' {P : Program} {t : TypeId} {f0 f1 : Field} {fuel : Nat} {cs : List Value} {x : DataW H × List MemPlace} (ht : P.underlying t = some (.struct #[f0, f1])) (h : DataW.trod enc P W 0 (fun _ => true) true fuel t cs = some x) :
    ∃ y0 y1 n, cs.length = P.cellsOf t ∧ DataW.trod enc P W 0 (fun _ => true) true n f0.type ((cs.drop f0.offset).take (P.cellsOf f0.type)) = some y0 ∧
      DataW.trod enc P W 0 (fun _ => true) true n f1.type ((cs.drop f1.offset).take (P.cellsOf f1.type)) = some y1 := by
  obtain ⟨xs, n, _, rfl, hl, hlen, hf⟩ := DataW.trod_struct ht h
  match xs, hlen with
  | [y0, y1], _ => exact ⟨y0, y1, n, hl, by simpa using hf 0 f0 rfl, by simpa using hf 1 f1 rfl⟩
set_option maxRecDepth 20000 in
theorem res_read {n : Nat} {cs : List Value} {x : DataW H × List MemPlace} (h : DataW.trod enc Try.prog W 0 (fun _ => true) true n 39 cs = some x) : ∃ a b, cs = [.int .i64 a, .int .i64 b] := by
  obtain ⟨f0, f1, hu, ⟨t0, o0⟩, o1, u1, c1, _⟩ := res_fields
  obtain ⟨y0, y1, n', hl, h0, h1⟩ := trod_struct2' hu h
  rw [show Try.prog.cellsOf 39 = 2 by kernel_rfl] at hl
  match cs, hl with
  | [a0, a1], _ =>
    rw [t0, o0, show Try.prog.cellsOf 2 = 1 by kernel_rfl] at h0
    rw [o1, c1] at h1
    simp only [List.drop_succ_cons, List.drop_zero, List.take_succ_cons, List.take_zero] at h0 h1
    obtain ⟨j0, e0, _⟩ := DataW.trod_int Try.underlying2 h0
    obtain ⟨j1, e1, _⟩ := DataW.trod_int u1 h1
    simp only [List.cons.injEq, and_true] at e0 e1
    exact ⟨j0, j1, by rw [e0, e1]⟩
variable {base : Nat} {v : Value} {d : DataW H} {p : List MemPlace}
set_option maxRecDepth 20000 in
theorem open_res (hv : Value.okWide Try.prog W .any base 39 v) (h : DataW.Trod enc Try.prog W 0 (fun _ => true) true 39 v d p) : ∃ a b, v = .agg #[.int .i64 a, .int .i64 b] := by
  obtain ⟨f0, f1, hu, _, _, _, _, ho⟩ := res_fields
  have hC : Try.prog.cellsOf 39 = 2 := by kernel_rfl
  obtain ⟨cs, rfl, hsz⟩ := okWide_struct hu hv
  obtain ⟨fuel, hf⟩ := h
  obtain ⟨a, b, he⟩ := res_read (cs := Value.cells (.agg cs) |>.toList) (by simpa using hf)
  refine ⟨a, b, ?_⟩
  have h2 : cs.toList = [.int .i64 a, .int .i64 b] := by simpa [Value.cells] using he
  have h3 : cs = #[.int .i64 a, .int .i64 b] := Array.toList_inj.1 (by simpa using h2)
  rw [h3]
/-- A task that came in. -/
def TaskIn (W : World) (v : Value) (t : Tk) : Prop := ∃ av, v = .agg #[.string t.p, .int .i64 t.fn, av, .int .i64 t.fuel] ∧ ReadsK encN1 1 W av t.args ∧ t.args.length ≤ maxLen ∧ t.p.size ≤ maxLen
set_option maxRecDepth 20000 in
theorem open_task (hv : Value.okWide Try.prog W .any base 27 v) (h : DataW.Trod enc Try.prog W 0 (fun _ => true) true 27 v d p) : ∃ t, TaskIn W v t := by
  obtain ⟨f0, f1, f2, f3, hu, ⟨t0, o0⟩, ⟨t1, o1⟩, ⟨t2, o2⟩, t3, o3⟩ := task_fields
  obtain ⟨cs, rfl, hsz⟩ := okWide_struct hu hv
  rw [show Try.prog.cellsOf 27 = 4 by kernel_rfl] at hsz
  obtain ⟨a0, a1, a2, a3, rfl⟩ : ∃ a0 a1 a2 a3, cs = #[a0, a1, a2, a3] := by
    obtain ⟨l⟩ := cs
    match l, hsz with
    | [a0, a1, a2, a3], _ => exact ⟨a0, a1, a2, a3, rfl⟩
  obtain ⟨fuel, hf⟩ := h
  obtain ⟨y0, y1, y2, y3, n, _, h0, h1, h2, h3⟩ := trod_struct4' hu hf
  rw [t0, o0, show Try.prog.cellsOf 9 = 1 by kernel_rfl] at h0
  rw [t1, o1, show Try.prog.cellsOf 3 = 1 by kernel_rfl] at h1
  rw [t2, o2, show Try.prog.cellsOf 25 = 1 by kernel_rfl] at h2
  rw [t3, o3, show Try.prog.cellsOf 3 = 1 by kernel_rfl] at h3
  simp only [Value.cells, List.drop_succ_cons, List.drop_zero, List.take_succ_cons, List.take_zero] at h0 h1 h2 h3
  obtain ⟨s, e0, _, hs⟩ := DataW.trod_string Try.underlying9 h0
  obtain ⟨j1, e1, _⟩ := DataW.trod_int Try.underlying3 h1
  obtain ⟨j3, e3, _⟩ := DataW.trod_int Try.underlying3 h3
  obtain ⟨l, hr, hl, _⟩ := open_Kt (enc := encN1) (k := 1) (Q := fun _ => True) Try.underlying25 (by kernel_rfl) (fun _ => rfl) (by decide)
    (fun _ _ _ h => by
      obtain ⟨j, e, _⟩ := DataW.trod_int Try.underlying2 h
      exact ⟨j, e, trivial⟩) h2
  simp only [List.cons.injEq, and_true] at e0 e1 e3
  exact ⟨⟨s, j1, l, j3⟩, a2, by rw [e0, e1, e3], hr, hl, hs⟩
set_option maxRecDepth 20000 in
theorem open_bytes (hv : Value.okWide Try.prog W .any base 69 v) (h : DataW.Trod enc Try.prog W 0 (fun _ => true) true 69 v d p) : ∃ l : List Int, ReadsK (fun x => [Value.int .u8 x]) 1 W v l ∧ l.length ≤ maxLen ∧ ∀ x ∈ l, 0 ≤ x ∧ x ≤ 255 := by
  obtain ⟨l, h1, h2, h3⟩ := open_K (enc := fun x : Int => [Value.int .u8 x]) (k := 1) (Q := fun x : Int => 0 ≤ x ∧ x ≤ 255) Try.underlying69 (by kernel_rfl) (fun _ => rfl) (by decide)
    (fun _ _ _ h => by
      obtain ⟨j, e0, _, hw⟩ := DataW.trod_int Try.underlying5 h
      refine ⟨j, e0, ?_⟩
      have h1 : IntKind.u8.min = 0 := rfl
      have h2 : IntKind.u8.max = 255 := rfl
      simp [Lit.wf] at hw
      omega) hv h
  exact ⟨l, h1, h2, h3⟩
end
end Go.Proofs.Ytdhbjejejeljoaa
