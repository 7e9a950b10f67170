/- How tasks, results, steps that came in read. -/
import Derived.Test.YthbkbmkcgpdedaaOpenG
import Derived.Test.YthbkbmkcgpdedaaOpen22
import Derived.Test.YthbkbmkcgpdedaaJoin1
namespace Go.Proofs.Ythbkbmkcgpdedaa
set_option maxRecDepth 100000
open Go.ChangeShapes Go.WideShapes Go.ChangeAt Go.RowKit Go.Joins Go.Deep

/-- A slice of structs that came in, held in a cell. -/
theorem open_Kt {P : Program} {α H : Type} {encV : TypeId × Value → H} {W : World} {v : Value} {x : DataW H × List MemPlace} {t e : TypeId} {enc : α → List Value} {k fuel : Nat} {Q : α → Prop} (ht : P.underlying t = some (.slice e)) (hC : P.cellsOf e = k) (hk : ∀ x, (enc x).length = k) (h0 : 0 < k)
    (hel : ∀ n cs x, DataW.trod encV P W 0 (fun _ => true) true n e cs = some x → ∃ y, cs = enc y ∧ Q y)
    (hf : DataW.trod encV P W 0 (fun _ => true) true fuel t [v] = some x) : ∃ l, ReadsK enc k W v l ∧ l.length ≤ maxLen ∧ ∀ x ∈ l, Q x := by
  rcases open_slice ht hf with ⟨hcs, _⟩ | ⟨a, len, cap, m, n, D, Pl, hcs, hb, hl, hm, hmm, hx, hi⟩
  · injection hcs with hcs
    subst hcs
    exact ⟨[], .inl ⟨rfl, _, _, rfl⟩, Nat.zero_le _, by simp⟩
  · injection hcs with hcs
    subst hcs
    have hlm : len ≤ m := by rw [hmm]; split <;> omega
    have hall : ∀ i : Fin len, ∃ y : α, Q y ∧ ∀ j u, (enc y)[j]? = some u → W.cell? (a.add (i.1 * k + j)) = some u := by
      intro i
      obtain ⟨cs', hc, ht'⟩ := hi i.1 (by omega)
      rw [hC] at hc
      obtain ⟨y, rfl, hq⟩ := hel _ _ _ ht'
      obtain ⟨_, hcl, hat⟩ := World.cells?_some hc
      refine ⟨y, hq, fun j u hu => ?_⟩
      have hj : j < k := by have := (List.getElem?_eq_some_iff.1 hu).1; rw [hk] at this; exact this
      rw [← Go.Deep.add_add, hat j hj, hu]
    obtain ⟨f, hf2⟩ := Classical.axiomOfChoice hall
    by_cases h1 : len = 0
    · subst h1
      exact ⟨[], .inl ⟨rfl, _, _, rfl⟩, Nat.zero_le _, by simp⟩
    · obtain ⟨b, off, spot⟩ := a
      have hne : (enc (f ⟨0, by omega⟩))[0]? = some ((enc (f ⟨0, by omega⟩))[0]'(by rw [hk]; exact h0)) := List.getElem?_eq_getElem _
      have c0 := (hf2 ⟨0, by omega⟩).2 0 _ hne
      have hsp : spot = none := by
        simp only [Addr.add, Nat.zero_mul, Nat.zero_add, if_true, World.cell?] at c0
        split at c0
        · cases spot with
          | none => rfl
          | some s => simp at c0
        · cases c0
      subst hsp
      have hbb : b < W.heap.size := by
        simp only [Addr.add, Nat.zero_mul, Nat.zero_add, if_true, World.cell?] at c0
        split at c0
        · rename_i hh; exact (Array.getElem?_eq_some_iff.1 hh).1
        · cases c0
      refine ⟨List.ofFn f, .inr ⟨b, off, cap, by rw [List.length_ofFn], hbb, fun i hi2 t u hu => ?_⟩, by rw [List.length_ofFn]; exact Nat.le_trans hl hm, fun x hx2 => ?_⟩
      · rw [List.getElem_ofFn] at hu
        have cj := (hf2 ⟨i, by simpa using hi2⟩).2 t u hu
        have e2 : (⟨b, off, none⟩ : Addr).add (i * k + t) = ⟨b, off + (i * k + t), none⟩ := by
          by_cases hj0 : i * k + t = 0
          · rw [hj0]; rfl
          · unfold Addr.add; rw [if_neg hj0]
        rw [e2] at cj; exact cj
      · obtain ⟨i, hi2⟩ := List.mem_ofFn.1 hx2
        rw [← hi2]; exact (hf2 i).1
/-- A task, as a caller holds it: its path, function, arguments' slice, fuel; the arguments. -/
structure Tsk where
  p : ByteArray
  fn : Int
  v : Value
  fuel : Int
  args : List Int
def cT (t : Tsk) : List Value := [.string t.p, .int .i64 t.fn, t.v, .int .i64 t.fuel]
def TskOk (W : World) (t : Tsk) : Prop := ReadsK encI 1 W t.v t.args ∧ t.args.length ≤ maxLen ∧ t.p.size ≤ maxLen
theorem task_fields : ∃ f0 f1 f2 f3 : Field, Try.prog.underlying 38 = some (.struct #[f0, f1, f2, f3]) ∧ f0.type = 9 ∧ f0.offset = 0 ∧ f1.type = 3 ∧ f1.offset = 1 ∧ f2.type = 36 ∧ f2.offset = 2 ∧ f3.type = 3 ∧ f3.offset = 3 :=
  ⟨_, _, _, _, Try.underlying38, rfl, rfl, rfl, rfl, rfl, rfl, rfl, rfl⟩
theorem res_fields : ∃ f0 f1 : Field, Try.prog.underlying 40 = some (.struct #[f0, f1]) ∧ f0.type = 2 ∧ f0.offset = 0 ∧ f1.type = 26 ∧ f1.offset = 1 :=
  ⟨_, _, Try.underlying40, rfl, rfl, rfl, rfl⟩
section
variable {H : Type} {enc : TypeId × Value → H} {W : World}
theorem task_read {n : Nat} {cs : List Value} {x : DataW H × List MemPlace} (h : DataW.trod enc Try.prog W 0 (fun _ => true) true n 38 cs = some x) : ∃ t : Tsk, cs = cT t ∧ TskOk W t := by
  obtain ⟨f0, f1, f2, f3, hu, t0, o0, t1, o1, t2, o2, t3, o3⟩ := task_fields
  obtain ⟨y0, y1, y2, y3, n', _, hl, h0, h1, h2, h3⟩ := trod_struct4 hu h
  rw [show Try.prog.cellsOf 38 = 4 by kernel_rfl] at hl
  match cs, hl with
  | [a0, a1, a2, a3], _ =>
    rw [t0, o0, show Try.prog.cellsOf 9 = 1 by kernel_rfl] at h0
    rw [t1, o1, show Try.prog.cellsOf 3 = 1 by kernel_rfl] at h1
    rw [t2, o2, show Try.prog.cellsOf 36 = 1 by kernel_rfl] at h2
    rw [t3, o3, show Try.prog.cellsOf 3 = 1 by kernel_rfl] at h3
    obtain ⟨s, e0, _, hs⟩ := DataW.trod_string Try.underlying9 h0
    obtain ⟨j, e1, _⟩ := DataW.trod_int Try.underlying3 h1
    obtain ⟨q, e3, _⟩ := DataW.trod_int Try.underlying3 h3
    simp at e0 e1 e3
    simp only [List.drop_succ_cons, List.drop_zero, List.take_succ_cons, List.take_zero] at h2
    obtain ⟨l, hr, hll, _⟩ := open_Kt (enc := encI) (Q := fun _ => True) Try.underlying36 (by kernel_rfl) (fun _ => rfl) (by decide) (fun _ cs _ h => by
      obtain ⟨j, e0, _, wf⟩ := DataW.trod_int Try.underlying2 h
      exact ⟨j, e0, trivial⟩) h2
    exact ⟨⟨s, j, a2, q, l⟩, by rw [e0, e1, e3]; rfl, hr, hll, hs⟩
theorem res_read {n : Nat} {cs : List Value} {x : DataW H × List MemPlace} (h : DataW.trod enc Try.prog W 0 (fun _ => true) true n 40 cs = some x) : ∃ m : Int × Int, cs = [.int .i64 m.1, .int .i64 m.2] := by
  obtain ⟨f0, f1, hu, t0, o0, t1, o1⟩ := res_fields
  obtain ⟨y0, y1, n', _, hl, h0, h1⟩ := trod_struct2 hu h
  rw [show Try.prog.cellsOf 40 = 2 by kernel_rfl] at hl
  match cs, hl with
  | [a, b], _ =>
    rw [t0, o0, show Try.prog.cellsOf 2 = 1 by kernel_rfl] at h0
    rw [t1, o1, show Try.prog.cellsOf 26 = 1 by kernel_rfl] at h1
    obtain ⟨j, e0, _⟩ := DataW.trod_int Try.underlying2 h0
    obtain ⟨u, e1, _⟩ := DataW.trod_int Try.underlying26 h1
    simp at e0 e1
    exact ⟨(j, u), by rw [e0, e1]⟩
variable {base : Nat} {v : Value} {d : DataW H} {p : List MemPlace}
theorem open_task (hv : Value.okWide Try.prog W .any base 38 v) (h : DataW.Trod enc Try.prog W 0 (fun _ => true) true 38 v d p) : ∃ t : Tsk, v = .agg #[.string t.p, .int .i64 t.fn, t.v, .int .i64 t.fuel] ∧ TskOk W t := by
  obtain ⟨f0, f1, f2, f3, hu, _⟩ := task_fields
  obtain ⟨cs, rfl, hsz⟩ := okWide_struct hu hv
  obtain ⟨fuel, hf⟩ := h
  obtain ⟨t, ht, ho⟩ := task_read hf
  refine ⟨t, ?_, ho⟩
  congr 1
  rw [← Array.toList_inj]
  exact ht
theorem open_res (hv : Value.okWide Try.prog W .any base 40 v) (h : DataW.Trod enc Try.prog W 0 (fun _ => true) true 40 v d p) : ∃ m : Int × Int, v = .agg #[.int .i64 m.1, .int .i64 m.2] := by
  obtain ⟨f0, f1, hu, _⟩ := res_fields
  obtain ⟨cs, rfl, hsz⟩ := okWide_struct hu hv
  obtain ⟨fuel, hf⟩ := h
  obtain ⟨m, hm⟩ := res_read hf
  refine ⟨m, ?_⟩
  congr 1
  rw [← Array.toList_inj]
  exact hm
end
end Go.Proofs.Ythbkbmkcgpdedaa
