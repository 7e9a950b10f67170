/- A list of steps, of grants, that came in. -/
import Derived.Test.YtbelafkklblidaaOpenK22
namespace Go.Proofs.Ytbelafkklblidaa
open Go.ChangeShapes Go.WideShapes Go.ChangeAt Go.RowKit Go.Deep

section
variable {P : Program} {H : Type} {enc : TypeId × Value → H} {W : World} {base : Nat}
structure NmLaid (P : Program) (t i s : TypeId) : Prop where
  fields : ∃ f0 f1 : Field, P.underlying t = some (.struct #[f0, f1]) ∧ f0.type = i ∧ f0.offset = 0 ∧ f1.type = s ∧ f1.offset = 1
  int : P.underlying i = some (.int .u64)
  str : P.underlying s = some .string
  ci : P.cellsOf i = 1
  cs : P.cellsOf s = 1
  ct : P.cellsOf t = 2
theorem NmLaid.read {t i s : TypeId} (L : NmLaid P t i s) {n : Nat} {a b : Value} {x : DataW H × List MemPlace} (h : DataW.trod enc P W base (fun _ => true) true n t [a, b] = some x) :
    ∃ m : Nm, a = .int .u64 m.1 ∧ b = .string m.2 ∧ m.2.size ≤ maxLen := by
  obtain ⟨f0, f1, hu, t0, o0, t1, o1⟩ := L.fields
  obtain ⟨y0, y1, n', _, _, h0, h1⟩ := trod_struct2 hu h
  rw [t0, o0, L.ci] at h0
  rw [t1, o1, L.cs] at h1
  obtain ⟨j, e0, _⟩ := DataW.trod_int L.int h0
  obtain ⟨u, e1, _, hs⟩ := DataW.trod_string L.str h1
  simp at e0 e1
  exact ⟨(j, u), e0, e1, hs⟩
theorem step_read {t nm i s z : TypeId} (L : NmLaid P nm i s) (hf : ∃ f0 f1 f2 : Field, P.underlying t = some (.struct #[f0, f1, f2]) ∧ f0.type = z ∧ f0.offset = 0 ∧ f1.type = nm ∧ f1.offset = 1 ∧ f2.type = i ∧ f2.offset = 3)
    (hz : P.underlying z = some (.int .i64)) (cz : P.cellsOf z = 1) (ct : P.cellsOf t = 4) {n : Nat} {cs : List Value} {x : DataW H × List MemPlace} (h : DataW.trod enc P W base (fun _ => true) true n t cs = some x) :
    ∃ y : Stp, cs = encS y ∧ y.2.1.2.size ≤ maxLen := by
  obtain ⟨f0, f1, f2, hu, t0, o0, t1, o1, t2, o2⟩ := hf
  obtain ⟨y0, y1, y2, n', _, hl, h0, h1, h2⟩ := trod_struct3 hu h
  rw [ct] at hl
  match cs, hl with
  | [a, b, c, d], _ =>
    rw [t0, o0, cz] at h0
    rw [t1, o1, L.ct] at h1
    rw [t2, o2, L.ci] at h2
    obtain ⟨j, e0, _⟩ := DataW.trod_int hz h0
    obtain ⟨m, e1, e2, hm⟩ := L.read h1
    obtain ⟨q, e3, _⟩ := DataW.trod_int L.int h2
    simp at e0 e3
    exact ⟨(j, m, q), by rw [e0, e1, e2, e3]; rfl, hm⟩
theorem grant_read {t nm i s : TypeId} (L : NmLaid P nm i s) (hf : ∃ f0 f1 : Field, P.underlying t = some (.struct #[f0, f1]) ∧ f0.type = nm ∧ f0.offset = 0 ∧ f1.type = i ∧ f1.offset = 2)
    (ct : P.cellsOf t = 3) {n : Nat} {cs : List Value} {x : DataW H × List MemPlace} (h : DataW.trod enc P W base (fun _ => true) true n t cs = some x) :
    ∃ y : Gr, cs = encG y ∧ y.1.2.size ≤ maxLen := by
  obtain ⟨f0, f1, hu, t0, o0, t1, o1⟩ := hf
  obtain ⟨y0, y1, n', _, hl, h0, h1⟩ := trod_struct2 hu h
  rw [ct] at hl
  match cs, hl with
  | [a, b, c], _ =>
    rw [t0, o0, L.ct] at h0
    rw [t1, o1, L.ci] at h1
    obtain ⟨m, e1, e2, hm⟩ := L.read h0
    obtain ⟨q, e3, _⟩ := DataW.trod_int L.int h1
    simp at e3
    exact ⟨(m, q), by rw [e1, e2, e3]; rfl, hm⟩
end
theorem nmLaid : NmLaid Try.prog 35 22 9 :=
  ⟨⟨_, _, Try.underlying35, rfl, rfl, rfl, rfl⟩, Try.underlying22, Try.underlying9, by kernel_rfl, by kernel_rfl, by kernel_rfl⟩
section
variable {H : Type} {enc : TypeId × Value → H} {W : World} {base : Nat} {v : Value} {d : DataW H} {p : List MemPlace}
set_option maxRecDepth 20000 in
theorem open_steps (hv : Value.okWide Try.prog W .any base 24 v) (h : DataW.Trod enc Try.prog W 0 (fun _ => true) true 24 v d p) :
    ∃ l, ReadsK encS 4 W v l ∧ l.length ≤ maxLen ∧ ∀ x ∈ l, x.2.1.2.size ≤ maxLen :=
  open_K Try.underlying24 (by kernel_rfl) (fun _ => rfl) (by decide)
    (fun _ _ _ h => step_read nmLaid ⟨_, _, _, Try.underlying37, rfl, rfl, rfl, rfl, rfl, rfl⟩ Try.underlying3 (by kernel_rfl) (by kernel_rfl) h) hv h
set_option maxRecDepth 20000 in
theorem open_grants (hv : Value.okWide Try.prog W .any base 23 v) (h : DataW.Trod enc Try.prog W 0 (fun _ => true) true 23 v d p) :
    ∃ l, ReadsK encG 3 W v l ∧ l.length ≤ maxLen ∧ ∀ x ∈ l, x.1.2.size ≤ maxLen :=
  open_K Try.underlying23 (by kernel_rfl) (fun _ => rfl) (by decide)
    (fun _ _ _ h => grant_read nmLaid ⟨_, _, Try.underlying43, rfl, rfl, rfl, rfl⟩ (by kernel_rfl) h) hv h
end
end Go.Proofs.Ytbelafkklblidaa
