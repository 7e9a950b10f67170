/- How steps that came in read. -/
import Derived.Test.YtenebamecmblaaaOpenG
import Derived.Test.YtenebamecmblaaaOpen22
namespace Go.Proofs.Ytenebamecmblaaa
open Go.ChangeShapes Go.WideShapes Go.ChangeAt Go.RowKit Go.Joins Go.Deep

abbrev Sp := Int × Nm × Nm
def encS (s : Sp) : List Value := [.int .i64 s.1, .int .u64 s.2.1.1, .string s.2.1.2, .int .u64 s.2.2.1, .string s.2.2.2]
section
variable {P : Program} {H : Type} {enc : TypeId × Value → H} {W : World} {base : Nat}
structure NmLaid (P : Program) (t i s : TypeId) : Prop where
  fields : ∃ f0 f1 : Field, P.underlying t = some (.struct #[f0, f1]) ∧ f0.type = i ∧ f0.offset = 0 ∧ f1.type = s ∧ f1.offset = 1
  int : P.underlying i = some (.int .u64)
  str : P.underlying s = some .string
  ci : P.cellsOf i = 1
  cs : P.cellsOf s = 1
  ct : P.cellsOf t = 2
theorem NmLaid.read {t i s : TypeId} (L : NmLaid P t i s) {n : Nat} {a b : Value} {x : DataW H × List MemPlace} (h : DataW.trod enc P W base (fun _ => true) true n t [a, b] = some x) :
    ∃ m : Nm, a = .int .u64 m.1 ∧ b = .string m.2 ∧ m.2.size ≤ maxLen := by
  obtain ⟨f0, f1, hu, t0, o0, t1, o1⟩ := L.fields
  obtain ⟨y0, y1, n', _, _, h0, h1⟩ := trod_struct2 hu h
  rw [t0, o0, L.ci] at h0
  rw [t1, o1, L.cs] at h1
  obtain ⟨j, e0, _⟩ := DataW.trod_int L.int h0
  obtain ⟨u, e1, _, hs⟩ := DataW.trod_string L.str h1
  simp at e0 e1
  exact ⟨(j, u), e0, e1, hs⟩
theorem step_read {t nm i s z : TypeId} (L : NmLaid P nm i s) (hf : ∃ f0 f1 f2 : Field, P.underlying t = some (.struct #[f0, f1, f2]) ∧ f0.type = z ∧ f0.offset = 0 ∧ f1.type = nm ∧ f1.offset = 1 ∧ f2.type = nm ∧ f2.offset = 3)
    (hz : P.underlying z = some (.int .i64)) (cz : P.cellsOf z = 1) (ct : P.cellsOf t = 5) {n : Nat} {cs : List Value} {x : DataW H × List MemPlace} (h : DataW.trod enc P W base (fun _ => true) true n t cs = some x) :
    ∃ y : Sp, cs = encS y ∧ (y.2.1.2.size ≤ maxLen ∧ y.2.2.2.size ≤ maxLen) := by
  obtain ⟨f0, f1, f2, hu, t0, o0, t1, o1, t2, o2⟩ := hf
  obtain ⟨y0, y1, y2, n', _, hl, h0, h1, h2⟩ := trod_struct3 hu h
  rw [ct] at hl
  match cs, hl with
  | [a, b, c, d, e], _ =>
    rw [t0, o0, cz] at h0
    rw [t1, o1, L.ct] at h1
    rw [t2, o2, L.ct] at h2
    obtain ⟨j, e0, _⟩ := DataW.trod_int hz h0
    obtain ⟨m, e1, e2, hm⟩ := L.read h1
    obtain ⟨q, e3, e4, hq⟩ := L.read h2
    simp at e0
    exact ⟨(j, m, q), by rw [e0, e1, e2, e3, e4]; rfl, hm, hq⟩
end
theorem nmLaid : NmLaid Try.prog 35 26 9 :=
  ⟨⟨_, _, Try.underlying35, rfl, rfl, rfl, rfl⟩, Try.underlying26, Try.underlying9, by kernel_rfl, by kernel_rfl, by kernel_rfl⟩
section
variable {H : Type} {enc : TypeId × Value → H} {W : World} {base : Nat} {v : Value} {d : DataW H} {p : List MemPlace}
set_option maxRecDepth 20000 in
theorem open_steps (hv : Value.okWide Try.prog W .any base 30 v) (h : DataW.Trod enc Try.prog W 0 (fun _ => true) true 30 v d p) :
    ∃ l, ReadsK encS 5 W v l ∧ l.length ≤ maxLen ∧ ∀ x ∈ l, x.2.1.2.size ≤ maxLen ∧ x.2.2.2.size ≤ maxLen :=
  open_K Try.underlying30 (by kernel_rfl) (fun _ => rfl) (by decide)
    (fun _ _ _ h => step_read nmLaid ⟨_, _, _, Try.underlying37, rfl, rfl, rfl, rfl, rfl, rfl⟩ Try.underlying3 (by kernel_rfl) (by kernel_rfl) h) hv h
end
end Go.Proofs.Ytenebamecmblaaa
