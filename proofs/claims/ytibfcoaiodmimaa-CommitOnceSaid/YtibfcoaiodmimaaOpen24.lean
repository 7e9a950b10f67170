/- How entries, steps, lists of them that came in read. -/
import Derived.Test.YtibfcoaiodmimaaOpenG
import Derived.Test.YtibfcoaiodmimaaOpen22
import Derived.Test.YtibfcoaiodmimaaLed1
namespace Go.Proofs.Ytibfcoaiodmimaa
open Go.ChangeShapes Go.WideShapes Go.ChangeAt Go.RowKit Go.Joins Go.Deep

abbrev Stp := Int × Ent × Nm × Nm
def encS (s : Stp) : List Value := [.int .i64 s.1, .int .u64 s.2.1.1.1, .string s.2.1.1.2, .int .i64 s.2.1.2.1, .int .i64 s.2.1.2.2.1, .int .i64 s.2.1.2.2.2, .int .u64 s.2.2.1.1, .string s.2.2.1.2, .int .u64 s.2.2.2.1, .string s.2.2.2.2]
def enc8 (x : Int) : List Value := [.int .u8 x]
section
variable {P : Program} {H : Type} {enc : TypeId × Value → H} {W : World} {base : Nat}
structure NmLaid (P : Program) (t i s : TypeId) : Prop where
  fields : ∃ f0 f1 : Field, P.underlying t = some (.struct #[f0, f1]) ∧ f0.type = i ∧ f0.offset = 0 ∧ f1.type = s ∧ f1.offset = 1
  int : P.underlying i = some (.int .u64)
  str : P.underlying s = some .string
  ci : P.cellsOf i = 1
  cs : P.cellsOf s = 1
  ct : P.cellsOf t = 2
theorem NmLaid.read {t i s : TypeId} (L : NmLaid P t i s) {n : Nat} {a b : Value} {x : DataW H × List MemPlace} (h : DataW.trod enc P W base (fun _ => true) true n t [a, b] = some x) :
    ∃ m : Nm, a = .int .u64 m.1 ∧ b = .string m.2 ∧ m.2.size ≤ maxLen := by
  obtain ⟨f0, f1, hu, t0, o0, t1, o1⟩ := L.fields
  obtain ⟨y0, y1, n', _, _, h0, h1⟩ := trod_struct2 hu h
  rw [t0, o0, L.ci] at h0
  rw [t1, o1, L.cs] at h1
  obtain ⟨j, e0, _⟩ := DataW.trod_int L.int h0
  obtain ⟨u, e1, _, hs⟩ := DataW.trod_string L.str h1
  simp at e0 e1
  exact ⟨(j, u), e0, e1, hs⟩
structure ResLaid (P : Program) (t i e : TypeId) : Prop where
  fields : ∃ f0 f1 : Field, P.underlying t = some (.struct #[f0, f1]) ∧ f0.type = i ∧ f0.offset = 0 ∧ f1.type = e ∧ f1.offset = 1
  int : P.underlying i = some (.int .i64)
  err : P.underlying e = some (.int .i64)
  ci : P.cellsOf i = 1
  cs : P.cellsOf e = 1
  ct : P.cellsOf t = 2
theorem ResLaid.read {t i s : TypeId} (L : ResLaid P t i s) {n : Nat} {a b : Value} {x : DataW H × List MemPlace} (h : DataW.trod enc P W base (fun _ => true) true n t [a, b] = some x) :
    ∃ m : Int × Int, a = .int .i64 m.1 ∧ b = .int .i64 m.2 := by
  obtain ⟨f0, f1, hu, t0, o0, t1, o1⟩ := L.fields
  obtain ⟨y0, y1, n', _, _, h0, h1⟩ := trod_struct2 hu h
  rw [t0, o0, L.ci] at h0
  rw [t1, o1, L.cs] at h1
  obtain ⟨j, e0, _⟩ := DataW.trod_int L.int h0
  obtain ⟨u, e1, _⟩ := DataW.trod_int L.err h1
  simp at e0 e1
  exact ⟨(j, u), e0, e1⟩
structure EntLaid (P : Program) (t nm i s z r i2 er : TypeId) : Prop where
  N : NmLaid P nm i s
  R : ResLaid P r i2 er
  fields : ∃ f0 f1 f2 : Field, P.underlying t = some (.struct #[f0, f1, f2]) ∧ f0.type = nm ∧ f0.offset = 0 ∧ f1.type = z ∧ f1.offset = 2 ∧ f2.type = r ∧ f2.offset = 3
  hz : P.underlying z = some (.int .i64)
  cz : P.cellsOf z = 1
  ct : P.cellsOf t = 5
theorem EntLaid.read {t nm i s z r i2 er : TypeId} (L : EntLaid P t nm i s z r i2 er) {n : Nat} {cs : List Value} {x : DataW H × List MemPlace} (h : DataW.trod enc P W base (fun _ => true) true n t cs = some x) :
    ∃ y : Ent, cs = encE y ∧ y.1.2.size ≤ maxLen := by
  obtain ⟨f0, f1, f2, hu, t0, o0, t1, o1, t2, o2⟩ := L.fields
  obtain ⟨y0, y1, y2, n', _, hl, h0, h1, h2⟩ := trod_struct3 hu h
  rw [L.ct] at hl
  match cs, hl with
  | [a, b, c, d, e], _ =>
    rw [t0, o0, L.N.ct] at h0
    rw [t1, o1, L.cz] at h1
    rw [t2, o2, L.R.ct] at h2
    obtain ⟨m, e0, e1, hm⟩ := L.N.read h0
    obtain ⟨j, e2, _⟩ := DataW.trod_int L.hz h1
    obtain ⟨q, e3, e4⟩ := L.R.read h2
    simp at e2
    exact ⟨(m, j, q), by rw [e0, e1, e2, e3, e4]; rfl, hm⟩
theorem EntLaid.open {t nm i s z r i2 er : TypeId} (L : EntLaid P t nm i s z r i2 er) {v : Value} {d : DataW H} {p : List MemPlace} (hv : Value.okWide P W .any base t v) (h : DataW.Trod enc P W 0 (fun _ => true) true t v d p) :
    ∃ y : Ent, v = evE y ∧ y.1.2.size ≤ maxLen := by
  obtain ⟨f0, f1, f2, hu, _⟩ := L.fields
  obtain ⟨cs, rfl, hsz⟩ := okWide_struct hu hv
  obtain ⟨fuel, hf⟩ := h
  obtain ⟨y, hy, hm⟩ := L.read hf
  refine ⟨y, ?_, hm⟩
  have : cs.toList = encE y := hy
  unfold evE
  congr 1
  rw [← Array.toList_inj]
  exact this
theorem step_read {t en nm i s z r i2 er : TypeId} (L : EntLaid P en nm i s z r i2 er) (hf : ∃ f0 f1 f2 f3 : Field, P.underlying t = some (.struct #[f0, f1, f2, f3]) ∧ f0.type = z ∧ f0.offset = 0 ∧ f1.type = en ∧ f1.offset = 1 ∧ f2.type = nm ∧ f2.offset = 6 ∧ f3.type = nm ∧ f3.offset = 8)
    (ct : P.cellsOf t = 10) {n : Nat} {cs : List Value} {x : DataW H × List MemPlace} (h : DataW.trod enc P W base (fun _ => true) true n t cs = some x) :
    ∃ y : Stp, cs = encS y ∧ (y.2.1.1.2.size ≤ maxLen ∧ y.2.2.1.2.size ≤ maxLen ∧ y.2.2.2.2.size ≤ maxLen) := by
  obtain ⟨f0, f1, f2, f3, hu, t0, o0, t1, o1, t2, o2, t3, o3⟩ := hf
  obtain ⟨y0, y1, y2, y3, n', _, hl, h0, h1, h2, h3⟩ := trod_struct4 hu h
  rw [ct] at hl
  match cs, hl with
  | [a0, a1, a2, a3, a4, a5, a6, a7, a8, a9], _ =>
    rw [t0, o0, L.cz] at h0
    rw [t1, o1, L.ct] at h1
    rw [t2, o2, L.N.ct] at h2
    rw [t3, o3, L.N.ct] at h3
    obtain ⟨j, e0, _⟩ := DataW.trod_int L.hz h0
    obtain ⟨e, e1, he⟩ := L.read h1
    obtain ⟨m, e2, e3, hm⟩ := L.N.read h2
    obtain ⟨q, e4, e5, hq⟩ := L.N.read h3
    simp [encE] at e0 e1
    obtain ⟨k1, k2, k3, k4, k5⟩ := e1
    exact ⟨(j, e, m, q), by rw [e0, k1, k2, k3, k4, k5, e2, e3, e4, e5]; rfl, he, hm, hq⟩
end
theorem entLaid : EntLaid Try.prog 38 25 23 9 3 36 2 29 :=
  ⟨⟨⟨_, _, Try.underlying25, rfl, rfl, rfl, rfl⟩, Try.underlying23, Try.underlying9, by kernel_rfl, by kernel_rfl, by kernel_rfl⟩,
   ⟨⟨_, _, Try.underlying36, rfl, rfl, rfl, rfl⟩, Try.underlying2, Try.underlying29, by kernel_rfl, by kernel_rfl, by kernel_rfl⟩,
   ⟨_, _, _, Try.underlying38, rfl, rfl, rfl, rfl, rfl, rfl⟩, Try.underlying3, by kernel_rfl, by kernel_rfl⟩
section
variable {H : Type} {enc : TypeId × Value → H} {W : World} {base : Nat} {v : Value} {d : DataW H} {p : List MemPlace}
theorem open_ent (hv : Value.okWide Try.prog W .any base 38 v) (h : DataW.Trod enc Try.prog W 0 (fun _ => true) true 38 v d p) :
    ∃ y : Ent, v = evE y ∧ y.1.2.size ≤ maxLen := entLaid.open hv h
set_option maxRecDepth 20000 in
theorem open_steps (hv : Value.okWide Try.prog W .any base 22 v) (h : DataW.Trod enc Try.prog W 0 (fun _ => true) true 22 v d p) :
    ∃ l, ReadsK encS 10 W v l ∧ l.length ≤ maxLen ∧ ∀ x ∈ l, x.2.1.1.2.size ≤ maxLen ∧ x.2.2.1.2.size ≤ maxLen ∧ x.2.2.2.2.size ≤ maxLen :=
  open_K Try.underlying22 (by kernel_rfl) (fun _ => rfl) (by decide)
    (fun _ _ _ h => step_read entLaid ⟨_, _, _, _, Try.underlying40, rfl, rfl, rfl, rfl, rfl, rfl, rfl, rfl⟩ (by kernel_rfl) h) hv h
set_option maxRecDepth 20000 in
theorem open_kids (hv : Value.okWide Try.prog W .any base 47 v) (h : DataW.Trod enc Try.prog W 0 (fun _ => true) true 47 v d p) :
    ∃ l : List Int, ReadsK enc8 1 W v l ∧ l.length ≤ maxLen ∧ ∀ x ∈ l, (Lit.int .u8 x).wf = true :=
  open_K Try.underlying47 (by kernel_rfl) (fun _ => rfl) (by decide)
    (fun _ cs _ h => by
      obtain ⟨j, e0, _, wf⟩ := DataW.trod_int Try.underlying5 h
      exact ⟨j, e0, wf⟩) hv h
end
end Go.Proofs.Ytibfcoaiodmimaa
