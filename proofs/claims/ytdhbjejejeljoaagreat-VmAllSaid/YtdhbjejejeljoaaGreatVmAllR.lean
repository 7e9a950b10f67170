/- VmAll, over what came in. -/
import Derived.Test.YtdhbjejejeljoaaGreatVmAll
namespace Go.Proofs.YtdhbjejejeljoaaGreat
open Go.ChangeShapes Go.WideShapes Go.ChangeAt Go.RowKit Go.Joins Go.Deep

section
variable {H : Type} {enc : TypeId × Value → H} {W : World} {base : Nat} {v : Value} {d : DataW H} {p : List MemPlace}
set_option maxRecDepth 20000 in
theorem open_picks (hv : Value.okWide Tryz.prog W .any base 26 v) (h : DataW.Trod enc Tryz.prog W 0 (fun _ => true) true 26 v d p) : ∃ l : List Int, ReadsK encU 1 W v l ∧ l.length ≤ maxLen ∧ ∀ x ∈ l, 0 ≤ x ∧ x ≤ 65535 := by
  obtain ⟨l, h1, h2, h3⟩ := open_K (enc := encU) (k := 1) (Q := fun x : Int => 0 ≤ x ∧ x ≤ 65535) Tryz.underlying26 (by kernel_rfl) (fun _ => rfl) (by decide)
    (fun _ _ _ h => by
      obtain ⟨j, e0, _, hw⟩ := DataW.trod_int Tryz.underlying47 h
      refine ⟨j, e0, ?_⟩
      have h1 : IntKind.u16.min = 0 := rfl
      have h2 : IntKind.u16.max = 65535 := rfl
      simp [Lit.wf] at hw
      omega) hv h
  exact ⟨l, h1, h2, h3⟩
end
theorem all_row (v0 v1 : Value) (fuel : Int) (v3 : Value) (w : World) (h0 : ∃ u l, v0 = .agg #[u] ∧ ProgIn w u l) (h1 : ∃ l, ReadsK encN1 1 w v1 l ∧ l.length ≤ maxLen) (_ : (Lit.int .i64 fuel).wf = true) (h3 : ∃ l : List Int, ReadsK encU 1 w v3 l ∧ l.length ≤ maxLen ∧ ∀ x ∈ l, 0 ≤ x ∧ x ≤ 65535) :
    Calls Tryz.prog 3 #[v0, v1, .int .i64 fuel, v3] w fun e w' => e = .returned (.bool true) ∧ Below w.heap.size w w' := by
  obtain ⟨u, p, rfl, hp⟩ := h0
  obtain ⟨I, hI, hIl⟩ := h1
  obtain ⟨P, hP, hPl, hPb⟩ := h3
  exact all_any u v1 v3 p I fuel P w hp hI hP hPb hIl hPl
end Go.Proofs.YtdhbjejejeljoaaGreat
