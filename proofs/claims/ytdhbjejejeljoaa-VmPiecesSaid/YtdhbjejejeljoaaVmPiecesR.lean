/- VmPieces, over what came in. -/
import Derived.Test.YtdhbjejejeljoaaVmPieces
namespace Go.Proofs.Ytdhbjejejeljoaa
open Go.RowKit Go.Sort Go.Lib

theorem pieces_row (v0 v1 v2 v3 : Value) (w : World) (h0 : ∃ u l, v0 = .agg #[u] ∧ ProgIn w u l) (h1 : ∃ t, TaskIn w v1 t) (h2 : ∃ l : List Int, ReadsK (fun x => [Value.int .u8 x]) 1 w v2 l ∧ l.length ≤ maxLen ∧ ∀ x ∈ l, 0 ≤ x ∧ x ≤ 255) (h3 : ∃ l, ReadsK encN1 1 w v3 l ∧ l.length ≤ maxLen) :
    Calls Try.prog 5 #[v0, v1, v2, v3] w fun e w' => e = .returned (.bool true) ∧ Below w.heap.size w w' := by
  obtain ⟨u, p, rfl, hp⟩ := h0
  obtain ⟨t, av, rfl, ha, _, hs⟩ := h1
  obtain ⟨P, hP, hPl, hPb⟩ := h2
  obtain ⟨G, hG, hGl⟩ := h3
  exact pieces_any u av v2 v3 p t P G w hp ha hP hPb hG hs hPl hGl
end Go.Proofs.Ytdhbjejejeljoaa
