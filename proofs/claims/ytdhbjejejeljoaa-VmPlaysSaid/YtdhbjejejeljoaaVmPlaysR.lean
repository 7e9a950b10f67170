/- VmPlays, over what came in. -/
import Derived.Test.YtdhbjejejeljoaaVmPlays
namespace Go.Proofs.Ytdhbjejejeljoaa
open Go.RowKit Go.Sort Go.Lib

theorem plays_row (v0 v1 v2 : Value) (w : World) (h0 : ∃ u l, v0 = .agg #[u] ∧ ProgIn w u l) (h1 : ∃ t, TaskIn w v1 t) (h2 : ∃ l, ReadsK encSt 4 w v2 l ∧ l.length ≤ maxLen ∧ ∀ x ∈ l, 0 ≤ x.k ∧ x.k ≤ 255) :
    Calls Try.prog 3 #[v0, v1, v2] w fun e w' => e = .returned (.bool true) ∧ Below w.heap.size w w' := by
  obtain ⟨u, p, rfl, hp⟩ := h0
  obtain ⟨t, av, rfl, ha, _, hs⟩ := h1
  obtain ⟨L, hL, hLl, hLb⟩ := h2
  exact plays_any u av v2 p t L w hp ha hL hLb hs hLl
end Go.Proofs.Ytdhbjejejeljoaa
