/- Contracts of package thresherref12: Parent, Last, Under, Compare, Common. -/
import Derived.Test.YtdhbjejejeljoaaGreatBranch3
import Derived.Deep.QuietTactic
import Derived.BigQuiet
namespace Go.Proofs.YtdhbjejejeljoaaGreat
open Go.RowKit




/-- Nothing but draws. -/
def Drew (w w' : World) : Prop := ∃ n, w' = w.drewN n
theorem Drew.refl (w : World) : Drew w w := ⟨0, rfl⟩
theorem Drew.drewN {w w' : World} (h : Drew w w') (n : Nat) : Drew w (w'.drewN n) := by
  obtain ⟨m, rfl⟩ := h; exact ⟨m + n, World.drewN_drewN _ _ _⟩
theorem Drew.below {w w' : World} (h : Drew w w') : Below w.heap.size w w' := by
  obtain ⟨n, rfl⟩ := h; exact below_drewN (Below.refl _ _) n

theorem getbl (s : ByteArray) (k : Nat) (h : k < s.size) : s.data.toList[k]'(by simpa using h) = s[k] := rfl


theorem commonS_take {a b : ByteArray} {k : Nat} (h1 : mayS a = true) (h2 : mayS b = true) (h : lcp a.data.toList b.data.toList = a.data.toList.take k) : a.extract 0 k = commonS a b := by
  unfold commonS; rw [h1, h2, Bool.and_self, if_pos rfl, h, Lib.extract_eq]; simp

end Go.Proofs.YtdhbjejejeljoaaGreat
