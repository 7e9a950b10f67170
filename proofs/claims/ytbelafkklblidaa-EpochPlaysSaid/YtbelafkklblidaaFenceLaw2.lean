/- Who owns a name is granted. -/
import Derived.Test.YtbelafkklblidaaFenceLaw
namespace Go.Proofs.Ytbelafkklblidaa

theorem valU_mem {l : List Gr} {n : Nm} (h : 0 < valU l n) : (n, valU l n) ∈ l := by
  unfold valU getL at *
  cases hf : l.find? (fun p => decide (p.1 = n)) with
  | none => simp [hf] at h
  | some p =>
    have h1 := List.find?_some hf
    have h2 := List.mem_of_find?_eq_some hf
    have h3 : p.1 = n := by simpa using h1
    simp only [hf, Option.map_some, Option.getD_some]
    rw [← h3]; exact h2
theorem ownAt_mem {l : List Gr} {n : Nm} {g : Gr} : ∀ k, ownAt l n k = some g → g ∈ l
  | 0, h => by
    unfold ownAt at h
    split at h
    · rename_i hp; injection h with h; subst h; exact valU_mem hp
    · cases h
  | k + 1, h => by
    unfold ownAt at h
    split at h
    · rename_i hp; injection h with h; subst h; exact valU_mem hp
    · exact ownAt_mem k h
theorem ownG_mem {l : List Gr} {n : Nm} {g : Gr} (h : ownG l n = some g) : g ∈ l := by
  unfold ownG at h
  split at h
  · exact ownAt_mem _ h
  · cases h
/-- A dead epoch allows nothing. -/
theorem DeadInv.no {l D V : List Gr} {last : Int} (h : DeadInv l D V last) {q : Gr} (hq : q ∈ D) (n : Nm) : allowE l n q.2 ≠ 0 := by
  unfold allowE
  split
  · decide
  · split
    · decide
    · rename_i g hg
      rw [if_neg (h.dead g (ownG_mem hg) q hq)]; decide
end Go.Proofs.Ytbelafkklblidaa
