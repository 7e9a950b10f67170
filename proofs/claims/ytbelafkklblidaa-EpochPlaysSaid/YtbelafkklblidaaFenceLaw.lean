/- The plain law of EpochFences: what is dead stays dead. -/
import Derived.Test.YtbelafkklblidaaEpoch12
namespace Go.Proofs.Ytbelafkklblidaa

/-- l: what is granted; D: what was granted ahead of a later grant of the same root; V: the latest grants. -/
structure DeadInv (l D V : List Gr) (last : Int) : Prop where
  le : ∀ p ∈ l, p.2 ≤ last
  dle : ∀ p ∈ D, p.2 ≤ last
  vle : ∀ p ∈ V, p.2 ≤ last
  dead : ∀ p ∈ l, ∀ q ∈ D, p.2 ≠ q.2
  live : ∀ p ∈ l, ∀ q ∈ V, p.2 = q.2 → p.1 = q.1
theorem DeadInv.start : DeadInv [] [] [] 0 := ⟨by simp, by simp, by simp, by simp, by simp⟩
theorem DeadInv.sub {l l' D V : List Gr} {last : Int} (h : DeadInv l D V last) (hs : ∀ p ∈ l', p ∈ l) : DeadInv l' D V last :=
  ⟨fun p hp => h.le p (hs p hp), h.dle, h.vle, fun p hp => h.dead p (hs p hp), fun p hp => h.live p (hs p hp)⟩
theorem putL_mem {l : List Gr} {n : Nm} {v : Int} {p : Gr} (h : p ∈ putL l n v) : p = (n, v) ∨ (p ∈ l ∧ p.1 ≠ n) := by
  unfold putL at h
  split at h
  · obtain ⟨q, hq, he⟩ := List.mem_map.1 h
    split at he
    · exact .inl he.symm
    · rename_i hn; subst he; exact .inr ⟨hq, hn⟩
  · rename_i hn
    rw [List.mem_append] at h
    rcases h with h | h
    · refine .inr ⟨h, fun e => hn ?_⟩
      rw [List.any_eq_true]; exact ⟨p, h, by simp [e]⟩
    · simp at h; exact .inl h
theorem DeadInv.grant {l D V D' V' : List Gr} {last : Int} {n : Nm} (h : DeadInv l D V last) (hD : ∀ q ∈ D', q ∈ D ∨ (q ∈ V ∧ q.1 = n)) (hV : ∀ q ∈ V', q ∈ V ∨ q = (n, last + 1)) :
    DeadInv (putL l n (last + 1)) D' V' (last + 1) := by
  have dle : ∀ q ∈ D', q.2 ≤ last := fun q hq => by
    rcases hD q hq with hq | ⟨hq, _⟩
    · exact h.dle q hq
    · exact h.vle q hq
  refine ⟨?_, fun q hq => by have := dle q hq; omega, ?_, ?_, ?_⟩
  · intro p hp
    rcases putL_mem hp with rfl | ⟨hp, _⟩
    · exact Int.le_refl _
    · have := h.le p hp; omega
  · intro q hq
    rcases hV q hq with hq | rfl
    · have := h.vle q hq; omega
    · exact Int.le_refl _
  · intro p hp q hq
    rcases putL_mem hp with rfl | ⟨hp, hn⟩
    · have := dle q hq; simp only; omega
    · rcases hD q hq with hq | ⟨hq, hqn⟩
      · exact h.dead p hp q hq
      · intro e; exact hn ((h.live p hp q hq e).trans hqn)
  · intro p hp q hq e
    rcases putL_mem hp with rfl | ⟨hp, hn⟩
    · rcases hV q hq with hq | rfl
      · have := h.vle q hq; simp only at e; omega
      · rfl
    · rcases hV q hq with hq | rfl
      · exact h.live p hp q hq e
      · have := h.le p hp; simp only at e; omega
end Go.Proofs.Ytbelafkklblidaa
