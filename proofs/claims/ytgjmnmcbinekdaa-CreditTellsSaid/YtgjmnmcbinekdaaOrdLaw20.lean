/- Credits: what is left, and the other one, are the one again; the order of summands makes no difference. -/
import Derived.Test.YtgjmnmcbinekdaaCred12
namespace Go.Proofs.Ytgjmnmcbinekdaa
open Go.RowKit Go.Sort Go.Lib

theorem cmpC_swap {a b : List Int} (ha : mayC a = true) (hb : mayC b = true) : (cmpC a b = 0 ∧ cmpC b a = 0) ∨ (cmpC a b = 1 ∧ cmpC b a = -1) ∨ (cmpC a b = -1 ∧ cmpC b a = 1) := by
  rcases cmpC_val ha hb with ⟨h, h'⟩ | ⟨h, h'⟩ | ⟨h, h'⟩ <;> rcases cmpC_val hb ha with ⟨g, g'⟩ | ⟨g, g'⟩ | ⟨g, g'⟩
  · exact .inl ⟨h, g⟩
  · rw [h'] at g'; omega
  · rw [h'] at g'; omega
  · rw [g'] at h'; omega
  · omega
  · exact .inr (.inl ⟨h, g⟩)
  · rw [g'] at h'; omega
  · exact .inr (.inr ⟨h, g⟩)
  · omega
theorem cmpC_ge {a b : List Int} (ha : mayC a = true) (hb : mayC b = true) (h : ¬ cmpC a b < 0) : vC b ≤ vC a := by
  rcases cmpC_val ha hb with ⟨_, h'⟩ | ⟨_, h'⟩ | ⟨h1, h'⟩
  · rw [h']; exact Nat.le_refl _
  · omega
  · rw [h1] at h; omega
theorem sub_left {a b : List Int} (ha : mayC a = true) (hb : mayC b = true) (h : ¬ cmpC a b < 0) : mayC (subL a b) = true ∧ vC (subL a b) + vC b = vC a ∧ SC (subL a b) := by
  obtain ⟨h1, h2⟩ := subL_ok b (mayC_sc ha) (mayC_sc hb).2 (cmpC_ge ha hb h)
  exact ⟨sc_may h1 (by have := may_le ha; omega), h2, h1⟩
theorem sub_none {a b : List Int} (ha : mayC a = true) (hb : mayC b = true) (h : cmpC a b = 0) : subL a b = [] := by
  have h1 := sub_left ha hb (by omega)
  rcases cmpC_val ha hb with ⟨_, h'⟩ | ⟨h2, _⟩ | ⟨h2, _⟩
  · subst h'
    cases hl : subL a a with
    | nil => rfl
    | cons x l => have := vC_pos (l := subL a a) (by rw [hl]; simp); omega
  · omega
  · omega
theorem sub_some {a b : List Int} (ha : mayC a = true) (hb : mayC b = true) (h : cmpC a b = 1) : subL a b ≠ [] := by
  have h1 := sub_left ha hb (by omega)
  intro e
  rcases cmpC_val ha hb with ⟨h2, _⟩ | ⟨_, h'⟩ | ⟨h2, _⟩
  · omega
  · rw [e] at h1
    have := h1.2.1
    change 0 + _ = _ at this
    omega
  · omega
theorem sub_back {a b : List Int} (ha : mayC a = true) (hb : mayC b = true) (h : ¬ cmpC a b < 0) : addL [b, subL a b] = (0, a) := by
  obtain ⟨h1, h2, _⟩ := sub_left ha hb h
  obtain ⟨r, h3, h4, h5⟩ := addL_two hb h1 (by have := may_le ha; omega)
  rw [h3, vC_inj (mayC_sc h4) (mayC_sc ha) (by omega)]
theorem add_turn {a b c : List Int} (ha : mayC a = true) (hb : mayC b = true) (hc : mayC c = true) : addL [c, a, b] = addL [a, b, c] := by
  refine addL_same ?_ ?_ ?_
  · intro l hl; simp at hl; rcases hl with rfl | rfl | rfl <;> assumption
  · intro l hl; simp at hl; rcases hl with rfl | rfl | rfl <;> assumption
  · simp; omega
theorem add_step {a b c : List Int} (ha : mayC a = true) (hb : mayC b = true) (hc : mayC c = true) :
    (∃ m, addL [a, b] = (0, m) ∧ m.length ≤ 4097 ∧ addL [m, c] = addL [a, b, c]) ∨ addL [a, b] = (9, []) := by
  by_cases hv : vC a + vC b ≤ pw 0
  · obtain ⟨m, h1, h2, h3⟩ := addL_two ha hb hv
    refine .inl ⟨m, h1, (mayC_sc h2).len, addL_same ?_ ?_ ?_⟩
    · intro l hl; simp at hl; rcases hl with rfl | rfl <;> assumption
    · intro l hl; simp at hl; rcases hl with rfl | rfl | rfl <;> assumption
    · simp [h3]; omega
  · refine .inr (addL_over ?_ ?_)
    · intro l hl; simp at hl; rcases hl with rfl | rfl <;> assumption
    · simpa using Nat.lt_of_not_le hv
theorem addL_len (L : List (List Int)) : (addL L).2.length ≤ 4097 := by
  unfold addL
  split
  · unfold finL
    split
    · simp
    · split
      · rename_i h
        exact (mayC_sc h).len
      · simp
  · simp
theorem subA_lt {a b : List Int} (ha : mayC a = true) (hb : mayC b = true) (h : cmpC a b < 0) : subA a b = (9, []) := by unfold subA; rw [ha, hb]; simp [h]
theorem subA_ge {a b : List Int} (ha : mayC a = true) (hb : mayC b = true) (h : ¬ cmpC a b < 0) : subA a b = (0, subL a b) := by unfold subA; rw [ha, hb]; simp [h]
end Go.Proofs.Ytgjmnmcbinekdaa
