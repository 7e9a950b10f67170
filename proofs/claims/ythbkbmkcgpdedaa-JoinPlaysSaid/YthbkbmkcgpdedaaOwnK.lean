/- Slices of the call's own whose elements take several cells each. -/
import Derived.Test.YthbkbmkcgpdedaaOwn
namespace Go.Proofs.Ythbkbmkcgpdedaa
open Go.RowKit Go.Sort

section
variable {α : Type} {enc : α → List Value} {k : Nat}

theorem flat_len (hk : ∀ x, (enc x).length = k) : ∀ l : List α, (l.flatMap enc).length = l.length * k
  | [] => by simp
  | x :: l => by rw [List.flatMap_cons, List.length_append, hk, flat_len hk l, List.length_cons, Nat.succ_mul, Nat.add_comm]
theorem flat_get (hk : ∀ x, (enc x).length = k) (h0 : 0 < k) : ∀ (l : List α) (t : Nat) (h : t < l.length * k), (l.flatMap enc)[t]'(by rw [flat_len hk]; exact h) = (enc (l[t / k]'(by rw [Nat.div_lt_iff_lt_mul h0]; exact h)))[t % k]'(by rw [hk]; exact Nat.mod_lt _ h0)
  | [], t, h => by simp at h
  | x :: l, t, h => by
    simp only [List.flatMap_cons]
    by_cases ht : t < k
    · rw [List.getElem_append_left (by rw [hk]; exact ht)]
      simp [Nat.div_eq_of_lt ht, Nat.mod_eq_of_lt ht]
    · rw [List.getElem_append_right (by rw [hk]; omega)]
      have e1 : t / k = (t - k) / k + 1 := by
        have : t = (t - k) + k := by omega
        conv => lhs; rw [this]
        rw [Nat.add_div_right _ h0]
      have e2 : (t - k) % k = t % k := by
        have : t = (t - k) + k := by omega
        conv => rhs; rw [this]
        rw [Nat.add_mod_right]
      have hlt : t - k < l.length * k := by simp only [List.length_cons, Nat.succ_mul] at h; omega
      have ih := flat_get hk h0 l (t - k) hlt
      simp only [hk, e1, List.getElem_cons_succ]
      rw [ih]
      simp only [e2]

variable {w : World} {B : Nat} {E : TypeId}

theorem own_blockK {v : Value} {n : Nat} {xs : List Value} (h : w.ownsRow B E k v n xs) (hn : n ≠ 0) :
    ∃ g cap cur, v = .slice (some ⟨g, 0, none⟩) n cap ∧ B ≤ g ∧ g < w.heap.size ∧ w.heap[g]? = some (.cells cur E (0, 0)) ∧ n ≤ cap ∧ cap ≤ maxLen ∧ cur.size = cap * k ∧ cur.toList.take (n * k) = xs := by
  obtain ⟨_, ⟨_, h⟩ | ⟨g, cap, cur, hv, hb, hg, h1, h2, h3, h4⟩⟩ := h
  · exact absurd h hn
  · exact ⟨g, cap, cur, hv, hb, (Array.getElem?_eq_some_iff.1 hg).1, hg, h1, h2, h3, h4⟩

end
end Go.Proofs.Ythbkbmkcgpdedaa
