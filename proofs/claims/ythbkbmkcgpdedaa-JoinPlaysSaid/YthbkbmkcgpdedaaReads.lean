/- Slices that read as lists. -/
import Derived.Test.YthbkbmkcgpdedaaOwnK
import Derived.Test.YthbkbmkcgpdedaaFr
namespace Go.Proofs.Ythbkbmkcgpdedaa
open Go.RowKit Go.Sort

/-- A slice that reads as this list, each element k cells. -/
def ReadsK {α : Type} (enc : α → List Value) (k : Nat) (w : World) (v : Value) (l : List α) : Prop :=
  (l = [] ∧ ∃ a cap, v = .slice a 0 cap) ∨
  ∃ b off cap, v = .slice (some ⟨b, off, none⟩) l.length cap ∧ b < w.heap.size ∧ ∀ i (h : i < l.length) t u, (enc l[i])[t]? = some u → w.cell? ⟨b, off + (i * k + t), none⟩ = some u
theorem ReadsK.slice {α : Type} {enc : α → List Value} {k : Nat} {w : World} {v : Value} {l : List α} (h : ReadsK enc k w v l) : ∃ a cap, v = .slice a l.length cap := by
  rcases h with ⟨rfl, a, cap, rfl⟩ | ⟨b, off, cap, rfl, _⟩ <;> exact ⟨_, _, rfl⟩
theorem ReadsK.below {α : Type} {enc : α → List Value} {k : Nat} {w w' : World} {v : Value} {l : List α} (h : ReadsK enc k w v l) (hB : Below w.heap.size w w') : ReadsK enc k w' v l := by
  rcases h with h | ⟨b, off, cap, hv, hb, hc⟩
  · exact .inl h
  · exact .inr ⟨b, off, cap, hv, Nat.lt_of_lt_of_le hb hB.size, fun i hi t u hu => (hB.cell (p := ⟨b, off + (i * k + t), none⟩) hb).trans (hc i hi t u hu)⟩
theorem ReadsK.at {α : Type} {enc : α → List Value} {k : Nat} {w : World} {v : Value} {l : List α} (h : ReadsK enc k w v l) (hl : 0 < l.length) :
    ∃ b off cap, v = .slice (some ⟨b, off, none⟩) l.length cap ∧ b < w.heap.size ∧ ∀ i (h : i < l.length) t u, (enc l[i])[t]? = some u → w.cell? ⟨b, off + (i * k + t), none⟩ = some u := by
  rcases h with ⟨rfl, _⟩ | h
  · simp at hl
  · exact h

theorem own_readsK {α : Type} {enc : α → List Value} {k : Nat} (hk : ∀ x, (enc x).length = k) (h0 : 0 < k) {w : World} {B : Nat} {E : TypeId} {v : Value} {l : List α} (h : w.ownsRow B E k v l.length (l.flatMap enc)) : ReadsK enc k w v l := by
  by_cases hn : l.length = 0
  · obtain ⟨_, ⟨rfl, _⟩ | ⟨g, cap, cur, rfl, _⟩⟩ := h
    · exact .inl ⟨List.length_eq_zero_iff.1 hn, _, _, rfl⟩
    · exact .inl ⟨List.length_eq_zero_iff.1 hn, some ⟨g, 0, none⟩, cap, by rw [hn]⟩
  · obtain ⟨g, cap, cur, rfl, _, hg, hb, _, _, hsz, ht⟩ := own_blockK h hn
    refine .inr ⟨g, 0, cap, rfl, hg, fun i hi t u hu => ?_⟩
    have ht' : t < k := by have := (List.getElem?_eq_some_iff.1 hu).1; rwa [hk] at this
    have hlt : i * k + t < l.length * k := by
      have : (i + 1) * k ≤ l.length * k := Nat.mul_le_mul_right k hi
      rw [Nat.succ_mul] at this; omega
    have h2 := flat_get hk h0 l (i * k + t) hlt
    have e1 : (i * k + t) / k = i := by rw [Nat.mul_comm, Nat.mul_add_div h0, Nat.div_eq_of_lt ht', Nat.add_zero]
    have e2 : (i * k + t) % k = t := by rw [Nat.mul_comm, Nat.mul_add_mod, Nat.mod_eq_of_lt ht']
    have h3 : (cur.toList.take (l.length * k))[i * k + t]? = some u := by
      rw [ht, List.getElem?_eq_getElem (by rw [flat_len hk]; exact hlt), h2]
      simp only [e1, e2]
      obtain ⟨_, h4⟩ := List.getElem?_eq_some_iff.1 hu
      rw [h4]
    rw [List.getElem?_take_of_lt hlt, Array.getElem?_toList] at h3
    simp [World.cell?, hb, h3]

theorem ReadsK.fr {α : Type} {enc : α → List Value} {k : Nat} {w w' : World} {v : Value} {l : List α} {S : Nat → Prop} (h : ReadsK enc k w v l) (hF : Fr S w w') (hs : ∀ a n c, v = .slice (some a) n c → ¬ S a.block) : ReadsK enc k w' v l := by
  rcases h with h | ⟨b, off, cap, hv, hb, hc⟩
  · exact .inl h
  · exact .inr ⟨b, off, cap, hv, Nat.lt_of_lt_of_le hb hF.size, fun i hi t u hu => (hF.cell (p := ⟨b, off + (i * k + t), none⟩) hb (hs ⟨b, off, none⟩ _ _ hv)).trans (hc i hi t u hu)⟩
theorem own_readsV {α : Type} {enc : α → Value} {w : World} {B : Nat} {E : TypeId} {v : Value} {l : List α} (h : w.ownsRow B E 1 v l.length (l.map enc)) : ReadsK (fun x => [enc x]) 1 w v l :=
  own_readsK (enc := fun x => [enc x]) (k := 1) (fun _ => rfl) (by decide) (by rw [List.map_eq_flatMap] at h; exact h)
end Go.Proofs.Ythbkbmkcgpdedaa
