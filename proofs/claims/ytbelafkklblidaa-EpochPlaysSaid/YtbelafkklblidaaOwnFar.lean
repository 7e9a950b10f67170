/- Several slices of the call's own side by side: what an append to one leaves of the others. -/
import Derived.Test.YtbelafkklblidaaOpenK22
import Derived.Deep.AppendLies
namespace Go.Proofs.Ytbelafkklblidaa
open Go.RowKit Go.Sort

/-- Two slices that lie in no common block. -/
def Apart (u v : Value) : Prop := ∀ b, u.ownBlock = some b → v.ownBlock ≠ some b
theorem Apart.symm {u v : Value} (h : Apart u v) : Apart v u := fun b hb hu => h b hu hb
theorem Apart.nil {v : Value} : Apart (.slice none 0 0) v := fun b hb => by cases hb

section
variable {w w' : World} {B : Nat} {E : TypeId} {size : Nat} {v : Value} {n : Nat} {xs : List Value}
theorem own_far (h : w.ownsRow B E size v n xs) (hb : ∀ i, v.ownBlock = some i → w'.heap[i]? = w.heap[i]?) : w'.ownsRow B E size v n xs := by
  obtain ⟨h0, h | ⟨g, cap, cur, rfl, h1, h2, h3⟩⟩ := h
  · exact ⟨h0, .inl h⟩
  · exact ⟨h0, .inr ⟨g, cap, cur, rfl, h1, (hb g rfl).trans h2, h3⟩⟩
theorem own_fr {S : Nat → Prop} (h : w.ownsRow B E size v n xs) (hF : Fr S w w') (hs : ∀ i, v.ownBlock = some i → ¬ S i) : w'.ownsRow B E size v n xs :=
  own_far h fun i hi => hF.block i (h.lt i hi).2 (hs i hi)
theorem own_below (h : w.ownsRow B E size v n xs) (hB : Below w.heap.size w w') : w'.ownsRow B E size v n xs :=
  own_far h fun i hi => hB.block i (h.lt i hi).2
/-- An append to a slice of the call's own, its argument laid ahead of it. -/
theorem grow_fr {w1 : World} {row : Option Nat} (hB : Below w.heap.size w w1) (hg : w1.grownBy w' row) : Fr (fun i => some i = row) w w' :=
  ⟨hg.os.trans hB.os, hg.tape.trans hB.tape, hg.output.trans hB.output, Nat.le_trans hB.size hg.size,
    fun k hk hs => (hg.block k (Nat.lt_of_lt_of_le hk hB.size) hs).trans (hB.block k hk)⟩
/-- Where the longer slice lies. -/
def Stays (w : World) (v v' : Value) : Prop := ∃ g, v'.ownBlock = some g ∧ (v.ownBlock = some g ∨ w.heap.size ≤ g)
theorem Stays.apart {v' u : Value} (h : Stays w v v') (ha : Apart u v) (hu : ∀ b, u.ownBlock = some b → b < w.heap.size) : Apart u v' := by
  obtain ⟨g, hg, h⟩ := h
  intro b hb e
  rw [hg] at e; injection e with e; subst e
  rcases h with h | h
  · exact ha _ hb h
  · have := hu _ hb; omega
theorem Stays.ne {v' : Value} {s : Nat} (h : Stays w v v') (hs : v.ownBlock ≠ some s) (hl : s < w.heap.size) : v'.ownBlock ≠ some s := by
  obtain ⟨g, hg, h⟩ := h
  intro e
  rw [hg] at e; injection e with e; subst e
  rcases h with h | h
  · exact hs h
  · omega
end

theorem own_readsK {α : Type} {enc : α → List Value} {k : Nat} (hk : ∀ x, (enc x).length = k) (h0 : 0 < k) {w : World} {B : Nat} {E : TypeId} {v : Value} {l : List α} (h : w.ownsRow B E k v l.length (l.flatMap enc)) : ReadsK enc k w v l := by
  by_cases hn : l.length = 0
  · obtain ⟨_, ⟨rfl, _⟩ | ⟨g, cap, cur, rfl, _⟩⟩ := h
    · exact .inl ⟨List.length_eq_zero_iff.1 hn, _, _, rfl⟩
    · exact .inl ⟨List.length_eq_zero_iff.1 hn, some ⟨g, 0, none⟩, cap, by rw [hn]⟩
  · obtain ⟨g, cap, cur, rfl, _, hg, hb, _, _, hsz, ht⟩ := own_blockK h hn
    refine .inr ⟨g, 0, cap, rfl, hg, fun i hi t u hu => ?_⟩
    have ht' : t < k := by have := (List.getElem?_eq_some_iff.1 hu).1; rwa [hk] at this
    have hlt : i * k + t < l.length * k := by
      have : (i + 1) * k ≤ l.length * k := Nat.mul_le_mul_right k hi
      rw [Nat.succ_mul] at this; omega
    have h2 := flat_get hk h0 l (i * k + t) hlt
    have e1 : (i * k + t) / k = i := by rw [Nat.mul_comm, Nat.mul_add_div h0, Nat.div_eq_of_lt ht', Nat.add_zero]
    have e2 : (i * k + t) % k = t := by rw [Nat.mul_comm, Nat.mul_add_mod, Nat.mod_eq_of_lt ht']
    have h3 : (cur.toList.take (l.length * k))[i * k + t]? = some u := by
      rw [ht, List.getElem?_eq_getElem (by rw [flat_len hk]; exact hlt), h2]
      simp only [e1, e2]
      obtain ⟨_, h4⟩ := List.getElem?_eq_some_iff.1 hu
      rw [h4]
    rw [List.getElem?_take_of_lt hlt, Array.getElem?_toList] at h3
    simp [World.cell?, hb, h3]
end Go.Proofs.Ytbelafkklblidaa
