/- Several slices of the call's own side by side (the part that needs no program). -/
import Derived.Test.YthbkbmkcgpdedaaFr
import Derived.Test.YthbkbmkcgpdedaaOwnK
import Derived.Deep.AppendLies
namespace Go.Proofs.Ythbkbmkcgpdedaa
open Go.RowKit Go.Sort

/-- Two slices that lie in no common block. -/
def Apart (u v : Value) : Prop := ∀ b, u.ownBlock = some b → v.ownBlock ≠ some b
theorem Apart.symm {u v : Value} (h : Apart u v) : Apart v u := fun b hb hu => h b hu hb
theorem Apart.nil {v : Value} : Apart (.slice none 0 0) v := fun b hb => by cases hb

section
variable {w w' : World} {B : Nat} {E : TypeId} {size : Nat} {v : Value} {n : Nat} {xs : List Value}
theorem own_far (h : w.ownsRow B E size v n xs) (hb : ∀ i, v.ownBlock = some i → w'.heap[i]? = w.heap[i]?) : w'.ownsRow B E size v n xs := by
  obtain ⟨h0, h | ⟨g, cap, cur, rfl, h1, h2, h3⟩⟩ := h
  · exact ⟨h0, .inl h⟩
  · exact ⟨h0, .inr ⟨g, cap, cur, rfl, h1, (hb g rfl).trans h2, h3⟩⟩
theorem own_fr {S : Nat → Prop} (h : w.ownsRow B E size v n xs) (hF : Fr S w w') (hs : ∀ i, v.ownBlock = some i → ¬ S i) : w'.ownsRow B E size v n xs :=
  own_far h fun i hi => hF.block i (h.lt i hi).2 (hs i hi)
theorem own_below (h : w.ownsRow B E size v n xs) (hB : Below w.heap.size w w') : w'.ownsRow B E size v n xs :=
  own_far h fun i hi => hB.block i (h.lt i hi).2
/-- An append to a slice of the call's own, its argument laid ahead of it. -/
theorem grow_fr {w1 : World} {row : Option Nat} (hB : Below w.heap.size w w1) (hg : w1.grownBy w' row) : Fr (fun i => some i = row) w w' :=
  ⟨hg.os.trans hB.os, hg.tape.trans hB.tape, hg.output.trans hB.output, Nat.le_trans hB.size hg.size,
    fun k hk hs => (hg.block k (Nat.lt_of_lt_of_le hk hB.size) hs).trans (hB.block k hk)⟩
/-- Where the longer slice lies. -/
def Stays (w : World) (v v' : Value) : Prop := ∃ g, v'.ownBlock = some g ∧ (v.ownBlock = some g ∨ w.heap.size ≤ g)
theorem Stays.apart {v' u : Value} (h : Stays w v v') (ha : Apart u v) (hu : ∀ b, u.ownBlock = some b → b < w.heap.size) : Apart u v' := by
  obtain ⟨g, hg, h⟩ := h
  intro b hb e
  rw [hg] at e; injection e with e; subst e
  rcases h with h | h
  · exact ha _ hb h
  · have := hu _ hb; omega
theorem Stays.ne {v' : Value} {s : Nat} (h : Stays w v v') (hs : v.ownBlock ≠ some s) (hl : s < w.heap.size) : v'.ownBlock ≠ some s := by
  obtain ⟨g, hg, h⟩ := h
  intro e
  rw [hg] at e; injection e with e; subst e
  rcases h with h | h
  · exact hs h
  · omega
end

theorem owns_monoG {w : World} {B B' : Nat} {E : TypeId} {size : Nat} {v : Value} {n : Nat} {xs : List Value} (h : w.ownsRow B E size v n xs) (hb : B' ≤ B) : w.ownsRow B' E size v n xs := by
  obtain ⟨h0, h | ⟨g, cap, cur, hv, h1, h2⟩⟩ := h
  · exact ⟨h0, .inl h⟩
  · exact ⟨h0, .inr ⟨g, cap, cur, hv, Nat.le_trans hb h1, h2⟩⟩
end Go.Proofs.Ythbkbmkcgpdedaa
