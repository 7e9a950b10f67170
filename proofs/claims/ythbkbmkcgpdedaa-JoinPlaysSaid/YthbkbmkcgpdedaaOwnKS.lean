/- Slices of the call's own whose elements take several cells each, behind a sort. -/
import Derived.Test.YthbkbmkcgpdedaaOwnK
import Derived.Shelf.SlSortCmp.WholeK
namespace Go.Proofs.Ythbkbmkcgpdedaa
open Go.RowKit Go.Sort Go.Shelf

section
variable {α : Type} {enc : α → List Value} {k : Nat}
variable [Inhabited α]
theorem flatK_list (hk : ∀ x, (enc x).length = k) (h0 : 0 < k) (l : List α) : (flatK enc k l.toArray).toList = l.flatMap enc := by
  apply List.ext_getElem
  · rw [flat_len hk]; simp
  · intro t h1 h2
    have ht : t < l.length * k := by simpa using h1
    rw [flat_get hk h0 l t ht]
    have hd : t / k < l.length := by rw [Nat.div_lt_iff_lt_mul h0]; exact ht
    have hm : t % k < (enc l[t / k]).length := by rw [hk]; exact Nat.mod_lt _ h0
    simp [flatK, hd, hm]

variable {w : World} {B : Nat} {E : TypeId}
theorem holds_ownK (hk : ∀ x, (enc x).length = k) (h0 : 0 < k) {g : Nat} {cur : Array Value} {l : List α} (hg : w.heap[g]? = some (.cells cur E (0, 0))) (h4 : cur.toList.take (l.length * k) = l.flatMap enc) : HoldsK enc k w g 0 l.toArray := by
  unfold HoldsK
  have e : flatK enc k l.toArray = (l.flatMap enc).toArray := by rw [← flatK_list hk h0 l]
  rw [e]
  refine holds_own (enc := id) hg ?_
  rw [flat_len hk, h4]; simp

theorem own_sortedK (hk : ∀ x, (enc x).length = k) (h0 : 0 < k) {g cap n : Nat} {os : Array Obj} {cur : Array Value} {ss : List α} {d : Array α} (hl : d.size = ss.length) (hbase : B ≤ g) (hb : w.heap[g]? = some (.cells cur E (0, 0)))
    (h1 : ss.length ≤ cap) (h2 : cap ≤ maxLen) (h3 : cur.size = cap * k) :
    (sortWorldK enc k w g 0 n d os).ownsRow B E k (.slice (some ⟨g, 0, none⟩) ss.length cap) ss.length (d.toList.flatMap enc) := by
  have e : flatK enc k d = (d.toList.flatMap enc).toArray := by
    have := flatK_list hk h0 d.toList
    rw [← this]
  have hle : ss.length * k ≤ cap * k := Nat.mul_le_mul_right k h1
  refine ⟨by rw [flat_len hk]; simp [hl], .inr ⟨g, cap, _, rfl, hbase, heap_sorted' (enc := id) (flatK enc k d) hb, h1, h2, by simp [putCells, h3], ?_⟩⟩
  rw [e]
  have := take_put (enc := id) cur (d.toList.flatMap enc) (by rw [flat_len hk]; simp only [Array.length_toList]; rw [hl, h3]; exact hle)
  rw [flat_len hk] at this
  simp only [Array.length_toList, hl] at this
  simpa using this

theorem sortK_below {g n : Nat} {os : Array Obj} {d : Array α} (hbase : B ≤ g) (hB : B ≤ w.heap.size) : Below B w (sortWorldK enc k w g 0 n d os) := by
  have G := grownBy_sorted' (enc := id) (w := w) (g := g) (n := n) (os := os) (flatK enc k d)
  exact ⟨G.os, G.tape, G.output, G.size, fun i hi => G.block i (by omega) (by intro e; injection e with e; omega)⟩
end
end Go.Proofs.Ythbkbmkcgpdedaa
