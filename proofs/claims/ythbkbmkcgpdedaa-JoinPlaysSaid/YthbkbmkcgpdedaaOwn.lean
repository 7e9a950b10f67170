/- Slices of the call's own whose elements are one cell each: what they hold, behind a sort too. -/
import Derived.Test.YthbkbmkcgpdedaaRows
import Derived.WalkKit
import Derived.WalkSpells
import Derived.WalkLawsBesides
import Derived.Lib.Hide
import Derived.Sort.OwnSorted
namespace Go.Proofs.Ythbkbmkcgpdedaa
open Go.RowKit Go.Sort

section
variable {w : World} {B : Nat} {E : TypeId}

/-- A slice of the call's own, not empty: its block. -/
theorem own_block {α : Type} {enc : α → Value} {v : Value} {l : List α} (h : w.ownsRow B E 1 v l.length (l.map enc)) (hl : l ≠ []) :
    ∃ g cap cur, v = .slice (some ⟨g, 0, none⟩) l.length cap ∧ B ≤ g ∧ g < w.heap.size ∧ w.heap[g]? = some (.cells cur E (0, 0)) ∧ l.length ≤ cap ∧ cap ≤ maxLen ∧ cur.size = cap * 1 ∧ cur.toList.take l.length = l.map enc := by
  obtain ⟨_, ⟨_, h⟩ | ⟨g, cap, cur, hv, hb, hg, h1, h2, h3, h4⟩⟩ := h
  · exact absurd (List.length_eq_zero_iff.1 h) hl
  · exact ⟨g, cap, cur, hv, hb, (Array.getElem?_eq_some_iff.1 hg).1, hg, h1, h2, h3, by simpa using h4⟩

theorem own_nil {v : Value} (h : w.ownsRow B E 1 v 0 []) : ∃ a cap, v = .slice a 0 cap := by
  obtain ⟨_, ⟨h, _⟩ | ⟨g, cap, cur, hv, _⟩⟩ := h
  · exact ⟨_, _, h⟩
  · exact ⟨_, _, hv⟩

theorem cell_of_take {α : Type} {enc : α → Value} {g : Nat} {cur : Array Value} {l : List α} {fz : Nat × Nat} (hg : w.heap[g]? = some (.cells cur E fz)) (h4 : cur.toList.take l.length = l.map enc) (j : Nat) (hj : j < l.length) :
    w.cell? ⟨g, j, none⟩ = some (enc l[j]) := by
  have h1 : (cur.toList.take l.length)[j]? = (l.map enc)[j]? := by rw [h4]
  rw [List.getElem?_take_of_lt hj] at h1
  simp only [World.cell?, hg, Option.isSome_none, Bool.false_eq_true, if_false]
  rw [← Array.getElem?_toList, h1]
  simp [hj]

theorem holds_own {α : Type} [Inhabited α] {enc : α → Value} {g : Nat} {cur : Array Value} {l : List α} (hg : w.heap[g]? = some (.cells cur E (0, 0))) (h4 : cur.toList.take l.length = l.map enc) : Holds enc w g 0 l.toArray := by
  intro j hj
  have hj' : j < l.length := by simpa using hj
  refine ⟨?_, by simp [World.frozen?, hg]⟩
  rw [Nat.zero_add, cell_of_take hg h4 j hj']
  simp [hj']

theorem heap_sorted' {α : Type} [Inhabited α] {enc : α → Value} {g n : Nat} {os : Array Obj} {cur : Array Value} {fr : Nat × Nat} (d : Array α) (hb : w.heap[g]? = some (.cells cur E fr)) :
    (grow (putRow enc (Sort.ahead w n) g 0 d) os).heap[g]? = some (.cells (putCells enc 0 d cur) E fr) := by
  have hg : g < w.heap.size := (Array.getElem?_eq_some_iff.1 hb).1
  rw [heap_grow_old _ _ (by simpa using hg)]
  simp [putRow, mapBlock, Sort.ahead, Array.getElem?_modify, hb, onCells]

theorem grownBy_sorted' {α : Type} [Inhabited α] {enc : α → Value} {g n : Nat} {os : Array Obj} (d : Array α) : w.grownBy (grow (putRow enc (Sort.ahead w n) g 0 d) os) (some g) := by
  refine ⟨rfl, rfl, rfl, by simp, fun k hk hne => ?_⟩
  rw [heap_grow_old _ _ (by simpa using hk)]
  have : g ≠ k := fun e => hne (by rw [e])
  simp [putRow, mapBlock, Sort.ahead, Array.getElem?_modify, this]

theorem take_put {α : Type} [Inhabited α] {enc : α → Value} (cur : Array Value) (ts : List α) (h : ts.length ≤ cur.size) : (putCells enc 0 ts.toArray cur).toList.take ts.length = ts.map enc := by
  apply List.ext_getElem?
  intro j
  by_cases hj : j < ts.length
  · rw [List.getElem?_take_of_lt hj, Array.getElem?_toList]
    simp [putCells, hj, show j < cur.size by omega]
  · rw [List.getElem?_take_eq_none (by omega), List.getElem?_eq_none (by simp; omega)]

/-- Behind the sort the same slice owns the sorted list. -/
theorem own_sorted {α : Type} [Inhabited α] {enc : α → Value} {g cap n : Nat} {os : Array Obj} {cur : Array Value} {ss ts : List α} (hl : ts.length = ss.length) (hbase : B ≤ g) (hb : w.heap[g]? = some (.cells cur E (0, 0)))
    (h1 : ss.length ≤ cap) (h2 : cap ≤ maxLen) (h3 : cur.size = cap * 1) :
    (grow (putRow enc (Sort.ahead w n) g 0 ts.toArray) os).ownsRow B E 1 (.slice (some ⟨g, 0, none⟩) ss.length cap) ts.length (ts.map enc) := by
  rw [← hl]
  exact ⟨by simp, .inr ⟨g, cap, _, rfl, hbase, heap_sorted' _ hb, by omega, h2, by simp [putCells, h3], by rw [Nat.mul_one]; exact take_put cur ts (by omega)⟩⟩
end
end Go.Proofs.Ythbkbmkcgpdedaa
