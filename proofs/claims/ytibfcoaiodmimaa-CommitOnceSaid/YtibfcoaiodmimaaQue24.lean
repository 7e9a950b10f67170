/- A queue: a slice of strings whose head is cut off and whose end grows. -/
import Derived.Test.YtibfcoaiodmimaaWant4
import Derived.ArgAppend
import Derived.Laws.Rows
namespace Go.Proofs.Ytibfcoaiodmimaa
open Go.RowKit Go.Sort Go.Lib

def Que (B : Nat) (w : World) (v : Value) (l : List ByteArray) : Prop :=
  ∃ (g off cap : Nat) (cur : Array Value), v = .slice (some ⟨g, off, none⟩) l.length cap ∧ B ≤ g ∧ w.heap[g]? = some (.cells cur 9 (0, 0)) ∧ l.length ≤ cap ∧ off + cap ≤ cur.size ∧ ∀ i (h : i < l.length), cur[off + i]? = some (.string l[i])
section
variable {B : Nat} {w w' : World} {v : Value} {l : List ByteArray}
theorem Que.keep (h : Que B w v l) (hb : ∀ i, v.ownBlock = some i → w'.heap[i]? = w.heap[i]?) : Que B w' v l := by
  obtain ⟨g, off, cap, cur, rfl, h1, h2, h3⟩ := h
  exact ⟨g, off, cap, cur, rfl, h1, (hb g rfl).trans h2, h3⟩
theorem Que.lt (h : Que B w v l) : ∀ i, v.ownBlock = some i → B ≤ i ∧ i < w.heap.size := by
  obtain ⟨g, off, cap, cur, rfl, h1, h2, _⟩ := h
  intro i hi
  injection hi with hi
  change g = i at hi
  subst hi
  exact ⟨h1, (Array.getElem?_eq_some_iff.1 h2).1⟩
theorem Que.below (h : Que B w v l) (hB : Below w.heap.size w w') : Que B w' v l := h.keep fun i hi => hB.block i (h.lt i hi).2
theorem Que.start (w : World) (p : ByteArray) : Que w.heap.size (w.alloc (.cells #[.string p] 9)) (.slice (some ⟨w.heap.size, 0, none⟩) 1 1) [p] :=
  ⟨w.heap.size, 0, 1, #[.string p], rfl, Nat.le_refl _, heap_alloc_new _ _, Nat.le_refl _, Nat.le_refl _, fun i h => by
    have : i = 0 := by simpa using h
    subst this; rfl⟩
theorem Que.slice (h : Que B w v l) : ∃ a cap, v = .slice (some a) l.length cap := by
  obtain ⟨g, off, cap, cur, rfl, _⟩ := h
  exact ⟨_, _, rfl⟩
/-- The head, and the rest. -/
theorem Que.head {p : ByteArray} (h : Que B w v (p :: l)) : ∃ g off cap, v = .slice (some ⟨g, off, none⟩) (l.length + 1) (cap + 1) ∧ w.cell? ⟨g, off, none⟩ = some (.string p) ∧
    Que B w (.slice (if cap = 0 then some ⟨g, off, none⟩ else some ⟨g, off + 1, none⟩) l.length cap) l := by
  obtain ⟨g, off, cap, cur, rfl, h1, h2, h3, h4, h5⟩ := h
  rw [List.length_cons] at h3
  obtain ⟨cap, rfl⟩ : ∃ c, cap = c + 1 := ⟨cap - 1, by omega⟩
  refine ⟨g, off, cap, by rw [List.length_cons], ?_, ?_⟩
  · have := h5 0 (by simp)
    simp only [Nat.add_zero, List.getElem_cons_zero] at this
    simp [World.cell?, h2, this]
  · by_cases hc : cap = 0
    · rw [if_pos hc]
      have hl : l.length = 0 := by omega
      exact ⟨g, off, cap, cur, rfl, h1, h2, by omega, by omega, fun i hi => by omega⟩
    · rw [if_neg hc]
      refine ⟨g, off + 1, cap, cur, rfl, h1, h2, by omega, by omega, fun i hi => ?_⟩
      have := h5 (i + 1) (by simp; omega)
      rw [show off + (i + 1) = off + 1 + i by omega] at this
      simpa using this
end
theorem info_str2 : (Try.prog.info? 9).map (fun i => (i.zero, i.size, i.bytes)) = some (some (.string ⟨#[]⟩), 1, 16) := by kernel_rfl
/-- One more at the end. -/
theorem wpList_que {B : Nat} (w : World) {ops : Array Oper} {rest : List Oper} {o : Oper} {a : Act} {Q : Exit → Act → World → Prop} (hgd : o.guard = none) (s x : Operand)
    (ho : o.op = .call { callee := .builtin .append, args := #[s, x], argTypes := #[41, 41] }) (v : Value) (l : List ByteArray) (hs : a.eval s = v) (hq : Que B w v l) (ad : Addr) (c : Nat) (y : ByteArray) (hx : a.eval x = .slice (some ad) 1 c)
    (hc : ∀ j u, [Value.string y][j]? = some u → w.cell? (ad.add j) = some u) (hl : l.length ≤ 1000000) (hB : B ≤ w.heap.size)
    (h : ∀ v' w', Que B w' v' (l ++ [y]) → Fr (fun i => some i = v.ownBlock) w w' → (v'.ownBlock = v.ownBlock ∨ ∃ g, v'.ownBlock = some g ∧ w.heap.size ≤ g) → wpList Try.prog ops Q rest (a.put o.dst v') w') : wpList Try.prog ops Q (o :: rest) a w := by
  obtain ⟨i, hi, hi0, hi1, hi2⟩ := info_parts info_str2
  have hq0 := hq
  obtain ⟨g, off, cap, cur, rfl, h1, h2, h3, h4, h5⟩ := hq
  have hcell : ∀ k, k < cap → (w.cell? ⟨g, off + k, none⟩).isSome = true := fun k hk => by
    have hlt : off + k < cur.size := by omega
    simp [World.cell?, h2, hlt]
  refine wpList_append_arg w hgd s x 41 ho 9 i (.string ⟨#[]⟩) 1 16 Try.underlying41 hi hi0 hi1 hi2 rfl (by decide) g off l.length cap (l.map encP) hs (by simp) ?_ ad 1 c [.string y] hx rfl hc (by simp [Value.oneCell']) ?_ (by unfold maxLen; omega) (by omega) ?_ ?_
  · intro j u hj
    rw [List.getElem?_map] at hj
    obtain ⟨p, hp, rfl⟩ := Option.map_eq_some_iff.1 hj
    obtain ⟨hjl, hp⟩ := List.getElem?_eq_some_iff.1 hp
    have := h5 j hjl
    rw [hp] at this
    simp [World.cell?, h2, this, encP]
  · intro hr j hj
    have : j = 0 := by simpa using hj
    subst this
    refine ⟨by rw [Nat.mul_one, Nat.add_zero]; exact hcell _ (by omega), by simp [World.frozen?, h2]⟩
  · intro hr
    rw [Nat.mul_one]
    show wpList _ _ _ _ _ (w.setCell ⟨g, off + l.length, none⟩ (.string y))
    refine h _ _ ?_ ?_ (.inl rfl)
    · refine ⟨g, off, cap, cur.setIfInBounds (off + l.length) (.string y), by simp, h1, Go.heap_setCell_same w g (off + l.length) cur _ _ h2, by simp; omega, by simp; omega, fun k hk => ?_⟩
      simp only [List.length_append, List.length_cons, List.length_nil] at hk
      by_cases hk2 : k < l.length
      · rw [Array.getElem?_setIfInBounds_ne (by omega), h5 k hk2, List.getElem_append_left hk2]
      · have : k = l.length := by omega
        subst this
        rw [Array.getElem?_setIfInBounds_self_of_lt (by omega)]
        simp
    · exact ⟨rfl, rfl, rfl, by simp, fun k hk hn => Go.heap_setCell_other w _ k _ (fun e => hn (by rw [e]; rfl))⟩
  · intro hr v' w' hown hg
    have hlen : (l ++ [y]).length = l.length + 1 := by simp
    have hm : (l ++ [y]).map encP = l.map encP ++ [.string y] := by simp [encP]
    obtain ⟨_, ⟨_, hz⟩ | ⟨g', cap', cur', rfl, k1, k2, k3, k4, k5, k6⟩⟩ := hown
    · omega
    · refine h _ _ ⟨g', 0, cap', cur', by rw [hlen], by omega, k2, by rw [hlen]; exact k3, by omega, fun k hk => ?_⟩ ⟨hg.os, hg.tape, hg.output, hg.size, fun k hk _ => hg.block k hk (by simp)⟩ (.inr ⟨g', rfl, k1⟩)
      have h6 : (cur'.toList.take ((l.length + 1) * 1))[k]? = (l.map encP ++ [Value.string y])[k]? := by rw [k6]
      rw [← hm, List.getElem?_map, List.getElem?_eq_getElem hk] at h6
      rw [hlen] at hk
      rw [List.getElem?_take_of_lt (by omega), Array.getElem?_toList] at h6
      rw [Nat.zero_add]
      simpa [encP] using h6
end Go.Proofs.Ytibfcoaiodmimaa
