/- Credits: one number more (slices.Insert of one number into an own slice). -/
import Derived.Test.YtgjmnmcbinekdaaCred3
import Derived.Shelf.Spec.SlicesInsert
namespace Go.Proofs.Ytgjmnmcbinekdaa
open Go.RowKit Go.Sort Go.Lib Go.Shelf

theorem setCells_shape {g : Nat} {E : TypeId} : ∀ (vs : List Value) (o : Nat) (w : World) (cur : Array Value), w.heap[g]? = some (.cells cur E (0, 0)) → ∃ cur', (w.setCells g o vs).heap[g]? = some (.cells cur' E (0, 0)) ∧ cur'.size = cur.size
  | [], _, _, cur, h => ⟨cur, h, rfl⟩
  | v :: r, o, w, cur, h => by
    obtain ⟨cur', h1, h2⟩ := setCells_shape r (o + 1) (w.setCell ⟨g, o, none⟩ v) _ (Go.heap_setCell_same w g o _ _ v h)
    exact ⟨cur', h1, by rw [h2]; simp⟩
theorem below_setCells {B g : Nat} {w0 : World} (hg : B ≤ g) : ∀ (vs : List Value) (o : Nat) (w : World), Below B w0 w → Below B w0 (w.setCells g o vs)
  | [], _, _, h => h
  | v :: r, o, _w, h => below_setCells hg r (o + 1) _ (h.setCell (p := ⟨g, o, none⟩) hg v)
/-- A slice that lies at the head of a block of the call's own, told by its cells. -/
theorem COwn.cells {w : World} {B g cap : Nat} {cur : Array Value} {l : List Int} (hB : B ≤ g) (hg : w.heap[g]? = some (.cells cur 3 (0, 0))) (hn : l.length ≤ cap) (hm : cap ≤ maxLen) (hs : cur.size = cap) (hc : ∀ j x, l[j]? = some x → w.cell? ⟨g, j, none⟩ = some (.int .i64 x)) :
    COwn w B (.slice (some ⟨g, 0, none⟩) l.length cap) l := by
  apply COwn.of
  refine ⟨by simp, .inr ⟨g, cap, cur, rfl, hB, hg, hn, hm, by omega, ?_⟩⟩
  apply List.ext_getElem
  · simp; omega
  · intro j h1 h2
    have hj : j < l.length := by simpa using h2
    have := hc j l[j] (List.getElem?_eq_getElem hj)
    simp only [World.cell?, hg, Option.isSome_none, Bool.false_eq_true, if_false] at this
    rw [List.getElem_take, List.getElem_map, Array.getElem_toList]
    have h3 := (Array.getElem?_eq_some_iff.1 this).2
    rw [h3]
theorem COwn.open {w : World} {B : Nat} {v : Value} {l : List Int} (h : COwn w B v l) : (v = .slice none 0 0 ∧ l = []) ∨ ∃ g cap cur, v = .slice (some ⟨g, 0, none⟩) l.length cap ∧ B ≤ g ∧ w.heap[g]? = some (.cells cur 3 (0, 0)) ∧ l.length ≤ cap ∧ cap ≤ maxLen ∧ cur.size = cap ∧ ∀ j x, l[j]? = some x → w.cell? ⟨g, j, none⟩ = some (.int .i64 x) := by
  obtain ⟨_, ⟨rfl, h0⟩ | ⟨g, cap, cur, rfl, h1, h2, h3, h4, h5, h6⟩⟩ := h.map
  · exact .inl ⟨rfl, List.length_eq_zero_iff.1 h0⟩
  · refine .inr ⟨g, cap, cur, rfl, h1, h2, h3, h4, by omega, fun j x hx => ?_⟩
    have hj : j < l.length := (List.getElem?_eq_some_iff.1 hx).1
    simp only [World.cell?, h2, Option.isSome_none, Bool.false_eq_true, if_false]
    have e1 : (cur.toList.take (l.length * 1))[j]? = (l.map (Value.int .i64))[j]? := by rw [h6]
    rw [List.getElem?_take, if_pos (by omega), Array.getElem?_toList, List.getElem?_map, hx] at e1
    exact e1
def insAt (l : List Int) (i : Nat) (k : Int) : List Int := l.take i ++ k :: l.drop i
theorem insAt_len (l : List Int) (i : Nat) (k : Int) : (insAt l i k).length = l.length + 1 := by unfold insAt; simp; omega
theorem insAt_get (l : List Int) (i : Nat) (k : Int) (hi : i ≤ l.length) (j : Nat) : (insAt l i k)[j]? = if j < i then l[j]? else if j = i then some k else l[j - 1]? := by
  unfold insAt
  have hti : (l.take i).length = i := by simp; omega
  by_cases h1 : j < i
  · rw [if_pos h1, List.getElem?_append_left (by omega), List.getElem?_take, if_pos h1]
  · rw [if_neg h1, List.getElem?_append_right (by omega), hti]
    by_cases h2 : j = i
    · subst h2; simp
    · rw [if_neg h2]
      obtain ⟨t, rfl⟩ : ∃ t, j = i + (t + 1) := ⟨j - i - 1, by omega⟩
      rw [Nat.add_sub_cancel_left, List.getElem?_cons_succ, List.getElem?_drop]
      congr 1
theorem one_idx {x : Value} {t : Nat} (h : t < [x].length) : t = 0 := by simpa using h
set_option maxHeartbeats 4000000 in
set_option maxRecDepth 100000 in
theorem ins_end (l : List Int) (k : Int) (v : Value) (B vb : Nat) (w : World) (h : COwn w B v l) (hB0 : B ≤ w.heap.size) (hl : l.length ≤ 100000) (hvb : w.heap[vb]? = some (.cells #[.int .i64 k] 3 (0, 0))) :
    Calls Try.prog 52 #[v, .int .i64 l.length, .slice (some ⟨vb, 0, none⟩) 1 1] w fun e w' => ∃ v', e = .returned v' ∧ COwn w' B v' (l ++ [k]) ∧ Below B w w' := by
  obtain ⟨i0, hi0, hz0, hzs, hzb⟩ := info_parts info_int
  have hk0 : w.cell? ⟨vb, 0, none⟩ = some (.int .i64 k) := by simp [World.cell?, hvb]
  have hsrc : Src Try.prog i0.size 22 (.slice (some ⟨vb, 0, none⟩) 1 1) 1 [.int .i64 k] w := by
    rw [hzs]
    exact Src.ofSlice w Try.underlying22 ⟨vb, 0, none⟩ 1 1 [.int .i64 k] rfl (fun j u hj => by
      cases j with
      | zero => simp at hj; subst hj; exact hk0
      | succ j => simp at hj) (by simp [Value.oneCell'])
  have grow : ∀ (ad : Option Addr) (c : Nat), v = .slice ad l.length c → c < l.length + 1 → (ad = none → l = []) → (∀ a, ad = some a → ∀ j u, (l.map (Value.int .i64))[j]? = some u → w.cell? (a.add j) = some u) → ∀ ty,
      ∃ v' w', (Builtin.append_ #[23, 22] ty #[.slice ad l.length c, .slice (some ⟨vb, 0, none⟩) 1 1]).run Try.prog w = .ok v' w' ∧ COwn w' B v' (l ++ [k]) ∧ Below B w w' := by
    intro ad c hv hc hn hcells ty
    have hold : (Builtin.firstCells i0.size l.length (.slice ad l.length c)).run Try.prog w.drew = .ok (l.map (Value.int .i64)).toArray w.drew := by
      rw [hzs]
      cases ad with
      | none =>
        have h0 := hn rfl
        subst h0
        exact run_firstCells_none w.drew 1 0 0 c
      | some a => exact run_firstCells_some w.drew 1 l.length a l.length c (l.map (Value.int .i64)) (by simp) (fun j v hj => hcells a rfl j v hj)
    have hrun := run_append_grow_src (P := Try.prog) w 23 22 ty 3 i0 _ Try.underlying23 hi0 hz0 ad l.length c (l.map (Value.int .i64)) hold _ 1 _ hsrc (by omega) (by omega) (by rw [hzb]; exact growslice_fits (by omega) (by omega))
    have hg1 := grownCap_ge w (l.length + 1) c 3
    have hg2 := grownCap_le_maxLen w (l.length + 1) c 3 (by unfold maxLen; omega)
    refine ⟨_, _, hrun, ?_, (Below.refl _ _).drew.alloc (by show _ ≤ _; simpa using hB0) _⟩
    apply COwn.of
    refine ⟨by simp, .inr ⟨w.heap.size, _, _, ?_, hB0, heap_alloc_new w.drew _, ?_, hg2, ?_, ?_⟩⟩
    · rw [List.length_append]; rfl
    · rw [List.length_append]; exact hg1
    · simp [Builtin.zeroCells, Value.cells]; omega
    · simp [List.take_append, List.take_of_length_le]
  rcases h.open with ⟨rfl, rfl⟩ | ⟨g, cap, cur, rfl, h1, h2, h3, h4, h5, h6⟩
  · obtain ⟨v', w', hr, ho, hB⟩ := grow none 0 rfl (by simp) (fun _ => rfl) (fun a ha => by cases ha) 23
    have HO := Lib.hid ho
    have HB := Lib.hid hB
    clear grow h hsrc ho hB
    go_enter Try.func52, Try.ntmps52
    go_wp2_with (at_builtin; refine Lib.wpList_append_run _ rfl _ _ _ _ rfl _ _ rfl rfl _ _ hr ?_)
    go_ret
    exact ⟨_, rfl, HO.out, HB.out⟩
  · by_cases hc : l.length + 1 ≤ cap
    · have hsp : (w.cell? ⟨g, l.length, none⟩).isSome = true := by
        simp only [World.cell?, h2, Option.isSome_none, Bool.false_eq_true, if_false]
        rw [Array.getElem?_eq_getElem (by omega)]; rfl
      have hfz : w.frozen? ⟨g, l.length, none⟩ = false := by simp [World.frozen?, h2]
      have HR : Hid (COwn (w.setCells g (0 + l.length) [.int .i64 k]) B (.slice (some ⟨g, 0, none⟩) (l.length + 1) cap) (l ++ [k]) ∧ Below B w (w.setCells g (0 + l.length) [.int .i64 k])) := by
        obtain ⟨cur', e1, e2⟩ := setCells_shape [.int .i64 k] (0 + l.length) w cur h2
        refine ⟨?_, below_setCells h1 _ _ _ (Below.refl _ _)⟩
        have := COwn.cells (l := l ++ [k]) h1 e1 (by simp; omega) h4 (by omega) (fun j x hx => by
          by_cases hj2 : j < l.length
          · rw [World.cell?_setCells_out _ _ _ _ _ (fun _ _ => .inl (by show j < 0 + l.length; omega))]
            rw [List.getElem?_append_left hj2] at hx
            exact h6 j x hx
          · have hj := (List.getElem?_eq_some_iff.1 hx).1
            have : j = l.length := by simp at hj; omega
            subst this
            have := World.cell?_setCells_in g [.int .i64 k] (0 + l.length) w (fun t ht => by cases one_idx ht; simpa using hsp) 0 (by simp)
            simp only [Nat.zero_add, Nat.add_zero] at this ⊢
            rw [this]
            simp at hx
            rw [hx]; rfl)
        rw [List.length_append] at this
        exact this
      rw [hzs] at hsrc
      clear grow h h6
      go_enter Try.func52, Try.ntmps52
      go_wp2_with (at_builtin; refine wpList_append_room1 _ rfl _ _ 23 22 rfl 3 _ _ Try.underlying23 info_int g 0 l.length cap rfl _ rfl 1 _ hsrc hc (by intro j hj; cases one_idx hj; simpa using hsp) (by intro j hj; cases one_idx hj; simpa using hfz) ?_)
      go_ret
      have h9 := HR.out
      rw [Nat.zero_add] at h9
      exact ⟨_, rfl, h9⟩
    · obtain ⟨v', w', hr, ho, hB⟩ := grow (some ⟨g, 0, none⟩) cap rfl (by omega) (fun h => by cases h) (fun a ha j u hj => by
        injection ha with ha
        subst ha
        rw [Addr.add_lit, Nat.zero_add]
        have hjl : j < l.length := by have := (List.getElem?_eq_some_iff.1 hj).1; simpa using this
        rw [List.getElem?_map, List.getElem?_eq_getElem hjl] at hj
        rw [h6 j l[j] (List.getElem?_eq_getElem hjl)]
        exact hj) 23
      have HO := Lib.hid ho
      have HB := Lib.hid hB
      clear grow h hsrc ho hB h6
      go_enter Try.func52, Try.ntmps52
      go_wp2_with (at_builtin; refine Lib.wpList_append_run _ rfl _ _ _ _ rfl _ _ rfl rfl _ _ hr ?_)
      go_ret
      exact ⟨_, rfl, HO.out, HB.out⟩
end Go.Proofs.Ytgjmnmcbinekdaa
