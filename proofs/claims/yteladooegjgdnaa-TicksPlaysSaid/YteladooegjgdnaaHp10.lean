/- Contracts: ticks.New, Now, find. -/
import Derived.Test.YteladooegjgdnaaHp9
namespace Go.Proofs.Yteladooegjgdnaa
open Go.RowKit Go.Sort Go.Lib

theorem ret_one {a b : Value} (h : a = b) : Ending.returned a = .returned b := by rw [h]
theorem ba_eq (a b : ByteArray) : (a.toList == b.toList) = decide (a = b) := by
  by_cases h : a = b
  · subst h; simp
  · rw [decide_eq_false h, beq_eq_false_iff_ne]
    intro e
    apply h
    rw [Lib.toList_data, Lib.toList_data] at e
    exact ByteArray.ext (Array.toList_inj.1 e)
def FindP (key : ByteArray) (l : List Tm) (r : Int) : Prop := (r = -1 ∧ ∀ x ∈ l, x.k ≠ key) ∨ ∃ i, i < l.length ∧ r = (i : Int) ∧ (gT l i).k = key
set_option maxHeartbeats 800000 in
theorem is_key {c : Bool} (x : Tm) (kb : Nat) (key : ByteArray) (w : World) (hk : w.cell? ⟨kb, 0, none⟩ = some (.string key)) (h : decide (x.k = key) = c) :
    Calls Try.prog 38 #[.agg #[.string x.k, .int .i64 x.a], .pointer (some ⟨kb, 0, none⟩)] w fun e w' => e = .returned (.bool c) ∧ Below w.heap.size w w' := by
  have HA := Lib.hid (alT w (.cells #[.string x.k, .int .i64 x.a] TmT))
  have hal : ∀ o, (w.alloc o).cell? ⟨kb, 0, none⟩ = some (.string key) := fun o => ((alT w o).cell (World.block_lt_of_cell? _ _ hk)).trans hk
  have HH := Lib.hid h
  clear h
  go_enter Try.func38, Try.ntmps38
  go_wp2_with fail
  go_ret
  refine ⟨ret_bool ?_, HA.out⟩
  rw [← HH.out]
  exact ba_eq _ _
set_option maxHeartbeats 1600000 in
set_option maxRecDepth 100000 in
theorem idx_key {Z kb : Nat} {rv : Value} {l : List Tm} {w : World} (key : ByteArray) (ho : w.ownsRow Z TmT 2 rv l.length (l.flatMap encT)) (hk : w.cell? ⟨kb, 0, none⟩ = some (.string key)) (hm : l.length ≤ 100000) :
    Calls Try.prog 37 #[rv, .func (.func 38) #[] #[.pointer (some ⟨kb, 0, none⟩)]] w fun e w' => (∃ r, e = .returned (.int .i64 r) ∧ FindP key l r) ∧ Below w.heap.size w w' := by
  obtain ⟨a, cap, rfl⟩ := own_slice ho
  have HV := Lib.hid ho
  have hkl := World.block_lt_of_cell? _ _ hk
  clear ho
  go_enter Try.func37, Try.ntmps37
  go_wp2
  go_loopg [8] l.length (fun gk i wr => ∃ k : Nat, gk + k = l.length ∧ i = .int .i64 k ∧ Below w.heap.size w wr ∧ Hid (∀ j, (hj : j < l.length) → j < k → l[j].k ≠ key))
  case atStart => exact ⟨0, by omega, rfl, Below.refl _ _, fun j _ hj => absurd hj (by omega)⟩
  case round =>
    obtain ⟨k, hkk, rfl, hB, hn⟩ := hrel
    have HB := Lib.hid hB
    have hk1 : wr.cell? ⟨kb, 0, none⟩ = some (.string key) := (hB.cell hkl).trans hk
    clear hB
    by_cases hlt : k < l.length
    · obtain ⟨g, cap', he⟩ : ∃ g cap', (Value.slice a l.length cap) = .slice (some ⟨g, 0, none⟩) l.length cap' := by
        obtain ⟨_, ⟨hv, h0⟩ | ⟨g, c', cur, hv, _⟩⟩ := HV.out
        · omega
        · exact ⟨g, c', hv⟩
      injection he with he1 he2 he3
      subst he1
      obtain ⟨c0, c1⟩ := tm_at (own_below HV.out HB.out) rfl hlt
      clear he2 he3
      cases hp : decide (l[k].k = key)
      all_goals
        have HP := Lib.hid hp
        clear hp
        go_wp2_with fail
        refine (is_key l[k] kb key _ hk1 HP.out).mono ?_
        rintro e w1 ⟨rfl, hB⟩
        have HB1 := Lib.hid (gthen HB.out hB)
        clear hB c0 c1
      · go_wp2_with fail
        go_roundg (gk - 1)
        case rel => exact ⟨k + 1, by omega, by go_num, HB1.out, fun j hj hjk => by
          by_cases e : j = k
          · subst e; exact of_decide_eq_false HP.out
          · exact hn.out j hj (by omega)⟩
        case measure => omega
      · go_wp2_with fail
        go_ret
        exact ⟨⟨_, rfl, .inr ⟨k, hlt, rfl, by
          have := of_decide_eq_true HP.out
          unfold gT
          rw [List.getD_eq_getElem?_getD, List.getElem?_eq_getElem hlt]
          exact this⟩⟩, HB1.out⟩
    · have hke : k = l.length := by omega
      go_wp2_with fail
      go_ret
      exact ⟨⟨_, rfl, .inl ⟨rfl, fun x hx => by
        obtain ⟨j, hj, e⟩ := List.mem_iff_getElem.1 hx
        rw [← e]
        exact hn.out j hj (by omega)⟩⟩, HB.out⟩
abbrev TP (b : Nat) : Value := .pointer (some ⟨b, 0, none⟩)
set_option maxHeartbeats 1600000 in
set_option maxRecDepth 100000 in
theorem find_any {Z b : Nat} {rv : Value} {l : List Tm} {now : Int} {w : World} (key : ByteArray) (h : Qu Z b rv l now w) (hm : l.length ≤ 100000) :
    Calls Try.prog 24 #[TP b, .string key] w fun e w' => (∃ r, e = .returned (.int .i64 r) ∧ FindP key l r) ∧ Below w.heap.size w w' := by
  have HK := Lib.hid (alT w (.cells #[.string key] 9))
  have H0 := Lib.hid h
  have x0 : (w.alloc (.cells #[.string key] 9)).cell? ⟨b, 0, none⟩ = some rv := (h.below HK.out).cell.1
  have hk : (w.alloc (.cells #[.string key] 9)).cell? ⟨w.heap.size, 0, none⟩ = some (.string key) := by simp [go_sem]
  have HKK := Lib.hid hk
  obtain ⟨ra, rc, hrv⟩ := own_slice h.own
  have HRV := Lib.hid hrv
  rw [hrv] at x0
  clear h hrv
  go_enter Try.func24, Try.ntmps24
  go_wp2_with fail
  have ho := (H0.out.below HK.out).own
  rw [HRV.out] at ho
  refine (idx_key key ho HKK.out hm).mono ?_
  rintro e w2 ⟨⟨r, rfl, hF⟩, hB⟩
  have HF := Lib.hid hF
  have HB := Lib.hid (gthen HK.out hB)
  clear hF hB ho
  go_wp2_with fail
  go_ret
  exact ⟨⟨r, rfl, HF.out⟩, HB.out⟩
set_option maxHeartbeats 800000 in
theorem now_any {Z b : Nat} {rv : Value} {l : List Tm} {now : Int} {w : World} (h : Qu Z b rv l now w) : Calls Try.prog 15 #[TP b] w fun e w' => e = .returned (.int .i64 now) ∧ w' = w := by
  have x1 := h.cell.2.1
  clear h
  go_enter Try.func15, Try.ntmps15
  go_wp2_with fail
  go_ret
  exact ⟨rfl, rfl⟩
theorem now_nil (w : World) : Calls Try.prog 15 #[.pointer none] w fun e w' => e = .returned (.int .i64 0) ∧ w' = w := by
  go_enter Try.func15, Try.ntmps15
  go_wp2_with fail
  go_ret
  exact ⟨rfl, rfl⟩
theorem new_any (w : World) : Calls Try.prog 10 #[] w fun e w' => ∃ b rv, e = .returned (TP b) ∧ Below w.heap.size w w' ∧ Qu w.heap.size b rv [] 0 w' ∧ rv = .slice none 0 0 := by
  have HA := Lib.hid (alT w (.cells #[.slice none 0 0, .int .i64 0, .bool true] TimersT))
  have HQ := Lib.hid (show Qu w.heap.size w.heap.size (.slice none 0 0) [] 0 (w.alloc (.cells #[.slice none 0 0, .int .i64 0, .bool true] TimersT)) from ⟨heap_alloc_new _ _, World.ownsRow_nil _ _ _ _, Nat.le_refl _⟩)
  go_enter Try.func10, Try.ntmps10
  go_wp2_with fail
  go_ret
  exact ⟨_, _, rfl, HA.out, HQ.out, rfl⟩
end Go.Proofs.Yteladooegjgdnaa
