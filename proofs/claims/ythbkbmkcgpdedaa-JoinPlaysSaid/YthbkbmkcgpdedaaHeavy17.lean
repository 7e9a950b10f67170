/- Contract: heavy (sums and all). -/
import Derived.Test.YthbkbmkcgpdedaaStep17
import Derived.SizedLaws
namespace Go.Proofs.Ythbkbmkcgpdedaa
open Go.RowKit Go.Sort Go.Lib

def totS (s : Stp) : Nat := s.n.2.size + s.m.2.size + s.t.p.size + s.t.args.length
def StpZ (s : Stp) : Prop := s.n.2.size ≤ 140737488351232 ∧ s.m.2.size ≤ 140737488351232 ∧ s.t.p.size ≤ 140737488351232 ∧ s.t.args.length ≤ 140737488351232
def sumS (l : List Stp) : Nat := (l.map totS).sum
theorem sumS_mem {l : List Stp} {s : Stp} (h : s ∈ l) : totS s ≤ sumS l := by
  unfold sumS
  induction l with
  | nil => cases h
  | cons a t ih =>
    simp only [List.map_cons, List.sum_cons]
    rcases List.mem_cons.1 h with rfl | h
    · omega
    · have := ih h; omega
theorem sumS_take {l : List Stp} {k : Nat} (h : k < l.length) : sumS (l.take (k + 1)) = sumS (l.take k) + totS l[k] := by
  unfold sumS
  rw [List.take_succ_eq_append_getElem h, List.map_append, List.sum_append]
  simp only [List.map_cons, List.map_nil, List.sum_cons, List.sum_nil, Nat.add_zero]
set_option maxRecDepth 10000 in
theorem sumS_le {l : List Stp} (hz : ∀ s ∈ l, StpZ s) (k : Nat) : sumS (l.take k) ≤ k * 562949953404928 := by
  induction k with
  | zero => exact Nat.le_of_eq (by rw [List.take_zero, Nat.zero_mul]; rfl)
  | succ k ih =>
    by_cases h : k < l.length
    · rw [sumS_take h]
      have := hz _ (List.getElem_mem h)
      obtain ⟨h1, h2, h3, h4⟩ := this
      have : totS l[k] ≤ 562949953404928 := by unfold totS; omega
      rw [Nat.succ_mul]
      exact Nat.add_le_add ih this
    · rw [List.take_of_length_le (by omega)] at ih ⊢
      exact Nat.le_trans ih (Nat.mul_le_mul_right _ (Nat.le_succ k))
def HeavyP (l : List Stp) (w : World) (e : Ending) (w' : World) : Prop := ∃ b, e = .returned (.bool b) ∧ Below w.heap.size w w' ∧ (b = false → l.length ≤ 150 ∧ ∀ s ∈ l, totS s ≤ 8192)
theorem HeavyP.yes {l : List Stp} {w w' : World} {e : Ending} (h : e = .returned (.bool true)) (hB : Below w.heap.size w w') : HeavyP l w e w' := ⟨true, h, hB, by simp⟩
theorem HeavyP.no {l : List Stp} {w w' : World} {e : Ending} (h : e = .returned (.bool false)) (hB : Below w.heap.size w w') (hn : l.length ≤ 150) (hs : sumS l ≤ 8192) : HeavyP l w e w' := ⟨false, h, hB, fun _ => ⟨hn, fun _ h => Nat.le_trans (sumS_mem h) hs⟩⟩

set_option maxHeartbeats 1600000 in
set_option maxRecDepth 100000 in
theorem heavy_any (v : Value) (l : List Stp) (w : World) (hv : ReadsK encS 12 w v l) (hl : (l.length : Int) ≤ 9223372036854775807) (hz : ∀ s ∈ l, StpZ s) (ht : ∀ s ∈ l, TskOk w s.t) :
    Calls Try.prog 6 #[v] w (HeavyP l w) := by
  obtain ⟨a, cap, rfl⟩ := hv.slice
  have HV := Lib.hid hv
  have HZ := Lib.hid hz
  have HT := Lib.hid ht
  clear hv hz ht
  go_enter Try.func6, Try.ntmps6
  go_wp2_with fail
  go_loopg [3, 4] l.length (fun gk s i wr => ∃ (k x : Nat), gk + k = l.length ∧ k ≤ 300 ∧ s = .int .i64 x ∧ x = sumS (l.take k) ∧ i = .int .i64 k ∧ Below w.heap.size w wr)
  case atStart => exact ⟨0, 0, by omega, by omega, rfl, by simp [sumS], rfl, Below.refl _ _⟩
  case round =>
    obtain ⟨k, x, hk, h300, rfl, hx, rfl, hB⟩ := hrel
    have HB := Lib.hid hB
    have HX := Lib.hid hx
    have hxb : x ≤ 300 * 562949953404928 := by
      rw [hx]; exact Nat.le_trans (sumS_le HZ.out k) (Nat.mul_le_mul_right _ h300)
    clear hB hx
    by_cases h1 : k < l.length
    · by_cases h2 : k < 300
      · obtain ⟨b, off, c, he, hb, hc⟩ := (HV.out.below HB.out).at (by omega)
        injection he with he1 he2 he3
        subst he1
        have hcc := hc k h1
        have HS := Lib.hid (sumS_take h1)
        obtain ⟨z1, z2, z3, z4⟩ := HZ.out _ (List.getElem_mem h1)
        obtain ⟨a4, c4, hs4⟩ := (HT.out _ (List.getElem_mem h1)).1.slice
        clear hc he3 hb
        generalize l[k] = y at hcc HS z1 z2 z3 z4 hs4
        have c3 : wr.cell? ⟨b, off + k * 12 + 2 + 1, none⟩ = some (.string y.n.2) := hcc 3 _ rfl
        have c5 : wr.cell? ⟨b, off + k * 12 + 4 + 1, none⟩ = some (.string y.m.2) := hcc 5 _ rfl
        have c6 : wr.cell? ⟨b, off + k * 12 + 6, none⟩ = some (.string y.t.p) := hcc 6 _ rfl
        have c8 : wr.cell? ⟨b, off + k * 12 + 6 + 2, none⟩ = some (.slice a4 y.t.args.length c4) := hs4 ▸ hcc 8 _ rfl
        clear hcc hs4
        go_wp2_with fail
        go_quiet (fail)
        have HB2 := Lib.hid (HB.out.trans ((below_drewN (Below.refl wr.heap.size wr) nq).mono HB.out.size))
        clear HB
        go_wp2_with fail
        go_roundg (gk - 1)
        case rel => exact ⟨k + 1, x + totS y, by omega, by omega, by unfold totS; congr 1; omega, by rw [HS.out, HX.out], by go_num, HB2.out⟩
        case measure => omega
      · by_cases h4 : (150 : Int) < l.length
        · go_wp2_with fail
          go_ret
          exact HeavyP.yes (ret_boolE rfl) HB.out
        · omega
    · have HX2 := Lib.hid (HX.out.trans (by rw [List.take_of_length_le (by omega)]))
      by_cases h4 : (150 : Int) < l.length
      · go_wp2_with fail
        go_ret
        exact HeavyP.yes (ret_boolE rfl) HB.out
      · by_cases h6 : (8192 : Int) < x
        · go_wp2_with fail
          go_ret
          exact HeavyP.yes (ret_boolE rfl) HB.out
        · go_wp2_with fail
          go_ret
          exact HeavyP.no (ret_boolE rfl) HB.out (by omega) (by rw [← HX2.out]; omega)
end Go.Proofs.Ythbkbmkcgpdedaa
