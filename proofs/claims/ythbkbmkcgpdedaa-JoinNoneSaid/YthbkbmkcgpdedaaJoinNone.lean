/- JoinNone: its walk. -/
import Derived.Test.YthbkbmkcgpdedaaJoin12
import Derived.Test.YthbkbmkcgpdedaaOpen17
namespace Go.Proofs.Ythbkbmkcgpdedaa
open Go.RowKit Go.Sort Go.Lib Go.Shelf

def O1 (n : Nm) : Obj := .cells #[.int .u64 n.1, .string n.2] 35
def O2 (p : ByteArray) (fn fuel : Int) (a : Option Addr) (k c : Nat) : Obj := .cells #[.string p, .int .i64 fn, .slice a k c, .int .i64 fuel] 38
def O3 (val err : Int) : Obj := .cells #[.int .i64 val, .int .i64 err] 40
theorem Box.two {r : Nat} {x y : Value} {E : TypeId} {w : World} (h : Box r #[x, y] E w) : w.cell? ⟨r, 0, none⟩ = some x ∧ w.cell? ⟨r, 1, none⟩ = some y := ⟨h.cell 0, h.cell 1⟩
theorem Box.four {r : Nat} {x y z u : Value} {E : TypeId} {w : World} (h : Box r #[x, y, z, u] E w) : w.cell? ⟨r, 0, none⟩ = some x ∧ w.cell? ⟨r, 1, none⟩ = some y ∧ w.cell? ⟨r, 2, none⟩ = some z ∧ w.cell? ⟨r, 3, none⟩ = some u := ⟨h.cell 0, h.cell 1, h.cell 2, h.cell 3⟩
def zC : Array Value := #[.int .u64 0, .string ⟨#[]⟩, .string ⟨#[]⟩, .int .i64 0, .slice none 0 0, .int .i64 0, .int .u8 0, .int .i64 0, .int .i64 0, .int .i64 0]
theorem Box.ten {r : Nat} {E : TypeId} {w : World} (h : Box r zC E w) : w.cell? ⟨r, 0, none⟩ = some (.int .u64 0) ∧ w.cell? ⟨r, 1, none⟩ = some (.string ⟨#[]⟩) ∧ w.cell? ⟨r, 2, none⟩ = some (.string ⟨#[]⟩) ∧ w.cell? ⟨r, 3, none⟩ = some (.int .i64 0) ∧ w.cell? ⟨r, 4, none⟩ = some (.slice none 0 0) ∧ w.cell? ⟨r, 5, none⟩ = some (.int .i64 0) ∧ w.cell? ⟨r, 6, none⟩ = some (.int .u8 0) ∧ w.cell? ⟨r, 7, none⟩ = some (.int .i64 0) ∧ w.cell? ⟨r, 8, none⟩ = some (.int .i64 0) ∧ w.cell? ⟨r, 9, none⟩ = some (.int .i64 0) :=
  ⟨h.cell 0, h.cell 1, h.cell 2, h.cell 3, h.cell 4, h.cell 5, h.cell 6, h.cell 7, h.cell 8, h.cell 9⟩
set_option maxHeartbeats 16000000 in
set_option maxRecDepth 100000 in
theorem none_any (n : Nm) (p : ByteArray) (fn fuel : Int) (v : Value) (val err : Int) (w : World) (hv : ∃ a k c, v = .slice a k c) : Calls Try.prog 5 #[.agg #[.int .u64 n.1, .string n.2], .agg #[.string p, .int .i64 fn, v, .int .i64 fuel], .agg #[.int .i64 val, .int .i64 err]] w fun e w' => e = .returned (.bool true) ∧ Below w.heap.size w w' := by
  obtain ⟨va, vk, vc, rfl⟩ := hv
  have hA : Below w.heap.size w (((w.alloc (O1 n)).alloc (O2 p fn fuel va vk vc)).alloc (O3 val err)) := (((Below.refl _ _).alloc (Nat.le_refl _) _).alloc (by simp) _).alloc (by simp; omega) _
  have h1 : Box w.heap.size #[.int .u64 n.1, .string n.2] 35 (((w.alloc (O1 n)).alloc (O2 p fn fuel va vk vc)).alloc (O3 val err)) := ((Box.of_alloc w _ _).below (below_alloc _ _)).below (below_alloc _ _)
  have h2 : Box (w.heap.size + 1) #[.string p, .int .i64 fn, .slice va vk vc, .int .i64 fuel] 38 (((w.alloc (O1 n)).alloc (O2 p fn fuel va vk vc)).alloc (O3 val err)) := by
    have h := Box.of_alloc (w.alloc (O1 n)) #[.string p, .int .i64 fn, .slice va vk vc, .int .i64 fuel] 38
    rw [show (w.alloc (O1 n)).heap.size = w.heap.size + 1 by simp] at h
    exact h.below (below_alloc _ _)
  have h3 : Box (w.heap.size + 1 + 1) #[.int .i64 val, .int .i64 err] 40 (((w.alloc (O1 n)).alloc (O2 p fn fuel va vk vc)).alloc (O3 val err)) := by
    have h := Box.of_alloc ((w.alloc (O1 n)).alloc (O2 p fn fuel va vk vc)) #[.int .i64 val, .int .i64 err] 40
    rw [show ((w.alloc (O1 n)).alloc (O2 p fn fuel va vk vc)).heap.size = w.heap.size + 1 + 1 by simp] at h
    exact h
  unfold O1 O2 O3 at hA h1 h2 h3
  have HA := Lib.hid hA
  have HB1 := Lib.hid h1
  have HB2 := Lib.hid h2
  have HB3 := Lib.hid h3
  clear hA h1 h2 h3
  go_enter Try.func5, Try.ntmps5
  generalize hwa : ((w.alloc (.cells #[.int .u64 n.1, .string n.2] 35)).alloc (.cells #[.string p, .int .i64 fn, .slice va vk vc, .int .i64 fuel] 38)).alloc (.cells #[.int .i64 val, .int .i64 err] 40) = wa at *
  go_upto_region 1 with fail
  clear hwa
  obtain ⟨a0, a1⟩ := HB1.out.two
  obtain ⟨b0, b1, b2, b3⟩ := HB2.out.four
  obtain ⟨c0, c1⟩ := HB3.out.two
  go_wp2_with fail
  · refine (works_any _).mono ?_
    rintro e w1 ⟨rfl, hB⟩
    go_wp2_with fail
    go_ret
    exact ⟨rfl, gthen HA.out hB⟩
  clear a0 a1 b0 b1 b2 b3 c0 c1
  go_upto_region 4 with fail
  obtain ⟨cHB10, cHB11⟩ := HB1.out.two
  go_wp2_with fail
  refine (nil_begin n _).mono ?_
  rintro e w4 ⟨rfl, hB⟩
  clear cHB10 cHB11
  replace HA := Lib.hid (gthen HA.out hB)
  replace HB1 := Lib.hid (HB1.out.below hB)
  replace HB2 := Lib.hid (HB2.out.below hB)
  replace HB3 := Lib.hid (HB3.out.below hB)
  clear hB
  unfold zT
  go_upto_region 5 with fail
  have hB := below_alloc w4 (.cells #[.string ⟨#[]⟩, .int .i64 0, .slice none 0 0, .int .i64 0] 38)
  have hnb := Box.of_alloc w4 #[.string ⟨#[]⟩, .int .i64 0, .slice none 0 0, .int .i64 0] 38
  replace HA := Lib.hid (gthen HA.out hB)
  replace HB1 := Lib.hid (HB1.out.below hB)
  replace HB2 := Lib.hid (HB2.out.below hB)
  replace HB3 := Lib.hid (HB3.out.below hB)
  clear hB
  have HT1 := Lib.hid hnb
  clear hnb
  generalize w4.alloc (.cells #[.string ⟨#[]⟩, .int .i64 0, .slice none 0 0, .int .i64 0] 38) = w5 at *
  generalize w4.heap.size = rht1 at *
  obtain ⟨cHB10, cHB11⟩ := HB1.out.two
  go_wp2_with fail
  refine (nil_wait n _).mono ?_
  rintro e w6 ⟨rfl, hB⟩
  clear cHB10 cHB11
  replace HA := Lib.hid (gthen HA.out hB)
  replace HB1 := Lib.hid (HB1.out.below hB)
  replace HB2 := Lib.hid (HB2.out.below hB)
  replace HB3 := Lib.hid (HB3.out.below hB)
  replace HT1 := Lib.hid (HT1.out.below hB)
  clear hB
  go_upto_region 6 with fail
  obtain ⟨cHB10, cHB11⟩ := HB1.out.two
  go_wp2_with fail
  refine (nil_leave n _).mono ?_
  rintro e w7 ⟨rfl, hB⟩
  clear cHB10 cHB11
  replace HA := Lib.hid (gthen HA.out hB)
  replace HB1 := Lib.hid (HB1.out.below hB)
  replace HB2 := Lib.hid (HB2.out.below hB)
  replace HB3 := Lib.hid (HB3.out.below hB)
  replace HT1 := Lib.hid (HT1.out.below hB)
  clear hB
  unfold zT
  go_upto_region 7 with fail
  have hB := below_alloc w7 (.cells #[.string ⟨#[]⟩, .int .i64 0, .slice none 0 0, .int .i64 0] 38)
  have hnb := Box.of_alloc w7 #[.string ⟨#[]⟩, .int .i64 0, .slice none 0 0, .int .i64 0] 38
  replace HA := Lib.hid (gthen HA.out hB)
  replace HB1 := Lib.hid (HB1.out.below hB)
  replace HB2 := Lib.hid (HB2.out.below hB)
  replace HB3 := Lib.hid (HB3.out.below hB)
  replace HT1 := Lib.hid (HT1.out.below hB)
  clear hB
  have HT2 := Lib.hid hnb
  clear hnb
  generalize w7.alloc (.cells #[.string ⟨#[]⟩, .int .i64 0, .slice none 0 0, .int .i64 0] 38) = w8 at *
  generalize w7.heap.size = rht2 at *
  obtain ⟨cHB10, cHB11⟩ := HB1.out.two
  obtain ⟨cHB30, cHB31⟩ := HB3.out.two
  go_wp2_with fail
  refine (nil_over n val err _).mono ?_
  rintro e w9 ⟨rfl, hB⟩
  clear cHB10 cHB11 cHB30 cHB31
  replace HA := Lib.hid (gthen HA.out hB)
  replace HB1 := Lib.hid (HB1.out.below hB)
  replace HB2 := Lib.hid (HB2.out.below hB)
  replace HB3 := Lib.hid (HB3.out.below hB)
  replace HT1 := Lib.hid (HT1.out.below hB)
  replace HT2 := Lib.hid (HT2.out.below hB)
  clear hB
  go_upto_region 8 with fail
  have hB := below_alloc w9 (.cells #[.int .u64 0, .string ⟨#[]⟩] 35)
  have hnb := Box.of_alloc w9 #[.int .u64 0, .string ⟨#[]⟩] 35
  replace HA := Lib.hid (gthen HA.out hB)
  replace HB1 := Lib.hid (HB1.out.below hB)
  replace HB2 := Lib.hid (HB2.out.below hB)
  replace HB3 := Lib.hid (HB3.out.below hB)
  replace HT1 := Lib.hid (HT1.out.below hB)
  replace HT2 := Lib.hid (HT2.out.below hB)
  clear hB
  have HNM := Lib.hid hnb
  clear hnb
  generalize w9.alloc (.cells #[.int .u64 0, .string ⟨#[]⟩] 35) = w10 at *
  generalize w9.heap.size = rhnm at *
  obtain ⟨cHB10, cHB11⟩ := HB1.out.two
  go_wp2_with fail
  refine (nil_get n _).mono ?_
  rintro e w11 ⟨rfl, hB⟩
  clear cHB10 cHB11
  replace HA := Lib.hid (gthen HA.out hB)
  replace HB1 := Lib.hid (HB1.out.below hB)
  replace HB2 := Lib.hid (HB2.out.below hB)
  replace HB3 := Lib.hid (HB3.out.below hB)
  replace HT1 := Lib.hid (HT1.out.below hB)
  replace HT2 := Lib.hid (HT2.out.below hB)
  replace HNM := Lib.hid (HNM.out.below hB)
  clear hB
  unfold zR
  go_upto_region 9 with fail
  have hB := below_alloc w11 (.cells zC 58)
  have hnb := Box.of_alloc w11 zC 58
  replace HA := Lib.hid (gthen HA.out hB)
  replace HB1 := Lib.hid (HB1.out.below hB)
  replace HB2 := Lib.hid (HB2.out.below hB)
  replace HB3 := Lib.hid (HB3.out.below hB)
  replace HT1 := Lib.hid (HT1.out.below hB)
  replace HT2 := Lib.hid (HT2.out.below hB)
  replace HNM := Lib.hid (HNM.out.below hB)
  clear hB
  have HRW := Lib.hid hnb
  clear hnb
  unfold zC at *
  generalize w11.alloc (.cells #[.int .u64 0, .string ⟨#[]⟩, .string ⟨#[]⟩, .int .i64 0, .slice none 0 0, .int .i64 0, .int .u8 0, .int .i64 0, .int .i64 0, .int .i64 0] 58) = wq at *
  generalize w11.heap.size = rrw at *
  obtain ⟨cHB20, cHB21, cHB22, cHB23⟩ := HB2.out.four
  go_wp2_with fail
  refine (nil_put 1 p fn fuel _ _ ⟨_, _, _, rfl⟩).mono ?_
  rintro e x1 ⟨rfl, hB⟩
  clear cHB20 cHB21 cHB22 cHB23
  replace HA := Lib.hid (gthen HA.out hB)
  replace HB1 := Lib.hid (HB1.out.below hB)
  replace HB2 := Lib.hid (HB2.out.below hB)
  replace HB3 := Lib.hid (HB3.out.below hB)
  replace HT1 := Lib.hid (HT1.out.below hB)
  replace HT2 := Lib.hid (HT2.out.below hB)
  replace HNM := Lib.hid (HNM.out.below hB)
  replace HRW := Lib.hid (HRW.out.below hB)
  clear hB
  obtain ⟨cHB10, cHB11⟩ := HB1.out.two
  obtain ⟨cHB20, cHB21, cHB22, cHB23⟩ := HB2.out.four
  go_wp2_with fail
  refine (nil_fork n p fn fuel _ _ ⟨_, _, _, rfl⟩).mono ?_
  rintro e x2 ⟨rfl, hB⟩
  clear cHB10 cHB11 cHB20 cHB21 cHB22 cHB23
  replace HA := Lib.hid (gthen HA.out hB)
  replace HB1 := Lib.hid (HB1.out.below hB)
  replace HB2 := Lib.hid (HB2.out.below hB)
  replace HB3 := Lib.hid (HB3.out.below hB)
  replace HT1 := Lib.hid (HT1.out.below hB)
  replace HT2 := Lib.hid (HT2.out.below hB)
  replace HNM := Lib.hid (HNM.out.below hB)
  replace HRW := Lib.hid (HRW.out.below hB)
  clear hB
  obtain ⟨cHT10, cHT11, cHT12, cHT13⟩ := HT1.out.four
  go_wp2_with fail
  refine (same_zero _).mono ?_
  rintro e x3 ⟨rfl, hB⟩
  clear cHT10 cHT11 cHT12 cHT13
  replace HA := Lib.hid (gthen HA.out hB)
  replace HB1 := Lib.hid (HB1.out.below hB)
  replace HB2 := Lib.hid (HB2.out.below hB)
  replace HB3 := Lib.hid (HB3.out.below hB)
  replace HT1 := Lib.hid (HT1.out.below hB)
  replace HT2 := Lib.hid (HT2.out.below hB)
  replace HNM := Lib.hid (HNM.out.below hB)
  replace HRW := Lib.hid (HRW.out.below hB)
  clear hB
  obtain ⟨cHT20, cHT21, cHT22, cHT23⟩ := HT2.out.four
  go_wp2_with fail
  refine (same_zero _).mono ?_
  rintro e x4 ⟨rfl, hB⟩
  clear cHT20 cHT21 cHT22 cHT23
  replace HA := Lib.hid (gthen HA.out hB)
  replace HB1 := Lib.hid (HB1.out.below hB)
  replace HB2 := Lib.hid (HB2.out.below hB)
  replace HB3 := Lib.hid (HB3.out.below hB)
  replace HT1 := Lib.hid (HT1.out.below hB)
  replace HT2 := Lib.hid (HT2.out.below hB)
  replace HNM := Lib.hid (HNM.out.below hB)
  replace HRW := Lib.hid (HRW.out.below hB)
  clear hB
  obtain ⟨cHB10, cHB11⟩ := HB1.out.two
  go_wp2_with fail
  refine (nil_back n _).mono ?_
  rintro e x5 ⟨rfl, hB⟩
  clear cHB10 cHB11
  replace HA := Lib.hid (gthen HA.out hB)
  replace HB1 := Lib.hid (HB1.out.below hB)
  replace HB2 := Lib.hid (HB2.out.below hB)
  replace HB3 := Lib.hid (HB3.out.below hB)
  replace HT1 := Lib.hid (HT1.out.below hB)
  replace HT2 := Lib.hid (HT2.out.below hB)
  replace HNM := Lib.hid (HNM.out.below hB)
  replace HRW := Lib.hid (HRW.out.below hB)
  clear hB
  obtain ⟨cHB10, cHB11⟩ := HB1.out.two
  obtain ⟨cHNM0, cHNM1⟩ := HNM.out.two
  have hB := below_alloc x5 (.cells #[.int .u64 n.1, .string n.2] 35)
  go_wp2_with fail
  refine (nil_drop _ _ ⟨_, _, _, rfl⟩).mono ?_
  rintro e x6 ⟨rfl, rfl⟩
  clear cHB10 cHB11 cHNM0 cHNM1
  replace HA := Lib.hid (gthen HA.out hB)
  replace HB1 := Lib.hid (HB1.out.below hB)
  replace HB2 := Lib.hid (HB2.out.below hB)
  replace HB3 := Lib.hid (HB3.out.below hB)
  replace HT1 := Lib.hid (HT1.out.below hB)
  replace HT2 := Lib.hid (HT2.out.below hB)
  replace HNM := Lib.hid (HNM.out.below hB)
  replace HRW := Lib.hid (HRW.out.below hB)
  clear hB
  go_wp2_with fail
  refine (nil_len _).mono ?_
  rintro e x7 ⟨rfl, rfl⟩
  go_wp2_with fail
  refine (nil_rows _).mono ?_
  rintro e x8 ⟨rfl, rfl⟩
  obtain ⟨cHRW0, cHRW1, cHRW2, cHRW3, cHRW4, cHRW5, cHRW6, cHRW7, cHRW8, cHRW9⟩ := HRW.out.ten
  go_wp2_with fail
  refine (same_zrow _).mono ?_
  rintro e x9 ⟨rfl, hB⟩
  clear cHRW0 cHRW1 cHRW2 cHRW3 cHRW4 cHRW5 cHRW6 cHRW7 cHRW8 cHRW9
  replace HA := Lib.hid (gthen HA.out hB)
  replace HB1 := Lib.hid (HB1.out.below hB)
  replace HB2 := Lib.hid (HB2.out.below hB)
  replace HB3 := Lib.hid (HB3.out.below hB)
  replace HT1 := Lib.hid (HT1.out.below hB)
  replace HT2 := Lib.hid (HT2.out.below hB)
  replace HNM := Lib.hid (HNM.out.below hB)
  replace HRW := Lib.hid (HRW.out.below hB)
  clear hB
  go_wp2_with fail
  refine (works_any _).mono ?_
  rintro e x10 ⟨rfl, hB⟩
  replace HA := Lib.hid (gthen HA.out hB)
  replace HB1 := Lib.hid (HB1.out.below hB)
  replace HB2 := Lib.hid (HB2.out.below hB)
  replace HB3 := Lib.hid (HB3.out.below hB)
  replace HT1 := Lib.hid (HT1.out.below hB)
  replace HT2 := Lib.hid (HT2.out.below hB)
  replace HNM := Lib.hid (HNM.out.below hB)
  replace HRW := Lib.hid (HRW.out.below hB)
  clear hB
  go_wp2_with fail
  go_ret
  exact ⟨rfl, HA.out⟩
/-- At what came in. -/
theorem none_row (v0 v1 v2 : Value) (w : World) (h0 : ∃ n : Nm, v0 = .agg #[.int .u64 n.1, .string n.2] ∧ (Lit.int .u64 n.1).wf = true ∧ n.2.size ≤ maxLen) (h1 : ∃ t : Tsk, v1 = .agg #[.string t.p, .int .i64 t.fn, t.v, .int .i64 t.fuel] ∧ TskOk w t) (h2 : ∃ m : Int × Int, v2 = .agg #[.int .i64 m.1, .int .i64 m.2]) :
    Calls Try.prog 5 #[v0, v1, v2] w fun e w' => e = .returned (.bool true) ∧ Below w.heap.size w w' := by
  obtain ⟨n, rfl, _, _⟩ := h0
  obtain ⟨t, rfl, ht⟩ := h1
  obtain ⟨m, rfl⟩ := h2
  obtain ⟨a, c, hv⟩ := ht.1.slice
  exact none_any n t.p t.fn t.fuel t.v m.1 m.2 w ⟨a, _, c, hv⟩
end Go.Proofs.Ythbkbmkcgpdedaa
