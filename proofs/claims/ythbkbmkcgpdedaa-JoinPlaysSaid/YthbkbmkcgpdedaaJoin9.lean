/- What no table answers; a table of the call's own. -/
import Derived.Test.YthbkbmkcgpdedaaJoin8
namespace Go.Proofs.Ythbkbmkcgpdedaa
open Go.RowKit Go.Sort Go.Lib

set_option maxHeartbeats 800000 in
theorem nil_of (n : Nm) (v : Value) (w : World) (hv : ∃ a k c, v = .slice a k c) : Calls Try.prog 40 #[.pointer none, .agg #[.int .u64 n.1, .string n.2], v] w fun e w' => e = .returned (.tuple #[.pointer none, .int .i64 1]) ∧ Below w.heap.size w w' := by
  obtain ⟨a, k, c, rfl⟩ := hv
  go_enter Try.func40, Try.ntmps40
  go_wp2_with fail
  go_ret2
  exact ⟨rfl, (Below.refl _ _).alloc (Nat.le_refl _) _⟩
set_option maxHeartbeats 800000 in
theorem nil_put (job : Int) (p : ByteArray) (fn fuel : Int) (v : Value) (w : World) (hv : ∃ a k c, v = .slice a k c) : Calls Try.prog 9 #[.pointer none, .int .u64 job, .agg #[.string p, .int .i64 fn, v, .int .i64 fuel]] w fun e w' => e = .returned (.int .i64 1) ∧ Below w.heap.size w w' := by
  obtain ⟨a, k, c, rfl⟩ := hv
  go_enter Try.func9, Try.ntmps9
  go_wp2_with fail
  go_ret
  exact ⟨ret_intE rfl, (Below.refl _ _).alloc (Nat.le_refl _) _⟩
set_option maxHeartbeats 800000 in
theorem nil_wait (n : Nm) (w : World) : Calls Try.prog 17 #[.pointer none, .agg #[.int .u64 n.1, .string n.2]] w fun e w' => e = .returned (.tuple #[.bool false, .int .i64 1]) ∧ Below w.heap.size w w' := by
  go_enter Try.func17, Try.ntmps17
  go_wp2_with fail
  refine (nil_of n _ _ ⟨_, _, _, rfl⟩).mono ?_
  rintro e w2 ⟨rfl, hB⟩
  have HB := Lib.hid (gthen (((Below.refl _ _).alloc (Nat.le_refl _) _).alloc (by simp) _) hB)
  clear hB
  go_wp2_with fail
  go_ret2
  exact ⟨rfl, HB.out⟩
set_option maxHeartbeats 800000 in
theorem nil_back (n : Nm) (w : World) : Calls Try.prog 21 #[.pointer none, .agg #[.int .u64 n.1, .string n.2]] w fun e w' => e = .returned (.int .i64 1) ∧ Below w.heap.size w w' := by
  go_enter Try.func21, Try.ntmps21
  go_wp2_with fail
  refine (nil_of n _ _ ⟨_, _, _, rfl⟩).mono ?_
  rintro e w2 ⟨rfl, hB⟩
  have HB := Lib.hid (gthen (((Below.refl _ _).alloc (Nat.le_refl _) _).alloc (by simp) _) hB)
  clear hB
  go_wp2_with fail
  go_ret
  exact ⟨ret_intE rfl, HB.out⟩
set_option maxHeartbeats 800000 in
theorem nil_fork (n : Nm) (p : ByteArray) (fn fuel : Int) (v : Value) (w : World) (hv : ∃ a k c, v = .slice a k c) : Calls Try.prog 12 #[.pointer none, .agg #[.int .u64 n.1, .string n.2], .agg #[.string p, .int .i64 fn, v, .int .i64 fuel]] w fun e w' => e = .returned (.int .i64 1) ∧ Below w.heap.size w w' := by
  obtain ⟨a, k, c, rfl⟩ := hv
  go_enter Try.func12, Try.ntmps12
  go_wp2_with fail
  refine (nil_of n _ _ ⟨_, _, _, rfl⟩).mono ?_
  rintro e w2 ⟨rfl, hB⟩
  have HB := Lib.hid (gthen ((((Below.refl _ _).alloc (Nat.le_refl _) _).alloc (by simp) _).alloc (by simp; omega) _) hB)
  clear hB
  go_wp2_with fail
  go_ret
  exact ⟨ret_intE rfl, HB.out⟩
set_option maxHeartbeats 800000 in
theorem nil_len (w : World) : Calls Try.prog 27 #[.pointer none] w fun e w' => e = .returned (.int .i64 0) ∧ w' = w := by
  go_enter Try.func27, Try.ntmps27
  go_wp2_with fail
  go_ret
  exact ⟨ret_intE rfl, rfl⟩
set_option maxHeartbeats 800000 in
theorem nil_rows (w : World) : Calls Try.prog 31 #[.pointer none] w fun e w' => e = .returned (.slice none 0 0) ∧ w' = w := by
  go_enter Try.func31, Try.ntmps31
  go_wp2_with fail
  go_ret
  exact ⟨rfl, rfl⟩
set_option maxHeartbeats 800000 in
theorem nil_drop (v : Value) (w : World) (hv : ∃ a k c, v = .slice a k c) : Calls Try.prog 25 #[.pointer none, v] w fun e w' => e = .returned (.int .i64 0) ∧ w' = w := by
  obtain ⟨a, k, c, rfl⟩ := hv
  go_enter Try.func25, Try.ntmps25
  go_wp2_with fail
  go_ret
  exact ⟨ret_intE rfl, rfl⟩
theorem reads_num (w : World) (a : Int) (T : TypeId) : ReadsK encI 1 (w.alloc (.cells #[.int .i64 a] T)) (.slice (some ⟨w.heap.size, 0, none⟩) 1 1) [a] := by
  refine .inr ⟨w.heap.size, 0, 1, rfl, by simp, fun i hi t u hu => ?_⟩
  have : i = 0 := by simpa using hi
  subst this
  match t with
  | 0 => simp [encI] at hu; subst hu; simp
  | t + 1 => simp [encI] at hu
set_option maxHeartbeats 800000 in
set_option maxRecDepth 100000 in
theorem task_any (p : ByteArray) (w : World) : Calls Try.prog 35 #[.string p] w fun e w' => ∃ a c, e = .returned (.agg #[.string p, .int .i64 0, .slice a 1 c, .int .i64 9]) ∧ ReadsK encI 1 w' (.slice a 1 c) [1] ∧ Below w.heap.size w w' := by
  go_enter Try.func35, Try.ntmps35
  go_wp2_with fail
  refine bodyPost_ret (v := .agg #[.string p, .int .i64 0, .slice (some ⟨w.heap.size + 1, 0, none⟩) 1 1, .int .i64 9]) ?_ rfl ⟨_, _, rfl, ?_, ((Below.refl _ _).alloc (Nat.le_refl _) _).alloc (by simp) _⟩
  · simp [results, Try.results35, go_sem]
  · have h := reads_num (w.alloc (.cells #[.string p, .int .i64 0, .slice (some ⟨w.heap.size + 1, 0, none⟩) 1 1, .int .i64 9] 38)) 1 2
    rw [show (w.alloc (.cells #[.string p, .int .i64 0, .slice (some ⟨w.heap.size + 1, 0, none⟩) 1 1, .int .i64 9] 38)).heap.size = w.heap.size + 1 by simp] at h
    exact h
def zT : Value := .agg #[.string ⟨#[]⟩, .int .i64 0, .slice none 0 0, .int .i64 0]
def zR : Value := .agg #[.int .u64 0, .string ⟨#[]⟩, .string ⟨#[]⟩, .int .i64 0, .slice none 0 0, .int .i64 0, .int .u8 0, .int .i64 0, .int .i64 0, .int .i64 0]
set_option maxHeartbeats 1600000 in
set_option maxRecDepth 100000 in
theorem nil_begin (n : Nm) (w : World) : Calls Try.prog 14 #[.pointer none, .agg #[.int .u64 n.1, .string n.2]] w fun e w' => e = .returned (.tuple #[zT, .int .i64 1]) ∧ Below w.heap.size w w' := by
  have hA1 : Below w.heap.size w ((w.alloc (.cells #[.int .u64 n.1, .string n.2] 35)).alloc (.cells #[.string ⟨#[]⟩, .int .i64 0, .slice none 0 0, .int .i64 0] 38)) := ((Below.refl _ _).alloc (Nat.le_refl _) _).alloc (by simp) _
  have hres := heap_alloc_new (w.alloc (.cells #[.int .u64 n.1, .string n.2] 35)) (.cells #[.string ⟨#[]⟩, .int .i64 0, .slice none 0 0, .int .i64 0] 38)
  rw [show (w.alloc (.cells #[.int .u64 n.1, .string n.2] 35)).heap.size = w.heap.size + 1 by simp] at hres
  have n1 : ((w.alloc (.cells #[.int .u64 n.1, .string n.2] 35)).alloc (.cells #[.string ⟨#[]⟩, .int .i64 0, .slice none 0 0, .int .i64 0] 38)).cell? ⟨w.heap.size, 0, none⟩ = some (.int .u64 n.1) := by simp
  have n2 : ((w.alloc (.cells #[.int .u64 n.1, .string n.2] 35)).alloc (.cells #[.string ⟨#[]⟩, .int .i64 0, .slice none 0 0, .int .i64 0] 38)).cell? ⟨w.heap.size, 1, none⟩ = some (.string n.2) := by simp
  have HA := Lib.hid hA1
  have HRES := Lib.hid hres
  clear hA1 hres
  go_enter Try.func14, Try.ntmps14
  generalize hwa : (w.alloc (.cells #[.int .u64 n.1, .string n.2] 35)).alloc (.cells #[.string ⟨#[]⟩, .int .i64 0, .slice none 0 0, .int .i64 0] 38) = wa at *
  go_upto_region 1 with fail
  clear hwa
  have hB1 : Below wa.heap.size wa (wa.alloc (.cells #[.int .u8 1, .int .u8 4] 5)) := (Below.refl _ _).alloc (Nat.le_refl _) _
  go_wp2_with fail
  refine (nil_of n _ _ ⟨_, _, _, rfl⟩).mono ?_
  rintro e w2 ⟨rfl, hB⟩
  have hBB := gthen hB1 hB
  have hr2 := (hBB.block _ (Array.getElem?_eq_some_iff.1 HRES.out).1).trans HRES.out
  have HA2 := Lib.hid (gthen HA.out hBB)
  have hc2 : ∀ o, w2.cell? ⟨w.heap.size + 1, o, none⟩ = #[Value.string ⟨#[]⟩, .int .i64 0, .slice none 0 0, .int .i64 0][o]? := fun o => by simp [World.cell?, hr2]
  have hz2 : ∀ o, w2.frozen? ⟨w.heap.size + 1, o, none⟩ = false := fun o => by simp [World.frozen?, hr2]
  have y0 := hc2 0; have y1 := hc2 1; have y2 := hc2 2; have y3 := hc2 3
  have q0 := hz2 0; have q1 := hz2 1; have q2 := hz2 2; have q3 := hz2 3
  simp only [List.getElem?_toArray, List.getElem?_cons_zero, List.getElem?_cons_succ] at y0 y1 y2 y3
  have HR2 := Lib.hid hr2
  clear hB hB1 hBB hr2 hc2 hz2 n1 n2
  go_wp2_with fail
  exact begin_end (set4 HR2.out _ _ _ _) rfl rfl ⟨rfl, set4_below HA2.out (r := w.heap.size + 1) (Nat.le_succ _) _ _ _ _⟩
theorem leave_end {wz : World} {tmps : Array Value} {p : ByteArray} {fn fuel c : Int} {v : Value} {r : Nat} {T : TypeId} {R : Ending → World → Prop}
    (hr : wz.heap[r]? = some (.cells #[.string p, .int .i64 fn, v, .int .i64 fuel] T (0, 0))) (h4 : tmps.getD 4 undef = .pointer (some ⟨r, 0, none⟩)) (h5 : tmps.getD 5 undef = .int .i64 c) (hR : R (.returned (.tuple #[.agg #[.string p, .int .i64 fn, v, .int .i64 fuel], .int .i64 c])) wz) :
    bodyPost Try.prog Try.f19 R Exit.ret { tmps := tmps, defers := [] } wz := by
  have c0 : wz.cell? ⟨r, 0, none⟩ = some (.string p) := by simp [World.cell?, hr]
  have c1 : wz.cell? ⟨r, 1, none⟩ = some (.int .i64 fn) := by simp [World.cell?, hr]
  have c2 : wz.cell? ⟨r, 2, none⟩ = some v := by simp [World.cell?, hr]
  have c3 : wz.cell? ⟨r, 3, none⟩ = some (.int .i64 fuel) := by simp [World.cell?, hr]
  refine bodyPost_ret (v := .tuple #[.agg #[.string p, .int .i64 fn, v, .int .i64 fuel], .int .i64 c]) ?_ rfl hR
  have h4' : tmps[4]?.getD undef = .pointer (some ⟨r, 0, none⟩) := by simpa using h4
  have h5' : tmps[5]?.getD undef = .int .i64 c := by simpa using h5
  simp [results, Try.results19, go_sem, h4', h5', c0, c1, c2, c3]
set_option maxHeartbeats 1600000 in
set_option maxRecDepth 100000 in
theorem nil_leave (n : Nm) (w : World) : Calls Try.prog 19 #[.pointer none, .agg #[.int .u64 n.1, .string n.2]] w fun e w' => e = .returned (.tuple #[zT, .int .i64 1]) ∧ Below w.heap.size w w' := by
  have hA1 : Below w.heap.size w ((w.alloc (.cells #[.int .u64 n.1, .string n.2] 35)).alloc (.cells #[.string ⟨#[]⟩, .int .i64 0, .slice none 0 0, .int .i64 0] 38)) := ((Below.refl _ _).alloc (Nat.le_refl _) _).alloc (by simp) _
  have hres := heap_alloc_new (w.alloc (.cells #[.int .u64 n.1, .string n.2] 35)) (.cells #[.string ⟨#[]⟩, .int .i64 0, .slice none 0 0, .int .i64 0] 38)
  rw [show (w.alloc (.cells #[.int .u64 n.1, .string n.2] 35)).heap.size = w.heap.size + 1 by simp] at hres
  have n1 : ((w.alloc (.cells #[.int .u64 n.1, .string n.2] 35)).alloc (.cells #[.string ⟨#[]⟩, .int .i64 0, .slice none 0 0, .int .i64 0] 38)).cell? ⟨w.heap.size, 0, none⟩ = some (.int .u64 n.1) := by simp
  have n2 : ((w.alloc (.cells #[.int .u64 n.1, .string n.2] 35)).alloc (.cells #[.string ⟨#[]⟩, .int .i64 0, .slice none 0 0, .int .i64 0] 38)).cell? ⟨w.heap.size, 1, none⟩ = some (.string n.2) := by simp
  have HA := Lib.hid hA1
  have HRES := Lib.hid hres
  clear hA1 hres
  go_enter Try.func19, Try.ntmps19
  generalize hwa : (w.alloc (.cells #[.int .u64 n.1, .string n.2] 35)).alloc (.cells #[.string ⟨#[]⟩, .int .i64 0, .slice none 0 0, .int .i64 0] 38) = wa at *
  go_upto_region 1 with fail
  clear hwa
  have hB1 : Below wa.heap.size wa (wa.alloc (.cells #[.int .u8 1] 5)) := (Below.refl _ _).alloc (Nat.le_refl _) _
  go_wp2_with fail
  refine (nil_of n _ _ ⟨_, _, _, rfl⟩).mono ?_
  rintro e w2 ⟨rfl, hB⟩
  have hBB := gthen hB1 hB
  have hr2 := (hBB.block _ (Array.getElem?_eq_some_iff.1 HRES.out).1).trans HRES.out
  have HA2 := Lib.hid (gthen HA.out hBB)
  have hc2 : ∀ o, w2.cell? ⟨w.heap.size + 1, o, none⟩ = #[Value.string ⟨#[]⟩, .int .i64 0, .slice none 0 0, .int .i64 0][o]? := fun o => by simp [World.cell?, hr2]
  have hz2 : ∀ o, w2.frozen? ⟨w.heap.size + 1, o, none⟩ = false := fun o => by simp [World.frozen?, hr2]
  have y0 := hc2 0; have y1 := hc2 1; have y2 := hc2 2; have y3 := hc2 3
  have q0 := hz2 0; have q1 := hz2 1; have q2 := hz2 2; have q3 := hz2 3
  simp only [List.getElem?_toArray, List.getElem?_cons_zero, List.getElem?_cons_succ] at y0 y1 y2 y3
  have HR2 := Lib.hid hr2
  clear hB hB1 hBB hr2 hc2 hz2 n1 n2
  go_wp2_with fail
  exact leave_end (set4 HR2.out _ _ _ _) rfl rfl ⟨rfl, set4_below HA2.out (r := w.heap.size + 1) (Nat.le_succ _) _ _ _ _⟩
end Go.Proofs.Ythbkbmkcgpdedaa
