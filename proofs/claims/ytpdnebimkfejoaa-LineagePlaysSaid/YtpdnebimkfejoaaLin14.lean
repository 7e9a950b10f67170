/- What no tree answers. -/
import Derived.Test.YtpdnebimkfejoaaLin13
namespace Go.Proofs.Ytpdnebimkfejoaa
open Go.RowKit Go.Sort Go.Lib

set_option maxHeartbeats 400000 in
theorem nil_ofT (n : Nm) (w : World) : Calls Try.prog 49 #[.pointer none, .agg #[.int .u64 n.1, .string n.2]] w fun e w' => e = .returned (.tuple #[.pointer none, .int .i64 1]) ∧ Below w.heap.size w w' := by
  have HA : Hid (Below w.heap.size w (w.alloc (.cells #[.int .u64 n.1, .string n.2] 29))) := (Below.refl _ _).alloc (Nat.le_refl _) _
  go_enter Try.func49, Try.ntmps49
  go_wp2_with fail
  go_ret2
  exact ⟨rfl, HA.out⟩
set_option maxHeartbeats 400000 in
theorem nil_aboveT (n : Nm) (w : World) : Calls Try.prog 36 #[.pointer none, .agg #[.int .u64 n.1, .string n.2]] w fun e w' => e = .returned (.pointer none) ∧ Below w.heap.size w w' := by
  have HA : Hid (Below w.heap.size w (w.alloc (.cells #[.int .u64 n.1, .string n.2] 29))) := (Below.refl _ _).alloc (Nat.le_refl _) _
  go_enter Try.func36, Try.ntmps36
  go_wp2_with fail
  go_ret
  exact ⟨rfl, HA.out⟩
set_option maxHeartbeats 3200000 in
set_option maxRecDepth 100000 in
theorem nil_ofA (n : Nm) (w : World) :
    Calls Try.prog 29 #[.pointer none, .agg #[.int .u64 n.1, .string n.2]] w fun e w' => e = .returned (.tuple #[zR, .bool false]) ∧ Below w.heap.size w w' := by
  have hA : Below w.heap.size w ((w.alloc (.cells #[.int .u64 n.1, .string n.2] 29)).alloc (.cells #[.int .u64 0, .string ⟨#[]⟩, .string ⟨#[]⟩, .int .i64 0, .slice none 0 0, .int .i64 0, .int .u8 0, .int .i64 0, .int .u64 0] 42)) := ((Below.refl _ _).alloc (Nat.le_refl _) _).alloc (by simp) _
  have hres := heap_alloc_new (w.alloc (.cells #[.int .u64 n.1, .string n.2] 29)) (.cells #[.int .u64 0, .string ⟨#[]⟩, .string ⟨#[]⟩, .int .i64 0, .slice none 0 0, .int .i64 0, .int .u8 0, .int .i64 0, .int .u64 0] 42)
  rw [show (w.alloc (.cells #[.int .u64 n.1, .string n.2] 29)).heap.size = w.heap.size + 1 by simp] at hres
  have HA := Lib.hid hA
  have HRES := Lib.hid hres
  clear hA hres
  go_enter Try.func29, Try.ntmps29
  go_wp2_with fail
  refine (nil_ofT n _).mono ?_
  rintro e w1 ⟨rfl, hB⟩
  have HA1 := Lib.hid (gthen HA.out hB)
  have j1 := (hB.block _ (Array.getElem?_eq_some_iff.1 HRES.out).1).trans HRES.out
  have hlt := (Array.getElem?_eq_some_iff.1 j1).1
  clear hB HA HRES
  have hc1 : ∀ o, w1.cell? ⟨w.heap.size + 1, o, none⟩ = #[Value.int .u64 0, .string ⟨#[]⟩, .string ⟨#[]⟩, .int .i64 0, .slice none 0 0, .int .i64 0, .int .u8 0, .int .i64 0, .int .u64 0][o]? := fun o => by simp [World.cell?, j1]
  have hz1 : ∀ o, w1.frozen? ⟨w.heap.size + 1, o, none⟩ = false := fun o => by simp [World.frozen?, j1]
  have x0 := hc1 0; have x1 := hc1 1; have x2 := hc1 2; have x3 := hc1 3; have x4 := hc1 4; have x5 := hc1 5; have x6 := hc1 6; have x7 := hc1 7; have x8 := hc1 8
  have p0 := hz1 0; have p1 := hz1 1; have p2 := hz1 2; have p3 := hz1 3; have p4 := hz1 4; have p5 := hz1 5; have p6 := hz1 6; have p7 := hz1 7; have p8 := hz1 8
  simp only [List.getElem?_toArray, List.getElem?_cons_zero, List.getElem?_cons_succ] at x0 x1 x2 x3 x4 x5 x6 x7 x8
  have hx := Lib.hid (set9 j1 (.int .u64 0) (.string ⟨#[]⟩) (.string ⟨#[]⟩) (.int .i64 0) (.slice none 0 0) (.int .i64 0) (.int .u8 0) (.int .i64 0) (.int .u64 0))
  have hB9 := Lib.hid (set9_below HA1.out (r := w.heap.size + 1) (Nat.le_succ _) (.int .u64 0) (.string ⟨#[]⟩) (.string ⟨#[]⟩) (.int .i64 0) (.slice none 0 0) (.int .i64 0) (.int .u8 0) (.int .i64 0) (.int .u64 0))
  clear j1 hc1 hz1
  go_wp2_with fail
  exact of_end hx.out rfl rfl ⟨rfl, hB9.out⟩
set_option maxHeartbeats 3200000 in
set_option maxRecDepth 100000 in
theorem nil_aboveA (n : Nm) (w : World) :
    Calls Try.prog 17 #[.pointer none, .agg #[.int .u64 n.1, .string n.2]] w fun e w' => e = .returned (.tuple #[zR, .bool false]) ∧ Below w.heap.size w w' := by
  have hA : Below w.heap.size w ((w.alloc (.cells #[.int .u64 n.1, .string n.2] 29)).alloc (.cells #[.int .u64 0, .string ⟨#[]⟩, .string ⟨#[]⟩, .int .i64 0, .slice none 0 0, .int .i64 0, .int .u8 0, .int .i64 0, .int .u64 0] 42)) := ((Below.refl _ _).alloc (Nat.le_refl _) _).alloc (by simp) _
  have hres := heap_alloc_new (w.alloc (.cells #[.int .u64 n.1, .string n.2] 29)) (.cells #[.int .u64 0, .string ⟨#[]⟩, .string ⟨#[]⟩, .int .i64 0, .slice none 0 0, .int .i64 0, .int .u8 0, .int .i64 0, .int .u64 0] 42)
  rw [show (w.alloc (.cells #[.int .u64 n.1, .string n.2] 29)).heap.size = w.heap.size + 1 by simp] at hres
  have HA := Lib.hid hA
  have HRES := Lib.hid hres
  clear hA hres
  go_enter Try.func17, Try.ntmps17
  go_wp2_with fail
  refine (nil_aboveT n _).mono ?_
  rintro e w1 ⟨rfl, hB⟩
  have HA1 := Lib.hid (gthen HA.out hB)
  have j1 := (hB.block _ (Array.getElem?_eq_some_iff.1 HRES.out).1).trans HRES.out
  have hlt := (Array.getElem?_eq_some_iff.1 j1).1
  clear hB HA HRES
  have hc1 : ∀ o, w1.cell? ⟨w.heap.size + 1, o, none⟩ = #[Value.int .u64 0, .string ⟨#[]⟩, .string ⟨#[]⟩, .int .i64 0, .slice none 0 0, .int .i64 0, .int .u8 0, .int .i64 0, .int .u64 0][o]? := fun o => by simp [World.cell?, j1]
  have hz1 : ∀ o, w1.frozen? ⟨w.heap.size + 1, o, none⟩ = false := fun o => by simp [World.frozen?, j1]
  have x0 := hc1 0; have x1 := hc1 1; have x2 := hc1 2; have x3 := hc1 3; have x4 := hc1 4; have x5 := hc1 5; have x6 := hc1 6; have x7 := hc1 7; have x8 := hc1 8
  have p0 := hz1 0; have p1 := hz1 1; have p2 := hz1 2; have p3 := hz1 3; have p4 := hz1 4; have p5 := hz1 5; have p6 := hz1 6; have p7 := hz1 7; have p8 := hz1 8
  simp only [List.getElem?_toArray, List.getElem?_cons_zero, List.getElem?_cons_succ] at x0 x1 x2 x3 x4 x5 x6 x7 x8
  have hx := Lib.hid (set9 j1 (.int .u64 0) (.string ⟨#[]⟩) (.string ⟨#[]⟩) (.int .i64 0) (.slice none 0 0) (.int .i64 0) (.int .u8 0) (.int .i64 0) (.int .u64 0))
  have hB9 := Lib.hid (set9_below HA1.out (r := w.heap.size + 1) (Nat.le_succ _) (.int .u64 0) (.string ⟨#[]⟩) (.string ⟨#[]⟩) (.int .i64 0) (.slice none 0 0) (.int .i64 0) (.int .u8 0) (.int .i64 0) (.int .u64 0))
  clear j1 hc1 hz1
  go_wp2_with fail
  exact aboveA_end hx.out rfl rfl ⟨rfl, hB9.out⟩
set_option maxHeartbeats 800000 in
set_option maxRecDepth 100000 in
theorem nil_add (job : Int) (p : ByteArray) (fn : Int) (v : Value) (fuel : Int) (w : World) : Calls Try.prog 10 #[.pointer none, .int .u64 job, .agg #[.string p, .int .i64 fn, v, .int .i64 fuel]] w fun e w' => e = .returned (.int .i64 1) ∧ Below w.heap.size w w' := by
  have HA : Hid (Below w.heap.size w ((w.alloc (.cells #[.string p, .int .i64 fn, v, .int .i64 fuel] 32)).alloc (.cells #[.int .u64 job, .string p] 29))) := (((Below.refl _ _).alloc (Nat.le_refl _) _).alloc (by simp) _)
  go_enter Try.func10, Try.ntmps10
  go_wp2_with fail
  go_ret
  exact ⟨rfl, HA.out⟩
set_option maxHeartbeats 800000 in
set_option maxRecDepth 100000 in
theorem nil_hold (n : Nm) (k e : Int) (w : World) : Calls Try.prog 20 #[.pointer none, .agg #[.int .u64 n.1, .string n.2], .int .i64 k, .int .u64 e] w fun e w' => e = .returned (.int .i64 1) ∧ Below w.heap.size w w' := by
  have HA : Hid (Below w.heap.size w (w.alloc (.cells #[.int .u64 n.1, .string n.2] 29))) := ((Below.refl _ _).alloc (Nat.le_refl _) _)
  go_enter Try.func20, Try.ntmps20
  go_wp2_with fail
  refine (nil_ofT n _).mono ?_
  rintro e w1 ⟨rfl, hB⟩
  have HA1 := Lib.hid (gthen HA.out hB)
  clear hB HA
  go_wp2_with fail
  go_ret
  exact ⟨rfl, HA1.out⟩
set_option maxHeartbeats 800000 in
set_option maxRecDepth 100000 in
theorem nil_over (n : Nm) (w : World) : Calls Try.prog 21 #[.pointer none, .agg #[.int .u64 n.1, .string n.2]] w fun e w' => e = .returned (.int .i64 1) ∧ Below w.heap.size w w' := by
  have HA : Hid (Below w.heap.size w (w.alloc (.cells #[.int .u64 n.1, .string n.2] 29))) := ((Below.refl _ _).alloc (Nat.le_refl _) _)
  go_enter Try.func21, Try.ntmps21
  go_wp2_with fail
  refine (nil_ofT n _).mono ?_
  rintro e w1 ⟨rfl, hB⟩
  have HA1 := Lib.hid (gthen HA.out hB)
  clear hB HA
  go_wp2_with fail
  go_ret
  exact ⟨rfl, HA1.out⟩
set_option maxHeartbeats 800000 in
set_option maxRecDepth 100000 in
theorem nil_drop (a : Option Addr) (n c : Nat) (w : World) : Calls Try.prog 12 #[.pointer none, .slice a n c] w fun e w' => e = .returned (.int .i64 0) ∧ Below w.heap.size w w' := by
  have HA : Hid (Below w.heap.size w (w.alloc (.cells #[.slice a n c] 74))) := ((Below.refl _ _).alloc (Nat.le_refl _) _)
  go_enter Try.func12, Try.ntmps12
  go_wp2_with fail
  go_ret
  exact ⟨rfl, HA.out⟩
set_option maxHeartbeats 800000 in
set_option maxRecDepth 100000 in
theorem nil_rows (v : Value) (w : World) : Calls Try.prog 42 #[.pointer none, v] w fun e w' => e = .returned (.slice none 0 0) ∧ Below w.heap.size w w' := by
  have HA : Hid (Below w.heap.size w w) := (Below.refl _ _)
  go_enter Try.func42, Try.ntmps42
  go_wp2_with fail
  go_ret
  exact ⟨rfl, HA.out⟩
theorem names_nil (w : World) : Calls Try.prog 44 #[.slice none 0 0] w fun e w' => e = .returned (.slice none 0 0) ∧ Below w.heap.size w w' := by
  go_enter Try.func44, Try.ntmps44
  go_wp2_with fail
  refine wp_loop_rounds 1 ?_
  rw [rounds_succ]
  go_wp2_with fail
  go_ret
  exact ⟨rfl, Below.refl _ _⟩
theorem all_nil (w : World) : Calls Try.prog 41 #[.slice none 0 0] w fun e w' => e = .returned (.slice none 0 0) ∧ Below w.heap.size w w' := by
  go_enter Try.func41, Try.ntmps41
  go_wp2_with fail
  refine wp_loop_rounds 1 ?_
  rw [rounds_succ]
  go_wp2_with fail
  go_ret
  exact ⟨rfl, Below.refl _ _⟩
set_option maxHeartbeats 800000 in
set_option maxRecDepth 100000 in
theorem nil_waits (w : World) : Calls Try.prog 16 #[.pointer none] w fun e w' => e = .returned (.slice none 0 0) ∧ Below w.heap.size w w' := by
  have HA : Hid (Below w.heap.size w w) := (Below.refl _ _)
  go_enter Try.func16, Try.ntmps16
  go_wp2_with fail
  refine (nil_rows _ _).mono ?_
  rintro e w1 ⟨rfl, hB⟩
  have HA1 := Lib.hid (gthen HA.out hB)
  clear hB HA
  go_wp2_with fail
  refine (names_nil _).mono ?_
  rintro e w2 ⟨rfl, hB⟩
  have HA2 := Lib.hid (gthen HA1.out hB)
  clear hB HA1
  go_wp2_with fail
  go_ret
  exact ⟨rfl, HA2.out⟩
set_option maxHeartbeats 800000 in
set_option maxRecDepth 100000 in
theorem nil_rowsA (w : World) : Calls Try.prog 13 #[.pointer none] w fun e w' => e = .returned (.slice none 0 0) ∧ Below w.heap.size w w' := by
  have HA : Hid (Below w.heap.size w w) := (Below.refl _ _)
  go_enter Try.func13, Try.ntmps13
  go_wp2_with fail
  refine (nil_rows _ _).mono ?_
  rintro e w1 ⟨rfl, hB⟩
  have HA1 := Lib.hid (gthen HA.out hB)
  clear hB HA
  go_wp2_with fail
  refine (all_nil _).mono ?_
  rintro e w2 ⟨rfl, hB⟩
  have HA2 := Lib.hid (gthen HA1.out hB)
  clear hB HA1
  go_wp2_with fail
  go_ret
  exact ⟨rfl, HA2.out⟩
set_option maxHeartbeats 800000 in
set_option maxRecDepth 100000 in
theorem nil_within (n : Nm) (w : World) : Calls Try.prog 19 #[.pointer none, .agg #[.int .u64 n.1, .string n.2]] w fun e w' => e = .returned (.slice none 0 0) ∧ Below w.heap.size w w' := by
  have HA : Hid (Below w.heap.size w ((w.alloc (.cells #[.pointer none] 25)).alloc (.cells #[.int .u64 n.1, .string n.2] 29))) := (((Below.refl _ _).alloc (Nat.le_refl _) _).alloc (by simp) _)
  go_enter Try.func19, Try.ntmps19
  go_wp2_with fail
  refine (nil_rows _ _).mono ?_
  rintro e w1 ⟨rfl, hB⟩
  have HA1 := Lib.hid (gthen HA.out hB)
  clear hB HA
  go_wp2_with fail
  refine (all_nil _).mono ?_
  rintro e w2 ⟨rfl, hB⟩
  have HA2 := Lib.hid (gthen HA1.out hB)
  clear hB HA1
  go_wp2_with fail
  go_ret
  exact ⟨rfl, HA2.out⟩
set_option maxHeartbeats 800000 in
set_option maxRecDepth 100000 in
theorem nil_lost (a : Option Addr) (n c : Nat) (w : World) : Calls Try.prog 22 #[.pointer none, .slice a n c] w fun e w' => e = .returned (.slice none 0 0) ∧ Below w.heap.size w w' := by
  have HA : Hid (Below w.heap.size w (w.alloc (.cells #[.slice a n c] 60))) := (Below.refl _ _).alloc (Nat.le_refl _) _
  go_enter Try.func22, Try.ntmps22
  go_wp2_with fail
  refine (nil_rows _ _).mono ?_
  rintro e w1 ⟨rfl, hB⟩
  have HA1 := Lib.hid (gthen HA.out hB)
  clear hB HA
  go_wp2_with fail
  refine wp_loop_rounds 1 ?_
  rw [rounds_succ]
  go_wp2_with fail
  refine (names_nil _).mono ?_
  rintro e w2 ⟨rfl, hB⟩
  have HA2 := Lib.hid (gthen HA1.out hB)
  clear hB HA1
  go_wp2_with fail
  go_ret
  exact ⟨rfl, HA2.out⟩
theorem same_zero (w : World) : Calls Try.prog 18 #[zR, zR] w fun e w' => e = .returned (.bool true) ∧ Below w.heap.size w w' := by
  have h := same_any ((0, ⟨#[]⟩), ⟨0, none, 0, [], 0, 0, 0, 0⟩) ((0, ⟨#[]⟩), ⟨0, none, 0, [], 0, 0, 0, 0⟩) w (.inl ⟨rfl, none, 0, rfl⟩) (.inl ⟨rfl, none, 0, rfl⟩) (by decide)
  rw [sameR_refl] at h
  exact h
end Go.Proofs.Ytpdnebimkfejoaa
