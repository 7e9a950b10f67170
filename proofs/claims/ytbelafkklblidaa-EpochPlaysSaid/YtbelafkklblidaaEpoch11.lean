/- What no fences answer. -/
import Derived.Test.YtbelafkklblidaaEpoch10
namespace Go.Proofs.Ytbelafkklblidaa
open Go.RowKit Go.Sort Go.Lib

set_option maxHeartbeats 800000 in
theorem nil_grant (n : Nm) (w : World) : Calls Try.prog 11 #[.pointer none, .agg #[.int .u64 n.1, .string n.2]] w fun e w' => e = .returned (.tuple #[.int .u64 0, .int .i64 1]) ∧ Below w.heap.size w w' := by
  go_enter Try.func11, Try.ntmps11
  go_wp2_with fail
  go_ret2
  exact ⟨rfl, (Below.refl _ _).alloc (Nat.le_refl _) _⟩
set_option maxHeartbeats 800000 in
theorem nil_take (n : Nm) (w : World) : Calls Try.prog 13 #[.pointer none, .agg #[.int .u64 n.1, .string n.2]] w fun e w' => e = .returned (.int .i64 1) ∧ Below w.heap.size w w' := by
  go_enter Try.func13, Try.ntmps13
  go_wp2_with fail
  go_ret
  exact ⟨ret_int rfl, (Below.refl _ _).alloc (Nat.le_refl _) _⟩
set_option maxHeartbeats 800000 in
theorem nil_drop (job : Int) (w : World) : Calls Try.prog 15 #[.pointer none, .int .u64 job] w fun e w' => e = .returned (.int .i64 0) ∧ Below w.heap.size w w' := by
  go_enter Try.func15, Try.ntmps15
  go_wp2_with fail
  go_ret
  exact ⟨ret_int rfl, (Below.refl _ _).alloc (Nat.le_refl _) _⟩
set_option maxHeartbeats 800000 in
theorem nil_rows (w : World) : Calls Try.prog 22 #[.pointer none] w fun e w' => e = .returned (.slice none 0 0) ∧ w' = w := by
  go_enter Try.func22, Try.ntmps22
  go_wp2_with fail
  go_ret
  exact ⟨rfl, rfl⟩
set_option maxHeartbeats 800000 in
theorem nil_last (w : World) : Calls Try.prog 21 #[.pointer none] w fun e w' => e = .returned (.int .u64 0) ∧ w' = w := by
  go_enter Try.func21, Try.ntmps21
  go_wp2_with fail
  go_ret
  exact ⟨ret_int rfl, rfl⟩
set_option maxHeartbeats 800000 in
set_option maxRecDepth 100000 in
theorem nil_owner (n : Nm) (w : World) : Calls Try.prog 17 #[.pointer none, .agg #[.int .u64 n.1, .string n.2]] w fun e w' => e = .returned (.tuple #[grV none, .bool (none : Option (Nm × Int)).isSome]) ∧ Below w.heap.size w w' := by
  have hB0 : Below w.heap.size w ((w.alloc (.cells #[.int .u64 n.1, .string n.2] 35)).alloc (.cells #[.int .u64 0, .string ⟨#[]⟩, .int .u64 0] 43)) :=
    ((Below.refl _ _).alloc (Nat.le_refl _) _).alloc (by simp) _
  have hres : ((w.alloc (.cells #[.int .u64 n.1, .string n.2] 35)).alloc (.cells #[.int .u64 0, .string ⟨#[]⟩, .int .u64 0] 43)).heap[w.heap.size + 1]? = some (.cells #[.int .u64 0, .string ⟨#[]⟩, .int .u64 0] 43 (0, 0)) := by
    have e := heap_alloc_new (w.alloc (.cells #[.int .u64 n.1, .string n.2] 35)) (.cells #[.int .u64 0, .string ⟨#[]⟩, .int .u64 0] 43)
    rw [show (w.alloc (.cells #[.int .u64 n.1, .string n.2] 35)).heap.size = w.heap.size + 1 from by simp] at e
    exact e
  have HR := Lib.hid hres
  have HB := Lib.hid hB0
  clear hres hB0
  go_enter Try.func17, Try.ntmps17
  go_wp2_with fail
  exact owner_end HR.out rfl rfl rfl rfl HB.out
set_option maxHeartbeats 800000 in
theorem nil_allows (n : Nm) (x : Int) (w : World) : Calls Try.prog 19 #[.pointer none, .agg #[.int .u64 n.1, .string n.2], .int .u64 x] w fun e w' => e = .returned (.int .i64 1) ∧ Below w.heap.size w w' := by
  go_enter Try.func19, Try.ntmps19
  go_wp2_with fail
  refine (nil_owner n _).mono ?_
  rintro e w2 ⟨rfl, hB2⟩
  unfold grV
  go_wp2_with fail
  go_ret
  exact ⟨ret_int rfl, (((Below.refl _ _).alloc (Nat.le_refl _) _).trans (hB2.mono (by simp))).alloc (by have := hB2.size; simp at this; omega) _⟩
end Go.Proofs.Ytbelafkklblidaa
