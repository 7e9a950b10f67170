/- Whole; what no ledger answers; the document's example. -/
import Derived.Test.YtibfcoaiodmimaaWant2
import Derived.Test.YtibfcoaiodmimaaUnd2
namespace Go.Proofs.Ytibfcoaiodmimaa
open Go.RowKit Go.Sort Go.Lib Go.Shelf

theorem ret_boolE {b c : Bool} (h : b = c) : Ending.returned (.bool b) = Ending.returned (.bool c) := by rw [h]
theorem ret_intE {k : IntKind} {b c : Int} (h : b = c) : Ending.returned (.int k b) = Ending.returned (.int k c) := by rw [h]
theorem mapNeE (w : World) (r : Option Nat) : (binOp .neq 48 (.map r) (.map none)).run Try.prog w = .ok (.bool r.isSome) w :=
  by cases r <;> kernel_rfl
def wholeR (root : Nm) (l : List (Nm × Ent)) : Bool := mayS root.2 && (wantR root l).isEmpty
set_option maxHeartbeats 1600000 in
set_option maxRecDepth 100000 in
theorem whole_led (f m : Nat) (most : Int) (l : List (Nm × Ent)) (root : Nm) (w : World) (h : Led w f m most l) (HKX : GoodL l) (hn : (wantP l root.1 13 root.2).length ≤ 1000000) (hs : root.2.size ≤ 9223372036854775807) :
    Calls Try.prog 12 #[.pointer (some ⟨f, 0, none⟩), .agg #[.int .u64 root.1, .string root.2]] w fun e w' => e = .returned (.bool (wholeR root l)) ∧ Below w.heap.size w w' := by
  have hA : Below w.heap.size w (w.alloc (.cells #[.int .u64 root.1, .string root.2] 25)) := (Below.refl _ _).alloc (Nat.le_refl _) _
  have HL := Lib.hid (h.below hA)
  have n1 : (w.alloc (.cells #[.int .u64 root.1, .string root.2] 25)).cell? ⟨w.heap.size, 0, none⟩ = some (.int .u64 root.1) := by simp
  have n2 : (w.alloc (.cells #[.int .u64 root.1, .string root.2] 25)).cell? ⟨w.heap.size, 1, none⟩ = some (.string root.2) := by simp
  have HA := Lib.hid hA
  have c1 := HL.out.c1
  have mn := mapNeE
  clear h hA
  go_enter Try.func12, Try.ntmps12
  go_wp2_with fail
  trace_state
  refine (may_any root.2 _ hs).mono ?_
  rintro e wb ⟨rfl, hB⟩
  have HL2 := Lib.hid (HL.out.below hB)
  replace n1 := cell_keep hB n1
  replace n2 := cell_keep hB n2
  have HB := Lib.hid (HA.out.trans (hB.mono HA.out.size))
  clear hB HL HA c1
  cases hm : mayS root.2
  · have hu := Lib.hid (show wholeR root l = false by unfold wholeR; rw [hm]; rfl)
    clear hm
    go_wp2_with fail
    go_ret
    exact ⟨ret_boolE hu.out.symm, HB.out⟩
  · have hu := Lib.hid (show wholeR root l = (wantR root l).isEmpty by unfold wholeR; rw [hm]; rfl)
    clear hm
    go_wp2_with fail
    refine (wants_led f m most l root _ HL2.out HKX hn hs).mono ?_
    rintro e w7 ⟨v, rfl, ho, hB7⟩
    have HB7 := Lib.hid (HB.out.trans (hB7.mono HB.out.size))
    clear hB7 HL2 HB n1 n2
    generalize hwl : wantR root l = wl at *
    have hsl : ∃ a c, v = .slice a wl.length c := by
      obtain ⟨_, ⟨hv, hz⟩ | ⟨g, cap, cur, hv, _⟩⟩ := ho
      · exact ⟨none, 0, by rw [hv, hz]⟩
      · exact ⟨_, _, hv⟩
    obtain ⟨a, c, rfl⟩ := hsl
    clear ho hwl
    cases wl with
    | nil =>
      go_wp2_with fail
      go_ret
      exact ⟨ret_boolE hu.out.symm, HB7.out⟩
    | cons x xs =>
      have hne : ((xs.length : Int) + 1 = 0) = False := by simp; omega
      go_wp2_with fail
      go_ret
      exact ⟨ret_boolE hu.out.symm, HB7.out⟩
set_option maxHeartbeats 800000 in
theorem nil_commit (x : Ent) (w : World) : Calls Try.prog 9 #[.pointer none, .agg #[.int .u64 x.1.1, .string x.1.2, .int .i64 x.2.1, .int .i64 x.2.2.1, .int .i64 x.2.2.2]] w fun e w' => e = .returned (.tuple #[.bool false, .int .i64 1]) ∧ Below w.heap.size w w' := by
  go_enter Try.func9, Try.ntmps9
  go_wp2_with fail
  go_ret2
  exact ⟨rfl, (Below.refl _ _).alloc (Nat.le_refl _) _⟩
set_option maxHeartbeats 800000 in
theorem nil_whole (n : Nm) (w : World) : Calls Try.prog 12 #[.pointer none, .agg #[.int .u64 n.1, .string n.2]] w fun e w' => e = .returned (.bool false) ∧ Below w.heap.size w w' := by
  go_enter Try.func12, Try.ntmps12
  go_wp2_with fail
  go_ret
  exact ⟨ret_boolE rfl, (Below.refl _ _).alloc (Nat.le_refl _) _⟩
set_option maxHeartbeats 800000 in
theorem nil_under (n : Nm) (w : World) : Calls Try.prog 11 #[.pointer none, .agg #[.int .u64 n.1, .string n.2]] w fun e w' => e = .returned (.slice none 0 0) ∧ Below w.heap.size w w' := by
  go_enter Try.func11, Try.ntmps11
  go_wp2_with fail
  go_ret
  exact ⟨rfl, (Below.refl _ _).alloc (Nat.le_refl _) _⟩
set_option maxHeartbeats 800000 in
theorem nil_wants (n : Nm) (w : World) : Calls Try.prog 10 #[.pointer none, .agg #[.int .u64 n.1, .string n.2]] w fun e w' => e = .returned (.slice none 0 0) ∧ Below w.heap.size w w' := by
  go_enter Try.func10, Try.ntmps10
  go_wp2_with fail
  go_ret
  exact ⟨rfl, (Below.refl _ _).alloc (Nat.le_refl _) _⟩
set_option maxHeartbeats 800000 in
theorem nil_drop (v : Value) (w : World) (hv : ∃ a n c, v = .slice a n c) : Calls Try.prog 16 #[.pointer none, v] w fun e w' => e = .returned (.int .i64 0) ∧ Below w.heap.size w w' := by
  obtain ⟨a, n, c, rfl⟩ := hv
  go_enter Try.func16, Try.ntmps16
  go_wp2_with fail
  go_ret
  exact ⟨ret_intE rfl, (Below.refl _ _).alloc (Nat.le_refl _) _⟩
set_option maxHeartbeats 800000 in
theorem nil_len (w : World) : Calls Try.prog 13 #[.pointer none] w fun e w' => e = .returned (.int .i64 0) ∧ w' = w := by
  go_enter Try.func13, Try.ntmps13
  go_wp2_with fail
  go_ret
  exact ⟨ret_intE rfl, rfl⟩
set_option maxHeartbeats 800000 in
set_option maxRecDepth 100000 in
theorem nil_of (n : Nm) (w : World) : Calls Try.prog 14 #[.pointer none, .agg #[.int .u64 n.1, .string n.2]] w fun e w' => e = .returned (.tuple #[evE zE, .bool false]) ∧ Below w.heap.size w w' := by
  have hB0 : Below w.heap.size w ((w.alloc (.cells #[.int .u64 n.1, .string n.2] 25)).alloc (.cells #[.int .u64 0, .string ⟨#[]⟩, .int .i64 0, .int .i64 0, .int .i64 0] 38)) :=
    ((Below.refl _ _).alloc (Nat.le_refl _) _).alloc (by simp) _
  have hres : ((w.alloc (.cells #[.int .u64 n.1, .string n.2] 25)).alloc (.cells #[.int .u64 0, .string ⟨#[]⟩, .int .i64 0, .int .i64 0, .int .i64 0] 38)).heap[w.heap.size + 1]? = some (.cells #[.int .u64 0, .string ⟨#[]⟩, .int .i64 0, .int .i64 0, .int .i64 0] 38 (0, 0)) := by
    have e := heap_alloc_new (w.alloc (.cells #[.int .u64 n.1, .string n.2] 25)) (.cells #[.int .u64 0, .string ⟨#[]⟩, .int .i64 0, .int .i64 0, .int .i64 0] 38)
    rw [show (w.alloc (.cells #[.int .u64 n.1, .string n.2] 25)).heap.size = w.heap.size + 1 from by simp] at e
    exact e
  have HR := Lib.hid hres
  have HB := Lib.hid hB0
  clear hres hB0
  go_enter Try.func14, Try.ntmps14
  go_wp2_with fail
  trace_state
  exact of_end (x := zE) (isb := false) HR.out rfl rfl HB.out
set_option maxHeartbeats 400000 in
theorem at_any (p : ByteArray) (w : World) : Calls Try.prog 17 #[.string p] w fun e w' => e = .returned (.agg #[.int .u64 1, .string p]) ∧ Below w.heap.size w w' := by
  go_enter Try.func17, Try.ntmps17
  go_wp2_with fail
  refine bodyPost_ret (v := .agg #[.int .u64 1, .string p]) ?_ rfl ⟨rfl, (Below.refl _ _).alloc (Nat.le_refl _) _⟩
  simp [results, Try.results17, go_sem]
end Go.Proofs.Ytibfcoaiodmimaa
