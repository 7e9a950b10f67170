/- Contracts: thresherref13's divide, Calc, Plain. -/
import Derived.Test.YtdhbjejejeljoaaEv21
import Derived.Test.YtdhbjejejeljoaaEv10
namespace Go.Proofs.Ytdhbjejejeljoaa
open Go.RowKit Go.Sort Go.Lib

theorem tdiv_m1 (a : Int) : a.tdiv (-1) = -a := by rw [Int.tdiv_neg, Int.tdiv_one]
theorem tmod_m1 (a : Int) : a.tmod (-1) = 0 := by rw [Int.tmod_neg]; exact Int.tmod_one a
set_option maxHeartbeats 800000 in
theorem divide_any (a b : Int) (w : World) (h : b ≠ 0) :
    Calls Try.prog 84 #[.int .i64 a, .int .i64 b] w fun e w' => e = .returned (.tuple #[.int .i64 (wrap64 (a.tdiv b)), .int .i64 (a.tmod b)]) ∧ ∃ n, w' = w.drewN n := by
  by_cases h1 : b = -1
  · subst h1
    rw [tdiv_m1, tmod_m1]
    go_enter Try.func84, Try.ntmps84
    go_wp2
    go_ret2
    exact ⟨ret_two (vi rfl) rfl, 0, rfl⟩
  · have h2 : (b == -1) = false := by simpa using h1
    have h3 : (b == 0) = false := by simpa using h
    go_enter Try.func84, Try.ntmps84
    go_upto_region 3 with fail
    go_quiet (fail)
    go_wp2_with fail
    go_ret2
    exact ⟨ret_two (vi rfl) rfl, _, rfl⟩
def CalcP (k a b : Int) (w : World) (e : Ending) (w' : World) : Prop :=
  (∃ n, w' = w.drewN n) ∧ match calcP k a b with
    | none => e = .returned (.tuple #[.int .i64 0, .bool false])
    | some x => e = .returned (.tuple #[.int .i64 x, .bool true])
theorem CalcP.none {k a b : Int} {w w' : World} (h : calcP k a b = Option.none) (hw : ∃ n, w' = w.drewN n) : CalcP k a b w (.returned (.tuple #[.int .i64 0, .bool false])) w' := ⟨hw, by rw [h]⟩
theorem CalcP.some {k a b x : Int} {w w' : World} (h : calcP k a b = Option.some x) (hw : ∃ n, w' = w.drewN n) : CalcP k a b w (.returned (.tuple #[.int .i64 x, .bool true])) w' := ⟨hw, by rw [h]⟩
set_option maxHeartbeats 800000 in
theorem rcalc_2 (a b : Int) (w : World) : Calls Try.prog 77 #[.int .u8 2, .int .i64 a, .int .i64 b] w (CalcP 2 a b w) := by
  have HC := Lib.hid (show calcP 2 a b = Option.some (a) by unfold calcP; simp)
  go_enter Try.func77, Try.ntmps77
  go_wp2
  go_ret2
  exact CalcP.some HC.out ⟨0, rfl⟩
set_option maxHeartbeats 800000 in
theorem rcalc_3 (a b : Int) (w : World) : Calls Try.prog 77 #[.int .u8 3, .int .i64 a, .int .i64 b] w (CalcP 3 a b w) := by
  have HC := Lib.hid (show calcP 3 a b = Option.some (wrap64 (a + b)) by unfold calcP; simp)
  go_enter Try.func77, Try.ntmps77
  go_wp2
  go_ret2
  exact CalcP.some HC.out ⟨0, rfl⟩
set_option maxHeartbeats 800000 in
theorem rcalc_4 (a b : Int) (w : World) : Calls Try.prog 77 #[.int .u8 4, .int .i64 a, .int .i64 b] w (CalcP 4 a b w) := by
  have HC := Lib.hid (show calcP 4 a b = Option.some (wrap64 (a - b)) by unfold calcP; simp)
  go_enter Try.func77, Try.ntmps77
  go_wp2
  go_ret2
  exact CalcP.some HC.out ⟨0, rfl⟩
set_option maxHeartbeats 800000 in
theorem rcalc_5 (a b : Int) (w : World) : Calls Try.prog 77 #[.int .u8 5, .int .i64 a, .int .i64 b] w (CalcP 5 a b w) := by
  have HC := Lib.hid (show calcP 5 a b = Option.some (wrap64 (a * b)) by unfold calcP; simp)
  go_enter Try.func77, Try.ntmps77
  go_wp2
  go_ret2
  exact CalcP.some HC.out ⟨0, rfl⟩
set_option maxHeartbeats 800000 in
theorem rcalc_6 (a b : Int) (w : World) : Calls Try.prog 77 #[.int .u8 6, .int .i64 a, .int .i64 b] w (CalcP 6 a b w) := by
  by_cases h0 : b = 0
  · have HC := Lib.hid (show calcP 6 a b = Option.none by unfold calcP; simp [h0])
    have h1 : (b == 0) = true := by simp [h0]
    clear h0
    go_enter Try.func77, Try.ntmps77
    go_wp2
    go_ret2
    exact CalcP.none HC.out ⟨0, rfl⟩
  · have HC := Lib.hid (show calcP 6 a b = Option.some (wrap64 (a.tdiv b)) by unfold calcP; simp [h0])
    have h1 : (b == 0) = false := by simpa using h0
    have HD := Lib.hid (divide_any a b w h0)
    clear h0
    go_enter Try.func77, Try.ntmps77
    go_wp2_with fail
    refine HD.out.mono ?_
    rintro e w' ⟨rfl, n, rfl⟩
    go_wp2_with fail
    go_ret2
    exact CalcP.some HC.out ⟨n, rfl⟩
set_option maxHeartbeats 800000 in
theorem rcalc_7 (a b : Int) (w : World) : Calls Try.prog 77 #[.int .u8 7, .int .i64 a, .int .i64 b] w (CalcP 7 a b w) := by
  by_cases h0 : b = 0
  · have HC := Lib.hid (show calcP 7 a b = Option.none by unfold calcP; simp [h0])
    have h1 : (b == 0) = true := by simp [h0]
    clear h0
    go_enter Try.func77, Try.ntmps77
    go_wp2
    go_ret2
    exact CalcP.none HC.out ⟨0, rfl⟩
  · have HC := Lib.hid (show calcP 7 a b = Option.some (a.tmod b) by unfold calcP; simp [h0])
    have h1 : (b == 0) = false := by simpa using h0
    have HD := Lib.hid (divide_any a b w h0)
    clear h0
    go_enter Try.func77, Try.ntmps77
    go_wp2_with fail
    refine HD.out.mono ?_
    rintro e w' ⟨rfl, n, rfl⟩
    go_wp2_with fail
    go_ret2
    exact CalcP.some HC.out ⟨n, rfl⟩
set_option maxHeartbeats 800000 in
theorem rcalc_8 (a b : Int) (w : World) : Calls Try.prog 77 #[.int .u8 8, .int .i64 a, .int .i64 b] w (CalcP 8 a b w) := by
  by_cases h0 : a < b
  · have HC := Lib.hid (show calcP 8 a b = Option.some 1 by unfold calcP; simp [h0])
    have h1 : decide (a < b) = true := by simp [h0]
    have H0 := Lib.hid h0
    skip
    go_enter Try.func77, Try.ntmps77
    go_wp2
    go_ret2
    exact CalcP.some HC.out ⟨0, rfl⟩
  · have HC := Lib.hid (show calcP 8 a b = Option.some 0 by unfold calcP; simp [h0])
    have h1 : decide (a < b) = false := by simpa using h0
    go_enter Try.func77, Try.ntmps77
    go_wp2
    go_ret2
    exact CalcP.some HC.out ⟨0, rfl⟩
set_option maxHeartbeats 800000 in
theorem rcalc_9 (a b : Int) (w : World) : Calls Try.prog 77 #[.int .u8 9, .int .i64 a, .int .i64 b] w (CalcP 9 a b w) := by
  by_cases h0 : a = b
  · have HC := Lib.hid (show calcP 9 a b = Option.some 1 by unfold calcP; simp [h0])
    have h1 : (a == b) = true := by simp [h0]
    have H0 := Lib.hid h0
    clear h0
    go_enter Try.func77, Try.ntmps77
    go_wp2
    go_ret2
    exact CalcP.some HC.out ⟨0, rfl⟩
  · have HC := Lib.hid (show calcP 9 a b = Option.some 0 by unfold calcP; simp [h0])
    have h1 : (a == b) = false := by simpa using h0
    go_enter Try.func77, Try.ntmps77
    go_wp2
    go_ret2
    exact CalcP.some HC.out ⟨0, rfl⟩
theorem rcalc_any (k a b : Int) (w : World) (h1 : 2 ≤ k) (h2 : k ≤ 9) : Calls Try.prog 77 #[.int .u8 k, .int .i64 a, .int .i64 b] w (CalcP k a b w) := by
  have : k = 2 ∨ k = 3 ∨ k = 4 ∨ k = 5 ∨ k = 6 ∨ k = 7 ∨ k = 8 ∨ k = 9 := by omega
  rcases this with rfl | rfl | rfl | rfl | rfl | rfl | rfl | rfl
  · exact rcalc_2 a b w
  · exact rcalc_3 a b w
  · exact rcalc_4 a b w
  · exact rcalc_5 a b w
  · exact rcalc_6 a b w
  · exact rcalc_7 a b w
  · exact rcalc_8 a b w
  · exact rcalc_9 a b w
/-- Is an op no fork, join or return? -/
def plainB (k : Int) : Bool := !(k == 12) && !(k == 13) && !(k == 14)
set_option maxHeartbeats 800000 in
theorem rplain_any (o : Opr) (w : World) : Calls Try.prog 53 #[.agg #[.int .u8 o.k, .int .i64 o.d, .int .i64 o.a, .int .i64 o.b, .int .i64 o.n]] w fun e w' => e = .returned (.bool (plainB o.k)) ∧ Below w.heap.size w w' := by
  have HF := Lib.hid (show Below w.heap.size w (w.alloc (.cells (opC o) OpT)) from (Below.refl _ _).alloc (Nat.le_refl _) _)
  unfold plainB
  cases h12 : (o.k == 12)
  · have n12 : (o.k != 12) = true := by rw [bne, h12]; rfl
    cases h13 : (o.k == 13)
    · have n13 : (o.k != 13) = true := by rw [bne, h13]; rfl
      cases h14 : (o.k == 14)
      · have n14 : (o.k != 14) = true := by rw [bne, h14]; rfl
        go_enter Try.func53, Try.ntmps53
        go_wp2
        go_ret
        exact ⟨rfl, HF.out⟩
      · have n14 : (o.k != 14) = false := by rw [bne, h14]; rfl
        go_enter Try.func53, Try.ntmps53
        go_wp2
        go_ret
        exact ⟨rfl, HF.out⟩
    · have n13 : (o.k != 13) = false := by rw [bne, h13]; rfl
      go_enter Try.func53, Try.ntmps53
      go_wp2
      go_ret
      exact ⟨rfl, HF.out⟩
  · have n12 : (o.k != 12) = false := by rw [bne, h12]; rfl
    go_enter Try.func53, Try.ntmps53
    go_wp2
    go_ret
    exact ⟨rfl, HF.out⟩
end Go.Proofs.Ytdhbjejejeljoaa
