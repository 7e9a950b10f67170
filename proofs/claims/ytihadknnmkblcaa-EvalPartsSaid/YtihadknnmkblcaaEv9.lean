/- Contracts: eval.calcs, what the ops make of two numbers. (Printed by gen/genev9.py.) -/
import Derived.Test.YtihadknnmkblcaaEv8
namespace Go.Proofs.Ytihadknnmkblcaa
open Go.RowKit Go.Sort Go.Lib

def evC (n : Nat) : Value := .func (.func n) #[] #[]
def calL : List (Int × Nat) := [(2, 37), (3, 38), (4, 39), (5, 40), (6, 41), (7, 42), (8, 43), (9, 45)]
theorem below_only {w w1 w2 : World} {m : Nat} (h : Below w.heap.size w w1) (ho : OnlyAt w1 w2 m) (hm : w.heap.size ≤ m) : Below w.heap.size w w2 :=
  ⟨ho.1.trans h.os, ho.2.1.trans h.tape, ho.2.2.1.trans h.output, by rw [ho.2.2.2.1]; exact h.size, fun k hk => (ho.2.2.2.2.1 k (by omega)).trans (h.block k hk)⟩
set_option maxHeartbeats 1600000 in
theorem calcs_any (w : World) : Calls Try.prog 23 #[] w fun e w' => ∃ m, e = .returned (.map (some m)) ∧ B.MapL evC w' m calL ∧ Below w.heap.size w w' ∧ w.heap.size ≤ m := by
  have hmk := @Go.RowKit.run_makeMap Try.prog
  have hM := B.MapL.made evC w
  have hB : Below w.heap.size w (w.alloc (.map #[] 0)) := (Below.refl _ _).alloc (Nat.le_refl _) _
  have hm : w.heap.size ≤ w.heap.size := Nat.le_refl _
  obtain ⟨w0, hr0, hM0, hO0⟩ := hM.update (P := Try.prog) B.nameTy Try.underlying69 2 37
  have hB0 : Below w.heap.size w w0 := below_only hB hO0 hm
  obtain ⟨w1, hr1, hM1, hO1⟩ := hM0.update (P := Try.prog) B.nameTy Try.underlying69 3 38
  have hB1 : Below w.heap.size w w1 := below_only hB0 hO1 hm
  obtain ⟨w2, hr2, hM2, hO2⟩ := hM1.update (P := Try.prog) B.nameTy Try.underlying69 4 39
  have hB2 : Below w.heap.size w w2 := below_only hB1 hO2 hm
  obtain ⟨w3, hr3, hM3, hO3⟩ := hM2.update (P := Try.prog) B.nameTy Try.underlying69 5 40
  have hB3 : Below w.heap.size w w3 := below_only hB2 hO3 hm
  obtain ⟨w4, hr4, hM4, hO4⟩ := hM3.update (P := Try.prog) B.nameTy Try.underlying69 6 41
  have hB4 : Below w.heap.size w w4 := below_only hB3 hO4 hm
  obtain ⟨w5, hr5, hM5, hO5⟩ := hM4.update (P := Try.prog) B.nameTy Try.underlying69 7 42
  have hB5 : Below w.heap.size w w5 := below_only hB4 hO5 hm
  obtain ⟨w6, hr6, hM6, hO6⟩ := hM5.update (P := Try.prog) B.nameTy Try.underlying69 8 43
  have hB6 : Below w.heap.size w w6 := below_only hB5 hO6 hm
  obtain ⟨w7, hr7, hM7, hO7⟩ := hM6.update (P := Try.prog) B.nameTy Try.underlying69 9 45
  have hB7 : Below w.heap.size w w7 := below_only hB6 hO7 hm
  have HM := Lib.hid (show B.MapL evC w7 w.heap.size calL from hM7)
  have HB := Lib.hid hB7
  unfold B.encN evC at hr0 hr1 hr2 hr3 hr4 hr5 hr6 hr7
  clear hM hM0 hM1 hM2 hM3 hM4 hM5 hM6 hM7 hB hB0 hB1 hB2 hB3 hB4 hB5 hB6 hB7 hO0 hO1 hO2 hO3 hO4 hO5 hO6 hO7
  go_enter Try.func23, Try.ntmps23
  go_wp2_with fail
  go_ret
  exact ⟨_, rfl, HM.out, HB.out, hm⟩

theorem calL_get {k : Int} (h1 : 2 ≤ k) (h2 : k ≤ 9) : ∃ F, B.getL calL k = some F ∧ (k = 2 ∧ F = 37 ∨ k = 3 ∧ F = 38 ∨ k = 4 ∧ F = 39 ∨ k = 5 ∧ F = 40 ∨ k = 6 ∧ F = 41 ∨ k = 7 ∧ F = 42 ∨ k = 8 ∧ F = 43 ∨ k = 9 ∧ F = 45) := by
  have : k = 2 ∨ k = 3 ∨ k = 4 ∨ k = 5 ∨ k = 6 ∨ k = 7 ∨ k = 8 ∨ k = 9 := by omega
  rcases this with rfl | rfl | rfl | rfl | rfl | rfl | rfl | rfl <;> exact ⟨_, rfl, by simp⟩
theorem truth_any {x : Int} (b : Bool) (w : World) (h : (if b = true then 1 else 0) = x) : Calls Try.prog 44 #[.bool b] w fun e w' => e = .returned (.int .i64 x) ∧ w = w' := by
  cases b
  · go_enter Try.func44, Try.ntmps44
    go_wp2
    go_ret
    exact ⟨ret_int (by simpa using h), rfl⟩
  · go_enter Try.func44, Try.ntmps44
    go_wp2
    go_ret
    exact ⟨ret_int (by simpa using h), rfl⟩

theorem calc2_any {x : Int} (a b : Int) (w : World) (h : (a) = x) : Calls Try.prog 37 #[.int .i64 a, .int .i64 b] w fun e w' => e = .returned (.int .i64 x) ∧ w = w' := by
  have H := Lib.hid h
  clear h
  go_enter Try.func37, Try.ntmps37
  go_wp2
  go_ret
  exact ⟨ret_int (by rw [← H.out]), rfl⟩

theorem calc3_any {x : Int} (a b : Int) (w : World) (h : (wrap64 (a + b)) = x) : Calls Try.prog 38 #[.int .i64 a, .int .i64 b] w fun e w' => e = .returned (.int .i64 x) ∧ w = w' := by
  have H := Lib.hid h
  clear h
  go_enter Try.func38, Try.ntmps38
  go_wp2
  go_ret
  exact ⟨ret_int (by rw [← H.out]), rfl⟩

theorem calc4_any {x : Int} (a b : Int) (w : World) (h : (wrap64 (a - b)) = x) : Calls Try.prog 39 #[.int .i64 a, .int .i64 b] w fun e w' => e = .returned (.int .i64 x) ∧ w = w' := by
  have H := Lib.hid h
  clear h
  go_enter Try.func39, Try.ntmps39
  go_wp2
  go_ret
  exact ⟨ret_int (by rw [← H.out]), rfl⟩

theorem calc5_any {x : Int} (a b : Int) (w : World) (h : (wrap64 (a * b)) = x) : Calls Try.prog 40 #[.int .i64 a, .int .i64 b] w fun e w' => e = .returned (.int .i64 x) ∧ w = w' := by
  have H := Lib.hid h
  clear h
  go_enter Try.func40, Try.ntmps40
  go_wp2
  go_ret
  exact ⟨ret_int (by rw [← H.out]), rfl⟩

theorem calc6_any {x : Int} (a b : Int) (w : World) (h0 : b ≠ 0) (h : (wrap64 (a.tdiv b)) = x) : Calls Try.prog 41 #[.int .i64 a, .int .i64 b] w fun e w' => e = .returned (.int .i64 x) ∧ w = w' := by
  have H := Lib.hid h
  clear h
  have hb : (b == 0) = false := by simpa using h0
  go_enter Try.func41, Try.ntmps41
  go_wp2
  go_ret
  exact ⟨ret_int (by rw [← H.out]), rfl⟩

theorem calc7_any {x : Int} (a b : Int) (w : World) (h0 : b ≠ 0) (h : (a.tmod b) = x) : Calls Try.prog 42 #[.int .i64 a, .int .i64 b] w fun e w' => e = .returned (.int .i64 x) ∧ w = w' := by
  have H := Lib.hid h
  clear h
  have hb : (b == 0) = false := by simpa using h0
  go_enter Try.func42, Try.ntmps42
  go_wp2
  go_ret
  exact ⟨ret_int (by rw [← H.out]), rfl⟩

theorem calc8_any {x : Int} (a b : Int) (w : World) (h : (if a < b then 1 else 0) = x) : Calls Try.prog 43 #[.int .i64 a, .int .i64 b] w fun e w' => e = .returned (.int .i64 x) ∧ w = w' := by
  have H := Lib.hid h
  clear h
  have HT := Lib.hid (show (if (decide (a < b)) = true then 1 else 0) = x by rw [← H.out]; simp)
  go_enter Try.func43, Try.ntmps43
  go_wp2_with (go_at_call 44; refine (truth_any _ _ HT.out).mono ?_; rintro e w' ⟨rfl, rfl⟩)
  go_ret
  exact ⟨rfl, rfl⟩

theorem calc9_any {x : Int} (a b : Int) (w : World) (h : (if a = b then 1 else 0) = x) : Calls Try.prog 45 #[.int .i64 a, .int .i64 b] w fun e w' => e = .returned (.int .i64 x) ∧ w = w' := by
  have H := Lib.hid h
  clear h
  have HT := Lib.hid (show (if ((a == b)) = true then 1 else 0) = x by rw [← H.out]; simp)
  go_enter Try.func45, Try.ntmps45
  go_wp2_with (go_at_call 44; refine (truth_any _ _ HT.out).mono ?_; rintro e w' ⟨rfl, rfl⟩)
  go_ret
  exact ⟨rfl, rfl⟩

theorem calc_any {k a b x : Int} {F : Nat} (w : World) (hF : B.getL calL k = some F) (h1 : 2 ≤ k) (h2 : k ≤ 9) (h : calcP k a b = some x) : Calls Try.prog F #[.int .i64 a, .int .i64 b] w fun e w' => e = .returned (.int .i64 x) ∧ w = w' := by
  obtain ⟨F', hF', hk⟩ := calL_get h1 h2
  rw [hF] at hF'
  injection hF' with hF'
  subst hF'
  unfold calcP at h
  rcases hk with ⟨rfl, rfl⟩ | ⟨rfl, rfl⟩ | ⟨rfl, rfl⟩ | ⟨rfl, rfl⟩ | ⟨rfl, rfl⟩ | ⟨rfl, rfl⟩ | ⟨rfl, rfl⟩ | ⟨rfl, rfl⟩
  · exact calc2_any a b w (by simpa using h)
  · exact calc3_any a b w (by simpa using h)
  · exact calc4_any a b w (by simpa using h)
  · exact calc5_any a b w (by simpa using h)
  · by_cases h0 : b = 0
    · simp [h0] at h
    · exact calc6_any a b w h0 (by simpa [h0] using h)
  · by_cases h0 : b = 0
    · simp [h0] at h
    · exact calc7_any a b w h0 (by simpa [h0] using h)
  · exact calc8_any a b w (by simpa using h)
  · exact calc9_any a b w (by simpa using h)
end Go.Proofs.Ytihadknnmkblcaa
