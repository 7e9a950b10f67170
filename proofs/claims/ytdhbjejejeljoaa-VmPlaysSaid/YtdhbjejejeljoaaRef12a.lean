/- Contracts of package thresherref12: May, Kid. -/
import Derived.Test.YtdhbjejejeljoaaBranch2
namespace Go.Proofs.Ytdhbjejejeljoaa
open Go.RowKit

theorem mayL_hit (s : List UInt8) (k : Nat) (hk : k < s.length) (hb : odd8 s[k] = true) : mayL s = false := by
  unfold mayL; rw [List.any_eq_true.2 ⟨s[k], List.getElem_mem hk, hb⟩]; simp
theorem mayL_none (s : List UInt8) (h : ∀ j, (hj : j < s.length) → odd8 s[j] = false) : mayL s = decide (s.length ≤ 12) := by
  unfold mayL
  have : s.any odd8 = false := by
    rw [List.any_eq_false]; intro x hx
    obtain ⟨j, hj, rfl⟩ := List.getElem_of_mem hx
    simp [h j hj]
  rw [this]; simp

set_option maxHeartbeats 400000 in
set_option maxRecDepth 100000 in
theorem rmay_any (s : ByteArray) (w : World) (hm : s.size ≤ 9223372036854775807) :
    Calls Try.prog 40 #[.string s] w fun e w' => e = .returned (.bool (mayS s)) ∧ w = w' := by
  go_enter Try.func40, Try.ntmps40
  go_wp2
  go_loop [3] (fun i => ∃ k : Nat, k ≤ s.size ∧ i = .int .i64 k ∧ Hid (∀ j, (hj : j < s.data.toList.length) → j < k → odd8 s.data.toList[j] = false)) (fun i => s.size - (intOf i).toNat)
  case atStart => exact ⟨0, Nat.zero_le _, rfl, fun j _ hj => absurd hj (by omega)⟩
  case round =>
    obtain ⟨k, hk, rfl, hn⟩ := hrel
    by_cases hlt : k < s.size
    · have hgt : s.data.toList[k]'(by simpa using hlt) = s[k] := rfl
      by_cases h1 : (s[k].toNat : Int) < 1
      · have hf := Lib.hid (mayL_hit s.data.toList k (by simpa using hlt) (by rw [hgt]; unfold odd8 oddB; simp [h1]))
        clear hgt
        go_wp2
        go_ret
        exact ⟨ret_bool hf.out.symm, rfl⟩
      · by_cases h2 : 16 < (s[k].toNat : Int)
        · have hf := Lib.hid (mayL_hit s.data.toList k (by simpa using hlt) (by rw [hgt]; unfold odd8 oddB; simp [h2]))
          clear hgt
          go_wp2
          go_ret
          exact ⟨ret_bool hf.out.symm, rfl⟩
        · have hf : Hid (odd8 (s.data.toList[k]'(by simpa using hlt)) = false) := by
            rw [hgt]; show odd8 _ = false; unfold odd8 oddB; simp; omega
          clear hgt
          go_wp2
          go_round
          case rel => exact ⟨k + 1, by omega, by go_num, fun j hj hjk => by
            by_cases e : j = k
            · subst e; exact hf.out
            · exact hn j hj (by omega)⟩
          case measure => simp [intOf]; omega
    · have hf : mayS s = decide (s.size ≤ 12) := by
        unfold mayS; rw [mayL_none _ (fun j hj => hn j hj (by simp at hj; omega))]; simp
      have Hf := Lib.hid hf; clear hf
      go_wp2
      go_ret
      exact ⟨ret_bool (by rw [Hf.out]; simp; omega), rfl⟩
set_option maxHeartbeats 400000 in
set_option maxRecDepth 100000 in
theorem rkid_any (s : ByteArray) (n : Int) (w : World) (hs : s.size ≤ 9223372036854775807) :
    Calls Try.prog 65 #[.string s, .int .i64 n] w fun e w' =>
      e = .returned (.tuple #[.string (kidS s n), .bool (kidB s n)]) ∧ Below w.heap.size w w' := by
  go_enter Try.func65, Try.ntmps65
  go_wp2_with fail
  refine (rmay_any s _ hs).mono ?_
  rintro e w1 ⟨rfl, rfl⟩
  cases h1 : mayS s
  · have hf := Lib.hid (kid_no (show kidB s n = false by simp [kidB, h1]))
    go_wp2
    go_ret2
    exact ⟨ret_two hf.out.1 hf.out.2, Below.refl _ _⟩
  · by_cases h2 : n < 1
    · have hf := Lib.hid (kid_no (show kidB s n = false by simp [kidB, h1]; omega))
      go_wp2
      go_ret2
      exact ⟨ret_two hf.out.1 hf.out.2, Below.refl _ _⟩
    · by_cases h3 : 16 < n
      · have hf := Lib.hid (kid_no (show kidB s n = false by simp [kidB]; omega))
        go_wp2
        go_ret2
        exact ⟨ret_two hf.out.1 hf.out.2, Below.refl _ _⟩
      · by_cases h4 : s.size = 12
        · have hf := Lib.hid (kid_no (show kidB s n = false by simp [kidB, h1, h4]))
          have h5 : decide (12 ≤ (s.size : Int)) = true := by simp [h4]
          have h4' := Lib.hid h4
          clear h4
          go_wp2
          go_ret2
          exact ⟨ret_two hf.out.1 hf.out.2, Below.refl _ _⟩
        · have hf := Lib.hid (show kidB s n = true by simp [kidB, h1, h4]; omega)
          have hsz := mayS_le h1
          have h5 : ¬ 12 ≤ (s.size : Int) := by omega
          have hv := conv_one w n (by omega) (by omega)
          go_wp2_with fail
          go_ret2
          exact ⟨ret_two (kid_yes hf.out).1 (kid_yes hf.out).2, (Below.refl _ _).alloc (Nat.le_refl _) _⟩
end Go.Proofs.Ytdhbjejejeljoaa
