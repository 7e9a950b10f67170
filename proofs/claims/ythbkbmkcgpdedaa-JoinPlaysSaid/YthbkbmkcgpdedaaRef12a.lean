/- Contracts of package thresherref12: May, Kid. -/
import Derived.Test.YthbkbmkcgpdedaaBranch2
namespace Go.Proofs.Ythbkbmkcgpdedaa
open Go.RowKit

theorem mayL_hit (s : List UInt8) (k : Nat) (hk : k < s.length) (hb : odd8 s[k] = true) : mayL s = false := by
  unfold mayL; rw [List.any_eq_true.2 ⟨s[k], List.getElem_mem hk, hb⟩]; simp
theorem mayL_none (s : List UInt8) (h : ∀ j, (hj : j < s.length) → odd8 s[j] = false) : mayL s = decide (s.length ≤ 12) := by
  unfold mayL
  have : s.any odd8 = false := by
    rw [List.any_eq_false]; intro x hx
    obtain ⟨j, hj, rfl⟩ := List.getElem_of_mem hx
    simp [h j hj]
  rw [this]; simp

set_option maxHeartbeats 400000 in
set_option maxRecDepth 100000 in
theorem rmay_any (s : ByteArray) (w : World) (hm : s.size ≤ 9223372036854775807) :
    Calls Try.prog 32 #[.string s] w fun e w' => e = .returned (.bool (mayS s)) ∧ w = w' := by
  go_enter Try.func32, Try.ntmps32
  go_wp2
  go_loop [3] (fun i => ∃ k : Nat, k ≤ s.size ∧ i = .int .i64 k ∧ Hid (∀ j, (hj : j < s.data.toList.length) → j < k → odd8 s.data.toList[j] = false)) (fun i => s.size - (intOf i).toNat)
  case atStart => exact ⟨0, Nat.zero_le _, rfl, fun j _ hj => absurd hj (by omega)⟩
  case round =>
    obtain ⟨k, hk, rfl, hn⟩ := hrel
    by_cases hlt : k < s.size
    · have hgt : s.data.toList[k]'(by simpa using hlt) = s[k] := rfl
      by_cases h1 : (s[k].toNat : Int) < 1
      · have hf := Lib.hid (mayL_hit s.data.toList k (by simpa using hlt) (by rw [hgt]; unfold odd8 oddB; simp [h1]))
        clear hgt
        go_wp2
        go_ret
        exact ⟨ret_bool hf.out.symm, rfl⟩
      · by_cases h2 : 16 < (s[k].toNat : Int)
        · have hf := Lib.hid (mayL_hit s.data.toList k (by simpa using hlt) (by rw [hgt]; unfold odd8 oddB; simp [h2]))
          clear hgt
          go_wp2
          go_ret
          exact ⟨ret_bool hf.out.symm, rfl⟩
        · have hf : Hid (odd8 (s.data.toList[k]'(by simpa using hlt)) = false) := by
            rw [hgt]; show odd8 _ = false; unfold odd8 oddB; simp; omega
          clear hgt
          go_wp2
          go_round
          case rel => exact ⟨k + 1, by omega, by go_num, fun j hj hjk => by
            by_cases e : j = k
            · subst e; exact hf.out
            · exact hn j hj (by omega)⟩
          case measure => simp [intOf]; omega
    · have hf : mayS s = decide (s.size ≤ 12) := by
        unfold mayS; rw [mayL_none _ (fun j hj => hn j hj (by simp at hj; omega))]; simp
      have Hf := Lib.hid hf; clear hf
      go_wp2
      go_ret
      exact ⟨ret_bool (by rw [Hf.out]; simp; omega), rfl⟩
end Go.Proofs.Ythbkbmkcgpdedaa
