/- The document's answers: a number of bytes, read. -/
import Derived.Test.YtgjmnmcbinekdaaRefC4
namespace Go.Proofs.Ytgjmnmcbinekdaa
open Go.RowKit Go.Lib

theorem hiN_step {l : List UInt8} {k : Nat} (hk : k < 10) (hkl : k < l.length) (h : 128 ≤ l[k].toNat) (hi : k + hiN (l.drop k) (10 - k) = hiN l 10) : k + 1 + hiN (l.drop (k + 1)) (10 - (k + 1)) = hiN l 10 := by
  rw [← hi, List.drop_eq_getElem_cons hkl]
  obtain ⟨m, hm⟩ : ∃ m, 10 - k = m + 1 := ⟨9 - k, by omega⟩
  rw [hm, show 10 - (k + 1) = m by omega]
  simp only [hiN]
  rw [if_pos h]; omega
theorem hiN_low {l : List UInt8} {k : Nat} (hk : k < 10) (hkl : k < l.length) (h : l[k].toNat < 128) (hi : k + hiN (l.drop k) (10 - k) = hiN l 10) : hiN l 10 = k := by
  rw [← hi, List.drop_eq_getElem_cons hkl]
  obtain ⟨m, hm⟩ : ∃ m, 10 - k = m + 1 := ⟨9 - k, by omega⟩
  rw [hm]
  simp only [hiN]
  rw [if_neg (by omega)]; omega
theorem hiN_ten {l : List UInt8} (hi : 10 + hiN (l.drop 10) (10 - 10) = hiN l 10) : hiN l 10 = 10 := by
  have := (hiN_le l 10).1
  omega
theorem hiN_all {l : List UInt8} {k : Nat} (hkl : l.length ≤ k) (hi : k + hiN (l.drop k) (10 - k) = hiN l 10) : hiN l 10 = k := by
  rw [← hi, List.drop_eq_nil_of_le hkl]
  simp [hiN]
theorem val7_drop {l : List UInt8} {j : Nat} (h : j < l.length) : val7 (l.drop j) = l[j].toNat % 128 + 128 * val7 (l.drop (j + 1)) := by
  rw [List.drop_eq_getElem_cons h]; rfl
theorem val_step {X V b : Nat} (h : X = V % 18446744073709551616) : (128 * X % 18446744073709551616 + b) % 18446744073709551616 = (b + 128 * V) % 18446744073709551616 := by omega
def RdD (l : List UInt8) (w : World) (e : Ending) (w' : World) : Prop := e = .returned (.tuple #[.int .u64 (rdN l).1, .int .i64 (rdN l).2.1, .int .i64 (rdN l).2.2]) ∧ Below w.heap.size w w'
theorem rdD_of {l : List UInt8} {w w' : World} {x n : Int} {e : Int} {r : Nat × Nat × Int} (h : rdD l = r) (hx : x = (r.1 : Int)) (hn : n = (r.2.1 : Int)) (he : e = r.2.2) (hB : Below w.heap.size w w') : RdD l w (.returned (.tuple #[.int .u64 x, .int .i64 n, .int .i64 e])) w' := by
  rw [rdD_eq] at h
  unfold RdD; rw [h, hx, hn, he]; exact ⟨rfl, hB⟩
theorem rdD_short {l : List UInt8} (h : hiN l 10 = l.length) (h10 : hiN l 10 < 10) : rdD l = (0, 0, 10) := by unfold rdD; rw [if_pos ⟨h, h10⟩]
theorem rdD_ten {l : List UInt8} (h : hiN l 10 = 10) : rdD l = (0, 0, 8) := by unfold rdD; rw [if_neg (by omega), if_pos h]
theorem rdD_ne {l : List UInt8} (h : hiN l 10 < l.length) (h10 : hiN l 10 < 10) (hu : uBytes (val7 (l.take (hiN l 10 + 1)) % 18446744073709551616) ≠ l.take (hiN l 10 + 1)) : rdD l = (0, 0, 8) := by
  unfold rdD; rw [if_neg (by omega), if_neg (by omega), if_pos hu]
theorem rdD_ok {l : List UInt8} (h : hiN l 10 < l.length) (h10 : hiN l 10 < 10) (hu : uBytes (val7 (l.take (hiN l 10 + 1)) % 18446744073709551616) = l.take (hiN l 10 + 1)) : rdD l = (val7 (l.take (hiN l 10 + 1)) % 18446744073709551616, hiN l 10 + 1, 0) := by
  unfold rdD; rw [if_neg (by omega), if_neg (by omega), if_neg (by simp [hu])]
set_option maxHeartbeats 1600000 in
set_option maxRecDepth 100000 in
theorem r1Read_any (l : List UInt8) (w : World) (hl : (l.length : Int) ≤ 9223372036854775807) :
    Calls Try.prog 49 #[.string ⟨l.toArray⟩] w (RdD l w) := by
  have HL := Lib.hid hl
  go_enter Try.func49, Try.ntmps49
  go_wp2_with fail
  go_loopg [5] 10 (fun gk sn wr => ∃ k : Nat, gk + k = 10 ∧ sn = .int .i64 k ∧ k ≤ l.length ∧ k + hiN (l.drop k) (10 - k) = hiN l 10 ∧ wr = w)
  case atStart => exact ⟨0, by omega, rfl, by omega, by simp, rfl⟩
  case round =>
    obtain ⟨k, hk, rfl, hkl, hi, rfl⟩ := hrel
    have HI := Lib.hid hi
    clear hi
    by_cases hlt : (k : Int) < l.length
    · have hkn : k < l.length := by omega
      by_cases h10 : (k : Int) < 10
      · obtain ⟨c, hc⟩ : ∃ c : Nat, (⟨l.toArray⟩ : ByteArray)[k].toNat = c := ⟨_, rfl⟩
        have hcl : l[k].toNat = c := hc
        by_cases hc128 : 128 ≤ (c : Int)
        · have HS := Lib.hid (hiN_step (by omega) hkn (by omega) HI.out)
          clear hcl
          go_wp2_with fail
          go_roundg (gk - 1)
          case rel => exact ⟨k + 1, by omega, by go_num, by omega, HS.out, rfl⟩
          case measure => omega
        · have HH := Lib.hid (hiN_low (by omega) hkn (by omega) HI.out)
          have hne : ((k : Int) == (l.length : Int)) = false := by simp; omega
          have hne10 : ((k : Int) == 10) = false := by simp; omega
          have HRNE := Lib.hid (rdD_ne (l := l) (by rw [HH.out]; exact hkn) (by rw [HH.out]; omega))
          have HROK := Lib.hid (rdD_ok (l := l) (by rw [HH.out]; exact hkn) (by rw [HH.out]; omega))
          rw [HH.out] at HRNE HROK
          have HTL : Hid ((l.take (k + 1)).length = k + 1) := by show _ = _; rw [List.length_take]; omega
          have hk9 : k ≤ 9 := by omega
          clear hcl HI HH hk h10
          go_wp2_with fail
          clear hc hc128
          go_loopg [6, 7] (k + 1) (fun gk sx si wr2 => ∃ X : Nat, sx = .int .u64 X ∧ si = .int .i64 ((gk : Int) - 1) ∧ gk ≤ k + 1 ∧ X = val7 ((l.take (k + 1)).drop gk) % 18446744073709551616 ∧ wr2 = wr)
          case atStart => exact ⟨0, rfl, by go_num, by omega, by rw [List.drop_of_length_le (by rw [HTL.out]; omega)]; rfl, rfl⟩
          case round =>
            obtain ⟨X, rfl, rfl, hle, hX, rfl⟩ := hrel
            have HX := Lib.hid hX
            have hXlt : X < 18446744073709551616 := by rw [hX]; exact Nat.mod_lt _ (by decide)
            clear hX
            cases gk with
            | zero =>
              rw [List.drop_zero] at HX
              rw [← HX.out] at HRNE HROK
              obtain ⟨n, hn⟩ : ∃ n, k + 1 = n := ⟨_, rfl⟩
              have hnl : (n : Int) ≤ (l.length : Int) := by omega
              have hnl2 : n ≤ l.length := by omega
              have wk : IntKind.i64.wrap (n : Int) = (n : Int) := by rw [IntKind.wrap_i64]; omega
              have ek : (k : Int) + 1 = (n : Int) := by omega
              have ex0 : (⟨l.toArray⟩ : ByteArray).extract 0 n = ⟨(l.take n).toArray⟩ := by rw [Lib.extract_eq]; rfl
              rw [hn] at HRNE HROK HX HTL
              clear hn
              by_cases hu : uBytes X = l.take n
              · have HR := Lib.hid (HROK.out hu)
                have hbq : (uBytes X == l.take n) = true := by simp [hu]
                clear hu
                go_wp2_with fail
                go_region_with (go_at_call 44; refine (r1Uint_any X hXlt _).mono ?_; rintro e w' ⟨rfl, hB⟩)
                all_goals (go_wp2_with fail)
                all_goals go_ret3
                all_goals exact rdD_of HR.out rfl rfl rfl ((Below.refl wr.heap.size wr).drew.trans (hB.mono (by simp)))
              · have HR := Lib.hid (HRNE.out hu)
                have hbq : (uBytes X == l.take n) = false := by simp [hu]
                clear hu
                go_wp2_with fail
                go_region_with (go_at_call 44; refine (r1Uint_any X hXlt _).mono ?_; rintro e w' ⟨rfl, hB⟩)
                all_goals (go_wp2_with fail)
                all_goals go_ret3
                all_goals exact rdD_of HR.out rfl rfl rfl ((Below.refl wr.heap.size wr).drew.trans (hB.mono (by simp)))
            | succ j =>
              have ej : (((j + 1 : Nat) : Int) - 1) = (j : Int) := by omega
              rw [ej]
              clear ej
              have hjl : (j : Int) < (l.length : Int) := by omega
              have hj0 : (0 : Int) ≤ (j : Int) := by omega
              have hjn : j < l.length := by omega
              obtain ⟨b, hb⟩ : ∃ b : Nat, (⟨l.toArray⟩ : ByteArray)[j].toNat = b := ⟨_, rfl⟩
              have hb256 : b < 256 := by rw [← hb]; exact UInt8.toNat_lt _
              have hbl : ((l.take (k + 1))[j]'(by rw [HTL.out]; omega)).toNat = b := by rw [List.getElem_take]; exact hb
              have HD := Lib.hid (val7_drop (l := l.take (k + 1)) (j := j) (by rw [HTL.out]; omega))
              rw [hbl] at HD
              obtain ⟨m, hm⟩ : ∃ m, b % 128 = m := ⟨_, rfl⟩
              rw [hm] at HD
              have HV := Lib.hid (val_step (b := m) HX.out)
              rw [← HD.out] at HV
              have hbm : (b : Int) % 128 = (m : Int) := by omega
              have hm128 : m < 128 := by omega
              have wu : IntKind.u64.wrap (m : Int) = (m : Int) := by rw [IntKind.wrap_u64]; omega
              clear hm
              clear hbl
              have HWV := Lib.hid (show IntKind.u64.wrap (IntKind.u64.wrap (128 * (X : Int)) + (m : Int)) = ((val7 ((l.take (k + 1)).drop j) % 18446744073709551616 : Nat) : Int) by
                rw [IntKind.wrap_u64, IntKind.wrap_u64, ← HV.out]; omega)
              go_wp2_with fail
              go_roundg j
              case rel => exact ⟨_, congrArg (Value.int .u64) HWV.out, by go_num, by omega, rfl, rfl⟩
              case measure => omega
      · have hk10 : k = 10 := by omega
        subst hk10
        have HH := Lib.hid (hiN_ten HI.out)
        have HR := Lib.hid (rdD_ten HH.out)
        have hne : ((10 : Int) == (l.length : Int)) = false ∨ ((10 : Int) == (l.length : Int)) = true := by cases ((10 : Int) == (l.length : Int)) <;> simp
        clear HI
        rcases hne with hne | hne
        · go_wp2_with fail
          go_ret3
          exact rdD_of HR.out rfl rfl rfl (Below.refl _ _)
        · go_wp2_with fail
          go_ret3
          exact rdD_of HR.out rfl rfl rfl (Below.refl _ _)
    · have hkl2 : k = l.length := by omega
      have HH := Lib.hid (hiN_all (by omega) HI.out)
      have heq : ((k : Int) == (l.length : Int)) = true := by simp; omega
      clear HI
      by_cases h10 : k = 10
      · have HR := Lib.hid (rdD_ten (l := l) (by rw [HH.out]; exact h10))
        have h10' : ¬ (k : Int) < 10 := by omega
        have hb10 : ((k : Int) == 10) = true := by simp [h10]
        clear h10 hkl2
        go_wp2_with fail
        go_ret3
        exact rdD_of HR.out rfl rfl rfl (Below.refl _ _)
      · have HR := Lib.hid (rdD_short (l := l) (by rw [HH.out]; exact hkl2) (by rw [HH.out]; omega))
        have h10' : (k : Int) < 10 := by omega
        clear h10 hkl2
        go_wp2_with fail
        go_ret3
        exact rdD_of HR.out rfl rfl rfl (Below.refl _ _)
end Go.Proofs.Ytgjmnmcbinekdaa
