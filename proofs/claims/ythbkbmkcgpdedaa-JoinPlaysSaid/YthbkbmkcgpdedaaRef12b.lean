/- Contracts of package thresherref12: Parent, Last, Under, Compare, Common. -/
import Derived.Test.YthbkbmkcgpdedaaBranch3
import Derived.Deep.QuietTactic
import Derived.BigQuiet
namespace Go.Proofs.Ythbkbmkcgpdedaa
open Go.RowKit



set_option maxHeartbeats 400000 in
set_option maxRecDepth 100000 in
theorem runder_any (s r : ByteArray) (w : World) (hs : s.size ≤ 9223372036854775807) (hr : r.size ≤ 9223372036854775807) :
    Calls Try.prog 33 #[.string s, .string r] w fun e w' => e = .returned (.bool (underS s r)) ∧ w = w' := by
  unfold underS
  go_enter Try.func33, Try.ntmps33
  go_wp2_with fail
  refine (rmay_any s _ hs).mono ?_
  rintro e w1 ⟨rfl, rfl⟩
  cases h1 : mayS s
  · go_wp2
    go_ret
    exact ⟨ret_bool (by simp [h1]), rfl⟩
  · go_wp2_with fail
    refine (rmay_any r _ hr).mono ?_
    rintro e w2 ⟨rfl, rfl⟩
    cases h2 : mayS r
    · go_wp2
      go_ret
      exact ⟨ret_bool (by simp [h1, h2]), rfl⟩
    · by_cases h3 : r.size ≤ s.size
      · have hf := Lib.hid (show prefS s r = ((s.extract 0 r.size).toList == r.toList) by simp [prefS, h3])
        go_wp2
        go_ret
        exact ⟨ret_bool (by simp [h1, h2, hf.out]), rfl⟩
      · have hf := Lib.hid (show prefS s r = false by simp [prefS, h3])
        go_wp2
        go_ret
        exact ⟨ret_bool (by simp [h1, h2, hf.out]), rfl⟩

/-- Nothing but draws. -/
def Drew (w w' : World) : Prop := ∃ n, w' = w.drewN n
theorem Drew.refl (w : World) : Drew w w := ⟨0, rfl⟩
theorem Drew.drewN {w w' : World} (h : Drew w w') (n : Nat) : Drew w (w'.drewN n) := by
  obtain ⟨m, rfl⟩ := h; exact ⟨m + n, World.drewN_drewN _ _ _⟩
theorem Drew.below {w w' : World} (h : Drew w w') : Below w.heap.size w w' := by
  obtain ⟨n, rfl⟩ := h; exact below_drewN (Below.refl _ _) n

theorem getbl (s : ByteArray) (k : Nat) (h : k < s.size) : s.data.toList[k]'(by simpa using h) = s[k] := rfl

set_option maxHeartbeats 800000 in
set_option maxRecDepth 100000 in
theorem rcompare_any (a b : ByteArray) (w : World) (ha : a.size ≤ 9223372036854775807) (_hb : b.size ≤ 9223372036854775807) :
    Calls Try.prog 55 #[.string a, .string b] w fun e w' => e = .returned (.int .i64 (cmpS a b)) ∧ Drew w w' := by
  have hal : a.data.toList.length = a.size := by simp
  have hbl : b.data.toList.length = b.size := by simp
  have HL := Lib.hid (And.intro hal hbl)
  rw [cmpS_eq]
  clear hal hbl
  go_enter Try.func55, Try.ntmps55
  go_wp2_with fail
  go_loopw [5] (fun i wr => ∃ k : Nat, i = .int .i64 k ∧ k ≤ a.size ∧ k ≤ b.size ∧ Hid (cmpL a.data.toList b.data.toList = cmpL (a.data.toList.drop k) (b.data.toList.drop k)) ∧ Drew w wr) (fun i _ => a.size - (intOf i).toNat)
  case atStart => exact ⟨0, rfl, Nat.zero_le _, Nat.zero_le _, rfl, Drew.refl _⟩
  case round =>
    obtain ⟨k, rfl, hka, hkb, hD, hB⟩ := hrel
    by_cases hla : k < a.size
    · by_cases hlb : k < b.size
      · have hA := getbl a k hla
        have hBb := getbl b k hlb
        have GA := Lib.hid hA; have GB := Lib.hid hBb
        clear hA hBb
        by_cases h1 : (a[k].toNat : Int) < b[k].toNat
        · have hf := Lib.hid (cmpL_drop_lt (by rw [HL.out.1]; exact hla) (by rw [HL.out.2]; exact hlb) hD.out (by rw [GA.out, GB.out, UInt8.lt_iff_toNat_lt]; omega))
          go_wp2_with fail
          go_quiet (fail)
          go_wp2
          go_ret
          exact ⟨ret_int hf.out.symm, by first | exact hB.drewN _ | exact (hB.drewN _).drewN _⟩
        · by_cases h2 : (b[k].toNat : Int) < a[k].toNat
          · have hf := Lib.hid (cmpL_drop_gt (by rw [HL.out.1]; exact hla) (by rw [HL.out.2]; exact hlb) hD.out (by rw [GA.out, GB.out, UInt8.lt_iff_toNat_lt]; omega))
            go_wp2_with fail
            go_quiet (fail)
            go_wp2
            go_quiet (fail)
            go_wp2
            go_ret
            exact ⟨ret_int hf.out.symm, by first | exact hB.drewN _ | exact (hB.drewN _).drewN _⟩
          · have hf := Lib.hid (cmpL_drop_eq (by rw [HL.out.1]; exact hla) (by rw [HL.out.2]; exact hlb) hD.out (by rw [GA.out, GB.out, ← UInt8.toNat_inj]; omega))
            go_wp2_with fail
            go_quiet (fail)
            go_wp2
            go_quiet (fail)
            go_wp2
            go_roundw
            case rel => exact ⟨k + 1, by go_num, by omega, by omega, hf.out, by first | exact hB.drewN _ | exact (hB.drewN _).drewN _⟩
            case measure => simp [intOf]; omega
      · have hf := Lib.hid (cmpL_drop_end hD.out (by rw [HL.out.1]; exact hka) (by rw [HL.out.2]; exact hkb) (by rw [HL.out.2]; right; omega))
        have h5 : (b.size : Int) < a.size := by omega
        have h6 : ¬ (a.size : Int) < b.size := by omega
        go_wp2
        go_ret
        exact ⟨ret_int (by rw [hf.out, HL.out.1, HL.out.2, if_neg (by omega), if_pos (by omega)]), hB⟩
    · have hf := Lib.hid (cmpL_drop_end hD.out (by rw [HL.out.1]; exact hka) (by rw [HL.out.2]; exact hkb) (by rw [HL.out.1]; left; omega))
      by_cases h5 : (a.size : Int) < b.size
      · go_wp2
        go_ret
        exact ⟨ret_int (by rw [hf.out, HL.out.1, HL.out.2, if_pos (by omega)]), hB⟩
      · have h6 : ¬ (b.size : Int) < a.size := by omega
        go_wp2
        go_ret
        exact ⟨ret_int (by rw [hf.out, HL.out.1, HL.out.2, if_neg (by omega), if_neg (by omega)]), hB⟩

theorem commonS_take {a b : ByteArray} {k : Nat} (h1 : mayS a = true) (h2 : mayS b = true) (h : lcp a.data.toList b.data.toList = a.data.toList.take k) : a.extract 0 k = commonS a b := by
  unfold commonS; rw [h1, h2, Bool.and_self, if_pos rfl, h, Lib.extract_eq]; simp

end Go.Proofs.Ythbkbmkcgpdedaa
