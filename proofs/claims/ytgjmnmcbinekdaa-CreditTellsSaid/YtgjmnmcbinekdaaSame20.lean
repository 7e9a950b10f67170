/- The document's Same. -/
import Derived.Test.YtgjmnmcbinekdaaCred12
namespace Go.Proofs.Ytgjmnmcbinekdaa
open Go.RowKit Go.Sort Go.Lib

set_option maxHeartbeats 1600000 in
set_option maxRecDepth 100000 in
theorem rsame_any (a b : List Int) (v u : Value) (w : World) (hv : ReadsK encC 1 w v a) (hu : ReadsK encC 1 w u b) (ha : a.length ≤ 1000000) (hb : b.length ≤ 1000000) :
    Calls Try.prog 16 #[v, u] w fun e w' => e = .returned (.bool (decide (a = b))) ∧ Below w.heap.size w w' := by
  obtain ⟨va, vc, rfl⟩ := hv.slice
  obtain ⟨ua, uc, rfl⟩ := hu.slice
  have HV := Lib.hid hv
  have HU := Lib.hid hu
  clear hv hu
  go_enter Try.func16, Try.ntmps16
  by_cases hl : a.length = b.length
  · have hlb : ((a.length : Int) != (b.length : Int)) = false := by simp [hl]
    have HL := Lib.hid hl
    clear hl
    go_wp2_with fail
    go_loopg [5] a.length (fun gk si wr => ∃ j : Nat, gk + j = a.length ∧ si = .int .i64 j ∧ Below w.heap.size w wr ∧ a.take j = b.take j)
    case atStart => exact ⟨0, by omega, rfl, Below.refl _ _, by simp⟩
    case round =>
      obtain ⟨j, hj, rfl, hB, ht⟩ := hrel
      have HB := Lib.hid hB
      have HT := Lib.hid ht
      clear hB ht
      by_cases hjl : j < a.length
      · have hjb : j < b.length := by have := HL.out; omega
        obtain ⟨r1, o1, cc1, he1, hb1, hc1⟩ := (HV.out.below HB.out).at (by omega)
        obtain ⟨r2, o2, cc2, he2, hb2, hc2⟩ := (HU.out.below HB.out).at (by omega)
        injection he1 with he1 he1b he1c
        injection he2 with he2 he2b he2c
        subst he1
        subst he2
        have k1 : wr.cell? ⟨r1, o1 + j, none⟩ = some (.int .i64 a[j]) := by have h := hc1 j hjl 0 _ rfl; rw [Nat.mul_one, Nat.add_zero] at h; exact h
        have k2 : wr.cell? ⟨r2, o2 + j, none⟩ = some (.int .i64 b[j]) := by have h := hc2 j hjb 0 _ rfl; rw [Nat.mul_one, Nat.add_zero] at h; exact h
        have HA1 : Hid (a.take (j + 1) = a.take j ++ [a[j]]) := List.take_succ_eq_append_getElem hjl
        have HB1 : Hid (b.take (j + 1) = b.take j ++ [b[j]]) := List.take_succ_eq_append_getElem hjb
        clear he1b he1c he2b he2c hc1 hc2 hb1 hb2
        by_cases he : a[j] = b[j]
        · have hne : (a[j] != b[j]) = false := by simp [he]
          have HE := Lib.hid he
          clear he
          go_wp2_with fail
          go_quiet (fail)
          go_wp2_with fail
          go_roundg (gk - 1)
          case rel => exact ⟨j + 1, by omega, by go_num, below_drewN HB.out _, by rw [HA1.out, HB1.out, HT.out, HE.out]⟩
          case measure => omega
        · have hne : (a[j] != b[j]) = true := by simp [he]
          have HN := Lib.hid (show a ≠ b by rintro rfl; exact he rfl)
          clear he
          go_wp2_with fail
          go_quiet (fail)
          go_wp2_with fail
          go_ret
          exact ⟨ret_boolE (decide_eq_false HN.out).symm, below_drewN HB.out _⟩
      · have HN := Lib.hid (show a = b by
          have h := HT.out
          have h2 := HL.out
          rwa [List.take_of_length_le (by omega), List.take_of_length_le (by omega)] at h)
        go_wp2_with fail
        go_ret
        exact ⟨ret_boolE (decide_eq_true HN.out).symm, HB.out⟩
  · have hlb : ((a.length : Int) != (b.length : Int)) = true := by
      have : (a.length : Int) ≠ b.length := by omega
      simp [this]
    have HN := Lib.hid (show a ≠ b from fun e => hl (by rw [e]))
    clear hl
    go_wp2_with fail
    go_ret
    exact ⟨ret_boolE (decide_eq_false HN.out).symm, Below.refl _ _⟩
end Go.Proofs.Ytgjmnmcbinekdaa
