/- BranchTells: the walk. -/
import Derived.Test.YtpjfgniohbaonaaAlive12
namespace Go.Proofs.Ytpjfgniohbaonaa
open Go.RowKit

set_option maxHeartbeats 1600000 in
set_option maxRecDepth 100000 in
theorem tells_walk (a b : ByteArray) (n : Int) (w : World) (ha : a.size ≤ 9223372036854775807) (hb : b.size ≤ 9223372036854775807) :
    Calls Try.prog 3 #[.string a, .string b, .int .i64 n] w fun e w' => e = .returned (.bool true) ∧ Below w.heap.size w w' := by
  by_cases h1 : 1024 < (a.size : Int)
  · go_enter Try.func3, Try.ntmps3
    go_wp2_with fail
    refine (alive_any _).mono ?_; rintro e w1 ⟨rfl, hB⟩
    go_wp2
    go_ret
    exact ⟨ret_bool rfl, hB⟩
  · by_cases h2 : 1024 < (b.size : Int)
    · go_enter Try.func3, Try.ntmps3
      go_wp2_with fail
      refine (alive_any _).mono ?_; rintro e w1 ⟨rfl, hB⟩
      go_wp2
      go_ret
      exact ⟨ret_bool rfl, hB⟩
    · go_enter Try.func3, Try.ntmps3
      go_wp2_with fail
      refine (parent_any a _ ha).mono ?_; rintro e w1 ⟨rfl, hB⟩
      go_wp2_with fail
      refine (rparent_any a _ ha).mono ?_; rintro e w2 ⟨rfl, rfl⟩
      go_wp2_with fail
      refine (kid_any a n _ ha).mono ?_; rintro e w2 ⟨rfl, hB2⟩; replace hB := gthen hB hB2; clear hB2
      go_wp2_with fail
      refine (rkid_any a n _ ha).mono ?_; rintro e w3 ⟨rfl, hB2⟩; replace hB := gthen hB hB2; clear hB2
      go_wp2_with fail
      refine (may_any a _ ha).mono ?_; rintro e w4 ⟨rfl, hB2⟩; replace hB := gthen hB hB2; clear hB2
      go_wp2_with fail
      refine (rmay_any a _ ha).mono ?_; rintro e w5 ⟨rfl, rfl⟩
      go_wp2_with fail
      refine (last_any a _ ha).mono ?_; rintro e w5 ⟨rfl, hB2⟩; replace hB := gthen hB hB2; clear hB2
      go_wp2_with fail
      refine (rlast_any a _ ha).mono ?_; rintro e w6 ⟨rfl, rfl⟩
      go_wp2_with fail
      refine (under_any a b _ ha hb).mono ?_; rintro e w6 ⟨rfl, hB2⟩; replace hB := gthen hB hB2; clear hB2
      go_wp2_with fail
      refine (runder_any a b _ ha hb).mono ?_; rintro e w7 ⟨rfl, rfl⟩
      go_wp2_with fail
      refine (compare_any a b _).mono ?_; rintro e w7 ⟨rfl, rfl⟩
      go_wp2_with fail
      refine (rcompare_any a b _ ha hb).mono ?_; rintro e w7 ⟨rfl, hD⟩; have hB2 := hD.below; replace hB := gthen hB hB2; clear hB2 hD
      go_wp2_with fail
      refine (common_any a b _ ha hb).mono ?_; rintro e w8 ⟨rfl, hB2⟩; replace hB := gthen hB hB2; clear hB2
      go_wp2_with fail
      refine (rcommon_any a b _ ha hb).mono ?_; rintro e w9 ⟨rfl, hB2⟩; replace hB := gthen hB hB2; clear hB2
      go_wp2_with fail
      refine (alive_any _).mono ?_; rintro e w10 ⟨rfl, hB2⟩; replace hB := gthen hB hB2; clear hB2
      go_wp2
      go_ret
      exact ⟨ret_bool rfl, hB⟩
theorem tells_row (a b : ByteArray) (n : Int) (w : World) (ha : a.size ≤ maxLen) (hb : b.size ≤ maxLen) (_hn : (Lit.int .i64 n).wf = true) :
    Calls Try.prog 3 #[.string a, .string b, .int .i64 n] w fun e w' => e = .returned (.bool true) ∧ Below w.heap.size w w' :=
  tells_walk a b n w ha hb
end Go.Proofs.Ytpjfgniohbaonaa
