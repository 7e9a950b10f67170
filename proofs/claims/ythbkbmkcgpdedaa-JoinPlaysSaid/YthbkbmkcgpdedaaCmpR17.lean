/- Contract: the document's Compare of names. -/
import Derived.Test.YthbkbmkcgpdedaaRef12b
import Derived.Test.YthbkbmkcgpdedaaWk17
namespace Go.Proofs.Ythbkbmkcgpdedaa
open Go.RowKit Go.Sort Go.Lib
theorem ret_intC {k : IntKind} {b c : Int} (h : b = c) : Ending.returned (.int k b) = Ending.returned (.int k c) := by rw [h]
set_option maxHeartbeats 400000 in
set_option maxRecDepth 100000 in
theorem rcompareN_any (a b : Nm) (w : World) (ha : a.2.size ≤ 9223372036854775807) (hb : b.2.size ≤ 9223372036854775807) :
    Calls Try.prog 34 #[.agg #[.int .u64 a.1, .string a.2], .agg #[.int .u64 b.1, .string b.2]] w fun e w' => e = .returned (.int .i64 (cmpN a b)) ∧ Below w.heap.size w w' := by
  have hA : ∀ (w : World) o, Below w.heap.size w (w.alloc o) := fun w o => (Below.refl _ _).alloc (Nat.le_refl _) o
  have HA : Hid (Below w.heap.size w ((w.alloc (.cells #[.int .u64 a.1, .string a.2] 35)).alloc (.cells #[.int .u64 b.1, .string b.2] 35))) := (hA w _).trans ((hA _ _).mono (by simp))
  clear hA
  go_enter Try.func34, Try.ntmps34
  by_cases h1 : a.1 = b.1
  · have hc := Lib.hid (show cmpN a b = cmpS a.2 b.2 by simp [cmpN, orI, cmpU, h1])
    go_wp2_with fail
    refine (rcompare_any a.2 b.2 _ ha hb).mono ?_
    rintro e w1 ⟨rfl, q, rfl⟩
    clear h1
    go_wp2_with fail
    go_ret
    exact ⟨ret_intC hc.out.symm, below_drewN (((Below.refl _ _).alloc (Nat.le_refl _) _).alloc (by simp) _) q⟩
  · by_cases h2 : a.1 < b.1
    · have hc := Lib.hid (show cmpN a b = -1 by simp [cmpN, orI, cmpU, h2])
      go_wp2_with fail
      go_ret
      exact ⟨ret_intC hc.out.symm, HA.out⟩
    · have hc := Lib.hid (show cmpN a b = 1 by simp [cmpN, orI, cmpU, h2, show b.1 < a.1 by omega])
      go_wp2_with fail
      go_ret
      exact ⟨ret_intC hc.out.symm, HA.out⟩

end Go.Proofs.Ythbkbmkcgpdedaa
