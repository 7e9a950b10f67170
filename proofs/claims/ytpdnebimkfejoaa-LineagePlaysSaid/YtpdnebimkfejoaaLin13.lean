/- Same: two roots; what no tree answers. -/
import Derived.Test.YtpdnebimkfejoaaLinS
import Derived.Test.YtpdnebimkfejoaaLin12
namespace Go.Proofs.Ytpdnebimkfejoaa
open Go.RowKit Go.Sort Go.Lib

def sameR (x y : Rl) : Bool := decide (x.1 = y.1 ∧ x.2.st = y.2.st ∧ x.2.wk = y.2.wk ∧ x.2.ep = y.2.ep) && sameT x.1.2 y.1.2 x.2.fn y.2.fn x.2.fuel y.2.fuel x.2.args y.2.args
theorem sameR_iff (x y : Rl) : sameR x y = true ↔ coreP x = coreP y := by
  obtain ⟨n, fn, aa, ac, args, fuel, st, wk, ep⟩ := x
  obtain ⟨n', fn', aa', ac', args', fuel', st', wk', ep'⟩ := y
  unfold sameR sameT coreP core
  simp only [Bool.and_eq_true, decide_eq_true_eq, Prod.mk.injEq, Rw.mk.injEq, true_and]
  constructor
  · rintro ⟨⟨rfl, rfl, rfl, rfl⟩, _, rfl, rfl, rfl⟩
    exact ⟨rfl, rfl, rfl, rfl, rfl, rfl, rfl⟩
  · rintro ⟨rfl, rfl, rfl, rfl, rfl, rfl, rfl⟩
    exact ⟨⟨rfl, rfl, rfl, rfl⟩, rfl, rfl, rfl, rfl⟩
theorem sameR_refl (x : Rl) : sameR x x = true := (sameR_iff x x).2 rfl
set_option maxHeartbeats 1600000 in
set_option maxRecDepth 100000 in
theorem same_any (x y : Rl) (w : World) (hx : ReadsK encI 1 w (.slice x.2.aa x.2.args.length x.2.ac) x.2.args) (hy : ReadsK encI 1 w (.slice y.2.aa y.2.args.length y.2.ac) y.2.args) (hl : x.2.args.length ≤ 1000000) :
    Calls Try.prog 18 #[.agg (encT x).toArray, .agg (encT y).toArray] w fun e w' => e = .returned (.bool (sameR x y)) ∧ Below w.heap.size w w' := by
  unfold encT
  have hA : Below w.heap.size w ((w.alloc (.cells #[.int .u64 x.1.1, .string x.1.2, .string x.1.2, .int .i64 x.2.fn, .slice x.2.aa x.2.args.length x.2.ac, .int .i64 x.2.fuel, .int .u8 x.2.st, .int .i64 x.2.wk, .int .u64 x.2.ep] 42)).alloc (.cells #[.int .u64 y.1.1, .string y.1.2, .string y.1.2, .int .i64 y.2.fn, .slice y.2.aa y.2.args.length y.2.ac, .int .i64 y.2.fuel, .int .u8 y.2.st, .int .i64 y.2.wk, .int .u64 y.2.ep] 42)) := ((Below.refl _ _).alloc (Nat.le_refl _) _).alloc (by simp) _
  have HX := Lib.hid (hx.below hA)
  have HY := Lib.hid (hy.below hA)
  have HA := Lib.hid hA
  clear hx hy hA
  by_cases e1 : x.1 = y.1
  · have he : ∀ w, (binOp .eql 29 (.agg #[.int .u64 x.1.1, .string x.1.2]) (.agg #[.int .u64 y.1.1, .string y.1.2])).run Try.prog w = .ok (.bool true) w := fun w => (eqlN x.1 y.1 w).trans (by rw [decide_eq_true e1])
    have E1 := Lib.hid e1
    clear e1
    by_cases e2 : x.2.st = y.2.st
    · have b2 : (x.2.st == y.2.st) = true := by simp [e2]
      have E2 := Lib.hid e2
      clear e2
      by_cases e3 : x.2.wk = y.2.wk
      · have b3 : (x.2.wk == y.2.wk) = true := by simp [e3]
        have E3 := Lib.hid e3
        clear e3
        by_cases e4 : x.2.ep = y.2.ep
        · have b4 : (x.2.ep == y.2.ep) = true := by simp [e4]
          have hr := Lib.hid (show sameR x y = sameT x.1.2 y.1.2 x.2.fn y.2.fn x.2.fuel y.2.fuel x.2.args y.2.args by unfold sameR; rw [decide_eq_true ⟨E1.out, E2.out, E3.out, e4⟩]; rfl)
          clear e4
          go_enter Try.func18, Try.ntmps18
          go_wp2_with fail
          refine (same_task x.1.2 y.1.2 x.2.fn y.2.fn x.2.fuel y.2.fuel _ _ x.2.args y.2.args _ HX.out HY.out hl).mono ?_
          rintro e w2 ⟨rfl, hB⟩
          have HB := Lib.hid (gthen HA.out hB)
          clear hB
          go_wp2_with fail
          go_ret
          exact ⟨ret_boolE hr.out.symm, HB.out⟩
        · have b4 : (x.2.ep == y.2.ep) = false := by simpa using e4
          have hr := Lib.hid (show sameR x y = false by unfold sameR; rw [decide_eq_false (fun h => e4 h.2.2.2)]; rfl)
          clear e4
          go_enter Try.func18, Try.ntmps18
          go_wp2_with fail
          go_ret
          exact ⟨ret_boolE hr.out.symm, HA.out⟩
      · have b3 : (x.2.wk == y.2.wk) = false := by simpa using e3
        have hr := Lib.hid (show sameR x y = false by unfold sameR; rw [decide_eq_false (fun h => e3 h.2.2.1)]; rfl)
        clear e3
        go_enter Try.func18, Try.ntmps18
        go_wp2_with fail
        go_ret
        exact ⟨ret_boolE hr.out.symm, HA.out⟩
    · have b2 : (x.2.st == y.2.st) = false := by simpa using e2
      have hr := Lib.hid (show sameR x y = false by unfold sameR; rw [decide_eq_false (fun h => e2 h.2.1)]; rfl)
      clear e2
      go_enter Try.func18, Try.ntmps18
      go_wp2_with fail
      go_ret
      exact ⟨ret_boolE hr.out.symm, HA.out⟩
  · have he : ∀ w, (binOp .eql 29 (.agg #[.int .u64 x.1.1, .string x.1.2]) (.agg #[.int .u64 y.1.1, .string y.1.2])).run Try.prog w = .ok (.bool false) w := fun w => (eqlN x.1 y.1 w).trans (by rw [decide_eq_false e1])
    have hr := Lib.hid (show sameR x y = false by unfold sameR; rw [decide_eq_false (fun h => e1 h.1)]; rfl)
    clear e1
    go_enter Try.func18, Try.ntmps18
    go_wp2_with fail
    go_ret
    exact ⟨ret_boolE hr.out.symm, HA.out⟩
end Go.Proofs.Ytpdnebimkfejoaa
