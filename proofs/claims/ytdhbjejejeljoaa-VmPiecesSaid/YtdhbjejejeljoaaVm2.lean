/- Contracts: vm.Frame.fail, ops, calc. -/
import Derived.Test.YtdhbjejejeljoaaVm1
namespace Go.Proofs.Ytdhbjejejeljoaa
open Go.RowKit Go.Sort Go.Lib

set_option maxHeartbeats 1600000 in
set_option maxRecDepth 100000 in
theorem vfail_any {x r : Nat} {pv : Value} {t : Tk} {av kv wv rv : Value} {s : Vs} {w : World} (z : Int) (h : Vm x r pv t av kv wv rv s w) : Calls Try.prog 45 #[.pointer (some ⟨x, 0, none⟩), .int .i64 z] w (VmP x r pv t av kv (endV s ⟨0, z⟩) w) := by
  go_enter Try.func45, Try.ntmps45
  go_wp2_with fail
  refine (end_any ⟨0, z⟩ h).mono ?_
  rintro e w2 ⟨ev, kv', wv', rv', rfl, h1⟩
  go_wp2_with fail
  go_ret
  exact ⟨ev, kv', wv', rv', rfl, h1⟩
set_option maxHeartbeats 1600000 in
set_option maxRecDepth 100000 in
theorem vops_any {x r : Nat} {pv : Value} {t : Tk} {av kv wv rv : Value} {s : Vs} {w : World} {p : List Fnc} (h : Vm x r pv t av kv wv rv s w) (hp : ProgAt w pv p) (h0 : 0 ≤ t.fn) (h1 : t.fn < p.length) : Calls Try.prog 47 #[.pointer (some ⟨x, 0, none⟩)] w fun e w' => e = .returned (.slice (fnAt p t.fn).oa (fnAt p t.fn).ops.length (fnAt p t.fn).oc) ∧ ∃ n, w' = w.drewN n := by
  obtain ⟨j, hj⟩ : ∃ j : Nat, t.fn = j := ⟨t.fn.toNat, by omega⟩
  have hjl : j < p.length := by omega
  have hfa : fnAt p t.fn = p[j] := by
    unfold fnAt
    rw [hj, List.getD_eq_getElem?_getD, Int.toNat_natCast, List.getElem?_eq_getElem hjl]; rfl
  obtain ⟨pb, poff, pcap, he, hpb, hpc⟩ := hp.fns.at (by omega)
  subst he
  obtain ⟨f0, f1, f2⟩ := fn_at hpc hjl
  obtain ⟨x0, x1, x2, x5, x6, x7, x8, x9, x10, x11⟩ := vm_cells h
  rw [hj] at x2
  rw [hfa]
  have q1 : (j : Int) < p.length := by omega
  have q0 : (0 : Int) ≤ j := by omega
  generalize p[j] = f at *
  clear hpc hpb h hp hfa h0 h1 x1 x5 x6 x7 x8 x9 x10 x11 f0 f1 hj
  go_enter Try.func47, Try.ntmps47
  go_upto_region 1 with fail
  go_quiet (fail)
  go_wp2_with fail
  go_ret
  exact ⟨rfl, _, rfl⟩
set_option maxHeartbeats 400000 in
theorem vtruth_any (b : Bool) (w : World) : Calls Try.prog 63 #[.bool b] w fun e w' => e = .returned (.int .i64 (if b then 1 else 0)) ∧ w' = w := by
  go_enter Try.func63, Try.ntmps63
  cases b
  · go_wp2_with fail
    go_ret
    exact ⟨rfl, rfl⟩
  · go_wp2_with fail
    go_ret
    exact ⟨rfl, rfl⟩
end Go.Proofs.Ytdhbjejejeljoaa
