/- Contract: eval.Eval. -/
import Derived.Test.YtihadknnmkblcaaEv16
namespace Go.Proofs.Ytihadknnmkblcaa
open Go.RowKit Go.Sort Go.Lib

theorem eval_end {wz : World} {tmps : Array Value} {q : Rs} {err : Int} {r : Nat} {R : Ending → World → Prop}
    (hr : BoxAt wz r (resC q) ResT) (h2 : tmps.getD 6 undef = .pointer (some ⟨r, 0, none⟩)) (h3 : tmps.getD 7 undef = .int .i64 err) (hR : R (.returned (.tuple #[.agg #[.int .i64 q.v, .int .i64 q.e], .int .i64 err])) wz) :
    bodyPost Try.prog Try.f8 R Exit.ret { tmps := tmps, defers := [] } wz := by
  have c0 := hr.cell 0
  have c1 := hr.cell 1
  simp only [resC, List.getElem?_toArray, List.getElem?_cons_zero, List.getElem?_cons_succ] at c0 c1
  refine bodyPost_ret (v := .tuple #[.agg #[.int .i64 q.v, .int .i64 q.e], .int .i64 err]) ?_ rfl hR
  have h2' : tmps[6]?.getD undef = .pointer (some ⟨r, 0, none⟩) := by simpa using h2
  have h3' : tmps[7]?.getD undef = .int .i64 err := by simpa using h3
  simp [results, Try.results8, go_sem, h2', h3', c0, c1]
/-- What Eval answers. -/
def evalR (p : List Fnc) (l : List Int) (fuel : Int) : Rs := if rootE p l.length fuel = 0 then (doP p (fuel.toNat + 1) (rootT l fuel)).1 else ⟨0, 0⟩
theorem doP_head (p : List Fnc) (n : Nat) (t : Tk) : ∃ k L, (doP p (n + 1) t).2 = ⟨t, (doP p (n + 1) t).1, k⟩ :: L := ⟨_, _, rfl⟩
theorem treeE_all {p : List Fnc} {l : List Int} {fuel : Int} : treeE p l fuel 65537 = rootE p l.length fuel := by
  unfold treeE
  split
  · rfl
  · rename_i h
    have h0 : rootE p l.length fuel = 0 := by simpa using h
    obtain ⟨hp, ht⟩ := rootT_ok h0
    have hfe : (rootT l fuel).fuel = fuel := rfl
    have h1 := doP_ok hp (fuel.toNat + 1) (rootT l fuel) ht (by have := ht.u0; rw [hfe] at this ⊢; omega)
    have h2 := ht.u1
    rw [hfe] at h1 h2
    rw [if_neg (by omega), h0]
def EvalP (w0 : World) (p : List Fnc) (l : List Int) (fuel : Int) (e : Ending) (w' : World) : Prop :=
  e = .returned (.tuple #[.agg #[.int .i64 (evalR p l fuel).v, .int .i64 (evalR p l fuel).e], .int .i64 (rootE p l.length fuel)]) ∧ Below w0.heap.size w0 w'
set_option maxHeartbeats 3200000 in
set_option maxRecDepth 100000 in
theorem eval_any (pv : Value) (p : List Fnc) (v : Value) (l : List Int) (fuel : Int) (w : World) (hp : ProgAt w pv p) (hv : ReadsK encN1 1 w v l) (hn : l.length ≤ 1000) :
    Calls Try.prog 8 #[.agg #[pv], v, .int .i64 fuel] w (EvalP w p l fuel) := by
  obtain ⟨pa, pc, rfl⟩ := hp.fns.slice
  obtain ⟨va, vc, rfl⟩ := hv.slice
  have HA := Lib.hid (show Below w.heap.size w ((w.alloc (.cells #[.slice pa p.length pc] 24)).alloc (.cells (resC ⟨0, 0⟩) ResT)) from ((Below.refl _ _).alloc (Nat.le_refl _) _).alloc (by simp) _)
  have HR := Lib.hid (show BoxAt ((w.alloc (.cells #[.slice pa p.length pc] 24)).alloc (.cells (resC ⟨0, 0⟩) ResT)) (w.heap.size + 1) (resC ⟨0, 0⟩) ResT from by
    have b2 := heap_alloc_new (w.alloc (.cells #[.slice pa p.length pc] 24)) (.cells (resC ⟨0, 0⟩) ResT)
    rwa [show (w.alloc (.cells #[.slice pa p.length pc] 24)).heap.size = w.heap.size + 1 by simp] at b2)
  have HP := Lib.hid hp
  have HV := Lib.hid hv
  clear hp hv
  go_enter Try.func8, Try.ntmps8
  go_wp2_with fail
  refine (tree_any _ p _ l fuel 65537 _ (HP.out.below HA.out) (HV.out.below HA.out) hn).mono ?_
  rintro e w1 ⟨hB1, tv, rfl, htr⟩
  have HB1 := Lib.hid (gthen HA.out hB1)
  have HR1 := Lib.hid (HR.out.below hB1)
  rw [treeE_all]
  unfold treeL at htr
  rw [treeE_all] at htr
  have hsz : w.heap.size ≤ w.heap.size + 1 := by omega
  have hlt : w.heap.size + 1 < ((w.alloc (.cells #[.slice pa p.length pc] 24)).alloc (.cells (resC ⟨0, 0⟩) ResT)).heap.size := by simp
  have r0 := HR1.out.cell 0; have r1 := HR1.out.cell 1
  have z0 := HR1.out.frozen 0; have z1 := HR1.out.frozen 1
  simp only [resC, List.getElem?_toArray, List.getElem?_cons_zero, List.getElem?_cons_succ] at r0 r1
  obtain ⟨re, hre⟩ : ∃ re, rootE p l.length fuel = re := ⟨_, rfl⟩
  rw [hre] at htr ⊢
  have HRE := Lib.hid hre
  have HTR := Lib.hid htr
  clear hB1 hre htr
  by_cases h0 : re = 0
  · have hne : (re != 0) = false := by simp [h0]
    obtain ⟨k, L, hkL⟩ := doP_head p fuel.toNat (rootT l fuel)
    have h1 := HTR.out
    rw [if_pos h0] at h1
    obtain ⟨L9, hm, hown, _⟩ := h1
    rw [hkL] at hm
    cases L9 with
    | nil => cases hm
    | cons d L9 =>
      have hd : d.1 = ⟨rootT l fuel, (doP p (fuel.toNat + 1) (rootT l fuel)).1, k⟩ := by
        simp only [List.map_cons, List.cons.injEq] at hm; exact hm.1
      obtain ⟨b, off, c, he, hb, hc⟩ := (own_readsK (enc := encDn) (k := 7) encDn_len (by decide) hown).at (by simp)
      subst he
      have c4 : w1.cell? ⟨b, off + 4, none⟩ = some (.int .i64 (doP p (fuel.toNat + 1) (rootT l fuel)).1.v) := by
        have h := hc 0 (by simp) 4 _ rfl
        simp only [List.getElem_cons_zero, Nat.zero_mul, Nat.zero_add] at h
        rw [h]
        show some (Value.int .i64 d.1.r.v) = _
        rw [hd]
      have c5 : w1.cell? ⟨b, off + 5, none⟩ = some (.int .i64 (doP p (fuel.toNat + 1) (rootT l fuel)).1.e) := by
        have h := hc 0 (by simp) 5 _ rfl
        simp only [List.getElem_cons_zero, Nat.zero_mul, Nat.zero_add] at h
        rw [h]
        show some (Value.int .i64 d.1.r.e) = _
        rw [hd]
      have hl0 : (0 : Int) < ((d :: L9).length : Int) := by rw [List.length_cons]; omega
      have HQ := Lib.hid (show evalR p l fuel = (doP p (fuel.toNat + 1) (rootT l fuel)).1 from by unfold evalR; rw [if_pos (HRE.out.trans h0)])
      have HZ := Lib.hid h0
      clear hm hd hc hb hkL hown h0
      generalize (doP p (fuel.toNat + 1) (rootT l fuel)).1 = q at *
      generalize (d :: L9).length = NN at *
      go_wp2_with fail
      refine eval_end (res_set (q := ⟨0, 0⟩) HR1.out q.v q.e) rfl rfl ⟨by rw [HRE.out, HZ.out, HQ.out], (HB1.out.setCell (p := ⟨w.heap.size + 1, 0, none⟩) hsz _).setCell (p := ⟨w.heap.size + 1, 1, none⟩) hsz _⟩
  · have hne : (re != 0) = true := by simpa using h0
    have HQ := Lib.hid (show evalR p l fuel = ⟨0, 0⟩ from by unfold evalR; rw [if_neg (by rw [HRE.out]; exact h0)])
    clear h0
    go_wp2_with fail
    refine eval_end (res_set (q := ⟨0, 0⟩) HR1.out 0 0) rfl rfl ⟨by rw [HRE.out, HQ.out], (HB1.out.setCell (p := ⟨w.heap.size + 1, 0, none⟩) hsz _).setCell (p := ⟨w.heap.size + 1, 1, none⟩) hsz _⟩
end Go.Proofs.Ytihadknnmkblcaa
