/- The document's example holds. -/
import Derived.Test.YthbkbmkcgpdedaaJoin11
namespace Go.Proofs.Ythbkbmkcgpdedaa
open Go.RowKit Go.Sort Go.Lib

theorem Box.nm0 {r : Nat} {j : Int} {p : ByteArray} {E : TypeId} {w : World} (h : Box r #[.int .u64 j, .string p] E w) : w.cell? ⟨r, 0, none⟩ = some (.int .u64 j) := h.cell 0
theorem Box.nm1 {r : Nat} {j : Int} {p : ByteArray} {E : TypeId} {w : World} (h : Box r #[.int .u64 j, .string p] E w) : w.cell? ⟨r, 1, none⟩ = some (.string p) := h.cell 1
theorem Box.tk0 {r : Nat} {p : ByteArray} {x y z : Value} {E : TypeId} {w : World} (h : Box r #[.string p, x, y, z] E w) : w.cell? ⟨r, 0, none⟩ = some (.string p) := h.cell 0
theorem Box.of_alloc (w : World) (c : Array Value) (E : TypeId) : Box w.heap.size c E (w.alloc (.cells c E)) := heap_alloc_new w (.cells c E)
theorem Box.below {r : Nat} {c : Array Value} {E : TypeId} {w w' : World} (h : Box r c E w) (hB : Below w.heap.size w w') : Box r c E w' := (hB.block r (Array.getElem?_eq_some_iff.1 h).1).trans h
theorem below_alloc (w : World) (o : Obj) : Below w.heap.size w (w.alloc o) := (Below.refl _ _).alloc (Nat.le_refl _) o
theorem nm_row : 35 ≠ 85 := by decide
theorem task_row : 38 ≠ 85 := by decide
set_option maxHeartbeats 3200000 in
set_option maxRecDepth 100000 in
theorem works_any (w : World) : Calls Try.prog 7 #[] w fun e w' => e = .returned (.bool true) ∧ Below w.heap.size w w' := by
  go_enter Try.func7, Try.ntmps7
  go_wp2_with fail
  refine (wj_new _).mono ?_
  rintro e w1 ⟨f, m, rfl, hW⟩
  have HW := Lib.hid hW
  clear hW
  go_upto_region 5 with fail
  have HBR : Hid (Box w1.heap.size #[.int .u64 1, .string ⟨#[]⟩] 35 ((w1.alloc (.cells #[.int .u64 1, .string ⟨#[]⟩] 35)).alloc (.cells #[.int .u64 1, .string ⟨#[1]⟩] 35))) := (Box.of_alloc w1 _ _).below (below_alloc _ _)
  have HBK : Hid (Box (w1.heap.size + 1) #[.int .u64 1, .string ⟨#[1]⟩] 35 ((w1.alloc (.cells #[.int .u64 1, .string ⟨#[]⟩] 35)).alloc (.cells #[.int .u64 1, .string ⟨#[1]⟩] 35))) := by
    have h := Box.of_alloc (w1.alloc (.cells #[.int .u64 1, .string ⟨#[]⟩] 35)) #[.int .u64 1, .string ⟨#[1]⟩] 35
    rw [show (w1.alloc (.cells #[.int .u64 1, .string ⟨#[]⟩] 35)).heap.size = w1.heap.size + 1 by simp] at h
    exact h
  replace HW := Lib.hid (HW.out.below ((below_alloc w1 (.cells #[.int .u64 1, .string ⟨#[]⟩] 35)).trans ((below_alloc (w1.alloc (.cells #[.int .u64 1, .string ⟨#[]⟩] 35)) (.cells #[.int .u64 1, .string ⟨#[1]⟩] 35)).mono (by simp))))
  generalize (w1.alloc (.cells #[.int .u64 1, .string ⟨#[]⟩] 35)).alloc (.cells #[.int .u64 1, .string ⟨#[1]⟩] 35) = w2 at *
  generalize w1.heap.size = rb at *
  go_wp2_with fail
  refine (task_any _ _).mono ?_
  rintro e w3 ⟨ta, tc, rfl, hv, hB⟩
  replace HW := Lib.hid (HW.out.below hB)
  replace HBR := Lib.hid (HBR.out.below hB)
  replace HBK := Lib.hid (HBK.out.below hB)
  clear hB
  go_wp2_with fail
  refine (wj_put HW.out hv).mono ?_
  rintro e w4 ⟨rfl, b, aa, ac, hW, hK⟩
  replace HW := Lib.hid hW
  replace HBR := Lib.hid (hK _ _ _ nm_row HBR.out)
  replace HBK := Lib.hid (hK _ _ _ nm_row HBK.out)
  clear hW hK hv
  go_upto_region 6 with fail
  have HBR0 := HBR.out.nm0; have HBR1 := HBR.out.nm1
  go_wp2_with fail
  refine (wj_begin (n := nR) HW.out get1 (.inl rfl) (upd1 2 0 0) (by simp [tb1, rw0])).mono ?_
  rintro e w5 ⟨⟨ga, gc, rfl⟩, hW, hK⟩
  replace HW := Lib.hid hW
  replace HBR := Lib.hid (hK _ _ _ nm_row HBR.out)
  replace HBK := Lib.hid (hK _ _ _ nm_row HBK.out)
  clear hW hK
  clear HBR0 HBR1
  go_upto_region 7 with fail
  have hB := below_alloc w5 (.cells #[.string ⟨#[]⟩, .int .i64 0, .slice ga 1 gc, .int .i64 9] 38)
  replace HW := Lib.hid (HW.out.below hB)
  replace HBR := Lib.hid (HBR.out.below hB)
  replace HBK := Lib.hid (HBK.out.below hB)
  clear hB
  generalize w5.alloc (.cells #[.string ⟨#[]⟩, .int .i64 0, .slice ga 1 gc, .int .i64 9] 38) = w6 at *
  have HWd := Lib.hid (HW.out.below ((Below.refl _ w6).drew))
  have HBKd := Lib.hid (HBK.out.below ((Below.refl _ w6).drew))
  clear HW HBK
  refine wp_region_held_drew (S := fun y => Box rb #[.int .u64 1, .string ⟨#[]⟩] 35 y) (by kernel_rfl) (HBR.out) (fun hHeld => ?_)
  refine wpAnyH_take (i := 0) (oi := _) (v := ?_) (by rw [List.getElem?_toArray]; exact rfl) (by kernel_rfl) (by kernel_rfl) (by kernel_rfl) (by exact fun _ _ _ h => h) (Or.inl ⟨by rfl, ?_⟩) hHeld ?_
  rotate_left
  · (intro wX hSw; have q0 := hSw.nm0; have q1 := hSw.nm1; clear hSw; go_simp; try with_reducible rfl)
  try simp only [Act.put, List.setIfInBounds_toArray, List.set_cons_zero, List.set_cons_succ]
  refine wpAnyH_take (i := 1) (oi := _) (v := ?_) (by rw [List.getElem?_toArray]; exact rfl) (by kernel_rfl) (by kernel_rfl) (by kernel_rfl) (by exact fun _ _ _ h => h) (Or.inl ⟨by rfl, ?_⟩) hHeld ?_
  rotate_left
  · (intro wX hSw; have q0 := hSw.nm0; have q1 := hSw.nm1; clear hSw; go_simp; try with_reducible rfl)
  try simp only [Act.put, List.setIfInBounds_toArray, List.set_cons_zero, List.set_cons_succ]
  refine wpAnyH_ready (rs := [2]) (by kernel_rfl) (by simp) ?_
  refine AllReadyH.cons (o := _) (by rw [List.getElem?_toArray]; exact rfl) (fun K hK => ?_) ?_
  · go_simp
    refine (task_any _ _).mono ?_; rintro e w7 ⟨ta, tc, rfl, hv, hB⟩; have HW := Lib.hid (HWd.out.below hB); have HBK := Lib.hid (HBKd.out.below hB); clear HWd HBKd
    go_wp2_with fail
    refine hK.out _ _ (Box.below hHeld hB) (fun hHeld => ?_)
    clear hK K
    try simp only [Act.put, List.setIfInBounds_toArray, List.set_cons_zero, List.set_cons_succ]
    refine wpAnyH_ready (rs := [3]) (by kernel_rfl) (by simp) ?_
    refine AllReadyH.cons (o := _) (by rw [List.getElem?_toArray]; exact rfl) (fun K hK => ?_) ?_
    · go_simp
      refine (wj_fork HW.out hv).mono ?_; rintro e w8 ⟨rfl, b2, aa2, ac2, hW, hKp⟩; replace HW := Lib.hid hW; replace HBK := Lib.hid (hKp _ _ _ nm_row HBK.out); clear hW hv
      go_wp2_with fail
      refine hK.out _ _ (hKp _ _ _ nm_row hHeld) (fun hHeld => ?_)
      clear hK K
      try simp only [Act.put, List.setIfInBounds_toArray, List.set_cons_zero, List.set_cons_succ]
      refine wpAnyH_take (i := 4) (oi := _) (v := ?_) (by rw [List.getElem?_toArray]; exact rfl) (by kernel_rfl) (by kernel_rfl) (by kernel_rfl) (by exact fun _ _ _ h => h) (Or.inl ⟨by rfl, ?_⟩) hHeld ?_
      rotate_left
      · (intro wX hSw; have q0 := hSw.nm0; have q1 := hSw.nm1; clear hSw; go_simp; try with_reducible rfl)
      try simp only [Act.put, List.setIfInBounds_toArray, List.set_cons_zero, List.set_cons_succ]
      refine wpAnyH_done (by kernel_rfl) ?_ _
      replace HBR := Lib.hid hHeld
      clear hHeld hKp
      go_upto_region 8 with fail
      have HBR0 := HBR.out.nm0; have HBR1 := HBR.out.nm1
      go_wp2_with fail
      refine (wj_wait (n := nR) HW.out get2R).mono ?_
      rintro e w9 ⟨rfl, hW, hK⟩
      rw [if_neg (by decide), upd2R] at hW
      simp only [show (!decide ((1 : Int) = 0)) = true from rfl]
      replace HW := Lib.hid hW
      replace HBR := Lib.hid (hK _ _ _ nm_row HBR.out)
      replace HBK := Lib.hid (hK _ _ _ nm_row HBK.out)
      clear hW hK
      clear HBR0 HBR1
      go_upto_region 9 with fail
      have HBK0 := HBK.out.nm0; have HBK1 := HBK.out.nm1
      go_wp2_with fail
      refine (wj_begin (n := nK) HW.out get2K (.inl rfl) (upd2K 2 0 0) (by simp [tb2, rw0])).mono ?_
      rintro e w10 ⟨⟨ga, gc, rfl⟩, hW, hK⟩
      replace HW := Lib.hid hW
      replace HBR := Lib.hid (hK _ _ _ nm_row HBR.out)
      replace HBK := Lib.hid (hK _ _ _ nm_row HBK.out)
      clear hW hK
      clear HBK0 HBK1
      go_upto_region 10 with fail
      have hB := below_alloc w10 (.cells #[.string ⟨#[1]⟩, .int .i64 0, .slice ga 1 gc, .int .i64 9] 38)
      replace HW := Lib.hid (HW.out.below hB)
      replace HBR := Lib.hid (HBR.out.below hB)
      replace HBK := Lib.hid (HBK.out.below hB)
      have HBT := Lib.hid (Box.of_alloc w10 #[.string ⟨#[1]⟩, .int .i64 0, .slice ga 1 gc, .int .i64 9] 38)
      clear hB
      generalize w10.alloc (.cells #[.string ⟨#[1]⟩, .int .i64 0, .slice ga 1 gc, .int .i64 9] 38) = w11 at *
      generalize w10.heap.size = rhbt at *
      go_upto_region 10 with fail
      have HBK0 := HBK.out.nm0; have HBK1 := HBK.out.nm1
      go_wp2_with fail
      refine (wj_over_kid HW.out).mono ?_
      rintro e w12 ⟨rfl, hW, hK⟩
      replace HW := Lib.hid hW
      replace HBR := Lib.hid (hK _ _ _ nm_row HBR.out)
      replace HBK := Lib.hid (hK _ _ _ nm_row HBK.out)
      replace HBT := Lib.hid (hK _ _ _ task_row HBT.out)
      clear hW hK
      clear HBK0 HBK1
      go_upto_region 11 with fail
      have hB := below_alloc w12 (.cells #[.int .u64 1, .string ⟨#[]⟩] 35)
      replace HW := Lib.hid (HW.out.below hB)
      replace HBR := Lib.hid (HBR.out.below hB)
      replace HBK := Lib.hid (HBK.out.below hB)
      replace HBT := Lib.hid (HBT.out.below hB)
      have HBN := Lib.hid (Box.of_alloc w12 #[.int .u64 1, .string ⟨#[]⟩] 35)
      clear hB
      generalize w12.alloc (.cells #[.int .u64 1, .string ⟨#[]⟩] 35) = w13 at *
      generalize w12.heap.size = rhbn at *
      go_upto_region 11 with fail
      have HBR0 := HBR.out.nm0; have HBR1 := HBR.out.nm1
      go_wp2_with fail
      refine (wj_begin (n := nR) HW.out get2R (.inr rfl) (upd2R 2 0 0) (by simp [tb2, rw0])).mono ?_
      rintro e w14 ⟨⟨ga, gc, rfl⟩, hW, hK⟩
      replace HW := Lib.hid hW
      replace HBR := Lib.hid (hK _ _ _ nm_row HBR.out)
      replace HBK := Lib.hid (hK _ _ _ nm_row HBK.out)
      replace HBT := Lib.hid (hK _ _ _ task_row HBT.out)
      replace HBN := Lib.hid (hK _ _ _ nm_row HBN.out)
      clear hW hK
      clear HBR0 HBR1
      go_upto_region 12 with fail
      have hB := below_alloc w14 (.cells #[.string ⟨#[]⟩, .int .i64 0, .slice ga 1 gc, .int .i64 9] 38)
      replace HW := Lib.hid (HW.out.below hB)
      replace HBR := Lib.hid (HBR.out.below hB)
      replace HBK := Lib.hid (HBK.out.below hB)
      replace HBT := Lib.hid (HBT.out.below hB)
      replace HBN := Lib.hid (HBN.out.below hB)
      clear hB
      generalize w14.alloc (.cells #[.string ⟨#[]⟩, .int .i64 0, .slice ga 1 gc, .int .i64 9] 38) = w15 at *
      go_upto_region 12 with fail
      have HBR0 := HBR.out.nm0; have HBR1 := HBR.out.nm1
      go_wp2_with fail
      refine (wj_wait (n := nR) HW.out get2R).mono ?_
      rintro e w16 ⟨rfl, hW, hK⟩
      rw [if_pos rfl] at hW
      simp only
      replace HW := Lib.hid hW
      replace HBR := Lib.hid (hK _ _ _ nm_row HBR.out)
      replace HBK := Lib.hid (hK _ _ _ nm_row HBK.out)
      replace HBT := Lib.hid (hK _ _ _ task_row HBT.out)
      replace HBN := Lib.hid (hK _ _ _ nm_row HBN.out)
      clear hW hK
      clear HBR0 HBR1
      go_upto_region 13 with fail
      have HBR0 := HBR.out.nm0; have HBR1 := HBR.out.nm1
      go_wp2_with fail
      refine (wj_over_root HW.out).mono ?_
      rintro e w17 ⟨rfl, hW, hK⟩
      replace HW := Lib.hid hW
      replace HBR := Lib.hid (hK _ _ _ nm_row HBR.out)
      replace HBK := Lib.hid (hK _ _ _ nm_row HBK.out)
      replace HBT := Lib.hid (hK _ _ _ task_row HBT.out)
      replace HBN := Lib.hid (hK _ _ _ nm_row HBN.out)
      clear hW hK
      clear HBR0 HBR1
      go_upto_region 14 with fail
      have hB := below_alloc w17 (.cells #[.int .u64 0, .string ⟨#[]⟩] 35)
      replace HW := Lib.hid (HW.out.below hB)
      replace HBR := Lib.hid (HBR.out.below hB)
      replace HBK := Lib.hid (HBK.out.below hB)
      replace HBT := Lib.hid (HBT.out.below hB)
      replace HBN := Lib.hid (HBN.out.below hB)
      clear hB
      generalize w17.alloc (.cells #[.int .u64 0, .string ⟨#[]⟩] 35) = w18 at *
      have HBR0 := HBR.out.nm0; have HBR1 := HBR.out.nm1
      have HBN0 := HBN.out.nm0; have HBN1 := HBN.out.nm1
      have t0 := HBT.out.tk0
      go_wp2_with fail
      refine (len_tab f m 3 _ _ HW.out.tab).mono ?_
      rintro e w19 ⟨rfl, rfl⟩
      have hlen : ((tb2 b aa ac 6 0 6 b2 aa2 ac2 6 0 5).length : Int) = 2 := rfl
      rw [hlen]
      go_wp2_with fail
      go_ret
      exact ⟨rfl, HW.out.low⟩
    exact AllReadyH.nil
  exact AllReadyH.nil
end Go.Proofs.Ythbkbmkcgpdedaa
