/- EvalCalc: the walk. -/
import Derived.Test.YtihadknnmkblcaaEvS3
import Derived.Deep.DeepCutAuto
import Derived.BigRegion
namespace Go.Proofs.Ytihadknnmkblcaa
open Go.RowKit Go.Sort Go.Lib

theorem one_facts {w : World} {b0 : Nat} {k B : Int} (h0 : BoxAt w b0 (([⟨k, 2, 0, B, 0⟩, ⟨14, 0, 2, 0, 0⟩] : List Opr).flatMap encO).toArray OpT) (h1 : BoxAt w (b0 + 1) #[.int .i64 2, .int .i64 3, .slice (some ⟨b0, 0, none⟩) 2 2] FnT) (hB : B = secB k) :
    ProgAt w (.slice (some ⟨b0 + 1, 0, none⟩) 1 1) (oneP k (some ⟨b0, 0, none⟩) 2) := by
  subst hB
  refine ⟨box_readsK (enc := encF) (k := 3) (l := oneP k (some ⟨b0, 0, none⟩) 2) (fun _ => rfl) (by decide) h1 1, ?_, (by decide : (1 : Nat) ≤ 1000)⟩
  intro f hf
  simp only [oneP, List.mem_singleton] at hf
  subst hf
  exact ⟨box_readsK (enc := encO) (k := 5) (l := [⟨k, 2, 0, secB k, 0⟩, ⟨14, 0, 2, 0, 0⟩]) (fun _ => rfl) (by decide) h0 2, (by decide : (2 : Nat) ≤ 1000)⟩
theorem one_ab (w : World) (a b : Int) : ReadsK encN1 1 (w.alloc (.cells #[.int .i64 a, .int .i64 b] I64T)) (.slice (some ⟨w.heap.size, 0, none⟩) 2 2) [a, b] :=
  box_readsK (enc := encN1) (k := 1) (l := [a, b]) (fun _ => rfl) (by decide) (heap_alloc_new w _) 2
set_option maxHeartbeats 6400000 in
set_option maxRecDepth 100000 in
theorem evalcalc_walk (d a b : Int) (w : World) (hd : 0 ≤ d ∧ d < 256) :
    Calls Try.prog 4 #[.int .u8 d, .int .i64 a, .int .i64 b] w fun e w' => e = .returned (.bool true) ∧ Below w.heap.size w w' := by
  obtain ⟨k, hk⟩ : ∃ k, d % 8 + 2 = k := ⟨_, rfl⟩
  have hk1 : 2 ≤ k := by omega
  have hk2 : k ≤ 9 := by omega
  have t1 : d.tmod 8 = d % 8 := Int.tmod_eq_emod_of_nonneg hd.1
  have t2 : IntKind.u8.wrap (d % 8) = d % 8 := by simp [IntKind.wrap, go_sem]; omega
  have t3 : IntKind.u8.wrap (2 + d % 8) = k := by simp [IntKind.wrap, go_sem]; omega
  have H : ∀ w1 w2 w3 : World, w1 = w.alloc (.cells (([⟨k, 2, 0, 1, 0⟩, ⟨14, 0, 2, 0, 0⟩] : List Opr).flatMap encO).toArray OpT) → w2 = w1.alloc (.cells #[.int .i64 2, .int .i64 3, .slice (some ⟨w.heap.size, 0, none⟩) 2 2] FnT) → w3 = w2.alloc (.cells #[.slice (some ⟨w.heap.size + 1, 0, none⟩) 1 1] 24) →
      Below w.heap.size w w3 ∧ BoxAt w3 w.heap.size (([⟨k, 2, 0, 1, 0⟩, ⟨14, 0, 2, 0, 0⟩] : List Opr).flatMap encO).toArray OpT ∧ BoxAt w3 (w.heap.size + 1) #[.int .i64 2, .int .i64 3, .slice (some ⟨w.heap.size, 0, none⟩) 2 2] FnT ∧ BoxAt w3 (w.heap.size + 1 + 1) #[.slice (some ⟨w.heap.size + 1, 0, none⟩) 1 1] 24 := by
    intro w1 w2 w3 h1 h2 h3
    have s1 : w1.heap.size = w.heap.size + 1 := by rw [h1]; simp
    have s2 : w2.heap.size = w.heap.size + 1 + 1 := by rw [h2]; simp [s1]
    have B1 : Below w.heap.size w w1 := by rw [h1]; exact alb _ _
    have B2 : Below w1.heap.size w1 w2 := by rw [h2]; exact alb _ _
    have B3 : Below w2.heap.size w2 w3 := by rw [h3]; exact alb _ _
    have x1 : BoxAt w1 w.heap.size (([⟨k, 2, 0, 1, 0⟩, ⟨14, 0, 2, 0, 0⟩] : List Opr).flatMap encO).toArray OpT := by rw [h1]; exact heap_alloc_new _ _
    have x2 : BoxAt w2 (w.heap.size + 1) #[.int .i64 2, .int .i64 3, .slice (some ⟨w.heap.size, 0, none⟩) 2 2] FnT := by rw [h2, ← s1]; exact heap_alloc_new _ _
    have x3 : BoxAt w3 (w.heap.size + 1 + 1) #[.slice (some ⟨w.heap.size + 1, 0, none⟩) 1 1] 24 := by rw [h3, ← s2]; exact heap_alloc_new _ _
    exact ⟨gthen (gthen B1 B2) B3, (x1.below B2).below B3, x2.below B3, x3⟩
  have HW := Lib.hid (H _ _ _ rfl rfl rfl)
  clear H
  go_enter Try.func4, Try.ntmps4
  go_upto_region 3 with fail
  simp only [List.flatMap_cons, List.flatMap_nil, encO, List.cons_append, List.nil_append, List.append_nil] at HW
  generalize ((w.alloc (.cells #[.int .u8 k, .int .i64 2, .int .i64 0, .int .i64 1, .int .i64 0, .int .u8 14, .int .i64 0, .int .i64 2, .int .i64 0, .int .i64 0] OpT)).alloc (.cells #[.int .i64 2, .int .i64 3, .slice (some ⟨w.heap.size, 0, none⟩) 2 2] FnT)).alloc (.cells #[.slice (some ⟨w.heap.size + 1, 0, none⟩) 1 1] 24) = w3 at *
  go_upto_if 24 with fail
  go_cut [] (fun wc => Below w.heap.size w wc ∧ ProgAt wc (.slice (some ⟨w.heap.size + 1, 0, none⟩) 1 1) (oneP k (some ⟨w.heap.size, 0, none⟩) 2) ∧ BoxAt wc (w.heap.size + 1 + 1) #[.slice (some ⟨w.heap.size + 1, 0, none⟩) 1 1] 24)
  case first =>
    have x0 := HW.out.2.2.2.cell 0
    have x1 := HW.out.2.2.1.cell 2
    have x2 := HW.out.2.1.frozen 3
    have x3 := HW.out.2.1.cell 3
    simp only [List.getElem?_toArray, List.getElem?_cons_zero, List.getElem?_cons_succ] at x0 x1 x3
    by_cases h2 : k = 2
    · have h2b : (k == 2) = true := by simp [h2]
      have HK := Lib.hid h2
      clear h2
      go_wp2_with fail
      go_meet
      have hF : Fr (fun i => i = w.heap.size) w3 (w3.setCell ⟨w.heap.size, 3, none⟩ (.int .i64 0)) := (Fr.refl (fun i => i = w.heap.size) w3).setCell (p := ⟨w.heap.size, 3, none⟩) rfl _
      have hb := Go.heap_setCell_same w3 w.heap.size 3 _ _ (.int .i64 0) HW.out.2.1
      exact ⟨HW.out.1.trans (hF.below (fun i hi => by omega) HW.out.1.size), one_facts (B := 0) hb (HW.out.2.2.1.fr hF (by omega)) (by rw [HK.out]; rfl), HW.out.2.2.2.fr hF (by omega)⟩
    · have h2b : (k == 2) = false := by simp [h2]
      have HK := Lib.hid (show (1 : Int) = secB k by unfold secB; rw [if_neg h2])
      clear h2
      go_wp2_with fail
      go_meet
      exact ⟨HW.out.1, one_facts (B := 1) HW.out.2.1 HW.out.2.2.1 HK.out, HW.out.2.2.2⟩
  case rest =>
    have HC := Lib.hid hcut
    have x0 := hcut.2.2.cell 0
    simp only [List.getElem?_toArray, List.getElem?_cons_zero] at x0
    clear hcut HW
    go_wp2_with fail
    refine (eval_any _ (oneP k (some ⟨w.heap.size, 0, none⟩) 2) _ [a, b] 2 _ (HC.out.2.1.below (alb _ _)) (one_ab wc a b) (by simp)).mono ?_
    rintro e w4 ⟨rfl, hB4⟩
    rw [one_root hk1 hk2, one_eval hk1 hk2]
    have H4 := Lib.hid (gthen (gthen HC.out.1 (alb _ _)) hB4)
    clear hB4 x0 HC
    obtain ⟨rv, hrv⟩ : ∃ r, calcR k a b = r := ⟨_, rfl⟩
    rw [hrv]
    have HRV := Lib.hid hrv
    clear hrv
    go_wp2_with fail
    refine (rcalc_any k a b _ hk1 hk2).mono ?_
    rintro e w5 ⟨⟨nd, rfl⟩, he⟩
    have hb5 : BoxAt ((w4.alloc (.cells #[.int .i64 rv.v, .int .i64 rv.e] ResT)).drewN nd) w4.heap.size (resC rv) ResT := BoxAt.below (heap_alloc_new w4 _) (below_drewN (Below.refl _ _) _)
    have H5 := Lib.hid (gthen (gthen H4.out (alb w4 (.cells #[.int .i64 rv.v, .int .i64 rv.e] ResT))) (below_drewN (Below.refl _ _) nd))
    have c0 := hb5.cell 0
    have c1 := hb5.cell 1
    simp only [resC, List.getElem?_toArray, List.getElem?_cons_zero, List.getElem?_cons_succ] at c0 c1
    generalize ((w4.alloc (.cells #[.int .i64 rv.v, .int .i64 rv.e] ResT)).drewN nd) = w5 at *
    cases hc : calcP k a b with
    | none =>
      rw [hc] at he
      subst he
      have hr : rv = ⟨0, 131⟩ := by rw [← HRV.out]; unfold calcR; rw [hc]
      subst hr
      clear hc hb5
      go_wp2_with fail
      refine (alive_any _).mono ?_
      rintro e w6 ⟨rfl, hB6⟩
      go_wp2_with fail
      go_ret
      exact ⟨ret_bool rfl, gthen H5.out hB6⟩
    | some x =>
      rw [hc] at he
      subst he
      have hr : rv = ⟨x, 0⟩ := by rw [← HRV.out]; unfold calcR; rw [hc]
      subst hr
      clear hc hb5
      go_wp2_with fail
      refine (alive_any _).mono ?_
      rintro e w6 ⟨rfl, hB6⟩
      go_wp2_with fail
      go_ret
      exact ⟨ret_bool rfl, gthen H5.out hB6⟩
/-- At what came in. -/
theorem evalcalc_row (d a b : Int) (w : World) (h : (Lit.int .u8 d).wf = true) (_ : (Lit.int .i64 a).wf = true) (_ : (Lit.int .i64 b).wf = true) :
    Calls Try.prog 4 #[.int .u8 d, .int .i64 a, .int .i64 b] w fun e w' => e = .returned (.bool true) ∧ Below w.heap.size w w' :=
  evalcalc_walk d a b w (by
    simp [Lit.wf] at h
    have h1 : IntKind.u8.min = 0 := rfl
    have h2 : IntKind.u8.max = 255 := rfl
    omega)
end Go.Proofs.Ytihadknnmkblcaa
