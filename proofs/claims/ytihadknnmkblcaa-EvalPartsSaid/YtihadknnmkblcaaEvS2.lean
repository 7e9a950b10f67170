/- Contract: thresherlaw13.alive: some answers that the document fixes. -/
import Derived.Test.YtihadknnmkblcaaEvS1
namespace Go.Proofs.Ytihadknnmkblcaa
open Go.RowKit Go.Sort Go.Lib

theorem sum_eval (oa : Option Addr) (oc : Nat) : evalR (sumP oa oc) [4] 2000 = ⟨10, 0⟩ ∧ rootE (sumP oa oc) [(4 : Int)].length 2000 = 0 := by
  have h : rootE (sumP oa oc) [(4 : Int)].length 2000 = 0 := (sum_root oa oc).1
  refine ⟨?_, h⟩
  unfold evalR
  rw [if_pos h]
  exact sum_do oa oc
theorem sum_eval9 (oa : Option Addr) (oc : Nat) : (evalR (sumP oa oc) [4] 9).e = 130 ∧ rootE (sumP oa oc) [(4 : Int)].length 9 = 0 := by
  have h : rootE (sumP oa oc) [(4 : Int)].length 9 = 0 := (sum_root oa oc).2.1
  refine ⟨?_, h⟩
  unfold evalR
  rw [if_pos h]
  exact sum_do9 oa oc
theorem sum_tree (oa : Option Addr) (oc : Nat) : treeE (sumP oa oc) [4] 2000 5 = 0 ∧ treeE (sumP oa oc) [4] 2000 4 = 134 ∧ treeL (sumP oa oc) [4] 2000 5 = (doP (sumP oa oc) 2001 (rootT [4] 2000)).2 := by
  have h := (sum_root oa oc).1
  have h0 : treeE (sumP oa oc) [4] 2000 5 = 0 := by
    unfold treeE
    rw [if_neg (by rw [show [(4 : Int)].length = 1 from rfl, h]; decide), show (2000 : Int).toNat + 1 = 2001 from rfl, sum_len]; rfl
  refine ⟨h0, ?_, ?_⟩
  · unfold treeE
    rw [if_neg (by rw [show [(4 : Int)].length = 1 from rfl, h]; decide), show (2000 : Int).toNat + 1 = 2001 from rfl, sum_len]; rfl
  · unfold treeL
    rw [if_pos h0]; rfl
theorem sum_none (oa : Option Addr) (oc : Nat) : rootE (sumP oa oc) ([] : List Int).length 7 = 114 ∧ rootE (sumP oa oc) [(4 : Int)].length (-1) = 2 := ⟨(sum_root oa oc).2.2.2.1, (sum_root oa oc).2.2.2.2⟩
theorem one4 (w : World) : ReadsK encN1 1 (w.alloc (.cells #[.int .i64 4] I64T)) (.slice (some ⟨w.heap.size, 0, none⟩) 1 1) [4] :=
  box_readsK (enc := encN1) (k := 1) (l := [4]) (fun _ => rfl) (by decide) (heap_alloc_new w _) 1
theorem alb (w : World) (o : Obj) : Below w.heap.size w (w.alloc o) := (Below.refl _ _).alloc (Nat.le_refl _) _
set_option maxHeartbeats 6400000 in
set_option maxRecDepth 100000 in
theorem alive_any (w : World) : Calls Try.prog 7 #[] w fun e w' => e = .returned (.bool true) ∧ Below w.heap.size w w' := by
  go_enter Try.func7, Try.ntmps7
  go_wp2_with fail
  refine (sums_any _).mono ?_
  rintro e w1 ⟨v1, oa1, rfl, hB1, hp1⟩
  go_wp2_with fail
  refine (eval_any v1 (sumP oa1 8) _ [4] 2000 _ (hp1.below (alb _ _)) (one4 w1) (by decide)).mono ?_
  rintro e w2 ⟨rfl, hB2⟩
  rw [(sum_eval oa1 8).1, (sum_eval oa1 8).2]
  have H2 := Lib.hid (gthen (gthen hB1 (alb _ _)) hB2)
  clear hB1 hp1 hB2
  go_wp2_with fail
  refine (sums_any _).mono ?_
  rintro e w3 ⟨v3, oa3, rfl, hB3, hp3⟩
  have H3 := Lib.hid (show Below w.heap.size w w3 ∧ BoxAt w3 w2.heap.size (resC ⟨10, 0⟩) ResT from ⟨gthen (gthen H2.out (alb _ _)) hB3, BoxAt.below (heap_alloc_new w2 _) hB3⟩)
  clear hB3 H2
  generalize w2.heap.size = b1 at *
  go_wp2_with fail
  refine (eval_any v3 (sumP oa3 8) _ [4] 9 _ (hp3.below (alb _ _)) (one4 w3) (by decide)).mono ?_
  rintro e w4 ⟨rfl, hB4⟩
  have h9 := (sum_eval9 oa3 8).1
  rw [(sum_eval9 oa3 8).2]
  obtain ⟨⟨rv, re⟩, hr9⟩ : ∃ x, evalR (sumP oa3 8) [4] 9 = x := ⟨_, rfl⟩
  rw [hr9] at h9 ⊢
  simp only [] at h9
  subst h9
  clear hr9
  have H4 := Lib.hid (show Below w.heap.size w w4 ∧ BoxAt w4 b1 (resC ⟨10, 0⟩) ResT from ⟨gthen (gthen H3.out.1 (alb _ _)) hB4, (H3.out.2.below (alb _ _)).below hB4⟩)
  clear hB4 hp3 H3
  go_wp2_with fail
  refine (sums_any _).mono ?_
  rintro e w5 ⟨v5, oa5, rfl, hB5, hp5⟩
  have H5 := Lib.hid (show Below w.heap.size w w5 ∧ BoxAt w5 b1 (resC ⟨10, 0⟩) ResT ∧ BoxAt w5 w4.heap.size (resC ⟨rv, 130⟩) ResT from ⟨gthen (gthen H4.out.1 (alb _ _)) hB5, (H4.out.2.below (alb _ _)).below hB5, BoxAt.below (heap_alloc_new w4 _) hB5⟩)
  clear hB5 H4
  generalize w4.heap.size = b3 at *
  go_wp2_with fail
  refine (tree_any v5 (sumP oa5 8) _ [4] 2000 5 _ (hp5.below (alb _ _)) (one4 w5) (by decide)).mono ?_
  rintro e w6 ⟨hB6, tv, rfl, htr⟩
  rw [(sum_tree oa5 8).1]
  rw [(sum_tree oa5 8).2.2] at htr
  have HT : ∃ g off cap, tv = .slice (some ⟨g, off, none⟩) 5 cap ∧ g < w6.heap.size ∧ w6.cell? ⟨g, off + 7, none⟩ = some (.string ⟨#[1]⟩) ∧ w6.cell? ⟨g, off + 6, none⟩ = some (.int .i64 1) := by
    obtain ⟨l, hm, ho, _⟩ := htr
    have hl : l.length = 5 := by have := congrArg List.length hm; rw [List.length_map, sum_len] at this; exact this
    obtain ⟨b, off, c, he, hb, hc⟩ := (own_readsK (enc := encDn) (k := 7) encDn_len (by decide) ho).at (by omega)
    refine ⟨b, off, c, by rw [he, hl], hb, ?_, ?_⟩
    · have h1 := hc 1 (by omega) 0 _ rfl
      have h2 := sum_path oa5 8
      rw [← hm] at h2
      have h3 : l[1].1.t.p = ⟨#[1]⟩ := by
        rw [List.getElem?_eq_getElem (by simp [hl])] at h2
        simpa using h2
      rw [h3] at h1
      exact h1
    · have h1 := hc 0 (by omega) 6 _ rfl
      have h2 := sum_kids oa5 8
      rw [← hm] at h2
      have h3 : l[0].1.kids = 1 := by
        rw [List.getElem?_eq_getElem (by simp [hl])] at h2
        simpa using h2
      rw [h3, Nat.zero_mul, Nat.zero_add] at h1
      exact h1
  obtain ⟨g, goff, gcap, rfl, hg, hg1, hg2⟩ := HT
  have H6 := Lib.hid (show Below w.heap.size w w6 ∧ BoxAt w6 b1 (resC ⟨10, 0⟩) ResT ∧ BoxAt w6 b3 (resC ⟨rv, 130⟩) ResT ∧ (g < w6.heap.size ∧ w6.cell? ⟨g, goff + 7, none⟩ = some (.string ⟨#[1]⟩) ∧ w6.cell? ⟨g, goff + 6, none⟩ = some (.int .i64 1)) from ⟨gthen (gthen H5.out.1 (alb _ _)) hB6, (H5.out.2.1.below (alb _ _)).below hB6, (H5.out.2.2.below (alb _ _)).below hB6, hg, hg1, hg2⟩)
  clear hB6 H5 htr hp5 hg hg1 hg2
  go_wp2_with fail
  refine (sums_any _).mono ?_
  rintro e w7 ⟨v7, oa7, rfl, hB7, hp7⟩
  go_wp2_with fail
  refine (tree_any v7 (sumP oa7 8) _ [4] 2000 4 _ (hp7.below (alb _ _)) (one4 w7) (by decide)).mono ?_
  rintro e w8 ⟨hB8, tv8, rfl, htr⟩
  rw [(sum_tree oa7 8).2.1]
  have hB := gthen (gthen hB7 (alb w7 (.cells #[.int .i64 4] I64T))) hB8
  have H8 := Lib.hid (show Below w.heap.size w w8 ∧ BoxAt w8 b1 (resC ⟨10, 0⟩) ResT ∧ BoxAt w8 b3 (resC ⟨rv, 130⟩) ResT ∧ (g < w8.heap.size ∧ w8.cell? ⟨g, goff + 7, none⟩ = some (.string ⟨#[1]⟩) ∧ w8.cell? ⟨g, goff + 6, none⟩ = some (.int .i64 1)) from
    ⟨gthen H6.out.1 hB, H6.out.2.1.below hB, H6.out.2.2.1.below hB, Nat.lt_of_lt_of_le H6.out.2.2.2.1 hB.size, (hB.cell (p := ⟨g, goff + 7, none⟩) H6.out.2.2.2.1).trans H6.out.2.2.2.2.1, (hB.cell (p := ⟨g, goff + 6, none⟩) H6.out.2.2.2.1).trans H6.out.2.2.2.2.2⟩)
  clear hB7 hB8 hB htr hp7 H6
  go_wp2_with fail
  refine (sums_any _).mono ?_
  rintro e w9 ⟨v9, oa9, rfl, hB9, hp9⟩
  go_wp2_with fail
  refine (root_any (err := 0) v9 (sumP oa9 8) _ [4] 7 _ (hp9.below (alb _ _)) (one4 w9) (by decide) (sum_root oa9 8).2.2.1).mono ?_
  rintro e w10 ⟨hB10, hrt⟩
  rw [if_pos rfl] at hrt
  obtain ⟨ra, rc, rfl, _⟩ := hrt
  have hB := gthen (gthen hB9 (alb w9 (.cells #[.int .i64 4] I64T))) hB10
  have H10 := Lib.hid (show Below w.heap.size w w10 ∧ BoxAt w10 b1 (resC ⟨10, 0⟩) ResT ∧ BoxAt w10 b3 (resC ⟨rv, 130⟩) ResT ∧ (g < w10.heap.size ∧ w10.cell? ⟨g, goff + 7, none⟩ = some (.string ⟨#[1]⟩) ∧ w10.cell? ⟨g, goff + 6, none⟩ = some (.int .i64 1)) from
    ⟨gthen H8.out.1 hB, H8.out.2.1.below hB, H8.out.2.2.1.below hB, Nat.lt_of_lt_of_le H8.out.2.2.2.1 hB.size, (hB.cell (p := ⟨g, goff + 7, none⟩) H8.out.2.2.2.1).trans H8.out.2.2.2.2.1, (hB.cell (p := ⟨g, goff + 6, none⟩) H8.out.2.2.2.1).trans H8.out.2.2.2.2.2⟩)
  clear hB9 hB10 hB hp9 H8
  go_wp2_with fail
  refine (sums_any _).mono ?_
  rintro e w11 ⟨v11, oa11, rfl, hB11, hp11⟩
  have hbt : BoxAt w11 w10.heap.size (taC ⟨#[]⟩ 0 (.slice ra 1 rc) 7) TaskT := BoxAt.below (heap_alloc_new w10 _) hB11
  have hB := gthen (alb w10 (.cells (taC ⟨#[]⟩ 0 (.slice ra 1 rc) 7) TaskT)) hB11
  have H11 := Lib.hid (show Below w.heap.size w w11 ∧ BoxAt w11 b1 (resC ⟨10, 0⟩) ResT ∧ BoxAt w11 b3 (resC ⟨rv, 130⟩) ResT ∧ (g < w11.heap.size ∧ w11.cell? ⟨g, goff + 7, none⟩ = some (.string ⟨#[1]⟩) ∧ w11.cell? ⟨g, goff + 6, none⟩ = some (.int .i64 1)) ∧ BoxAt w11 w10.heap.size (taC ⟨#[]⟩ 0 (.slice ra 1 rc) 7) TaskT from
    ⟨gthen H10.out.1 hB, H10.out.2.1.below hB, H10.out.2.2.1.below hB, ⟨Nat.lt_of_lt_of_le H10.out.2.2.2.1 hB.size, (hB.cell (p := ⟨g, goff + 7, none⟩) H10.out.2.2.2.1).trans H10.out.2.2.2.2.1, (hB.cell (p := ⟨g, goff + 6, none⟩) H10.out.2.2.2.1).trans H10.out.2.2.2.2.2⟩, hbt⟩)
  clear hB11 hB hbt H10
  generalize w10.heap.size = tb at *
  go_wp2_with fail
  refine (eval_any v11 (sumP oa11 8) _ [] 7 _ hp11 (.inl ⟨rfl, _, _, rfl⟩) (by decide)).mono ?_
  rintro e w12 ⟨rfl, hB12⟩
  rw [(sum_none oa11 8).1]
  generalize evalR (sumP oa11 8) [] 7 = r12 at *
  clear hp11
  go_wp2_with fail
  refine (sums_any _).mono ?_
  rintro e w13 ⟨v13, oa13, rfl, hB13, hp13⟩
  go_wp2_with fail
  refine (eval_any v13 (sumP oa13 8) _ [4] (-1) _ (hp13.below (alb _ _)) (one4 w13) (by decide)).mono ?_
  rintro e w14 ⟨rfl, hB14⟩
  rw [(sum_none oa13 8).2]
  generalize evalR (sumP oa13 8) [4] (-1) = r14 at *
  have hB := gthen (gthen (gthen (gthen (gthen hB12 (alb w12 (.cells #[.int .i64 r12.v, .int .i64 r12.e] ResT))) hB13) (alb w13 (.cells #[.int .i64 4] I64T))) hB14) (alb w14 (.cells #[.int .i64 r14.v, .int .i64 r14.e] ResT))
  have HZ := Lib.hid (gthen H11.out.1 hB)
  have a1 := H11.out.2.1.below hB
  have a2 := H11.out.2.2.1.below hB
  have a3 := (hB.cell (p := ⟨g, goff + 7, none⟩) H11.out.2.2.2.1.1).trans H11.out.2.2.2.1.2.1
  have a4 := (hB.cell (p := ⟨g, goff + 6, none⟩) H11.out.2.2.2.1.1).trans H11.out.2.2.2.1.2.2
  have a5 := H11.out.2.2.2.2.below hB
  have c0 := a1.cell 0; have c1 := a1.cell 1; have d1 := a2.cell 1; have t2 := a5.cell 2; have t3 := a5.cell 3
  simp only [resC, taC, List.getElem?_toArray, List.getElem?_cons_zero, List.getElem?_cons_succ] at c0 c1 d1 t2 t3
  clear a1 a2 a5 hB hB12 hB13 hB14 hp13 H11
  go_wp2_with fail
  go_ret
  exact ⟨ret_bool rfl, HZ.out⟩
end Go.Proofs.Ytihadknnmkblcaa
