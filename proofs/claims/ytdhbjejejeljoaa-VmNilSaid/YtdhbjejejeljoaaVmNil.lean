/- VmNil holds: what no frame answers. -/
import Derived.Test.YtdhbjejejeljoaaOpen14
namespace Go.Proofs.Ytdhbjejejeljoaa
open Go.RowKit Go.Sort Go.Lib

set_option maxHeartbeats 6400000 in
set_option maxRecDepth 100000 in
theorem vmNil_any (n v e : Int) (w : World) : Calls Try.prog 4 #[.int .i64 n, .agg #[.int .i64 v, .int .i64 e]] w fun e w' => e = .returned (.bool true) ∧ Below w.heap.size w w' := by
  have hA := alV w (.cells (resC ⟨v, e⟩) ResT)
  have hb : BoxAt (w.alloc (.cells (resC ⟨v, e⟩) ResT)) w.heap.size (resC ⟨v, e⟩) ResT := heap_alloc_new _ _
  have H := Lib.hid (And.intro hb hA)
  clear hA hb
  go_enter Try.func4, Try.ntmps4
  go_upto_region 2 with fail
  simp only [resC] at H
  generalize w.alloc (.cells #[.int .i64 v, .int .i64 e] ResT) = w1 at *
  go_wp2_with fail
  refine (vrun_nil n w1).mono ?_
  rintro e2 w2 ⟨rfl, hB2⟩
  simp only [zSp]
  have hA3 := gthen hB2 (alV w2 (.cells zSp StopT))
  have H3 := Lib.hid (show (BoxAt (w2.alloc (.cells zSp StopT)) w.heap.size #[.int .i64 v, .int .i64 e] ResT ∧ BoxAt (w2.alloc (.cells zSp StopT)) w2.heap.size zSp StopT) ∧ Below w.heap.size w (w2.alloc (.cells zSp StopT)) from ⟨⟨BoxAt.below H.out.1 hA3, heap_alloc_new _ _⟩, gthen H.out.2 hA3⟩)
  clear hB2 hA3 H
  go_upto_region 3 with fail
  simp only [zSp] at H3
  generalize w2.alloc (.cells #[.int .u8 0, .string ⟨#[]⟩, .int .i64 0, .slice none 0 0, .int .i64 0, .int .i64 0, .int .i64 0] StopT) = w3 at *
  generalize w2.heap.size = b2 at *
  go_wp2_with fail
  refine (vtask_nil w3).mono ?_
  rintro e2 w4 ⟨rfl, hB4⟩
  have hA5 := gthen hB4 (alV w4 (.cells (taC ⟨#[]⟩ 0 (.slice none 0 0) 0) TaskT))
  have H5 := Lib.hid (show (BoxAt (w4.alloc (.cells (taC ⟨#[]⟩ 0 (.slice none 0 0) 0) TaskT)) w.heap.size #[.int .i64 v, .int .i64 e] ResT ∧ BoxAt (w4.alloc (.cells (taC ⟨#[]⟩ 0 (.slice none 0 0) 0) TaskT)) b2 #[.int .u8 0, .string ⟨#[]⟩, .int .i64 0, .slice none 0 0, .int .i64 0, .int .i64 0, .int .i64 0] StopT ∧ BoxAt (w4.alloc (.cells (taC ⟨#[]⟩ 0 (.slice none 0 0) 0) TaskT)) w4.heap.size (taC ⟨#[]⟩ 0 (.slice none 0 0) 0) TaskT) ∧ Below w.heap.size w (w4.alloc (.cells (taC ⟨#[]⟩ 0 (.slice none 0 0) 0) TaskT)) from
    ⟨⟨BoxAt.below H3.out.1.1 hA5, BoxAt.below H3.out.1.2 hA5, heap_alloc_new _ _⟩, gthen H3.out.2 hA5⟩)
  clear hB4 hA5 H3
  go_upto_region 4 with fail
  simp only [taC] at H5
  generalize w4.alloc (.cells #[.string ⟨#[]⟩, .int .i64 0, .slice none 0 0, .int .i64 0] TaskT) = w5 at *
  generalize w4.heap.size = b4 at *
  have c0 := H5.out.1.2.1.cell 0; have c1 := H5.out.1.2.1.cell 1; have c2 := H5.out.1.2.1.cell 2; have c3 := H5.out.1.2.1.cell 3; have c4 := H5.out.1.2.1.cell 4; have c5 := H5.out.1.2.1.cell 5; have c6 := H5.out.1.2.1.cell 6
  simp only [List.getElem?_toArray, List.getElem?_cons_zero, List.getElem?_cons_succ] at c0 c1 c2 c3 c4 c5 c6
  go_wp2_with fail
  refine (stops_same 0 ⟨#[]⟩ 0 0 0 0 (.slice none 0 0) (.slice none 0 0) [] w5 (.inl ⟨rfl, none, 0, rfl⟩) (.inl ⟨rfl, none, 0, rfl⟩) (by decide)).mono ?_
  rintro e2 w6 ⟨rfl, hB6⟩
  have H6 := Lib.hid (show (BoxAt w6 w.heap.size #[.int .i64 v, .int .i64 e] ResT ∧ BoxAt w6 b4 #[.string ⟨#[]⟩, .int .i64 0, .slice none 0 0, .int .i64 0] TaskT) ∧ Below w.heap.size w w6 from ⟨⟨BoxAt.below H5.out.1.1 hB6, BoxAt.below H5.out.1.2.2 hB6⟩, gthen H5.out.2 hB6⟩)
  clear hB6 H5 c0 c1 c2 c3 c4 c5 c6
  have d0 := H6.out.1.1.cell 0; have d1 := H6.out.1.1.cell 1
  simp only [List.getElem?_toArray, List.getElem?_cons_zero, List.getElem?_cons_succ] at d0 d1
  go_wp2_with fail
  refine (vgive_nil n v e w6).mono ?_
  rintro e2 w7 ⟨rfl, hB7⟩
  have H7 := Lib.hid (show BoxAt w7 b4 #[.string ⟨#[]⟩, .int .i64 0, .slice none 0 0, .int .i64 0] TaskT ∧ Below w.heap.size w w7 from ⟨BoxAt.below H6.out.1.2 hB7, gthen H6.out.2 hB7⟩)
  clear hB7 H6 d0 d1
  go_wp2_with fail
  refine (vkids_nil w7).mono ?_
  rintro e2 w8 ⟨rfl, rfl⟩
  go_wp2_with fail
  refine (vleft_nil w8).mono ?_
  rintro e2 w9 ⟨rfl, rfl⟩
  go_wp2_with fail
  refine (vwaits_nil w9).mono ?_
  rintro e2 w10 ⟨rfl, rfl⟩
  have t0 := H7.out.1.cell 0; have t1 := H7.out.1.cell 1; have t2 := H7.out.1.cell 2; have t3 := H7.out.1.cell 3
  simp only [List.getElem?_toArray, List.getElem?_cons_zero, List.getElem?_cons_succ] at t0 t1 t2 t3
  go_wp2_with fail
  refine (tasks_same ⟨#[]⟩ 0 0 (.slice none 0 0) (.slice none 0 0) [] w10 (.inl ⟨rfl, none, 0, rfl⟩) (.inl ⟨rfl, none, 0, rfl⟩) (by decide)).mono ?_
  rintro e2 w11 ⟨rfl, hB11⟩
  have H11 := Lib.hid (gthen H7.out.2 hB11)
  clear hB11 H7 t0 t1 t2 t3
  go_wp2_with fail
  refine (valive_any w11).mono ?_
  rintro e2 w12 ⟨rfl, hB12⟩
  have H12 := Lib.hid (gthen H11.out hB12)
  clear hB12 H11
  go_wp2_with fail
  go_ret
  exact ⟨rfl, H12.out⟩
theorem vmnil_row (n : Int) (u : Value) (w : World) (_ : (Lit.int .i64 n).wf = true) (hu : ∃ a b, u = .agg #[.int .i64 a, .int .i64 b]) : Calls Try.prog 4 #[.int .i64 n, u] w fun e w' => e = .returned (.bool true) ∧ Below w.heap.size w w' := by
  obtain ⟨a, b, rfl⟩ := hu
  exact vmNil_any n a b w
end Go.Proofs.Ytdhbjejejeljoaa
