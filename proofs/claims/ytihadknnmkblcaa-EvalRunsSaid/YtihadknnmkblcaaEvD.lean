/- Contracts: thresherref13.Eval, Tree. -/
import Derived.Test.YtihadknnmkblcaaEv30
import Derived.Test.YtihadknnmkblcaaEvT
import Derived.Test.YtihadknnmkblcaaEv17
import Derived.Test.YtihadknnmkblcaaEv21
namespace Go.Proofs.Ytihadknnmkblcaa
open Go.RowKit Go.Sort Go.Lib

theorem rdo_all {p : List Fnc} (hp : WfP p) : ∀ n : Nat, RDoC p (doP p n) n
  | 0 => fun _ t _ _ _ _ ht h _ _ _ => by have := ht.u0; omega
  | n + 1 => rdo_step hp (rdo_all hp n)
theorem reval_end {wz : World} {tmps : Array Value} {q : Rs} {err : Int} {r : Nat} {R : Ending → World → Prop}
    (hr : BoxAt wz r (resC q) ResT) (h2 : tmps.getD 6 undef = .pointer (some ⟨r, 0, none⟩)) (h3 : tmps.getD 7 undef = .int .i64 err) (hR : R (.returned (.tuple #[.agg #[.int .i64 q.v, .int .i64 q.e], .int .i64 err])) wz) :
    bodyPost Try.prog Try.f9 R Exit.ret { tmps := tmps, defers := [] } wz := by
  have c0 := hr.cell 0
  have c1 := hr.cell 1
  simp only [resC, List.getElem?_toArray, List.getElem?_cons_zero, List.getElem?_cons_succ] at c0 c1
  refine bodyPost_ret (v := .tuple #[.agg #[.int .i64 q.v, .int .i64 q.e], .int .i64 err]) ?_ rfl hR
  have h2' : tmps[6]?.getD undef = .pointer (some ⟨r, 0, none⟩) := by simpa using h2
  have h3' : tmps[7]?.getD undef = .int .i64 err := by simpa using h3
  simp [results, Try.results9, go_sem, h2', h3', c0, c1]
set_option maxHeartbeats 3200000 in
set_option maxRecDepth 100000 in
theorem reval_any (pv : Value) (p : List Fnc) (v : Value) (l : List Int) (fuel : Int) (w : World) (hp : ProgAt w pv p) (hv : ReadsK encN1 1 w v l) (hn : l.length ≤ 1000) :
    Calls Try.prog 9 #[.agg #[pv], v, .int .i64 fuel] w (EvalP w p l fuel) := by
  obtain ⟨pa, pc, rfl⟩ := hp.fns.slice
  obtain ⟨va, vc, rfl⟩ := hv.slice
  have HA := Lib.hid (show Below w.heap.size w ((w.alloc (.cells #[.slice pa p.length pc] 24)).alloc (.cells (resC ⟨0, 0⟩) ResT)) from ((Below.refl _ _).alloc (Nat.le_refl _) _).alloc (by simp) _)
  have hb2 : BoxAt ((w.alloc (.cells #[.slice pa p.length pc] 24)).alloc (.cells (resC ⟨0, 0⟩) ResT)) (w.heap.size + 1) (resC ⟨0, 0⟩) ResT := by
    have b2 := heap_alloc_new (w.alloc (.cells #[.slice pa p.length pc] 24)) (.cells (resC ⟨0, 0⟩) ResT)
    rwa [show (w.alloc (.cells #[.slice pa p.length pc] 24)).heap.size = w.heap.size + 1 by simp] at b2
  have hb1 : BoxAt ((w.alloc (.cells #[.slice pa p.length pc] 24)).alloc (.cells (resC ⟨0, 0⟩) ResT)) w.heap.size #[.slice pa p.length pc] 24 := BoxAt.below (heap_alloc_new w _) ((Below.refl _ _).alloc (Nat.le_refl _) _)
  have HR := Lib.hid (And.intro hb1 hb2)
  have HP := Lib.hid hp
  have HV := Lib.hid hv
  obtain ⟨err, herr⟩ : ∃ err, rootE p l.length fuel = err := ⟨_, rfl⟩
  have HE := Lib.hid herr
  clear hp hv hb1 hb2 herr
  go_enter Try.func9, Try.ntmps9
  go_upto_region 1 with fail
  simp only [resC] at HA HR
  generalize (w.alloc (.cells #[.slice pa p.length pc] 24)).alloc (.cells #[.int .i64 0, .int .i64 0] ResT) = w1 at *
  have c0 := HR.out.1.cell 0
  simp only [List.getElem?_toArray, List.getElem?_cons_zero] at c0
  go_wp2_with fail
  refine (rroot_any (err := err) _ p _ l fuel _ (HP.out.below HA.out) (HV.out.below HA.out) hn HE.out).mono ?_
  rintro e w2 ⟨hB2, hrt⟩
  have hsz : w.heap.size ≤ w.heap.size + 1 := by omega
  by_cases h0 : err = 0
  · rw [if_pos h0] at hrt
    obtain ⟨aa, ac, rfl, hown⟩ := hrt
    obtain ⟨hwf, htk⟩ := rootT_ok (HE.out.trans h0)
    have hne : (err != 0) = false := by simp [h0]
    have HZ := Lib.hid h0
    have hBa : Below w2.heap.size w2 (w2.alloc (.cells (taC ⟨#[]⟩ 0 (.slice aa l.length ac) fuel) TaskT)) := (Below.refl _ _).alloc (Nat.le_refl _) _
    have HR2 := Lib.hid (show BoxAt (w2.alloc (.cells (taC ⟨#[]⟩ 0 (.slice aa l.length ac) fuel) TaskT)) w.heap.size #[.slice pa p.length pc] 24 ∧ BoxAt (w2.alloc (.cells (taC ⟨#[]⟩ 0 (.slice aa l.length ac) fuel) TaskT)) (w.heap.size + 1) (resC ⟨0, 0⟩) ResT ∧ BoxAt (w2.alloc (.cells (taC ⟨#[]⟩ 0 (.slice aa l.length ac) fuel) TaskT)) w2.heap.size (taC ⟨#[]⟩ 0 (.slice aa l.length ac) fuel) TaskT ∧ Below w.heap.size w (w2.alloc (.cells (taC ⟨#[]⟩ 0 (.slice aa l.length ac) fuel) TaskT)) ∧ (w2.alloc (.cells (taC ⟨#[]⟩ 0 (.slice aa l.length ac) fuel) TaskT)).ownsRow 0 I64T 1 (.slice aa l.length ac) l.length (l.flatMap encN1) from
      ⟨BoxAt.below (HR.out.1.below hB2) hBa, BoxAt.below (HR.out.2.below hB2) hBa, heap_alloc_new _ _, gthen (gthen HA.out hB2) hBa, owns_base (own_below hown hBa) (Nat.zero_le _)⟩)
    clear hB2 hown HR hBa c0
    simp only [taC] at HR2
    go_upto_region 4 with fail
    generalize w2.alloc (.cells #[.string ⟨#[]⟩, .int .i64 0, .slice aa l.length ac, .int .i64 fuel] TaskT) = w3 at *
    generalize w2.heap.size = tb at *
    have c0 := HR2.out.1.cell 0
    have d0 := HR2.out.2.2.1.cell 0; have d1 := HR2.out.2.2.1.cell 1; have d2 := HR2.out.2.2.1.cell 2; have d3 := HR2.out.2.2.1.cell 3
    simp only [List.getElem?_toArray, List.getElem?_cons_zero, List.getElem?_cons_succ] at c0 d0 d1 d2 d3
    go_wp2_with fail
    refine (rdo_all hwf (fuel.toNat + 1) 0 (rootT l fuel) aa ac _ _ htk (by have := htk.u0; show fuel < _; have : (0 : Int) ≤ fuel := htk.u0; omega) (HP.out.below HR2.out.2.2.2.1) (Nat.zero_le _) HR2.out.2.2.2.2).mono ?_
    rintro e w4 ⟨hB4, dv, nd, rfl, hown, hmap, _⟩
    have hb4 := BoxAt.below HR2.out.2.1 hB4
    obtain ⟨da, dc, rfl⟩ := own_slice hown
    have HB4 := Lib.hid (gthen HR2.out.2.2.2.1 hB4)
    have HQ := Lib.hid (show evalR p l fuel = (doP p (fuel.toNat + 1) (rootT l fuel)).1 from by unfold evalR; rw [if_pos (HE.out.trans HZ.out)])
    generalize (doP p (fuel.toNat + 1) (rootT l fuel)).1 = q at *
    clear hown hmap hB4 c0 d0 d1 d2 d3
    have hBa : Below w4.heap.size w4 (w4.alloc (.cells (resC q) ResT)) := (Below.refl _ _).alloc (Nat.le_refl _) _
    have HR5 := Lib.hid (show (BoxAt (w4.alloc (.cells (resC q) ResT)) (w.heap.size + 1) (resC ⟨0, 0⟩) ResT ∧ BoxAt (w4.alloc (.cells (resC q) ResT)) w4.heap.size (resC q) ResT) ∧ Below w.heap.size w (w4.alloc (.cells (resC q) ResT)) from ⟨⟨hb4.below hBa, heap_alloc_new _ _⟩, gthen HB4.out hBa⟩)
    simp only [resC] at HR5
    clear hb4 HR2 hBa
    go_upto_region 5 with fail
    generalize w4.alloc (.cells #[.int .i64 q.v, .int .i64 q.e] ResT) = w5 at *
    generalize w4.heap.size = xb at *
    have x0 := HR5.out.1.2.cell 0; have x1 := HR5.out.1.2.cell 1
    have r0 := HR5.out.1.1.cell 0; have r1 := HR5.out.1.1.cell 1
    have z0 := HR5.out.1.1.frozen 0; have z1 := HR5.out.1.1.frozen 1
    simp only [List.getElem?_toArray, List.getElem?_cons_zero, List.getElem?_cons_succ] at x0 x1 r0 r1
    go_wp2_with fail
    refine reval_end (res_set (q := ⟨0, 0⟩) HR5.out.1.1 q.v q.e) rfl rfl ⟨by rw [HE.out, HZ.out, HQ.out], (HR5.out.2.setCell (p := ⟨w.heap.size + 1, 0, none⟩) hsz _).setCell (p := ⟨w.heap.size + 1, 1, none⟩) hsz _⟩
  · rw [if_neg h0] at hrt
    subst hrt
    have hne : (err != 0) = true := by simpa using h0
    have HQ := Lib.hid (show evalR p l fuel = ⟨0, 0⟩ from by unfold evalR; rw [if_neg (by rw [HE.out]; exact h0)])
    have hBa : Below w2.heap.size w2 (w2.alloc (.cells (taC ⟨#[]⟩ 0 (.slice none 0 0) 0) TaskT)) := (Below.refl _ _).alloc (Nat.le_refl _) _
    have HR2 := Lib.hid (show BoxAt (w2.alloc (.cells (taC ⟨#[]⟩ 0 (.slice none 0 0) 0) TaskT)) (w.heap.size + 1) (resC ⟨0, 0⟩) ResT ∧ Below w.heap.size w (w2.alloc (.cells (taC ⟨#[]⟩ 0 (.slice none 0 0) 0) TaskT)) from ⟨BoxAt.below (HR.out.2.below hB2) hBa, gthen (gthen HA.out hB2) hBa⟩)
    simp only [taC] at HR2
    clear h0 hB2 hBa HR c0
    simp only [noTask]
    go_upto_region 2 with fail
    generalize w2.alloc (.cells #[.string ⟨#[]⟩, .int .i64 0, .slice none 0 0, .int .i64 0] TaskT) = w3 at *
    have r0 := HR2.out.1.cell 0; have r1 := HR2.out.1.cell 1
    have z0 := HR2.out.1.frozen 0; have z1 := HR2.out.1.frozen 1
    simp only [resC, List.getElem?_toArray, List.getElem?_cons_zero, List.getElem?_cons_succ] at r0 r1
    go_wp2_with fail
    refine reval_end (res_set (q := ⟨0, 0⟩) HR2.out.1 0 0) rfl rfl ⟨by rw [HE.out, HQ.out], (HR2.out.2.setCell (p := ⟨w.heap.size + 1, 0, none⟩) hsz _).setCell (p := ⟨w.heap.size + 1, 1, none⟩) hsz _⟩
/-- What the document's Tree answers. -/
def RTreeP (w0 : World) (p : List Fnc) (l : List Int) (fuel most : Int) (e : Ending) (w' : World) : Prop :=
  Below w0.heap.size w0 w' ∧ ∃ v, e = .returned (.tuple #[v, .int .i64 (treeE p l fuel most)]) ∧ TreeR w' v (treeL p l fuel most)
theorem treeR_nil (w : World) : TreeR w (.slice none 0 0) [] := ⟨[], rfl, .inl ⟨rfl, _, _, rfl⟩, fun d hd => by cases hd⟩
set_option maxHeartbeats 3200000 in
set_option maxRecDepth 100000 in
theorem rtree_any (pv : Value) (p : List Fnc) (v : Value) (l : List Int) (fuel most : Int) (w : World) (hp : ProgAt w pv p) (hv : ReadsK encN1 1 w v l) (hn : l.length ≤ 1000) :
    Calls Try.prog 11 #[.agg #[pv], v, .int .i64 fuel, .int .i64 most] w (RTreeP w p l fuel most) := by
  obtain ⟨pa, pc, rfl⟩ := hp.fns.slice
  obtain ⟨va, vc, rfl⟩ := hv.slice
  have HA := Lib.hid (show Below w.heap.size w (w.alloc (.cells #[.slice pa p.length pc] 24)) from (Below.refl _ _).alloc (Nat.le_refl _) _)
  have hb1 : BoxAt (w.alloc (.cells #[.slice pa p.length pc] 24)) w.heap.size #[.slice pa p.length pc] 24 := heap_alloc_new w _
  have HR := Lib.hid hb1
  have HP := Lib.hid hp
  have HV := Lib.hid hv
  obtain ⟨err, herr⟩ : ∃ err, rootE p l.length fuel = err := ⟨_, rfl⟩
  have HE := Lib.hid herr
  clear hp hv hb1 herr
  go_enter Try.func11, Try.ntmps11
  go_upto_region 1 with fail
  generalize w.alloc (.cells #[.slice pa p.length pc] 24) = w1 at *
  have c0 := HR.out.cell 0
  simp only [List.getElem?_toArray, List.getElem?_cons_zero] at c0
  go_wp2_with fail
  refine (rroot_any (err := err) _ p _ l fuel _ (HP.out.below HA.out) (HV.out.below HA.out) hn HE.out).mono ?_
  rintro e w2 ⟨hB2, hrt⟩
  by_cases h0 : err = 0
  · rw [if_pos h0] at hrt
    obtain ⟨aa, ac, rfl, hown⟩ := hrt
    obtain ⟨hwf, htk⟩ := rootT_ok (HE.out.trans h0)
    have hne : (err != 0) = false := by simp [h0]
    have HZ := Lib.hid h0
    have hBa : Below w2.heap.size w2 (w2.alloc (.cells (taC ⟨#[]⟩ 0 (.slice aa l.length ac) fuel) TaskT)) := (Below.refl _ _).alloc (Nat.le_refl _) _
    have HR2 := Lib.hid (show BoxAt (w2.alloc (.cells (taC ⟨#[]⟩ 0 (.slice aa l.length ac) fuel) TaskT)) w.heap.size #[.slice pa p.length pc] 24 ∧ BoxAt (w2.alloc (.cells (taC ⟨#[]⟩ 0 (.slice aa l.length ac) fuel) TaskT)) w2.heap.size (taC ⟨#[]⟩ 0 (.slice aa l.length ac) fuel) TaskT ∧ Below w.heap.size w (w2.alloc (.cells (taC ⟨#[]⟩ 0 (.slice aa l.length ac) fuel) TaskT)) ∧ (w2.alloc (.cells (taC ⟨#[]⟩ 0 (.slice aa l.length ac) fuel) TaskT)).ownsRow 0 I64T 1 (.slice aa l.length ac) l.length (l.flatMap encN1) from
      ⟨BoxAt.below (HR.out.below hB2) hBa, heap_alloc_new _ _, gthen (gthen HA.out hB2) hBa, owns_base (own_below hown hBa) (Nat.zero_le _)⟩)
    clear hB2 hown HR hBa c0
    simp only [taC] at HR2
    go_upto_region 4 with fail
    generalize w2.alloc (.cells #[.string ⟨#[]⟩, .int .i64 0, .slice aa l.length ac, .int .i64 fuel] TaskT) = w3 at *
    generalize w2.heap.size = tb at *
    have c0 := HR2.out.1.cell 0
    have d0 := HR2.out.2.1.cell 0; have d1 := HR2.out.2.1.cell 1; have d2 := HR2.out.2.1.cell 2; have d3 := HR2.out.2.1.cell 3
    simp only [List.getElem?_toArray, List.getElem?_cons_zero, List.getElem?_cons_succ] at c0 d0 d1 d2 d3
    go_wp2_with fail
    refine (rdo_all hwf (fuel.toNat + 1) 0 (rootT l fuel) aa ac _ _ htk (by have : (0 : Int) ≤ fuel := htk.u0; show fuel < _; omega) (HP.out.below HR2.out.2.2.1) (Nat.zero_le _) HR2.out.2.2.2).mono ?_
    rintro e w4 ⟨hB4, dv, nd, rfl, hown, hmap, hargs⟩
    have hlen : nd.length = (doP p (fuel.toNat + 1) (rootT l fuel)).2.length := by rw [← hmap, List.length_map]
    obtain ⟨da, dc, rfl⟩ := own_slice hown
    have HB4 := Lib.hid (gthen HR2.out.2.2.1 hB4)
    have HTR := Lib.hid (show TreeR w4 (.slice da nd.length dc) (doP p (fuel.toNat + 1) (rootT l fuel)).2 from ⟨nd, hmap, own_readsK (enc := encDn) (k := 7) encDn_len (by decide) hown, fun d hd => own_readsK (enc := encN1) (k := 1) (fun _ => rfl) (by decide) (hargs d hd)⟩)
    have HTE := Lib.hid (show treeE p l fuel most = if most < nd.length then 134 else 0 from by
      unfold treeE
      rw [if_neg (fun h => h (HE.out.trans HZ.out)), hlen])
    have HTL := Lib.hid (show ¬ most < nd.length → treeL p l fuel most = (doP p (fuel.toNat + 1) (rootT l fuel)).2 from fun h => by
      unfold treeL
      rw [HTE.out, if_neg h, if_pos rfl])
    have HTN := Lib.hid (show most < nd.length → treeL p l fuel most = [] from fun h => by
      unfold treeL
      rw [HTE.out, if_pos h, if_neg (by decide)])
    generalize (doP p (fuel.toNat + 1) (rootT l fuel)).1 = q at *
    clear hown hmap hargs hB4 c0 d0 d1 d2 d3 hlen
    have HAL := Lib.hid (show Below w4.heap.size w4 (w4.alloc (.cells (resC q) ResT)) from (Below.refl _ _).alloc (Nat.le_refl _) _)
    simp only [resC] at HAL
    go_upto_region 5 with fail
    generalize w4.alloc (.cells #[.int .i64 q.v, .int .i64 q.e] ResT) = w5 at *
    generalize nd.length = N at *
    by_cases hm : most < N
    · have HM := Lib.hid hm
      go_wp2_with fail
      go_ret2
      refine ⟨gthen HB4.out HAL.out, _, ret_two rfl (vi (by rw [HTE.out, if_pos HM.out])), ?_⟩
      rw [HTN.out HM.out]; exact treeR_nil _
    · have hmd : decide (most < (N : Int)) = false := by simpa using hm
      have HM := Lib.hid hm
      go_wp2_with fail
      go_ret2
      refine ⟨gthen HB4.out HAL.out, _, ret_two rfl (vi (by rw [HTE.out, if_neg (Int.not_lt.2 (by simpa using HM.out))])), ?_⟩
      rw [HTL.out (by simpa using HM.out)]; exact HTR.out.below HAL.out
  · rw [if_neg h0] at hrt
    subst hrt
    have hne : (err != 0) = true := by simpa using h0
    have HQ := Lib.hid (show treeE p l fuel most = err ∧ treeL p l fuel most = [] from by
      have h1 : treeE p l fuel most = err := by unfold treeE; rw [if_pos (by rw [HE.out]; exact h0), HE.out]
      exact ⟨h1, by unfold treeL; rw [h1, if_neg h0]⟩)
    have HB2 := Lib.hid (gthen (gthen HA.out hB2) (show Below w2.heap.size w2 (w2.alloc (.cells (taC ⟨#[]⟩ 0 (.slice none 0 0) 0) TaskT)) from (Below.refl _ _).alloc (Nat.le_refl _) _))
    clear h0 hB2 HR c0
    simp only [taC] at HB2
    simp only [noTask]
    go_wp2_with fail
    go_ret2
    refine ⟨HB2.out, _, ret_two rfl (vi HQ.out.1.symm), ?_⟩
    rw [HQ.out.2]; exact treeR_nil _
end Go.Proofs.Ytihadknnmkblcaa
