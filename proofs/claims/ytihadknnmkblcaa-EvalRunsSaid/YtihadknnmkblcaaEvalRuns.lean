/- EvalRuns: the walk. -/
import Derived.Test.YtihadknnmkblcaaEvD
import Derived.Test.YtihadknnmkblcaaEvP0
import Derived.Test.YtihadknnmkblcaaOpenP13
import Derived.Test.YtihadknnmkblcaaEvS2
namespace Go.Proofs.Ytihadknnmkblcaa
open Go.RowKit Go.Sort Go.Lib

theorem treeL_ok {p : List Fnc} {l : List Int} {fuel most : Int} : (treeL p l fuel most).length ≤ 1000000 ∧ ∀ d ∈ treeL p l fuel most, d.t.args.length ≤ 1000000 := by
  unfold treeL
  by_cases h : treeE p l fuel most = 0
  · rw [if_pos h]
    have h0 : rootE p l.length fuel = 0 := by
      unfold treeE at h
      split at h
      · rename_i h1; exact absurd h h1
      · rename_i h1; simpa using h1
    obtain ⟨hp, ht⟩ := rootT_ok h0
    have hf : (rootT l fuel).fuel < (fuel.toNat + 1 : Nat) := by have := ht.u0; show fuel < _; have : (0 : Int) ≤ fuel := ht.u0; omega
    have h1 := doP_ok hp _ _ ht hf
    have h2 := ht.u1
    exact ⟨by omega, fun d hd => by have := TkOk.len hp (doP_tk hp _ _ ht hf d hd); omega⟩
  · rw [if_neg h]
    exact ⟨by simp, fun d hd => by cases hd⟩
theorem treeAt_R {B : Nat} {w : World} {v : Value} {L : List Dn} (h : TreeAt B w v L) : TreeR w v L := by
  obtain ⟨l, h1, h2, h3⟩ := h
  exact ⟨l, h1, own_readsK (enc := encDn) (k := 7) encDn_len (by decide) h2, fun d hd => own_readsK (enc := encN1) (k := 1) (fun _ => rfl) (by decide) (h3 d hd)⟩
/-- What Root answers, as a reading. -/
theorem root_reads {B : Nat} {w0 w' : World} {l : List Int} {fuel err : Int} {e : Ending} (h : RootP B w0 l fuel err e w') : Below w0.heap.size w0 w' ∧ ∃ (a : Option Addr) (n c : Nat) (fu : Int) (xs : List Int), e = .returned (.tuple #[.agg #[.string ⟨#[]⟩, .int .i64 0, .slice a n c, .int .i64 fu], .int .i64 err]) ∧ ReadsK encN1 1 w' (.slice a n c) xs ∧ xs = (if err = 0 then l else []) ∧ fu = (if err = 0 then fuel else 0) := by
  obtain ⟨h1, h2⟩ := h
  refine ⟨h1, ?_⟩
  by_cases h0 : err = 0
  · rw [if_pos h0] at h2
    obtain ⟨a, c, he, ho⟩ := h2
    subst h0
    exact ⟨a, l.length, c, fuel, l, he, own_readsK (enc := encN1) (k := 1) (fun _ => rfl) (by decide) ho, by simp, by simp⟩
  · rw [if_neg h0] at h2
    exact ⟨none, 0, 0, 0, [], by rw [h2]; rfl, .inl ⟨rfl, _, _, rfl⟩, by rw [if_neg h0], by rw [if_neg h0]⟩
set_option maxHeartbeats 6400000 in
set_option maxRecDepth 100000 in
theorem evalruns_walk (pv : Value) (p : List Fnc) (v : Value) (l : List Int) (fuel most : Int) (w : World) (hp : ProgIn w pv p) (hv : ReadsK encN1 1 w v l) :
    Calls Try.prog 3 #[.agg #[pv], v, .int .i64 fuel, .int .i64 most] w fun e w' => e = .returned (.bool true) ∧ Below w.heap.size w w' := by
  obtain ⟨pa, pc, rfl⟩ := hp.fns.slice
  obtain ⟨va, vc, rfl⟩ := hv.slice
  have HA := Lib.hid (show Below w.heap.size w (w.alloc (.cells #[.slice pa p.length pc] 24)) from (Below.refl _ _).alloc (Nat.le_refl _) _)
  have hb1 : BoxAt (w.alloc (.cells #[.slice pa p.length pc] 24)) w.heap.size #[.slice pa p.length pc] 24 := heap_alloc_new w _
  have HP := Lib.hid (hp.below HA.out)
  have HV := Lib.hid (hv.below HA.out)
  have HR := Lib.hid hb1
  clear hp hv hb1
  go_enter Try.func3, Try.ntmps3
  go_upto_region 1 with fail
  generalize w.alloc (.cells #[.slice pa p.length pc] 24) = w1 at *
  have c0 := HR.out.cell 0
  simp only [List.getElem?_toArray, List.getElem?_cons_zero] at c0
  go_wp2_with fail
  refine (heavy13_any _ p va l.length vc fuel _ HP.out).mono ?_
  rintro e w2 ⟨rfl, hB2⟩
  obtain ⟨hh, hhe⟩ : ∃ b, heavy13 p l.length fuel = b := ⟨_, rfl⟩
  rw [hhe]
  cases hh
  case true =>
    clear hhe
    go_wp2_with fail
    refine (alive_any _).mono ?_
    rintro e w3 ⟨rfl, hB3⟩
    go_wp2_with fail
    go_ret
    exact ⟨ret_bool rfl, gthen (gthen HA.out hB2) hB3⟩
  obtain ⟨h1, h2, h3⟩ := heavy13_no hhe
  have HPA := Lib.hid (show ∀ y, Below w1.heap.size w1 y → ProgAt y (.slice pa p.length pc) p from fun y hy => (HP.out.at h1).below hy)
  have HVA := Lib.hid (show ∀ y, Below w1.heap.size w1 y → ReadsK encN1 1 y (.slice va l.length vc) l from fun y hy => HV.out.below hy)
  have hl : l.length ≤ 1000 := by omega
  have H2 := Lib.hid (show Below w1.heap.size w1 w2 from hB2)
  have HRP := Lib.hid (show ∀ y, Below w1.heap.size w1 y → y.cell? ⟨w.heap.size, 0, none⟩ = some (.slice pa p.length pc) from fun y hy => cell_of' hy c0)
  clear h1 h2 h3 hhe HP HV HR hB2 c0
  have c0 := HRP.out _ H2.out
  go_wp2_with fail
  refine (eval_any _ p _ l fuel _ (HPA.out _ H2.out) (HVA.out _ H2.out) hl).mono ?_
  rintro e w3 ⟨rfl, hB3⟩
  obtain ⟨q, hq⟩ : ∃ q, evalR p l fuel = q := ⟨_, rfl⟩
  obtain ⟨err, herr⟩ : ∃ x, rootE p l.length fuel = x := ⟨_, rfl⟩
  rw [hq, herr]
  have HQ := Lib.hid (And.intro hq herr)
  have hA3 := alb30 w3 (.cells (resC q) ResT)
  have H3 := Lib.hid (show Below w1.heap.size w1 (w3.alloc (.cells (resC q) ResT)) ∧ BoxAt (w3.alloc (.cells (resC q) ResT)) w3.heap.size (resC q) ResT from ⟨gthen (gthen H2.out hB3) hA3, heap_alloc_new _ _⟩)
  simp only [resC] at H3
  clear hA3 hB3 hq herr c0 H2
  go_upto_region 4 with fail
  generalize w3.alloc (.cells #[.int .i64 q.v, .int .i64 q.e] ResT) = w4 at *
  generalize w3.heap.size = b9 at *
  have c0 := HRP.out _ H3.out.1
  go_wp2_with fail
  refine (reval_any _ p _ l fuel _ (HPA.out _ H3.out.1) (HVA.out _ H3.out.1) hl).mono ?_
  rintro e w5 ⟨rfl, hB5⟩
  rw [HQ.out.1, HQ.out.2]
  have hA5 := alb30 w5 (.cells (resC q) ResT)
  have H5 := Lib.hid (show Below w1.heap.size w1 (w5.alloc (.cells (resC q) ResT)) ∧ BoxAt (w5.alloc (.cells (resC q) ResT)) b9 (resC q) ResT ∧ BoxAt (w5.alloc (.cells (resC q) ResT)) w5.heap.size (resC q) ResT from ⟨gthen (gthen H3.out.1 hB5) hA5, (BoxAt.below H3.out.2 hB5).below hA5, heap_alloc_new _ _⟩)
  simp only [resC] at H5
  clear hA5 hB5 c0 H3
  go_upto_region 5 with fail
  generalize w5.alloc (.cells #[.int .i64 q.v, .int .i64 q.e] ResT) = w6 at *
  generalize w5.heap.size = b11 at *
  have c0 := HRP.out _ H5.out.1
  go_wp2_with fail
  refine (tree_any _ p _ l fuel most _ (HPA.out _ H5.out.1) (HVA.out _ H5.out.1) hl).mono ?_
  rintro e w7 ⟨hB7, tv, rfl, htr⟩
  have HT7 := Lib.hid (treeAt_R htr)
  obtain ⟨te, hte⟩ : ∃ x, treeE p l fuel most = x := ⟨_, rfl⟩
  rw [hte]
  have HTE := Lib.hid hte
  have H7 := Lib.hid (show Below w1.heap.size w1 w7 ∧ BoxAt w7 b9 (resC q) ResT ∧ BoxAt w7 b11 (resC q) ResT from ⟨gthen H5.out.1 hB7, BoxAt.below H5.out.2.1 hB7, BoxAt.below H5.out.2.2 hB7⟩)
  clear hB7 htr hte c0 H5
  have c0 := HRP.out _ H7.out.1
  go_wp2_with fail
  refine (rtree_any _ p _ l fuel most _ (HPA.out _ H7.out.1) (HVA.out _ H7.out.1) hl).mono ?_
  rintro e w8 ⟨hB8, uv, rfl, htr⟩
  rw [HTE.out]
  have HT8 := Lib.hid (And.intro (HT7.out.below hB8) htr)
  have H8 := Lib.hid (show Below w1.heap.size w1 w8 ∧ BoxAt w8 b9 (resC q) ResT ∧ BoxAt w8 b11 (resC q) ResT from ⟨gthen H7.out.1 hB8, BoxAt.below H7.out.2.1 hB8, BoxAt.below H7.out.2.2 hB8⟩)
  clear hB8 htr c0 H7 HT7
  have c0 := HRP.out _ H8.out.1
  go_wp2_with fail
  refine (root_any (err := err) _ p _ l fuel _ (HPA.out _ H8.out.1) (HVA.out _ H8.out.1) hl HQ.out.2).mono ?_
  intro e w9 hr9
  obtain ⟨hB9, ra, rn, rc, rf, xs, rfl, hrd, hxs, hrf⟩ := root_reads hr9
  have hA9 := alb30 w9 (.cells (taC ⟨#[]⟩ 0 (.slice ra rn rc) rf) TaskT)
  have H9 := Lib.hid (show (Below w1.heap.size w1 (w9.alloc (.cells (taC ⟨#[]⟩ 0 (.slice ra rn rc) rf) TaskT)) ∧ BoxAt (w9.alloc (.cells (taC ⟨#[]⟩ 0 (.slice ra rn rc) rf) TaskT)) b9 (resC q) ResT ∧ BoxAt (w9.alloc (.cells (taC ⟨#[]⟩ 0 (.slice ra rn rc) rf) TaskT)) b11 (resC q) ResT) ∧ BoxAt (w9.alloc (.cells (taC ⟨#[]⟩ 0 (.slice ra rn rc) rf) TaskT)) w9.heap.size (taC ⟨#[]⟩ 0 (.slice ra rn rc) rf) TaskT ∧ ReadsK encN1 1 (w9.alloc (.cells (taC ⟨#[]⟩ 0 (.slice ra rn rc) rf) TaskT)) (.slice ra rn rc) xs ∧ TreeR (w9.alloc (.cells (taC ⟨#[]⟩ 0 (.slice ra rn rc) rf) TaskT)) tv (treeL p l fuel most) ∧ TreeR (w9.alloc (.cells (taC ⟨#[]⟩ 0 (.slice ra rn rc) rf) TaskT)) uv (treeL p l fuel most) from
    ⟨⟨gthen (gthen H8.out.1 hB9) hA9, (BoxAt.below H8.out.2.1 hB9).below hA9, (BoxAt.below H8.out.2.2 hB9).below hA9⟩, heap_alloc_new _ _, hrd.below hA9, (HT8.out.1.below hB9).below hA9, (HT8.out.2.below hB9).below hA9⟩)
  have HX := Lib.hid (And.intro hxs hrf)
  simp only [taC] at H9
  clear hr9 hB9 hrd hA9 c0 H8 HT8 hxs hrf
  go_upto_region 8 with fail
  generalize w9.alloc (.cells #[.string ⟨#[]⟩, .int .i64 0, .slice ra rn rc, .int .i64 rf] TaskT) = w10 at *
  generalize w9.heap.size = b17 at *
  have c0 := HRP.out _ H9.out.1.1
  go_wp2_with fail
  refine (rroot_any (err := err) _ p _ l fuel _ (HPA.out _ H9.out.1.1) (HVA.out _ H9.out.1.1) hl HQ.out.2).mono ?_
  intro e w11 hr11
  obtain ⟨hB11, sa, sn, sc, sf, ys, rfl, hrd, hys, hsf⟩ := root_reads hr11
  have hsr : sf = rf := by rw [hsf, HX.out.2]
  have hyx : ys = xs := by rw [hys, HX.out.1]
  subst hsr
  subst hyx
  have hxl : ys.length ≤ 1000000 := by
    rw [hys]; split
    · omega
    · simp
  have hA11 := alb30 w11 (.cells (taC ⟨#[]⟩ 0 (.slice sa sn sc) sf) TaskT)
  have H11 := Lib.hid (show (Below w1.heap.size w1 (w11.alloc (.cells (taC ⟨#[]⟩ 0 (.slice sa sn sc) sf) TaskT)) ∧ BoxAt (w11.alloc (.cells (taC ⟨#[]⟩ 0 (.slice sa sn sc) sf) TaskT)) b9 (resC q) ResT ∧ BoxAt (w11.alloc (.cells (taC ⟨#[]⟩ 0 (.slice sa sn sc) sf) TaskT)) b11 (resC q) ResT) ∧ (BoxAt (w11.alloc (.cells (taC ⟨#[]⟩ 0 (.slice sa sn sc) sf) TaskT)) b17 (taC ⟨#[]⟩ 0 (.slice ra rn rc) sf) TaskT ∧ BoxAt (w11.alloc (.cells (taC ⟨#[]⟩ 0 (.slice sa sn sc) sf) TaskT)) w11.heap.size (taC ⟨#[]⟩ 0 (.slice sa sn sc) sf) TaskT) ∧
      ReadsK encN1 1 (w11.alloc (.cells (taC ⟨#[]⟩ 0 (.slice sa sn sc) sf) TaskT)) (.slice ra rn rc) ys ∧ ReadsK encN1 1 (w11.alloc (.cells (taC ⟨#[]⟩ 0 (.slice sa sn sc) sf) TaskT)) (.slice sa sn sc) ys ∧ TreeR (w11.alloc (.cells (taC ⟨#[]⟩ 0 (.slice sa sn sc) sf) TaskT)) tv (treeL p l fuel most) ∧ TreeR (w11.alloc (.cells (taC ⟨#[]⟩ 0 (.slice sa sn sc) sf) TaskT)) uv (treeL p l fuel most) from
    ⟨⟨gthen (gthen H9.out.1.1 hB11) hA11, (BoxAt.below H9.out.1.2.1 hB11).below hA11, (BoxAt.below H9.out.1.2.2 hB11).below hA11⟩, ⟨(BoxAt.below H9.out.2.1 hB11).below hA11, heap_alloc_new _ _⟩, (H9.out.2.2.1.below hB11).below hA11, hrd.below hA11, (H9.out.2.2.2.1.below hB11).below hA11, (H9.out.2.2.2.2.below hB11).below hA11⟩)
  simp only [taC] at H11
  clear hr11 hB11 hrd hA11 c0 H9 hys hsf HX
  go_upto_region 9 with fail
  generalize w11.alloc (.cells #[.string ⟨#[]⟩, .int .i64 0, .slice sa sn sc, .int .i64 sf] TaskT) = w12 at *
  generalize w11.heap.size = b19 at *
  have x0 := H11.out.1.2.1.cell 0; have x1 := H11.out.1.2.1.cell 1
  have y0 := H11.out.1.2.2.cell 0; have y1 := H11.out.1.2.2.cell 1
  simp only [resC, List.getElem?_toArray, List.getElem?_cons_zero, List.getElem?_cons_succ] at x0 x1 y0 y1
  go_wp2_with fail
  refine (trees_same _ _ (treeL p l fuel most) _ H11.out.2.2.2.2.1 H11.out.2.2.2.2.2 treeL_ok.1 treeL_ok.2).mono ?_
  rintro e w13 ⟨rfl, hB13⟩
  have H13 := Lib.hid (show Below w1.heap.size w1 w13 ∧ (BoxAt w13 b17 (taC ⟨#[]⟩ 0 (.slice ra rn rc) sf) TaskT ∧ BoxAt w13 b19 (taC ⟨#[]⟩ 0 (.slice sa sn sc) sf) TaskT) ∧ ReadsK encN1 1 w13 (.slice ra rn rc) ys ∧ ReadsK encN1 1 w13 (.slice sa sn sc) ys from
    ⟨gthen H11.out.1.1 hB13, ⟨BoxAt.below H11.out.2.1.1 hB13, BoxAt.below H11.out.2.1.2 hB13⟩, H11.out.2.2.1.below hB13, H11.out.2.2.2.1.below hB13⟩)
  clear hB13 x0 x1 y0 y1 H11
  have x0 := H13.out.2.1.1.cell 0; have x1 := H13.out.2.1.1.cell 1; have x2 := H13.out.2.1.1.cell 2; have x3 := H13.out.2.1.1.cell 3
  have y0 := H13.out.2.1.2.cell 0; have y1 := H13.out.2.1.2.cell 1; have y2 := H13.out.2.1.2.cell 2; have y3 := H13.out.2.1.2.cell 3
  simp only [taC, List.getElem?_toArray, List.getElem?_cons_zero, List.getElem?_cons_succ] at x0 x1 x2 x3 y0 y1 y2 y3
  go_wp2_with fail
  refine (tasks_same ⟨#[]⟩ 0 sf _ _ ys _ H13.out.2.2.1 H13.out.2.2.2 hxl).mono ?_
  rintro e w14 ⟨rfl, hB14⟩
  go_wp2_with fail
  refine (alive_any _).mono ?_
  rintro e w15 ⟨rfl, hB15⟩
  go_wp2_with fail
  go_ret
  exact ⟨ret_bool rfl, gthen (gthen (gthen HA.out H13.out.1) hB14) hB15⟩
/-- At what came in. -/
theorem evalruns_row (v0 v1 : Value) (fuel most : Int) (w : World) (h0 : ∃ u l, v0 = .agg #[u] ∧ ProgIn w u l) (h1 : ∃ l, ReadsK encN1 1 w v1 l ∧ l.length ≤ maxLen) (_ : (Lit.int .i64 fuel).wf = true) (_ : (Lit.int .i64 most).wf = true) :
    Calls Try.prog 3 #[v0, v1, .int .i64 fuel, .int .i64 most] w fun e w' => e = .returned (.bool true) ∧ Below w.heap.size w w' := by
  obtain ⟨u, p, rfl, hp⟩ := h0
  obtain ⟨l, hl, _⟩ := h1
  exact evalruns_walk u p v1 l fuel most w hp hl
end Go.Proofs.Ytihadknnmkblcaa
