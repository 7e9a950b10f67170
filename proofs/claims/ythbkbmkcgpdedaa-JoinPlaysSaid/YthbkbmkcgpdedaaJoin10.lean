/- What no table answers: Over, Get; no task and no row are the same as none. -/
import Derived.Test.YthbkbmkcgpdedaaJoin9
namespace Go.Proofs.Ythbkbmkcgpdedaa
open Go.RowKit Go.Sort Go.Lib

set_option maxHeartbeats 1600000 in
set_option maxRecDepth 100000 in
theorem nil_over (n : Nm) (val err : Int) (w : World) : Calls Try.prog 23 #[.pointer none, .agg #[.int .u64 n.1, .string n.2], .agg #[.int .i64 val, .int .i64 err]] w fun e w' => e = .returned (.tuple #[.agg #[.int .u64 0, .string ⟨#[]⟩], .bool false, .int .i64 1]) ∧ Below w.heap.size w w' := by
  have hA : Below w.heap.size w (((w.alloc (.cells #[.int .u64 n.1, .string n.2] 35)).alloc (.cells #[.int .i64 val, .int .i64 err] 40)).alloc (.cells #[.int .u64 0, .string ⟨#[]⟩] 35)) := (((Below.refl _ _).alloc (Nat.le_refl _) _).alloc (by simp) _).alloc (by simp; omega) _
  have n1 : (((w.alloc (.cells #[.int .u64 n.1, .string n.2] 35)).alloc (.cells #[.int .i64 val, .int .i64 err] 40)).alloc (.cells #[.int .u64 0, .string ⟨#[]⟩] 35)).cell? ⟨w.heap.size, 0, none⟩ = some (.int .u64 n.1) := cell_keep ((Below.refl _ _).alloc (Nat.le_refl _) _) (cell_keep ((Below.refl _ _).alloc (Nat.le_refl _) _) (show (w.alloc (.cells #[.int .u64 n.1, .string n.2] 35)).cell? ⟨w.heap.size, 0, none⟩ = some (.int .u64 n.1) by simp))
  have n2 : (((w.alloc (.cells #[.int .u64 n.1, .string n.2] 35)).alloc (.cells #[.int .i64 val, .int .i64 err] 40)).alloc (.cells #[.int .u64 0, .string ⟨#[]⟩] 35)).cell? ⟨w.heap.size, 1, none⟩ = some (.string n.2) := cell_keep ((Below.refl _ _).alloc (Nat.le_refl _) _) (cell_keep ((Below.refl _ _).alloc (Nat.le_refl _) _) (show (w.alloc (.cells #[.int .u64 n.1, .string n.2] 35)).cell? ⟨w.heap.size, 1, none⟩ = some (.string n.2) by simp))
  have hres := heap_alloc_new ((w.alloc (.cells #[.int .u64 n.1, .string n.2] 35)).alloc (.cells #[.int .i64 val, .int .i64 err] 40)) (.cells #[.int .u64 0, .string ⟨#[]⟩] 35)
  rw [show ((w.alloc (.cells #[.int .u64 n.1, .string n.2] 35)).alloc (.cells #[.int .i64 val, .int .i64 err] 40)).heap.size = w.heap.size + 2 by simp] at hres
  have HA := Lib.hid hA
  have HRES := Lib.hid hres
  clear hA hres
  go_enter Try.func23, Try.ntmps23
  generalize hwa : ((w.alloc (.cells #[.int .u64 n.1, .string n.2] 35)).alloc (.cells #[.int .i64 val, .int .i64 err] 40)).alloc (.cells #[.int .u64 0, .string ⟨#[]⟩] 35) = wa at *
  go_upto_region 1 with fail
  clear hwa
  have hB1 : Below wa.heap.size wa (wa.alloc (.cells #[.int .u8 2, .int .u8 5] 5)) := (Below.refl _ _).alloc (Nat.le_refl _) _
  go_wp2_with fail
  refine (nil_of n _ _ ⟨_, _, _, rfl⟩).mono ?_
  rintro e w2 ⟨rfl, hB⟩
  have hBB := gthen hB1 hB
  have hr2 := (hBB.block _ (Array.getElem?_eq_some_iff.1 HRES.out).1).trans HRES.out
  have HA2 := Lib.hid (gthen HA.out hBB)
  have y0 : w2.cell? ⟨w.heap.size + 2, 0, none⟩ = some (.int .u64 0) := by simp [World.cell?, hr2]
  have y1 : w2.cell? ⟨w.heap.size + 2, 1, none⟩ = some (.string ⟨#[]⟩) := by simp [World.cell?, hr2]
  have q0 : w2.frozen? ⟨w.heap.size + 2, 0, none⟩ = false := by simp [World.frozen?, hr2]
  have q1 : w2.frozen? ⟨w.heap.size + 2, 1, none⟩ = false := by simp [World.frozen?, hr2]
  have HR2 := Lib.hid hr2
  clear hB hB1 hBB hr2 n1 n2
  go_wp2_with fail
  exact over_end (set2 HR2.out _ _) rfl rfl rfl ⟨rfl, (HA2.out.setCell (p := ⟨w.heap.size + 2, 0, none⟩) (by show w.heap.size ≤ w.heap.size + 2; omega) _).setCell (p := ⟨w.heap.size + 2, 1, none⟩) (by show w.heap.size ≤ w.heap.size + 2; omega) _⟩

theorem set10 {w1 : World} {r : Nat} {x0 x1 x2 x3 x4 x5 x6 x7 x8 x9 : Value} {T : TypeId} (h : w1.heap[r]? = some (.cells #[x0, x1, x2, x3, x4, x5, x6, x7, x8, x9] T (0, 0))) (a0 a1 a2 a3 a4 a5 a6 a7 a8 a9 : Value) :
    ((((((((((w1.setCell ⟨r, 0, none⟩ a0).setCell ⟨r, 1, none⟩ a1).setCell ⟨r, 2, none⟩ a2).setCell ⟨r, 3, none⟩ a3).setCell ⟨r, 4, none⟩ a4).setCell ⟨r, 5, none⟩ a5).setCell ⟨r, 6, none⟩ a6).setCell ⟨r, 7, none⟩ a7).setCell ⟨r, 8, none⟩ a8).setCell ⟨r, 9, none⟩ a9).heap[r]? = some (.cells #[a0, a1, a2, a3, a4, a5, a6, a7, a8, a9] T (0, 0)) := by
  have h0 := Go.heap_setCell_same w1 r 0 _ _ a0 h
  simp only [List.setIfInBounds_toArray, List.set_cons_zero] at h0
  have h1 := Go.heap_setCell_same _ r 1 _ _ a1 h0
  simp only [List.setIfInBounds_toArray, List.set_cons_zero, List.set_cons_succ] at h1
  have h2 := Go.heap_setCell_same _ r 2 _ _ a2 h1
  simp only [List.setIfInBounds_toArray, List.set_cons_zero, List.set_cons_succ] at h2
  have h3 := Go.heap_setCell_same _ r 3 _ _ a3 h2
  simp only [List.setIfInBounds_toArray, List.set_cons_zero, List.set_cons_succ] at h3
  have h4 := Go.heap_setCell_same _ r 4 _ _ a4 h3
  simp only [List.setIfInBounds_toArray, List.set_cons_zero, List.set_cons_succ] at h4
  have h5 := Go.heap_setCell_same _ r 5 _ _ a5 h4
  simp only [List.setIfInBounds_toArray, List.set_cons_zero, List.set_cons_succ] at h5
  have h6 := Go.heap_setCell_same _ r 6 _ _ a6 h5
  simp only [List.setIfInBounds_toArray, List.set_cons_zero, List.set_cons_succ] at h6
  have h7 := Go.heap_setCell_same _ r 7 _ _ a7 h6
  simp only [List.setIfInBounds_toArray, List.set_cons_zero, List.set_cons_succ] at h7
  have h8 := Go.heap_setCell_same _ r 8 _ _ a8 h7
  simp only [List.setIfInBounds_toArray, List.set_cons_zero, List.set_cons_succ] at h8
  have h9 := Go.heap_setCell_same _ r 9 _ _ a9 h8
  simp only [List.setIfInBounds_toArray, List.set_cons_zero, List.set_cons_succ] at h9
  exact h9
theorem set10_below {B : Nat} {w w1 : World} {r : Nat} (h : Below B w w1) (hr : B ≤ r) (a0 a1 a2 a3 a4 a5 a6 a7 a8 a9 : Value) :
    Below B w ((((((((((w1.setCell ⟨r, 0, none⟩ a0).setCell ⟨r, 1, none⟩ a1).setCell ⟨r, 2, none⟩ a2).setCell ⟨r, 3, none⟩ a3).setCell ⟨r, 4, none⟩ a4).setCell ⟨r, 5, none⟩ a5).setCell ⟨r, 6, none⟩ a6).setCell ⟨r, 7, none⟩ a7).setCell ⟨r, 8, none⟩ a8).setCell ⟨r, 9, none⟩ a9) := by
  have h0 := h.setCell (p := ⟨r, 0, none⟩) hr a0
  have h1 := h0.setCell (p := ⟨r, 1, none⟩) hr a1
  have h2 := h1.setCell (p := ⟨r, 2, none⟩) hr a2
  have h3 := h2.setCell (p := ⟨r, 3, none⟩) hr a3
  have h4 := h3.setCell (p := ⟨r, 4, none⟩) hr a4
  have h5 := h4.setCell (p := ⟨r, 5, none⟩) hr a5
  have h6 := h5.setCell (p := ⟨r, 6, none⟩) hr a6
  have h7 := h6.setCell (p := ⟨r, 7, none⟩) hr a7
  have h8 := h7.setCell (p := ⟨r, 8, none⟩) hr a8
  have h9 := h8.setCell (p := ⟨r, 9, none⟩) hr a9
  exact h9
theorem get_end {wz : World} {tmps : Array Value} {x0 x1 x2 x3 x4 x5 x6 x7 x8 x9 : Value} {is : Bool} {r : Nat} {T : TypeId} {R : Ending → World → Prop}
    (hr : wz.heap[r]? = some (.cells #[x0, x1, x2, x3, x4, x5, x6, x7, x8, x9] T (0, 0))) (h4 : tmps.getD 4 undef = .pointer (some ⟨r, 0, none⟩)) (h5 : tmps.getD 5 undef = .bool is) (hR : R (.returned (.tuple #[.agg #[x0, x1, x2, x3, x4, x5, x6, x7, x8, x9], .bool is])) wz) :
    bodyPost Try.prog Try.f28 R Exit.ret { tmps := tmps, defers := [] } wz := by
  have c : ∀ o, wz.cell? ⟨r, o, none⟩ = #[x0, x1, x2, x3, x4, x5, x6, x7, x8, x9][o]? := fun o => by simp [World.cell?, hr]
  have c0 := c 0; have c1 := c 1; have c2 := c 2; have c3 := c 3; have c4 := c 4; have c5 := c 5; have c6 := c 6; have c7 := c 7; have c8 := c 8; have c9 := c 9
  simp only [List.getElem?_toArray, List.getElem?_cons_zero, List.getElem?_cons_succ] at c0 c1 c2 c3 c4 c5 c6 c7 c8 c9
  refine bodyPost_ret (v := .tuple #[.agg #[x0, x1, x2, x3, x4, x5, x6, x7, x8, x9], .bool is]) ?_ rfl hR
  have h4' : tmps[4]?.getD undef = .pointer (some ⟨r, 0, none⟩) := by simpa using h4
  have h5' : tmps[5]?.getD undef = .bool is := by simpa using h5
  simp [results, Try.results28, go_sem, h4', h5', c0, c1, c2, c3, c4, c5, c6, c7, c8, c9]
set_option maxHeartbeats 1600000 in
set_option maxRecDepth 100000 in
theorem nil_get (n : Nm) (w : World) : Calls Try.prog 28 #[.pointer none, .agg #[.int .u64 n.1, .string n.2]] w fun e w' => e = .returned (.tuple #[zR, .bool false]) ∧ Below w.heap.size w w' := by
  have hA : Below w.heap.size w ((w.alloc (.cells #[.int .u64 n.1, .string n.2] 35)).alloc (.cells #[.int .u64 0, .string ⟨#[]⟩, .string ⟨#[]⟩, .int .i64 0, .slice none 0 0, .int .i64 0, .int .u8 0, .int .i64 0, .int .i64 0, .int .i64 0] 58)) := ((Below.refl _ _).alloc (Nat.le_refl _) _).alloc (by simp) _
  have hres := heap_alloc_new (w.alloc (.cells #[.int .u64 n.1, .string n.2] 35)) (.cells #[.int .u64 0, .string ⟨#[]⟩, .string ⟨#[]⟩, .int .i64 0, .slice none 0 0, .int .i64 0, .int .u8 0, .int .i64 0, .int .i64 0, .int .i64 0] 58)
  rw [show (w.alloc (.cells #[.int .u64 n.1, .string n.2] 35)).heap.size = w.heap.size + 1 by simp] at hres
  have HA := Lib.hid hA
  have HRES := Lib.hid hres
  clear hA hres
  go_enter Try.func28, Try.ntmps28
  generalize hwa : (w.alloc (.cells #[.int .u64 n.1, .string n.2] 35)).alloc (.cells #[.int .u64 0, .string ⟨#[]⟩, .string ⟨#[]⟩, .int .i64 0, .slice none 0 0, .int .i64 0, .int .u8 0, .int .i64 0, .int .i64 0, .int .i64 0] 58) = wa at *
  go_upto_region 1 with fail
  clear hwa
  go_quiet (fail)
  have hq : Below w.heap.size w (wa.drewN nq) := below_drewN HA.out nq
  have hr2 : (wa.drewN nq).heap[w.heap.size + 1]? = some (.cells #[.int .u64 0, .string ⟨#[]⟩, .string ⟨#[]⟩, .int .i64 0, .slice none 0 0, .int .i64 0, .int .u8 0, .int .i64 0, .int .i64 0, .int .i64 0] 58 (0, 0)) := HRES.out
  generalize wa.drewN nq = w2 at *
  have HA2 := Lib.hid hq
  have hc2 : ∀ o, w2.cell? ⟨w.heap.size + 1, o, none⟩ = #[Value.int .u64 0, .string ⟨#[]⟩, .string ⟨#[]⟩, .int .i64 0, .slice none 0 0, .int .i64 0, .int .u8 0, .int .i64 0, .int .i64 0, .int .i64 0][o]? := fun o => by simp [World.cell?, hr2]
  have hz2 : ∀ o, w2.frozen? ⟨w.heap.size + 1, o, none⟩ = false := fun o => by simp [World.frozen?, hr2]
  have y0 := hc2 0; have y1 := hc2 1; have y2 := hc2 2; have y3 := hc2 3; have y4 := hc2 4; have y5 := hc2 5; have y6 := hc2 6; have y7 := hc2 7; have y8 := hc2 8; have y9 := hc2 9
  have q0 := hz2 0; have q1 := hz2 1; have q2 := hz2 2; have q3 := hz2 3; have q4 := hz2 4; have q5 := hz2 5; have q6 := hz2 6; have q7 := hz2 7; have q8 := hz2 8; have q9 := hz2 9
  simp only [List.getElem?_toArray, List.getElem?_cons_zero, List.getElem?_cons_succ] at y0 y1 y2 y3 y4 y5 y6 y7 y8 y9
  have HR2 := Lib.hid hr2
  clear hq hr2 hc2 hz2 HA HRES
  go_wp2_with fail
  exact get_end (set10 HR2.out _ _ _ _ _ _ _ _ _ _) rfl rfl ⟨rfl, set10_below HA2.out (r := w.heap.size + 1) (Nat.le_succ _) _ _ _ _ _ _ _ _ _ _⟩

def sameT (p q : ByteArray) (fn gn fu gu : Int) (l m : List Int) : Bool := decide (p = q ∧ fn = gn ∧ fu = gu ∧ l = m)
set_option maxHeartbeats 3200000 in
set_option maxRecDepth 100000 in
theorem same_task (p q : ByteArray) (fn gn fu gu : Int) (v u : Value) (l m : List Int) (w : World) (hv : ReadsK encI 1 w v l) (hu : ReadsK encI 1 w u m) (hl : l.length ≤ 1000000) :
    Calls Try.prog 16 #[tskV p fn v fu, tskV q gn u gu] w fun e w' => e = .returned (.bool (sameT p q fn gn fu gu l m)) ∧ Below w.heap.size w w' := by
  obtain ⟨a, c, rfl⟩ := hv.slice
  obtain ⟨b, d, rfl⟩ := hu.slice
  have hA : Below w.heap.size w ((w.alloc (.cells #[.string p, .int .i64 fn, .slice a l.length c, .int .i64 fu] 38)).alloc (.cells #[.string q, .int .i64 gn, .slice b m.length d, .int .i64 gu] 38)) := ((Below.refl _ _).alloc (Nat.le_refl _) _).alloc (by simp) _
  have hm : (((w.alloc (.cells #[.string p, .int .i64 fn, .slice a l.length c, .int .i64 fu] 38)).alloc (.cells #[.string q, .int .i64 gn, .slice b m.length d, .int .i64 gu] 38)).heap[w.heap.size]? = some (.cells #[.string p, .int .i64 fn, .slice a l.length c, .int .i64 fu] 38 (0, 0))) ∧ ((w.alloc (.cells #[.string p, .int .i64 fn, .slice a l.length c, .int .i64 fu] 38)).alloc (.cells #[.string q, .int .i64 gn, .slice b m.length d, .int .i64 gu] 38)).heap[w.heap.size + 1]? = some (.cells #[.string q, .int .i64 gn, .slice b m.length d, .int .i64 gu] 38 (0, 0)) := by
    constructor
    · exact (Below.heap_alloc _ _ _ (by simp)).trans (heap_alloc_new w _)
    · have h := heap_alloc_new (w.alloc (.cells #[.string p, .int .i64 fn, .slice a l.length c, .int .i64 fu] 38)) (.cells #[.string q, .int .i64 gn, .slice b m.length d, .int .i64 gu] 38)
      rw [show (w.alloc (.cells #[.string p, .int .i64 fn, .slice a l.length c, .int .i64 fu] 38)).heap.size = w.heap.size + 1 by simp] at h
      exact h
  have HA := Lib.hid hA
  have HV := Lib.hid (hv.below hA)
  have HU := Lib.hid (hu.below hA)
  have HM := Lib.hid hm
  clear hA hm hv hu
  unfold tskV
  go_enter Try.func16, Try.ntmps16
  generalize hwa : (w.alloc (.cells #[.string p, .int .i64 fn, .slice a l.length c, .int .i64 fu] 38)).alloc (.cells #[.string q, .int .i64 gn, .slice b m.length d, .int .i64 gu] 38) = wa at *
  go_upto_region 1 with fail
  clear hwa
  have a0 : wa.cell? ⟨w.heap.size, 0, none⟩ = some (.string p) := by simp [World.cell?, HM.out.1]
  have a1 : wa.cell? ⟨w.heap.size, 1, none⟩ = some (.int .i64 fn) := by simp [World.cell?, HM.out.1]
  have a2 : wa.cell? ⟨w.heap.size, 2, none⟩ = some (.slice a l.length c) := by simp [World.cell?, HM.out.1]
  have a3 : wa.cell? ⟨w.heap.size, 3, none⟩ = some (.int .i64 fu) := by simp [World.cell?, HM.out.1]
  have b0 : wa.cell? ⟨w.heap.size + 1, 0, none⟩ = some (.string q) := by simp [World.cell?, HM.out.2]
  have b1 : wa.cell? ⟨w.heap.size + 1, 1, none⟩ = some (.int .i64 gn) := by simp [World.cell?, HM.out.2]
  have b2 : wa.cell? ⟨w.heap.size + 1, 2, none⟩ = some (.slice b m.length d) := by simp [World.cell?, HM.out.2]
  have b3 : wa.cell? ⟨w.heap.size + 1, 3, none⟩ = some (.int .i64 gu) := by simp [World.cell?, HM.out.2]
  have no : ¬ (p = q ∧ fn = gn ∧ fu = gu ∧ l = m) → Ending.returned (.bool false) = Ending.returned (.bool (sameT p q fn gn fu gu l m)) := fun h => ret_boolE (decide_eq_false h).symm
  have NO := Lib.hid no
  clear no
  by_cases h1 : p = q
  case neg =>
    have H1 := Lib.hid h1
    have t1 : ¬ p.toList = q.toList := fun e => h1 (by rw [Lib.toList_data, Lib.toList_data] at e; exact ByteArray.ext (Array.toList_inj.1 e))
    clear h1
    go_wp2_with fail
    go_ret
    exact ⟨NO.out (fun h => H1.out h.1), HA.out⟩
  have H1 := Lib.hid h1
  have t1 : p.toList = q.toList := by rw [h1]
  clear h1
  by_cases h2 : fn = gn
  case neg =>
    have H2 := Lib.hid h2
    go_wp2_with fail
    go_ret
    exact ⟨NO.out (fun h => H2.out h.2.1), HA.out⟩
  subst h2
  by_cases h3 : fu = gu
  case neg =>
    have H3 := Lib.hid h3
    go_wp2_with fail
    go_ret
    exact ⟨NO.out (fun h => H3.out h.2.2.1), HA.out⟩
  subst h3
  by_cases h4 : l.length = m.length
  case neg =>
    have H4 := Lib.hid h4
    have t4 : ((l.length : Int) != (m.length : Int)) = true := by simp; omega
    clear h4
    go_wp2_with fail
    go_ret
    exact ⟨NO.out (fun h => H4.out (by rw [h.2.2.2])), HA.out⟩
  have H4 := Lib.hid h4
  have t4 : ((l.length : Int) != (m.length : Int)) = false := by simp [h4]
  clear h4
  go_wp2_with fail
  have HW := Lib.hid (show Below wa.heap.size wa wa from Below.refl _ _)
  go_loopg [5] l.length (fun gk i wr => ∃ k : Nat, gk + k = l.length ∧ i = .int .i64 k ∧ Below wa.heap.size wa wr ∧ ∀ j (hj : j < l.length) (hj' : j < m.length), j < k → l[j] = m[j])
  case atStart => exact ⟨0, by omega, rfl, HW.out, fun j hj _ h0 => by omega⟩
  case round =>
    obtain ⟨k, hk, rfl, hBw, hall⟩ := hrel
    have hn2 : wr.cell? ⟨w.heap.size, 2, none⟩ = some (.slice a l.length c) := cell_keep hBw a2
    have hn3 : wr.cell? ⟨w.heap.size + 1, 2, none⟩ = some (.slice b m.length d) := cell_keep hBw b2
    have HB := Lib.hid hBw
    have HALL := Lib.hid hall
    clear hall a0 a1 a2 a3 b0 b1 b2 b3 t1 t4
    by_cases hlt : k < l.length
    · obtain ⟨r1, o1, cc1, he1, hb1, hc1⟩ := (HV.out.below hBw).at (by omega)
      obtain ⟨r2, o2, cc2, he2, hb2, hc2⟩ := (HU.out.below hBw).at (by have := H4.out; omega)
      injection he1 with he1 he1b he1c
      injection he2 with he2 he2b he2c
      subst he1
      subst he2
      clear he1b he1c he2b he2c
      have hltm : k < m.length := by have := H4.out; omega
      have k1 : wr.cell? ⟨r1, o1 + k, none⟩ = some (.int .i64 l[k]) := by have h := hc1 k hlt 0 _ rfl; rw [Nat.mul_one, Nat.add_zero] at h; exact h
      have k2 : wr.cell? ⟨r2, o2 + k, none⟩ = some (.int .i64 m[k]) := by have h := hc2 k hltm 0 _ rfl; rw [Nat.mul_one, Nat.add_zero] at h; exact h
      clear hc1 hc2 hBw
      go_wp2_with fail
      go_quiet (fail)
      have hBq := below_drewN HB.out nq
      generalize wr.drewN nq = wq at *
      have HBq := Lib.hid hBq
      clear hn2 hn3 k1 k2 hBq
      by_cases he : l[k] = m[k]
      · have HE := Lib.hid he
        have t5 : (l[k] != m[k]) = false := by simp [he]
        clear he
        go_wp2_with fail
        go_roundg (gk - 1)
        case rel => exact ⟨k + 1, by omega, by go_num, HBq.out, fun j hj hj' h0 => by
          by_cases e : j = k
          · subst e; exact HE.out
          · exact HALL.out j hj hj' (by omega)⟩
        case measure => omega
      · have HE := Lib.hid he
        have t5 : (l[k] != m[k]) = true := by simp [he]
        clear he
        go_wp2_with fail
        go_ret
        exact ⟨NO.out (fun h => HE.out (by have := h.2.2.2; subst this; rfl)), gthen HA.out HBq.out⟩
    · have HF : Hid (l = m) := List.ext_getElem H4.out (fun j h1 h2 => HALL.out j h1 h2 (by omega))
      go_wp2_with fail
      go_ret
      exact ⟨ret_boolE (decide_eq_true ⟨H1.out, rfl, rfl, HF.out⟩).symm, gthen HA.out HB.out⟩
theorem str_eq {a b : ByteArray} : a.toList = b.toList ↔ a = b := by
  refine ⟨fun e => ?_, fun e => by rw [e]⟩
  rw [ByteArray.toList_eq, ByteArray.toList_eq] at e
  exact ByteArray.ext (Array.toList_inj.1 e)
theorem nm_eq {a x : Nm} : a = x ↔ a.1 = x.1 ∧ a.2 = x.2 := ⟨fun e => by rw [e]; exact ⟨rfl, rfl⟩, fun ⟨h1, h2⟩ => Prod.ext h1 h2⟩
set_option maxRecDepth 100000 in
theorem eqlN (a x : Nm) (w : World) : (binOp .eql 35 (.agg #[.int .u64 a.1, .string a.2]) (.agg #[.int .u64 x.1, .string x.2])).run Try.prog w = .ok (.bool (decide (a = x))) w := by
  go_simp
  rw [show decide (a = x) = decide (a.1 = x.1 ∧ a.2 = x.2) from decide_eq_decide.2 nm_eq]
  simp only [str_eq]
  by_cases h1 : a.1 = x.1 <;> by_cases h2 : a.2 = x.2 <;> simp [h1, h2]
set_option maxRecDepth 100000 in
theorem eqlR (a b c d : Int) (w : World) : (binOp .eql 40 (.agg #[.int .i64 a, .int .i64 b]) (.agg #[.int .i64 c, .int .i64 d])).run Try.prog w = .ok (.bool (decide (a = c ∧ b = d))) w := by
  go_simp
  by_cases h1 : a = c <;> by_cases h2 : b = d <;> simp [h1, h2]

theorem reads_nil (w : World) : ReadsK encI 1 w (.slice none 0 0) [] := .inl ⟨rfl, none, 0, rfl⟩
theorem zT_eq : zT = tskV ⟨#[]⟩ 0 (.slice none 0 0) 0 := rfl
theorem same_zero (w : World) : Calls Try.prog 16 #[zT, zT] w fun e w' => e = .returned (.bool true) ∧ Below w.heap.size w w' := by
  have h := same_task ⟨#[]⟩ ⟨#[]⟩ 0 0 0 0 _ _ [] [] w (reads_nil w) (reads_nil w) (by decide)
  rw [show sameT ⟨#[]⟩ ⟨#[]⟩ 0 0 0 0 [] [] = true from by unfold sameT; exact decide_eq_true ⟨rfl, rfl, rfl, rfl⟩] at h
  exact h
set_option maxHeartbeats 1600000 in
set_option maxRecDepth 100000 in
theorem same_zrow (w : World) : Calls Try.prog 30 #[zR, zR] w fun e w' => e = .returned (.bool true) ∧ Below w.heap.size w w' := by
  unfold zR
  go_enter Try.func30, Try.ntmps30
  go_wp2_with fail
  refine (same_zero _).mono ?_
  rintro e w1 ⟨rfl, hB⟩
  have HB := Lib.hid (gthen (((Below.refl _ _).alloc (Nat.le_refl _) _).alloc (by simp) _) hB)
  clear hB
  go_wp2_with fail
  go_ret
  exact ⟨rfl, HB.out⟩
end Go.Proofs.Ythbkbmkcgpdedaa
