/- Contracts: check.look, check.Input. -/
import Derived.Test.YtdhbjejejeljoaaGreatEv6
namespace Go.Proofs.YtdhbjejejeljoaaGreat
open Go.RowKit

theorem firstE_snoc : ∀ (l : List Int) (x : Int), firstE (l ++ [x]) = if firstE l = 0 then x else firstE l
  | [], x => by simp only [List.nil_append, firstE]; split <;> simp_all
  | e :: l, x => by
    simp only [List.cons_append, firstE]
    split
    · exact firstE_snoc l x
    · rename_i h; first | rfl | rw [if_neg h]
theorem firstE_app {l m : List Int} (h : firstE l ≠ 0) : firstE (l ++ m) = firstE l := by
  induction l with
  | nil => exact absurd rfl h
  | cons e l ih =>
    simp only [List.cons_append, firstE] at h ⊢
    split
    · rename_i he; rw [if_pos he] at h; exact ih h
    · rfl
theorem firstE_all {l : List Int} (h : ∀ e ∈ l, e = 0) : firstE l = 0 := by
  induction l with
  | nil => rfl
  | cons e l ih =>
    unfold firstE
    rw [if_pos (h e List.mem_cons_self)]
    exact ih fun x hx => h x (List.mem_cons_of_mem _ hx)
/-- The error so far. -/
def errK (p : List Fnc) (f : Fnc) (k : Nat) : Int := if f.regs < f.args then 110 else firstE ((f.ops.take k).map (opE p f))
theorem errK_step {p : List Fnc} {f : Fnc} {k : Nat} (h : k < f.ops.length) (h0 : errK p f k = 0) : errK p f (k + 1) = opE p f f.ops[k] := by
  unfold errK at h0 ⊢
  split at h0
  · cases h0
  · rename_i hr
    rw [if_neg hr, List.take_succ_eq_append_getElem h, List.map_append, List.map_singleton, firstE_snoc, if_pos h0]
theorem errK_stop {p : List Fnc} {f : Fnc} {k : Nat} (h0 : errK p f k ≠ 0) : funE p f = errK p f k := by
  unfold errK at h0 ⊢
  unfold funE
  split
  · rfl
  · rename_i hr
    rw [if_neg hr] at h0
    have := firstE_app (m := (f.ops.drop k).map (opE p f)) h0
    rw [← List.map_append, List.take_append_drop] at this
    rw [this, if_pos h0]
theorem errK_end {p : List Fnc} {f : Fnc} : mustE (errK p f f.ops.length) (endsP f) 113 = funE p f := by
  by_cases h0 : errK p f f.ops.length = 0
  · unfold mustE
    rw [h0]
    unfold errK at h0
    unfold funE
    split at h0
    · cases h0
    · rename_i hr
      rw [List.take_length] at h0
      rw [if_neg hr, if_neg (show ¬ firstE (f.ops.map (opE p f)) ≠ 0 from fun h => h h0)]
      cases endsP f
      · rw [if_pos ⟨rfl, rfl⟩]; rfl
      · rw [if_neg (by simp), if_pos rfl]
  · rw [errK_stop h0]
    unfold mustE
    rw [if_neg (by simp [h0])]
theorem endsP_nil {f : Fnc} (h : f.ops.length = 0) : endsP f = false := by
  unfold endsP
  have : f.ops = [] := List.length_eq_zero_iff.1 h
  rw [this]; rfl
theorem endsP_last {f : Fnc} {n : Nat} (h : f.ops.length = n + 1) : endsP f = ((f.ops[n]'(by omega)).k == 10 || (f.ops[n]'(by omega)).k == 14) := by
  unfold endsP
  have h2 : f.ops.getLast? = some (f.ops[n]'(by omega)) := by
    rw [List.getLast?_eq_getElem?, List.getElem?_eq_getElem (by omega)]
    congr 2; omega
  rw [h2]
  have e : ∀ x y : Int, (x == y) = decide (x = y) := fun x y => by by_cases h : x = y <;> simp [h]
  simp only [e]
theorem progE_stop {p : List Fnc} {k : Nat} (h : k < p.length) (hm : mayP p = true) (hz : ∀ j, (hj : j < p.length) → j < k → funE p p[j] = 0) (hk : funE p p[k] ≠ 0) : progE p = funE p p[k] := by
  unfold progE
  rw [hm, if_neg (by simp), if_neg (by omega)]
  have h1 : firstE ((p.take (k + 1)).map (funE p)) = funE p p[k] := by
    rw [List.take_succ_eq_append_getElem h, List.map_append, List.map_singleton, firstE_snoc, if_pos]
    apply firstE_all
    intro e he
    obtain ⟨f, hf, rfl⟩ := List.mem_map.1 he
    obtain ⟨j, hj, rfl⟩ := List.getElem_of_mem hf
    rw [List.length_take] at hj
    rw [List.getElem_take]
    exact hz j (by omega) (by omega)
  have := firstE_app (m := (p.drop (k + 1)).map (funE p)) (by rw [h1]; exact hk)
  rw [← List.map_append, List.take_append_drop, h1] at this
  exact this
theorem progE_zero {p : List Fnc} (h : p.length ≠ 0) (hm : mayP p = true) (hz : ∀ j, (hj : j < p.length) → funE p p[j] = 0) : progE p = 0 := by
  unfold progE
  rw [hm, if_neg (by simp), if_neg h]
  apply firstE_all
  intro e he
  obtain ⟨f, hf, rfl⟩ := List.mem_map.1 he
  obtain ⟨j, hj, rfl⟩ := List.getElem_of_mem hf
  exact hz j hj

theorem hf_ops {p : List Fnc} {f : Fnc} (hm : mayP p = true) (hf : f ∈ p) : (∀ o ∈ f.ops, formedP o = true) ∧ f.ops.length ≤ 64 ∧ (0 ≤ f.args ∧ f.args ≤ 16 ∧ 0 ≤ f.regs ∧ f.regs ≤ 16) := by
  unfold mayP at hm
  simp only [Bool.and_eq_true, List.all_eq_true] at hm
  have := hm.2 f hf
  unfold mayF regP at this
  simp only [Bool.and_eq_true, decide_eq_true_eq, List.all_eq_true] at this
  exact ⟨this.2, this.1.2, by omega⟩
theorem look_end {wz : World} {tmps : Array Value} {e fn op : Int} {r : Nat} {R : Ending → World → Prop}
    (hr : BoxAt wz r (faC e fn op) FaultT) (h2 : tmps.getD 2 undef = .pointer (some ⟨r, 0, none⟩)) (hR : R (.returned (.agg #[.int .i64 e, .int .i64 fn, .int .i64 op])) wz) :
    bodyPost Tryz.prog Tryz.f43 R Exit.ret { tmps := tmps, defers := [] } wz := by
  have c0 := hr.cell 0
  have c1 := hr.cell 1
  have c2 := hr.cell 2
  simp only [faC, List.getElem?_toArray, List.getElem?_cons_zero, List.getElem?_cons_succ] at c0 c1 c2
  refine bodyPost_ret (v := .agg #[.int .i64 e, .int .i64 fn, .int .i64 op]) ?_ rfl hR
  have h2' : tmps[2]?.getD undef = .pointer (some ⟨r, 0, none⟩) := by simpa using h2
  simp [results, Tryz.results43, go_sem, h2', c0, c1, c2]
def LookP (w0 : World) (p : List Fnc) (e : Ending) (w' : World) : Prop := ∃ fn op, e = .returned (.agg #[.int .i64 (progE p), .int .i64 fn, .int .i64 op]) ∧ Below w0.heap.size w0 w'
theorem LookP.mk {w0 : World} {p : List Fnc} {w' : World} {e fn op : Int} (h : progE p = e) (hB : Below w0.heap.size w0 w') : LookP w0 p (.returned (.agg #[.int .i64 e, .int .i64 fn, .int .i64 op])) w' := ⟨fn, op, by rw [h], hB⟩
/-- The look's world at a function. -/
structure LkW (w0 : World) (pv : Value) (s : Nat) (wr : World) : Prop where
  low : Below w0.heap.size w0 wr
  le : w0.heap.size ≤ s
  bp : BoxAt wr s #[pv] 24
  br : BoxAt wr (s + 1) (faC 0 0 0) FaultT
theorem LkW.below {w0 w w' : World} {pv : Value} {s : Nat} (h : LkW w0 pv s w) (hB : Below w.heap.size w w') : LkW w0 pv s w' := ⟨gthen h.low hB, h.le, h.bp.below hB, h.br.below hB⟩
theorem LkW.fr {w0 w w' : World} {pv : Value} {s q : Nat} (h : LkW w0 pv s w) (hF : Fr (fun i => i = q) w w') (h1 : s + 1 < q) : LkW w0 pv s w' :=
  ⟨h.low.trans (hF.below (fun i hi => by have := h.le; omega) h.low.size), h.le, h.bp.fr hF (by omega), h.br.fr hF (by omega)⟩
theorem set3_box {w : World} {q : Nat} {a b c : Value} {T : TypeId} (h : BoxAt w q #[a, b, c] T) (x y z : Value) : BoxAt (((w.setCell ⟨q, 0, none⟩ x).setCell ⟨q, 1, none⟩ y).setCell ⟨q, 2, none⟩ z) q #[x, y, z] T := by
  have h1 := Go.heap_setCell_same w q 0 _ _ x h
  have h2 := Go.heap_setCell_same _ q 1 _ _ y h1
  exact Go.heap_setCell_same _ q 2 _ _ z h2
/-- .. within a function. -/
structure LkI (w0 : World) (pv : Value) (p : List Fnc) (f : Fnc) (s fb : Nat) (k : Int) (j : Nat) (wr : World) : Prop where
  lk : LkW w0 pv s wr
  bf : BoxAt wr fb (fnC f) FnT
  lt : s + 1 < fb
  fa : ∃ op, BoxAt wr (fb + 1) (faC (errK p f j) k op) FaultT
theorem errK_zero (p : List Fnc) (f : Fnc) : mustE 0 (decide (f.args ≤ f.regs)) 110 = errK p f 0 := by
  unfold mustE errK
  by_cases h : f.args ≤ f.regs
  · rw [if_neg (by simp [h]), if_neg (by omega)]; rfl
  · rw [if_pos (by simp [h]), if_pos (by omega)]
theorem set_2 {w : World} {q : Nat} {a b c : Value} {T : TypeId} (h : BoxAt w q #[a, b, c] T) (z : Value) : BoxAt (w.setCell ⟨q, 2, none⟩ z) q #[a, b, z] T := Go.heap_setCell_same w q 2 _ _ z h
set_option maxHeartbeats 6400000 in
set_option maxRecDepth 100000 in
theorem look_any (pv : Value) (p : List Fnc) (w : World) (hp : ProgAt w pv p) :
    Calls Tryz.prog 43 #[.agg #[pv]] w (LookP w p) := by
  obtain ⟨pa, pc, rfl⟩ := hp.fns.slice
  have hA1 : Below w.heap.size w (w.alloc (.cells #[.slice pa p.length pc] 24)) := (Below.refl _ _).alloc (Nat.le_refl _) _
  have hA2 : Below (w.alloc (.cells #[.slice pa p.length pc] 24)).heap.size _ ((w.alloc (.cells #[.slice pa p.length pc] 24)).alloc (.cells (faC 0 0 0) FaultT)) := (Below.refl _ _).alloc (Nat.le_refl _) _
  have b1 : BoxAt (w.alloc (.cells #[.slice pa p.length pc] 24)) w.heap.size #[.slice pa p.length pc] 24 := heap_alloc_new _ _
  have b2 : BoxAt ((w.alloc (.cells #[.slice pa p.length pc] 24)).alloc (.cells (faC 0 0 0) FaultT)) (w.heap.size + 1) (faC 0 0 0) FaultT := by
    have := heap_alloc_new (w.alloc (.cells #[.slice pa p.length pc] 24)) (.cells (faC 0 0 0) FaultT)
    rwa [show (w.alloc (.cells #[.slice pa p.length pc] 24)).heap.size = w.heap.size + 1 by simp] at this
  have H0 := Lib.hid (show LkW w (.slice pa p.length pc) w.heap.size ((w.alloc (.cells #[.slice pa p.length pc] 24)).alloc (.cells (faC 0 0 0) FaultT)) from ⟨gthen hA1 hA2, Nat.le_refl _, b1.below hA2, b2⟩)
  have HP := Lib.hid hp
  have hpl := hp.len
  clear hp hA1 hA2 b1 b2
  go_enter Tryz.func43, Tryz.ntmps43
  go_upto_region 1 with fail
  simp only [faC] at H0
  generalize (w.alloc (.cells #[.slice pa p.length pc] 24)).alloc (.cells #[.int .i64 0, .int .i64 0, .int .i64 0] FaultT) = w1 at *
  generalize w.heap.size = s at *
  have c0 := H0.out.bp.cell 0
  simp only [List.getElem?_toArray, List.getElem?_cons_zero] at c0
  cases hm : mayP p
  · have HM := Lib.hid hm
    go_wp2_with fail
    refine (cmay_any (b := false) _ p w1 (HP.out.below H0.out.low) HM.out).mono ?_
    rintro e w2 ⟨rfl, hB⟩
    have H1 := Lib.hid (H0.out.below hB)
    have hr := H1.out.br
    have r0 := hr.cell 0; have r1 := hr.cell 1; have r2 := hr.cell 2
    have f0 := hr.frozen 0; have f1 := hr.frozen 1; have f2 := hr.frozen 2
    simp only [faC, List.getElem?_toArray, List.getElem?_cons_zero, List.getElem?_cons_succ] at r0 r1 r2
    have HR := Lib.hid hr
    clear hB hm hr c0
    go_wp2_with fail
    exact look_end (set3_box HR.out _ _ _) rfl (.mk (by unfold progE; rw [HM.out]; rfl) (((H1.out.low.setCell (p := ⟨s + 1, 0, none⟩) (by have := H1.out.le; simp only []; omega) _).setCell (p := ⟨s + 1, 1, none⟩) (by have := H1.out.le; simp only []; omega) _).setCell (p := ⟨s + 1, 2, none⟩) (by have := H1.out.le; simp only []; omega) _))
  have HM := Lib.hid hm
  clear hm
  go_wp2_with fail
  refine (cmay_any (b := true) _ p w1 (HP.out.below H0.out.low) HM.out).mono ?_
  rintro e w2 ⟨rfl, hB⟩
  have H1 := Lib.hid (H0.out.below hB)
  clear hB c0 H0
  have c0 := H1.out.bp.cell 0
  simp only [List.getElem?_toArray, List.getElem?_cons_zero] at c0
  by_cases h0 : p.length = 0
  · have hl0 : ((p.length : Int) == 0) = true := by simp [h0]
    have H00 := Lib.hid h0
    have hr := H1.out.br
    have r0 := hr.cell 0; have r1 := hr.cell 1; have r2 := hr.cell 2
    have f0 := hr.frozen 0; have f1 := hr.frozen 1; have f2 := hr.frozen 2
    simp only [faC, List.getElem?_toArray, List.getElem?_cons_zero, List.getElem?_cons_succ] at r0 r1 r2
    have HR := Lib.hid hr
    clear hr h0
    go_wp2_with fail
    exact look_end (set3_box HR.out _ _ _) rfl (.mk (by unfold progE; rw [HM.out, if_neg (by simp), if_pos H00.out]) (((H1.out.low.setCell (p := ⟨s + 1, 0, none⟩) (by have := H1.out.le; simp only []; omega) _).setCell (p := ⟨s + 1, 1, none⟩) (by have := H1.out.le; simp only []; omega) _).setCell (p := ⟨s + 1, 2, none⟩) (by have := H1.out.le; simp only []; omega) _))
  have hl0 : ((p.length : Int) == 0) = false := by simp [h0]
  have H00 := Lib.hid h0
  clear h0
  go_wp2_with fail
  clear c0 hl0
  go_loopg [23] p.length (fun gk i wr => ∃ k : Nat, gk + k = p.length ∧ i = .int .i64 k ∧ Hid (LkW w (.slice pa p.length pc) s wr) ∧ Hid (∀ j, (hj : j < p.length) → j < k → funE p p[j] = 0))
  case atStart => exact ⟨0, by omega, rfl, H1, fun j _ hj => absurd hj (by omega)⟩
  case round =>
    clear H1
    obtain ⟨k, hk, rfl, HW, HZ⟩ := hrel
    by_cases hlt : k < p.length
    · obtain ⟨b, off, c, he, hb, hc⟩ := (HP.out.below HW.out.low).fns.at (by omega)
      injection he with he1 he2 he3
      subst he1
      obtain ⟨c0, c1, c2⟩ := fn_at hc hlt
      have HO := Lib.hid (HP.out.ops _ (List.getElem_mem hlt))
      have HPG := Lib.hid (show funE p p[k] ≠ 0 → progE p = funE p p[k] from progE_stop hlt HM.out HZ.out)
      have HZ2 := Lib.hid (show funE p p[k] = 0 → ∀ j, (hj : j < p.length) → j < k + 1 → funE p p[j] = 0 from fun h j hj hjk => by
        by_cases e : j = k
        · subst e; exact h
        · exact HZ.out j hj (by omega))
      have hof := hf_ops HM.out (List.getElem_mem hlt)
      have HFM := Lib.hid hof.1
      have ho64 := hof.2.1
      have hsm := hof.2.2
      clear hc hb he2 he3 HZ hof
      generalize p[k] = f at *
      have hA1 : Below wr.heap.size wr (wr.alloc (.cells (fnC f) FnT)) := (Below.refl _ _).alloc (Nat.le_refl _) _
      have hA2 : Below (wr.alloc (.cells (fnC f) FnT)).heap.size _ ((wr.alloc (.cells (fnC f) FnT)).alloc (.cells (faC 0 k 0) FaultT)) := (Below.refl _ _).alloc (Nat.le_refl _) _
      have b1 : BoxAt (wr.alloc (.cells (fnC f) FnT)) wr.heap.size (fnC f) FnT := heap_alloc_new _ _
      have b2 : BoxAt ((wr.alloc (.cells (fnC f) FnT)).alloc (.cells (faC 0 k 0) FaultT)) (wr.heap.size + 1) (faC 0 k 0) FaultT := by
        have := heap_alloc_new (wr.alloc (.cells (fnC f) FnT)) (.cells (faC 0 k 0) FaultT)
        rwa [show (wr.alloc (.cells (fnC f) FnT)).heap.size = wr.heap.size + 1 by simp] at this
      have H2 := Lib.hid (show LkW w (.slice (some ⟨b, off, none⟩) p.length pc) s ((wr.alloc (.cells (fnC f) FnT)).alloc (.cells (faC 0 k 0) FaultT)) ∧ BoxAt ((wr.alloc (.cells (fnC f) FnT)).alloc (.cells (faC 0 k 0) FaultT)) wr.heap.size (fnC f) FnT ∧ BoxAt ((wr.alloc (.cells (fnC f) FnT)).alloc (.cells (faC 0 k 0) FaultT)) (wr.heap.size + 1) (faC 0 k 0) FaultT ∧ s + 1 < wr.heap.size from ⟨(HW.out.below hA1).below hA2, b1.below hA2, b2, (Array.getElem?_eq_some_iff.1 HW.out.br).1⟩)
      clear hA1 hA2 b1 b2 HW
      simp only [fnC, faC] at H2
      go_wp2_with fail
      refine (must_any H2.out.2.2.1 (errK_zero p f)).mono ?_
      rintro e wm ⟨rfl, hFA, hFR⟩
      have HI := Lib.hid (show LkI w (.slice (some ⟨b, off, none⟩) p.length pc) p f s wr.heap.size k 0 wm from ⟨H2.out.1.fr hFR (by have := H2.out.2.2.2; omega), H2.out.2.1.fr hFR (by omega), H2.out.2.2.2, ⟨_, hFA⟩⟩)
      clear hFA hFR H2 c0 c1 c2
      have d2 := HI.out.bf.cell 2
      simp only [fnC, List.getElem?_toArray, List.getElem?_cons_zero, List.getElem?_cons_succ] at d2
      go_wp2_with fail
      generalize wr.heap.size = fb at *
      clear d2
      obtain ⟨wo, hwo⟩ : ∃ wo, wo = wr := ⟨_, rfl⟩
      subst hwo
      obtain ⟨gkO, hgkO⟩ : ∃ x, x = gk := ⟨_, rfl⟩
      subst hgkO
      go_loopg [39] f.ops.length (fun gk i wr => ∃ j : Nat, gk + j = f.ops.length ∧ i = .int .i64 j ∧ Hid (LkI w (.slice (some ⟨b, off, none⟩) p.length pc) p f s fb k j wr))
      case atStart => exact ⟨0, by omega, rfl, HI⟩
      case round =>
        clear HI
        obtain ⟨j, hj, rfl, HI⟩ := hrel
        have HNE := Lib.hid (show errK p f j ≠ 0 → progE p = errK p f j from fun h => by
          have h1 := errK_stop h
          rw [← h1] at h ⊢
          exact HPG.out h)
        have d2 := HI.out.bf.cell 2
        simp only [fnC, List.getElem?_toArray, List.getElem?_cons_zero, List.getElem?_cons_succ] at d2
        by_cases hjl : j < f.ops.length
        · obtain ⟨b2, off2, c2', he, hb, hc⟩ := (HO.out.below HI.out.lk.low).1.at (by omega)
          injection he with he1 he2 he3
          obtain ⟨g0, g1, g2, g3, g4⟩ := op_at hc hjl
          rw [he1] at d2
          have HFJ := Lib.hid (HFM.out _ (List.getElem_mem hjl))
          have HES := Lib.hid (show errK p f j = 0 → errK p f (j + 1) = opE p f f.ops[j] from errK_step hjl)
          clear hc hb he2 he3
          generalize f.ops[j] = o at *
          have hA : Below wr.heap.size wr (wr.alloc (.cells (opC o) OpT)) := (Below.refl _ _).alloc (Nat.le_refl _) _
          have hbo : BoxAt (wr.alloc (.cells (opC o) OpT)) wr.heap.size (opC o) OpT := heap_alloc_new _ _
          have HI2 := Lib.hid (show LkI w (.slice (some ⟨b, off, none⟩) p.length pc) p f s fb k j (wr.alloc (.cells (opC o) OpT)) from ⟨HI.out.lk.below hA, HI.out.bf.below hA, HI.out.lt, by obtain ⟨op, h⟩ := HI.out.fa; exact ⟨op, h.below hA⟩⟩)
          have HBO := Lib.hid hbo
          have HFB := Lib.hid (show fb + 1 < wr.heap.size from by obtain ⟨op, h⟩ := HI.out.fa; exact (Array.getElem?_eq_some_iff.1 h).1)
          clear hA hbo HI
          obtain ⟨op, hfa⟩ := HI2.out.fa
          obtain ⟨ej, hej⟩ : ∃ ej, errK p f j = ej := ⟨_, rfl⟩
          have HEJ := Lib.hid hej
          rw [hej] at hfa
          clear hej
          have HFA := Lib.hid hfa
          have x0 := hfa.cell 0; have x1 := hfa.cell 1; have x2 := hfa.cell 2
          have y0 := hfa.frozen 0; have y1 := hfa.frozen 1; have y2 := hfa.frozen 2
          have hr := HI2.out.lk.br
          have r0 := hr.cell 0; have r1 := hr.cell 1; have r2 := hr.cell 2
          have z0 := hr.frozen 0; have z1 := hr.frozen 1; have z2 := hr.frozen 2
          simp only [opC, faC, List.getElem?_toArray, List.getElem?_cons_zero, List.getElem?_cons_succ] at x0 x1 x2 r0 r1 r2 y0 y1 y2 z0 z1 z2 HBO
          have HR := Lib.hid hr
          clear hr hfa
          by_cases he0 : ej = 0
          · have HE0 := Lib.hid he0
            have hne : (ej != 0) = false := by simp [he0]
            clear he0
            go_upto_region 16 with fail
            have H3 := Lib.hid (show LkI w (.slice (some ⟨b, off, none⟩) p.length pc) p f s fb k j ((wr.alloc (.cells (opC o) OpT)).setCell ⟨fb + 1, 2, none⟩ (.int .i64 j)) ∧ BoxAt ((wr.alloc (.cells (opC o) OpT)).setCell ⟨fb + 1, 2, none⟩ (.int .i64 j)) (fb + 1) (faC 0 k j) FaultT ∧ BoxAt ((wr.alloc (.cells (opC o) OpT)).setCell ⟨fb + 1, 2, none⟩ (.int .i64 j)) wr.heap.size (opC o) OpT from by
              have hF : Fr (fun i => i = fb + 1) (wr.alloc (.cells (opC o) OpT)) ((wr.alloc (.cells (opC o) OpT)).setCell ⟨fb + 1, 2, none⟩ (.int .i64 j)) := (Fr.refl (fun i => i = fb + 1) _).setCell (p := ⟨fb + 1, 2, none⟩) rfl _
              have hlt2 := HI2.out.lt
              have hfb : fb + 1 < wr.heap.size := HFB.out
              have hb3 := set_2 HFA.out (.int .i64 j)
              exact ⟨⟨HI2.out.lk.fr hF (by omega), HI2.out.bf.fr hF (by omega), hlt2, ⟨j, by rw [HEJ.out]; exact hb3⟩⟩, by rw [HE0.out] at hb3; exact hb3, HBO.out.fr hF (by omega)⟩)
            simp only [opC] at H3
            generalize (wr.alloc (.cells #[.int .u8 o.k, .int .i64 o.d, .int .i64 o.a, .int .i64 o.b, .int .i64 o.n] OpT)).setCell ⟨fb + 1, 2, none⟩ (.int .i64 j) = w3 at *
            have bp0 := H3.out.1.lk.bp.cell 0
            have bf0 := H3.out.1.bf.cell 0; have bf1 := H3.out.1.bf.cell 1; have bf2 := H3.out.1.bf.cell 2
            have bo0 := H3.out.2.2.cell 0; have bo1 := H3.out.2.2.cell 1; have bo2 := H3.out.2.2.cell 2; have bo3 := H3.out.2.2.cell 3; have bo4 := H3.out.2.2.cell 4
            simp only [fnC, List.getElem?_toArray, List.getElem?_cons_zero, List.getElem?_cons_succ] at bp0 bf0 bf1 bf2 bo0 bo1 bo2 bo3 bo4
            rw [he1] at bf2
            clear x0 x1 x2 y0 y1 y2 r0 r1 r2 z0 z1 z2 HBO HFA HR hne d2 g0 g1 g2 g3 g4
            go_wp2_with fail
            rw [← he1]
            refine (right_any (p := p) (f := f) (o := o) (B := w.heap.size) H3.out.2.1 (HP.out.below H3.out.1.lk.low) HP.out.low (by have := H3.out.1.lk.le; have := H3.out.1.lt; omega) HM.out HFJ.out).mono ?_
            rintro e w4 ⟨rfl, hFA, hFR⟩
            have hlt2 := H3.out.1.lt
            have HI4 := Lib.hid (show LkI w (.slice (some ⟨b, off, none⟩) p.length pc) p f s fb k (j + 1 : Nat) w4 from ⟨H3.out.1.lk.fr hFR (by omega), H3.out.1.bf.fr hFR (by omega), hlt2, ⟨j, by rw [HES.out (HEJ.out.trans HE0.out)]; exact hFA⟩⟩)
            clear hFA hFR H3 bp0 bf0 bf1 bf2 bo0 bo1 bo2 bo3 bo4
            go_wp2_with fail
            rw [← he1]
            clear he1
            go_roundg (gk - 1)
            case rel => exact ⟨j + 1, by omega, by go_num, HI4⟩
            case measure => omega
          · have hne : (ej != 0) = true := by simpa using he0
            have HE0 := Lib.hid he0
            clear he0
            go_wp2_with fail
            exact look_end (set3_box HR.out _ _ _) rfl (.mk ((HNE.out (by rw [HEJ.out]; exact HE0.out)).trans HEJ.out) (((HI2.out.lk.low.setCell (p := ⟨s + 1, 0, none⟩) (by have := HI2.out.lk.le; simp only []; omega) _).setCell (p := ⟨s + 1, 1, none⟩) (by have := HI2.out.lk.le; simp only []; omega) _).setCell (p := ⟨s + 1, 2, none⟩) (by have := HI2.out.lk.le; simp only []; omega) _))
        · have hje : j = f.ops.length := by omega
          have HEE := Lib.hid (show mustE (errK p f j) (endsP f) 113 = funE p f by rw [hje]; exact errK_end)
          clear hje HNE
          obtain ⟨n, hn⟩ : ∃ n, f.ops.length = n := ⟨_, rfl⟩
          cases n with
          | zero =>
            have hn0 : ¬ 0 < (f.ops.length : Int) := by omega
            have hn1 : decide (0 < (f.ops.length : Int)) = false := decide_eq_false hn0
            rw [endsP_nil hn] at HEE
            clear hn
            obtain ⟨op, hfa⟩ := HI.out.fa
            go_wp2_with fail
            refine (must_any hfa HEE.out).mono ?_
            rintro e wm ⟨rfl, hFA, hFR⟩
            have hlt2 := HI.out.lt
            have HW4 := Lib.hid (HI.out.lk.fr hFR (by omega))
            have HFA4 := Lib.hid hFA
            have x0 := hFA.cell 0; have x1 := hFA.cell 1; have x2 := hFA.cell 2
            have hr := HW4.out.br
            have r0 := hr.cell 0; have r1 := hr.cell 1; have r2 := hr.cell 2
            have z0 := hr.frozen 0; have z1 := hr.frozen 1; have z2 := hr.frozen 2
            simp only [faC, List.getElem?_toArray, List.getElem?_cons_zero, List.getElem?_cons_succ] at x0 x1 x2 r0 r1 r2
            have HR4 := Lib.hid hr
            clear hFA hFR hr HI
            obtain ⟨ee, hee⟩ : ∃ ee, funE p f = ee := ⟨_, rfl⟩
            rw [hee] at x0
            have HEEE := Lib.hid hee
            clear hee
            by_cases he0 : ee = 0
            · have hne : (ee != 0) = false := by simp [he0]
              have HE0 := Lib.hid he0
              clear he0
              go_wp2_with fail
              go_roundg (gkO - 1)
              case rel => exact ⟨k + 1, by omega, by go_num, HW4, HZ2.out (HEEE.out.trans HE0.out)⟩
              case measure => omega
            · have hne : (ee != 0) = true := by simpa using he0
              have HE0 := Lib.hid he0
              clear he0
              go_wp2_with fail
              exact look_end (set3_box HR4.out _ _ _) rfl (.mk ((HPG.out (by rw [HEEE.out]; exact HE0.out)).trans HEEE.out) (((HW4.out.low.setCell (p := ⟨s + 1, 0, none⟩) (by have := HW4.out.le; simp only []; omega) _).setCell (p := ⟨s + 1, 1, none⟩) (by have := HW4.out.le; simp only []; omega) _).setCell (p := ⟨s + 1, 2, none⟩) (by have := HW4.out.le; simp only []; omega) _))
          | succ n =>
            obtain ⟨b2, off2, c2', he, hb, hc⟩ := (HO.out.below HI.out.lk.low).1.at (by omega)
            injection he with he1 he2 he3
            obtain ⟨g0, _⟩ := op_at hc (show n < f.ops.length by omega)
            rw [endsP_last hn] at HEE
            have hn0 : 0 < (f.ops.length : Int) := by omega
            have hn1 : decide (0 < (f.ops.length : Int)) = true := decide_eq_true hn0
            rw [he1] at d2
            generalize f.ops[n].k = kk at *
            obtain ⟨op, hfa⟩ := HI.out.fa
            have HFA := Lib.hid hfa
            clear hc hb he2 he3 hfa
            have hnn : (f.ops.length : Int) - 1 = n := by omega
            cases h10 : (kk == 10) <;> cases h14 : (kk == 14)
            all_goals
              rw [h10, h14] at HEE
              go_wp2_with fail
              refine (must_any HFA.out HEE.out).mono ?_
              rintro e wm ⟨rfl, hFA, hFR⟩
              rw [← he1]
              clear h10 h14 he1 d2 g0 hnn
              have hlt2 := HI.out.lt
              have HW4 := Lib.hid (HI.out.lk.fr hFR (by omega))
              have HFA4 := Lib.hid hFA
              have x0 := hFA.cell 0; have x1 := hFA.cell 1; have x2 := hFA.cell 2
              have hr := HW4.out.br
              have r0 := hr.cell 0; have r1 := hr.cell 1; have r2 := hr.cell 2
              have z0 := hr.frozen 0; have z1 := hr.frozen 1; have z2 := hr.frozen 2
              simp only [faC, List.getElem?_toArray, List.getElem?_cons_zero, List.getElem?_cons_succ] at x0 x1 x2 r0 r1 r2
              have HR4 := Lib.hid hr
              clear hFA hFR hr HI
              obtain ⟨ee, hee⟩ : ∃ ee, funE p f = ee := ⟨_, rfl⟩
              rw [hee] at x0
              have HEEE := Lib.hid hee
              clear hee
              by_cases he0 : ee = 0
              · have hne : (ee != 0) = false := by simp [he0]
                have HE0 := Lib.hid he0
                clear he0
                go_wp2_with fail
                go_roundg (gkO - 1)
                case rel => exact ⟨k + 1, by omega, by go_num, HW4, HZ2.out (HEEE.out.trans HE0.out)⟩
                case measure => omega
              · have hne : (ee != 0) = true := by simpa using he0
                have HE0 := Lib.hid he0
                clear he0
                go_wp2_with fail
                exact look_end (set3_box HR4.out _ _ _) rfl (.mk ((HPG.out (by rw [HEEE.out]; exact HE0.out)).trans HEEE.out) (((HW4.out.low.setCell (p := ⟨s + 1, 0, none⟩) (by have := HW4.out.le; simp only []; omega) _).setCell (p := ⟨s + 1, 1, none⟩) (by have := HW4.out.le; simp only []; omega) _).setCell (p := ⟨s + 1, 2, none⟩) (by have := HW4.out.le; simp only []; omega) _))
    · have hkl : k = p.length := by omega
      have HPZ := Lib.hid (progE_zero H00.out HM.out (fun j hj => HZ.out j hj (by omega)))
      have hr := HW.out.br
      have r0 := hr.cell 0; have r1 := hr.cell 1; have r2 := hr.cell 2
      have z0 := hr.frozen 0; have z1 := hr.frozen 1; have z2 := hr.frozen 2
      simp only [faC, List.getElem?_toArray, List.getElem?_cons_zero, List.getElem?_cons_succ] at r0 r1 r2
      have HR := Lib.hid hr
      clear hr hkl HZ
      go_wp2_with fail
      exact look_end (set3_box HR.out _ _ _) rfl (.mk HPZ.out (((HW.out.low.setCell (p := ⟨s + 1, 0, none⟩) (by have := HW.out.le; simp only []; omega) _).setCell (p := ⟨s + 1, 1, none⟩) (by have := HW.out.le; simp only []; omega) _).setCell (p := ⟨s + 1, 2, none⟩) (by have := HW.out.le; simp only []; omega) _))
end Go.Proofs.YtdhbjejejeljoaaGreat
