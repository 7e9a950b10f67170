/- Contract: the document's op that can be run (thresherref11.op). (Printed by gen/genev19.py.) -/
import Derived.Test.YtdhbjejejeljoaaEv18
namespace Go.Proofs.Ytdhbjejejeljoaa
open Go.RowKit

theorem rop_start {pv : Value} {f : Fnc} {o : Opr} {w : World} {p : List Fnc} (_hp : ProgAt w pv p) :
    BoxAt (((w.alloc (.cells #[pv] 24)).alloc (.cells (fnC f) FnT)).alloc (.cells (opC o) OpT)) w.heap.size #[pv] 24 ∧ BoxAt (((w.alloc (.cells #[pv] 24)).alloc (.cells (fnC f) FnT)).alloc (.cells (opC o) OpT)) (w.heap.size + 1) (fnC f) FnT ∧
    BoxAt (((w.alloc (.cells #[pv] 24)).alloc (.cells (fnC f) FnT)).alloc (.cells (opC o) OpT)) (w.heap.size + 1 + 1) (opC o) OpT ∧ Below w.heap.size w (((w.alloc (.cells #[pv] 24)).alloc (.cells (fnC f) FnT)).alloc (.cells (opC o) OpT)) := by
  have h1 : Below w.heap.size w (w.alloc (.cells #[pv] 24)) := (Below.refl _ _).alloc (Nat.le_refl _) _
  have h2 : Below (w.alloc (.cells #[pv] 24)).heap.size _ ((w.alloc (.cells #[pv] 24)).alloc (.cells (fnC f) FnT)) := (Below.refl _ _).alloc (Nat.le_refl _) _
  have h3 : Below ((w.alloc (.cells #[pv] 24)).alloc (.cells (fnC f) FnT)).heap.size _ (((w.alloc (.cells #[pv] 24)).alloc (.cells (fnC f) FnT)).alloc (.cells (opC o) OpT)) := (Below.refl _ _).alloc (Nat.le_refl _) _
  have b1 : BoxAt (w.alloc (.cells #[pv] 24)) w.heap.size #[pv] 24 := heap_alloc_new _ _
  have b2 : BoxAt ((w.alloc (.cells #[pv] 24)).alloc (.cells (fnC f) FnT)) (w.heap.size + 1) (fnC f) FnT := by
    have := heap_alloc_new (w.alloc (.cells #[pv] 24)) (.cells (fnC f) FnT)
    rwa [show (w.alloc (.cells #[pv] 24)).heap.size = w.heap.size + 1 by simp] at this
  have b3 : BoxAt (((w.alloc (.cells #[pv] 24)).alloc (.cells (fnC f) FnT)).alloc (.cells (opC o) OpT)) (w.heap.size + 1 + 1) (opC o) OpT := by
    have := heap_alloc_new ((w.alloc (.cells #[pv] 24)).alloc (.cells (fnC f) FnT)) (.cells (opC o) OpT)
    rwa [show ((w.alloc (.cells #[pv] 24)).alloc (.cells (fnC f) FnT)).heap.size = w.heap.size + 1 + 1 by simp] at this
  exact ⟨(b1.below h2).below h3, b2.below h3, b3, gthen (gthen h1 h2) h3⟩
def BelowW (w0 w' : World) : Prop := Below w0.heap.size w0 w'
def RopP (w0 : World) (p : List Fnc) (f : Fnc) (o : Opr) (e : Ending) (w' : World) : Prop := e = .returned (.int .i64 (opE p f o)) ∧ Below w0.heap.size w0 w'

set_option maxHeartbeats 3200000 in
set_option maxRecDepth 100000 in
theorem rop11_set {pv : Value} {p : List Fnc} {f : Fnc} {o : Opr} {w : World} (hp : ProgAt w pv p) (hk : o.k = 1) :
    Calls Try.prog 61 #[.agg #[pv], .agg #[.int .i64 f.args, .int .i64 f.regs, .slice f.oa f.ops.length f.oc], .agg #[.int .u8 o.k, .int .i64 o.d, .int .i64 o.a, .int .i64 o.b, .int .i64 o.n]] w (RopP w p f o) := by
  obtain ⟨pa, pc, rfl⟩ := hp.fns.slice
  obtain ⟨s1, s2, s3, s4⟩ := rop_start hp (f := f) (o := o)
  have bp0 := s1.cell 0
  have bf0 := s2.cell 0; have bf1 := s2.cell 1; have bf2 := s2.cell 2
  obtain ⟨k0, k1, k2, k3, k4⟩ := op_cells s3
  have HF := Lib.hid (show BelowW w _ from s4)
  have HP := Lib.hid hp
  clear hp s1 s2 s3 s4
  simp only [fnC, List.getElem?_toArray, List.getElem?_cons_zero, List.getElem?_cons_succ] at bp0 bf0 bf1 bf2
  have HK := Lib.hid (show opE p f o = _ from opE_set hk)
  have HH := Lib.hid (show hasD o.k = true ∧ hasA o.k = false ∧ hasB o.k = false ∧ hasN o.k = true from by rw [hk]; exact ⟨rfl, rfl, rfl, rfl⟩)
  have g1 : 1 ≤ o.k := by omega
  have g2 : o.k ≤ 14 := by omega
  have b10 : (o.k == 10) = false := by simp [hk]
  have b11 : (o.k == 11) = false := by simp [hk]
  have b12 : (o.k == 12) = false := by simp [hk]
  clear hk
  go_enter Try.func61, Try.ntmps61
  go_upto_region 1 with fail
  simp only [fnC, opC] at HF bp0 bf0 bf1 bf2 k0 k1 k2 k3 k4
  generalize ((w.alloc (.cells #[.slice pa p.length pc] 24)).alloc (.cells #[.int .i64 f.args, .int .i64 f.regs, .slice f.oa f.ops.length f.oc] FnT)).alloc (.cells #[.int .u8 o.k, .int .i64 o.d, .int .i64 o.a, .int .i64 o.b, .int .i64 o.n] OpT) = w1 at *
  generalize w.heap.size = s at *
  go_wp2_with fail
  refine (rhas_any o.k _ g1 g2).mono ?_
  rintro e w' ⟨rfl, rfl⟩
  rw [HH.out.1, HH.out.2.1, HH.out.2.2.1, HH.out.2.2.2]
  by_cases nd : f.regs ≤ o.d
  · skip
    have md : decide (f.regs ≤ o.d) = true := decide_eq_true nd
    go_wp2_with fail
    go_ret
    exact ⟨ret_int (show _ = opE p f o by rw [HK.out, if_pos (by omega)]), HF.out⟩
  have md : decide (f.regs ≤ o.d) = false := decide_eq_false nd
  go_wp2_with fail
  go_ret
  exact ⟨ret_int (show _ = opE p f o by rw [HK.out, if_neg (by omega)]), HF.out⟩

set_option maxHeartbeats 3200000 in
set_option maxRecDepth 100000 in
theorem rop11_copy {pv : Value} {p : List Fnc} {f : Fnc} {o : Opr} {w : World} (hp : ProgAt w pv p) (hk : o.k = 2) :
    Calls Try.prog 61 #[.agg #[pv], .agg #[.int .i64 f.args, .int .i64 f.regs, .slice f.oa f.ops.length f.oc], .agg #[.int .u8 o.k, .int .i64 o.d, .int .i64 o.a, .int .i64 o.b, .int .i64 o.n]] w (RopP w p f o) := by
  obtain ⟨pa, pc, rfl⟩ := hp.fns.slice
  obtain ⟨s1, s2, s3, s4⟩ := rop_start hp (f := f) (o := o)
  have bp0 := s1.cell 0
  have bf0 := s2.cell 0; have bf1 := s2.cell 1; have bf2 := s2.cell 2
  obtain ⟨k0, k1, k2, k3, k4⟩ := op_cells s3
  have HF := Lib.hid (show BelowW w _ from s4)
  have HP := Lib.hid hp
  clear hp s1 s2 s3 s4
  simp only [fnC, List.getElem?_toArray, List.getElem?_cons_zero, List.getElem?_cons_succ] at bp0 bf0 bf1 bf2
  have HK := Lib.hid (show opE p f o = _ from opE_copy hk)
  have HH := Lib.hid (show hasD o.k = true ∧ hasA o.k = true ∧ hasB o.k = false ∧ hasN o.k = false from by rw [hk]; exact ⟨rfl, rfl, rfl, rfl⟩)
  have g1 : 1 ≤ o.k := by omega
  have g2 : o.k ≤ 14 := by omega
  have b10 : (o.k == 10) = false := by simp [hk]
  have b11 : (o.k == 11) = false := by simp [hk]
  have b12 : (o.k == 12) = false := by simp [hk]
  clear hk
  go_enter Try.func61, Try.ntmps61
  go_upto_region 1 with fail
  simp only [fnC, opC] at HF bp0 bf0 bf1 bf2 k0 k1 k2 k3 k4
  generalize ((w.alloc (.cells #[.slice pa p.length pc] 24)).alloc (.cells #[.int .i64 f.args, .int .i64 f.regs, .slice f.oa f.ops.length f.oc] FnT)).alloc (.cells #[.int .u8 o.k, .int .i64 o.d, .int .i64 o.a, .int .i64 o.b, .int .i64 o.n] OpT) = w1 at *
  generalize w.heap.size = s at *
  go_wp2_with fail
  refine (rhas_any o.k _ g1 g2).mono ?_
  rintro e w' ⟨rfl, rfl⟩
  rw [HH.out.1, HH.out.2.1, HH.out.2.2.1, HH.out.2.2.2]
  by_cases nd : f.regs ≤ o.d
  · skip
    have md : decide (f.regs ≤ o.d) = true := decide_eq_true nd
    go_wp2_with fail
    go_ret
    exact ⟨ret_int (show _ = opE p f o by rw [HK.out, if_pos (by omega)]), HF.out⟩
  have md : decide (f.regs ≤ o.d) = false := decide_eq_false nd
  by_cases na : f.regs ≤ o.a
  · skip
    have ma : decide (f.regs ≤ o.a) = true := decide_eq_true na
    go_wp2_with fail
    go_ret
    exact ⟨ret_int (show _ = opE p f o by rw [HK.out, if_pos (by omega)]), HF.out⟩
  have ma : decide (f.regs ≤ o.a) = false := decide_eq_false na
  go_wp2_with fail
  go_ret
  exact ⟨ret_int (show _ = opE p f o by rw [HK.out, if_neg (by omega)]), HF.out⟩

set_option maxHeartbeats 3200000 in
set_option maxRecDepth 100000 in
theorem rop11_ret {pv : Value} {p : List Fnc} {f : Fnc} {o : Opr} {w : World} (hp : ProgAt w pv p) (hk : o.k = 14) :
    Calls Try.prog 61 #[.agg #[pv], .agg #[.int .i64 f.args, .int .i64 f.regs, .slice f.oa f.ops.length f.oc], .agg #[.int .u8 o.k, .int .i64 o.d, .int .i64 o.a, .int .i64 o.b, .int .i64 o.n]] w (RopP w p f o) := by
  obtain ⟨pa, pc, rfl⟩ := hp.fns.slice
  obtain ⟨s1, s2, s3, s4⟩ := rop_start hp (f := f) (o := o)
  have bp0 := s1.cell 0
  have bf0 := s2.cell 0; have bf1 := s2.cell 1; have bf2 := s2.cell 2
  obtain ⟨k0, k1, k2, k3, k4⟩ := op_cells s3
  have HF := Lib.hid (show BelowW w _ from s4)
  have HP := Lib.hid hp
  clear hp s1 s2 s3 s4
  simp only [fnC, List.getElem?_toArray, List.getElem?_cons_zero, List.getElem?_cons_succ] at bp0 bf0 bf1 bf2
  have HK := Lib.hid (show opE p f o = _ from opE_ret hk)
  have HH := Lib.hid (show hasD o.k = false ∧ hasA o.k = true ∧ hasB o.k = false ∧ hasN o.k = false from by rw [hk]; exact ⟨rfl, rfl, rfl, rfl⟩)
  have g1 : 1 ≤ o.k := by omega
  have g2 : o.k ≤ 14 := by omega
  have b10 : (o.k == 10) = false := by simp [hk]
  have b11 : (o.k == 11) = false := by simp [hk]
  have b12 : (o.k == 12) = false := by simp [hk]
  clear hk
  go_enter Try.func61, Try.ntmps61
  go_upto_region 1 with fail
  simp only [fnC, opC] at HF bp0 bf0 bf1 bf2 k0 k1 k2 k3 k4
  generalize ((w.alloc (.cells #[.slice pa p.length pc] 24)).alloc (.cells #[.int .i64 f.args, .int .i64 f.regs, .slice f.oa f.ops.length f.oc] FnT)).alloc (.cells #[.int .u8 o.k, .int .i64 o.d, .int .i64 o.a, .int .i64 o.b, .int .i64 o.n] OpT) = w1 at *
  generalize w.heap.size = s at *
  go_wp2_with fail
  refine (rhas_any o.k _ g1 g2).mono ?_
  rintro e w' ⟨rfl, rfl⟩
  rw [HH.out.1, HH.out.2.1, HH.out.2.2.1, HH.out.2.2.2]
  by_cases na : f.regs ≤ o.a
  · skip
    have ma : decide (f.regs ≤ o.a) = true := decide_eq_true na
    go_wp2_with fail
    go_ret
    exact ⟨ret_int (show _ = opE p f o by rw [HK.out, if_pos (by omega)]), HF.out⟩
  have ma : decide (f.regs ≤ o.a) = false := decide_eq_false na
  go_wp2_with fail
  go_ret
  exact ⟨ret_int (show _ = opE p f o by rw [HK.out, if_neg (by omega)]), HF.out⟩

set_option maxHeartbeats 3200000 in
set_option maxRecDepth 100000 in
theorem rop11_join {pv : Value} {p : List Fnc} {f : Fnc} {o : Opr} {w : World} (hp : ProgAt w pv p) (hk : o.k = 13) :
    Calls Try.prog 61 #[.agg #[pv], .agg #[.int .i64 f.args, .int .i64 f.regs, .slice f.oa f.ops.length f.oc], .agg #[.int .u8 o.k, .int .i64 o.d, .int .i64 o.a, .int .i64 o.b, .int .i64 o.n]] w (RopP w p f o) := by
  obtain ⟨pa, pc, rfl⟩ := hp.fns.slice
  obtain ⟨s1, s2, s3, s4⟩ := rop_start hp (f := f) (o := o)
  have bp0 := s1.cell 0
  have bf0 := s2.cell 0; have bf1 := s2.cell 1; have bf2 := s2.cell 2
  obtain ⟨k0, k1, k2, k3, k4⟩ := op_cells s3
  have HF := Lib.hid (show BelowW w _ from s4)
  have HP := Lib.hid hp
  clear hp s1 s2 s3 s4
  simp only [fnC, List.getElem?_toArray, List.getElem?_cons_zero, List.getElem?_cons_succ] at bp0 bf0 bf1 bf2
  have HK := Lib.hid (show opE p f o = _ from opE_join hk)
  have HH := Lib.hid (show hasD o.k = false ∧ hasA o.k = false ∧ hasB o.k = false ∧ hasN o.k = false from by rw [hk]; exact ⟨rfl, rfl, rfl, rfl⟩)
  have g1 : 1 ≤ o.k := by omega
  have g2 : o.k ≤ 14 := by omega
  have b10 : (o.k == 10) = false := by simp [hk]
  have b11 : (o.k == 11) = false := by simp [hk]
  have b12 : (o.k == 12) = false := by simp [hk]
  clear hk
  go_enter Try.func61, Try.ntmps61
  go_upto_region 1 with fail
  simp only [fnC, opC] at HF bp0 bf0 bf1 bf2 k0 k1 k2 k3 k4
  generalize ((w.alloc (.cells #[.slice pa p.length pc] 24)).alloc (.cells #[.int .i64 f.args, .int .i64 f.regs, .slice f.oa f.ops.length f.oc] FnT)).alloc (.cells #[.int .u8 o.k, .int .i64 o.d, .int .i64 o.a, .int .i64 o.b, .int .i64 o.n] OpT) = w1 at *
  generalize w.heap.size = s at *
  go_wp2_with fail
  refine (rhas_any o.k _ g1 g2).mono ?_
  rintro e w' ⟨rfl, rfl⟩
  rw [HH.out.1, HH.out.2.1, HH.out.2.2.1, HH.out.2.2.2]
  go_wp2_with fail
  go_ret
  exact ⟨ret_int (show _ = opE p f o by rw [HK.out]), HF.out⟩

set_option maxHeartbeats 3200000 in
set_option maxRecDepth 100000 in
theorem rop11_calc {pv : Value} {p : List Fnc} {f : Fnc} {o : Opr} {w : World} (hp : ProgAt w pv p) (hk1 : 3 ≤ o.k) (hk2 : o.k ≤ 9) :
    Calls Try.prog 61 #[.agg #[pv], .agg #[.int .i64 f.args, .int .i64 f.regs, .slice f.oa f.ops.length f.oc], .agg #[.int .u8 o.k, .int .i64 o.d, .int .i64 o.a, .int .i64 o.b, .int .i64 o.n]] w (RopP w p f o) := by
  obtain ⟨pa, pc, rfl⟩ := hp.fns.slice
  obtain ⟨s1, s2, s3, s4⟩ := rop_start hp (f := f) (o := o)
  have bp0 := s1.cell 0
  have bf0 := s2.cell 0; have bf1 := s2.cell 1; have bf2 := s2.cell 2
  obtain ⟨k0, k1, k2, k3, k4⟩ := op_cells s3
  have HF := Lib.hid (show BelowW w _ from s4)
  have HP := Lib.hid hp
  clear hp s1 s2 s3 s4
  simp only [fnC, List.getElem?_toArray, List.getElem?_cons_zero, List.getElem?_cons_succ] at bp0 bf0 bf1 bf2
  have HK := Lib.hid (show opE p f o = _ from opE_calc hk1 hk2)
  have HH := Lib.hid (show hasD o.k = true ∧ hasA o.k = true ∧ hasB o.k = true ∧ hasN o.k = false from by
    have : o.k = 3 ∨ o.k = 4 ∨ o.k = 5 ∨ o.k = 6 ∨ o.k = 7 ∨ o.k = 8 ∨ o.k = 9 := by omega
    rcases this with h | h | h | h | h | h | h <;> rw [h] <;> exact ⟨rfl, rfl, rfl, rfl⟩)
  have g1 : 1 ≤ o.k := by omega
  have g2 : o.k ≤ 14 := by omega
  have b10 : (o.k == 10) = false := by simp; omega
  have b11 : (o.k == 11) = false := by simp; omega
  have b12 : (o.k == 12) = false := by simp; omega
  clear hk1 hk2
  go_enter Try.func61, Try.ntmps61
  go_upto_region 1 with fail
  simp only [fnC, opC] at HF bp0 bf0 bf1 bf2 k0 k1 k2 k3 k4
  generalize ((w.alloc (.cells #[.slice pa p.length pc] 24)).alloc (.cells #[.int .i64 f.args, .int .i64 f.regs, .slice f.oa f.ops.length f.oc] FnT)).alloc (.cells #[.int .u8 o.k, .int .i64 o.d, .int .i64 o.a, .int .i64 o.b, .int .i64 o.n] OpT) = w1 at *
  generalize w.heap.size = s at *
  go_wp2_with fail
  refine (rhas_any o.k _ g1 g2).mono ?_
  rintro e w' ⟨rfl, rfl⟩
  rw [HH.out.1, HH.out.2.1, HH.out.2.2.1, HH.out.2.2.2]
  by_cases nd : f.regs ≤ o.d
  · skip
    have md : decide (f.regs ≤ o.d) = true := decide_eq_true nd
    go_wp2_with fail
    go_ret
    exact ⟨ret_int (show _ = opE p f o by rw [HK.out, if_pos (by omega)]), HF.out⟩
  have md : decide (f.regs ≤ o.d) = false := decide_eq_false nd
  by_cases na : f.regs ≤ o.a
  · skip
    have ma : decide (f.regs ≤ o.a) = true := decide_eq_true na
    go_wp2_with fail
    go_ret
    exact ⟨ret_int (show _ = opE p f o by rw [HK.out, if_pos (by omega)]), HF.out⟩
  have ma : decide (f.regs ≤ o.a) = false := decide_eq_false na
  by_cases nb : f.regs ≤ o.b
  · skip
    have mb : decide (f.regs ≤ o.b) = true := decide_eq_true nb
    go_wp2_with fail
    go_ret
    exact ⟨ret_int (show _ = opE p f o by rw [HK.out, if_pos (by omega)]), HF.out⟩
  have mb : decide (f.regs ≤ o.b) = false := decide_eq_false nb
  go_wp2_with fail
  go_ret
  exact ⟨ret_int (show _ = opE p f o by rw [HK.out, if_neg (by omega)]), HF.out⟩

set_option maxHeartbeats 3200000 in
set_option maxRecDepth 100000 in
theorem rop11_go {pv : Value} {p : List Fnc} {f : Fnc} {o : Opr} {w : World} (hp : ProgAt w pv p) (hk : o.k = 10) :
    Calls Try.prog 61 #[.agg #[pv], .agg #[.int .i64 f.args, .int .i64 f.regs, .slice f.oa f.ops.length f.oc], .agg #[.int .u8 o.k, .int .i64 o.d, .int .i64 o.a, .int .i64 o.b, .int .i64 o.n]] w (RopP w p f o) := by
  obtain ⟨pa, pc, rfl⟩ := hp.fns.slice
  obtain ⟨s1, s2, s3, s4⟩ := rop_start hp (f := f) (o := o)
  have bp0 := s1.cell 0
  have bf0 := s2.cell 0; have bf1 := s2.cell 1; have bf2 := s2.cell 2
  obtain ⟨k0, k1, k2, k3, k4⟩ := op_cells s3
  have HF := Lib.hid (show BelowW w _ from s4)
  have HP := Lib.hid hp
  clear hp s1 s2 s3 s4
  simp only [fnC, List.getElem?_toArray, List.getElem?_cons_zero, List.getElem?_cons_succ] at bp0 bf0 bf1 bf2
  have HK := Lib.hid (show opE p f o = _ from opE_go hk)
  have HH := Lib.hid (show hasD o.k = false ∧ hasA o.k = false ∧ hasB o.k = false ∧ hasN o.k = true from by rw [hk]; exact ⟨rfl, rfl, rfl, rfl⟩)
  have g1 : 1 ≤ o.k := by omega
  have g2 : o.k ≤ 14 := by omega
  have b10 : (o.k == 10) = true := by simp [hk]
  have b11 : (o.k == 11) = false := by simp [hk]
  have b12 : (o.k == 12) = false := by simp [hk]
  clear hk
  go_enter Try.func61, Try.ntmps61
  go_upto_region 1 with fail
  simp only [fnC, opC] at HF bp0 bf0 bf1 bf2 k0 k1 k2 k3 k4
  generalize ((w.alloc (.cells #[.slice pa p.length pc] 24)).alloc (.cells #[.int .i64 f.args, .int .i64 f.regs, .slice f.oa f.ops.length f.oc] FnT)).alloc (.cells #[.int .u8 o.k, .int .i64 o.d, .int .i64 o.a, .int .i64 o.b, .int .i64 o.n] OpT) = w1 at *
  generalize w.heap.size = s at *
  go_wp2_with fail
  refine (rhas_any o.k _ g1 g2).mono ?_
  rintro e w' ⟨rfl, rfl⟩
  rw [HH.out.1, HH.out.2.1, HH.out.2.2.1, HH.out.2.2.2]
  by_cases t0 : o.n < 0
  · have t1 : decide (o.n < 0) = true := decide_eq_true t0
    go_wp2_with fail
    go_ret
    exact ⟨ret_int (show _ = opE p f o by rw [HK.out, if_pos (by omega)]), HF.out⟩
  have t1 : decide (o.n < 0) = false := decide_eq_false t0
  by_cases t2 : (f.ops.length : Int) ≤ o.n
  · have t3 : decide ((f.ops.length : Int) ≤ o.n) = true := decide_eq_true t2
    go_wp2_with fail
    go_ret
    exact ⟨ret_int (show _ = opE p f o by rw [HK.out, if_pos (by omega)]), HF.out⟩
  have t3 : decide ((f.ops.length : Int) ≤ o.n) = false := decide_eq_false t2
  go_wp2_with fail
  go_ret
  exact ⟨ret_int (show _ = opE p f o by rw [HK.out, if_neg (by omega)]), HF.out⟩

set_option maxHeartbeats 3200000 in
set_option maxRecDepth 100000 in
theorem rop11_if {pv : Value} {p : List Fnc} {f : Fnc} {o : Opr} {w : World} (hp : ProgAt w pv p) (hk : o.k = 11) :
    Calls Try.prog 61 #[.agg #[pv], .agg #[.int .i64 f.args, .int .i64 f.regs, .slice f.oa f.ops.length f.oc], .agg #[.int .u8 o.k, .int .i64 o.d, .int .i64 o.a, .int .i64 o.b, .int .i64 o.n]] w (RopP w p f o) := by
  obtain ⟨pa, pc, rfl⟩ := hp.fns.slice
  obtain ⟨s1, s2, s3, s4⟩ := rop_start hp (f := f) (o := o)
  have bp0 := s1.cell 0
  have bf0 := s2.cell 0; have bf1 := s2.cell 1; have bf2 := s2.cell 2
  obtain ⟨k0, k1, k2, k3, k4⟩ := op_cells s3
  have HF := Lib.hid (show BelowW w _ from s4)
  have HP := Lib.hid hp
  clear hp s1 s2 s3 s4
  simp only [fnC, List.getElem?_toArray, List.getElem?_cons_zero, List.getElem?_cons_succ] at bp0 bf0 bf1 bf2
  have HK := Lib.hid (show opE p f o = _ from opE_if hk)
  have HH := Lib.hid (show hasD o.k = false ∧ hasA o.k = true ∧ hasB o.k = false ∧ hasN o.k = true from by rw [hk]; exact ⟨rfl, rfl, rfl, rfl⟩)
  have g1 : 1 ≤ o.k := by omega
  have g2 : o.k ≤ 14 := by omega
  have b10 : (o.k == 10) = false := by simp [hk]
  have b11 : (o.k == 11) = true := by simp [hk]
  have b12 : (o.k == 12) = false := by simp [hk]
  clear hk
  go_enter Try.func61, Try.ntmps61
  go_upto_region 1 with fail
  simp only [fnC, opC] at HF bp0 bf0 bf1 bf2 k0 k1 k2 k3 k4
  generalize ((w.alloc (.cells #[.slice pa p.length pc] 24)).alloc (.cells #[.int .i64 f.args, .int .i64 f.regs, .slice f.oa f.ops.length f.oc] FnT)).alloc (.cells #[.int .u8 o.k, .int .i64 o.d, .int .i64 o.a, .int .i64 o.b, .int .i64 o.n] OpT) = w1 at *
  generalize w.heap.size = s at *
  go_wp2_with fail
  refine (rhas_any o.k _ g1 g2).mono ?_
  rintro e w' ⟨rfl, rfl⟩
  rw [HH.out.1, HH.out.2.1, HH.out.2.2.1, HH.out.2.2.2]
  by_cases na : f.regs ≤ o.a
  · skip
    have ma : decide (f.regs ≤ o.a) = true := decide_eq_true na
    go_wp2_with fail
    go_ret
    exact ⟨ret_int (show _ = opE p f o by rw [HK.out, if_pos (by omega)]), HF.out⟩
  have ma : decide (f.regs ≤ o.a) = false := decide_eq_false na
  by_cases t0 : o.n < 0
  · have t1 : decide (o.n < 0) = true := decide_eq_true t0
    go_wp2_with fail
    go_ret
    exact ⟨ret_int (show _ = opE p f o by rw [HK.out, if_neg (by omega), if_pos (by omega)]), HF.out⟩
  have t1 : decide (o.n < 0) = false := decide_eq_false t0
  by_cases t2 : (f.ops.length : Int) ≤ o.n
  · have t3 : decide ((f.ops.length : Int) ≤ o.n) = true := decide_eq_true t2
    go_wp2_with fail
    go_ret
    exact ⟨ret_int (show _ = opE p f o by rw [HK.out, if_neg (by omega), if_pos (by omega)]), HF.out⟩
  have t3 : decide ((f.ops.length : Int) ≤ o.n) = false := decide_eq_false t2
  go_wp2_with fail
  go_ret
  exact ⟨ret_int (show _ = opE p f o by rw [HK.out, if_neg (by omega), if_neg (by omega)]), HF.out⟩

set_option maxHeartbeats 3200000 in
set_option maxRecDepth 100000 in
theorem rop11_fork {pv : Value} {p : List Fnc} {f : Fnc} {o : Opr} {w : World} (hp : ProgAt w pv p) (hk : o.k = 12) (ha0 : 0 ≤ o.a) (ha1 : o.a ≤ 16) (hargs : ∀ f ∈ p, 0 ≤ f.args ∧ f.args ≤ 16) :
    Calls Try.prog 61 #[.agg #[pv], .agg #[.int .i64 f.args, .int .i64 f.regs, .slice f.oa f.ops.length f.oc], .agg #[.int .u8 o.k, .int .i64 o.d, .int .i64 o.a, .int .i64 o.b, .int .i64 o.n]] w (RopP w p f o) := by
  obtain ⟨pa, pc, rfl⟩ := hp.fns.slice
  obtain ⟨s1, s2, s3, s4⟩ := rop_start hp (f := f) (o := o)
  have bp0 := s1.cell 0
  have bf0 := s2.cell 0; have bf1 := s2.cell 1; have bf2 := s2.cell 2
  obtain ⟨k0, k1, k2, k3, k4⟩ := op_cells s3
  have HF := Lib.hid (show BelowW w _ from s4)
  have HP := Lib.hid hp
  clear hp s1 s2 s3 s4
  simp only [fnC, List.getElem?_toArray, List.getElem?_cons_zero, List.getElem?_cons_succ] at bp0 bf0 bf1 bf2
  have HK := Lib.hid (show opE p f o = _ from opE_fork hk)
  have HH := Lib.hid (show hasD o.k = true ∧ hasA o.k = true ∧ hasB o.k = false ∧ hasN o.k = true from by rw [hk]; exact ⟨rfl, rfl, rfl, rfl⟩)
  have g1 : 1 ≤ o.k := by omega
  have g2 : o.k ≤ 14 := by omega
  have b10 : (o.k == 10) = false := by simp [hk]
  have b11 : (o.k == 11) = false := by simp [hk]
  have b12 : (o.k == 12) = true := by simp [hk]
  clear hk
  go_enter Try.func61, Try.ntmps61
  go_upto_region 1 with fail
  simp only [fnC, opC] at HF bp0 bf0 bf1 bf2 k0 k1 k2 k3 k4
  generalize ((w.alloc (.cells #[.slice pa p.length pc] 24)).alloc (.cells #[.int .i64 f.args, .int .i64 f.regs, .slice f.oa f.ops.length f.oc] FnT)).alloc (.cells #[.int .u8 o.k, .int .i64 o.d, .int .i64 o.a, .int .i64 o.b, .int .i64 o.n] OpT) = w1 at *
  generalize w.heap.size = s at *
  go_wp2_with fail
  refine (rhas_any o.k _ g1 g2).mono ?_
  rintro e w' ⟨rfl, rfl⟩
  rw [HH.out.1, HH.out.2.1, HH.out.2.2.1, HH.out.2.2.2]
  by_cases nd : f.regs ≤ o.d
  · skip
    have md : decide (f.regs ≤ o.d) = true := decide_eq_true nd
    go_wp2_with fail
    go_ret
    exact ⟨ret_int (show _ = opE p f o by rw [HK.out, if_pos (by omega)]), HF.out⟩
  have md : decide (f.regs ≤ o.d) = false := decide_eq_false nd
  by_cases t0 : o.n < 0
  · have t1 : decide (o.n < 0) = true := decide_eq_true t0
    go_wp2_with fail
    go_ret
    exact ⟨ret_int (show _ = opE p f o by rw [HK.out, if_neg (by omega), if_pos (by omega)]), HF.out⟩
  have t1 : decide (o.n < 0) = false := decide_eq_false t0
  by_cases t2 : (p.length : Int) ≤ o.n
  · have t3 : decide ((p.length : Int) ≤ o.n) = true := decide_eq_true t2
    go_wp2_with fail
    go_ret
    exact ⟨ret_int (show _ = opE p f o by rw [HK.out, if_neg (by omega), if_pos (by omega)]), HF.out⟩
  have t3 : decide ((p.length : Int) ≤ o.n) = false := decide_eq_false t2
  obtain ⟨j, hj⟩ : ∃ j : Nat, o.n = j := ⟨o.n.toNat, by omega⟩
  have hjl : j < p.length := by omega
  obtain ⟨b, off, c, he, hb, hc⟩ := (HP.out.below HF.out).fns.at (by omega)
  injection he with he1 he2 he3
  subst he1
  have g0 := (fn_at hc hjl).1
  have hm := hargs _ (List.getElem_mem hjl)
  have HK2 := Lib.hid (show opE p f o = if 0 < p[j].args ∧ f.regs < o.a + p[j].args then 111 else 0 by
    rw [HK.out, if_neg (by omega), if_neg (by omega)]
    have e1 : fnAt p o.n = p[j] := by
      unfold fnAt
      rw [hj, List.getD_eq_getElem?_getD, Int.toNat_natCast, List.getElem?_eq_getElem hjl]; rfl
    rw [e1])
  have t5 : ¬ (j : Int) < 0 := by omega
  have t6 : decide ((j : Int) < 0) = false := decide_eq_false t5
  have t7 : ¬ (p.length : Int) ≤ (j : Int) := by omega
  have t8 : decide ((p.length : Int) ≤ (j : Int)) = false := decide_eq_false t7
  rw [hj] at k4
  clear hc hb he2 he3 hj HK t0 t1 t2 t3
  generalize p[j].args = m at *
  by_cases hm0 : 0 < m
  · have u1 : decide (0 < m) = true := decide_eq_true hm0
    by_cases hm1 : f.regs < o.a + m
    · have u2 : decide (f.regs < o.a + m) = true := decide_eq_true hm1
      go_wp2_with fail
      go_ret
      exact ⟨ret_int (show _ = opE p f o by rw [HK2.out, if_pos (by omega)]), HF.out⟩
    · have u2 : decide (f.regs < o.a + m) = false := decide_eq_false hm1
      go_wp2_with fail
      go_ret
      exact ⟨ret_int (show _ = opE p f o by rw [HK2.out, if_neg (by omega)]), HF.out⟩
  · have u1 : decide (0 < m) = false := decide_eq_false hm0
    go_wp2_with fail
    go_ret
    exact ⟨ret_int (show _ = opE p f o by rw [HK2.out, if_neg (by omega)]), HF.out⟩

theorem rop11_any {pv : Value} {p : List Fnc} {f : Fnc} {o : Opr} {w : World} (hp : ProgAt w pv p) (hm : mayP p = true) (ho : formedP o = true) :
    Calls Try.prog 61 #[.agg #[pv], .agg #[.int .i64 f.args, .int .i64 f.regs, .slice f.oa f.ops.length f.oc], .agg #[.int .u8 o.k, .int .i64 o.d, .int .i64 o.a, .int .i64 o.b, .int .i64 o.n]] w (RopP w p f o) := by
  have hargs : ∀ f ∈ p, 0 ≤ f.args ∧ f.args ≤ 16 := fun g hg => by
    have := (hf_ops hm hg).2.2; omega
  unfold formedP regP at ho
  simp only [Bool.and_eq_true, Bool.or_eq_true, decide_eq_true_eq] at ho
  obtain ⟨⟨⟨⟨⟨⟨h1, h2⟩, ⟨_, ha⟩, _⟩, _⟩, _⟩, _⟩, _⟩ := ho
  by_cases k12 : o.k = 12
  · exact rop11_fork hp k12 ha.1 ha.2 hargs
  by_cases k10 : o.k = 10
  · exact rop11_go hp k10
  by_cases k11 : o.k = 11
  · exact rop11_if hp k11
  by_cases k1 : o.k = 1
  · exact rop11_set hp k1
  by_cases k2 : o.k = 2
  · exact rop11_copy hp k2
  by_cases k14 : o.k = 14
  · exact rop11_ret hp k14
  by_cases k13 : o.k = 13
  · exact rop11_join hp k13
  · exact rop11_calc hp (by omega) (by omega)
end Go.Proofs.Ytdhbjejejeljoaa
