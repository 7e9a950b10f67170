/- Contract: thresherref13.Run.op. (Printed by gen/genev24.py.) -/
import Derived.Test.YtdhbjejejeljoaaEv23
import Derived.Test.YtdhbjejejeljoaaEv11
namespace Go.Proofs.Ytdhbjejejeljoaa
open Go.RowKit Go.Sort Go.Lib

theorem rcalc_none {k a b : Int} (w : World) (h1 : 2 ≤ k) (h2 : k ≤ 9) (h : calcP k a b = none) : Calls Try.prog 77 #[.int .u8 k, .int .i64 a, .int .i64 b] w fun e w' => e = .returned (.tuple #[.int .i64 0, .bool false]) ∧ ∃ n, w' = w.drewN n :=
  (rcalc_any k a b w h1 h2).mono fun e w' hh => by
    obtain ⟨hw, he⟩ := hh
    rw [h] at he
    exact ⟨he, hw⟩
theorem rcalc_some {k a b x : Int} (w : World) (h1 : 2 ≤ k) (h2 : k ≤ 9) (h : calcP k a b = some x) : Calls Try.prog 77 #[.int .u8 k, .int .i64 a, .int .i64 b] w fun e w' => e = .returned (.tuple #[.int .i64 x, .bool true]) ∧ ∃ n, w' = w.drewN n :=
  (rcalc_any k a b w h1 h2).mono fun e w' hh => by
    obtain ⟨hw, he⟩ := hh
    rw [h] at he
    exact ⟨he, hw⟩
theorem calcP_copy (a b c : Int) : calcP 2 a b = calcP 2 a c := rfl
def RopX (w0 : World) (Z q r : Nat) (pv : Value) (t : Tk) (av : Value) (f : Nat) (iv dv : Value) (I : List Int) (nd : List DnA) (s : St) (o : Opr) (w : World) (e : Ending) (w' : World) : Prop :=
  e = .returned (.int .i64 (opR s o).1) ∧ Ru w0 Z q r pv t av f iv dv I nd (opR s o).2 w' ∧ Fr (fun i => i = q ∨ i = r) w w'
theorem opR_set {s : St} {o : Opr} (h : o.k = 1) : opR s o = (0, { s with pc := s.pc + 1, regs := s.regs.set o.d.toNat o.n }) := by unfold opR; simp [h]
theorem opR_go {s : St} {o : Opr} (h : o.k = 10) : opR s o = (0, { s with pc := o.n }) := by unfold opR; simp [h]
theorem opR_if {s : St} {o : Opr} (h : o.k = 11) : opR s o = (0, if rg s.regs o.a = 0 then { s with pc := s.pc + 1 } else { s with pc := o.n }) := by unfold opR; simp [h]
theorem opR_zero {s : St} {o : Opr} (h1 : 2 ≤ o.k) (h2 : o.k ≤ 9) (h : calcP o.k (rg s.regs o.a) (rg s.regs o.b) = none) : opR s o = (131, { s with pc := s.pc + 1 }) := by
  unfold opR
  simp only []
  rw [if_neg (by omega), if_neg (by omega), if_neg (by omega), h]
theorem opR_calc {s : St} {o : Opr} {v : Int} (h1 : 2 ≤ o.k) (h2 : o.k ≤ 9) (h : calcP o.k (rg s.regs o.a) (rg s.regs o.b) = some v) : opR s o = (0, { s with pc := s.pc + 1, regs := s.regs.set o.d.toNat v }) := by
  unfold opR
  simp only []
  rw [if_neg (by omega), if_neg (by omega), if_neg (by omega), h]
set_option maxHeartbeats 6400000 in
set_option maxRecDepth 100000 in
theorem ropx_any {w0 : World} {Z q r : Nat} {pv : Value} {t : Tk} {av : Value} {f : Nat} {iv dv : Value} {I : List Int} {nd : List DnA} {s : St} {w : World} {p : List Fnc} {o : Opr}
    (h : Ru w0 Z q r pv t av f iv dv I nd s w) (hrl : (s.regs.length : Int) = (fnAt p t.fn).regs) (hpc0 : 0 ≤ s.pc) (hpc1 : s.pc ≤ 63) (ho : OpOk p (fnAt p t.fn) o) (n12 : o.k ≠ 12) (n13 : o.k ≠ 13) (n14 : o.k ≠ 14) :
    Calls Try.prog 64 #[.pointer (some ⟨q, 0, none⟩), .agg #[.int .u8 o.k, .int .i64 o.d, .int .i64 o.a, .int .i64 o.b, .int .i64 o.n]] w (RopX w0 Z q r pv t av f iv dv I nd s o w) := by
  have hA : Below w.heap.size w (w.alloc (.cells (opC o) OpT)) := (Below.refl _ _).alloc (Nat.le_refl _) _
  have hb : BoxAt (w.alloc (.cells (opC o) OpT)) w.heap.size (opC o) OpT := heap_alloc_new _ _
  have H := Lib.hid (h.below hA)
  have HB := Lib.hid hb
  have HFA := Lib.hid (show Fr (fun i => i = q ∨ i = r) w (w.alloc (.cells (opC o) OpT)) from .of_below hA)
  clear h hA hb
  go_enter Try.func64, Try.ntmps64
  go_upto_region 1 with fail
  simp only [opC] at H HB HFA
  generalize w.alloc (.cells #[.int .u8 o.k, .int .i64 o.d, .int .i64 o.a, .int .i64 o.b, .int .i64 o.n] OpT) = w1 at *
  generalize w.heap.size = ob at *
  obtain ⟨x0, x1, x2, x5, x6, x7, x8, x9, x10, x11⟩ := ru_cells H.out
  have f6 := H.out.box.frozen 6
  go_upto_region 2 with fail
  have H2 := Lib.hid (show (Ru w0 Z q r pv t av f iv dv I nd { s with pc := s.pc + 1 } (w1.setCell ⟨q, 6, none⟩ (.int .i64 (s.pc + 1))) ∧ BoxAt (w1.setCell ⟨q, 6, none⟩ (.int .i64 (s.pc + 1))) ob (opC o) OpT) ∧ Fr (fun i => i = q ∨ i = r) w (w1.setCell ⟨q, 6, none⟩ (.int .i64 (s.pc + 1))) from by
    have hF : Fr (fun i => i = q) w1 (w1.setCell ⟨q, 6, none⟩ (.int .i64 (s.pc + 1))) := (Fr.refl (fun i => i = q) w1).setCell (p := ⟨q, 6, none⟩) rfl _
    have hb : BoxAt (w1.setCell ⟨q, 6, none⟩ (.int .i64 (s.pc + 1))) q (ruC pv t av r f { s with pc := s.pc + 1 } iv dv) RunT := Go.heap_setCell_same w1 q 6 _ _ _ H.out.box
    exact ⟨⟨H.out.boxX hF hb rfl rfl H.out.ik H.out.ifr, box_typed HB.out hF (typed_box H.out.box) (by decide)⟩, HFA.out.trans (hF.mono fun i hi => .inl hi)⟩)
  generalize w1.setCell ⟨q, 6, none⟩ (.int .i64 (s.pc + 1)) = w2 at *
  clear H HB HFA x0 x1 x2 x5 x6 x7 x8 x9 x10 x11 f6
  have hd0 := ho.d0
  have ha0 := ho.a0
  have hb0 := ho.b0
  obtain ⟨x0, x1, x2, x5, x6, x7, x8, x9, x10, x11⟩ := ru_cells H2.out.1.1
  obtain ⟨k0, k1, k2, k3, k4⟩ := op_cells H2.out.1.2
  have f6 := H2.out.1.1.box.frozen 6
  by_cases e1 : o.k = 1
  · have b1 : (o.k == 1) = true := by simp [e1]
    have HE := Lib.hid (opR_set (s := s) e1)
    have hdr := ho.d (.inl (by omega))
    obtain ⟨j, hq⟩ : ∃ j : Nat, o.d = j := ⟨o.d.toNat, by omega⟩
    have hq1 : j < s.regs.length := by omega
    have hq2 : (j : Int) < s.regs.length := by omega
    have hq0 : (0 : Int) ≤ j := by omega
    rw [hq] at k1
    have HQ := Lib.hid (show o.d.toNat = j by omega)
    have g0 := regs_cell H2.out.1.1.regs (q := j) hq1
    have g1 := H2.out.1.1.regs.frozen j
    simp only [] at g0
    clear e1 hq hrl hdr n12 n13 n14
    go_upto_region 11 with fail
    go_still_tail 9, (by kernel_rfl)
    change wpList _ _ _ _ _ w2.drew
    go_wp2_with fail
    go_ret
    have hF : Fr (fun i => i = r) w2 (w2.setCell ⟨r, j, none⟩ (.int .i64 o.n)) := (Fr.refl (fun i => i = r) w2).setCell (p := ⟨r, j, none⟩) rfl _
    have h1 := H2.out.1.1.regsX hF (set_box H2.out.1.1.regs o.n) (by simp)
    refine ⟨ret_int (by rw [HE.out]), ?_, (H2.out.2.trans (hF.mono fun i hi => .inr hi)).drew⟩
    rw [HE.out, HQ.out]
    exact h1.below (Below.refl _ _).drew
  have b1 : (o.k == 1) = false := by simp [e1]
  by_cases e10 : o.k = 10
  · have b10 : (o.k == 10) = true := by simp [e10]
    have HE := Lib.hid (opR_go (s := s) e10)
    clear e1 e10 n12 n13 n14
    go_wp2_with fail
    go_ret
    have hF : Fr (fun i => i = q) w2 (w2.setCell ⟨q, 6, none⟩ (.int .i64 o.n)) := (Fr.refl (fun i => i = q) w2).setCell (p := ⟨q, 6, none⟩) rfl _
    refine ⟨ret_int (by rw [HE.out]), ?_, H2.out.2.trans (hF.mono fun i hi => .inl hi)⟩
    rw [HE.out]
    exact H2.out.1.1.boxX (s' := { s with pc := o.n }) hF (Go.heap_setCell_same w2 q 6 _ _ _ H2.out.1.1.box) rfl rfl H2.out.1.1.ik H2.out.1.1.ifr
  have b10 : (o.k == 10) = false := by simp [e10]
  by_cases e11 : o.k = 11
  · have b11 : (o.k == 11) = true := by simp [e11]
    have HE := Lib.hid (opR_if (s := s) e11)
    have har := ho.a (.inr (.inl e11))
    obtain ⟨j, hq⟩ : ∃ j : Nat, o.a = j := ⟨o.a.toNat, by omega⟩
    have hq1 : j < s.regs.length := by omega
    have hq2 : (j : Int) < s.regs.length := by omega
    have hq0 : (0 : Int) ≤ j := by omega
    rw [hq] at k2
    have g0 := regs_cell H2.out.1.1.regs (q := j) hq1
    simp only [] at g0
    have HG := Lib.hid (show rg s.regs o.a = s.regs[j] from by
      unfold rg
      rw [hq, List.getD_eq_getElem?_getD, Int.toNat_natCast, List.getElem?_eq_getElem hq1]; rfl)
    clear e1 e10 e11 hq hrl har n12 n13 n14
    generalize s.regs[j] = v at *
    by_cases hv : v = 0
    · have hv1 : (v != 0) = false := by simp [hv]
      have HV := Lib.hid hv
      clear hv
      go_upto_region 15 with fail
      go_quiet (fail)
      clear x0 x1 x2 x5 x6 x7 x8 x9 x10 x11 k0 k1 k2 k3 k4 f6 g0
      go_wp2_with fail
      go_ret
      refine ⟨ret_int (by rw [HE.out]), ?_, H2.out.2.drewN _⟩
      rw [HE.out, HG.out]
      simp only []
      rw [if_pos HV.out]
      exact H2.out.1.1.below (below_drewN (Below.refl _ _) _)
    · have hv1 : (v != 0) = true := by simpa using hv
      have HV := Lib.hid hv
      clear hv
      go_upto_region 15 with fail
      go_quiet (fail)
      have HB3 := Lib.hid (show Ru w0 Z q r pv t av f iv dv I nd { s with pc := s.pc + 1 } (w2.drewN nq) ∧ BoxAt (w2.drewN nq) ob (opC o) OpT from ⟨H2.out.1.1.below (below_drewN (Below.refl _ _) _), H2.out.1.2.below (below_drewN (Below.refl _ _) _)⟩)
      have HF3 := Lib.hid (H2.out.2.drewN nq)
      generalize w2.drewN nq = w3 at *
      clear x0 x1 x2 x5 x6 x7 x8 x9 x10 x11 k0 k1 k2 k3 k4 f6 g0
      obtain ⟨x0, x1, x2, x5, x6, x7, x8, x9, x10, x11⟩ := ru_cells HB3.out.1
      obtain ⟨k0, k1, k2, k3, k4⟩ := op_cells HB3.out.2
      have f6 := HB3.out.1.box.frozen 6
      go_wp2_with fail
      go_ret
      have hF : Fr (fun i => i = q) w3 (w3.setCell ⟨q, 6, none⟩ (.int .i64 o.n)) := (Fr.refl (fun i => i = q) w3).setCell (p := ⟨q, 6, none⟩) rfl _
      refine ⟨ret_int (by rw [HE.out]), ?_, HF3.out.trans (hF.mono fun i hi => .inl hi)⟩
      rw [HE.out, HG.out]
      simp only []
      rw [if_neg HV.out]
      exact HB3.out.1.boxX (s' := { s with pc := o.n }) hF (Go.heap_setCell_same w3 q 6 _ _ _ HB3.out.1.box) rfl rfl HB3.out.1.ik HB3.out.1.ifr
  have b11 : (o.k == 11) = false := by simp [e11]
  have hk1 := ho.k1
  have hk2 := ho.k2
  have hk3 : 2 ≤ o.k := by omega
  have hk9 : o.k ≤ 9 := by omega
  have hdr := ho.d (.inl (by omega))
  have har := ho.a (.inl ⟨hk3, hk9⟩)
  have hbr : o.b < (fnAt p t.fn).regs := by
    by_cases e2 : o.k = 2
    · have := ho.b2 e2; omega
    · exact ho.b ⟨by omega, hk9⟩
  obtain ⟨qd, hqd⟩ : ∃ j : Nat, o.d = j := ⟨o.d.toNat, by omega⟩
  obtain ⟨qa, hqa⟩ : ∃ j : Nat, o.a = j := ⟨o.a.toNat, by omega⟩
  obtain ⟨qb, hqb⟩ : ∃ j : Nat, o.b = j := ⟨o.b.toNat, by omega⟩
  have d1 : qd < s.regs.length := by omega
  have a1 : qa < s.regs.length := by omega
  have bb1 : qb < s.regs.length := by omega
  have d2 : (qd : Int) < s.regs.length := by omega
  have a2 : (qa : Int) < s.regs.length := by omega
  have bb2 : (qb : Int) < s.regs.length := by omega
  have d0 : (0 : Int) ≤ qd := by omega
  have a0 : (0 : Int) ≤ qa := by omega
  have bb0 : (0 : Int) ≤ qb := by omega
  rw [hqd] at k1
  rw [hqa] at k2
  rw [hqb] at k3
  have HRG := Lib.hid (show rg s.regs o.a = s.regs[qa] ∧ rg s.regs o.b = s.regs[qb] from ⟨by
      unfold rg
      rw [hqa, List.getD_eq_getElem?_getD, Int.toNat_natCast, List.getElem?_eq_getElem a1]; rfl, by
      unfold rg
      rw [hqb, List.getD_eq_getElem?_getD, Int.toNat_natCast, List.getElem?_eq_getElem bb1]; rfl⟩)
  have HQD := Lib.hid (show o.d.toNat = qd by omega)
  have HQS := Lib.hid (show o.d = qd ∧ o.a = qa ∧ o.b = qb from ⟨hqd, hqa, hqb⟩)
  have HVA := Lib.hid (show ∀ y, BoxAt y r (s.regs.map (Value.int .i64)).toArray I64T → y.cell? ⟨r, qa, none⟩ = some (.int .i64 s.regs[qa]) from fun y hy => regs_cell hy a1)
  have ga := regs_cell H2.out.1.1.regs (q := qa) a1
  have gb := regs_cell H2.out.1.1.regs (q := qb) bb1
  simp only [] at ga gb
  clear hqd hqa hqb hrl hdr har hbr hd0 ha0 hb0 e1 e10 e11 n12 n13 n14
  generalize s.regs[qa] = va at *
  generalize s.regs[qb] = vb at *
  obtain ⟨bx, hbx⟩ : ∃ bx, bx = (if o.k = 2 then 0 else vb) := ⟨_, rfl⟩
  have HBX := Lib.hid hbx
  clear hbx
  go_upto_if 19 with fail
  go_cut [5] (fun t5 wc => t5 = .int .i64 bx ∧ (Ru w0 Z q r pv t av f iv dv I nd { s with pc := s.pc + 1 } wc ∧ BoxAt wc ob (opC o) OpT) ∧ Fr (fun i => i = q ∨ i = r) w wc)
  case first =>
    by_cases e2 : o.k = 2
    · have HB0 := Lib.hid (show (0 : Int) = bx by rw [HBX.out, if_pos e2])
      have b2 : (o.k != 2) = false := by simp [e2]
      clear e2
      go_wp2_with fail
      go_meet
      exact ⟨vi HB0.out, H2.out⟩
    · have HB0 := Lib.hid (show vb = bx by rw [HBX.out, if_neg e2])
      have b2 : (o.k != 2) = true := by simpa using e2
      clear e2
      go_upto_region 5 with fail
      go_quiet (fail)
      clear x0 x1 x2 x5 x6 x7 x8 x9 x10 x11 k0 k1 k2 k3 k4 f6 ga gb
      go_wp2_with fail
      go_meet
      exact ⟨vi HB0.out, ⟨H2.out.1.1.below (below_drewN (Below.refl _ _) _), H2.out.1.2.below (below_drewN (Below.refl _ _) _)⟩, H2.out.2.drewN _⟩
  case rest =>
    obtain ⟨rfl, h3, hf3⟩ := hcut
    have H3 := Lib.hid h3
    have HF3 := Lib.hid hf3
    have HCE := Lib.hid (show calcP o.k va bx = calcP o.k va vb from by
      by_cases e2 : o.k = 2
      · rw [e2]; exact calcP_copy _ _ _
      · rw [HBX.out, if_neg e2])
    clear h3 hf3 x0 x1 x2 x5 x6 x7 x8 x9 x10 x11 k0 k1 k2 k3 k4 f6 ga gb H2
    obtain ⟨x0, x1, x2, x5, x6, x7, x8, x9, x10, x11⟩ := ru_cells H3.out.1
    obtain ⟨k0, k1, k2, k3, k4⟩ := op_cells H3.out.2
    rw [HQS.out.2.1] at k2
    have ga := HVA.out wc H3.out.1.regs
    cases hcv : calcP o.k va vb with
    | none =>
      have HC := Lib.hid (show calcP o.k va bx = none from HCE.out.trans hcv)
      have HE := Lib.hid (show opR s o = (131, { s with pc := s.pc + 1 }) from opR_zero hk3 hk9 (by rw [HRG.out.1, HRG.out.2]; exact hcv))
      clear hcv
      go_upto_region 6 with fail
      go_quiet ((go_at_call 77; exact Calls.quiet_of (rcalc_none _ hk3 hk9 HC.out)))
      clear x0 x1 x2 x5 x6 x7 x8 x9 x10 x11 k0 k1 k2 k3 k4 ga
      go_wp2_with fail
      go_ret
      refine ⟨ret_int (by rw [HE.out]), ?_, HF3.out.drewN _⟩
      rw [HE.out]
      exact H3.out.1.below (below_drewN (Below.refl _ _) _)
    | some v =>
      have HC := Lib.hid (show calcP o.k va bx = some v from HCE.out.trans hcv)
      have HE := Lib.hid (show opR s o = (0, { s with pc := s.pc + 1, regs := s.regs.set o.d.toNat v }) from opR_calc hk3 hk9 (by rw [HRG.out.1, HRG.out.2]; exact hcv))
      clear hcv
      go_upto_region 6 with fail
      go_quiet ((go_at_call 77; exact Calls.quiet_of (rcalc_some _ hk3 hk9 HC.out)))
      have H4 := Lib.hid (show Ru w0 Z q r pv t av f iv dv I nd { s with pc := s.pc + 1 } (wc.drewN nq) ∧ BoxAt (wc.drewN nq) ob (opC o) OpT from ⟨H3.out.1.below (below_drewN (Below.refl _ _) _), H3.out.2.below (below_drewN (Below.refl _ _) _)⟩)
      have HF4 := Lib.hid (HF3.out.drewN nq)
      generalize wc.drewN nq = w4 at *
      clear x0 x1 x2 x5 x6 x7 x8 x9 x10 x11 k0 k1 k2 k3 k4 ga H3 HF3
      obtain ⟨x0, x1, x2, x5, x6, x7, x8, x9, x10, x11⟩ := ru_cells H4.out.1
      obtain ⟨k0, k1, k2, k3, k4⟩ := op_cells H4.out.2
      rw [HQS.out.1] at k1
      have g0 := regs_cell H4.out.1.regs (q := qd) d1
      have g1 := H4.out.1.regs.frozen qd
      simp only [] at g0
      go_upto_region 9 with fail
      go_still_tail 8, (by kernel_rfl)
      change wpList _ _ _ _ _ w4.drew
      go_wp2_with fail
      go_ret
      have hF : Fr (fun i => i = r) w4 (w4.setCell ⟨r, qd, none⟩ (.int .i64 v)) := (Fr.refl (fun i => i = r) w4).setCell (p := ⟨r, qd, none⟩) rfl _
      have h1 := H4.out.1.regsX hF (set_box H4.out.1.regs v) (by simp)
      refine ⟨ret_int (by rw [HE.out]), ?_, (HF4.out.trans (hF.mono fun i hi => .inr hi)).drew⟩
      rw [HE.out, HQD.out]
      exact h1.below (Below.refl _ _).drew
end Go.Proofs.Ytdhbjejejeljoaa
