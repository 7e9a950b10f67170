/- Contract: thresherlaw14.alive. -/
import Derived.Test.YtdhbjejejeljoaaVm15
namespace Go.Proofs.Ytdhbjejejeljoaa
open Go.RowKit Go.Sort Go.Lib

theorem Frm.low {B x r : Nat} {kv : Value} {p : List Fnc} {t : Tk} {s : Vs} {w : World} (h : Frm B x r kv p t s w) : ∀ i, VmS x r kv i → B ≤ i := by
  obtain ⟨pv, p', av, wv, rv, h1, h2⟩ := h
  rintro i ((e | e) | e)
  · have := h1.bx.1; omega
  · have := h1.bx.2; omega
  · exact h1.bk i e
/-- The known frame, at this state; nothing old has turned. -/
structure AlW (oa ob : Option Addr) (B x r : Nat) (kv : Value) (s : Vs) (w0 w : World) : Prop where
  frm : Frm B x r kv (smP oa ob) smT s w
  low : Below w0.heap.size w0 w
  le : w0.heap.size ≤ B
section
variable {oa ob : Option Addr} {B x r : Nat} {kv kv' : Value} {s s' : Vs} {w0 w w' : World}
theorem AlW.below (h : AlW oa ob B x r kv s w0 w) (hB : Below w.heap.size w w') : AlW oa ob B x r kv s w0 w' := ⟨h.frm.below hB, gthen h.low hB, h.le⟩
theorem AlW.next (h : AlW oa ob B x r kv s w0 w) (hf : Frm B x r kv' (smP oa ob) smT s' w') (hl : VmL x r kv w kv' w') : AlW oa ob B x r kv' s' w0 w' :=
  ⟨hf, h.low.trans (hl.fr.below (fun i hi => Nat.le_trans h.le (h.frm.low i hi)) h.low.size), h.le⟩
theorem AlW.box (h : AlW oa ob B x r kv s w0 w) (hl : VmL x r kv w kv' w') {b : Nat} {cur : Array Value} (hb : BoxAt w b cur StopT) : BoxAt w' b cur StopT := box_typed hb hl.fr h.frm.typed (by decide)
theorem AlW.own (h : AlW oa ob B x r kv s w0 w) (hl : VmL x r kv w kv' w') {Z k n : Nat} {v : Value} {xs : List Value} (ho : w.ownsRow Z IntT k v n xs) : w'.ownsRow Z IntT k v n xs := own_typed ho hl.fr h.frm.typed (by decide)
end
theorem task_fuel (s : ByteArray) (n u : Int) (a : Option Addr) (l c : Nat) (w : World) : (Instr.field TaskT (.agg #[.string s, .int .i64 n, .slice a l c, .int .i64 u]) 3).run Try.prog w = .ok (.int .i64 u) w := by kernel_rfl
set_option maxHeartbeats 12800000 in
set_option maxRecDepth 100000 in
theorem valive_any (w : World) : Calls Try.prog 7 #[] w fun e w' => e = .returned (.bool true) ∧ Below w.heap.size w w' := by
  go_enter Try.func7, Try.ntmps7
  go_wp2_with fail
  refine (small_any _).mono ?_
  rintro e w1 ⟨v, oa, ob, rfl, hB1, hP⟩
  obtain ⟨va, vc, rfl⟩ := hP.fns.slice
  have HL := Lib.hid hB1
  have HP := Lib.hid hP
  clear hB1 hP
  go_wp2_with fail
  refine (vnew_any _ (.slice none 0 0) (smP oa ob) smT w1 HP.out (.inl ⟨rfl, none, 0, rfl⟩) (by decide) (by decide)).mono ?_
  rintro e w2 hh
  obtain ⟨hB2, ⟨h0, _⟩ | ⟨h0, x, r, rfl, hf⟩⟩ := hh.frm
  · exact absurd (sm_new oa ob).1 h0
  rw [(sm_new oa ob).2] at hf
  have H2 := Lib.hid (show AlW oa ob w1.heap.size x r (.slice none 0 0) smV0 w w2 from ⟨hf, gthen HL.out hB2, HL.out.size⟩)
  clear hf hB2 hh h0 HP HL
  go_wp2_with fail
  refine (frm_run 9 (by decide) (by decide) H2.out.frm (sm_run1 oa ob)).mono ?_
  rintro e w3 ⟨qa, qc, kv3, rfl, ho3, hf3, hl3⟩
  have H3 := Lib.hid (H2.out.next hf3 hl3)
  clear ho3 hf3 hl3 H2
  go_upto_region 5 with fail
  have hA4 := alV w3 (.cells #[.int .u8 2, .string ⟨#[1]⟩, .int .i64 1, .slice qa 0 qc, .int .i64 9, .int .i64 0, .int .i64 0] StopT)
  have H4 := Lib.hid (show AlW oa ob w1.heap.size x r kv3 smV1 w (w3.alloc (.cells #[.int .u8 2, .string ⟨#[1]⟩, .int .i64 1, .slice qa 0 qc, .int .i64 9, .int .i64 0, .int .i64 0] StopT)) ∧ BoxAt (w3.alloc (.cells #[.int .u8 2, .string ⟨#[1]⟩, .int .i64 1, .slice qa 0 qc, .int .i64 9, .int .i64 0, .int .i64 0] StopT)) w3.heap.size #[.int .u8 2, .string ⟨#[1]⟩, .int .i64 1, .slice qa 0 qc, .int .i64 9, .int .i64 0, .int .i64 0] StopT from ⟨H3.out.below hA4, heap_alloc_new _ _⟩)
  clear hA4 H3
  generalize w3.alloc (.cells #[.int .u8 2, .string ⟨#[1]⟩, .int .i64 1, .slice qa 0 qc, .int .i64 9, .int .i64 0, .int .i64 0] StopT) = w4 at *
  generalize w3.heap.size = b1 at *
  go_wp2_with fail
  refine (frm_run 9 (by decide) (by decide) H4.out.1.frm (sm_run2 oa ob)).mono ?_
  rintro e w5 ⟨qa2, qc2, kv5, rfl, ho5, hf5, hl5⟩
  have H5 := Lib.hid (show AlW oa ob w1.heap.size x r kv5 smV2 w w5 ∧ BoxAt w5 b1 #[.int .u8 2, .string ⟨#[1]⟩, .int .i64 1, .slice qa 0 qc, .int .i64 9, .int .i64 0, .int .i64 0] StopT from ⟨H4.out.1.next hf5 hl5, H4.out.1.box hl5 H4.out.2⟩)
  clear ho5 hf5 hl5 H4
  go_upto_region 6 with fail
  have hA6 := alV w5 (.cells #[.int .u8 3, .string ⟨#[]⟩, .int .i64 0, .slice qa2 0 qc2, .int .i64 0, .int .i64 0, .int .i64 0] StopT)
  have H6 := Lib.hid (show AlW oa ob w1.heap.size x r kv5 smV2 w (w5.alloc (.cells #[.int .u8 3, .string ⟨#[]⟩, .int .i64 0, .slice qa2 0 qc2, .int .i64 0, .int .i64 0, .int .i64 0] StopT)) ∧ BoxAt (w5.alloc (.cells #[.int .u8 3, .string ⟨#[]⟩, .int .i64 0, .slice qa2 0 qc2, .int .i64 0, .int .i64 0, .int .i64 0] StopT)) b1 #[.int .u8 2, .string ⟨#[1]⟩, .int .i64 1, .slice qa 0 qc, .int .i64 9, .int .i64 0, .int .i64 0] StopT ∧ BoxAt (w5.alloc (.cells #[.int .u8 3, .string ⟨#[]⟩, .int .i64 0, .slice qa2 0 qc2, .int .i64 0, .int .i64 0, .int .i64 0] StopT)) w5.heap.size #[.int .u8 3, .string ⟨#[]⟩, .int .i64 0, .slice qa2 0 qc2, .int .i64 0, .int .i64 0, .int .i64 0] StopT from ⟨H5.out.1.below hA6, H5.out.2.below hA6, heap_alloc_new _ _⟩)
  clear hA6 H5
  generalize w5.alloc (.cells #[.int .u8 3, .string ⟨#[]⟩, .int .i64 0, .slice qa2 0 qc2, .int .i64 0, .int .i64 0, .int .i64 0] StopT) = w6 at *
  generalize w5.heap.size = b2 at *
  go_wp2_with fail
  refine (frm_waits H6.out.1.frm sm_waits).mono ?_
  rintro e w7 ⟨ia, ic, rfl, ho7, hB7⟩
  have H7 := Lib.hid (show AlW oa ob w1.heap.size x r kv5 smV2 w w7 ∧ BoxAt w7 b1 #[.int .u8 2, .string ⟨#[1]⟩, .int .i64 1, .slice qa 0 qc, .int .i64 9, .int .i64 0, .int .i64 0] StopT ∧ BoxAt w7 b2 #[.int .u8 3, .string ⟨#[]⟩, .int .i64 0, .slice qa2 0 qc2, .int .i64 0, .int .i64 0, .int .i64 0] StopT ∧ w7.ownsRow w6.heap.size IntT 1 (.slice ia 1 ic) 1 ([(1 : Int)].flatMap encN1) from ⟨H6.out.1.below hB7, H6.out.2.1.below hB7, H6.out.2.2.below hB7, ho7⟩)
  clear ho7 hB7 H6
  go_wp2_with fail
  refine (frm_give 1 ⟨5, 0⟩ H7.out.1.frm sm_give1).mono ?_
  rintro e w8 ⟨rfl, hf8, hl8⟩
  have H8 := Lib.hid (show AlW oa ob w1.heap.size x r kv5 smV3 w w8 ∧ BoxAt w8 b1 #[.int .u8 2, .string ⟨#[1]⟩, .int .i64 1, .slice qa 0 qc, .int .i64 9, .int .i64 0, .int .i64 0] StopT ∧ BoxAt w8 b2 #[.int .u8 3, .string ⟨#[]⟩, .int .i64 0, .slice qa2 0 qc2, .int .i64 0, .int .i64 0, .int .i64 0] StopT ∧ w8.ownsRow w6.heap.size IntT 1 (.slice ia 1 ic) 1 ([(1 : Int)].flatMap encN1) from ⟨H7.out.1.next hf8 hl8, H7.out.1.box hl8 H7.out.2.1, H7.out.1.box hl8 H7.out.2.2.1, H7.out.1.own hl8 H7.out.2.2.2⟩)
  clear hf8 hl8 H7
  go_wp2_with fail
  refine (frm_run 9 (by decide) (by decide) H8.out.1.frm (sm_run3 oa ob)).mono ?_
  rintro e w9 ⟨qa3, qc3, kv9, rfl, ho9, hf9, hl9⟩
  have H9 := Lib.hid (show AlW oa ob w1.heap.size x r kv9 smV4 w w9 ∧ BoxAt w9 b1 #[.int .u8 2, .string ⟨#[1]⟩, .int .i64 1, .slice qa 0 qc, .int .i64 9, .int .i64 0, .int .i64 0] StopT ∧ BoxAt w9 b2 #[.int .u8 3, .string ⟨#[]⟩, .int .i64 0, .slice qa2 0 qc2, .int .i64 0, .int .i64 0, .int .i64 0] StopT ∧ w9.ownsRow w6.heap.size IntT 1 (.slice ia 1 ic) 1 ([(1 : Int)].flatMap encN1) from ⟨H8.out.1.next hf9 hl9, H8.out.1.box hl9 H8.out.2.1, H8.out.1.box hl9 H8.out.2.2.1, H8.out.1.own hl9 H8.out.2.2.2⟩)
  clear ho9 hf9 hl9 H8
  go_upto_region 9 with fail
  have hA10 := alV w9 (.cells #[.int .u8 4, .string ⟨#[]⟩, .int .i64 0, .slice qa3 0 qc3, .int .i64 0, .int .i64 5, .int .i64 0] StopT)
  have H10 := Lib.hid (show AlW oa ob w1.heap.size x r kv9 smV4 w (w9.alloc (.cells #[.int .u8 4, .string ⟨#[]⟩, .int .i64 0, .slice qa3 0 qc3, .int .i64 0, .int .i64 5, .int .i64 0] StopT)) ∧ BoxAt (w9.alloc (.cells #[.int .u8 4, .string ⟨#[]⟩, .int .i64 0, .slice qa3 0 qc3, .int .i64 0, .int .i64 5, .int .i64 0] StopT)) b1 #[.int .u8 2, .string ⟨#[1]⟩, .int .i64 1, .slice qa 0 qc, .int .i64 9, .int .i64 0, .int .i64 0] StopT ∧ BoxAt (w9.alloc (.cells #[.int .u8 4, .string ⟨#[]⟩, .int .i64 0, .slice qa3 0 qc3, .int .i64 0, .int .i64 5, .int .i64 0] StopT)) b2 #[.int .u8 3, .string ⟨#[]⟩, .int .i64 0, .slice qa2 0 qc2, .int .i64 0, .int .i64 0, .int .i64 0] StopT ∧ (w9.alloc (.cells #[.int .u8 4, .string ⟨#[]⟩, .int .i64 0, .slice qa3 0 qc3, .int .i64 0, .int .i64 5, .int .i64 0] StopT)).ownsRow w6.heap.size IntT 1 (.slice ia 1 ic) 1 ([(1 : Int)].flatMap encN1) ∧ BoxAt (w9.alloc (.cells #[.int .u8 4, .string ⟨#[]⟩, .int .i64 0, .slice qa3 0 qc3, .int .i64 0, .int .i64 5, .int .i64 0] StopT)) w9.heap.size #[.int .u8 4, .string ⟨#[]⟩, .int .i64 0, .slice qa3 0 qc3, .int .i64 0, .int .i64 5, .int .i64 0] StopT from ⟨H9.out.1.below hA10, H9.out.2.1.below hA10, H9.out.2.2.1.below hA10, own_below H9.out.2.2.2 hA10, heap_alloc_new _ _⟩)
  clear hA10 H9
  generalize w9.alloc (.cells #[.int .u8 4, .string ⟨#[]⟩, .int .i64 0, .slice qa3 0 qc3, .int .i64 0, .int .i64 5, .int .i64 0] StopT) = w10 at *
  generalize w9.heap.size = b3 at *
  go_wp2_with fail
  refine (frm_give 1 ⟨0, 0⟩ H10.out.1.frm sm_give2).mono ?_
  rintro e w11 ⟨rfl, hf11, hl11⟩
  have H11 := Lib.hid (show AlW oa ob w1.heap.size x r kv9 smV4 w w11 ∧ BoxAt w11 b1 #[.int .u8 2, .string ⟨#[1]⟩, .int .i64 1, .slice qa 0 qc, .int .i64 9, .int .i64 0, .int .i64 0] StopT ∧ BoxAt w11 b2 #[.int .u8 3, .string ⟨#[]⟩, .int .i64 0, .slice qa2 0 qc2, .int .i64 0, .int .i64 0, .int .i64 0] StopT ∧ w11.ownsRow w6.heap.size IntT 1 (.slice ia 1 ic) 1 ([(1 : Int)].flatMap encN1) ∧ BoxAt w11 b3 #[.int .u8 4, .string ⟨#[]⟩, .int .i64 0, .slice qa3 0 qc3, .int .i64 0, .int .i64 5, .int .i64 0] StopT from ⟨H10.out.1.next hf11 hl11, H10.out.1.box hl11 H10.out.2.1, H10.out.1.box hl11 H10.out.2.2.1, H10.out.1.own hl11 H10.out.2.2.2.1, H10.out.1.box hl11 H10.out.2.2.2.2⟩)
  clear hf11 hl11 H10
  go_upto_region 10 with fail
  go_wp2_with fail
  refine (frm_low 0 (by decide) H11.out.1.frm).mono ?_
  rintro e w12 ⟨rfl, hB12⟩
  have hB13 := gthen hB12 (alV w12 (.cells #[.int .u8 0, .string ⟨#[]⟩, .int .i64 0, .slice none 0 0, .int .i64 0, .int .i64 0, .int .i64 0] StopT))
  have H13 := Lib.hid (show AlW oa ob w1.heap.size x r kv9 smV4 w (w12.alloc (.cells #[.int .u8 0, .string ⟨#[]⟩, .int .i64 0, .slice none 0 0, .int .i64 0, .int .i64 0, .int .i64 0] StopT)) ∧ BoxAt (w12.alloc (.cells #[.int .u8 0, .string ⟨#[]⟩, .int .i64 0, .slice none 0 0, .int .i64 0, .int .i64 0, .int .i64 0] StopT)) b1 #[.int .u8 2, .string ⟨#[1]⟩, .int .i64 1, .slice qa 0 qc, .int .i64 9, .int .i64 0, .int .i64 0] StopT ∧ BoxAt (w12.alloc (.cells #[.int .u8 0, .string ⟨#[]⟩, .int .i64 0, .slice none 0 0, .int .i64 0, .int .i64 0, .int .i64 0] StopT)) b2 #[.int .u8 3, .string ⟨#[]⟩, .int .i64 0, .slice qa2 0 qc2, .int .i64 0, .int .i64 0, .int .i64 0] StopT ∧ (w12.alloc (.cells #[.int .u8 0, .string ⟨#[]⟩, .int .i64 0, .slice none 0 0, .int .i64 0, .int .i64 0, .int .i64 0] StopT)).ownsRow w6.heap.size IntT 1 (.slice ia 1 ic) 1 ([(1 : Int)].flatMap encN1) ∧ BoxAt (w12.alloc (.cells #[.int .u8 0, .string ⟨#[]⟩, .int .i64 0, .slice none 0 0, .int .i64 0, .int .i64 0, .int .i64 0] StopT)) b3 #[.int .u8 4, .string ⟨#[]⟩, .int .i64 0, .slice qa3 0 qc3, .int .i64 0, .int .i64 5, .int .i64 0] StopT from ⟨H11.out.1.below hB13, H11.out.2.1.below hB13, H11.out.2.2.1.below hB13, own_below H11.out.2.2.2.1 hB13, H11.out.2.2.2.2.below hB13⟩)
  have hal : ∀ (o : Obj) (a : Addr) (v : Value), w12.cell? a = some v → (w12.alloc o).cell? a = some v := fun o a v h => ((alV w12 o).cell (World.block_lt_of_cell? _ _ h)).trans h
  have k1 := H11.out.2.1.below hB12
  have k2 := H11.out.2.2.1.below hB12
  have k3 := H11.out.2.2.2.2.below hB12
  obtain ⟨g, off, cc, he, _, hc⟩ := (own_readsK (enc := encN1) (k := 1) (l := [(1 : Int)]) (fun _ => rfl) (by decide) (own_below H11.out.2.2.2.1 hB12)).at (by decide)
  injection he with he e2 e3
  subst he
  clear e2 e3
  have kw := hc 0 (by decide) 0 _ rfl
  have a0 := fun o => hal o _ _ (k1.cell 0)
  have a1 := fun o => hal o _ _ (k1.cell 1)
  have a2 := fun o => hal o _ _ (k1.cell 2)
  have a4 := fun o => hal o _ _ (k1.cell 4)
  have d0 := fun o => hal o _ _ (k2.cell 0)
  have e0 := fun o => hal o _ _ (k3.cell 0)
  have e5 := fun o => hal o _ _ (k3.cell 5)
  have e6 := fun o => hal o _ _ (k3.cell 6)
  have g0 := fun o => hal o _ _ kw
  simp only [Nat.zero_mul, Nat.add_zero, List.getElem_cons_zero] at g0
  clear hal k1 k2 k3 hc kw hB12 hB13 H11
  simp only [zSp]
  go_wp2_with fail
  refine (frm_give 2 ⟨0, 0⟩ H13.out.1.frm sm_give3).mono ?_
  rintro e w14 ⟨rfl, hf14, hl14⟩
  have H14 := Lib.hid (H13.out.1.next hf14 hl14)
  clear hf14 hl14 H13 a0 a1 a2 a4 d0 e0 e5 e6 g0
  go_wp2_with fail
  refine (frm_kids H14.out.frm).mono ?_
  rintro e w15 ⟨rfl, rfl⟩
  go_wp2_with fail
  refine (frm_left H14.out.frm).mono ?_
  rintro e w16 ⟨rfl, rfl⟩
  go_wp2_with fail
  refine (frm_task H14.out.frm).mono ?_
  rintro e w17 ⟨ta, tc, rfl, ho17, hB17⟩
  have H17 := Lib.hid (gthen H14.out.low hB17)
  clear ho17 hB17 H14
  simp only [smT, List.length_nil]
  have hfd := fun w => task_fuel ⟨#[]⟩ 0 20 ta 0 tc w
  go_wp2_with fail
  go_ret
  exact ⟨rfl, H17.out⟩
end Go.Proofs.Ytdhbjejejeljoaa
