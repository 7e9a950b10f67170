/- Contract: vm.Frame.join. -/
import Derived.Test.YtdhbjejejeljoaaGreatVm5
namespace Go.Proofs.YtdhbjejejeljoaaGreat
open Go.RowKit Go.Sort Go.Lib

/-- What stands behind the first ones of a slice. -/
theorem reads_behind {w : World} {a : Option Addr} {cap : Nat} {l : List Ch} (h : ReadsK encCh 4 w (.slice a l.length cap) l) (hcap : l.length ≤ cap) (j : Nat) : ReadsK encCh 4 w (sliced a j l.length cap 4) (l.drop j) := by
  unfold sliced
  by_cases hn : l.length ≤ j
  · exact .inl ⟨by rw [List.drop_eq_nil_iff]; exact hn, if cap = j then a else a.map (·.add (j * 4)), cap - j, by rw [show l.length - j = 0 by omega]⟩
  · rcases h with ⟨h1, _⟩ | ⟨b, off, c, he, hb, hc⟩
    · exact absurd (by rw [h1]; simp) hn
    · injection he with he _ _
      subst he
      have hm : ¬ cap = j := by omega
      rw [if_neg hm]
      refine .inr ⟨b, off + j * 4, cap - j, by simp [Addr.add], hb, fun i hi t u hu => ?_⟩
      rw [List.length_drop] at hi
      rw [List.getElem_drop] at hu
      have h2 := hc (j + i) (by omega) t u hu
      rw [show off + j * 4 + (i * 4 + t) = off + ((j + i) * 4 + t) by omega]
      exact h2
theorem own_le {w : World} {Z k n cap : Nat} {a : Option Addr} {E : TypeId} {xs : List Value} (h : w.ownsRow Z E k (.slice a n cap) n xs) : n ≤ cap := by
  obtain ⟨_, ⟨h1, h2⟩ | ⟨g, cap', cur, h1, h2, h3, h4, h5, h6⟩⟩ := h
  · injection h1; omega
  · injection h1 with _ _ h7
    omega
/-- The first that failed. -/
theorem idx_first (l : List Ch) : (idxP chBad l = -1 ∧ firstE (l.map (·.r.e)) = 0) ∨ ∃ k, ∃ h : k < l.length, idxP chBad l = k ∧ l[k].r.e ≠ 0 ∧ firstE (l.map (·.r.e)) = l[k].r.e := by
  by_cases ha : l.any chBad = true
  · right
    obtain ⟨c, hc, hb⟩ := List.any_eq_true.1 ha
    have hk : l.findIdx chBad < l.length := List.findIdx_lt_length_of_exists ⟨c, hc, hb⟩
    have h1 : l[l.findIdx chBad].r.e ≠ 0 := by
      have h2 := List.findIdx_getElem (w := hk)
      simpa [chBad] using h2
    refine ⟨_, hk, by unfold idxP; rw [if_pos ha], h1, ?_⟩
    have h3 := firstE_hit (l := l.map (·.r.e)) (k := l.findIdx chBad) (by simpa using hk) (fun j hj hjk => by
      have h4 := List.not_of_lt_findIdx hjk
      simpa [chBad] using h4) (by simpa using h1)
    simpa using h3
  · left
    refine ⟨by unfold idxP; rw [if_neg ha], firstE_none fun j hj => ?_⟩
    rw [Bool.not_eq_true, List.any_eq_false] at ha
    have hj2 : j < l.length := by simpa using hj
    have h1 := ha l[j] (List.getElem_mem hj2)
    simpa [chBad] using h1
theorem joinV_open {s : Vs} {o : Opr} {l : List Ch} (h : openV s = l) (h1 : l.any chOpen = true) : joinV s o = (some ⟨3, noTk, ⟨0, 0⟩⟩, { s with waits := some o }) := by
  have h1' : l.any (fun c => !c.given) = true := h1
  unfold joinV
  rw [h, if_pos h1']
theorem joinV_bad {s : Vs} {o : Opr} {l : List Ch} {e : Int} (h : openV s = l) (h1 : l.any chOpen = false) (h2 : firstE (l.map (·.r.e)) = e) (h3 : e ≠ 0) : joinV s o = endV { s with waits := none, joined := s.kids.length } ⟨0, e⟩ := by
  have h1' : l.any (fun c => !c.given) = false := h1
  unfold joinV
  rw [h, if_neg (by rw [h1']; simp)]
  simp only []
  rw [h2, if_pos h3]
theorem joinV_done {s : Vs} {o : Opr} {l : List Ch} (h : openV s = l) (h1 : l.any chOpen = false) (h2 : firstE (l.map (·.r.e)) = 0) : joinV s o =
    if o.k = 14 then endV { s with waits := none, joined := s.kids.length, regs := setAll s.regs (l.map (·.into)) (l.map (·.r)) } ⟨rg (setAll s.regs (l.map (·.into)) (l.map (·.r))) o.a, 0⟩ else (none, { s with waits := none, joined := s.kids.length, regs := setAll s.regs (l.map (·.into)) (l.map (·.r)) }) := by
  have h1' : l.any (fun c => !c.given) = false := h1
  unfold joinV
  rw [h, if_neg (by rw [h1']; simp)]
  simp only []
  rw [h2, if_neg (by simp)]
theorem own_later {w w6 : World} {S : Nat → Prop} {kv kv' : Value} (hF : Fr S w w6) (h : kv'.ownBlock = kv.ownBlock ∨ ∀ b, kv'.ownBlock = some b → w6.heap.size ≤ b) : kv'.ownBlock = kv.ownBlock ∨ ∀ b, kv'.ownBlock = some b → w.heap.size ≤ b :=
  h.imp id fun h b hb => Nat.le_trans hF.size (h b hb)
/-- What calls in a row turn. -/
structure VmL (x r : Nat) (kv : Value) (w : World) (kv' : Value) (w' : World) : Prop where
  fr : Fr (VmS x r kv) w w'
  own : kv'.ownBlock = kv.ownBlock ∨ ∀ b, kv'.ownBlock = some b → w.heap.size ≤ b
theorem VmL.refl (x r : Nat) (kv : Value) (w : World) : VmL x r kv w kv w := ⟨Fr.refl _ _, .inl rfl⟩
theorem VmL.trans {x r : Nat} {kv kv1 kv2 : Value} {w w1 w2 : World} (h1 : VmL x r kv w kv1 w1) (h2 : VmL x r kv1 w1 kv2 w2) : VmL x r kv w kv2 w2 := by
  refine ⟨h1.fr.join h2.fr (fun i hi => ?_), ?_⟩
  · rcases hi with hi | hi
    · exact .inl (.inl hi)
    · rcases h1.own with h | h
      · exact .inl (.inr (h ▸ hi))
      · exact .inr (h i hi)
  · rcases h2.own with h | h
    · rcases h1.own with h' | h'
      · exact .inl (h.trans h')
      · exact .inr fun b hb => h' b (h ▸ hb)
    · exact .inr fun b hb => Nat.le_trans h1.fr.size (h b hb)
theorem VmL.xr {x r : Nat} {kv : Value} {w w' : World} (h : Fr (fun i => i = x ∨ i = r) w w') : VmL x r kv w kv w' := ⟨h.mono fun _i hi => .inl hi, .inl rfl⟩
/-- The registers turn. -/
theorem Vm.regsX {x r : Nat} {pv : Value} {t : Tk} {av kv wv rv : Value} {s : Vs} {w w' : World} (h : Vm x r pv t av kv wv rv s w) (hF : Fr (fun i => i = r) w w') {R : List Int} (hb : BoxAt w' r (R.map (Value.int .i64)).toArray I64T) (hl : R.length = s.regs.length) : Vm x r pv t av kv wv rv { s with regs := R } w' := by
  have hT := typed_box h.regs
  have hbx := box_typed h.box hF hT (by decide)
  unfold vmC at hbx
  rw [← hl] at hbx
  exact ⟨hbx, hb, own_typed h.kids hF hT (by decide), h.wt.typed hF hT (by decide), h.rs.typed hF hT (by decide)⟩
set_option maxHeartbeats 6400000 in
set_option maxRecDepth 100000 in
theorem vjoin_any {x r : Nat} {pv : Value} {t : Tk} {av kv wv rv : Value} {s : Vs} {w : World} {p : List Fnc} {o : Opr} (h : Vm x r pv t av kv wv rv s w) (hi : InvV p t s) (ho : OpOk p (fnAt p t.fn) o) (hk : o.k = 13 ∨ o.k = 14) :
    Calls Tryz.prog 31 #[.pointer (some ⟨x, 0, none⟩), .agg #[.int .u8 o.k, .int .i64 o.d, .int .i64 o.a, .int .i64 o.b, .int .i64 o.n]] w (VmP x r pv t av kv (joinV s o) w) := by
  have hA := alV w (.cells (opC o) OpT)
  have H := Lib.hid (show Vm x r pv t av kv wv rv s (w.alloc (.cells (opC o) OpT)) ∧ BoxAt (w.alloc (.cells (opC o) OpT)) w.heap.size (opC o) OpT ∧ Below w.heap.size w (w.alloc (.cells (opC o) OpT)) from ⟨h.below hA, heap_alloc_new _ _, hA⟩)
  have HI := Lib.hid (And.intro hi (And.intro ho hk))
  obtain ⟨ka, kc, hkv⟩ := own_slice h.kids
  have hk1 := hi.k1
  have hjl := hi.jl
  clear h hA hi ho hk
  go_enter Tryz.func31, Tryz.ntmps31
  go_upto_region 1 with fail
  simp only [opC] at H
  generalize w.alloc (.cells #[.int .u8 o.k, .int .i64 o.d, .int .i64 o.a, .int .i64 o.b, .int .i64 o.n] OpT) = w1 at *
  obtain ⟨b, hb⟩ : ∃ b, w.heap.size = b := ⟨_, rfl⟩
  have HBB := Lib.hid hb
  rw [hb] at H ⊢
  clear hb
  obtain ⟨x0, x1, x2, x5, x6, x7, x8, x9, x10, x11⟩ := vm_cells H.out.1
  have f10 := H.out.1.box.frozen 10
  clear x0 x1 x2 x5 x6 x7 x8 x9 x11
  go_upto_region 2 with fail
  have hF : Fr (fun i => i = x) w1 (w1.setCell ⟨x, 10, none⟩ (.pointer (some ⟨b, 0, none⟩))) := (Fr.refl (fun i => i = x) w1).setCell (p := ⟨x, 10, none⟩) rfl _
  have hbx : BoxAt (w1.setCell ⟨x, 10, none⟩ (.pointer (some ⟨b, 0, none⟩))) x (vmC pv t av r { s with waits := some o } kv (.pointer (some ⟨b, 0, none⟩)) rv) FrameT := Go.heap_setCell_same w1 x 10 _ _ _ H.out.1.box
  have hbr := box_typed H.out.2.1 hF (typed_box H.out.1.box) (by decide)
  have H2 := Lib.hid (show Vm x r pv t av kv (.pointer (some ⟨b, 0, none⟩)) rv { s with waits := some o } (w1.setCell ⟨x, 10, none⟩ (.pointer (some ⟨b, 0, none⟩))) ∧ Fr (fun i => i = x) w (w1.setCell ⟨x, 10, none⟩ (.pointer (some ⟨b, 0, none⟩))) ∧ BoxAt (w1.setCell ⟨x, 10, none⟩ (.pointer (some ⟨b, 0, none⟩))) b (opC o) OpT from
    ⟨H.out.1.boxX hF hbx rfl rfl ⟨b, rfl, hbr⟩ (H.out.1.rs.typed hF (typed_box H.out.1.box) (by decide)), (Fr.of_below (HBB.out ▸ H.out.2.2)).trans hF, hbr⟩)
  clear f10 x10 hF hbx hbr
  generalize w1.setCell ⟨x, 10, none⟩ (.pointer (some ⟨b, 0, none⟩)) = w2 at *
  obtain ⟨x0, x1, x2, x5, x6, x7, x8, x9, x10, x11⟩ := vm_cells H2.out.1
  subst hkv
  have q0 : (0 : Int) ≤ s.joined := by omega
  have q1 : (s.joined : Int) ≤ s.kids.length := by omega
  clear x0 x1 x2 x5 x6 x7 x10 x11 H
  go_upto_region 3 with fail
  go_quiet (fail)
  have HO := Lib.hid (show ∀ y : World, y.ownsRow 0 ChT 4 (.slice ka s.kids.length kc) s.kids.length (s.kids.flatMap encCh) → ReadsK encCh 4 y (.slice (if kc = s.joined then ka else Option.map (fun x => x.add (s.joined * 4)) ka) (s.kids.length - s.joined) (kc - s.joined)) (openV s) from
    fun y hy => reads_behind (own_readsK (enc := encCh) (k := 4) encCh_len (by decide) hy) (own_le hy) s.joined)
  generalize (if kc = s.joined then ka else Option.map (fun x => x.add (s.joined * 4)) ka) = oa at *
  generalize kc - s.joined = oc at *
  obtain ⟨OL, hOL⟩ : ∃ l, openV s = l := ⟨_, rfl⟩
  have HOL := Lib.hid hOL
  have hol : OL.length = s.kids.length - s.joined := by rw [← hOL]; unfold openV; rw [List.length_drop]
  rw [hOL] at HO
  rw [← hol] at HO ⊢
  have hoc : OL.length ≤ 16 := by omega
  have HOK := Lib.hid hol
  clear hOL q0 q1 x8 x9 hol
  have H3 := Lib.hid (show Below w2.heap.size w2 (w2.drewN nq) from below_drewN (Below.refl _ _) nq)
  generalize w2.drewN nq = w3 at *
  cases hop : OL.any chOpen
  all_goals
    have HOP := Lib.hid hop
    clear hop
    go_wp2_with fail
    refine (cont_open _ OL _ (HO.out _ (own_below H2.out.1.kids H3.out)) (by omega) HOP.out).mono ?_
    rintro e w4 ⟨rfl, hB⟩
    have H4 := Lib.hid (show Below w2.heap.size w2 w4 from gthen H3.out hB)
    clear hB
  · have HV := Lib.hid (H2.out.1.below H4.out)
    obtain ⟨x0, x1, x2, x5, x6, x7, x8, x9, x10, x11⟩ := vm_cells HV.out
    have f9 := HV.out.box.frozen 9
    have f10 := HV.out.box.frozen 10
    clear x0 x1 x2 x5 x6 x7 x11
    go_upto_region 6 with fail
    have hF : Fr (fun i => i = x) w4 ((w4.setCell ⟨x, 10, none⟩ (.pointer none)).setCell ⟨x, 9, none⟩ (.int .i64 s.kids.length)) := ((Fr.refl (fun i => i = x) w4).setCell (p := ⟨x, 10, none⟩) rfl _).setCell (p := ⟨x, 9, none⟩) rfl _
    have hbx : BoxAt ((w4.setCell ⟨x, 10, none⟩ (.pointer none)).setCell ⟨x, 9, none⟩ (.int .i64 s.kids.length)) x (vmC pv t av r { s with waits := none, joined := s.kids.length } (.slice ka s.kids.length kc) (.pointer none) rv) FrameT := Go.heap_setCell_same _ x 9 _ _ _ (Go.heap_setCell_same w4 x 10 _ _ _ HV.out.box)
    have H5 := Lib.hid (show Vm x r pv t av (.slice ka s.kids.length kc) (.pointer none) rv { s with waits := none, joined := s.kids.length } ((w4.setCell ⟨x, 10, none⟩ (.pointer none)).setCell ⟨x, 9, none⟩ (.int .i64 s.kids.length)) ∧ Fr (fun i => i = x) w ((w4.setCell ⟨x, 10, none⟩ (.pointer none)).setCell ⟨x, 9, none⟩ (.int .i64 s.kids.length)) ∧ BoxAt ((w4.setCell ⟨x, 10, none⟩ (.pointer none)).setCell ⟨x, 9, none⟩ (.int .i64 s.kids.length)) b (opC o) OpT from
      ⟨HV.out.boxX hF hbx rfl rfl rfl (HV.out.rs.typed hF (typed_box HV.out.box) (by decide)), (H2.out.2.1.then H4.out).trans hF, box_typed (H2.out.2.2.below H4.out) hF (typed_box HV.out.box) (by decide)⟩)
    clear f9 f10 x8 x9 x10 hF hbx HV
    generalize (w4.setCell ⟨x, 10, none⟩ (.pointer none)).setCell ⟨x, 9, none⟩ (.int .i64 s.kids.length) = w5 at *
    clear H4 H3 H2
    go_wp2_with fail
    refine (idx_bad _ OL _ (HO.out _ H5.out.1.kids) (by omega)).mono ?_
    rintro e w6 ⟨rfl, hB⟩
    have H6 := Lib.hid (show Vm x r pv t av (.slice ka s.kids.length kc) (.pointer none) rv { s with waits := none, joined := s.kids.length } w6 ∧ Fr (fun i => i = x) w w6 ∧ BoxAt w6 b (opC o) OpT from ⟨H5.out.1.below hB, H5.out.2.1.then hB, H5.out.2.2.below hB⟩)
    clear hB H5
    rcases idx_first OL with ⟨h1, h2⟩ | ⟨k, hk, h1, h2, h3⟩
    · rw [h1]
      have HFE := Lib.hid h2
      clear h1 h2
      go_wp2_with fail
      go_loopg [50] OL.length (fun gk i wr => ∃ k : Nat, gk + k = OL.length ∧ i = .int .i64 k ∧ Hid (Vm x r pv t av (.slice ka s.kids.length kc) (.pointer none) rv { s with waits := none, joined := s.kids.length, regs := setAll s.regs ((OL.map (·.into)).take k) ((OL.map (·.r)).take k) } wr ∧ Fr (fun i => i = x ∨ i = r) w wr ∧ BoxAt wr b (opC o) OpT))
      case atStart => exact ⟨0, by omega, rfl, by rw [List.take_zero, List.take_zero]; exact ⟨H6.out.1, H6.out.2.1.mono fun i hi => .inl hi, H6.out.2.2⟩⟩
      case round =>
        clear H6
        obtain ⟨k, hk, rfl, HR⟩ := hrel
        by_cases hlt : k < OL.length
        · have HL := Lib.hid (show (setAll s.regs ((OL.map (·.into)).take k) ((OL.map (·.r)).take k)).length = s.regs.length from setAll_length _ _ _)
          obtain ⟨b2, off, c, he, hb, hc⟩ := (HO.out _ HR.out.1.kids).at (by omega)
          injection he with he1 he2 he3
          subst he1
          have HRB := Lib.hid (HO.out _ HR.out.1.kids)
          obtain ⟨c0, c1, c2, c3⟩ := ch_at hc hlt
          have hd := HI.out.1.ir OL[k] (List.mem_of_mem_drop (show OL[k] ∈ openV s by rw [HOL.out]; exact List.getElem_mem hlt))
          have hrl := HI.out.1.rl
          have HST := Lib.hid (setAll_take (r := s.regs) (ds := OL.map (·.into)) (xs := OL.map (·.r)) (k := k) (by simpa using hlt) (by simpa using hlt))
          obtain ⟨j, hq⟩ : ∃ j : Nat, OL[k].into = j := ⟨OL[k].into.toNat, by omega⟩
          rw [hq] at c0
          have hqr : j < s.regs.length := by omega
          have HST2 := Lib.hid (show setAll s.regs ((OL.map (·.into)).take (k + 1)) ((OL.map (·.r)).take (k + 1)) = (setAll s.regs ((OL.map (·.into)).take k) ((OL.map (·.r)).take k)).set j OL[k].r.v by rw [HST.out]; simp [hq])
          have k1 : (k : Int) < OL.length := by omega
          have k0 : (0 : Int) ≤ k := by omega
          clear hc hb he2 he3 HST hq hd hrl
          generalize OL[k] = z at *
          have hA := alV wr (.cells #[.int .i64 j, .bool z.given, .int .i64 z.r.v, .int .i64 z.r.e] ChT)
          have HA := Lib.hid (show Vm x r pv t av (.slice ka s.kids.length kc) (.pointer none) rv { s with waits := none, joined := s.kids.length, regs := setAll s.regs ((OL.map (·.into)).take k) ((OL.map (·.r)).take k) } (wr.alloc (.cells #[.int .i64 j, .bool z.given, .int .i64 z.r.v, .int .i64 z.r.e] ChT)) ∧ Fr (fun i => i = x ∨ i = r) w (wr.alloc (.cells #[.int .i64 j, .bool z.given, .int .i64 z.r.v, .int .i64 z.r.e] ChT)) ∧ BoxAt (wr.alloc (.cells #[.int .i64 j, .bool z.given, .int .i64 z.r.v, .int .i64 z.r.e] ChT)) b (opC o) OpT from ⟨HR.out.1.below hA, HR.out.2.1.then hA, HR.out.2.2.below hA⟩)
          have hcb : BoxAt (wr.alloc (.cells #[.int .i64 j, .bool z.given, .int .i64 z.r.v, .int .i64 z.r.e] ChT)) wr.heap.size #[.int .i64 j, .bool z.given, .int .i64 z.r.v, .int .i64 z.r.e] ChT := heap_alloc_new _ _
          have HCB := Lib.hid hcb
          clear hA hcb HR
          go_upto_region 12 with fail
          generalize wr.alloc (.cells #[.int .i64 j, .bool z.given, .int .i64 z.r.v, .int .i64 z.r.e] ChT) = wa at *
          generalize wr.heap.size = cb at *
          obtain ⟨x0, x1, x2, x5, x6, x7, x8, x9, x10, x11⟩ := vm_cells HA.out.1
          have d0 := HCB.out.cell 0
          have d2 := HCB.out.cell 2
          simp only [List.getElem?_toArray, List.getElem?_cons_zero, List.getElem?_cons_succ] at d0 d2
          have g0 := regs_cell HA.out.1.regs (q := j) (by simp only []; rw [HL.out]; exact hqr)
          have g1 := HA.out.1.regs.frozen j
          simp only [] at x5
          rw [HL.out] at x5
          have q1 : (j : Int) < s.regs.length := by omega
          have q0 : (0 : Int) ≤ j := by omega
          clear x0 x1 x2 x6 x7 x8 x9 x10 x11 c0 c1 c2 c3
          go_still_tail 10, (by kernel_rfl)
          change wpList _ _ _ _ _ wa.drew
          go_wp2_with fail
          have HN := Lib.hid (show Vm x r pv t av (.slice ka s.kids.length kc) (.pointer none) rv { s with waits := none, joined := s.kids.length, regs := setAll s.regs ((OL.map (·.into)).take (k + 1)) ((OL.map (·.r)).take (k + 1)) } (wa.setCell ⟨r, j, none⟩ (.int .i64 z.r.v)).drew ∧ Fr (fun i => i = x ∨ i = r) w (wa.setCell ⟨r, j, none⟩ (.int .i64 z.r.v)).drew ∧ BoxAt (wa.setCell ⟨r, j, none⟩ (.int .i64 z.r.v)).drew b (opC o) OpT from by
            have hF : Fr (fun i => i = r) wa (wa.setCell ⟨r, j, none⟩ (.int .i64 z.r.v)) := (Fr.refl (fun i => i = r) wa).setCell (p := ⟨r, j, none⟩) rfl _
            have h1 := HA.out.1.regsX hF (set_box HA.out.1.regs z.r.v) (by simp)
            rw [HST2.out]
            exact ⟨h1.below (Below.refl _ _).drew, (HA.out.2.1.trans (hF.mono fun i hi => .inr hi)).drew, (box_typed HA.out.2.2 hF (typed_box HA.out.1.regs) (by decide)).below (Below.refl _ _).drew⟩)
          clear HA HCB x5 d0 d2 g0 g1
          go_roundg (gk - 1)
          case rel => exact ⟨k + 1, by omega, by go_num, HN⟩
          case measure => omega
        · have hkl : k = OL.length := by omega
          have H7 := Lib.hid (show Vm x r pv t av (.slice ka s.kids.length kc) (.pointer none) rv { s with waits := none, joined := s.kids.length, regs := setAll s.regs (OL.map (·.into)) (OL.map (·.r)) } wr ∧ Fr (fun i => i = x ∨ i = r) w wr ∧ BoxAt wr b (opC o) OpT from by
            have h1 := HR.out
            rw [List.take_of_length_le (by simp; omega), List.take_of_length_le (by simp; omega)] at h1
            exact h1)
          have HJD := Lib.hid (joinV_done (o := o) HOL.out HOP.out HFE.out)
          clear HR
          obtain ⟨o0, o1, o2, o3, o4⟩ := op_cells (show BoxAt _ _ _ _ from H7.out.2.2)
          clear o1 o2 o3 o4
          have hkk := HI.out.2.2
          by_cases h14 : o.k = 14
          · have HJ := Lib.hid (HJD.out.trans (if_pos h14))
            have hb14 : (o.k == 14) = true := by rw [h14]; rfl
            have HIO := Lib.hid (show o.a < (fnAt p t.fn).regs from HI.out.2.1.a (.inr (.inr h14)))
            clear HJD hkk
            go_upto_region 15 with fail
            have hrl := HI.out.1.rl
            obtain ⟨RG, hRG⟩ : ∃ l, setAll s.regs (OL.map (·.into)) (OL.map (·.r)) = l := ⟨_, rfl⟩
            have hRL : RG.length = s.regs.length := by rw [← hRG]; exact setAll_length _ _ _
            have ha0 := HI.out.2.1.a0
            have har := HIO.out
            obtain ⟨q, hqa⟩ : ∃ q : Nat, o.a = q := ⟨o.a.toNat, by omega⟩
            have hq1 : q < RG.length := by omega
            have q1 : (q : Int) < RG.length := by omega
            have q0 : (0 : Int) ≤ q := by omega
            have HQA := Lib.hid hqa
            have HRG := Lib.hid (show rg RG o.a = RG[q] by
              unfold rg
              rw [hqa, List.getD_eq_getElem?_getD, Int.toNat_natCast, List.getElem?_eq_getElem hq1]; rfl)
            rw [hRG] at H7 HJ
            clear hRG hrl ha0 har hqa hRL
            refine wp_region_held_drew (S := fun y => ∃ kv2 wv2 rv2 res, Vm x r pv t av kv2 wv2 rv2 { s with waits := none, joined := s.kids.length, regs := RG, result := res } y ∧ BoxAt y b (opC o) OpT ∧ VmL x r (.slice ka s.kids.length kc) w kv2 y) (by kernel_rfl) (by exact ⟨_, _, _, s.result, H7.out.1.below (Below.refl _ _).drew, H7.out.2.2.below (Below.refl _ _).drew, VmL.xr (H7.out.2.1.drew)⟩) (fun hHeld => ?_)
            refine wpAnyH_take (i := 0) (oi := _) (v := ?_) (by rw [List.getElem?_toArray]; exact rfl) (by kernel_rfl) (by kernel_rfl) (by kernel_rfl) (by exact fun _ _ _ h => h) (Or.inl ⟨by rfl, ?_⟩) hHeld ?_
            rotate_left
            · (intro wX hSw; clear hSw; go_simp; try with_reducible rfl)
            try simp only [Act.put, List.setIfInBounds_toArray, List.set_cons_zero, List.set_cons_succ]
            refine wpAnyH_take (i := 1) (oi := _) (v := ?_) (by rw [List.getElem?_toArray]; exact rfl) (by kernel_rfl) (by kernel_rfl) (by kernel_rfl) (by exact fun _ _ _ h => h) (Or.inl ⟨by rfl, ?_⟩) hHeld ?_
            rotate_left
            · (intro wX hSw; clear hSw; go_simp; try with_reducible rfl)
            try simp only [Act.put, List.setIfInBounds_toArray, List.set_cons_zero, List.set_cons_succ]
            refine wpAnyH_take (i := 2) (oi := _) (v := ?_) (by rw [List.getElem?_toArray]; exact rfl) (by kernel_rfl) (by kernel_rfl) (by kernel_rfl) (by exact fun _ _ _ h => h) (Or.inl ⟨by rfl, ?_⟩) hHeld ?_
            rotate_left
            · (intro wX hSw; clear hSw; go_simp; try with_reducible rfl)
            try simp only [Act.put, List.setIfInBounds_toArray, List.set_cons_zero, List.set_cons_succ]
            refine wpAnyH_take (i := 3) (oi := _) (v := ?_) (by rw [List.getElem?_toArray]; exact rfl) (by kernel_rfl) (by kernel_rfl) (by kernel_rfl) (by exact fun _ _ _ h => h) (Or.inl ⟨by rfl, ?_⟩) hHeld ?_
            rotate_left
            · (intro wX hSw; clear hSw; go_simp; try with_reducible rfl)
            try simp only [Act.put, List.setIfInBounds_toArray, List.set_cons_zero, List.set_cons_succ]
            refine wpAnyH_take (i := 4) (oi := _) (v := ?_) (by rw [List.getElem?_toArray]; exact rfl) (by kernel_rfl) (by kernel_rfl) (by kernel_rfl) (by exact fun _ _ _ h => h) (Or.inl ⟨by rfl, ?_⟩) hHeld ?_
            rotate_left
            · (intro wX hSw; obtain ⟨zkv, zwv, zrv, zres, zV, zB, zL⟩ := hSw; obtain ⟨z0, z1, z2, z5, z6, z7, z8, z9, z10, z11⟩ := vm_cells zV; obtain ⟨o0, o1, o2, o3, o4⟩ := op_cells zB; have g0 := regs_cell zV.regs (q := q) hq1; simp only [] at z5 g0; rw [HQA.out] at o2; clear zV zB zL z0 z1 z2 z6 z7 z8 z9 z10 z11 o0 o1 o3 o4; go_simp; try with_reducible rfl)
            try simp only [Act.put, List.setIfInBounds_toArray, List.set_cons_zero, List.set_cons_succ]
            refine wpAnyH_take (i := 5) (oi := _) (v := ?_) (by rw [List.getElem?_toArray]; exact rfl) (by kernel_rfl) (by kernel_rfl) (by kernel_rfl) (by exact fun _ _ _ h => h) (Or.inl ⟨by rfl, ?_⟩) hHeld ?_
            rotate_left
            · (intro wX hSw; clear hSw; go_simp; try with_reducible rfl)
            try simp only [Act.put, List.setIfInBounds_toArray, List.set_cons_zero, List.set_cons_succ]
            refine wpAnyH_take (i := 6) (oi := _) (v := ?_) (by rw [List.getElem?_toArray]; exact rfl) (by kernel_rfl) (by kernel_rfl) (by kernel_rfl) (by exact fun _ _ _ h => h) (Or.inl ⟨by rfl, ?_⟩) hHeld ?_
            rotate_left
            · (intro wX hSw; obtain ⟨zkv, zwv, zrv, zres, zV, zB, zL⟩ := hSw; obtain ⟨z0, z1, z2, z5, z6, z7, z8, z9, z10, z11⟩ := vm_cells zV; obtain ⟨o0, o1, o2, o3, o4⟩ := op_cells zB; have g0 := regs_cell zV.regs (q := q) hq1; simp only [] at z5 g0; rw [HQA.out] at o2; clear zV zB zL z0 z1 z2 z6 z7 z8 z9 z10 z11 o0 o1 o3 o4; go_simp; try with_reducible rfl)
            try simp only [Act.put, List.setIfInBounds_toArray, List.set_cons_zero, List.set_cons_succ]
            refine wpAnyH_take (i := 7) (oi := _) (v := ?_) (by rw [List.getElem?_toArray]; exact rfl) (by kernel_rfl) (by kernel_rfl) (by kernel_rfl) (by exact fun _ _ _ h => h) (Or.inl ⟨by rfl, ?_⟩) hHeld ?_
            rotate_left
            · (intro wX hSw; obtain ⟨zkv, zwv, zrv, zres, zV, zB, zL⟩ := hSw; obtain ⟨z0, z1, z2, z5, z6, z7, z8, z9, z10, z11⟩ := vm_cells zV; obtain ⟨o0, o1, o2, o3, o4⟩ := op_cells zB; have g0 := regs_cell zV.regs (q := q) hq1; simp only [] at z5 g0; rw [HQA.out] at o2; clear zV zB zL z0 z1 z2 z6 z7 z8 z9 z10 z11 o0 o1 o3 o4; go_simp; try with_reducible rfl)
            try simp only [Act.put, List.setIfInBounds_toArray, List.set_cons_zero, List.set_cons_succ]
            refine wpAnyH_take (i := 8) (oi := _) (v := ?_) (by rw [List.getElem?_toArray]; exact rfl) (by kernel_rfl) (by kernel_rfl) (by kernel_rfl) (by exact fun _ _ _ h => h) (Or.inl ⟨by rfl, ?_⟩) hHeld ?_
            rotate_left
            · (intro wX hSw; obtain ⟨zkv, zwv, zrv, zres, zV, zB, zL⟩ := hSw; obtain ⟨z0, z1, z2, z5, z6, z7, z8, z9, z10, z11⟩ := vm_cells zV; obtain ⟨o0, o1, o2, o3, o4⟩ := op_cells zB; have g0 := regs_cell zV.regs (q := q) hq1; simp only [] at z5 g0; rw [HQA.out] at o2; clear zV zB zL z0 z1 z2 z6 z7 z8 z9 z10 z11 o0 o1 o3 o4; go_simp; try with_reducible rfl)
            try simp only [Act.put, List.setIfInBounds_toArray, List.set_cons_zero, List.set_cons_succ]
            refine wpAnyH_take (i := 9) (oi := _) (v := ?_) (by rw [List.getElem?_toArray]; exact rfl) (by kernel_rfl) (by kernel_rfl) (by kernel_rfl) (by exact fun _ _ _ h => h) (Or.inl ⟨by rfl, ?_⟩) hHeld ?_
            rotate_left
            · (intro wX hSw; clear hSw; go_simp; try with_reducible rfl)
            try simp only [Act.put, List.setIfInBounds_toArray, List.set_cons_zero, List.set_cons_succ]
            refine wpAnyH_ready (rs := [10]) (by kernel_rfl) (by simp) ?_
            refine AllReadyH.cons (o := _) (by rw [List.getElem?_toArray]; exact rfl) (fun K hK => ?_) AllReadyH.nil
            go_simp
            obtain ⟨kX, wX, rX, resX, hV, hB, hL⟩ := hHeld; refine (vend_any ⟨RG[q], 0⟩ hV).mono ?_; rintro e w8 ⟨ev, kv2, wv2, rv2, rfl, j1, j2, j3, j4⟩; have HW := Lib.hid (show SpAt w.heap.size w8 ev (some (spDone ⟨RG[q], 0⟩)) ∧ Vm x r pv t av kv2 wv2 rv2 { s with waits := none, joined := s.kids.length, regs := RG, result := some ⟨RG[q], 0⟩ } w8 ∧ VmL x r (.slice ka s.kids.length kc) w kv2 w8 ∧ BoxAt w8 b (opC o) OpT from ⟨j1.mono hL.fr.size, j2, hL.trans ⟨j3, j4⟩, box_typed hB j3 hV.typedS (by decide)⟩); clear hV hB hL j1 j2 j3 j4
            go_wp2_with fail
            refine hK.out _ _ (⟨kv2, wv2, rv2, some ⟨RG[q], 0⟩, HW.out.2.1, HW.out.2.2.2, HW.out.2.2.1⟩) (fun hHeld => ?_)
            clear hK K
            try simp only [Act.put, List.setIfInBounds_toArray, List.set_cons_zero, List.set_cons_succ]
            refine wpAnyH_take (i := 11) (oi := _) (v := ?_) (by rw [List.getElem?_toArray]; exact rfl) (by kernel_rfl) (by kernel_rfl) (by kernel_rfl) (by exact fun _ _ _ h => h) (Or.inl ⟨by rfl, ?_⟩) hHeld ?_
            rotate_left
            · (intro wX hSw; clear hSw; go_simp; try with_reducible rfl)
            try simp only [Act.put, List.setIfInBounds_toArray, List.set_cons_zero, List.set_cons_succ]
            refine wpAnyH_done (by kernel_rfl) ?_ _
            go_wp2_with fail
            go_ret
            refine ⟨ev, kv2, wv2, rv2, rfl, ?_, ?_, HW.out.2.2.1.fr, HW.out.2.2.1.own⟩
            · rw [HJ.out, HRG.out]; exact HW.out.1
            · rw [HJ.out, HRG.out]; exact HW.out.2.1
          · have HJ := Lib.hid (HJD.out.trans (if_neg h14))
            have hb14 : (o.k == 14) = false := by rw [beq_eq_false_iff_ne]; exact h14
            clear HJD hkk
            go_wp2_with fail
            go_ret
            refine ⟨_, .slice ka s.kids.length kc, .pointer none, rv, rfl, ?_, ?_, H7.out.2.1.mono fun i hi => .inl hi, .inl rfl⟩
            · rw [HJ.out]; rfl
            · rw [HJ.out]; exact H7.out.1
    · rw [h1]
      have HFE := Lib.hid (And.intro h2 h3)
      obtain ⟨b2, off, c, he, hb, hc⟩ := (HO.out _ H6.out.1.kids).at (by omega)
      injection he with he1 he2 he3
      subst he1
      obtain ⟨c0, c1, c2, c3⟩ := ch_at hc hk
      have q1 : (k : Int) < OL.length := by omega
      have q0 : (0 : Int) ≤ k := by omega
      clear h1 h2 h3 hc hb c0 c1 c2
      generalize OL[k] = z at *
      go_wp2_with fail
      refine (vfail_any z.r.e H6.out.1).mono ?_
      rintro e w7 ⟨ev, kv', wv', rv', rfl, g1, g2, g3, g4⟩
      go_wp2_with fail
      go_ret
      refine ⟨ev, kv', wv', rv', rfl, ?_, ?_, (H6.out.2.1.mono fun i hi => .inl (.inl hi)).trans g3, own_later H6.out.2.1 g4⟩
      · rw [joinV_bad HOL.out HOP.out HFE.out.2 HFE.out.1]; exact g1.mono H6.out.2.1.size
      · rw [joinV_bad HOL.out HOP.out HFE.out.2 HFE.out.1]; exact g2
  · have HV := Lib.hid (H2.out.1.below H4.out)
    go_wp2_with fail
    go_ret
    have hA := alV w4 (.cells (spC ⟨3, noTk, ⟨0, 0⟩⟩ (.slice none 0 0)) StopT)
    refine ⟨_, .slice ka s.kids.length kc, .pointer (some ⟨b, 0, none⟩), rv, rfl, ?_, ?_, ((H2.out.2.1.then H4.out).then hA).mono fun i hi => .inl (.inl hi), .inl rfl⟩
    · rw [joinV_open HOL.out HOP.out]
      exact ⟨_, .slice none 0 0, rfl, heap_alloc_new w4 _, World.ownsRow_nil _ _ _ _⟩
    · rw [joinV_open HOL.out HOP.out]
      exact HV.out.below hA
end Go.Proofs.YtdhbjejejeljoaaGreat
