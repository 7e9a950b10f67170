/- Contract: vm.Frame.step. -/
import Derived.Test.YtdhbjejejeljoaaGreatVm7
import Derived.Test.YtdhbjejejeljoaaGreatVmL2
namespace Go.Proofs.YtdhbjejejeljoaaGreat
open Go.RowKit Go.Sort Go.Lib

/-- Where the op at hand lies. -/
theorem vop_look {w : World} {pv : Value} {p : List Fnc} {t : Tk} {s : Vs} (hpr : ProgAt w pv p) (h0 : 0 ≤ t.fn) (h1 : t.fn < p.length) (h2 : 0 ≤ s.pc) (h3 : s.pc < (fnAt p t.fn).ops.length) :
    ∃ (b off q : Nat), (fnAt p t.fn).oa = some ⟨b, off, none⟩ ∧ s.pc = q ∧ q < (fnAt p t.fn).ops.length ∧
      ∀ y, ProgAt y pv p → y.cell? ⟨b, off + q * 5, none⟩ = some (.int .u8 (atV p t s).k) ∧ y.cell? ⟨b, off + q * 5 + 1, none⟩ = some (.int .i64 (atV p t s).d) ∧ y.cell? ⟨b, off + q * 5 + 2, none⟩ = some (.int .i64 (atV p t s).a) ∧ y.cell? ⟨b, off + q * 5 + 3, none⟩ = some (.int .i64 (atV p t s).b) ∧ y.cell? ⟨b, off + q * 5 + 4, none⟩ = some (.int .i64 (atV p t s).n) := by
  obtain ⟨q, hq⟩ : ∃ q : Nat, s.pc = q := ⟨s.pc.toNat, by omega⟩
  obtain ⟨hl, hfe⟩ := fnAt_get h0 h1
  have hfm : fnAt p t.fn ∈ p := by rw [hfe]; exact List.getElem_mem hl
  generalize hf : fnAt p t.fn = f at *
  have hql : q < f.ops.length := by omega
  have hoe : atV p t s = f.ops[q] := by
    unfold atV
    rw [hf, hq, List.getD_eq_getElem?_getD, Int.toNat_natCast, List.getElem?_eq_getElem hql]; rfl
  obtain ⟨b, off, oc, he2, hb, hoc⟩ := (hpr.ops _ hfm).1.at (by omega)
  injection he2 with he1 _ he3
  refine ⟨b, off, q, he1, hq, hql, fun y hy => ?_⟩
  obtain ⟨b', off', oc', he2', hb', hoc'⟩ := (hy.ops _ hfm).1.at (by omega)
  injection he2' with he1' _ he3'
  rw [he1] at he1'
  injection he1' with hx
  injection hx with ex1 ex2 _
  subst ex1; subst ex2
  rw [hoe]
  exact ⟨hoc' q hql 0 _ rfl, hoc' q hql 1 _ rfl, hoc' q hql 2 _ rfl, hoc' q hql 3 _ rfl, hoc' q hql 4 _ rfl⟩
theorem vop_set {w : World} {b : Nat} {z : Opr} (h : BoxAt w b (opC z) OpT) (o : Opr) : BoxAt (((((w.setCell ⟨b, 0, none⟩ (.int .u8 o.k)).setCell ⟨b, 1, none⟩ (.int .i64 o.d)).setCell ⟨b, 2, none⟩ (.int .i64 o.a)).setCell ⟨b, 3, none⟩ (.int .i64 o.b)).setCell ⟨b, 4, none⟩ (.int .i64 o.n)) b (opC o) OpT ∧
    Fr (fun i => i = b) w (((((w.setCell ⟨b, 0, none⟩ (.int .u8 o.k)).setCell ⟨b, 1, none⟩ (.int .i64 o.d)).setCell ⟨b, 2, none⟩ (.int .i64 o.a)).setCell ⟨b, 3, none⟩ (.int .i64 o.b)).setCell ⟨b, 4, none⟩ (.int .i64 o.n)) := by
  have h1 := Go.heap_setCell_same w b 0 _ _ (.int .u8 o.k) h
  have h2 := Go.heap_setCell_same _ b 1 _ _ (.int .i64 o.d) h1
  have h3 := Go.heap_setCell_same _ b 2 _ _ (.int .i64 o.a) h2
  have h4 := Go.heap_setCell_same _ b 3 _ _ (.int .i64 o.b) h3
  exact ⟨Go.heap_setCell_same _ b 4 _ _ (.int .i64 o.n) h4, (((((Fr.refl (fun i => i = b) w).setCell (p := ⟨b, 0, none⟩) rfl _).setCell (p := ⟨b, 1, none⟩) rfl _).setCell (p := ⟨b, 2, none⟩) rfl _).setCell (p := ⟨b, 3, none⟩) rfl _).setCell (p := ⟨b, 4, none⟩) rfl _⟩
theorem vop_below {w w5 : World} {b : Nat} {z : Opr} {B : Nat} (hB : Below B w w5) (h : BoxAt w5 b (opC z) OpT) (hb : B ≤ b) (o : Opr) : Below B w (((((w5.setCell ⟨b, 0, none⟩ (.int .u8 o.k)).setCell ⟨b, 1, none⟩ (.int .i64 o.d)).setCell ⟨b, 2, none⟩ (.int .i64 o.a)).setCell ⟨b, 3, none⟩ (.int .i64 o.b)).setCell ⟨b, 4, none⟩ (.int .i64 o.n)) :=
  hB.trans ((vop_set h o).2.below (fun i hi => by omega) (by have := (Array.getElem?_eq_some_iff.1 h).1; omega))
/-- The op is at hand. -/
def StepC (B x r : Nat) (pv : Value) (p : List Fnc) (t : Tk) (av kv wv rv : Value) (s : Vs) (o : Opr) (tb : Nat) (w wc : World) : Prop :=
  (Vm x r pv t av kv wv rv s wc ∧ ProgOwn B wc pv p ∧ BoxAt wc tb (opC o) OpT) ∧ Fr (fun i => i = x) w wc
theorem StepC.of {B x r : Nat} {pv : Value} {p : List Fnc} {t : Tk} {av kv wv rv : Value} {s : Vs} {o : Opr} {tb : Nat} {w w1 wc : World} (h : (Vm x r pv t av kv wv rv s w1 ∧ ProgOwn B w1 pv p) ∧ Fr (fun i => i = x) w w1) (hB : Below w1.heap.size w1 wc) (hb : BoxAt wc tb (opC o) OpT) : StepC B x r pv p t av kv wv rv s o tb w wc :=
  ⟨⟨h.1.1.below hB, h.1.2.below hB, hb⟩, h.2.then hB⟩
set_option maxHeartbeats 6400000 in
set_option maxRecDepth 100000 in
theorem vstep_any {B x r : Nat} {pv : Value} {t : Tk} {av kv wv rv : Value} {s : Vs} {w : World} {p : List Fnc} (h : Vm x r pv t av kv wv rv s w) (hp : WfP p) (hpr : ProgOwn B w pv p) (ht : TkOk p t) (hi : InvV p t s) (hr : Runs s) (ha : s.pc < (fnAt p t.fn).ops.length) :
    Calls Tryz.prog 32 #[.pointer (some ⟨x, 0, none⟩)] w (VmP x r pv t av kv (stepV p t s) w) := by
  have H := Lib.hid (show Vm x r pv t av kv wv rv s w ∧ ProgOwn B w pv p from ⟨h, hpr⟩)
  have HP := Lib.hid (And.intro hp ht)
  have HI := Lib.hid (And.intro hi (And.intro hr ha))
  have hl0 := hi.l0
  have hl1 := hi.l1
  have hp0 := hi.pc0
  have hp1 := hi.pc1
  clear h hp hpr ht hi hr ha
  obtain ⟨x0, x1, x2, x5, x6, x7, x8, x9, x10, x11⟩ := vm_cells H.out.1
  have f6 := H.out.1.box.frozen 6
  clear x0 x1 x2 x5 x7 x8 x9 x10 x11
  go_enter Tryz.func32, Tryz.ntmps32
  by_cases h0 : s.left = 0
  · have e0 : (s.left == 0) = true := by simp [h0]
    have HS := Lib.hid (show stepV p t s = endV s ⟨0, 130⟩ by unfold stepV; rw [if_pos h0])
    clear h0
    go_wp2_with fail
    refine (vfail_any 130 H.out.1).mono ?_
    rintro e w7 ⟨ev, kv', wv', rv', rfl, g⟩
    go_wp2_with fail
    go_ret
    exact ⟨ev, kv', wv', rv', rfl, by rw [HS.out]; exact g⟩
  have e0 : (s.left == 0) = false := by simp [h0]
  have d1 : IntKind.i64.wrap (s.left - 1) = s.left - 1 := IntWalk.i64_in _ (by omega)
  have HS := Lib.hid (show stepV p t s = opV2 p t { s with left := s.left - 1, pc := s.pc + 1 } (atV p t s) by unfold stepV; rw [if_neg h0])
  have hlp : 0 < s.left := by omega
  clear h0
  go_upto_region 4 with fail
  have hF1 : Fr (fun i => i = x) w (w.setCell ⟨x, 6, none⟩ (.int .i64 (s.left - 1))) := (Fr.refl (fun i => i = x) w).setCell (p := ⟨x, 6, none⟩) rfl _
  have hb1 : BoxAt (w.setCell ⟨x, 6, none⟩ (.int .i64 (s.left - 1))) x (vmC pv t av r { s with left := s.left - 1 } kv wv rv) FrameT := Go.heap_setCell_same w x 6 _ _ _ H.out.1.box
  have hT1 := typed_box H.out.1.box
  have H1 := Lib.hid (show (Vm x r pv t av kv wv rv { s with left := s.left - 1 } (w.setCell ⟨x, 6, none⟩ (.int .i64 (s.left - 1))) ∧ ProgOwn B (w.setCell ⟨x, 6, none⟩ (.int .i64 (s.left - 1))) pv p) ∧ Fr (fun i => i = x) w (w.setCell ⟨x, 6, none⟩ (.int .i64 (s.left - 1))) from
    ⟨⟨H.out.1.boxX hF1 hb1 rfl rfl (H.out.1.wt.typed hF1 hT1 (by decide)) (H.out.1.rs.typed hF1 hT1 (by decide)), H.out.2.typed hF1 hT1 (by decide) (by decide)⟩, hF1⟩)
  clear hF1 hb1 hT1 x6 f6 d1 e0
  generalize w.setCell ⟨x, 6, none⟩ (.int .i64 (s.left - 1)) = w1 at *
  have HA1 := Lib.hid (H1.out.1.2.at HP.out.1)
  obtain ⟨b, off, q, hoa, hq, hql, hlook⟩ := vop_look (s := s) HA1.out HP.out.2.f0 HP.out.2.f1 hp0 HI.out.2.2
  have HO := Lib.hid (atV_ok HP.out.1 HP.out.2 hp0 HI.out.2.2)
  obtain ⟨o, hoe⟩ : ∃ o, atV p t s = o := ⟨_, rfl⟩
  rw [hoe] at hlook HO HS
  have HLK := Lib.hid hlook
  have HC := Lib.hid (show ∀ y, Below w1.heap.size w1 y → Calls Tryz.prog 56 #[.pointer (some ⟨x, 0, none⟩)] y (fun e w' => e = .returned (.slice (some ⟨b, off, none⟩) (fnAt p t.fn).ops.length (fnAt p t.fn).oc) ∧ Below y.heap.size y w') from fun y hy => by
    have h1 := vops_any (H1.out.1.1.below hy) (HA1.out.below hy) HP.out.2.f0 HP.out.2.f1
    rw [hoa] at h1
    refine h1.mono ?_
    rintro e w' ⟨h2, m, rfl⟩
    exact ⟨h2, below_drewN (Below.refl _ _) m⟩)
  obtain ⟨n, hn⟩ : ∃ n, (fnAt p t.fn).ops.length = n := ⟨_, rfl⟩
  generalize (fnAt p t.fn).oc = oc at HC
  rw [hn] at HC hql
  have i2 : (q : Int) < n := by omega
  have i4 : (0 : Int) ≤ q := by omega
  have HQ := Lib.hid hq
  clear hlook hoa hoe hn hq hql
  go_upto_region 4 with fail
  go_cut [3] (fun t3 wc => ∃ tb, t3 = .pointer (some ⟨tb, 0, none⟩) ∧ Hid (StepC B x r pv p t av kv wv rv { s with left := s.left - 1 } o tb w wc))
  case first =>
    refine wp_region_held_drew (S := fun y => Below w1.heap.size w1 y) (by kernel_rfl) ((Below.refl _ _).drew) (fun hHeld => ?_)
    refine wpAnyH_take (i := 0) (oi := _) (v := ?_) (by rw [List.getElem?_toArray]; exact rfl) (by kernel_rfl) (by kernel_rfl) (by kernel_rfl) (by exact fun _ _ _ h => h) (Or.inl ⟨by rfl, ?_⟩) hHeld ?_
    rotate_left
    · (intro wX hSw; clear hSw; go_simp; try with_reducible rfl)
    try simp only [Act.put, List.setIfInBounds_toArray, List.set_cons_zero, List.set_cons_succ]
    refine wpAnyH_take (i := 1) (oi := _) (v := ?_) (by rw [List.getElem?_toArray]; exact rfl) (by kernel_rfl) (by kernel_rfl) (by kernel_rfl) (by exact fun _ _ _ h => h) (Or.inl ⟨by rfl, ?_⟩) hHeld ?_
    rotate_left
    · (intro wX hSw; clear hSw; go_simp; try with_reducible rfl)
    try simp only [Act.put, List.setIfInBounds_toArray, List.set_cons_zero, List.set_cons_succ]
    refine wpAnyH_take (i := 2) (oi := _) (v := ?_) (by rw [List.getElem?_toArray]; exact rfl) (by kernel_rfl) (by kernel_rfl) (by kernel_rfl) (by exact fun _ _ _ h => h) (Or.inl ⟨by rfl, ?_⟩) hHeld ?_
    rotate_left
    · (intro wX hSw; clear hSw; go_simp; try with_reducible rfl)
    try simp only [Act.put, List.setIfInBounds_toArray, List.set_cons_zero, List.set_cons_succ]
    refine wpAnyH_take (i := 4) (oi := _) (v := ?_) (by rw [List.getElem?_toArray]; exact rfl) (by kernel_rfl) (by kernel_rfl) (by kernel_rfl) (by exact fun _ _ _ h => h) (Or.inl ⟨by rfl, ?_⟩) hHeld ?_
    rotate_left
    · (intro wX hSw; clear hSw; go_simp; try with_reducible rfl)
    try simp only [Act.put, List.setIfInBounds_toArray, List.set_cons_zero, List.set_cons_succ]
    refine wpAnyH_take (i := 5) (oi := _) (v := ?_) (by rw [List.getElem?_toArray]; exact rfl) (by kernel_rfl) (by kernel_rfl) (by kernel_rfl) (by exact fun _ _ _ h => h) (Or.inl ⟨by rfl, ?_⟩) hHeld ?_
    rotate_left
    · (intro wX hSw; clear hSw; go_simp; try with_reducible rfl)
    try simp only [Act.put, List.setIfInBounds_toArray, List.set_cons_zero, List.set_cons_succ]
    refine wpAnyH_take (i := 6) (oi := _) (v := ?_) (by rw [List.getElem?_toArray]; exact rfl) (by kernel_rfl) (by kernel_rfl) (by kernel_rfl) (by exact fun _ _ _ h => h) (Or.inl ⟨by rfl, ?_⟩) hHeld ?_
    rotate_left
    · (intro wX hSw; clear hSw; go_simp; try with_reducible rfl)
    try simp only [Act.put, List.setIfInBounds_toArray, List.set_cons_zero, List.set_cons_succ]
    refine wpAnyH_take (i := 7) (oi := _) (v := ?_) (by rw [List.getElem?_toArray]; exact rfl) (by kernel_rfl) (by kernel_rfl) (by kernel_rfl) (by exact fun _ _ _ h => h) (Or.inl ⟨by rfl, ?_⟩) hHeld ?_
    rotate_left
    · (intro wX hSw; obtain ⟨z0, z1, z2, z5, z6, z7, z8, z9, z10, z11⟩ := vm_cells (H1.out.1.1.below hSw); obtain ⟨k0, k1, k2, k3, k4⟩ := HLK.out _ (HA1.out.below hSw); simp only [] at z7; rw [HQ.out] at z7; clear hSw z0 z1 z2 z5 z6 z8 z9 z10 z11; go_simp; try with_reducible rfl)
    try simp only [Act.put, List.setIfInBounds_toArray, List.set_cons_zero, List.set_cons_succ]
    refine wpAnyH_ready (rs := [3, 10]) (by kernel_rfl) (by simp) ?_
    refine AllReadyH.cons (o := _) (by rw [List.getElem?_toArray]; exact rfl) (fun K hK => ?_) ?_
    · go_simp
      refine (HC.out _ hHeld).mono ?_; rintro e w5 ⟨rfl, hB⟩
      go_wp2_with fail
      refine hK.out _ _ (gthen hHeld hB) (fun hHeld => ?_)
      clear hK K
      try simp only [Act.put, List.setIfInBounds_toArray, List.set_cons_zero, List.set_cons_succ]
      refine wpAnyH_take (i := 8) (oi := _) (v := ?_) (by rw [List.getElem?_toArray]; exact rfl) (by kernel_rfl) (by kernel_rfl) (by kernel_rfl) (by exact fun _ _ _ h => h) (Or.inl ⟨by rfl, ?_⟩) hHeld ?_
      rotate_left
      · (intro wX hSw; clear hSw; go_simp; try with_reducible rfl)
      try simp only [Act.put, List.setIfInBounds_toArray, List.set_cons_zero, List.set_cons_succ]
      refine wpAnyH_take (i := 9) (oi := _) (v := ?_) (by rw [List.getElem?_toArray]; exact rfl) (by kernel_rfl) (by kernel_rfl) (by kernel_rfl) (by exact fun _ _ _ h => h) (Or.inl ⟨by rfl, ?_⟩) hHeld ?_
      rotate_left
      · (intro wX hSw; obtain ⟨z0, z1, z2, z5, z6, z7, z8, z9, z10, z11⟩ := vm_cells (H1.out.1.1.below hSw); obtain ⟨k0, k1, k2, k3, k4⟩ := HLK.out _ (HA1.out.below hSw); simp only [] at z7; rw [HQ.out] at z7; clear hSw z0 z1 z2 z5 z6 z8 z9 z10 z11; go_simp; try with_reducible rfl)
      try simp only [Act.put, List.setIfInBounds_toArray, List.set_cons_zero, List.set_cons_succ]
      refine wpAnyH_ready (rs := [10]) (by kernel_rfl) (by simp) ?_
      refine AllReadyH.cons (o := _) (by rw [List.getElem?_toArray]; exact rfl) (fun K hK => ?_) AllReadyH.nil
      have HB5 := Lib.hid hHeld
      go_simp
      refine hK.out _ _ (gthen hHeld (alV _ _)) (fun hHeld => ?_)
      clear hK K
      try simp only [Act.put, List.setIfInBounds_toArray, List.set_cons_zero, List.set_cons_succ]
      refine wpAnyH_ready (rs := [11]) (by kernel_rfl) (by simp) ?_
      refine AllReadyH.cons (o := _) (by rw [List.getElem?_toArray]; exact rfl) (fun K hK => ?_) AllReadyH.nil
      go_simp
      refine hK.out _ _ (gthen HB5.out (alV _ _)) (fun hHeld => ?_)
      clear hK K
      try simp only [Act.put, List.setIfInBounds_toArray, List.set_cons_zero, List.set_cons_succ]
      refine wpAnyH_done (by kernel_rfl) ?_ _
      go_wp2_with fail
      go_meet
      exact ⟨_, rfl, StepC.of H1.out hHeld (heap_alloc_new _ _)⟩
    refine AllReadyH.cons (o := _) (by rw [List.getElem?_toArray]; exact rfl) (fun K hK => ?_) ?_
    · have HB5 := Lib.hid hHeld
      go_simp
      refine hK.out _ _ (gthen hHeld (alV _ _)) (fun hHeld => ?_)
      clear hK K
      try simp only [Act.put, List.setIfInBounds_toArray, List.set_cons_zero, List.set_cons_succ]
      refine wpAnyH_ready (rs := [3]) (by kernel_rfl) (by simp) ?_
      refine AllReadyH.cons (o := _) (by rw [List.getElem?_toArray]; exact rfl) (fun K hK => ?_) AllReadyH.nil
      go_simp
      refine (HC.out _ hHeld).mono ?_; rintro e w5 ⟨rfl, hB⟩; have HX := Lib.hid (show BoxAt w5 w1.heap.size (opC ⟨0, 0, 0, 0, 0⟩) OpT from BoxAt.below (show BoxAt (w1.alloc (.cells #[.int .u8 0, .int .i64 0, .int .i64 0, .int .i64 0, .int .i64 0] OpT)).drew w1.heap.size (opC ⟨0, 0, 0, 0, 0⟩) OpT from BoxAt.below (heap_alloc_new w1 _) (Below.refl _ _).drew) hB); obtain ⟨e0, e1, e2, e3, e4⟩ := op_cells HX.out; have g0 := HX.out.frozen 0; have g1 := HX.out.frozen 1; have g2 := HX.out.frozen 2; have g3 := HX.out.frozen 3; have g4 := HX.out.frozen 4; simp only [] at e0 e1 e2 e3 e4
      go_wp2_with fail
      refine hK.out _ _ (gthen hHeld hB) (fun hHeld => ?_)
      clear hK K
      try simp only [Act.put, List.setIfInBounds_toArray, List.set_cons_zero, List.set_cons_succ]
      refine wpAnyH_take (i := 8) (oi := _) (v := ?_) (by rw [List.getElem?_toArray]; exact rfl) (by kernel_rfl) (by kernel_rfl) (by kernel_rfl) (by exact fun _ _ _ h => h) (Or.inl ⟨by rfl, ?_⟩) hHeld ?_
      rotate_left
      · (intro wX hSw; clear hSw; go_simp; try with_reducible rfl)
      try simp only [Act.put, List.setIfInBounds_toArray, List.set_cons_zero, List.set_cons_succ]
      refine wpAnyH_take (i := 9) (oi := _) (v := ?_) (by rw [List.getElem?_toArray]; exact rfl) (by kernel_rfl) (by kernel_rfl) (by kernel_rfl) (by exact fun _ _ _ h => h) (Or.inl ⟨by rfl, ?_⟩) hHeld ?_
      rotate_left
      · (intro wX hSw; obtain ⟨z0, z1, z2, z5, z6, z7, z8, z9, z10, z11⟩ := vm_cells (H1.out.1.1.below hSw); obtain ⟨k0, k1, k2, k3, k4⟩ := HLK.out _ (HA1.out.below hSw); simp only [] at z7; rw [HQ.out] at z7; clear hSw z0 z1 z2 z5 z6 z8 z9 z10 z11; go_simp; try with_reducible rfl)
      try simp only [Act.put, List.setIfInBounds_toArray, List.set_cons_zero, List.set_cons_succ]
      refine wpAnyH_ready (rs := [11]) (by kernel_rfl) (by simp) ?_
      refine AllReadyH.cons (o := _) (by rw [List.getElem?_toArray]; exact rfl) (fun K hK => ?_) AllReadyH.nil
      go_simp
      refine hK.out _ _ (vop_below hHeld HX.out (Nat.le_refl _) o) (fun hHeld => ?_)
      clear hK K
      try simp only [Act.put, List.setIfInBounds_toArray, List.set_cons_zero, List.set_cons_succ]
      refine wpAnyH_done (by kernel_rfl) ?_ _
      go_wp2_with fail
      go_meet
      exact ⟨_, rfl, StepC.of H1.out hHeld (vop_set HX.out o).1⟩
    exact AllReadyH.nil
  case rest =>
    obtain ⟨tb, rfl, H2⟩ := hcut
    clear H H1 HA1 HC HLK i2 i4
    have x7 := (vm_cells H2.out.1.1).2.2.2.2.2.1
    have f7 := H2.out.1.1.box.frozen 7
    simp only [] at x7
    have d1 : IntKind.i64.wrap (s.pc + 1) = s.pc + 1 := IntWalk.i64_in _ (by omega)
    go_upto_region 6 with fail
    have hF1 : Fr (fun i => i = x) wc (wc.setCell ⟨x, 7, none⟩ (.int .i64 (s.pc + 1))) := (Fr.refl (fun i => i = x) wc).setCell (p := ⟨x, 7, none⟩) rfl _
    have hb1 : BoxAt (wc.setCell ⟨x, 7, none⟩ (.int .i64 (s.pc + 1))) x (vmC pv t av r { s with left := s.left - 1, pc := s.pc + 1 } kv wv rv) FrameT := Go.heap_setCell_same wc x 7 _ _ _ H2.out.1.1.box
    have hT1 := typed_box H2.out.1.1.box
    have H3 := Lib.hid (show StepC B x r pv p t av kv wv rv { s with left := s.left - 1, pc := s.pc + 1 } o tb w (wc.setCell ⟨x, 7, none⟩ (.int .i64 (s.pc + 1))) from
      ⟨⟨H2.out.1.1.boxX hF1 hb1 rfl rfl (H2.out.1.1.wt.typed hF1 hT1 (by decide)) (H2.out.1.1.rs.typed hF1 hT1 (by decide)), H2.out.1.2.1.typed hF1 hT1 (by decide) (by decide), box_typed H2.out.1.2.2 hF1 hT1 (by decide)⟩, H2.out.2.trans hF1⟩)
    clear hF1 hb1 hT1 x7 f7 d1 H2
    generalize wc.setCell ⟨x, 7, none⟩ (.int .i64 (s.pc + 1)) = w3 at *
    have hi1 : InvV p t { s with left := s.left - 1, pc := s.pc + 1 } := ⟨HI.out.1.rl, by simp only []; omega, by have := HI.out.2.2; have := (HP.out.1.fn HP.out.2.f0 HP.out.2.f1).o1; simp only []; omega, by simp only []; omega, by simp only []; omega, HI.out.1.k1, HI.out.1.jl, HI.out.1.ir, HI.out.1.wt⟩
    have HI1 := Lib.hid hi1
    have hr1 : Runs { s with left := s.left - 1, pc := s.pc + 1 } := HI.out.2.1
    have HR1 := Lib.hid hr1
    clear hi1 hr1 HI
    generalize { s with left := s.left - 1, pc := s.pc + 1 } = s1 at *
    obtain ⟨k0, k1, k2, k3, k4⟩ := op_cells H3.out.1.2.2
    have hd0 := HO.out.d0
    have ha0 := HO.out.a0
    have hok1 := HO.out.k1
    have hok2 := HO.out.k2
    have hrl := HI1.out.rl
    by_cases e1 : o.k = 1
    · have b1 : (o.k == 1) = true := by simp [e1]
      have HE := Lib.hid (show opV2 p t s1 o = (none, { s1 with regs := s1.regs.set o.d.toNat o.n }) by unfold opV2; rw [if_pos e1])
      have hdr := HO.out.d (.inl (by omega))
      obtain ⟨j, hj⟩ : ∃ j : Nat, o.d = j := ⟨o.d.toNat, by omega⟩
      have hq1 : j < s1.regs.length := by omega
      have hq2 : (j : Int) < s1.regs.length := by omega
      have hq0 : (0 : Int) ≤ j := by omega
      rw [hj] at k1
      have HJ := Lib.hid (show o.d.toNat = j by omega)
      have x5 := (vm_cells H3.out.1.1).2.2.2.1
      have g0 := regs_cell H3.out.1.1.regs (q := j) hq1
      have g1 := H3.out.1.1.regs.frozen j
      clear e1 hj hrl hdr hd0 ha0 hok1 hok2 hl0 hl1 hp0 hp1 hlp
      go_upto_region 12 with fail
      go_still_tail 9, (by kernel_rfl)
      change wpList _ _ _ _ _ w3.drew
      go_wp2_with fail
      go_ret
      have hF : Fr (fun i => i = r) w3 (w3.setCell ⟨r, j, none⟩ (.int .i64 o.n)) := (Fr.refl (fun i => i = r) w3).setCell (p := ⟨r, j, none⟩) rfl _
      have h1 := H3.out.1.1.regsX hF (set_box H3.out.1.1.regs o.n) (by simp)
      have hFW : Fr (VmS x r kv) w (w3.setCell ⟨r, j, none⟩ (.int .i64 o.n)).drew := ((H3.out.2.mono fun i hi => .inl (.inl hi)).trans (hF.mono fun i hi => .inl (.inr hi))).drew
      refine ⟨_, kv, wv, rv, rfl, ?_, ?_, hFW, .inl rfl⟩
      · rw [HS.out, HE.out]; rfl
      · rw [HS.out, HE.out, HJ.out]; exact h1.below (Below.refl _ _).drew
    have b1 : (o.k == 1) = false := by simp [e1]
    by_cases e10 : o.k = 10
    · have b10 : (o.k == 10) = true := by simp [e10]
      have HE := Lib.hid (show opV2 p t s1 o = (none, { s1 with pc := o.n }) by unfold opV2; rw [if_neg e1, if_pos e10])
      have f7 := H3.out.1.1.box.frozen 7
      have x7 := (vm_cells H3.out.1.1).2.2.2.2.2.1
      clear e1 e10 hrl hd0 ha0 hok1 hok2 hl0 hl1 hp0 hp1 hlp
      go_wp2_with fail
      go_ret
      have hF : Fr (fun i => i = x) w3 (w3.setCell ⟨x, 7, none⟩ (.int .i64 o.n)) := (Fr.refl (fun i => i = x) w3).setCell (p := ⟨x, 7, none⟩) rfl _
      have hT := typed_box H3.out.1.1.box
      refine ⟨_, kv, wv, rv, rfl, ?_, ?_, (H3.out.2.trans hF).mono fun i hi => .inl (.inl hi), .inl rfl⟩
      · rw [HS.out, HE.out]; rfl
      · rw [HS.out, HE.out]
        exact H3.out.1.1.boxX (s' := { s1 with pc := o.n }) hF (Go.heap_setCell_same w3 x 7 _ _ _ H3.out.1.1.box) rfl rfl (H3.out.1.1.wt.typed hF hT (by decide)) (H3.out.1.1.rs.typed hF hT (by decide))
    have b10 : (o.k == 10) = false := by simp [e10]
    by_cases e11 : o.k = 11
    · have b11 : (o.k == 11) = true := by simp [e11]
      have har := HO.out.a (.inr (.inl e11))
      obtain ⟨j, hj⟩ : ∃ j : Nat, o.a = j := ⟨o.a.toNat, by omega⟩
      have hq1 : j < s1.regs.length := by omega
      have hq2 : (j : Int) < s1.regs.length := by omega
      have hq0 : (0 : Int) ≤ j := by omega
      rw [hj] at k2
      have hga : rg s1.regs o.a = s1.regs[j] := by
        unfold rg
        rw [hj, List.getD_eq_getElem?_getD, Int.toNat_natCast, List.getElem?_eq_getElem hq1]; rfl
      have HE := Lib.hid (show opV2 p t s1 o = (none, if rg s1.regs o.a = 0 then s1 else { s1 with pc := o.n }) by unfold opV2; rw [if_neg e1, if_neg e10, if_pos e11])
      rw [hga] at HE
      have x5 := (vm_cells H3.out.1.1).2.2.2.1
      have g0 := regs_cell H3.out.1.1.regs (q := j) hq1
      generalize s1.regs[j] = v at *
      clear e1 e10 e11 hj hrl har hd0 ha0 hok1 hok2 hl0 hl1 hp0 hp1 hlp hga
      go_upto_region 16 with fail
      go_quiet (fail)
      have hq : Below w3.heap.size w3 (w3.drewN nq) := below_drewN (Below.refl _ _) nq
      have H4 := Lib.hid (show StepC B x r pv p t av kv wv rv s1 o tb w (w3.drewN nq) from ⟨⟨H3.out.1.1.below hq, H3.out.1.2.1.below hq, H3.out.1.2.2.below hq⟩, H3.out.2.then hq⟩)
      clear H3 x5 g0 k0 k1 k2 k3 k4 hq
      generalize w3.drewN nq = w4 at *
      obtain ⟨k0, k1, k2, k3, k4⟩ := op_cells H4.out.1.2.2
      have f7 := H4.out.1.1.box.frozen 7
      have x7 := (vm_cells H4.out.1.1).2.2.2.2.2.1
      by_cases hv : v = 0
      · have hv1 : (v != 0) = false := by simp [hv]
        have hv2 : (v == 0) = true := by simp [hv]
        have HV := Lib.hid hv
        clear hv
        go_wp2_with fail
        go_ret
        refine ⟨_, kv, wv, rv, rfl, ?_, ?_, H4.out.2.mono fun i hi => .inl (.inl hi), .inl rfl⟩
        · rw [HS.out, HE.out]; rfl
        · rw [HS.out, HE.out, if_pos HV.out]; exact H4.out.1.1
      · have hv1 : (v != 0) = true := by simpa using hv
        have hv2 : (v == 0) = false := by simpa using hv
        have HV := Lib.hid hv
        clear hv
        go_wp2_with fail
        go_ret
        have hF : Fr (fun i => i = x) w4 (w4.setCell ⟨x, 7, none⟩ (.int .i64 o.n)) := (Fr.refl (fun i => i = x) w4).setCell (p := ⟨x, 7, none⟩) rfl _
        have hT := typed_box H4.out.1.1.box
        refine ⟨_, kv, wv, rv, rfl, ?_, ?_, (H4.out.2.trans hF).mono fun i hi => .inl (.inl hi), .inl rfl⟩
        · rw [HS.out, HE.out]; rfl
        · rw [HS.out, HE.out, if_neg HV.out]
          exact H4.out.1.1.boxX (s' := { s1 with pc := o.n }) hF (Go.heap_setCell_same w4 x 7 _ _ _ H4.out.1.1.box) rfl rfl (H4.out.1.1.wt.typed hF hT (by decide)) (H4.out.1.1.rs.typed hF hT (by decide))
    have b11 : (o.k == 11) = false := by simp [e11]
    by_cases e12 : o.k = 12
    · have b12 : (o.k == 12) = true := by simp [e12]
      have HE := Lib.hid (show opV2 p t s1 o = forkV p t s1 o by unfold opV2; rw [if_neg e1, if_neg e10, if_neg e11, if_pos e12])
      have HF := Lib.hid (vfork_any H3.out.1.1 HP.out.1 (H3.out.1.2.1.at HP.out.1) HP.out.2 HI1.out HO.out e12)
      clear e1 e10 e11 e12 hrl hd0 ha0 hok1 hok2 hl0 hl1 hp0 hp1 hlp
      go_wp2_with fail
      refine HF.out.mono ?_
      rintro e w7 ⟨ev, kv', wv', rv', rfl, g1, g2, g3, g4⟩
      go_wp2_with fail
      go_ret
      have hF := H3.out.2
      refine ⟨ev, kv', wv', rv', rfl, by rw [HS.out, HE.out]; exact g1.mono hF.size, by rw [HS.out, HE.out]; exact g2, (hF.mono fun i hi => .inl (.inl hi)).trans g3, own_later hF g4⟩
    have b12 : (o.k == 12) = false := by simp [e12]
    by_cases e13 : o.k = 13 ∨ o.k = 14
    · have HE := Lib.hid (show opV2 p t s1 o = joinV s1 o by unfold opV2; rw [if_neg e1, if_neg e10, if_neg e11, if_neg e12, if_pos e13])
      have HF := Lib.hid (vjoin_any H3.out.1.1 HI1.out HO.out e13)
      have HT : ∀ e w7, VmP x r pv t av kv (joinV s1 o) w3 e w7 → VmP x r pv t av kv (stepV p t s) w e w7 := by
        rintro e w7 ⟨ev, kv', wv', rv', rfl, g1, g2, g3, g4⟩
        have hF := H3.out.2
        exact ⟨ev, kv', wv', rv', rfl, by rw [HS.out, HE.out]; exact g1.mono hF.size, by rw [HS.out, HE.out]; exact g2, (hF.mono fun i hi => .inl (.inl hi)).trans g3, own_later hF g4⟩
      have HTT := Lib.hid HT
      clear HT
      rcases e13 with e13 | e13
      · have b13 : (o.k == 13) = true := by simp [e13]
        clear e1 e10 e11 e12 e13 hrl hd0 ha0 hok1 hok2 hl0 hl1 hp0 hp1 hlp
        go_wp2_with fail
        refine HF.out.mono ?_
        rintro e w7 ⟨ev, kv', wv', rv', rfl, g⟩
        go_wp2_with fail
        go_ret
        exact HTT.out _ _ ⟨ev, kv', wv', rv', rfl, g⟩
      · have b13 : (o.k == 13) = false := by simp [e13]
        have b14 : (o.k == 14) = true := by simp [e13]
        clear e1 e10 e11 e12 e13 hrl hd0 ha0 hok1 hok2 hl0 hl1 hp0 hp1 hlp
        go_wp2_with fail
        refine HF.out.mono ?_
        rintro e w7 ⟨ev, kv', wv', rv', rfl, g⟩
        go_wp2_with fail
        go_ret
        exact HTT.out _ _ ⟨ev, kv', wv', rv', rfl, g⟩
    have b13 : (o.k == 13) = false := by simp; omega
    have b14 : (o.k == 14) = false := by simp; omega
    have HF := Lib.hid (vcalc_any H3.out.1.1 HI1.out.rl HO.out (by omega) (by omega))
    have hdr := HO.out.d (.inl (by omega))
    obtain ⟨j, hj⟩ : ∃ j : Nat, o.d = j := ⟨o.d.toNat, by omega⟩
    have hq1 : j < s1.regs.length := by omega
    have hq2 : (j : Int) < s1.regs.length := by omega
    have hq0 : (0 : Int) ≤ j := by omega
    have HJ := Lib.hid (show o.d.toNat = j by omega)
    have HJJ := Lib.hid hj
    cases hc : calcP o.k (rg s1.regs o.a) (rg s1.regs o.b) with
    | none =>
      have HE := Lib.hid (show opV2 p t s1 o = endV s1 ⟨0, 131⟩ by unfold opV2; rw [if_neg e1, if_neg e10, if_neg e11, if_neg e12, if_neg e13, hc])
      rw [hc] at HF
      clear e1 e10 e11 e12 e13 hrl hd0 ha0 hok1 hok2 hl0 hl1 hp0 hp1 hlp hc hj hdr
      go_wp2_with fail
      refine HF.out.mono ?_
      rintro e w4 ⟨rfl, hB⟩
      have H4 := Lib.hid (show StepC B x r pv p t av kv wv rv s1 o tb w w4 from ⟨⟨H3.out.1.1.below hB, H3.out.1.2.1.below hB, H3.out.1.2.2.below hB⟩, H3.out.2.then hB⟩)
      clear H3 hB k0 k1 k2 k3 k4
      simp only [calcV, Option.getD_none, Option.isSome_none]
      go_wp2_with fail
      refine (vfail_any 131 H4.out.1.1).mono ?_
      rintro e w7 ⟨ev, kv', wv', rv', rfl, g1, g2, g3, g4⟩
      go_wp2_with fail
      go_ret
      have hF := H4.out.2
      exact ⟨ev, kv', wv', rv', rfl, by rw [HS.out, HE.out]; exact g1.mono hF.size, by rw [HS.out, HE.out]; exact g2, (hF.mono fun i hi => .inl (.inl hi)).trans g3, own_later hF g4⟩
    | some v =>
      have HE := Lib.hid (show opV2 p t s1 o = (none, { s1 with regs := s1.regs.set o.d.toNat v }) by unfold opV2; rw [if_neg e1, if_neg e10, if_neg e11, if_neg e12, if_neg e13, hc])
      rw [hc] at HF
      clear e1 e10 e11 e12 e13 hrl hd0 ha0 hok1 hok2 hl0 hl1 hp0 hp1 hlp hc hj hdr
      go_wp2_with fail
      refine HF.out.mono ?_
      rintro e w4 ⟨rfl, hB⟩
      have H4 := Lib.hid (show StepC B x r pv p t av kv wv rv s1 o tb w w4 from ⟨⟨H3.out.1.1.below hB, H3.out.1.2.1.below hB, H3.out.1.2.2.below hB⟩, H3.out.2.then hB⟩)
      clear H3 hB k0 k1 k2 k3 k4
      simp only [calcV, Option.getD_some, Option.isSome_some]
      go_upto_region 10 with fail
      have k1 := (op_cells H4.out.1.2.2).2.1
      rw [HJJ.out] at k1
      have x5 := (vm_cells H4.out.1.1).2.2.2.1
      have g0 := regs_cell H4.out.1.1.regs (q := j) hq1
      have g1 := H4.out.1.1.regs.frozen j
      go_still_tail 8, (by kernel_rfl)
      change wpList _ _ _ _ _ w4.drew
      go_wp2_with fail
      go_ret
      have hF : Fr (fun i => i = r) w4 (w4.setCell ⟨r, j, none⟩ (.int .i64 v)) := (Fr.refl (fun i => i = r) w4).setCell (p := ⟨r, j, none⟩) rfl _
      have h1 := H4.out.1.1.regsX hF (set_box H4.out.1.1.regs v) (by simp)
      have hFW : Fr (VmS x r kv) w (w4.setCell ⟨r, j, none⟩ (.int .i64 v)).drew := ((H4.out.2.mono fun i hi => .inl (.inl hi)).trans (hF.mono fun i hi => .inl (.inr hi))).drew
      refine ⟨_, kv, wv, rv, rfl, ?_, ?_, hFW, .inl rfl⟩
      · rw [HS.out, HE.out]; rfl
      · rw [HS.out, HE.out, HJ.out]; exact h1.below (Below.refl _ _).drew
end Go.Proofs.YtdhbjejejeljoaaGreat
