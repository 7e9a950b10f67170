/- Contract: vm.Frame.fork. (Region 1 printed by gen/genvm7.py.) -/
import Derived.Test.YtdhbjejejeljoaaVm6
import Derived.Test.YtdhbjejejeljoaaOwnPg
import Derived.BigRegion
import Derived.Deep.RegionLaw
namespace Go.Proofs.Ytdhbjejejeljoaa
open Go.RowKit Go.Sort Go.Lib

abbrev ChsT : TypeId := 83
theorem info_ch : (Try.prog.info? ChT).map (fun i => (i.zero, i.size, i.bytes)) = some (some (.agg #[.int .i64 0, .bool false, .int .i64 0, .int .i64 0]), 4, 32) := by kernel_rfl
/-- Behind the child's arguments. -/
def ForkC (x r : Nat) (pv : Value) (p : List Fnc) (t : Tk) (av kv wv rv : Value) (s : Vs) (o : Opr) (b kb : Nat) (w wc : World) : Prop :=
  ∃ vk, (Vm x r pv t av kv wv rv s wc ∧ BoxAt wc b (opC o) OpT ∧ BoxAt wc kb (taC (kidS t.p ((s.kids.length : Int) + 1)) o.n vk (s.left / 2)) TaskT ∧ wc.ownsRow w.heap.size I64T 1 vk (kidV p t s o).args.length ((kidV p t s o).args.flatMap encN1)) ∧ Below w.heap.size w wc
theorem fork_arm {x r : Nat} {pv : Value} {p : List Fnc} {t : Tk} {av kv wv rv : Value} {s : Vs} {o : Opr} {b kb : Nat} {w w4 w5 : World} {v : Value} {n : Nat}
    (H4 : (Vm x r pv t av kv wv rv s w4 ∧ BoxAt w4 b (opC o) OpT ∧ BoxAt w4 kb (taC (kidS t.p ((s.kids.length : Int) + 1)) o.n (.slice none 0 0) (s.left / 2)) TaskT) ∧ Below w.heap.size w w4)
    (hk : w.heap.size ≤ kb) (hB : Below w4.heap.size w4 w5) (hn : n = (kidV p t s o).args.length) (ho : w5.ownsRow w4.heap.size I64T 1 v n ((kidV p t s o).args.flatMap encN1)) :
    ForkC x r pv p t av kv wv rv s o b kb w (w5.setCell ⟨kb, 2, none⟩ v) := by
  subst hn
  have hF : Fr (fun i => i = kb) w5 (w5.setCell ⟨kb, 2, none⟩ v) := (Fr.refl (fun i => i = kb) w5).setCell (p := ⟨kb, 2, none⟩) rfl _
  have hb5 := BoxAt.below H4.1.2.2 hB
  have hT := typed_box hb5
  have hne : ∀ {i : Nat} {cur : Array Value} {E : TypeId}, BoxAt w5 i cur E → E ≠ TaskT → i ≠ kb := fun h hE e => by
    subst e
    have h1 := hb5
    unfold BoxAt at h h1
    rw [h] at h1
    injection h1 with h1
    injection h1 with _ h1 _
    exact hE h1
  have hV := H4.1.1.below hB
  have h1 := hV.far hF hT (by decide) (by decide) (hne hV.box (by decide)) (hne hV.regs (by decide)) (fun i hi e => by
    subst e
    obtain ⟨E, cur, fz, hE, hbk⟩ := typed_own hV.kids i hi ((hV.kids.lt i hi).2)
    have h1 := hb5
    unfold BoxAt at h1
    rw [hbk] at h1
    injection h1 with h1
    injection h1 with _ h1 _
    rw [List.mem_singleton] at hE
    subst hE
    exact absurd h1 (by decide))
  have h2 := box_typed (H4.1.2.1.below hB) hF hT (by decide)
  have h4 : BoxAt (w5.setCell ⟨kb, 2, none⟩ v) kb (taC (kidS t.p ((s.kids.length : Int) + 1)) o.n v (s.left / 2)) TaskT := Go.heap_setCell_same w5 kb 2 _ _ _ hb5
  have h5 := owns_monoG (own_typed ho hF hT (by decide)) H4.2.size
  have h6 := (gthen H4.2 hB).trans (hF.below (fun i hi => by omega) (gthen H4.2 hB).size)
  exact ⟨v, ⟨h1, h2, h4, h5⟩, h6⟩
theorem ForkC.drew {x r : Nat} {pv : Value} {p : List Fnc} {t : Tk} {av kv wv rv : Value} {s : Vs} {o : Opr} {b kb : Nat} {w wc : World} (h : ForkC x r pv p t av kv wv rv s o b kb w wc) : ForkC x r pv p t av kv wv rv s o b kb w wc.drew := by
  have hd : Below wc.heap.size wc wc.drew := (Below.refl _ _).drew
  obtain ⟨v, ⟨h1, h2, h3, h4⟩, h5⟩ := h
  exact ⟨v, ⟨h1.below hd, h2.below hd, h3.below hd, own_below h4 hd⟩, gthen h5 hd⟩
/-- What stays with the frame: its struct turned, its children longer. -/
theorem Vm.push {x r : Nat} {pv : Value} {t : Tk} {av kv wv rv : Value} {s : Vs} {w w6 w7 : World} {L : Int} {c : Ch} {kv' : Value} (h : Vm x r pv t av kv wv rv s w) (hF6 : Fr (fun i => i = x) w w6) (hb6 : BoxAt w6 x (vmC pv t av r { s with left := L } kv wv rv) FrameT)
    (hF : Fr (fun i => kv.ownBlock = some i) w6 w7) (ho : w7.ownsRow 0 ChT 4 kv' (s.kids.length + 1) (s.kids.flatMap encCh ++ encCh c)) :
    Vm x r pv t av kv' wv rv { s with left := L, kids := s.kids ++ [c] } (w7.setCell ⟨x, 8, none⟩ kv') ∧ Fr (VmS x r kv) w (w7.setCell ⟨x, 8, none⟩ kv') := by
  have hTo := typed_own (own_typed h.kids hF6 (typed_box h.box) (by decide))
  have hb7 := box_typed hb6 hF hTo (by decide)
  have hF8 : Fr (fun i => i = x) w7 (w7.setCell ⟨x, 8, none⟩ kv') := (Fr.refl (fun i => i = x) w7).setCell (p := ⟨x, 8, none⟩) rfl kv'
  have hb8 : BoxAt (w7.setCell ⟨x, 8, none⟩ kv') x (vmC pv t av r { s with left := L, kids := s.kids ++ [c] } kv' wv rv) FrameT := Go.heap_setCell_same w7 x 8 _ _ kv' hb7
  have hFa : Fr (fun i => i = x ∨ kv.ownBlock = some i) w (w7.setCell ⟨x, 8, none⟩ kv') := ((hF6.mono fun i hi => .inl hi).trans (hF.mono fun i hi => .inr hi)).trans (hF8.mono fun i hi => .inl hi)
  have hTa : Typed (fun i => i = x ∨ kv.ownBlock = some i) w [FrameT, ChT] := (typed_box h.box).or (typed_own h.kids)
  have hoo := own_typed ho hF8 (typed_box hb7) (by decide)
  refine ⟨⟨hb8, box_typed h.regs hFa hTa (by decide), by simpa [List.flatMap_append] using hoo, h.wt.typed hFa hTa (by decide), h.rs.typed hFa hTa (by decide)⟩, hFa.mono fun i hi => ?_⟩
  rcases hi with hi | hi
  · exact .inl (.inl hi)
  · exact .inr hi
theorem one_ch (w : World) (d : Int) : ∀ j u, (encCh ⟨d, false, ⟨0, 0⟩⟩)[j]? = some u → (w.alloc (.cells #[.int .i64 d, .bool false, .int .i64 0, .int .i64 0] ChT)).cell? ((⟨w.heap.size, 0, none⟩ : Addr).add j) = some u := by
  intro j u hj
  match j with
  | 0 => simp [encCh] at hj; subst hj; simp [go_sem, Addr.add]
  | 1 => simp [encCh] at hj; subst hj; simp [go_sem, Addr.add]
  | 2 => simp [encCh] at hj; subst hj; simp [go_sem, Addr.add]
  | 3 => simp [encCh] at hj; subst hj; simp [go_sem, Addr.add]
  | j + 4 => simp [encCh] at hj
set_option maxHeartbeats 6400000 in
set_option maxRecDepth 100000 in
theorem vfork_any {x r : Nat} {pv : Value} {t : Tk} {av kv wv rv : Value} {s : Vs} {w : World} {p : List Fnc} {o : Opr} (h : Vm x r pv t av kv wv rv s w) (hp : WfP p) (hpr : ProgAt w pv p) (ht : TkOk p t) (hi : InvV p t s) (ho : OpOk p (fnAt p t.fn) o) (hk : o.k = 12) :
    Calls Try.prog 48 #[.pointer (some ⟨x, 0, none⟩), .agg #[.int .u8 o.k, .int .i64 o.d, .int .i64 o.a, .int .i64 o.b, .int .i64 o.n]] w (VmP x r pv t av kv (forkV p t s o) w) := by
  have hA := alV w (.cells (opC o) OpT)
  have H := Lib.hid (show Vm x r pv t av kv wv rv s (w.alloc (.cells (opC o) OpT)) ∧ BoxAt (w.alloc (.cells (opC o) OpT)) w.heap.size (opC o) OpT ∧ Below w.heap.size w (w.alloc (.cells (opC o) OpT)) from ⟨h.below hA, heap_alloc_new _ _, hA⟩)
  have HI := Lib.hid (And.intro hi (And.intro ho hk))
  have HP := Lib.hid (And.intro hp (And.intro ht (hpr.below hA)))
  obtain ⟨ka, kc, hkv⟩ := own_slice h.kids
  have hk1 := hi.k1
  have hps : t.p.size ≤ 9223372036854775807 := by have := ht.sz; omega
  have wk : IntKind.i64.wrap ((s.kids.length : Int) + 1) = (s.kids.length : Int) + 1 := by simp [IntKind.wrap, go_sem]; omega
  subst hkv
  clear h hA hi ho hk hp hpr ht
  go_enter Try.func48, Try.ntmps48
  go_upto_region 1 with fail
  simp only [opC] at H
  generalize w.alloc (.cells #[.int .u8 o.k, .int .i64 o.d, .int .i64 o.a, .int .i64 o.b, .int .i64 o.n] OpT) = w1 at *
  obtain ⟨b, hb⟩ : ∃ b, w.heap.size = b := ⟨_, rfl⟩
  have HBB := Lib.hid hb
  rw [hb] at H ⊢
  clear hb
  refine wp_region_held_drew (S := fun y => Below w1.heap.size w1 y) (by kernel_rfl) ((Below.refl _ _).drew) (fun hHeld => ?_)
  refine wpAnyH_take (i := 0) (oi := _) (v := ?_) (by rw [List.getElem?_toArray]; exact rfl) (by kernel_rfl) (by kernel_rfl) (by kernel_rfl) (by exact fun _ _ _ h => h) (Or.inl ⟨by rfl, ?_⟩) hHeld ?_
  rotate_left
  · (intro wX hSw; clear hSw; go_simp; try with_reducible rfl)
  try simp only [Act.put, List.setIfInBounds_toArray, List.set_cons_zero, List.set_cons_succ]
  refine wpAnyH_take (i := 1) (oi := _) (v := ?_) (by rw [List.getElem?_toArray]; exact rfl) (by kernel_rfl) (by kernel_rfl) (by kernel_rfl) (by exact fun _ _ _ h => h) (Or.inl ⟨by rfl, ?_⟩) hHeld ?_
  rotate_left
  · (intro wX hSw; clear hSw; go_simp; try with_reducible rfl)
  try simp only [Act.put, List.setIfInBounds_toArray, List.set_cons_zero, List.set_cons_succ]
  refine wpAnyH_take (i := 2) (oi := _) (v := ?_) (by rw [List.getElem?_toArray]; exact rfl) (by kernel_rfl) (by kernel_rfl) (by kernel_rfl) (by exact fun _ _ _ h => h) (Or.inl ⟨by rfl, ?_⟩) hHeld ?_
  rotate_left
  · (intro wX hSw; clear hSw; go_simp; try with_reducible rfl)
  try simp only [Act.put, List.setIfInBounds_toArray, List.set_cons_zero, List.set_cons_succ]
  refine wpAnyH_take (i := 3) (oi := _) (v := ?_) (by rw [List.getElem?_toArray]; exact rfl) (by kernel_rfl) (by kernel_rfl) (by kernel_rfl) (by exact fun _ _ _ h => h) (Or.inl ⟨by rfl, ?_⟩) hHeld ?_
  rotate_left
  · (intro wX hSw; clear hSw; go_simp; try with_reducible rfl)
  try simp only [Act.put, List.setIfInBounds_toArray, List.set_cons_zero, List.set_cons_succ]
  refine wpAnyH_take (i := 4) (oi := _) (v := ?_) (by rw [List.getElem?_toArray]; exact rfl) (by kernel_rfl) (by kernel_rfl) (by kernel_rfl) (by exact fun _ _ _ h => h) (Or.inl ⟨by rfl, ?_⟩) hHeld ?_
  rotate_left
  · (intro wX hSw; clear hSw; go_simp; try with_reducible rfl)
  try simp only [Act.put, List.setIfInBounds_toArray, List.set_cons_zero, List.set_cons_succ]
  refine wpAnyH_take (i := 5) (oi := _) (v := ?_) (by rw [List.getElem?_toArray]; exact rfl) (by kernel_rfl) (by kernel_rfl) (by kernel_rfl) (by exact fun _ _ _ h => h) (Or.inl ⟨by rfl, ?_⟩) hHeld ?_
  rotate_left
  · (intro wX hSw; obtain ⟨z0, z1, z2, z5, z6, z7, z8, z9, z10, z11⟩ := vm_cells (H.out.1.below hSw); clear hSw z0 z2 z5 z6 z7 z9 z10 z11; go_simp; try with_reducible rfl)
  try simp only [Act.put, List.setIfInBounds_toArray, List.set_cons_zero, List.set_cons_succ]
  refine wpAnyH_take (i := 6) (oi := _) (v := ?_) (by rw [List.getElem?_toArray]; exact rfl) (by kernel_rfl) (by kernel_rfl) (by kernel_rfl) (by exact fun _ _ _ h => h) (Or.inl ⟨by rfl, ?_⟩) hHeld ?_
  rotate_left
  · (intro wX hSw; clear hSw; go_simp; try with_reducible rfl)
  try simp only [Act.put, List.setIfInBounds_toArray, List.set_cons_zero, List.set_cons_succ]
  refine wpAnyH_take (i := 7) (oi := _) (v := ?_) (by rw [List.getElem?_toArray]; exact rfl) (by kernel_rfl) (by kernel_rfl) (by kernel_rfl) (by exact fun _ _ _ h => h) (Or.inl ⟨by rfl, ?_⟩) hHeld ?_
  rotate_left
  · (intro wX hSw; clear hSw; go_simp; try with_reducible rfl)
  try simp only [Act.put, List.setIfInBounds_toArray, List.set_cons_zero, List.set_cons_succ]
  refine wpAnyH_take (i := 8) (oi := _) (v := ?_) (by rw [List.getElem?_toArray]; exact rfl) (by kernel_rfl) (by kernel_rfl) (by kernel_rfl) (by exact fun _ _ _ h => h) (Or.inl ⟨by rfl, ?_⟩) hHeld ?_
  rotate_left
  · (intro wX hSw; clear hSw; go_simp; try with_reducible rfl)
  try simp only [Act.put, List.setIfInBounds_toArray, List.set_cons_zero, List.set_cons_succ]
  refine wpAnyH_take (i := 9) (oi := _) (v := ?_) (by rw [List.getElem?_toArray]; exact rfl) (by kernel_rfl) (by kernel_rfl) (by kernel_rfl) (by exact fun _ _ _ h => h) (Or.inl ⟨by rfl, ?_⟩) hHeld ?_
  rotate_left
  · (intro wX hSw; obtain ⟨z0, z1, z2, z5, z6, z7, z8, z9, z10, z11⟩ := vm_cells (H.out.1.below hSw); clear hSw z0 z2 z5 z6 z7 z9 z10 z11; go_simp; try with_reducible rfl)
  try simp only [Act.put, List.setIfInBounds_toArray, List.set_cons_zero, List.set_cons_succ]
  refine wpAnyH_take (i := 10) (oi := _) (v := ?_) (by rw [List.getElem?_toArray]; exact rfl) (by kernel_rfl) (by kernel_rfl) (by kernel_rfl) (by exact fun _ _ _ h => h) (Or.inl ⟨by rfl, ?_⟩) hHeld ?_
  rotate_left
  · (intro wX hSw; clear hSw; go_simp; try with_reducible rfl)
  try simp only [Act.put, List.setIfInBounds_toArray, List.set_cons_zero, List.set_cons_succ]
  refine wpAnyH_take (i := 11) (oi := _) (v := ?_) (by rw [List.getElem?_toArray]; exact rfl) (by kernel_rfl) (by kernel_rfl) (by kernel_rfl) (by exact fun _ _ _ h => h) (Or.inl ⟨by rfl, ?_⟩) hHeld ?_
  rotate_left
  · (intro wX hSw; clear hSw; go_simp; try with_reducible rfl)
  try simp only [Act.put, List.setIfInBounds_toArray, List.set_cons_zero, List.set_cons_succ]
  refine wpAnyH_ready (rs := [12]) (by kernel_rfl) (by simp) ?_
  refine AllReadyH.cons (o := _) (by rw [List.getElem?_toArray]; exact rfl) (fun K hK => ?_) AllReadyH.nil
  go_simp
  refine (kid_any t.p (s.kids.length + 1) _ (by omega)).mono ?_; rintro e w2 ⟨rfl, hB⟩
  go_wp2_with fail
  refine hK.out _ _ (gthen hHeld hB) (fun hHeld => ?_)
  clear hK K
  try simp only [Act.put, List.setIfInBounds_toArray, List.set_cons_zero, List.set_cons_succ]
  refine wpAnyH_take (i := 13) (oi := _) (v := ?_) (by rw [List.getElem?_toArray]; exact rfl) (by kernel_rfl) (by kernel_rfl) (by kernel_rfl) (by exact fun _ _ _ h => h) (Or.inl ⟨by rfl, ?_⟩) hHeld ?_
  rotate_left
  · (intro wX hSw; clear hSw; go_simp; try with_reducible rfl)
  try simp only [Act.put, List.setIfInBounds_toArray, List.set_cons_zero, List.set_cons_succ]
  refine wpAnyH_take (i := 14) (oi := _) (v := ?_) (by rw [List.getElem?_toArray]; exact rfl) (by kernel_rfl) (by kernel_rfl) (by kernel_rfl) (by exact fun _ _ _ h => h) (Or.inl ⟨by rfl, ?_⟩) hHeld ?_
  rotate_left
  · (intro wX hSw; clear hSw; go_simp; try with_reducible rfl)
  try simp only [Act.put, List.setIfInBounds_toArray, List.set_cons_zero, List.set_cons_succ]
  refine wpAnyH_take (i := 15) (oi := _) (v := ?_) (by rw [List.getElem?_toArray]; exact rfl) (by kernel_rfl) (by kernel_rfl) (by kernel_rfl) (by exact fun _ _ _ h => h) (Or.inl ⟨by rfl, ?_⟩) hHeld ?_
  rotate_left
  · (intro wX hSw; clear hSw; go_simp; try with_reducible rfl)
  try simp only [Act.put, List.setIfInBounds_toArray, List.set_cons_zero, List.set_cons_succ]
  refine wpAnyH_take (i := 16) (oi := _) (v := ?_) (by rw [List.getElem?_toArray]; exact rfl) (by kernel_rfl) (by kernel_rfl) (by kernel_rfl) (by exact fun _ _ _ h => h) (Or.inl ⟨by rfl, ?_⟩) hHeld ?_
  rotate_left
  · (intro wX hSw; clear hSw; go_simp; try with_reducible rfl)
  try simp only [Act.put, List.setIfInBounds_toArray, List.set_cons_zero, List.set_cons_succ]
  refine wpAnyH_take (i := 17) (oi := _) (v := ?_) (by rw [List.getElem?_toArray]; exact rfl) (by kernel_rfl) (by kernel_rfl) (by kernel_rfl) (by exact fun _ _ _ h => h) (Or.inl ⟨by rfl, ?_⟩) hHeld ?_
  rotate_left
  · (intro wX hSw; clear hSw; go_simp; try with_reducible rfl)
  try simp only [Act.put, List.setIfInBounds_toArray, List.set_cons_zero, List.set_cons_succ]
  refine wpAnyH_done (by kernel_rfl) ?_ _
  have HB2 := Lib.hid hHeld
  clear hHeld
  have H2 := Lib.hid (show (Vm x r pv t av (.slice ka s.kids.length kc) wv rv s w2 ∧ BoxAt w2 b (opC o) OpT) ∧ Below w.heap.size w w2 from ⟨⟨H.out.1.below HB2.out, H.out.2.1.below HB2.out⟩, gthen (show Below w.heap.size w w1 by rw [HBB.out]; exact H.out.2.2) HB2.out⟩)
  have HP2 := Lib.hid (HP.out.2.2.below HB2.out)
  clear H
  obtain ⟨x0, x1, x2, x5, x6, x7, x8, x9, x10, x11⟩ := vm_cells H2.out.1.1
  clear x0 x1 x2 x5 x7 x9 x10 x11
  by_cases h16 : 16 ≤ s.kids.length
  · have g16 : ((16 : Int) ≤ s.kids.length) := by omega
    have HF := Lib.hid (show forkV p t s o = endV s ⟨0, 132⟩ by unfold forkV; rw [if_pos h16])
    go_wp2_with fail
    refine (vfail_any 132 H2.out.1.1).mono ?_
    rintro e w7 ⟨ev, kv', wv', rv', rfl, g1, g2, g3, g4⟩
    go_wp2_with fail
    go_ret
    refine ⟨ev, kv', wv', rv', rfl, ?_, ?_, (Fr.of_below H2.out.2).trans g3, own_later (Fr.of_below (S := fun _ => False) H2.out.2) g4⟩
    · rw [HF.out]; exact g1.mono H2.out.2.size
    · rw [HF.out]; exact g2
  · have g16 : ¬ ((16 : Int) ≤ s.kids.length) := by omega
    cases hkb : kidB t.p ((s.kids.length : Int) + 1)
    · have HF := Lib.hid (show forkV p t s o = endV s ⟨0, 133⟩ by unfold forkV; rw [if_neg h16, if_pos hkb])
      go_wp2_with fail
      refine (vfail_any 133 H2.out.1.1).mono ?_
      rintro e w7 ⟨ev, kv', wv', rv', rfl, g1, g2, g3, g4⟩
      go_wp2_with fail
      go_ret
      refine ⟨ev, kv', wv', rv', rfl, ?_, ?_, (Fr.of_below H2.out.2).trans g3, own_later (Fr.of_below (S := fun _ => False) H2.out.2) g4⟩
      · rw [HF.out]; exact g1.mono H2.out.2.size
      · rw [HF.out]; exact g2
    · have HF := Lib.hid (show forkV p t s o = (some ⟨2, kidV p t s o, ⟨0, 0⟩⟩, { s with left := s.left - s.left / 2, kids := s.kids ++ [⟨o.d, false, ⟨0, 0⟩⟩] }) by unfold forkV; rw [if_neg h16, if_neg (by rw [hkb]; simp)])
      clear hkb x6 x8
      obtain ⟨k0, k1, k2, k3, k4⟩ := op_cells H2.out.1.2
      obtain ⟨x0, x1, x2, x5, x6, x7, x8, x9, x10, x11⟩ := vm_cells H2.out.1.1
      have hl0 := HI.out.1.l0
      have hl1 := HI.out.1.l1
      have d1 : s.left.tdiv 2 = s.left / 2 := Int.tdiv_eq_ediv_of_nonneg hl0
      have d2 : IntKind.i64.wrap (s.left / 2) = s.left / 2 := IntWalk.i64_in _ (by omega)
      have hal : ∀ (o : Obj) (a : Addr) (v : Value), w2.cell? a = some v → (w2.alloc o).cell? a = some v := fun o a v h => (((Below.refl w2.heap.size w2).alloc (Nat.le_refl _) o).cell (World.block_lt_of_cell? _ _ h)).trans h
      have f0 := fun o => hal o _ _ k4
      have f1 := fun o => hal o _ _ x6
      clear hal x0 x1 x2 x5 x7 x9 x10 x11 k0 k1 k2 k3
      go_upto_region 6 with fail
      clear x8
      go_region
      have hB3 : Below w2.heap.size w2 (w2.alloc (.cells #[.string (kidS t.p ((s.kids.length : Int) + 1)), .int .i64 o.n, .slice none 0 0, .int .i64 (s.left / 2)] TaskT)).drew := ((Below.refl _ _).alloc (Nat.le_refl _) _).drew
      have H3 := Lib.hid (show (Vm x r pv t av (.slice ka s.kids.length kc) wv rv s (w2.alloc (.cells #[.string (kidS t.p ((s.kids.length : Int) + 1)), .int .i64 o.n, .slice none 0 0, .int .i64 (s.left / 2)] TaskT)).drew ∧ BoxAt (w2.alloc (.cells #[.string (kidS t.p ((s.kids.length : Int) + 1)), .int .i64 o.n, .slice none 0 0, .int .i64 (s.left / 2)] TaskT)).drew b (opC o) OpT ∧ BoxAt (w2.alloc (.cells #[.string (kidS t.p ((s.kids.length : Int) + 1)), .int .i64 o.n, .slice none 0 0, .int .i64 (s.left / 2)] TaskT)).drew w2.heap.size (taC (kidS t.p ((s.kids.length : Int) + 1)) o.n (.slice none 0 0) (s.left / 2)) TaskT ∧ ProgAt (w2.alloc (.cells #[.string (kidS t.p ((s.kids.length : Int) + 1)), .int .i64 o.n, .slice none 0 0, .int .i64 (s.left / 2)] TaskT)).drew pv p) ∧ Below w.heap.size w (w2.alloc (.cells #[.string (kidS t.p ((s.kids.length : Int) + 1)), .int .i64 o.n, .slice none 0 0, .int .i64 (s.left / 2)] TaskT)).drew from
        ⟨⟨H2.out.1.1.below hB3, H2.out.1.2.below hB3, BoxAt.below (heap_alloc_new w2 _) (Below.refl _ _).drew, HP2.out.below hB3⟩, gthen H2.out.2 hB3⟩)
      have HKB := Lib.hid (show w.heap.size ≤ w2.heap.size from H2.out.2.size)
      clear hB3 H2 HP2 k4 x6 f0 f1 d1 d2
      generalize (w2.alloc (.cells #[.string (kidS t.p ((s.kids.length : Int) + 1)), .int .i64 o.n, .slice none 0 0, .int .i64 (s.left / 2)] TaskT)).drew = w3 at *
      generalize w2.heap.size = kb at *
      obtain ⟨hn0, hn1, hn2⟩ := HI.out.2.1.fk HI.out.2.2
      obtain ⟨j, hj⟩ : ∃ j : Nat, o.n = j := ⟨o.n.toNat, by omega⟩
      have hjl : j < p.length := by omega
      have hfa : fnAt p o.n = p[j] := by
        unfold fnAt
        rw [hj, List.getD_eq_getElem?_getD, Int.toNat_natCast, List.getElem?_eq_getElem hjl]; rfl
      have hr0 := (HP.out.1.2 _ (List.getElem_mem hjl)).r0
      have hr1 := (HP.out.1.2 _ (List.getElem_mem hjl)).r1
      have hr2 := (HP.out.1.2 _ (List.getElem_mem hjl)).r2
      obtain ⟨na, hna⟩ : ∃ n : Nat, p[j].args = n := ⟨p[j].args.toNat, by omega⟩
      rw [hfa, hna] at hn2
      have HNA := Lib.hid (show (fnAt p o.n).args = na by rw [hfa, hna])
      obtain ⟨pb, poff, pcap, he, hpb, hpc⟩ := H3.out.1.2.2.2.fns.at (by omega)
      subst he
      obtain ⟨g0, g1, g2⟩ := fn_at hpc hjl
      obtain ⟨k0, k1, k2, k3, k4⟩ := op_cells H3.out.1.2.1
      have x0 := (vm_cells H3.out.1.1).1
      rw [hna] at g0
      rw [hj] at k4
      have q1 : (j : Int) < p.length := by omega
      have q0 : (0 : Int) ≤ j := by omega
      have hna16 : na ≤ 16 := by omega
      clear hj hpc hpb g1 g2 k0 k1 k2 k3 hfa hr0 hr1 hr2 hna
      go_upto_region 7 with fail
      go_quiet (fail)
      have H4 := Lib.hid (show (Vm x r (.slice (some ⟨pb, poff, none⟩) p.length pcap) t av (.slice ka s.kids.length kc) wv rv s (w3.drewN nq) ∧ BoxAt (w3.drewN nq) b (opC o) OpT ∧ BoxAt (w3.drewN nq) kb (taC (kidS t.p ((s.kids.length : Int) + 1)) o.n (.slice none 0 0) (s.left / 2)) TaskT) ∧ Below w.heap.size w (w3.drewN nq) from by
        have hq : Below w3.heap.size w3 (w3.drewN nq) := below_drewN (Below.refl _ _) nq
        exact ⟨⟨H3.out.1.1.below hq, H3.out.1.2.1.below hq, H3.out.1.2.2.1.below hq⟩, gthen H3.out.2 hq⟩)
      clear H3 k4 x0 g0 q0 q1
      generalize w3.drewN nq = w4 at *
      have HLL := Lib.hid (show (kidV p t s o).args.length = na from by
        unfold kidV
        simp only [List.length_take, List.length_drop]
        rw [HNA.out]
        have hrl := HI.out.1.rl
        have ha0 := HI.out.2.1.a0
        by_cases h : 0 < (na : Int)
        · have := hn2 h; simp; omega
        · simp; omega)
      go_upto_if 60 with fail
      go_cut [] (fun wc => ForkC x r (.slice (some ⟨pb, poff, none⟩) p.length pcap) p t av (.slice ka s.kids.length kc) wv rv s o b kb w wc)
      case first =>
        by_cases hn : 0 < na
        · have hna1 : 0 < (na : Int) := by omega
          have ha0 := HI.out.2.1.a0
          have hrl := HI.out.1.rl
          obtain ⟨A, hA⟩ : ∃ A : Nat, o.a = A := ⟨o.a.toNat, by omega⟩
          obtain ⟨k0, k1, k2, k3, k4⟩ := op_cells H4.out.1.2.1
          obtain ⟨x0, x1, x2, x5, x6, x7, x8, x9, x10, x11⟩ := vm_cells H4.out.1.1
          rw [hA] at k2
          have hAN := hn2 hna1
          have hA1 : A + na ≤ s.regs.length := by omega
          have hr16 := (HP.out.1.fn HP.out.2.1.f0 HP.out.2.1.f1).r2
          have HRD := Lib.hid (show ∀ y, Vm x r (.slice (some ⟨pb, poff, none⟩) p.length pcap) t av (.slice ka s.kids.length kc) wv rv s y → ReadsK encN1 1 y (.slice (some ⟨r, A, none⟩) na (s.regs.length - A)) (kidV p t s o).args from fun y hy => reads_part hy.regs HLL.out.symm hA1 (by unfold kidV; rw [hA]; simp only [Int.toNat_natCast]; rw [HNA.out, Int.toNat_natCast]))
          clear hA hAN
          go_upto_region 9 with fail
          have hw1 : IntKind.i64.wrap ((A : Int) + (na : Int)) = (A : Int) + (na : Int) := IntWalk.i64_in _ (by omega)
          have hsl : ∀ W, (Instr.slice 25 (.slice (some ⟨r, 0, none⟩) s.regs.length s.regs.length) (some (.int .i64 (A : Int))) (some (.int .i64 ((A : Int) + (na : Int)))) none).run Try.prog W = .ok (.slice (some ⟨r, A, none⟩) na (s.regs.length - A)) W := fun W => by
            have h1 := Lib.run_slice_window (P := Try.prog) W 25 2 Try.underlying25 (fun w => by kernel_rfl) r 0 s.regs.length s.regs.length A (A + na) (by omega) (by omega)
            rw [Nat.zero_add, Nat.add_sub_cancel_left, show ((A + na : Nat) : Int) = (A : Int) + (na : Int) from by omega] at h1
            exact h1
          clear k0 k1 k3 k4 x0 x1 x2 x6 x7 x8 x9 x10 x11 hn0 hn1 hn2 hjl ha0 hrl hr16 hA1 hk1 hps wk
          go_still_tail 11, (by kernel_rfl)
          change wpList _ _ _ _ _ w4.drew
          clear x5 k2 hsl hw1
          go_wp2_with fail
          have hdw : Below w4.heap.size w4 w4.drew := (Below.refl _ _).drew
          refine (clone_any _ (kidV p t s o).args _ (HRD.out _ (H4.out.1.1.below hdw)) (by rw [HLL.out]; omega)).mono ?_
          rintro e w5 ⟨aa, ac, rfl, ho, hB5⟩
          obtain ⟨vn, hvl⟩ : ∃ vn, (kidV p t s o).args.length = vn := ⟨_, rfl⟩
          rw [hvl] at ho ⊢
          have HB5 := Lib.hid (show Below w4.heap.size w4 w5 from gthen hdw hB5)
          have y2 := (BoxAt.below H4.out.1.2.2 HB5.out).cell 2
          have fy2 := (BoxAt.below H4.out.1.2.2 HB5.out).frozen 2
          simp only [taC, List.getElem?_toArray, List.getElem?_cons_zero, List.getElem?_cons_succ] at y2
          have KA := Lib.hid (fork_arm (o := o) H4.out HKB.out HB5.out hvl.symm ho)
          clear ho hB5 hvl hdw
          go_wp2_with fail
          go_meet
          first
            | exact KA.out
            | exact KA.out.drew
        · have hna1 : ¬ 0 < (na : Int) := by omega
          have hz : (kidV p t s o).args = [] := List.length_eq_zero_iff.1 (by rw [HLL.out]; omega)
          have HZ := Lib.hid hz
          clear hz
          go_wp2_with fail
          go_meet
          refine ⟨.slice none 0 0, ⟨H4.out.1.1, H4.out.1.2.1, H4.out.1.2.2, ?_⟩, H4.out.2⟩
          rw [HZ.out]
          exact World.ownsRow_nil _ _ _ _
      case rest =>
        obtain ⟨vk, hc⟩ := hcut
        obtain ⟨va, vc, rfl⟩ := own_slice hc.1.2.2.2
        have H5 := Lib.hid hc
        clear hc H4 hn0 hn1 hn2 hjl
        obtain ⟨x0, x1, x2, x5, x6, x7, x8, x9, x10, x11⟩ := vm_cells H5.out.1.1
        have z3 := H5.out.1.2.2.1.cell 3
        have f6 := H5.out.1.1.box.frozen 6
        simp only [taC, List.getElem?_toArray, List.getElem?_cons_zero, List.getElem?_cons_succ] at z3
        have d2 : IntKind.i64.wrap (s.left - s.left / 2) = s.left - s.left / 2 := IntWalk.i64_in _ (by omega)
        clear x0 x1 x2 x5 x7 x8 x9 x10 x11
        go_upto_region 10 with fail
        go_still_tail 9, (by kernel_rfl)
        change wpList _ _ _ _ _ wc.drew
        go_upto_region 11 with fail
        have hF6 : Fr (fun i => i = x) wc (wc.setCell ⟨x, 6, none⟩ (.int .i64 (s.left - s.left / 2))).drew := ((Fr.refl (fun i => i = x) wc).setCell (p := ⟨x, 6, none⟩) rfl _).drew
        have hb6 : BoxAt (wc.setCell ⟨x, 6, none⟩ (.int .i64 (s.left - s.left / 2))).drew x (vmC (.slice (some ⟨pb, poff, none⟩) p.length pcap) t av r { s with left := s.left - s.left / 2 } (.slice ka s.kids.length kc) wv rv) FrameT := BoxAt.below (Go.heap_setCell_same wc x 6 _ _ _ H5.out.1.1.box) (Below.refl _ _).drew
        have hT6 := typed_box H5.out.1.1.box
        have hob6 := box_typed H5.out.1.2.1 hF6 hT6 (by decide)
        have hkb6 := box_typed H5.out.1.2.2.1 hF6 hT6 (by decide)
        have hao6 := own_typed H5.out.1.2.2.2 hF6 hT6 (by decide)
        have hko6 := own_typed H5.out.1.1.kids hF6 hT6 (by decide)
        clear x6 z3 f6 d2
        generalize (wc.setCell ⟨x, 6, none⟩ (.int .i64 (s.left - s.left / 2))).drew = w6 at *
        obtain ⟨k0, k1, k2, k3, k4⟩ := op_cells hob6
        have x8 : w6.cell? ⟨x, 8, none⟩ = some (.slice ka s.kids.length kc) := hb6.cell 8
        have hal : ∀ (o : Obj) (a : Addr) (v : Value), w6.cell? a = some v → (w6.alloc o).cell? a = some v := fun o a v h => (((Below.refl w6.heap.size w6).alloc (Nat.le_refl _) o).cell (World.block_lt_of_cell? _ _ h)).trans h
        have y8 := fun o => hal o _ _ x8
        have y1 := fun o => hal o _ _ k1
        clear hal
        obtain ⟨ig, hig, hg0, hg1, hg2⟩ := info_parts info_ch
        obtain ⟨ia5, ic5, w7, hap, hown7, hgrow, hat7, _⟩ := run_append_lies (P := Try.prog) (w6.drew.alloc (.cells #[.int .i64 o.d, .bool false, .int .i64 0, .int .i64 0] ChT)) ChsT ChsT 0 ChT ig (.agg #[.int .i64 0, .bool false, .int .i64 0, .int .i64 0]) 4 32 Try.underlying83 hig hg0 hg1 hg2 rfl (by decide) (.slice ka s.kids.length kc) s.kids.length (s.kids.flatMap encCh) (own_below hko6 (((Below.refl _ _).drew).alloc (Nat.le_refl _) _)) ⟨w6.heap.size, 0, none⟩ 1 1 (encCh ⟨o.d, false, ⟨0, 0⟩⟩) rfl (one_ch w6.drew o.d) (by intro v hv; simp [encCh] at hv; rcases hv with rfl | rfl | rfl | rfl <;> rfl) (by decide) (by unfold maxLen; omega) (by omega) (by simp) _ rfl
        have hsz6 : wc.heap.size ≤ w6.heap.size := hF6.size
        have hwc : w.heap.size ≤ wc.heap.size := H5.out.2.size
        have hat : ((Value.slice (some ⟨ia5, 0, none⟩) (s.kids.length + 1) ic5).ownBlock = (Value.slice ka s.kids.length kc).ownBlock ∨ ∀ b, (Value.slice (some ⟨ia5, 0, none⟩) (s.kids.length + 1) ic5).ownBlock = some b → w.heap.size ≤ b) := by
          rcases hat7 with e | e
          · left; rw [e]; rfl
          · right
            intro b hb
            have hb' : ia5 = b := by simpa [Value.ownBlock] using hb
            have e1 : (w6.drew.alloc (.cells #[.int .i64 o.d, .bool false, .int .i64 0, .int .i64 0] ChT)).heap.size = w6.heap.size + 1 := by simp
            rw [e1] at e
            omega
        have hF7 := grow_fr' (show Below w6.heap.size w6 (w6.drew.alloc (.cells #[.int .i64 o.d, .bool false, .int .i64 0, .int .i64 0] ChT)) from ((Below.refl _ _).drew).alloc (Nat.le_refl _) _) hgrow
        have hT7 := typed_own hko6
        have hxq := box_typed hb6 hF7 hT7 (by decide)
        have x8' : w7.cell? ⟨x, 8, none⟩ = some (.slice ka s.kids.length kc) := hxq.cell 8
        have f8 := hxq.frozen 8
        have hF8 : Fr (fun i => i = x) w7 (w7.setCell ⟨x, 8, none⟩ (.slice (some ⟨ia5, 0, none⟩) (s.kids.length + 1) ic5)) := (Fr.refl (fun i => i = x) w7).setCell (p := ⟨x, 8, none⟩) rfl _
        have H8 := Lib.hid (show (Vm x r (.slice (some ⟨pb, poff, none⟩) p.length pcap) t av (.slice (some ⟨ia5, 0, none⟩) (s.kids.length + 1) ic5) wv rv { s with left := s.left - s.left / 2, kids := s.kids ++ [⟨o.d, false, ⟨0, 0⟩⟩] } (w7.setCell ⟨x, 8, none⟩ (.slice (some ⟨ia5, 0, none⟩) (s.kids.length + 1) ic5)) ∧ Fr (VmS x r (.slice ka s.kids.length kc)) wc (w7.setCell ⟨x, 8, none⟩ (.slice (some ⟨ia5, 0, none⟩) (s.kids.length + 1) ic5))) ∧ BoxAt (w7.setCell ⟨x, 8, none⟩ (.slice (some ⟨ia5, 0, none⟩) (s.kids.length + 1) ic5)) kb (taC (kidS t.p ((s.kids.length : Int) + 1)) o.n (.slice va (kidV p t s o).args.length vc) (s.left / 2)) TaskT ∧ (w7.setCell ⟨x, 8, none⟩ (.slice (some ⟨ia5, 0, none⟩) (s.kids.length + 1) ic5)).ownsRow w.heap.size I64T 1 (.slice va (kidV p t s o).args.length vc) (kidV p t s o).args.length ((kidV p t s o).args.flatMap encN1) from
          ⟨H5.out.1.1.push hF6 hb6 hF7 hown7, box_typed (box_typed hkb6 hF7 hT7 (by decide)) hF8 (typed_box hxq) (by decide), own_typed (own_typed hao6 hF7 hT7 (by decide)) hF8 (typed_box hxq) (by decide)⟩)
        have HAT := Lib.hid hat
        clear hgrow hxq hown7 hF7 hko6 hF8 hT7 hkb6 hao6 hat hat7 hsz6 hwc
        go_region_law (first | (refine step_append_run rfl _ _ _ _ rfl _ _ (by simp [Act.eval]) (by simp [Act.eval]) hap ?_) | (go_simp))
        all_goals
          clear k0 k1 k2 k3 k4 x8 y8 y1 x8' f8 hap
          generalize w7.setCell ⟨x, 8, none⟩ (.slice (some ⟨ia5, 0, none⟩) (s.kids.length + 1) ic5) = w8 at *
          have z0 := H8.out.2.1.cell 0; have z1 := H8.out.2.1.cell 1; have z2 := H8.out.2.1.cell 2; have z3 := H8.out.2.1.cell 3
          simp only [taC, List.getElem?_toArray, List.getElem?_cons_zero, List.getElem?_cons_succ] at z0 z1 z2 z3
          go_wp2_with fail
          go_ret
          have hA8 := alV w8 (.cells (spC ⟨2, kidV p t s o, ⟨0, 0⟩⟩ (.slice va (kidV p t s o).args.length vc)) StopT)
          have hFw := ((Fr.of_below (S := VmS x r (.slice ka s.kids.length kc)) H5.out.2).trans H8.out.1.2)
          exact ⟨_, _, _, _, rfl, by rw [HF.out]; exact ⟨_, _, rfl, heap_alloc_new w8 _, own_below H8.out.2.2 hA8⟩, by rw [HF.out]; exact H8.out.1.1.below hA8, hFw.then hA8, HAT.out⟩
end Go.Proofs.Ytdhbjejejeljoaa
