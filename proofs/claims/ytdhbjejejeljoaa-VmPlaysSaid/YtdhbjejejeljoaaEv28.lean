/- Contract: thresherref13.Run.Kid. -/
import Derived.Test.YtdhbjejejeljoaaEv27
import Derived.Test.YtdhbjejejeljoaaRef12a
import Derived.Lib.SlBytesRow
import Derived.Deep.AppendLies
namespace Go.Proofs.Ytdhbjejejeljoaa
open Go.RowKit Go.Sort Go.Lib

/-- What Kid leaves of the state, and its error. -/
def kidR (t : Tk) (s : St) (o : Opr) : Int × St :=
  if 16 ≤ s.kids then (132, s)
  else if kidB t.p (s.kids + 1) = false then (133, s)
  else (0, { s with left := s.left - s.left / 2, kids := s.kids + 1, into := s.into ++ [o.d] })
def RKidP (w0 : World) (Z q r : Nat) (pv : Value) (p : List Fnc) (t : Tk) (av : Value) (f : Nat) (iv dv : Value) (I : List Int) (nd : List DnA) (s : St) (o : Opr) (w : World) (e : Ending) (w' : World) : Prop :=
  ∃ a b v u, (∃ x n c, v = .slice x n c) ∧ e = .returned (.tuple #[.agg #[.string a, .int .i64 b, v, .int .i64 u], .int .i64 (kidR t s o).1]) ∧ Fr (fun i => i = q ∨ iv.ownBlock = some i) w w' ∧
    (((kidR t s o).1 ≠ 0 → Ru w0 Z q r pv t av f iv dv I nd s w') ∧
     ((kidR t s o).1 = 0 → a = (kidT p t s o).p ∧ b = (kidT p t s o).fn ∧ u = (kidT p t s o).fuel ∧ w'.ownsRow w.heap.size I64T 1 v (kidT p t s o).args.length ((kidT p t s o).args.flatMap encN1) ∧ ∃ iv', Ru w0 Z q r pv t av f iv' dv (I ++ [o.d]) nd (kidR t s o).2 w' ∧ (iv'.ownBlock = iv.ownBlock ∨ ∀ i, iv'.ownBlock = some i → w.heap.size ≤ i)))
theorem kid_end {wz : World} {tmps : Array Value} {a : ByteArray} {n u x : Int} {v : Value} {b : Nat} {R : Ending → World → Prop}
    (hb : BoxAt wz b (taC a n v u) TaskT) (h2 : tmps.getD 4 undef = .pointer (some ⟨b, 0, none⟩)) (h3 : tmps.getD 5 undef = .int .i64 x) (hR : R (.returned (.tuple #[.agg #[.string a, .int .i64 n, v, .int .i64 u], .int .i64 x])) wz) :
    bodyPost Try.prog Try.f54 R Exit.ret { tmps := tmps, defers := [] } wz := by
  have k0 := hb.cell 0; have k1 := hb.cell 1; have k2 := hb.cell 2; have k3 := hb.cell 3
  simp only [taC, List.getElem?_toArray, List.getElem?_cons_zero, List.getElem?_cons_succ] at k0 k1 k2 k3
  refine bodyPost_ret (v := .tuple #[.agg #[.string a, .int .i64 n, v, .int .i64 u], .int .i64 x]) ?_ rfl hR
  have h2' : tmps[4]?.getD undef = .pointer (some ⟨b, 0, none⟩) := by simpa using h2
  have h3' : tmps[5]?.getD undef = .int .i64 x := by simpa using h3
  simp [results, Try.results54, go_sem, h2', h3', k0, k1, k2, k3]
theorem task_set {w : World} {b : Nat} {a a' : ByteArray} {n u n' u' : Int} {v v' : Value} (h : BoxAt w b (taC a n v u) TaskT) : BoxAt ((((w.setCell ⟨b, 0, none⟩ (.string a')).setCell ⟨b, 1, none⟩ (.int .i64 n')).setCell ⟨b, 2, none⟩ v').setCell ⟨b, 3, none⟩ (.int .i64 u')) b (taC a' n' v' u') TaskT ∧
    Fr (fun i => i = b) w ((((w.setCell ⟨b, 0, none⟩ (.string a')).setCell ⟨b, 1, none⟩ (.int .i64 n')).setCell ⟨b, 2, none⟩ v').setCell ⟨b, 3, none⟩ (.int .i64 u')) := by
  have h1 := Go.heap_setCell_same w b 0 _ _ (.string a') h
  have h2 := Go.heap_setCell_same _ b 1 _ _ (.int .i64 n') h1
  have h3 := Go.heap_setCell_same _ b 2 _ _ v' h2
  exact ⟨Go.heap_setCell_same _ b 3 _ _ (.int .i64 u') h3, ((((Fr.refl (fun i => i = b) w).setCell (p := ⟨b, 0, none⟩) rfl _).setCell (p := ⟨b, 1, none⟩) rfl _).setCell (p := ⟨b, 2, none⟩) rfl _).setCell (p := ⟨b, 3, none⟩) rfl _⟩
theorem wpList_arun {P : Program} {ops : Array Oper} {rest : List Oper} {o : Oper} {a : Act} {w : World} {Q : Exit → Act → World → Prop} (hgd : o.guard = none) (s x : Operand) (t t' : TypeId)
    (ho : o.op = .call { callee := .builtin .append, args := #[s, x], argTypes := #[t, t'] }) {v u : Value} (hs : a.eval s = v) (hx : a.eval x = u) {v' : Value} {w' : World} (hr : (Builtin.append_ #[t, t'] o.type #[v, u]).run P w = .ok v' w')
    (h : wpList P ops Q rest (a.put o.dst v') w') : wpList P ops Q (o :: rest) a w := by
  refine wpList_plain hgd fun _ hK => ?_
  unfold Oper.wp execOp
  simp only [ho, resolve, invoke, builtin, Sem.run_bind, Sem.run_pure, Result.andThen_ok, List.map_toArray, List.map_cons, List.map_nil, hs, hx, hr]
  exact hK _ _ h
/-- Behind the child's arguments. -/
def KidC (w0 : World) (Z q r : Nat) (pv : Value) (p : List Fnc) (t : Tk) (av : Value) (f : Nat) (iv dv : Value) (I : List Int) (nd : List DnA) (s : St) (o : Opr) (kb : Nat) (w wc : World) : Prop :=
  ∃ vk, (Ru w0 Z q r pv t av f iv dv I nd s wc ∧ BoxAt wc w.heap.size (opC o) OpT ∧ BoxAt wc (w.heap.size + 1) (taC ⟨#[]⟩ 0 (.slice none 0 0) 0) TaskT ∧ BoxAt wc kb (taC (kidS t.p (s.kids + 1)) o.n vk (s.left / 2)) TaskT ∧ wc.ownsRow w.heap.size I64T 1 vk (kidT p t s o).args.length ((kidT p t s o).args.flatMap encN1)) ∧ Below w.heap.size w wc
theorem kid_arm {w0 : World} {Z q r : Nat} {pv : Value} {p : List Fnc} {t : Tk} {av : Value} {f : Nat} {iv dv : Value} {I : List Int} {nd : List DnA} {s : St} {o : Opr} {kb : Nat} {w w4 w5 : World} {v : Value} {n : Nat}
    (H4 : (Ru w0 Z q r pv t av f iv dv I nd s w4 ∧ BoxAt w4 w.heap.size (opC o) OpT ∧ BoxAt w4 (w.heap.size + 1) (taC ⟨#[]⟩ 0 (.slice none 0 0) 0) TaskT ∧ BoxAt w4 kb (taC (kidS t.p (s.kids + 1)) o.n (.slice none 0 0) (s.left / 2)) TaskT) ∧ Below w.heap.size w w4)
    (hq : q < w.heap.size ∧ r < w.heap.size ∧ Z ≤ q) (hk : w.heap.size + 1 < kb) (hB : Below w4.heap.size w4 w5) (hn : n = (kidT p t s o).args.length) (ho : w5.ownsRow w4.heap.size I64T 1 v n ((kidT p t s o).args.flatMap encN1)) :
    KidC w0 Z q r pv p t av f iv dv I nd s o kb w (w5.setCell ⟨kb, 2, none⟩ v) ∧ KidC w0 Z q r pv p t av f iv dv I nd s o kb w (w5.setCell ⟨kb, 2, none⟩ v).drew := by
  subst hn
  have hF : Fr (fun i => i = kb) w5 (w5.setCell ⟨kb, 2, none⟩ v) := (Fr.refl (fun i => i = kb) w5).setCell (p := ⟨kb, 2, none⟩) rfl _
  have hb5 := BoxAt.below H4.1.2.2.2 hB
  have hT := typed_box hb5
  have hlk := (Array.getElem?_eq_some_iff.1 hb5).1
  have h1 := (H4.1.1.below hB).other hF hT (fun i hi => by omega) (by decide) (by decide) (by decide) (by decide)
  have h2 := box_typed (H4.1.2.1.below hB) hF hT (by decide)
  have h3 := (H4.1.2.2.1.below hB).fr hF (by omega)
  have h4 : BoxAt (w5.setCell ⟨kb, 2, none⟩ v) kb (taC (kidS t.p (s.kids + 1)) o.n v (s.left / 2)) TaskT := Go.heap_setCell_same w5 kb 2 _ _ _ hb5
  have h5 := owns_base (own_typed ho hF hT (by decide)) H4.2.size
  have h6 := (gthen H4.2 hB).trans (hF.below (fun i hi => by omega) (gthen H4.2 hB).size)
  have hd : Below (w5.setCell ⟨kb, 2, none⟩ v).heap.size (w5.setCell ⟨kb, 2, none⟩ v) (w5.setCell ⟨kb, 2, none⟩ v).drew := (Below.refl _ _).drew
  exact ⟨⟨v, ⟨h1, h2, h3, h4, h5⟩, h6⟩, ⟨v, ⟨h1.below hd, h2.below hd, h3.below hd, h4.below hd, own_below h5 hd⟩, gthen h6 hd⟩⟩
/-- Left, Kids and Into turn. -/
theorem Ru.kid {w0 : World} {Z q r : Nat} {pv : Value} {t : Tk} {av : Value} {f : Nat} {iv dv : Value} {I : List Int} {nd : List DnA} {s : St} {w w6 w7 : World} {L d : Int} {iv' : Value}
    (h : Ru w0 Z q r pv t av f iv dv I nd s w) (hF6 : Fr (fun i => i = q) w w6) (hb6 : BoxAt w6 q (ruC pv t av r f { s with left := L, kids := s.kids + 1 } iv dv) RunT) (hF : Fr (fun i => iv.ownBlock = some i) w6 w7) (ho : w7.ownsRow Z IntT 1 iv' (I.length + 1) (I.flatMap encN1 ++ encN1 d)) :
    Ru w0 Z q r pv t av f iv' dv (I ++ [d]) nd { s with left := L, kids := s.kids + 1, into := s.into ++ [d] } (w7.setCell ⟨q, 10, none⟩ iv') ∧ Fr (fun i => i = q ∨ iv.ownBlock = some i) w (w7.setCell ⟨q, 10, none⟩ iv') ∧ Typed (fun i => i = q ∨ iv.ownBlock = some i) w [RunT, IntT] := by
  have hz : Z ≤ w.heap.size := by have := (Array.getElem?_eq_some_iff.1 h.box).1; have := h.zq; omega
  have hTo := typed_own (own_typed h.into hF6 (typed_box h.box) (by decide))
  have hb7 := box_typed hb6 hF hTo (by decide)
  have hF8 : Fr (fun i => i = q) w7 (w7.setCell ⟨q, 10, none⟩ iv') := (Fr.refl (fun i => i = q) w7).setCell (p := ⟨q, 10, none⟩) rfl iv'
  have hb8 : BoxAt (w7.setCell ⟨q, 10, none⟩ iv') q (ruC pv t av r f { s with left := L, kids := s.kids + 1, into := s.into ++ [d] } iv' dv) RunT := Go.heap_setCell_same w7 q 10 _ _ iv' hb7
  have hFa : Fr (fun i => i = q ∨ iv.ownBlock = some i) w (w7.setCell ⟨q, 10, none⟩ iv') := ((hF6.mono fun i hi => .inl hi).trans (hF.mono fun i hi => .inr hi)).trans (hF8.mono fun i hi => .inl hi)
  have hTa : Typed (fun i => i = q ∨ iv.ownBlock = some i) w [RunT, IntT] := (typed_box h.box).or (typed_own h.into)
  have hoo := own_typed ho hF8 (typed_box hb7) (by decide)
  refine ⟨⟨hb8, box_typed h.regs hFa hTa (by decide), by simpa [List.flatMap_append] using hoo, own_typed h.done hFa hTa (by decide), fun d hd => own_typed (h.da d hd) hFa hTa (by decide), h.sep, h.dn, h.low.trans (hFa.below (fun i hi => ?_) hz), h.zq, by simp [h.ik], by simp; exact Nat.le_succ_of_le h.ifr.1, ?_⟩, hFa, hTa⟩
  · rcases hi with hi | hi
    · have := h.zq; omega
    · exact (h.into.lt i hi).1
  · simp only []
    rw [List.drop_append_of_le_length h.ifr.1, h.ifr.2]
set_option maxHeartbeats 6400000 in
set_option maxRecDepth 100000 in
theorem rkidx_any {w0 : World} {Z q r : Nat} {pv : Value} {t : Tk} {av : Value} {f : Nat} {iv dv : Value} {I : List Int} {nd : List DnA} {s : St} {w : World} {p : List Fnc} {o : Opr}
    (h : Ru w0 Z q r pv t av f iv dv I nd s w) (hp : WfP p) (ht : TkOk p t) (hpr : ProgAt w pv p) (hi : InvS p t s) (hl1 : s.left ≤ 100000) (ho : OpOk p (fnAt p t.fn) o) (hk : o.k = 12) :
    Calls Try.prog 54 #[.pointer (some ⟨q, 0, none⟩), .agg #[.int .u8 o.k, .int .i64 o.d, .int .i64 o.a, .int .i64 o.b, .int .i64 o.n]] w (RKidP w0 Z q r pv p t av f iv dv I nd s o w) := by
  have hB : Below w.heap.size w ((w.alloc (.cells (opC o) OpT)).alloc (.cells (taC ⟨#[]⟩ 0 (.slice none 0 0) 0) TaskT)) := ((Below.refl _ _).alloc (Nat.le_refl _) _).alloc (by simp) _
  have b1 := BoxAt.below (heap_alloc_new w (.cells (opC o) OpT)) ((Below.refl _ _).alloc (Nat.le_refl _) (.cells (taC ⟨#[]⟩ 0 (.slice none 0 0) 0) TaskT))
  have b2 := heap_alloc_new (w.alloc (.cells (opC o) OpT)) (.cells (taC ⟨#[]⟩ 0 (.slice none 0 0) 0) TaskT)
  simp only [World.size_alloc] at b2
  have hql := (Array.getElem?_eq_some_iff.1 h.box).1
  have hrl := (Array.getElem?_eq_some_iff.1 h.regs).1
  have H := Lib.hid (h.below hB)
  have HB := Lib.hid (And.intro b1 (show BoxAt _ _ _ _ from b2))
  have HW := Lib.hid hB
  have HPR := Lib.hid (hpr.below hB)
  have HQ := Lib.hid (show q < w.heap.size ∧ r < w.heap.size ∧ Z ≤ q from ⟨hql, hrl, h.zq.1⟩)
  have hsz := ht.sz
  have hk0 := hi.k0
  have hk1 := hi.k1
  have hl0 := hi.l0
  have HK := Lib.hid hk
  have HP := Lib.hid hp
  have HT := Lib.hid ht
  have HI := Lib.hid hi
  have HO := Lib.hid ho
  clear h hB b1 b2 hql hrl hpr hk hp ht hi ho
  go_enter Try.func54, Try.ntmps54
  go_upto_region 1 with fail
  simp only [opC, taC] at H HB HW HPR
  generalize (w.alloc (.cells #[.int .u8 o.k, .int .i64 o.d, .int .i64 o.a, .int .i64 o.b, .int .i64 o.n] OpT)).alloc (.cells #[.string ⟨#[]⟩, .int .i64 0, .slice none 0 0, .int .i64 0] TaskT) = w1 at *
  obtain ⟨x0, x1, x2, x5, x6, x7, x8, x9, x10, x11⟩ := ru_cells H.out
  have tb := HB.out.2.cell 0
  have tb1 := HB.out.2.cell 1
  have tb2 := HB.out.2.cell 2
  have tb3 := HB.out.2.cell 3
  have fo0 := HB.out.2.frozen 0
  have fo1 := HB.out.2.frozen 1
  have fo2 := HB.out.2.frozen 2
  have fo3 := HB.out.2.frozen 3
  simp only [List.getElem?_toArray, List.getElem?_cons_zero, List.getElem?_cons_succ] at tb tb1 tb2 tb3
  by_cases h16 : 16 ≤ s.kids
  · have HE := Lib.hid (show kidR t s o = (132, s) by unfold kidR; rw [if_pos h16])
    go_wp2_with fail
    obtain ⟨hbo, hF⟩ := task_set (a' := ⟨#[]⟩) (n' := 0) (v' := .slice none 0 0) (u' := 0) (show BoxAt w1 (w.heap.size + 1) (taC ⟨#[]⟩ 0 (.slice none 0 0) 0) TaskT from HB.out.2)
    have hR := H.out.other hF (typed_box HB.out.2) (fun i hi => by have := HQ.out; omega) (by decide) (by decide) (by decide) (by decide)
    have hFW := (Fr.of_below (S := fun i => i = q ∨ iv.ownBlock = some i) HW.out).join hF (fun i hi => .inr (by omega))
    refine kid_end hbo rfl rfl ⟨⟨#[]⟩, 0, .slice none 0 0, 0, ⟨_, _, _, rfl⟩, by rw [HE.out], hFW, fun _ => hR, fun hz => ?_⟩
    rw [HE.out] at hz
    exact absurd hz (by simp)
  have H16 := Lib.hid h16
  have hwr : IntKind.i64.wrap (s.kids + 1) = s.kids + 1 := IntWalk.i64_in _ (by omega)
  go_upto_region 3 with fail
  refine wp_region_held_drew (S := fun y => Below w1.heap.size w1 y) (by kernel_rfl) ((Below.refl _ _).drew) (fun hHeld => ?_)
  refine wpAnyH_take (i := 0) (oi := _) (v := ?_) (by rw [List.getElem?_toArray]; exact rfl) (by kernel_rfl) (by kernel_rfl) (by kernel_rfl) (by exact fun _ _ _ h => h) (Or.inl ⟨by rfl, ?_⟩) hHeld ?_
  rotate_left
  · (intro wX hSw; clear hSw; go_simp; try with_reducible rfl)
  try simp only [Act.put, List.setIfInBounds_toArray, List.set_cons_zero, List.set_cons_succ]
  refine wpAnyH_take (i := 1) (oi := _) (v := ?_) (by rw [List.getElem?_toArray]; exact rfl) (by kernel_rfl) (by kernel_rfl) (by kernel_rfl) (by exact fun _ _ _ h => h) (Or.inl ⟨by rfl, ?_⟩) hHeld ?_
  rotate_left
  · (intro wX hSw; clear hSw; go_simp; try with_reducible rfl)
  try simp only [Act.put, List.setIfInBounds_toArray, List.set_cons_zero, List.set_cons_succ]
  refine wpAnyH_take (i := 2) (oi := _) (v := ?_) (by rw [List.getElem?_toArray]; exact rfl) (by kernel_rfl) (by kernel_rfl) (by kernel_rfl) (by exact fun _ _ _ h => h) (Or.inl ⟨by rfl, ?_⟩) hHeld ?_
  rotate_left
  · (intro wX hSw; clear hSw; go_simp; try with_reducible rfl)
  try simp only [Act.put, List.setIfInBounds_toArray, List.set_cons_zero, List.set_cons_succ]
  refine wpAnyH_take (i := 3) (oi := _) (v := ?_) (by rw [List.getElem?_toArray]; exact rfl) (by kernel_rfl) (by kernel_rfl) (by kernel_rfl) (by exact fun _ _ _ h => h) (Or.inl ⟨by rfl, ?_⟩) hHeld ?_
  rotate_left
  · (intro wX hSw; clear hSw; go_simp; try with_reducible rfl)
  try simp only [Act.put, List.setIfInBounds_toArray, List.set_cons_zero, List.set_cons_succ]
  refine wpAnyH_take (i := 4) (oi := _) (v := ?_) (by rw [List.getElem?_toArray]; exact rfl) (by kernel_rfl) (by kernel_rfl) (by kernel_rfl) (by exact fun _ _ _ h => h) (Or.inl ⟨by rfl, ?_⟩) hHeld ?_
  rotate_left
  · (intro wX hSw; obtain ⟨z0, z1, z2, z5, z6, z7, z8, z9, z10, z11⟩ := ru_cells (H.out.below hSw); clear hSw z0 z2 z5 z6 z7 z9 z10 z11; go_simp; try with_reducible rfl)
  try simp only [Act.put, List.setIfInBounds_toArray, List.set_cons_zero, List.set_cons_succ]
  refine wpAnyH_take (i := 5) (oi := _) (v := ?_) (by rw [List.getElem?_toArray]; exact rfl) (by kernel_rfl) (by kernel_rfl) (by kernel_rfl) (by exact fun _ _ _ h => h) (Or.inl ⟨by rfl, ?_⟩) hHeld ?_
  rotate_left
  · (intro wX hSw; clear hSw; go_simp; try with_reducible rfl)
  try simp only [Act.put, List.setIfInBounds_toArray, List.set_cons_zero, List.set_cons_succ]
  refine wpAnyH_take (i := 6) (oi := _) (v := ?_) (by rw [List.getElem?_toArray]; exact rfl) (by kernel_rfl) (by kernel_rfl) (by kernel_rfl) (by exact fun _ _ _ h => h) (Or.inl ⟨by rfl, ?_⟩) hHeld ?_
  rotate_left
  · (intro wX hSw; clear hSw; go_simp; try with_reducible rfl)
  try simp only [Act.put, List.setIfInBounds_toArray, List.set_cons_zero, List.set_cons_succ]
  refine wpAnyH_take (i := 7) (oi := _) (v := ?_) (by rw [List.getElem?_toArray]; exact rfl) (by kernel_rfl) (by kernel_rfl) (by kernel_rfl) (by exact fun _ _ _ h => h) (Or.inl ⟨by rfl, ?_⟩) hHeld ?_
  rotate_left
  · (intro wX hSw; clear hSw; go_simp; try with_reducible rfl)
  try simp only [Act.put, List.setIfInBounds_toArray, List.set_cons_zero, List.set_cons_succ]
  refine wpAnyH_take (i := 8) (oi := _) (v := ?_) (by rw [List.getElem?_toArray]; exact rfl) (by kernel_rfl) (by kernel_rfl) (by kernel_rfl) (by exact fun _ _ _ h => h) (Or.inl ⟨by rfl, ?_⟩) hHeld ?_
  rotate_left
  · (intro wX hSw; obtain ⟨z0, z1, z2, z5, z6, z7, z8, z9, z10, z11⟩ := ru_cells (H.out.below hSw); clear hSw z0 z2 z5 z6 z7 z9 z10 z11; go_simp; try with_reducible rfl)
  try simp only [Act.put, List.setIfInBounds_toArray, List.set_cons_zero, List.set_cons_succ]
  refine wpAnyH_take (i := 9) (oi := _) (v := ?_) (by rw [List.getElem?_toArray]; exact rfl) (by kernel_rfl) (by kernel_rfl) (by kernel_rfl) (by exact fun _ _ _ h => h) (Or.inl ⟨by rfl, ?_⟩) hHeld ?_
  rotate_left
  · (intro wX hSw; clear hSw; go_simp; try with_reducible rfl)
  try simp only [Act.put, List.setIfInBounds_toArray, List.set_cons_zero, List.set_cons_succ]
  refine wpAnyH_ready (rs := [10]) (by kernel_rfl) (by simp) ?_
  refine AllReadyH.cons (o := _) (by rw [List.getElem?_toArray]; exact rfl) (fun K hK => ?_) AllReadyH.nil
  go_simp
  refine (rkid_any t.p (s.kids + 1) _ (by omega)).mono ?_; rintro e w2 ⟨rfl, hB⟩
  go_wp2_with fail
  refine hK.out _ _ (gthen hHeld hB) (fun hHeld => ?_)
  clear hK K
  try simp only [Act.put, List.setIfInBounds_toArray, List.set_cons_zero, List.set_cons_succ]
  refine wpAnyH_take (i := 11) (oi := _) (v := ?_) (by rw [List.getElem?_toArray]; exact rfl) (by kernel_rfl) (by kernel_rfl) (by kernel_rfl) (by exact fun _ _ _ h => h) (Or.inl ⟨by rfl, ?_⟩) hHeld ?_
  rotate_left
  · (intro wX hSw; clear hSw; go_simp; try with_reducible rfl)
  try simp only [Act.put, List.setIfInBounds_toArray, List.set_cons_zero, List.set_cons_succ]
  refine wpAnyH_take (i := 12) (oi := _) (v := ?_) (by rw [List.getElem?_toArray]; exact rfl) (by kernel_rfl) (by kernel_rfl) (by kernel_rfl) (by exact fun _ _ _ h => h) (Or.inl ⟨by rfl, ?_⟩) hHeld ?_
  rotate_left
  · (intro wX hSw; clear hSw; go_simp; try with_reducible rfl)
  try simp only [Act.put, List.setIfInBounds_toArray, List.set_cons_zero, List.set_cons_succ]
  refine wpAnyH_take (i := 13) (oi := _) (v := ?_) (by rw [List.getElem?_toArray]; exact rfl) (by kernel_rfl) (by kernel_rfl) (by kernel_rfl) (by exact fun _ _ _ h => h) (Or.inl ⟨by rfl, ?_⟩) hHeld ?_
  rotate_left
  · (intro wX hSw; clear hSw; go_simp; try with_reducible rfl)
  try simp only [Act.put, List.setIfInBounds_toArray, List.set_cons_zero, List.set_cons_succ]
  refine wpAnyH_take (i := 14) (oi := _) (v := ?_) (by rw [List.getElem?_toArray]; exact rfl) (by kernel_rfl) (by kernel_rfl) (by kernel_rfl) (by exact fun _ _ _ h => h) (Or.inl ⟨by rfl, ?_⟩) hHeld ?_
  rotate_left
  · (intro wX hSw; clear hSw; go_simp; try with_reducible rfl)
  try simp only [Act.put, List.setIfInBounds_toArray, List.set_cons_zero, List.set_cons_succ]
  refine wpAnyH_take (i := 15) (oi := _) (v := ?_) (by rw [List.getElem?_toArray]; exact rfl) (by kernel_rfl) (by kernel_rfl) (by kernel_rfl) (by exact fun _ _ _ h => h) (Or.inl ⟨by rfl, ?_⟩) hHeld ?_
  rotate_left
  · (intro wX hSw; clear hSw; go_simp; try with_reducible rfl)
  try simp only [Act.put, List.setIfInBounds_toArray, List.set_cons_zero, List.set_cons_succ]
  refine wpAnyH_done (by kernel_rfl) ?_ _
  have HB2 := Lib.hid hHeld
  clear hHeld
  have H2 := Lib.hid (show (Ru w0 Z q r pv t av f iv dv I nd s w2 ∧ BoxAt w2 w.heap.size (opC o) OpT ∧ BoxAt w2 (w.heap.size + 1) (taC ⟨#[]⟩ 0 (.slice none 0 0) 0) TaskT ∧ ProgAt w2 pv p) ∧ Below w.heap.size w w2 from by
    have hB2 : Below w1.heap.size w1 w2 := HB2.out
    exact ⟨⟨H.out.below hB2, BoxAt.below HB.out.1 hB2, BoxAt.below HB.out.2 hB2, HPR.out.below hB2⟩, gthen HW.out hB2⟩)
  clear H HB HW HPR x0 x1 x2 x5 x6 x7 x8 x9 x10 x11 tb tb1 tb2 tb3 fo0 fo1 fo2 fo3 h16
  have tb := H2.out.1.2.2.1.cell 0
  have tb1 := H2.out.1.2.2.1.cell 1
  have tb2 := H2.out.1.2.2.1.cell 2
  have tb3 := H2.out.1.2.2.1.cell 3
  have fo0 := H2.out.1.2.2.1.frozen 0
  have fo1 := H2.out.1.2.2.1.frozen 1
  have fo2 := H2.out.1.2.2.1.frozen 2
  have fo3 := H2.out.1.2.2.1.frozen 3
  simp only [taC, List.getElem?_toArray, List.getElem?_cons_zero, List.getElem?_cons_succ] at tb tb1 tb2 tb3
  cases hkb : kidB t.p (s.kids + 1)
  · have HE := Lib.hid (show kidR t s o = (133, s) by unfold kidR; rw [if_neg (show ¬ 16 ≤ s.kids by have := H16.out; omega), if_pos hkb])
    clear hkb
    go_wp2_with fail
    obtain ⟨hbo, hF⟩ := task_set (a' := ⟨#[]⟩) (n' := 0) (v' := .slice none 0 0) (u' := 0) H2.out.1.2.2.1
    have hR := H2.out.1.1.other hF (typed_box H2.out.1.2.2.1) (fun i hi => by have := HQ.out; omega) (by decide) (by decide) (by decide) (by decide)
    have hFW := (Fr.of_below (S := fun i => i = q ∨ iv.ownBlock = some i) H2.out.2).join hF (fun i hi => .inr (by omega))
    refine kid_end hbo rfl rfl ⟨⟨#[]⟩, 0, .slice none 0 0, 0, ⟨_, _, _, rfl⟩, by rw [HE.out], hFW, fun _ => hR, fun hz => ?_⟩
    rw [HE.out] at hz
    exact absurd hz (by simp)
  have HE := Lib.hid (show kidR t s o = (0, { s with left := s.left - s.left / 2, kids := s.kids + 1, into := s.into ++ [o.d] }) by unfold kidR; rw [if_neg (show ¬ 16 ≤ s.kids by have := H16.out; omega), if_neg (by rw [hkb]; decide)])
  clear hkb tb tb1 tb2 tb3 fo0 fo1 fo2 fo3
  obtain ⟨hn0, hn1, hn2⟩ := HO.out.fk HK.out
  obtain ⟨j, hj⟩ : ∃ j : Nat, o.n = j := ⟨o.n.toNat, by omega⟩
  have hjl : j < p.length := by omega
  have hfa : fnAt p o.n = p[j] := by
    unfold fnAt
    rw [hj, List.getD_eq_getElem?_getD, Int.toNat_natCast, List.getElem?_eq_getElem hjl]; rfl
  have hfo := HP.out.2 _ (List.getElem_mem hjl)
  have hna0 := hfo.r0
  have hna1 := hfo.r1
  have hna2 := hfo.r2
  obtain ⟨pb, poff, pcap, he, hpb, hpc⟩ := H2.out.1.2.2.2.fns.at (by omega)
  subst he
  have g0 := (fn_at hpc hjl).1
  rw [hfa] at hn2
  obtain ⟨na, hna⟩ : ∃ na : Nat, p[j].args = na := ⟨p[j].args.toNat, by omega⟩
  rw [hna] at g0 hn2 hna0 hna1
  have HNA := Lib.hid (show (fnAt p o.n).args = na by rw [hfa, hna])
  have HJ := Lib.hid hj
  have hr16 : s.regs.length ≤ 16 := by have h0 := HI.out.rl; have h1 := (HP.out.fn HT.out.f0 HT.out.f1).r2; omega
  have hrl : 0 < na → o.a + na ≤ s.regs.length := fun h => by have h0 := HI.out.rl; have := hn2 (by omega); omega
  have ha0 := HO.out.a0
  obtain ⟨k0, k1, k2, k3, k4⟩ := op_cells H2.out.1.2.1
  obtain ⟨x0, x1, x2, x5, x6, x7, x8, x9, x10, x11⟩ := ru_cells H2.out.1.1
  rw [hj] at k4
  have hj0 : (0 : Int) ≤ (j : Int) := by omega
  have hj1 : (j : Int) < (p.length : Int) := by omega
  clear hna hfa hj hfo hpc hpb hn2 hna1 hna2
  go_upto_region 6 with fail
  go_quiet (fail)
  have hBq : Below w2.heap.size w2 (w2.drewN nq) := below_drewN (Below.refl _ _) nq
  have H3 := Lib.hid (show (Ru w0 Z q r (.slice (some ⟨pb, poff, none⟩) p.length pcap) t av f iv dv I nd s (w2.drewN nq) ∧ BoxAt (w2.drewN nq) w.heap.size (opC o) OpT ∧ BoxAt (w2.drewN nq) (w.heap.size + 1) (taC ⟨#[]⟩ 0 (.slice none 0 0) 0) TaskT ∧ ProgAt (w2.drewN nq) (.slice (some ⟨pb, poff, none⟩) p.length pcap) p) ∧ Below w.heap.size w (w2.drewN nq) from
    ⟨⟨H2.out.1.1.below hBq, H2.out.1.2.1.below hBq, H2.out.1.2.2.1.below hBq, H2.out.1.2.2.2.below hBq⟩, gthen H2.out.2 hBq⟩)
  generalize w2.drewN nq = w3 at *
  clear H2 hBq k0 k1 k2 k3 k4 x0 x1 x2 x5 x6 x7 x8 x9 x10 x11 g0
  obtain ⟨k0, k1, k2, k3, k4⟩ := op_cells H3.out.1.2.1
  obtain ⟨x0, x1, x2, x5, x6, x7, x8, x9, x10, x11⟩ := ru_cells H3.out.1.1
  have d1 : s.left.tdiv 2 = s.left / 2 := Int.tdiv_eq_ediv_of_nonneg hl0
  have d2 : IntKind.i64.wrap (s.left / 2) = s.left / 2 := IntWalk.i64_in _ (by omega)
  have hal : ∀ (o : Obj) (a : Addr) (v : Value), w3.cell? a = some v → (w3.alloc o).cell? a = some v := fun o a v h => (((Below.refl w3.heap.size w3).alloc (Nat.le_refl _) o).cell (World.block_lt_of_cell? _ _ h)).trans h
  have f0 := fun o => hal o _ _ k4
  have f1 := fun o => hal o _ _ x7
  clear hal
  go_upto_region 7 with fail
  go_region
  have hA4 : Below w3.heap.size w3 (w3.alloc (.cells #[.string (kidS t.p (s.kids + 1)), .int .i64 o.n, .slice none 0 0, .int .i64 (s.left / 2)] TaskT)).drew := ((Below.refl _ _).alloc (Nat.le_refl _) _).drew
  have H4 := Lib.hid (show (Ru w0 Z q r (.slice (some ⟨pb, poff, none⟩) p.length pcap) t av f iv dv I nd s (w3.alloc (.cells #[.string (kidS t.p (s.kids + 1)), .int .i64 o.n, .slice none 0 0, .int .i64 (s.left / 2)] TaskT)).drew ∧ BoxAt (w3.alloc (.cells #[.string (kidS t.p (s.kids + 1)), .int .i64 o.n, .slice none 0 0, .int .i64 (s.left / 2)] TaskT)).drew w.heap.size (opC o) OpT ∧ BoxAt (w3.alloc (.cells #[.string (kidS t.p (s.kids + 1)), .int .i64 o.n, .slice none 0 0, .int .i64 (s.left / 2)] TaskT)).drew (w.heap.size + 1) (taC ⟨#[]⟩ 0 (.slice none 0 0) 0) TaskT ∧ BoxAt (w3.alloc (.cells #[.string (kidS t.p (s.kids + 1)), .int .i64 o.n, .slice none 0 0, .int .i64 (s.left / 2)] TaskT)).drew w3.heap.size (taC (kidS t.p (s.kids + 1)) o.n (.slice none 0 0) (s.left / 2)) TaskT) ∧ Below w.heap.size w (w3.alloc (.cells #[.string (kidS t.p (s.kids + 1)), .int .i64 o.n, .slice none 0 0, .int .i64 (s.left / 2)] TaskT)).drew from
    ⟨⟨H3.out.1.1.below hA4, H3.out.1.2.1.below hA4, H3.out.1.2.2.1.below hA4, BoxAt.below (heap_alloc_new w3 _) (Below.refl _ _).drew⟩, gthen H3.out.2 hA4⟩)
  have hkbl := (Array.getElem?_eq_some_iff.1 H3.out.1.2.2.1).1
  clear hA4 H3 k0 k1 k2 k3 k4 x0 x1 x2 x5 x6 x7 x8 x9 x10 x11 f0 f1 d1 d2
  generalize (w3.alloc (.cells #[.string (kidS t.p (s.kids + 1)), .int .i64 o.n, .slice none 0 0, .int .i64 (s.left / 2)] TaskT)).drew = w4 at *
  generalize w3.heap.size = kb at *
  have HKL := Lib.hid hkbl
  clear hkbl
  have HTK := Lib.hid (show (kidT p t s o).p = kidS t.p (s.kids + 1) ∧ (kidT p t s o).fn = o.n ∧ (kidT p t s o).fuel = s.left / 2 from ⟨rfl, rfl, rfl⟩)
  have HLL := Lib.hid (show (kidT p t s o).args.length = na from by
    unfold kidT
    simp only [List.length_take, List.length_drop]
    rw [HNA.out]
    by_cases h : 0 < na
    · have := hrl h; simp; omega
    · simp; omega)
  go_upto_if 53 with fail
  go_cut [] (fun wc => KidC w0 Z q r (.slice (some ⟨pb, poff, none⟩) p.length pcap) p t av f iv dv I nd s o kb w wc)
  case first =>
    by_cases hn : 0 < na
    · have hna1 : 0 < (na : Int) := by omega
      obtain ⟨A, hA⟩ : ∃ A : Nat, o.a = A := ⟨o.a.toNat, by omega⟩
      obtain ⟨k0, k1, k2, k3, k4⟩ := op_cells H4.out.1.2.1
      obtain ⟨x0, x1, x2, x5, x6, x7, x8, x9, x10, x11⟩ := ru_cells H4.out.1.1
      rw [hA] at k2
      have hAN := hrl hn
      have hA1 : A + na ≤ s.regs.length := by omega
      have z2 := H4.out.1.2.2.2.cell 2
      have fz2 := H4.out.1.2.2.2.frozen 2
      simp only [taC, List.getElem?_toArray, List.getElem?_cons_zero, List.getElem?_cons_succ] at z2
      have HRD := Lib.hid (show ∀ y, Ru w0 Z q r (.slice (some ⟨pb, poff, none⟩) p.length pcap) t av f iv dv I nd s y → ReadsK encN1 1 y (.slice (some ⟨r, A, none⟩) na (s.regs.length - A)) (kidT p t s o).args from fun y hy => reads_part hy.regs HLL.out.symm hA1 (by unfold kidT; rw [hA]; simp only [Int.toNat_natCast]; rw [HNA.out, Int.toNat_natCast]))
      clear hA hrl hAN
      go_upto_region 9 with fail
      have hw1 : IntKind.i64.wrap ((A : Int) + (na : Int)) = (A : Int) + (na : Int) := IntWalk.i64_in _ (by omega)
      have hsl : ∀ W, (Instr.slice 25 (.slice (some ⟨r, 0, none⟩) s.regs.length s.regs.length) (some (.int .i64 (A : Int))) (some (.int .i64 ((A : Int) + (na : Int)))) none).run Try.prog W = .ok (.slice (some ⟨r, A, none⟩) na (s.regs.length - A)) W := fun W => by
        have h1 := Lib.run_slice_window (P := Try.prog) W 25 2 Try.underlying25 (fun w => by kernel_rfl) r 0 s.regs.length s.regs.length A (A + na) (by omega) (by omega)
        rw [Nat.zero_add, Nat.add_sub_cancel_left, show ((A + na : Nat) : Int) = (A : Int) + (na : Int) from by omega] at h1
        exact h1
      obtain ⟨vk, w5, hap, hown, hgr⟩ := run_appI (w := w4.drew) (B := w4.heap.size) (v := .slice none 0 0) (xs := []) 25 (World.ownsRow_nil _ _ _ _) (HRD.out _ (H4.out.1.1.below (Below.refl _ _).drew)) (by rw [HLL.out]; simp; omega) (by simp)
      obtain ⟨va, vc, hvk⟩ := own_slice hown
      obtain ⟨vn, hvl⟩ : ∃ vn, ([] ++ (kidT p t s o).args).length = vn := ⟨_, rfl⟩
      rw [hvl] at hvk hown
      subst hvk
      have hB5 : Below w4.heap.size w4 w5 := (grow_fr' (show Below w4.heap.size w4 w4.drew from (Below.refl _ _).drew) hgr).below (fun i hi => by cases hi) (Nat.le_refl _)
      have HF5 := Lib.hid hB5
      have y2 := (BoxAt.below H4.out.1.2.2.2 hB5).cell 2
      have fy2 := (BoxAt.below H4.out.1.2.2.2 hB5).frozen 2
      simp only [taC, List.getElem?_toArray, List.getElem?_cons_zero, List.getElem?_cons_succ] at y2
      have HOW := Lib.hid hown
      have KA := Lib.hid (kid_arm (p := p) (o := o) (n := vn) H4.out HQ.out HKL.out hB5 (by rw [← hvl]; simp) (by simpa using hown))
      clear hgr hB5 hown
      clear x0 x1 x2 x6 x7 x8 x9 x10 x11 k0 k1 k3 k4 hwr hn0 hn1 hjl hna0 hr16 ha0 hj0 hj1 hA1 hl0 hl1 hk0 hk1 hsz hvl
      go_still_tail 13, (by kernel_rfl)
      change wpList _ _ _ _ _ w4.drew
      refine wpList_arun rfl _ _ _ _ rfl rfl rfl hap ?_
      all_goals
        go_wp2_with fail
        go_meet
        first
          | exact KA.out.1
          | exact KA.out.2
    · have hna1 : ¬ 0 < (na : Int) := by omega
      have hz : (kidT p t s o).args = [] := List.length_eq_zero_iff.1 (by rw [HLL.out]; omega)
      have HZ := Lib.hid hz
      clear hz
      go_wp2_with fail
      go_meet
      refine ⟨.slice none 0 0, ⟨H4.out.1.1, H4.out.1.2.1, H4.out.1.2.2.1, H4.out.1.2.2.2, ?_⟩, H4.out.2⟩
      rw [HZ.out]
      exact World.ownsRow_nil _ _ _ _
  case rest =>
    obtain ⟨vk, hc⟩ := hcut
    obtain ⟨ka, kc, rfl⟩ := own_slice hc.1.2.2.2.2
    have H5 := Lib.hid hc
    clear hc H4
    obtain ⟨x0, x1, x2, x5, x6, x7, x8, x9, x10, x11⟩ := ru_cells H5.out.1.1
    have z3 := H5.out.1.2.2.2.1.cell 3
    have f7 := H5.out.1.1.box.frozen 7
    have f8 := H5.out.1.1.box.frozen 8
    simp only [taC, List.getElem?_toArray, List.getElem?_cons_zero, List.getElem?_cons_succ] at z3
    have d2 : IntKind.i64.wrap (s.left - s.left / 2) = s.left - s.left / 2 := IntWalk.i64_in _ (by omega)
    go_upto_region 10 with fail
    go_still_tail 10, (by kernel_rfl)
    change wpList _ _ _ _ _ wc.drew
    go_upto_region 12 with fail
    have hF6 : Fr (fun i => i = q) wc ((wc.setCell ⟨q, 7, none⟩ (.int .i64 (s.left - s.left / 2))).setCell ⟨q, 8, none⟩ (.int .i64 (s.kids + 1))).drew := (((Fr.refl (fun i => i = q) wc).setCell (p := ⟨q, 7, none⟩) rfl _).setCell (p := ⟨q, 8, none⟩) rfl _).drew
    have hb6 : BoxAt ((wc.setCell ⟨q, 7, none⟩ (.int .i64 (s.left - s.left / 2))).setCell ⟨q, 8, none⟩ (.int .i64 (s.kids + 1))).drew q (ruC (.slice (some ⟨pb, poff, none⟩) p.length pcap) t av r f { s with left := s.left - s.left / 2, kids := s.kids + 1 } iv dv) RunT := BoxAt.below (Go.heap_setCell_same _ q 8 _ _ _ (Go.heap_setCell_same wc q 7 _ _ _ H5.out.1.1.box)) (Below.refl _ _).drew
    have hT6 := typed_box H5.out.1.1.box
    have hio6 := own_typed H5.out.1.1.into hF6 hT6 (by decide)
    have hob6 := box_typed H5.out.1.2.1 hF6 hT6 (by decide)
    clear x0 x1 x2 x5 x6 x7 x8 x9 x10 x11 z3 f7 f8 d2
    generalize ((wc.setCell ⟨q, 7, none⟩ (.int .i64 (s.left - s.left / 2))).setCell ⟨q, 8, none⟩ (.int .i64 (s.kids + 1))).drew = w6 at *
    obtain ⟨k0, k1, k2, k3, k4⟩ := op_cells hob6
    have x10 : w6.cell? ⟨q, 10, none⟩ = some iv := hb6.cell 10
    have hal : ∀ (o : Obj) (a : Addr) (v : Value), w6.cell? a = some v → (w6.alloc o).cell? a = some v := fun o a v h => (((Below.refl w6.heap.size w6).alloc (Nat.le_refl _) o).cell (World.block_lt_of_cell? _ _ h)).trans h
    have y10 := fun o => hal o _ _ x10
    have y1 := fun o => hal o _ _ k1
    clear hal
    have hkl : I.length ≤ 16 := by have h1 := H5.out.1.1.ik; have h3 := HI.out.k1; omega
    have hZ6 : Z ≤ w6.heap.size := by have := (Array.getElem?_eq_some_iff.1 hb6).1; have := HQ.out; omega
    obtain ⟨ig, hig, hg0, hg1, hg2⟩ := info_parts info_int
    obtain ⟨ia5, ic5, w7, hap, hown7, hgrow, hat7, _⟩ := run_append_lies (P := Try.prog) (w6.drew.alloc (.cells #[.int .i64 o.d] 3)) 59 59 Z 3 ig (.int .i64 0) 1 8 Try.underlying59 hig hg0 hg1 hg2 rfl (by decide) iv I.length (I.flatMap encN1) (own_below hio6 (((Below.refl _ _).drew).alloc (Nat.le_refl _) _)) ⟨w6.heap.size, 0, none⟩ 1 1 (encN1 o.d) rfl (one_int w6.drew o.d) (by intro v hv; simp [encN1] at hv; subst hv; rfl) (by decide) (by unfold maxLen; omega) (by omega) (by simp; omega) _ rfl
    have HAT := Lib.hid (show (Value.slice (some ⟨ia5, 0, none⟩) (I.length + 1) ic5).ownBlock = iv.ownBlock ∨ ∀ i, (Value.slice (some ⟨ia5, 0, none⟩) (I.length + 1) ic5).ownBlock = some i → w.heap.size ≤ i from by
      have h1 : wc.heap.size ≤ w6.heap.size := hF6.size
      have h2 : w.heap.size ≤ wc.heap.size := H5.out.2.size
      rcases hat7 with e | e
      · left; rw [e]; rfl
      · right
        intro b hb
        have hb' : ia5 = b := by simpa [Value.ownBlock] using hb
        have e1 : (w6.drew.alloc (.cells #[.int .i64 o.d] 3)).heap.size = w6.heap.size + 1 := by simp
        rw [e1] at e
        omega)
    have hF7 := grow_fr' (show Below w6.heap.size w6 (w6.drew.alloc (.cells #[.int .i64 o.d] 3)) from ((Below.refl _ _).drew).alloc (Nat.le_refl _) _) hgrow
    have hxq := box_typed hb6 hF7 (typed_own hio6) (by decide)
    have x10' : w7.cell? ⟨q, 10, none⟩ = some iv := hxq.cell 10
    have f10 := hxq.frozen 10
    have H8 := Lib.hid (H5.out.1.1.kid hF6 hb6 hF7 hown7)
    clear hgrow hxq hown7 hF7 hio6 hat7
    go_region_law (first | (refine step_append_run rfl _ _ _ _ rfl _ _ (by simp [Act.eval]) (by simp [Act.eval]) hap ?_) | (go_simp))
    all_goals
      clear k0 k1 k2 k3 k4 x10 y10 y1 x10' f10 hap
      have hkb8 := box_typed H5.out.1.2.2.2.1 H8.out.2.1 H8.out.2.2 (by decide)
      have hrb8 := box_typed (cur := taC ⟨#[]⟩ 0 (.slice none 0 0) 0) H5.out.1.2.2.1 H8.out.2.1 H8.out.2.2 (by decide)
      have HRB := Lib.hid (show BoxAt (w7.setCell ⟨q, 10, none⟩ (.slice (some ⟨ia5, 0, none⟩) (I.length + 1) ic5)) (w.heap.size + 1) (taC ⟨#[]⟩ 0 (.slice none 0 0) 0) TaskT from hrb8)
      clear hn0 hn1 hjl hna0 hr16 hrl ha0 hj0 hj1 hkl hZ6 ig hig hg0 hg1 hg2 hwr hk0 hk1 hl0 hl1 hsz hob6 hF6 hT6 hb6
      generalize w7.setCell ⟨q, 10, none⟩ (.slice (some ⟨ia5, 0, none⟩) (I.length + 1) ic5) = w8 at *
      have z0 := hkb8.cell 0; have z1 := hkb8.cell 1; have z2 := hkb8.cell 2; have z3 := hkb8.cell 3
      have tb := hrb8.cell 0; have tb1 := hrb8.cell 1; have tb2 := hrb8.cell 2; have tb3 := hrb8.cell 3
      have fo0 := hrb8.frozen 0; have fo1 := hrb8.frozen 1; have fo2 := hrb8.frozen 2; have fo3 := hrb8.frozen 3
      simp only [taC, List.getElem?_toArray, List.getElem?_cons_zero, List.getElem?_cons_succ] at z0 z1 z2 z3 tb tb1 tb2 tb3
      clear hkb8 hrb8
      go_wp2_with fail
      obtain ⟨hbo, hF9⟩ := task_set (a' := kidS t.p (s.kids + 1)) (n' := o.n) (v' := .slice ka (kidT p t s o).args.length kc) (u' := s.left / 2) HRB.out
      have hT9 := typed_box HRB.out
      have hFW := ((Fr.of_below (S := fun i => i = q ∨ iv.ownBlock = some i) H5.out.2).trans H8.out.2.1).join hF9 (fun i hi => .inr (by omega))
      have hR9 := H8.out.1.other hF9 hT9 (fun i hi => by have := HQ.out; omega) (by decide) (by decide) (by decide) (by decide)
      have hO9 := own_typed (own_typed H5.out.1.2.2.2.2 H8.out.2.1 H8.out.2.2 (by decide)) hF9 hT9 (by decide)
      refine kid_end hbo rfl rfl ⟨kidS t.p (s.kids + 1), o.n, .slice ka (kidT p t s o).args.length kc, s.left / 2, ⟨_, _, _, rfl⟩, by rw [HE.out], hFW, fun hz => ?_, fun _ => ⟨rfl, rfl, rfl, hO9, .slice (some ⟨ia5, 0, none⟩) (I.length + 1) ic5, ?_, HAT.out⟩⟩
      · rw [HE.out] at hz
        exact absurd rfl hz
      · rw [HE.out]
        exact hR9
end Go.Proofs.Ytdhbjejejeljoaa
