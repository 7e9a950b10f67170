/- Contract: thresherref13.Do. -/
import Derived.Test.YtihadknnmkblcaaEv29
namespace Go.Proofs.Ytihadknnmkblcaa
open Go.RowKit Go.Sort Go.Lib

abbrev ProgT : TypeId := 24
theorem alb30 (w : World) (o : Obj) : Below w.heap.size w (w.alloc o) := (Below.refl _ _).alloc (Nat.le_refl _) _
theorem own_one30 (w : World) (B : Nat) (h : B ≤ w.heap.size) (t : Tk) (z : Rs) (n : Int) (aa : Option Addr) (ac : Nat) :
    (w.drew.alloc (.cells #[.string t.p, .int .i64 t.fn, .slice aa t.args.length ac, .int .i64 t.fuel, .int .i64 z.v, .int .i64 z.e, .int .i64 n] DoneT)).ownsRow B DoneT 7 (.slice (some ⟨w.heap.size, 0, none⟩) 1 1) [((⟨t, z, n⟩, aa, ac) : DnA)].length ([((⟨t, z, n⟩, aa, ac) : DnA)].flatMap encDn) :=
  ⟨rfl, .inr ⟨w.heap.size, 1, _, rfl, h, heap_alloc_new w.drew _, Nat.le_refl _, by unfold maxLen; omega, rfl, rfl⟩⟩
theorem stpR_ctl {p : List Fnc} {t : Tk} {s : St} (hp : WfP p) (ht : TkOk p t) (hi : InvS p t s) (ha : AtOk p t s) (hk : 12 ≤ (opAt p t s).k ∧ (opAt p t s).k ≤ 14) (he : (stpR p t s).2.1 = 0) :
    stpR p t s = (opAt p t s, 0, { s with left := s.left - 1, pc := s.pc + 1 }) ∧ InvS p t { s with left := s.left - 1, pc := s.pc + 1 } ∧ s.done.length + (s.left - 1) < t.fuel ∧ s.left - 1 < t.fuel := by
  by_cases h0 : s.left = 0
  · unfold stpR at he
    rw [if_pos h0] at he
    simp at he
  have hpl : plainB (opAt p t s).k ≠ true := fun h => by have := (plainB_iff _).1 h; omega
  have h1 : stpR p t s = (opAt p t s, 0, { s with left := s.left - 1, pc := s.pc + 1 }) := by
    unfold stpR
    rw [if_neg h0, if_neg hpl]
  obtain ⟨h2, h3⟩ := hi.pay h0
  have h63 : s.pc ≤ 63 := by have := (hp.fn ht.f0 ht.f1).o1; unfold AtOk at ha; omega
  have hpc := hi.pc0
  exact ⟨h1, ⟨h2.rl, by simp only []; omega, by simp only []; omega, h2.l0, h2.k0, h2.k1, h2.il, h2.ik, h2.ir, h2.cnt⟩, h3, by omega⟩
theorem stpR_waits (p : List Fnc) (t : Tk) (s : St) : (stpR p t s).2.2.waits = s.waits := by
  unfold stpR
  by_cases h0 : s.left = 0
  · rw [if_pos h0]
  rw [if_neg h0]
  by_cases hp : plainB (opAt p t s).k = true
  · rw [if_pos hp]
    unfold opR
    simp only []
    generalize opAt p t s = o
    by_cases h1 : o.k = 1
    · rw [if_pos h1]
    rw [if_neg h1]
    by_cases h10 : o.k = 10
    · rw [if_pos h10]
    rw [if_neg h10]
    by_cases h11 : o.k = 11
    · rw [if_pos h11]; simp only []; split <;> rfl
    rw [if_neg h11]
    cases calcP o.k (rg s.regs o.a) (rg s.regs o.b) <;> rfl
  · rw [if_neg hp]
theorem stpR_op (p : List Fnc) (t : Tk) (s : St) : (stpR p t s).1 = opAt p t s := by
  unfold stpR
  split
  · rfl
  · split <;> rfl
set_option maxHeartbeats 6400000 in
set_option maxRecDepth 100000 in
theorem rdo_step {p : List Fnc} {n : Nat} (hp : WfP p) (hD : RDoC p (doP p n) n) : RDoC p (doP p (n + 1)) (n + 1 : Nat) := by
  intro Z0 t aa ac pv w ht hf hpr hZ0 hown
  have hu0 := ht.u0
  have hu1 := ht.u1
  obtain ⟨R, hR⟩ : ∃ R, runP p (doP p n) t (t.fuel.toNat + 1) (beginS p t) = R := ⟨_, rfl⟩
  have HDP := Lib.hid (show doP p (n + 1) t = (R.2, ⟨t, R.2, R.1.kids⟩ :: R.1.done) by rw [← hR]; rfl)
  have HR := Lib.hid hR
  have HDC := Lib.hid (show RDoC p (doP p n) t.fuel from fun Z0' t' aa' ac' pv' w' h1 h2 => hD Z0' t' aa' ac' pv' w' h1 (by omega))
  have HDO := Lib.hid (show DOk p (doP p n) t.fuel from fun k h1 h2 => doP_ok hp n k h1 (by omega))
  generalize doP p n = D at *
  obtain ⟨pa, pc, rfl⟩ := hpr.fns.slice
  have hA1 : Below w.heap.size w (w.alloc (.cells #[.slice pa p.length pc] ProgT)) := (Below.refl _ _).alloc (Nat.le_refl _) _
  have hA2 : Below (w.alloc (.cells #[.slice pa p.length pc] ProgT)).heap.size _ ((w.alloc (.cells #[.slice pa p.length pc] ProgT)).alloc (.cells (taC t.p t.fn (.slice aa t.args.length ac) t.fuel) TaskT)) := (Below.refl _ _).alloc (Nat.le_refl _) _
  have hA3 : Below ((w.alloc (.cells #[.slice pa p.length pc] ProgT)).alloc (.cells (taC t.p t.fn (.slice aa t.args.length ac) t.fuel) TaskT)).heap.size _ (((w.alloc (.cells #[.slice pa p.length pc] ProgT)).alloc (.cells (taC t.p t.fn (.slice aa t.args.length ac) t.fuel) TaskT)).alloc (.cells (resC ⟨0, 0⟩) ResT)) := (Below.refl _ _).alloc (Nat.le_refl _) _
  have b1 : BoxAt (w.alloc (.cells #[.slice pa p.length pc] ProgT)) w.heap.size #[.slice pa p.length pc] ProgT := heap_alloc_new _ _
  have b2 : BoxAt ((w.alloc (.cells #[.slice pa p.length pc] ProgT)).alloc (.cells (taC t.p t.fn (.slice aa t.args.length ac) t.fuel) TaskT)) (w.heap.size + 1) (taC t.p t.fn (.slice aa t.args.length ac) t.fuel) TaskT := by
    have h1 := heap_alloc_new (w.alloc (.cells #[.slice pa p.length pc] ProgT)) (.cells (taC t.p t.fn (.slice aa t.args.length ac) t.fuel) TaskT)
    rwa [World.size_alloc] at h1
  have b3 : BoxAt (((w.alloc (.cells #[.slice pa p.length pc] ProgT)).alloc (.cells (taC t.p t.fn (.slice aa t.args.length ac) t.fuel) TaskT)).alloc (.cells (resC ⟨0, 0⟩) ResT)) (w.heap.size + 2) (resC ⟨0, 0⟩) ResT := by
    have h1 := heap_alloc_new ((w.alloc (.cells #[.slice pa p.length pc] ProgT)).alloc (.cells (taC t.p t.fn (.slice aa t.args.length ac) t.fuel) TaskT)) (.cells (resC ⟨0, 0⟩) ResT)
    rwa [World.size_alloc, World.size_alloc] at h1
  have hlow := gthen (gthen hA1 hA2) hA3
  have HOWN := own_below hown hlow
  have HPRG := hpr.below hlow
  have hsz3 : (((w.alloc (.cells #[.slice pa p.length pc] ProgT)).alloc (.cells (taC t.p t.fn (.slice aa t.args.length ac) t.fuel) TaskT)).alloc (.cells (resC ⟨0, 0⟩) ResT)).heap.size = w.heap.size + 3 := by simp
  have hb1 := BoxAt.below (BoxAt.below b1 hA2) hA3
  have hb2 := BoxAt.below b2 hA3
  clear hR hD hpr hown hA1 hA2 hA3 b1 b2
  go_enter Try.func22, Try.ntmps22
  go_upto_region 1 with fail
  simp only [taC, resC] at hb1 hb2 b3 hlow hsz3 HOWN HPRG
  generalize ((w.alloc (.cells #[.slice pa p.length pc] ProgT)).alloc (.cells #[.string t.p, .int .i64 t.fn, .slice aa t.args.length ac, .int .i64 t.fuel] TaskT)).alloc (.cells #[.int .i64 0, .int .i64 0] ResT) = w1 at *
  have HB := Lib.hid (show (BoxAt w1 w.heap.size #[.slice pa p.length pc] ProgT ∧ BoxAt w1 (w.heap.size + 1) (taC t.p t.fn (.slice aa t.args.length ac) t.fuel) TaskT ∧ BoxAt w1 (w.heap.size + 2) (resC ⟨0, 0⟩) ResT) ∧ Below w.heap.size w w1 ∧ w1.heap.size = w.heap.size + 3 ∧ ProgAt w1 (.slice pa p.length pc) p ∧ w1.ownsRow Z0 I64T 1 (.slice aa t.args.length ac) t.args.length (t.args.flatMap encN1) from ⟨⟨hb1, hb2, b3⟩, hlow, hsz3, HPRG, HOWN⟩)
  have c0 := hb1.cell 0
  have d0 := hb2.cell 0; have d1 := hb2.cell 1; have d2 := hb2.cell 2; have d3 := hb2.cell 3
  simp only [List.getElem?_toArray, List.getElem?_cons_zero, List.getElem?_cons_succ] at c0 d0 d1 d2 d3
  have HRBX := Lib.hid (show BoxAt w1 (w.heap.size + 1 + 1) (resC ⟨0, 0⟩) ResT from b3)
  clear hb1 hb2 b3 hlow hsz3 HPRG HOWN
  go_wp2_with fail
  refine (rbegin_any hp ht HB.out.2.2.2.1 (own_readsK (enc := encN1) (k := 1) (fun _ => rfl) (by decide) HB.out.2.2.2.2)).mono ?_
  rintro e w2 ⟨q, r, rfl, hRu⟩
  obtain ⟨Z, hZ⟩ : ∃ Z, w1.heap.size = Z := ⟨_, rfl⟩
  rw [hZ] at hRu
  have HZ := Lib.hid hZ
  have H2 := Lib.hid hRu
  have HI0 := Lib.hid (beginS_inv hp ht)
  have HA0 := Lib.hid (begin_at hp ht)
  have HP := Lib.hid hp
  have HT := Lib.hid ht
  clear hRu hZ c0 d0 d1 d2 d3 hp ht
  go_wp2_with fail
  go_loopg [7] (t.fuel.toNat + 1) (fun gk t7 wr => ∃ (wv : Value) (s : St) (f : Nat) (iv dv : Value) (I : List Int) (nd : List DnA), wv = t7 ∧ Hid (Rd w1 Z q r (.slice pa p.length pc) t (.slice aa t.args.length ac) f iv dv wv I nd s wr) ∧ Hid (InvS p t s ∧ AtOk p t s ∧ s.left < gk ∧ runP p D t gk s = R))
  case atStart => exact ⟨_, _, _, _, _, _, _, rfl, ⟨H2.out, World.ownsRow_nil _ _ _ _⟩, HI0.out, HA0.out, by unfold beginS; simp only []; omega, HR.out⟩
  case round =>
    clear H2
    obtain ⟨wv, s, f, iv, dv, I, nd, rfl, HS, HC⟩ := hrel
    have hll := HC.out.1.l0
    have hgk := HC.out.2.2.1
    obtain ⟨g, hg⟩ : ∃ g, gk = g + 1 := ⟨gk - 1, by omega⟩
    have HRUN := Lib.hid (show runP p D t (g + 1) s = R by rw [← hg]; exact HC.out.2.2.2)
    have HG := Lib.hid hg
    have HOO := Lib.hid (opAt_ok HP.out HT.out HC.out.1 HC.out.2.1)
    have HPG := Lib.hid (show ∀ y, Below Z w1 y → ProgAt y (.slice pa p.length pc) p from fun y hy => HB.out.2.2.2.1.below (by rw [HZ.out]; exact hy))
    have h63 : s.pc ≤ 63 := by have h1 := (HP.out.fn HT.out.f0 HT.out.f1).o1; have h2 := HC.out.2.1; unfold AtOk at h2; omega
    have hlu : s.left ≤ 100000 := by have h1 := HC.out.1.cnt; omega
    clear hg
    go_wp2_with fail
    refine (rstep_any HS.out.ru (HPG.out _ HS.out.ru.low) HT.out.f0 HT.out.f1 HC.out.1.rl HC.out.1.pc0 (by have h2 := HC.out.2.1; unfold AtOk at h2; exact h2) h63 HOO.out hll hlu).mono ?_
    rintro e w4 ⟨rfl, hRu4, hF4⟩
    obtain ⟨⟨o, e1, s1⟩, hst⟩ : ∃ y, stpR p t s = y := ⟨_, rfl⟩
    rw [hst] at hRu4 ⊢
    have hoe : opAt p t s = o := by rw [← stpR_op p t s, hst]
    rw [hoe] at HOO
    have hw1 : s1.waits = s.waits := by have := stpR_waits p t s; rw [hst] at this; exact this
    have hWT : w4.ownsRow Z ResT 2 wv s1.waits.length (s1.waits.flatMap encRs) := by
      rw [hw1]; exact own_typed HS.out.wt hF4 ((typed_box HS.out.ru.box).or (typed_box HS.out.ru.regs)) (by decide)
    have hA : Below w4.heap.size w4 (w4.alloc (.cells (opC o) OpT)) := alb30 _ _
    have H5 := Lib.hid (show Rd w1 Z q r (.slice pa p.length pc) t (.slice aa t.args.length ac) f iv dv wv I nd s1 (w4.alloc (.cells (opC o) OpT)) ∧ BoxAt (w4.alloc (.cells (opC o) OpT)) w4.heap.size (opC o) OpT from ⟨⟨hRu4.below hA, own_below hWT hA⟩, heap_alloc_new _ _⟩)
    have HST := Lib.hid hst
    have HOE := Lib.hid hoe
    have HSP := Lib.hid (show stepP p D t s = (if (rnd3 o (rnd2 p D t o (e1, s1))).1 ≠ 0 then .stop (rnd3 o (rnd2 p D t o (e1, s1))).2 ⟨0, (rnd3 o (rnd2 p D t o (e1, s1))).1⟩ else if o.k = 14 then .stop (rnd3 o (rnd2 p D t o (e1, s1))).2 ⟨rg (rnd3 o (rnd2 p D t o (e1, s1))).2.regs o.a, 0⟩ else .go (rnd3 o (rnd2 p D t o (e1, s1))).2) from by
      have h1 := stepP_rnd (D := D) (s := s) (by rw [hoe]; exact HOO.out)
      rw [hoe, hst] at h1
      exact h1)
    clear hst hoe hw1 hWT hA hRu4 hF4 HS
    simp only [opV]
    go_upto_region 4 with fail
    simp only [opC] at H5
    generalize w4.alloc (.cells #[.int .u8 o.k, .int .i64 o.d, .int .i64 o.a, .int .i64 o.b, .int .i64 o.n] OpT) = w5 at *
    generalize w4.heap.size = ob at *
    have k0 := (op_cells H5.out.2).1
    obtain ⟨b29, hb29⟩ : ∃ b : Bool, (e1 == 0 && o.k == 12) = b := ⟨_, rfl⟩
    have HB29 := Lib.hid hb29
    go_cut [29] (fun t29 wc => t29 = .bool b29 ∧ w5 = wc)
    case first =>
      clear HB29
      cases h1 : (e1 == 0)
      · rw [h1, Bool.false_and] at hb29
        subst hb29
        go_wp2_with fail
        go_meet
        exact ⟨rfl, rfl⟩
      · rw [h1, Bool.true_and] at hb29
        go_wp2_with fail
        go_meet
        exact ⟨rfl, rfl⟩
    obtain ⟨rfl, rfl⟩ := hcut
    clear hb29 k0
    go_upto_if 29 with fail
    go_cut [7, 9, 10, 11, 12, 13] (fun t7' t9 _ _ _ _ wc => ∃ (wv2 : Value) (e2 : Int) (s2 : St) (f : Nat) (iv dv : Value) (I : List Int) (nd : List DnA), wv2 = t7' ∧ t9 = .int .i64 e2 ∧ Hid (rnd2 p D t o (e1, s1) = (e2, s2)) ∧ Hid (Rd w1 Z q r (.slice pa p.length pc) t (.slice aa t.args.length ac) f iv dv wv2 I nd s2 wc ∧ BoxAt wc ob (opC o) OpT))
    case first =>
      have k0 := (op_cells H5.out.2).1
      by_cases he1 : e1 = 0
      · by_cases h12 : o.k = 12
        · have HE1 := Lib.hid he1
          have HK := Lib.hid h12
          have hctl := stpR_ctl HP.out HT.out HC.out.1 HC.out.2.1 (by rw [HOE.out]; omega) (by rw [HST.out]; exact he1)
          rw [HST.out] at hctl
          have hs1 : s1 = { s with left := s.left - 1, pc := s.pc + 1 } := by have := hctl.1; injection this with _ h; injection h
          have HI1 := Lib.hid (show InvS p t s1 ∧ s1.left < t.fuel ∧ s1.done.length + s1.left < t.fuel ∧ s1.left ≤ 100000 from by
            rw [hs1]; exact ⟨hctl.2.1, hctl.2.2.2, by simpa using hctl.2.2.1, by show s.left - 1 ≤ 100000; omega⟩)
          clear hctl hs1
          have hb : b29 = true := by rw [← HB29.out, he1, h12]; rfl
          subst hb
          subst he1
          rw [h12] at k0
          obtain ⟨_, k1, k2, k3, k4⟩ := op_cells H5.out.2
          clear h12
          go_wp2_with fail
          have hcall := rkidx_any (o := o) H5.out.1.ru HP.out HT.out (HPG.out _ H5.out.1.ru.low) HI1.out.1 HI1.out.2.2.2 HOO.out HK.out
          rw [HK.out] at hcall
          refine hcall.mono ?_
          clear hcall
          rintro e w6 ⟨ka, kn, kv, ku, ⟨kaa, kvn, kac, rfl⟩, rfl, hF6, hk0, hk1⟩
          have hT6 := (typed_box H5.out.1.ru.box).or (typed_own H5.out.1.ru.into)
          have HW6 := Lib.hid (show w6.ownsRow Z ResT 2 wv s1.waits.length (s1.waits.flatMap encRs) ∧ BoxAt w6 ob (opC o) OpT ∧ w5.heap.size ≤ w6.heap.size from ⟨own_typed H5.out.1.wt hF6 hT6 (by decide), box_typed H5.out.2 hF6 hT6 (by decide), hF6.size⟩)
          obtain ⟨⟨ke, s6⟩, hkr⟩ : ∃ y, kidR t s1 o = y := ⟨_, rfl⟩
          rw [hkr] at hk0 hk1 ⊢
          simp only [] at hk0 hk1 ⊢
          have HKR := Lib.hid hkr
          clear hkr hF6 hT6 k0 k1 k2 k3 k4
          by_cases hke : ke = 0
          · have HF2 := Lib.hid (show rnd2 p D t o (0, s1) = (0, { s6 with waits := s1.waits ++ [(D (kidT p t s1 o)).1], done := s1.done ++ (D (kidT p t s1 o)).2 }) ∧ s6.done = s1.done from by
              have h1 := HKR.out
              unfold kidR at h1
              unfold rnd2
              rw [if_pos ⟨rfl, HK.out⟩]
              unfold forkS
              simp only []
              split at h1
              · injection h1 with h1; omega
              split at h1
              · injection h1 with h1; omega
              rename_i g1 g2
              injection h1 with _ h1
              rw [if_neg g1, if_neg g2]
              subst h1
              exact ⟨rfl, rfl⟩)
            obtain ⟨rfl, rfl, rfl, hown, iv', hRu6⟩ := hk1 hke
            obtain ⟨kaa', kac', hkv⟩ := own_slice hown
            injection hkv with e1' e2' e3'
            subst e1' e2' e3'
            have hkb : kidB t.p (s1.kids + 1) = true := by
              have h1 := HKR.out
              unfold kidR at h1
              split at h1
              · injection h1 with h1; omega
              split at h1
              · injection h1 with h1; omega
              · rename_i g2; simpa using g2
            obtain ⟨htk, hfu⟩ := kid_ok HP.out HT.out HI1.out.1 HI1.out.2.1 HOO.out HK.out hkb
            subst hke
            obtain ⟨k, hkk⟩ : ∃ k, kidT p t s1 o = k := ⟨_, rfl⟩
            rw [hkk] at hown htk hfu HF2 ⊢
            clear hkk hk0 hk1 hkb
            have hA6 : Below w6.heap.size w6 (w6.alloc (.cells (taC k.p k.fn (.slice kaa k.args.length kac) k.fuel) TaskT)) := alb30 _ _
            have H7 := Lib.hid (show (Ru w1 Z q r (.slice pa p.length pc) t (.slice aa t.args.length ac) f iv' dv (I ++ [o.d]) nd s6 (w6.alloc (.cells (taC k.p k.fn (.slice kaa k.args.length kac) k.fuel) TaskT)) ∧ (w6.alloc (.cells (taC k.p k.fn (.slice kaa k.args.length kac) k.fuel) TaskT)).ownsRow Z ResT 2 wv s1.waits.length (s1.waits.flatMap encRs) ∧ BoxAt (w6.alloc (.cells (taC k.p k.fn (.slice kaa k.args.length kac) k.fuel) TaskT)) ob (opC o) OpT) ∧ BoxAt (w6.alloc (.cells (taC k.p k.fn (.slice kaa k.args.length kac) k.fuel) TaskT)) w6.heap.size (taC k.p k.fn (.slice kaa k.args.length kac) k.fuel) TaskT ∧ (w6.alloc (.cells (taC k.p k.fn (.slice kaa k.args.length kac) k.fuel) TaskT)).ownsRow w5.heap.size I64T 1 (.slice kaa k.args.length kac) k.args.length (k.args.flatMap encN1) from
              ⟨⟨hRu6.below hA6, own_below HW6.out.1 hA6, BoxAt.below HW6.out.2.1 hA6⟩, heap_alloc_new _ _, own_below hown hA6⟩)
            have HL5 := Lib.hid (show Z ≤ w5.heap.size ∧ r < w5.heap.size ∧ w5.heap.size ≤ (w6.alloc (.cells (taC k.p k.fn (.slice kaa k.args.length kac) k.fuel) TaskT)).heap.size from ⟨by have h1 := (Array.getElem?_eq_some_iff.1 H5.out.1.ru.regs).1; have h2 := H5.out.1.ru.zq.2; omega, (Array.getElem?_eq_some_iff.1 H5.out.1.ru.regs).1, Nat.le_trans HW6.out.2.2 hA6.size⟩)
            clear hA6 hown hRu6 HW6
            go_upto_region 6 with fail
            simp only [taC] at H7 HL5
            generalize w6.alloc (.cells #[.string k.p, .int .i64 k.fn, .slice kaa k.args.length kac, .int .i64 k.fuel] TaskT) = w7 at *
            generalize w6.heap.size = kb at *
            have c0 := (H7.out.1.1.old HB.out.1.1 (by rw [← HZ.out, HB.out.2.2.1]; omega)).cell 0
            have d0 := H7.out.2.1.cell 0; have d1 := H7.out.2.1.cell 1; have d2 := H7.out.2.1.cell 2; have d3 := H7.out.2.1.cell 3
            simp only [List.getElem?_toArray, List.getElem?_cons_zero, List.getElem?_cons_succ] at c0 d0 d1 d2 d3
            go_wp2_with fail
            refine (HDC.out w5.heap.size k kaa kac _ _ htk hfu (HPG.out _ H7.out.1.1.low) HL5.out.2.2 H7.out.2.2).mono ?_
            rintro e w8 ⟨hB8, lv, ndc, rfl, hownl, hmapl, hal⟩
            have hlen : (ndc.length : Int) ≤ k.fuel + 1 := by
              have h1 := HDO.out k htk hfu
              rw [← hmapl, List.length_map] at h1
              exact h1
            have hmap2 := hmapl
            obtain ⟨⟨xv, xe⟩, hxr⟩ : ∃ x, (D k).1 = x := ⟨_, rfl⟩
            obtain ⟨L, hL⟩ : ∃ L, (D k).2 = L := ⟨_, rfl⟩
            rw [hL] at hmapl
            rw [hxr, hL] at HF2
            rw [hxr]
            simp only []
            have H8 := Lib.hid (show (Ru w1 Z q r (.slice pa p.length pc) t (.slice aa t.args.length ac) f iv' dv (I ++ [o.d]) nd s6 w8 ∧ w8.ownsRow Z ResT 2 wv s1.waits.length (s1.waits.flatMap encRs) ∧ BoxAt w8 ob (opC o) OpT) ∧ w8.ownsRow w7.heap.size DoneT 7 lv ndc.length (ndc.flatMap encDn) ∧ (∀ d ∈ ndc, ArgsAt w5.heap.size w8 d) ∧ ndc.map (·.1) = L ∧ (ndc.length : Int) ≤ 70000 from
              ⟨⟨H7.out.1.1.below hB8, own_below H7.out.1.2.1 hB8, BoxAt.below H7.out.1.2.2 hB8⟩, hownl, hal, hmapl, by have h1 := htk.u1; omega⟩)
            clear hmap2 hmapl hxr hL hal hownl hB8 c0 d0 d1 d2 d3 hlen htk hfu
            have hA8 : Below w8.heap.size w8 (w8.alloc (.cells (resC ⟨xv, xe⟩) ResT)) := alb30 _ _
            have HX8 := Lib.hid (show BoxAt (w8.alloc (.cells (resC ⟨xv, xe⟩) ResT)) w8.heap.size (resC ⟨xv, xe⟩) ResT ∧ (Ru w1 Z q r (.slice pa p.length pc) t (.slice aa t.args.length ac) f iv' dv (I ++ [o.d]) nd s6 (w8.alloc (.cells (resC ⟨xv, xe⟩) ResT)) ∧ (w8.alloc (.cells (resC ⟨xv, xe⟩) ResT)).ownsRow Z ResT 2 wv s1.waits.length (s1.waits.flatMap encRs) ∧ BoxAt (w8.alloc (.cells (resC ⟨xv, xe⟩) ResT)) ob (opC o) OpT) ∧ (w8.alloc (.cells (resC ⟨xv, xe⟩) ResT)).ownsRow w7.heap.size DoneT 7 lv ndc.length (ndc.flatMap encDn) ∧ (∀ d ∈ ndc, ArgsAt w5.heap.size (w8.alloc (.cells (resC ⟨xv, xe⟩) ResT)) d) from
              ⟨heap_alloc_new _ _, ⟨H8.out.1.1.below hA8, own_below H8.out.1.2.1 hA8, BoxAt.below H8.out.1.2.2 hA8⟩, own_below H8.out.2.1 hA8, fun d hd => own_below (H8.out.2.2.1 d hd) hA8⟩)
            simp only [resC] at HX8
            clear hA8
            go_upto_region 9 with fail
            generalize w8.alloc (.cells #[.int .i64 xv, .int .i64 xe] ResT) = w9 at *
            generalize w8.heap.size = xb at *
            have x0 := HX8.out.1.cell 0; have x1 := HX8.out.1.cell 1
            simp only [List.getElem?_toArray, List.getElem?_cons_zero, List.getElem?_cons_succ] at x0 x1
            have hw16 : s1.waits.length ≤ 16 := by have h1 := HI1.out.1.il; have h2 := HI1.out.1.ik; have h3 := HI1.out.1.k1; omega
            obtain ⟨ig, hig, hg0, hg1, hg2⟩ := info_parts info_res
            obtain ⟨wv', w10, hap, hown10, hgrow, _⟩ := run_append_own (P := Try.prog) (w := w9.alloc (.cells #[.int .i64 xv, .int .i64 xe] ResT)) Z 85 85 ResT ig _ 2 16 Try.underlying85 hig hg0 hg1 hg2 rfl (by decide) wv s1.waits.length (s1.waits.flatMap encRs) (own_below HX8.out.2.1.2.1 (alb30 _ _)) ⟨w9.heap.size, 0, none⟩ 1 1 (encRs ⟨xv, xe⟩) rfl (one_res w9 ⟨xv, xe⟩)
              (by intro v hv; simp only [encRs, List.mem_cons, List.not_mem_nil, or_false] at hv; rcases hv with h | h <;> subst h <;> rfl) (by unfold maxLen; omega) (by omega) (by have := HL5.out.1; have h2 := (Array.getElem?_eq_some_iff.1 HX8.out.1).1; have h3 := HX8.out.2.1.1.zq.1; have h4 := (Array.getElem?_eq_some_iff.1 HX8.out.2.1.1.box).1; simp; omega)
            have hF10 := grow_fr' (alb30 w9 (.cells #[.int .i64 xv, .int .i64 xe] ResT)) hgrow
            have hP10 := HX8.out.2.1.1.pushW HX8.out.2.1.2.1 hF10 hown10
            have hTw := typed_own HX8.out.2.1.2.1
            have H10 := Lib.hid (show (Ru w1 Z q r (.slice pa p.length pc) t (.slice aa t.args.length ac) f iv' dv (I ++ [o.d]) nd s6 w10 ∧ w10.ownsRow Z ResT 2 wv' (s1.waits ++ [(⟨xv, xe⟩ : Rs)]).length ((s1.waits ++ [(⟨xv, xe⟩ : Rs)]).flatMap encRs) ∧ BoxAt w10 ob (opC o) OpT) ∧ w10.ownsRow w7.heap.size DoneT 7 lv ndc.length (ndc.flatMap encDn) ∧ (∀ d ∈ ndc, ArgsAt w5.heap.size w10 d) from
              ⟨⟨hP10.1, hP10.2, box_typed HX8.out.2.1.2.2 hF10 hTw (by decide)⟩, own_typed HX8.out.2.2.1 hF10 hTw (by decide), fun d hd => own_typed (HX8.out.2.2.2 d hd) hF10 hTw (by decide)⟩)
            clear hP10 hTw hF10 hgrow hown10
            clear HX8 hig hg0 hg1 hg2
            have x11 := (ru_cells H10.out.1.1).2.2.2.2.2.2.2.2.2
            have hdl : nd.length + ndc.length ≤ 1000000 := by
              have h1 := congrArg List.length H10.out.1.1.dn
              have h2 := HF2.out.2
              have h3 := HI1.out.1.cnt
              have h4 := HI1.out.1.l0
              have h5 := H8.out.2.2.2.2
              rw [List.length_map, h2] at h1
              omega
            obtain ⟨dv', w11, hapd, hownd, hgrd⟩ := run_appD (w := w10) (B := Z) 35 H10.out.1.1.done (own_readsK (enc := encDn) (k := 7) encDn_len (by decide) H10.out.2.1) hdl (by have h3 := H10.out.1.1.zq.1; have h4 := (Array.getElem?_eq_some_iff.1 H10.out.1.1.box).1; omega)
            have hFd := grow_fr' (Below.refl w10.heap.size w10) hgrd
            obtain ⟨da, dc, hdv⟩ := own_slice hownd
            obtain ⟨dn, hdn⟩ : ∃ n, (nd ++ ndc).length = n := ⟨_, rfl⟩
            rw [hdn] at hdv
            subst hdv
            have hP11 := H10.out.1.1.pushD hFd hownd (fun d hd => owns_base (H10.out.2.2 d hd) HL5.out.1) (fun d hd e => by have h1 := ((H10.out.2.2 d hd).lt r e).1; have := HL5.out.2.1; omega) H8.out.2.2.2.1
            have hb11 := box_typed H10.out.1.1.box hFd (typed_own H10.out.1.1.done) (by decide)
            have x11' := hb11.cell 11
            have f11 := hb11.frozen 11
            simp only [List.getElem?_toArray, List.getElem?_cons_zero, List.getElem?_cons_succ] at x11'
            have H11 := Lib.hid (show Ru w1 Z q r (.slice pa p.length pc) t (.slice aa t.args.length ac) f iv' (.slice da dn dc) (I ++ [o.d]) (nd ++ ndc) { s6 with done := s6.done ++ L } (w11.setCell ⟨q, 11, none⟩ (.slice da dn dc)) ∧ (w11.setCell ⟨q, 11, none⟩ (.slice da dn dc)).ownsRow Z ResT 2 wv' (s1.waits ++ [(⟨xv, xe⟩ : Rs)]).length ((s1.waits ++ [(⟨xv, xe⟩ : Rs)]).flatMap encRs) ∧ BoxAt (w11.setCell ⟨q, 11, none⟩ (.slice da dn dc)) ob (opC o) OpT from
              ⟨hP11.1, own_typed H10.out.1.2.1 hP11.2.1 hP11.2.2 (by decide), box_typed H10.out.1.2.2 hP11.2.1 hP11.2.2 (by decide)⟩)
            clear hP11 hb11 hFd hgrd hownd
            go_wp2_with (at_builtin; first | (refine wpList_arun rfl _ _ _ _ rfl rfl rfl hap ?_) | (refine wpList_arun rfl _ _ _ _ rfl rfl rfl hapd ?_))
            go_meet
            refine ⟨wv', 0, { s6 with waits := s1.waits ++ [(⟨xv, xe⟩ : Rs)], done := s1.done ++ L }, f, iv', .slice da dn dc, I ++ [o.d], nd ++ ndc, rfl, rfl, HF2.out.1, ⟨?_, H11.out.2.1⟩, H11.out.2.2⟩
            have h1 := H11.out.1.waits (s1.waits ++ [(⟨xv, xe⟩ : Rs)])
            rw [HF2.out.2] at h1
            exact h1
          · have HF2 := Lib.hid (show rnd2 p D t o (0, s1) = (ke, s1) from by
              have h1 := HKR.out
              unfold kidR at h1
              unfold rnd2
              rw [if_pos ⟨rfl, HK.out⟩]
              unfold forkS
              simp only []
              split at h1
              · injection h1 with h1 h2; rename_i g1; rw [if_pos g1, h1]
              split at h1
              · injection h1 with h1 h2; rename_i g1 g2; rw [if_neg g1, if_pos g2, h1]
              · injection h1 with h1 h2; omega)
            have hRu6 := hk0 hke
            have hkeb : (ke == 0) = false := by simpa using hke
            clear hke hk0 hk1
            have HM := Lib.hid (show ∀ y, Below w6.heap.size w6 y → Rd w1 Z q r (.slice pa p.length pc) t (.slice aa t.args.length ac) f iv dv wv I nd s1 y ∧ BoxAt y ob (opC o) OpT from fun y hy => ⟨⟨hRu6.below hy, own_below HW6.out.1 hy⟩, BoxAt.below HW6.out.2.1 hy⟩)
            go_upto_region 6 with fail
            have HM2 := Lib.hid (HM.out _ (alb30 w6 (.cells #[.string ka, .int .i64 kn, .slice kaa kvn kac, .int .i64 ku] TaskT)))
            go_wp2_with fail
            go_meet
            exact ⟨wv, ke, s1, f, iv, dv, I, nd, rfl, rfl, HF2.out, HM2.out.1, HM2.out.2⟩
        · have h12b : (o.k == 12) = false := by simpa using h12
          have HF2 := Lib.hid (show rnd2 p D t o (e1, s1) = (e1, s1) from by unfold rnd2; rw [if_neg (fun h => h12 h.2)])
          have hb : b29 = false := by rw [← HB29.out, h12b, Bool.and_false]
          subst hb
          clear h12 he1
          go_wp2_with fail
          go_meet
          exact ⟨wv, e1, s1, f, iv, dv, I, nd, rfl, rfl, HF2.out, H5.out.1, H5.out.2⟩
      · have he1b : (e1 == 0) = false := by simpa using he1
        have HF2 := Lib.hid (show rnd2 p D t o (e1, s1) = (e1, s1) from by unfold rnd2; rw [if_neg (fun h => he1 h.1)])
        have hb : b29 = false := by rw [← HB29.out, he1b, Bool.false_and]
        subst hb
        clear he1
        go_wp2_with fail
        go_meet
        exact ⟨wv, e1, s1, f, iv, dv, I, nd, rfl, rfl, HF2.out, H5.out.1, H5.out.2⟩
    case rest =>
      obtain ⟨wv2, e2, s2, f2, iv2, dv2, I2, nd2, rfl, rfl, HR2, HW2⟩ := hcut
      obtain ⟨wx2, rfl⟩ : ∃ x, x = wc := ⟨_, rfl⟩
      clear H5 HB29
      obtain ⟨b69, hb69⟩ : ∃ b : Bool, (e2 == 0 && (o.k == 13 || o.k == 14)) = b := ⟨_, rfl⟩
      have HB69 := Lib.hid hb69
      go_upto_region 11 with fail
      go_cut [69] (fun t69 wd => t69 = .bool b69 ∧ wx2 = wd)
      case first =>
        clear HB69
        have k0 := (op_cells HW2.out.2).1
        cases h1 : (e2 == 0)
        · rw [h1, Bool.false_and] at hb69
          subst hb69
          go_wp2_with fail
          go_meet
          exact ⟨rfl, rfl⟩
        · rw [h1, Bool.true_and] at hb69
          cases h2 : (o.k == 13)
          · rw [h2, Bool.false_or] at hb69
            go_wp2_with fail
            go_meet
            exact ⟨rfl, rfl⟩
          · rw [h2, Bool.true_or] at hb69
            subst hb69
            go_wp2_with fail
            go_meet
            exact ⟨rfl, rfl⟩
      case rest =>
      obtain ⟨rfl, rfl⟩ := hcut
      clear hb69
      go_upto_if 69 with fail
      go_cut [7, 9] (fun t7' t9 wd => ∃ (wv3 : Value) (e3 : Int) (s3 : St) (f3 : Nat), wv3 = t7' ∧ t9 = .int .i64 e3 ∧ Hid (rnd3 o (e2, s2) = (e3, s3)) ∧ Hid (Ru w1 Z q r (.slice pa p.length pc) t (.slice aa t.args.length ac) f3 iv2 dv2 I2 nd2 s3 wd ∧ (e3 = 0 → wd.ownsRow Z ResT 2 wv3 s3.waits.length (s3.waits.flatMap encRs)) ∧ BoxAt wd ob (opC o) OpT))
      case first =>
        cases b69
        · have HF3 := Lib.hid (show rnd3 o (e2, s2) = (e2, s2) from by
            unfold rnd3
            rw [if_neg]
            rintro ⟨h1, h2⟩
            have h3 := HB69.out
            simp only [] at h1
            rw [h1] at h3
            rcases h2 with h2 | h2 <;> simp [h2] at h3)
          go_wp2_with fail
          go_meet
          exact ⟨wv2, e2, s2, f2, rfl, rfl, HF3.out, HW2.out.1.ru, fun _ => HW2.out.1.wt, HW2.out.2⟩
        · have hb := HB69.out
          simp only [Bool.and_eq_true, Bool.or_eq_true, beq_iff_eq] at hb
          obtain ⟨he2, hk⟩ := hb
          subst he2
          have h12 : o.k ≠ 12 := by omega
          have hx : (e1, s1) = (0, s2) := by
            have h1 := HR2.out
            unfold rnd2 at h1
            rw [if_neg (fun h => h12 h.2)] at h1
            exact h1
          injection hx with hx1 hx2
          have hctl := stpR_ctl HP.out HT.out HC.out.1 HC.out.2.1 (by rw [HOE.out]; omega) (by rw [HST.out]; exact hx1)
          rw [HST.out] at hctl
          have hs1 : s1 = { s with left := s.left - 1, pc := s.pc + 1 } := by have := hctl.1; injection this with _ h; injection h
          have hI2 : InvS p t s2 := by rw [← hx2, hs1]; exact hctl.2.1
          have HF3 := Lib.hid (show rnd3 o (0, s2) = joinS s2 from by unfold rnd3; rw [if_pos ⟨rfl, hk⟩])
          clear hctl hs1 hx1 hx2 h12 hk
          go_wp2_with fail
          refine (rjoin_any HW2.out.1.ru hI2 HW2.out.1.wt).mono ?_
          rintro e w13 ⟨rfl, ⟨f3, hRu⟩, hF⟩
          have hb13 := box_typed HW2.out.2 hF ((typed_box HW2.out.1.ru.box).or (typed_box HW2.out.1.ru.regs)) (by decide)
          have HH := Lib.hid (And.intro hRu hb13)
          obtain ⟨⟨e3, s3⟩, hjs⟩ : ∃ y, joinS s2 = y := ⟨_, rfl⟩
          have HW0 := Lib.hid (show e3 = 0 → s3.waits = [] from by
            intro h
            have h1 := hjs
            unfold joinS at h1
            split at h1
            · injection h1 with h1 h2; rename_i g; exact absurd (h1.trans h) g
            · injection h1 with h1 h2; rw [← h2])
          rw [hjs] at HH HF3 ⊢
          simp only [] at HH ⊢
          clear hRu hF hb13 hjs hI2
          go_wp2_with fail
          go_meet
          exact ⟨.slice none 0 0, e3, s3, f3, rfl, rfl, HF3.out, HH.out.1, fun h => by rw [HW0.out h]; exact World.ownsRow_nil _ _ _ _, HH.out.2⟩
      case rest =>
      obtain ⟨wv3, e3, s3, f3, rfl, rfl, HR3, HW3⟩ := hcut
      obtain ⟨wd, rfl⟩ : ∃ x, x = wc := ⟨_, rfl⟩
      have HSQ := Lib.hid (show stepP p D t s = (if e3 ≠ 0 then .stop s3 ⟨0, e3⟩ else if o.k = 14 then .stop s3 ⟨rg s3.regs o.a, 0⟩ else .go s3) from by
        have h1 := HSP.out
        rw [HR2.out, HR3.out] at h1
        exact h1)
      clear HW2 HR2 HR3 HB69 HSP
      obtain ⟨b79, hb79⟩ : ∃ b : Bool, (e3 != 0 || o.k == 14) = b := ⟨_, rfl⟩
      have HB79 := Lib.hid hb79
      go_upto_region 14 with fail
      go_cut [79] (fun t79 we => t79 = .bool b79 ∧ wd = we)
      case first =>
        clear HB79
        have k0 := (op_cells HW3.out.2.2).1
        cases h1 : (e3 != 0)
        · rw [h1, Bool.false_or] at hb79
          go_wp2_with fail
          go_meet
          exact ⟨rfl, rfl⟩
        · rw [h1, Bool.true_or] at hb79
          subst hb79
          go_wp2_with fail
          go_meet
          exact ⟨rfl, rfl⟩
      case rest =>
      obtain ⟨rfl, rfl⟩ := hcut
      clear hb79
      cases b79
      · have hb := HB79.out
        simp only [Bool.or_eq_false_iff, bne_eq_false_iff_eq, beq_eq_false_iff_ne, ne_eq] at hb
        obtain ⟨he3, hk⟩ := hb
        have HGO := Lib.hid (show stepP p D t s = .go s3 from by rw [HSQ.out, if_neg (fun h => h he3), if_neg hk])
        have HRS := Lib.hid (show runP p D t g s3 = R from by
          rw [← HRUN.out]
          conv => rhs; unfold runP
          rw [HGO.out])
        have HNX := Lib.hid (step_go (D := D) (s' := s3) HP.out HT.out HDO.out HC.out.1 HC.out.2.1 HGO.out)
        have HWT := Lib.hid (HW3.out.2.1 he3)
        clear he3 hk
        go_wp2_with fail
        go_roundg g
        case rel => exact ⟨wv3, s3, f3, iv2, dv2, I2, nd2, rfl, ⟨HW3.out.1, HWT.out⟩, HNX.out.1, HNX.out.2.1, by have h1 := HNX.out.2.2; have h2 := HG.out; omega, HRS.out⟩
        case measure => have := HG.out; omega
      · obtain ⟨rz, hrz⟩ : ∃ z : Rs, (if e3 ≠ 0 then ⟨0, e3⟩ else ⟨rg s3.regs o.a, 0⟩) = z := ⟨_, rfl⟩
        have HSTOP := Lib.hid (show stepP p D t s = .stop s3 rz from by
          rw [HSQ.out, ← hrz]
          by_cases h : e3 ≠ 0
          · rw [if_pos h, if_pos h]
          · have hb := HB79.out
            have h0 : e3 = 0 := by simpa using h
            rw [h0] at hb
            have hk : o.k = 14 := by simpa using hb
            rw [if_neg h, if_neg h, if_pos hk])
        have HI3 := Lib.hid (step_stop HP.out HT.out HDO.out HC.out.1 HC.out.2.1 HSTOP.out)
        have HRR := Lib.hid (show R = (s3, rz) from by
          rw [← HRUN.out]; unfold runP
          rw [HSTOP.out])
        have HRZ := Lib.hid hrz
        have HK14 := Lib.hid (show e3 = 0 → o.k = 14 from fun h => by have hb := HB79.out; rw [h] at hb; simpa using hb)
        clear hrz HSTOP HSQ HB79 HRUN
        go_upto_region 16 with fail
        have hA := alb30 wd (.cells (resC ⟨0, e3⟩) ResT)
        have H15 := Lib.hid (show Ru w1 Z q r (.slice pa p.length pc) t (.slice aa t.args.length ac) f3 iv2 dv2 I2 nd2 s3 (wd.alloc (.cells (resC ⟨0, e3⟩) ResT)) ∧ BoxAt (wd.alloc (.cells (resC ⟨0, e3⟩) ResT)) ob (opC o) OpT ∧ BoxAt (wd.alloc (.cells (resC ⟨0, e3⟩) ResT)) wd.heap.size (resC ⟨0, e3⟩) ResT ∧ (q < wd.heap.size ∧ r < wd.heap.size) from
          ⟨HW3.out.1.below hA, BoxAt.below HW3.out.2.2 hA, heap_alloc_new _ _, (Array.getElem?_eq_some_iff.1 HW3.out.1.box).1, (Array.getElem?_eq_some_iff.1 HW3.out.1.regs).1⟩)
        simp only [resC] at H15
        clear hA HW3
        generalize wd.alloc (.cells #[.int .i64 0, .int .i64 e3] ResT) = we at *
        generalize wd.heap.size = xb at *
        go_upto_if 83 with fail
        go_cut [] (fun wz => Hid (Ru w1 Z q r (.slice pa p.length pc) t (.slice aa t.args.length ac) f3 iv2 dv2 I2 nd2 s3 wz ∧ BoxAt wz xb (resC rz) ResT))
        case first =>
          by_cases he3 : e3 = 0
          · have hk14 := HK14.out he3
            have har := HOO.out.a (.inr (.inr hk14))
            have ha0 := HOO.out.a0
            have hrl3 : (s3.regs.length : Int) = (fnAt p t.fn).regs := HI3.out.rl
            obtain ⟨qa, hqa⟩ : ∃ q : Nat, o.a = q := ⟨o.a.toNat, by omega⟩
            have ha1 : qa < s3.regs.length := by omega
            have ha2 : (qa : Int) < s3.regs.length := by omega
            have ha3 : (0 : Int) ≤ qa := by omega
            have HRG := Lib.hid (show rz = ⟨s3.regs[qa], 0⟩ from by
              rw [← HRZ.out, if_neg (fun h => h he3)]
              unfold rg
              rw [hqa, List.getD_eq_getElem?_getD, Int.toNat_natCast, List.getElem?_eq_getElem ha1]; rfl)
            have k2 := (op_cells H15.out.2.1).2.2.1
            rw [hqa] at k2
            have x5 := (ru_cells H15.out.1).2.2.2.1
            have g0 := regs_cell H15.out.1.regs (q := qa) ha1
            have v0 := H15.out.2.2.1.cell 0
            have fv0 := H15.out.2.2.1.frozen 0
            simp only [List.getElem?_toArray, List.getElem?_cons_zero] at v0
            subst he3
            clear hk14 har hrl3 hqa
            generalize s3.regs[qa] = va at *
            go_upto_region 17 with fail
            go_still_tail 9, (by kernel_rfl)
            change wpList _ _ _ _ _ we.drew
            go_wp2_with fail
            go_meet
            have hF : Fr (fun i => i = xb) we (we.setCell ⟨xb, 0, none⟩ (.int .i64 va)).drew := ((Fr.refl (fun i => i = xb) we).setCell (p := ⟨xb, 0, none⟩) rfl _).drew
            rw [HRG.out]
            exact ⟨H15.out.1.other hF (typed_box H15.out.2.2.1) (fun i hi => by have h1 := H15.out.1.zq.1; have h2 := H15.out.2.2.2.1; omega) (by decide) (by decide) (by decide) (by decide), BoxAt.below (Go.heap_setCell_same we xb 0 _ _ _ H15.out.2.2.1) (Below.refl _ _).drew⟩
          · have hb : (e3 == 0) = false := by simpa using he3
            have HRG := Lib.hid (show rz = ⟨0, e3⟩ from by rw [← HRZ.out, if_pos he3])
            clear he3
            go_wp2_with fail
            go_meet
            rw [HRG.out]
            exact ⟨H15.out.1, H15.out.2.2.1⟩
        case rest =>
        have H18 := hcut.out
        clear hcut
        obtain ⟨wz, rfl⟩ : ∃ x, x = wc := ⟨_, rfl⟩
        have hzr : w.heap.size + 1 + 1 < Z := by have h1 := HZ.out; have h2 := HB.out.2.2.1; omega
        have HT18 := Lib.hid (Ru.old H18.1 HB.out.1.2.1 (Nat.lt_of_succ_lt hzr))
        have HR18 := Lib.hid (Ru.old H18.1 HRBX.out hzr)
        have HX18 := Lib.hid H18
        have HQN := Lib.hid (show (q ≠ w.heap.size + 1 + 1 ∧ xb ≠ w.heap.size + 1 + 1) ∧ w.heap.size + 3 ≤ wz.heap.size from by
          have h1 := H18.1.zq.1
          have h2 := HB.out.2.2.1
          have h3 := HZ.out
          have h4 := (Array.getElem?_eq_some_iff.1 H18.1.box).1
          have h5 := H15.out.2.2.2.1
          exact ⟨⟨by omega, by omega⟩, by omega⟩)
        have hndl : nd2.length ≤ 70000 := by
          have h1 := congrArg List.length H18.1.dn
          have h3 := HI3.out.cnt
          have h4 := HI3.out.l0
          rw [List.length_map] at h1
          omega
        clear H18 H15
        have HAL := Lib.hid (show Below wz.heap.size wz (wz.drew.alloc (.cells #[.string t.p, .int .i64 t.fn, .slice aa t.args.length ac, .int .i64 t.fuel, .int .i64 rz.v, .int .i64 rz.e, .int .i64 s3.kids] DoneT)) from (Below.refl _ _).drew.alloc (Nat.le_refl _) _)
        have hown1 := own_one30 wz w.heap.size (by have := HQN.out.2; omega) t rz s3.kids aa ac
        obtain ⟨rv, w14, hap, hownr, hgrow⟩ := run_appD 35 hown1 ((own_readsK (enc := encDn) (k := 7) encDn_len (by decide) HX18.out.1.done).below HAL.out) (by simp; omega) (by have := HQN.out.2; have := HAL.out.size; omega)
        have HF14 := Lib.hid (show Fr (fun i => i = w.heap.size + 1 + 1) wz w14 from (Fr.of_below HAL.out).join (grow_fr' (Below.refl _ _) hgrow) (fun i hi => .inr (by injection hi with hi; have hi2 : wz.heap.size = i := hi; omega)))
        have HR14 := Lib.hid (show BoxAt w14 (w.heap.size + 1 + 1) (resC ⟨0, 0⟩) ResT from (BoxAt.below HR18.out HAL.out).fr (grow_fr' (Below.refl _ _) hgrow) (fun hi => by injection hi with hi; have hi2 : wz.heap.size = w.heap.size + 1 + 1 := hi; have := HQN.out.2; omega))
        have HAD := Lib.hid (show ∀ d ∈ nd2, ArgsAt Z w14 d from fun d hd => own_typed (own_below (HX18.out.1.da d hd) HAL.out) (grow_fr' (Below.refl _ _) hgrow) (typed_own hown1) (by decide))
        have HA0 := Lib.hid (show w14.ownsRow Z0 I64T 1 (.slice aa t.args.length ac) t.args.length (t.args.flatMap encN1) from own_typed (own_below (own_far HB.out.2.2.2.2 (fun i hi => HX18.out.1.low.block i (by have := (HB.out.2.2.2.2.lt i hi).2; rw [← HZ.out]; exact this))) HAL.out) (grow_fr' (Below.refl _ _) hgrow) (typed_own hown1) (by decide))
        have HOR := Lib.hid hownr
        have r0 := HR14.out.cell 0; have r1 := HR14.out.cell 1
        have z0 := HR14.out.frozen 0; have z1 := HR14.out.frozen 1
        simp only [resC, List.getElem?_toArray, List.getElem?_cons_zero, List.getElem?_cons_succ] at r0 r1
        obtain ⟨rva, rvc, rfl⟩ := own_slice hownr
        clear hgrow hown1 hownr
        go_upto_region 18 with fail
        refine wp_region_held_drew (S := fun y => Fr (fun i => i = w.heap.size + 1 + 1) wz y) (by kernel_rfl) ((Fr.refl _ _).drew) (fun hHeld => ?_)
        refine wpAnyH_take (i := 0) (oi := _) (v := ?_) (by rw [List.getElem?_toArray]; exact rfl) (by kernel_rfl) (by kernel_rfl) (by kernel_rfl) (by exact fun _ _ _ h => h) (Or.inl ⟨by rfl, ?_⟩) hHeld ?_
        rotate_left
        · (intro wX hSw; have hb := HX18.out.2.fr hSw HQN.out.1.2; have y0 := hb.cell 0; have y1 := hb.cell 1; simp only [resC, List.getElem?_toArray, List.getElem?_cons_zero, List.getElem?_cons_succ] at y0 y1; clear hb hSw; go_simp; try with_reducible rfl)
        try simp only [Act.put, List.setIfInBounds_toArray, List.set_cons_zero, List.set_cons_succ]
        refine wpAnyH_take (i := 1) (oi := _) (v := ?_) (by rw [List.getElem?_toArray]; exact rfl) (by kernel_rfl) (by kernel_rfl) (by kernel_rfl) (by exact fun _ _ _ h => h) (Or.inl ⟨by rfl, ?_⟩) hHeld ?_
        rotate_left
        · (intro wX hSw; have hb := HT18.out.fr hSw (by omega); have y0 := hb.cell 0; have y1 := hb.cell 1; have y2 := hb.cell 2; have y3 := hb.cell 3; simp only [taC, List.getElem?_toArray, List.getElem?_cons_zero, List.getElem?_cons_succ] at y0 y1 y2 y3; clear hb hSw; go_simp; try with_reducible rfl)
        try simp only [Act.put, List.setIfInBounds_toArray, List.set_cons_zero, List.set_cons_succ]
        refine wpAnyH_take (i := 2) (oi := _) (v := ?_) (by rw [List.getElem?_toArray]; exact rfl) (by kernel_rfl) (by kernel_rfl) (by kernel_rfl) (by exact fun _ _ _ h => h) (Or.inl ⟨by rfl, ?_⟩) hHeld ?_
        rotate_left
        · (intro wX hSw; have hb := HX18.out.2.fr hSw HQN.out.1.2; have y0 := hb.cell 0; have y1 := hb.cell 1; simp only [resC, List.getElem?_toArray, List.getElem?_cons_zero, List.getElem?_cons_succ] at y0 y1; clear hb hSw; go_simp; try with_reducible rfl)
        try simp only [Act.put, List.setIfInBounds_toArray, List.set_cons_zero, List.set_cons_succ]
        refine wpAnyH_take (i := 3) (oi := _) (v := ?_) (by rw [List.getElem?_toArray]; exact rfl) (by kernel_rfl) (by kernel_rfl) (by kernel_rfl) (by exact fun _ _ _ h => h) (Or.inl ⟨by rfl, ?_⟩) hHeld ?_
        rotate_left
        · (intro wX hSw; clear hSw; go_simp; try with_reducible rfl)
        try simp only [Act.put, List.setIfInBounds_toArray, List.set_cons_zero, List.set_cons_succ]
        refine wpAnyH_take (i := 4) (oi := _) (v := ?_) (by rw [List.getElem?_toArray]; exact rfl) (by kernel_rfl) (by kernel_rfl) (by kernel_rfl) (by exact fun _ _ _ h => h) (Or.inl ⟨by rfl, ?_⟩) hHeld ?_
        rotate_left
        · (intro wX hSw; clear hSw; go_simp; try with_reducible rfl)
        try simp only [Act.put, List.setIfInBounds_toArray, List.set_cons_zero, List.set_cons_succ]
        refine wpAnyH_take (i := 5) (oi := _) (v := ?_) (by rw [List.getElem?_toArray]; exact rfl) (by kernel_rfl) (by kernel_rfl) (by kernel_rfl) (by exact fun _ _ _ h => h) (Or.inl ⟨by rfl, ?_⟩) hHeld ?_
        rotate_left
        · (intro wX hSw; clear hSw; go_simp; try with_reducible rfl)
        try simp only [Act.put, List.setIfInBounds_toArray, List.set_cons_zero, List.set_cons_succ]
        refine wpAnyH_take (i := 6) (oi := _) (v := ?_) (by rw [List.getElem?_toArray]; exact rfl) (by kernel_rfl) (by kernel_rfl) (by kernel_rfl) (by exact fun _ _ _ h => h) (Or.inl ⟨by rfl, ?_⟩) hHeld ?_
        rotate_left
        · (intro wX hSw; have hb := HX18.out.1.box.fr hSw HQN.out.1.1; have y8 : wX.cell? ⟨q, 8, none⟩ = some (.int .i64 s3.kids) := hb.cell 8; clear hb hSw; go_simp; try with_reducible rfl)
        try simp only [Act.put, List.setIfInBounds_toArray, List.set_cons_zero, List.set_cons_succ]
        refine wpAnyH_take (i := 7) (oi := _) (v := ?_) (by rw [List.getElem?_toArray]; exact rfl) (by kernel_rfl) (by kernel_rfl) (by kernel_rfl) (by exact fun _ _ _ h => h) (Or.inl ⟨by rfl, ?_⟩) hHeld ?_
        rotate_left
        · (intro wX hSw; clear hSw; go_simp; try with_reducible rfl)
        try simp only [Act.put, List.setIfInBounds_toArray, List.set_cons_zero, List.set_cons_succ]
        refine wpAnyH_take (i := 9) (oi := _) (v := ?_) (by rw [List.getElem?_toArray]; exact rfl) (by kernel_rfl) (by kernel_rfl) (by kernel_rfl) (by exact fun _ _ _ h => h) (Or.inl ⟨by rfl, ?_⟩) hHeld ?_
        rotate_left
        · (intro wX hSw; clear hSw; go_simp; try with_reducible rfl)
        try simp only [Act.put, List.setIfInBounds_toArray, List.set_cons_zero, List.set_cons_succ]
        refine wpAnyH_take (i := 10) (oi := _) (v := ?_) (by rw [List.getElem?_toArray]; exact rfl) (by kernel_rfl) (by kernel_rfl) (by kernel_rfl) (by exact fun _ _ _ h => h) (Or.inl ⟨by rfl, ?_⟩) hHeld ?_
        rotate_left
        · (intro wX hSw; clear hSw; go_simp; try with_reducible rfl)
        try simp only [Act.put, List.setIfInBounds_toArray, List.set_cons_zero, List.set_cons_succ]
        refine wpAnyH_take (i := 11) (oi := _) (v := ?_) (by rw [List.getElem?_toArray]; exact rfl) (by kernel_rfl) (by kernel_rfl) (by kernel_rfl) (by exact fun _ _ _ h => h) (Or.inl ⟨by rfl, ?_⟩) hHeld ?_
        rotate_left
        · (intro wX hSw; clear hSw; go_simp; try with_reducible rfl)
        try simp only [Act.put, List.setIfInBounds_toArray, List.set_cons_zero, List.set_cons_succ]
        refine wpAnyH_take (i := 12) (oi := _) (v := ?_) (by rw [List.getElem?_toArray]; exact rfl) (by kernel_rfl) (by kernel_rfl) (by kernel_rfl) (by exact fun _ _ _ h => h) (Or.inl ⟨by rfl, ?_⟩) hHeld ?_
        rotate_left
        · (intro wX hSw; have hb := HX18.out.1.box.fr hSw HQN.out.1.1; have y11 : wX.cell? ⟨q, 11, none⟩ = some dv2 := hb.cell 11; clear hb hSw; go_simp; try with_reducible rfl)
        try simp only [Act.put, List.setIfInBounds_toArray, List.set_cons_zero, List.set_cons_succ]
        refine wpAnyH_ready (rs := [8]) (by kernel_rfl) (by simp) ?_
        refine AllReadyH.cons (o := _) (by rw [List.getElem?_toArray]; exact rfl) (fun K hK => ?_) AllReadyH.nil
        go_simp
        refine hK.out _ _ (hHeld.then (alb30 _ _)) (fun hHeld => ?_)
        clear hK K
        try simp only [Act.put, List.setIfInBounds_toArray, List.set_cons_zero, List.set_cons_succ]
        refine wpAnyH_ready (rs := [13]) (by kernel_rfl) (by simp) ?_
        refine AllReadyH.cons (o := _) (by rw [List.getElem?_toArray]; exact rfl) (fun K hK => ?_) AllReadyH.nil
        refine step_append_run rfl _ _ _ _ rfl _ _ (by simp [Act.eval]) (by simp [Act.eval]) hap ?_
        refine hK.out _ _ (HF14.out) (fun hHeld => ?_)
        clear hK K
        try simp only [Act.put, List.setIfInBounds_toArray, List.set_cons_zero, List.set_cons_succ]
        refine wpAnyH_ready (rs := [14]) (by kernel_rfl) (by simp) ?_
        refine AllReadyH.cons (o := _) (by rw [List.getElem?_toArray]; exact rfl) (fun K hK => ?_) AllReadyH.nil
        go_simp
        refine hK.out _ _ (HF14.out.trans (((Fr.refl (fun i => i = w.heap.size + 1 + 1) w14).setCell (p := ⟨w.heap.size + 1 + 1, 0, none⟩) rfl _).setCell (p := ⟨w.heap.size + 1 + 1, 1, none⟩) rfl _)) (fun hHeld => ?_)
        clear hK K
        try simp only [Act.put, List.setIfInBounds_toArray, List.set_cons_zero, List.set_cons_succ]
        refine wpAnyH_take (i := 15) (oi := _) (v := ?_) (by rw [List.getElem?_toArray]; exact rfl) (by kernel_rfl) (by kernel_rfl) (by kernel_rfl) (by exact fun _ _ _ h => h) (Or.inl ⟨by rfl, ?_⟩) hHeld ?_
        rotate_left
        · (intro wX hSw; clear hSw; go_simp; try with_reducible rfl)
        try simp only [Act.put, List.setIfInBounds_toArray, List.set_cons_zero, List.set_cons_succ]
        refine wpAnyH_done (by kernel_rfl) ?_ _
        go_wp2_with fail
        have hRs := res_set (q := ⟨0, 0⟩) HR14.out rz.v rz.e
        have hFs : Fr (fun i => i = w.heap.size + 1 + 1) w14 ((w14.setCell ⟨w.heap.size + 1 + 1, 0, none⟩ (.int .i64 rz.v)).setCell ⟨w.heap.size + 1 + 1, 1, none⟩ (.int .i64 rz.e)) := ((Fr.refl (fun i => i = w.heap.size + 1 + 1) w14).setCell (p := ⟨w.heap.size + 1 + 1, 0, none⟩) rfl _).setCell (p := ⟨w.heap.size + 1 + 1, 1, none⟩) rfl _
        have hTs := typed_box HR14.out
        have hZZ : Z0 ≤ Z := by have h1 := HZ.out; have h2 := HB.out.2.2.1; omega
        refine rdo_end hRs rfl rfl ⟨?_, _, ((⟨t, rz, s3.kids⟩, aa, ac) : DnA) :: nd2, by rw [HDP.out, HRR.out], ?_, by rw [HDP.out, HRR.out]; simp [HX18.out.1.dn], ?_⟩
        · exact (HB.out.2.1.trans (HX18.out.1.low.mono (by have h1 := HZ.out; have h2 := HB.out.2.2.1; omega))).trans ((HF14.out.trans hFs).below (fun i hi => by omega) (by have := HQN.out.2; omega))
        · exact own_typed HOR.out hFs hTs (by decide)
        · intro d hd
          rcases List.mem_cons.1 hd with rfl | hd
          · exact own_typed HA0.out hFs hTs (by decide)
          · exact owns_base (own_typed (HAD.out d hd) hFs hTs (by decide)) hZZ
end Go.Proofs.Ytihadknnmkblcaa
