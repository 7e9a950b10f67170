/- The document's Timers: Tick. -/
import Derived.Test.YteladooegjgdnaaRt5
namespace Go.Proofs.Yteladooegjgdnaa
open Go.RowKit Go.Sort Go.Lib

structure RTickP (Z r : Nat) (lv : Value) (L : List Tm) (clock by' : Int) (w : World) (ov lv' : Value) (w' : World) : Prop where
  rms : Rms Z r lv' (tickL L clock by') (tickC clock by') w'
  rl : RL r lv w lv' w'
  own : w'.ownsRow w.heap.size TmT 2 ov (tickO L clock by').length ((tickO L clock by').flatMap encT)
def RTickR (Z r : Nat) (lv : Value) (L : List Tm) (clock by' : Int) (w : World) (e : Ending) (w' : World) : Prop := ∃ ov lv', e = .returned (.tuple #[ov, .int .i64 (tickE clock by')]) ∧ RTickP Z r lv L clock by' w ov lv' w'
theorem RTickR.mk {Z r : Nat} {lv ov lv' : Value} {L : List Tm} {clock by' c : Int} {w w' : World} (hc : tickE clock by' = c) (h : RTickP Z r lv L clock by' w ov lv' w') : RTickR Z r lv L clock by' w (.returned (.tuple #[ov, .int .i64 c])) w' := ⟨ov, lv', by rw [hc], h⟩
theorem RTickP.bad {Z r : Nat} {lv : Value} {L : List Tm} {clock by' : Int} {w w' : World} (h : Rms Z r lv L clock w) (hB : Below w.heap.size w w') (hc : tickE clock by' ≠ 0) : RTickP Z r lv L clock by' w (.slice none 0 0) lv w' := by
  refine ⟨?_, RL.below hB, ?_⟩
  · unfold tickL tickC; rw [if_neg hc, if_neg hc]; exact h.below hB
  · unfold tickO; rw [if_neg hc]; exact World.ownsRow_nil _ _ _ _
theorem Rq.clock {Z r : Nat} {lv : Value} {l : List Tm} {clock c : Int} {w : World} (h : Rq Z r lv l clock w) : Rq Z r lv l c (w.setCell ⟨r, 0, none⟩ (.int .i64 c)) ∧ Fr (fun i => i = r) w (w.setCell ⟨r, 0, none⟩ (.int .i64 c)) := by
  have hF : Fr (fun i => i = r) w (w.setCell ⟨r, 0, none⟩ (.int .i64 c)) := (Fr.refl (fun i => i = r) w).setCell (p := ⟨r, 0, none⟩) rfl _
  exact ⟨⟨Go.heap_setCell_same w r 0 _ _ _ h.box, own_typed h.own hF (typed_box h.box) (by decide), h.zr⟩, hF⟩
theorem Rq.block {Z r : Nat} {lv : Value} {l : List Tm} {clock : Int} {w : World} (h : Rq Z r lv l clock w) : ∀ g, lv.ownBlock = some g → g < w.heap.size := fun g hg => (h.own.lt g hg).2
/-- What holds at the loop's head. -/
structure TkI (Z r : Nat) (lv : Value) (L : List Tm) (now' : Int) (w : World) (lv1 : Value) (l1 L1 D : List Tm) (ov : Value) (wr : World) : Prop where
  q : Rq Z r lv1 l1 now' wr
  p : l1.Perm L1
  s : Srt L1
  nd : (L1.map (·.k)).Nodup
  rl : RL r lv w lv1 wr
  own : wr.ownsRow w.heap.size TmT 2 ov D.length (D.flatMap encT)
  ap : NoSame ov lv1
  tw : L.takeWhile (dueP now') = D ++ L1.takeWhile (dueP now')
  dw : L.dropWhile (dueP now') = L1.dropWhile (dueP now')
  len : L1.length + D.length ≤ 1024
theorem TkI.below {Z r : Nat} {lv lv1 ov : Value} {L l1 L1 D : List Tm} {now' : Int} {w wr w2 : World} (h : TkI Z r lv L now' w lv1 l1 L1 D ov wr) (hB : Below wr.heap.size wr w2) : TkI Z r lv L now' w lv1 l1 L1 D ov w2 :=
  ⟨h.q.below hB, h.p, h.s, h.nd, ⟨h.rl.fr.then hB, h.rl.own⟩, own_below h.own hB, h.ap, h.tw, h.dw, h.len⟩
theorem TkI.done {Z r : Nat} {lv lv1 ov : Value} {L l1 L1 D : List Tm} {now' clock by' : Int} {w wr : World} (h : TkI Z r lv L now' w lv1 l1 L1 D ov wr) (hE : tickE clock by' = 0) (hn : clock + by' = now') (hz : L1.takeWhile (dueP now') = []) (hd : L1.dropWhile (dueP now') = L1) : RTickP Z r lv L clock by' w ov lv1 wr := by
  refine ⟨?_, h.rl, ?_⟩
  · unfold tickL tickC
    rw [if_pos hE, if_pos hE, hn, h.dw, hd]
    exact ⟨l1, h.q, h.p, h.s, h.nd, by have := h.len; omega⟩
  · unfold tickO
    rw [if_pos hE, hn, h.tw, hz, List.append_nil]
    exact h.own
/-- One more is told. -/
theorem TkI.step {Z r : Nat} {lv lv1 lv2 : Value} {L l1 L1 D : List Tm} {now' : Int} {w wr w7 w8 : World} {x : Tm} {i g7 c7 : Nat} {ov : Value} (h : TkI Z r lv L now' w lv1 l1 (x :: L1) D ov wr) (hi : i < l1.length) (hx : gT l1 i = x) (hd : x.a ≤ now')
    (hF7 : Fr (fun j => ov.ownBlock = some j) wr w7) (ho : w7.ownsRow w.heap.size TmT 2 (.slice (some ⟨g7, 0, none⟩) (D.length + 1) c7) (D.length + 1) (D.flatMap encT ++ encT x))
    (hq8 : Rq Z r lv2 (woP l1 i l1.length) now' w8) (hF8 : Fr (fun j => j = r) w7 w8) (hn8 : ∀ g, lv2.ownBlock = some g → w7.heap.size ≤ g) :
    TkI Z r lv L now' w lv2 (woP l1 i l1.length) L1 (D ++ [x]) (.slice (some ⟨g7, 0, none⟩) (D.length + 1) c7) w8 := by
  have hdp : dueP now' x = true := decide_eq_true hd
  have hb7 := h.q.box.fr hF7 (own_not_box h.own h.q.box (by decide))
  have htw := h.tw
  have hdw := h.dw
  have hlen := h.len
  rw [List.takeWhile_cons, hdp] at htw
  rw [List.dropWhile_cons, hdp] at hdw
  have hpp := (woP_some hi).trans h.p
  rw [hx] at hpp
  have hnd := h.nd
  rw [List.map_cons, List.nodup_cons] at hnd
  refine ⟨hq8, hpp.cons_inv, (List.pairwise_cons.1 h.s).2, hnd.2, ⟨?_, .inr fun g hg => ?_⟩, ?_, ?_, by rw [htw]; simp, by rw [hdw]; rfl, by simp at hlen ⊢; omega⟩
  · have hF : Fr (fun i => i = r) w w7 := h.rl.fr.join hF7 (fun j hj => .inr (own_low h.own j hj))
    exact hF.trans hF8
  · have := hn8 g hg; have := h.rl.fr.size; have := hF7.size; omega
  · have := own_typed ho hF8 (typed_box hb7) (by decide)
    simpa [List.flatMap_append] using this
  · intro g hg e
    have e1 : g7 = g := by simpa [Value.ownBlock] using hg
    subst e1
    have h1 := hn8 g7 e
    have h2 := (ho.lt g7 rfl).2
    omega
set_option maxHeartbeats 12800000 in
set_option maxRecDepth 100000 in
theorem rtick_any {Z r : Nat} {lv : Value} {L : List Tm} {clock : Int} {w : World} (by' : Int) (h : Rms Z r lv L clock w) (hn0 : 0 ≤ clock) (hn1 : clock ≤ 17592186044416) :
    Calls Try.prog 19 #[TP r, .int .i64 by'] w fun e w' => RTickR Z r lv L clock by' w e w' := by
  have HT := Lib.hid h
  obtain ⟨l, hq, hp, hs, hd, hll⟩ := h
  obtain ⟨x0, x1⟩ := hq.cell
  have f0 := hq.box.frozen 0
  have H0 := Lib.hid hq
  have HS := Lib.hid (And.intro hp (And.intro hs (And.intro hd hll)))
  clear hq hp hs hd hll
  go_enter Try.func19, Try.ntmps19
  by_cases h1 : by' < 0
  · have HE := Lib.hid (show tickE clock by' = 2 by unfold tickE; rw [if_pos h1])
    go_wp2_with fail
    first | go_ret | go_ret2
    exact RTickR.mk HE.out (RTickP.bad HT.out (by first | exact Below.refl _ _ | exact (Below.refl _ _).drew) (by rw [HE.out]; decide))
  by_cases h2 : 17592186044416 < by'
  · have HE := Lib.hid (show tickE clock by' = 2 by unfold tickE; rw [if_neg h1, if_pos h2])
    go_wp2_with fail
    first | go_ret | go_ret2
    exact RTickR.mk HE.out (RTickP.bad HT.out (by first | exact Below.refl _ _ | exact (Below.refl _ _).drew) (by rw [HE.out]; decide))
  have q1 : IntKind.i64.wrap (17592186044416 - by') = 17592186044416 - by' := IntWalk.i64_in _ (by omega)
  by_cases h3 : 17592186044416 - by' < clock
  · have HE := Lib.hid (show tickE clock by' = 9 by unfold tickE; rw [if_neg h1, if_neg h2, if_pos h3])
    go_wp2_with fail
    first | go_ret | go_ret2
    exact RTickR.mk HE.out (RTickP.bad HT.out (by first | exact Below.refl _ _ | exact (Below.refl _ _).drew) (by rw [HE.out]; decide))
  have HE := Lib.hid (show tickE clock by' = 0 by unfold tickE; rw [if_neg h1, if_neg h2, if_neg h3])
  obtain ⟨now', hnow⟩ : ∃ c, clock + by' = c := ⟨_, rfl⟩
  have q2 : IntKind.i64.wrap (clock + by') = now' := by rw [IntWalk.i64_in _ (by omega)]; exact hnow
  have HN := Lib.hid hnow
  have HC := Lib.hid (H0.out.clock (c := now'))
  clear hnow HT H0
  go_wp2_with fail
  have hl0 : l.length ≤ 1024 := by have h1 := HS.out.2.2.2; rw [HS.out.1.length_eq]; exact h1
  refine (rnext_any HC.out.1 (by omega)).mono ?_
  rintro e w3 ⟨⟨b0, rfl, hb0⟩, hB⟩
  have H3 := Lib.hid (show TkI Z r lv L now' w lv l L [] (.slice none 0 0) w3 from
    ⟨HC.out.1.below hB, HS.out.1, HS.out.2.1, HS.out.2.2.1, ⟨HC.out.2.then hB, .inl rfl⟩, World.ownsRow_nil _ _ _ _, NoSame.none _ _ _, rfl, rfl, by simpa using HS.out.2.2.2⟩)
  have HB0 := Lib.hid hb0
  clear hB hb0 HC x0 x1 f0 hl0 HS
  go_wp2_with fail
  go_loopg [6, 7] (L.length + 1) (fun gk t6 t7 wr => ∃ (lv1 : Value) (l1 L1 D : List Tm) (va : Option Addr) (vn vc : Nat) (b : Int), t6 = .slice va vn vc ∧ t7 = .int .i64 b ∧ L1.length < gk ∧ D.length = vn ∧ Hid (TkI Z r lv L now' w lv1 l1 L1 D (.slice va vn vc) wr) ∧ Hid (BestP l1 l1.length b))
  case atStart => exact ⟨lv, l, L, [], none, 0, 0, b0, rfl, rfl, by omega, rfl, H3.out, HB0.out⟩
  case round =>
    clear H3 HB0 q1 q2
    obtain ⟨lv1, l1, L1, D, va, vn, vc, b, rfl, rfl, hgk, hvn, HR, HBB⟩ := hrel
    have HVN := Lib.hid hvn
    clear hvn
    obtain ⟨y0, y1⟩ := HR.out.q.cell
    obtain ⟨la, lc, hlv⟩ := own_slice HR.out.q.own
    have HLV := Lib.hid hlv
    obtain ⟨N, hN⟩ : ∃ N, l1.length = N := ⟨_, rfl⟩
    rw [hlv, hN] at y1
    clear hlv
    rcases best_head HR.out.p HR.out.s HBB.out with ⟨rfl, rfl⟩ | ⟨i, L2, hbi, hi, hL⟩
    · have HP := Lib.hid (HR.out.done HE.out HN.out rfl rfl)
      clear HR HBB hN
      go_upto_region 8 with fail
      go_quiet (fail)
      have HP2 := Lib.hid (show RTickP Z r lv L clock by' w (.slice va vn vc) lv1 (wr.drewN nq) from by
        have hBq : Below wr.heap.size wr (wr.drewN nq) := below_drewN (Below.refl _ _) nq
        exact ⟨HP.out.rms.below hBq, ⟨HP.out.rl.fr.then hBq, HP.out.rl.own⟩, own_below HP.out.own hBq⟩)
      clear HP y0 y1
      generalize wr.drewN nq = wq at *
      go_wp2_with fail
      first | go_ret | go_ret2
      exact RTickR.mk HE.out HP2.out
    · subst hL
      obtain ⟨g, cap, he, c0, c1⟩ := HR.out.q.at hi
      rw [HLV.out] at he
      injection he with e1 _ e3
      subst e1
      clear e3
      have hgi : gT l1 i = l1[i] := by unfold gT; rw [List.getD_eq_getElem?_getD, List.getElem?_eq_getElem hi]; rfl
      rw [← hgi] at c0 c1
      have hbt : i = b.toNat := by omega
      subst hbt
      have hb0 : ¬ b < 0 := by omega
      have hb1 : (0 : Int) ≤ b := by omega
      have hb2 : b < N := by omega
      have HBI := Lib.hid (show ((b.toNat : Nat) : Int) = b from hbi.symm)
      have HI := Lib.hid hi
      have HNN := Lib.hid hN
      obtain ⟨x, hx⟩ : ∃ x, gT l1 b.toNat = x := ⟨_, rfl⟩
      rw [hx] at c0 c1 HR
      have HX := Lib.hid hx
      clear hbi hi hgi hN hx
      by_cases hda : x.a ≤ now'
      · go_upto_region 8 with fail
        go_quiet (fail)
        have hBq : Below wr.heap.size wr (wr.drewN nq) := below_drewN (Below.refl _ _) nq
        have HRq := Lib.hid (HR.out.below hBq)
        replace c0 := (hBq.cell (p := ⟨g, b.toNat * 2, none⟩) (World.block_lt_of_cell? _ _ c0)).trans c0
        replace c1 := (hBq.cell (p := ⟨g, b.toNat * 2 + 1, none⟩) (World.block_lt_of_cell? _ _ c1)).trans c1
        replace y1 := (hBq.cell (p := ⟨r, 1, none⟩) (World.block_lt_of_cell? _ _ y1)).trans y1
        clear hBq HR y0
        obtain ⟨wq, hwq⟩ : ∃ t, wr.drewN nq = t := ⟨_, rfl⟩
        rw [hwq] at HRq c0 c1 y1 ⊢
        clear hwq
        obtain ⟨ig, hig, hg0, hg1, hg2⟩ := info_parts info_tm
        have hA3 : Below wq.heap.size wq (wq.alloc (.cells #[.string x.k, .int .i64 x.a] TmT)) := alT wq _
        have ho4 := own_below HRq.out.own hA3
        have hlen := HRq.out.len
        have hszw : w.heap.size ≤ wq.heap.size := HRq.out.rl.fr.size
        obtain ⟨g7, c7, w7, hap, hown7, hgrow, hat, _⟩ := run_append_lies (P := Try.prog) (wq.alloc (.cells #[.string x.k, .int .i64 x.a] TmT)) 33 33 w.heap.size TmT ig (.agg #[.string ⟨#[]⟩, .int .i64 0]) 2 24 Try.underlying33 hig hg0 hg1 hg2 rfl (by decide) (.slice va vn vc) D.length (D.flatMap encT) ho4 ⟨wq.heap.size, 0, none⟩ 1 1 (encT x) rfl (one_tm wq x) (by intro v hv; simp [encT] at hv; rcases hv with rfl | rfl <;> rfl) (by decide) (by unfold maxLen; omega) (by omega) (by simp; omega) _ rfl
        have hF7 := grow_fr' hA3 hgrow
        have hb7 := HRq.out.q.box.fr hF7 (own_not_box HRq.out.own HRq.out.q.box (by decide))
        have H7 := Lib.hid (show Rq Z r lv1 l1 now' w7 from ⟨hb7, own_fr HRq.out.q.own hF7 (fun i hi hs => HRq.out.ap i hs hi), HRq.out.q.zr⟩)
        have HF7 := Lib.hid hF7
        have HO7 := Lib.hid hown7
        have hl1 : l1.length ≤ 100000 := by have h1 := HRq.out.p.length_eq; have h2 := HRq.out.len; simp only [List.length_cons] at h1 h2; omega
        have HL1 := Lib.hid hl1
        obtain ⟨v7, hv7⟩ : ∃ n, D.length + 1 = n := ⟨_, rfl⟩
        rw [hv7] at hap
        have HV7 := Lib.hid hv7
        clear hA3 ho4 hown7 hgrow hat hF7 hv7 hig hg0 hg1 hg2 hlen hszw hb7 hl1
        go_wp2_with (at_builtin; refine wpList_arunC rfl _ _ _ _ rfl rfl rfl hap ?_)
        refine (rwo_any b H7.out HL1.out).mono ?_
        rintro e w8 ⟨rfl, lv2, hq8, hF8, hn8⟩
        rw [← HBI.out] at hq8
        have H8 := Lib.hid (HRq.out.step HI.out HX.out hda HF7.out HO7.out hq8 hF8 hn8)
        clear hq8 hF8 hn8 HRq H7 c0 c1 y1 hap
        go_wp2_with fail
        refine (rnext_any H8.out.q (by have := woP_len l1 b.toNat l1.length; have := HL1.out; omega)).mono ?_
        rintro e w9 ⟨⟨b9, rfl, hb9⟩, hB9⟩
        have H9 := Lib.hid (H8.out.below hB9)
        have HB9 := Lib.hid hb9
        clear hB9 hb9 H8
        go_wp2_with fail
        go_roundg (gk - 1)
        case rel => exact ⟨lv2, _, L2, D ++ [x], _, v7, c7, b9, rfl, rfl, by simp at hgk; omega, by have := HV7.out; simpa using this, by have := H9.out; rwa [HV7.out] at this, HB9.out⟩
        case measure => simp at hgk; omega
      · have hdp : dueP now' x = false := decide_eq_false hda
        have HP := Lib.hid (HR.out.done HE.out HN.out (by rw [List.takeWhile_cons, hdp]; rfl) (by rw [List.dropWhile_cons, hdp]; rfl))
        clear HR HBB hdp
        go_upto_region 8 with fail
        go_quiet (fail)
        have HP2 := Lib.hid (show RTickP Z r lv L clock by' w (.slice va vn vc) lv1 (wr.drewN nq) from by
          have hBq : Below wr.heap.size wr (wr.drewN nq) := below_drewN (Below.refl _ _) nq
          exact ⟨HP.out.rms.below hBq, ⟨HP.out.rl.fr.then hBq, HP.out.rl.own⟩, own_below HP.out.own hBq⟩)
        clear HP y0 y1 c0 c1
        generalize wr.drewN nq = wq at *
        go_wp2_with fail
        first | go_ret | go_ret2
        exact RTickR.mk HE.out HP2.out
end Go.Proofs.Yteladooegjgdnaa
