/- Contract: ticks.Timers.Tick. -/
import Derived.Test.YteladooegjgdnaaHp12
namespace Go.Proofs.Yteladooegjgdnaa
open Go.RowKit Go.Sort Go.Lib

def tickE (now by' : Int) : Int := if by' < 0 then 2 else if 17592186044416 < by' then 2 else if 17592186044416 - by' < now then 9 else 0
def dueP (now : Int) (x : Tm) : Bool := decide (x.a ≤ now)
def tickO (L : List Tm) (now by' : Int) : List Tm := if tickE now by' = 0 then L.takeWhile (dueP (now + by')) else []
def tickL (L : List Tm) (now by' : Int) : List Tm := if tickE now by' = 0 then L.dropWhile (dueP (now + by')) else L
def tickC (now by' : Int) : Int := if tickE now by' = 0 then now + by' else now
/-- Two blocks that are not the same. -/
def NoSame (u v : Value) : Prop := ∀ g, u.ownBlock = some g → v.ownBlock ≠ some g
structure TickP (Z b : Nat) (rv : Value) (L : List Tm) (now by' : Int) (w : World) (ov rv' : Value) (w' : World) : Prop where
  tms : Tms Z b rv' (tickL L now by') (tickC now by') w'
  ql : QL b rv w rv' w'
  own : w'.ownsRow w.heap.size TmT 2 ov (tickO L now by').length ((tickO L now by').flatMap encT)
  apart : NoSame ov rv'
theorem Tms.clock {Z b : Nat} {rv : Value} {L : List Tm} {now now' : Int} {w : World} (h : Tms Z b rv L now w) : Tms Z b rv L now' (w.setCell ⟨b, 1, none⟩ (.int .i64 now')) ∧ QL b rv w rv (w.setCell ⟨b, 1, none⟩ (.int .i64 now')) := by
  obtain ⟨l, hq, ht, hll⟩ := h
  have hF : Fr (fun i => i = b) w (w.setCell ⟨b, 1, none⟩ (.int .i64 now')) := (Fr.refl (fun i => i = b) w).setCell (p := ⟨b, 1, none⟩) rfl _
  have hb : BoxAt (w.setCell ⟨b, 1, none⟩ (.int .i64 now')) b #[rv, .int .i64 now', .bool true] TimersT := Go.heap_setCell_same w b 1 _ _ _ hq.box
  have ho := own_typed hq.own hF (typed_box hq.box) (by decide)
  exact ⟨⟨l, ⟨hb, ho, hq.zb⟩, ht, hll⟩, hF.mono fun i hi => .inl hi, .inl rfl⟩
theorem Tms.cells {Z b : Nat} {rv : Value} {L : List Tm} {now : Int} {w : World} (h : Tms Z b rv L now w) : w.cell? ⟨b, 0, none⟩ = some rv ∧ w.cell? ⟨b, 1, none⟩ = some (.int .i64 now) ∧ w.cell? ⟨b, 2, none⟩ = some (.bool true) := by
  obtain ⟨l, hq, _⟩ := h
  exact hq.cell
theorem Tms.frozen {Z b : Nat} {rv : Value} {L : List Tm} {now : Int} {w : World} (h : Tms Z b rv L now w) (j : Nat) : w.frozen? ⟨b, j, none⟩ = false := by
  obtain ⟨l, hq, _⟩ := h
  exact hq.box.frozen j
theorem Tms.head {Z b : Nat} {rv : Value} {x : Tm} {L : List Tm} {now : Int} {w : World} (h : Tms Z b rv (x :: L) now w) : ∃ g cap, rv = .slice (some ⟨g, 0, none⟩) (L.length + 1) cap ∧ w.cell? ⟨g, 0, none⟩ = some (.string x.k) ∧ w.cell? ⟨g, 1, none⟩ = some (.int .i64 x.a) := by
  obtain ⟨l, hq, ht, hll⟩ := h
  have hlen := ht.perm.length_eq
  have h0 : 0 < l.length := by rw [hlen]; simp
  obtain ⟨g, cap, e⟩ := hq.lit h0
  obtain ⟨L2, hL2⟩ := ht.first h0
  injection hL2 with hx _
  have hol := hq.own
  rw [e] at hol
  obtain ⟨c0, c1⟩ := tm_at hol rfl h0
  have hx0 : l[0] = x := by
    rw [hx]; unfold gT
    rw [List.getD_eq_getElem?_getD, List.getElem?_eq_getElem h0]; rfl
  rw [hx0] at c0 c1
  simp only [Nat.zero_mul, Nat.zero_add] at c0 c1
  exact ⟨g, cap, by rw [e, hlen]; rfl, c0, c1⟩
/-- heap.Pop, over timers. -/
theorem tpop_any {Z b : Nat} {rv : Value} {x : Tm} {L : List Tm} {now : Int} {w : World} (h : Tms Z b rv (x :: L) now w) :
    Calls Try.prog 28 #[QI b] w fun e w' => e = .returned (ifT x) ∧ ∃ rv', Tms Z b rv' L now w' ∧ QL b rv w rv' w' := by
  obtain ⟨l, hq, ht, hll⟩ := h
  have hlen : l.length = L.length + 1 := by rw [ht.perm.length_eq]; rfl
  refine (hpop_any hq hlen (by simp at hll; omega)).mono ?_
  rintro e w' ⟨rfl, rv', h1, h2⟩
  obtain ⟨L2, e1, _, h3⟩ := ht.pop hlen
  injection e1 with e1 e2
  subst e2
  exact ⟨by rw [← e1], rv', ⟨_, h1, h3, by simp at hll; omega⟩, h2⟩
/-- A slice of the call's own is not turned by what a queue turns. -/
theorem QL.side {Z Z' b n : Nat} {rv rv' ov : Value} {xs : List Value} {L : List Tm} {now : Int} {w w' : World} (h : QL b rv w rv' w') (ht : Tms Z b rv L now w) (ho : w.ownsRow Z' TmT 2 ov n xs) (ha : NoSame ov rv) : w'.ownsRow Z' TmT 2 ov n xs ∧ NoSame ov rv' := by
  obtain ⟨l, hq, _, _⟩ := ht
  obtain ⟨h0, hh⟩ := ho
  rcases hh with ⟨hv, hn⟩ | ⟨g, cap, cur, hv, hg⟩
  · refine ⟨⟨h0, .inl ⟨hv, hn⟩⟩, fun g hg => ?_⟩
    rw [hv] at hg; cases hg
  · have hvb : ov.ownBlock = some g := by rw [hv]; rfl
    have hgb : g ≠ b := by
      intro e
      subst e
      have h1 := hq.box
      unfold BoxAt at h1
      rw [hg.2.1] at h1
      injection h1 with h1
      injection h1 with _ h1 _
      exact absurd h1 (by decide)
    have hgl : g < w.heap.size := (Array.getElem?_eq_some_iff.1 hg.2.1).1
    refine ⟨⟨h0, .inr ⟨g, cap, cur, hv, hg.1, ?_, hg.2.2⟩⟩, fun g' hg' => ?_⟩
    · rw [h.fr.block g hgl (fun hs => hs.elim hgb (ha g hvb))]
      exact hg.2.1
    · rw [hvb] at hg'
      injection hg' with hg'
      subst hg'
      rcases h.own with e | e
      · rw [e]; exact ha g hvb
      · intro e2
        have := e g e2
        omega
theorem Tms.side {Z Z' b n : Nat} {rv ov : Value} {xs : List Value} {L : List Tm} {now : Int} {w w' : World} (h : Tms Z b rv L now w) (ho : w.ownsRow Z' TmT 2 ov n xs) (ha : NoSame ov rv) (hF : Fr (fun i => ov.ownBlock = some i) w w') : Tms Z b rv L now w' := by
  obtain ⟨l, hq, ht, hll⟩ := h
  exact ⟨l, ⟨hq.box.fr hF (own_not_box ho hq.box (by decide)), own_fr hq.own hF (fun i hi hs => ha i hs hi), hq.zb⟩, ht, hll⟩
theorem Tms.block {Z b : Nat} {rv : Value} {L : List Tm} {now : Int} {w : World} (h : Tms Z b rv L now w) : ∀ g, rv.ownBlock = some g → g < w.heap.size := by
  obtain ⟨l, hq, ht, hll⟩ := h
  intro g hg
  obtain ⟨_, ⟨hv, _⟩ | ⟨g', cap, cur, hv, hh⟩⟩ := hq.own
  · rw [hv] at hg; cases hg
  · rw [hv] at hg
    have e : g' = g := by simpa [Value.ownBlock] using hg
    subst e
    exact (Array.getElem?_eq_some_iff.1 hh.2.1).1
theorem own_low {Z n : Nat} {ov : Value} {xs : List Value} {w : World} (h : w.ownsRow Z TmT 2 ov n xs) : ∀ g, ov.ownBlock = some g → Z ≤ g := by
  intro g hg
  obtain ⟨_, ⟨hv, _⟩ | ⟨g', cap, cur, hv, hh⟩⟩ := h
  · rw [hv] at hg; cases hg
  · rw [hv] at hg
    have e : g' = g := by simpa [Value.ownBlock] using hg
    subst e
    exact hh.1
theorem TickP.bad {Z b : Nat} {rv : Value} {L : List Tm} {now by' : Int} {w w' : World} (h : Tms Z b rv L now w) (hB : Below w.heap.size w w') (hc : tickE now by' ≠ 0) : TickP Z b rv L now by' w (.slice none 0 0) rv w' := by
  refine ⟨?_, (QL.refl _ _ _).below hB, ?_, fun g hg => by cases hg⟩
  · unfold tickL tickC; rw [if_neg hc, if_neg hc]; exact h.below hB
  · unfold tickO; rw [if_neg hc]; exact World.ownsRow_nil _ _ _ _
theorem NoSame.none (n c : Nat) (v : Value) : NoSame (.slice none n c) v := fun g hg => by cases hg
theorem TickP.below {Z b : Nat} {rv ov rv' : Value} {L : List Tm} {now by' : Int} {w w1 w2 : World} (h : TickP Z b rv L now by' w ov rv' w1) (hB : Below w1.heap.size w1 w2) : TickP Z b rv L now by' w ov rv' w2 := ⟨h.tms.below hB, h.ql.below hB, own_below h.own hB, h.apart⟩
def TickR (Z b : Nat) (rv : Value) (L : List Tm) (now by' : Int) (w : World) (e : Ending) (w' : World) : Prop := ∃ ov rv', e = .returned (.tuple #[ov, .int .i64 (tickE now by')]) ∧ TickP Z b rv L now by' w ov rv' w'
theorem TickR.mk {Z b : Nat} {rv ov rv' : Value} {L : List Tm} {now by' c : Int} {w w' : World} (hc : tickE now by' = c) (h : TickP Z b rv L now by' w ov rv' w') : TickR Z b rv L now by' w (.returned (.tuple #[ov, .int .i64 c])) w' := ⟨ov, rv', by rw [hc], h⟩
set_option maxHeartbeats 12800000 in
set_option maxRecDepth 100000 in
theorem tick_any {Z b : Nat} {rv : Value} {L : List Tm} {now : Int} {w : World} (by' : Int) (h : Tms Z b rv L now w) (hn0 : 0 ≤ now) (hn1 : now ≤ 17592186044416) :
    Calls Try.prog 13 #[TP b, .int .i64 by'] w fun e w' => TickR Z b rv L now by' w e w' := by
  have HT := Lib.hid h
  obtain ⟨x0, x1, x2⟩ := h.cells
  have f1 := h.frozen 1
  clear h
  go_enter Try.func13, Try.ntmps13
  by_cases h1 : by' < 0
  · have HE := Lib.hid (show tickE now by' = 2 by unfold tickE; rw [if_pos h1])
    go_wp2_with fail
    first | go_ret | go_ret2
    exact TickR.mk HE.out (TickP.bad HT.out (by first | exact Below.refl _ _ | exact (Below.refl _ _).drew) (by rw [HE.out]; decide))
  by_cases h2 : 17592186044416 < by'
  · have HE := Lib.hid (show tickE now by' = 2 by unfold tickE; rw [if_neg h1, if_pos h2])
    go_wp2_with fail
    first | go_ret | go_ret2
    exact TickR.mk HE.out (TickP.bad HT.out (by first | exact Below.refl _ _ | exact (Below.refl _ _).drew) (by rw [HE.out]; decide))
  have q1 : IntKind.i64.wrap (17592186044416 - by') = 17592186044416 - by' := IntWalk.i64_in _ (by omega)
  by_cases h3 : 17592186044416 - by' < now
  · have HE := Lib.hid (show tickE now by' = 9 by unfold tickE; rw [if_neg h1, if_neg h2, if_pos h3])
    go_wp2_with fail
    first | go_ret | go_ret2
    exact TickR.mk HE.out (TickP.bad HT.out (by first | exact Below.refl _ _ | exact (Below.refl _ _).drew) (by rw [HE.out]; decide))
  have HE := Lib.hid (show tickE now by' = 0 by unfold tickE; rw [if_neg h1, if_neg h2, if_neg h3])
  obtain ⟨now', hnow⟩ : ∃ c, now + by' = c := ⟨_, rfl⟩
  have q2 : IntKind.i64.wrap (now + by') = now' := by rw [IntWalk.i64_in _ (by omega)]; exact hnow
  have HN := Lib.hid hnow
  have HT1 := Lib.hid (HT.out.clock (now' := now'))
  clear hnow HT
  go_wp2_with fail
  go_loopg [4] (L.length + 1) (fun gk t4 wr => ∃ (rv1 : Value) (L1 D : List Tm) (va : Option Addr) (vn vc : Nat), t4 = .slice va vn vc ∧ L1.length < gk ∧ D.length = vn ∧ Hid (Tms Z b rv1 L1 now' wr ∧ QL b rv w rv1 wr ∧ wr.ownsRow w.heap.size TmT 2 (.slice va vn vc) D.length (D.flatMap encT) ∧ NoSame (.slice va vn vc) rv1 ∧ L.takeWhile (dueP now') = D ++ L1.takeWhile (dueP now') ∧ L.dropWhile (dueP now') = L1.dropWhile (dueP now') ∧ L1.length + D.length ≤ 1024))
  case atStart => exact ⟨rv, L, [], none, 0, 0, rfl, by omega, rfl, HT1.out.1, HT1.out.2, World.ownsRow_nil _ _ _ _, NoSame.none _ _ _, rfl, rfl, by have := HT1.out.1; obtain ⟨l, _, _, h3⟩ := this; simpa using h3⟩
  case round =>
    obtain ⟨rv1, L1, D, va, vn, vc, rfl, hgk, hvn, HR⟩ := hrel
    clear HT1 x0 x1 x2 f1 q2 q1
    have HVN := Lib.hid hvn
    clear hvn
    obtain ⟨y0, y1, y2⟩ := HR.out.1.cells
    cases L1 with
    | nil =>
      obtain ⟨ra, rc, hrv⟩ := HR.out.1.lits
      have HRV := Lib.hid hrv
      rw [hrv] at y0
      simp only [List.length_nil] at y0
      clear hrv
      have HP := Lib.hid (show TickP Z b rv L now by' w (.slice va vn vc) rv1 wr from by
        obtain ⟨r1, r2, r3, r4, r5, r6, _⟩ := HR.out
        refine ⟨?_, r2, ?_, r4⟩
        · unfold tickL tickC
          rw [if_pos HE.out, if_pos HE.out, HN.out, r6]; exact r1
        · unfold tickO
          rw [if_pos HE.out, HN.out, r5]
          simpa using r3)
      clear HR
      go_wp2_with fail
      go_quiet ((go_at_call 26; exact Calls.quiet_of_same (rlen_any _ _ _ _)))
      have hBq : Below wr.heap.size wr (wr.drewN nq) := below_drewN (Below.refl _ _) nq
      have HP2 := Lib.hid (HP.out.below hBq)
      clear hBq
      generalize wr.drewN nq = wq at *
      go_wp2_with fail
      first | go_ret | go_ret2
      exact TickR.mk HE.out HP2.out
    | cons x L2 =>
      obtain ⟨g, cap, hrv, c0, c1⟩ := HR.out.1.head
      rw [hrv] at y0
      have n1 : (0 : Int) < ((L2.length + 1 : Nat) : Int) := by omega
      obtain ⟨N, hN⟩ : ∃ N, L2.length + 1 = N := ⟨_, rfl⟩
      rw [hN] at y0 n1
      have n2 : 0 < N := by omega
      clear hrv hN
      by_cases hd : x.a ≤ now'
      · go_wp2_with fail
        go_quiet ((go_at_call 26; exact Calls.quiet_of_same (rlen_any _ _ _ _)))
        have hBq : Below wr.heap.size wr (wr.drewN nq) := below_drewN (Below.refl _ _) nq
        have HR2 := Lib.hid (show Tms Z b rv1 (x :: L2) now' (wr.drewN nq) ∧ QL b rv w rv1 (wr.drewN nq) ∧ (wr.drewN nq).ownsRow w.heap.size TmT 2 (.slice va vn vc) D.length (D.flatMap encT) from ⟨HR.out.1.below hBq, HR.out.2.1.below hBq, own_below HR.out.2.2.1 hBq⟩)
        have HR3 := Lib.hid HR.out.2.2.2
        clear hBq HR y0 y1 y2 c0 c1
        generalize wr.drewN nq = wq at *
        go_wp2_with fail
        refine (tpop_any HR2.out.1).mono ?_
        rintro e w3 ⟨rfl, rv3, h3, hQ3⟩
        obtain ⟨ho3, ha3⟩ := hQ3.side HR2.out.1 HR2.out.2.2 HR3.out.1
        have H3 := Lib.hid (show Tms Z b rv3 L2 now' w3 ∧ QL b rv w rv3 w3 ∧ w3.ownsRow w.heap.size TmT 2 (.slice va vn vc) D.length (D.flatMap encT) ∧ NoSame (.slice va vn vc) rv3 from ⟨h3, HR2.out.2.1.trans hQ3, ho3, ha3⟩)
        clear h3 hQ3 ho3 ha3 HR2
        have hta := run_ifT x
        have HM := Lib.hid (show w.heap.size ≤ w3.heap.size from H3.out.2.1.fr.size)
        obtain ⟨ig, hig, hg0, hg1, hg2⟩ := info_parts info_tm
        have hA3 : Below w3.heap.size w3 (w3.alloc (.cells #[.string x.k, .int .i64 x.a] TmT)) := alT w3 _
        have ho4 := own_below H3.out.2.2.1 hA3
        obtain ⟨g7, c7, w7, hap, hown7, hgrow, hat, _⟩ := run_append_lies (P := Try.prog) (w3.alloc (.cells #[.string x.k, .int .i64 x.a] TmT)) 33 33 w.heap.size TmT ig (.agg #[.string ⟨#[]⟩, .int .i64 0]) 2 24 Try.underlying33 hig hg0 hg1 hg2 rfl (by decide) (.slice va vn vc) D.length (D.flatMap encT) ho4 ⟨w3.heap.size, 0, none⟩ 1 1 (encT x) rfl (one_tm w3 x) (by intro v hv; simp [encT] at hv; rcases hv with rfl | rfl <;> rfl) (by decide) (by have := HR3.out.2.2.2; unfold maxLen; omega) (by have := HR3.out.2.2.2; omega) (by have := HM.out; simp; omega) _ rfl
        have hF7 := grow_fr' hA3 hgrow
        have HN7 := Lib.hid (show Tms Z b rv3 L2 now' w7 ∧ QL b rv w rv3 w7 ∧ w7.ownsRow w.heap.size TmT 2 (.slice (some ⟨g7, 0, none⟩) (D.length + 1) c7) (D ++ [x]).length ((D ++ [x]).flatMap encT) ∧ NoSame (.slice (some ⟨g7, 0, none⟩) (D.length + 1) c7) rv3 from by
          refine ⟨H3.out.1.side H3.out.2.2.1 H3.out.2.2.2 hF7, ⟨H3.out.2.1.fr.join hF7 (fun i hi => .inr (own_low H3.out.2.2.1 i hi)), H3.out.2.1.own⟩, by simpa [List.flatMap_append] using hown7, ?_⟩
          intro g' hg'
          have e1 : g7 = g' := by simpa [Value.ownBlock] using hg'
          subst e1
          rcases hat with e | e
          · exact H3.out.2.2.2 g7 e
          · intro e2
            have h1 := H3.out.1.block g7 e2
            have h2 : (w3.alloc (.cells #[.string x.k, .int .i64 x.a] TmT)).heap.size = w3.heap.size + 1 := by simp
            omega)
        have HN8 := Lib.hid (show L.takeWhile (dueP now') = (D ++ [x]) ++ L2.takeWhile (dueP now') ∧ L.dropWhile (dueP now') = L2.dropWhile (dueP now') ∧ L2.length + (D ++ [x]).length ≤ 1024 from by
          obtain ⟨r1, r2, r3, r4⟩ := HR3.out
          have hdp : dueP now' x = true := decide_eq_true hd
          rw [List.takeWhile_cons, hdp] at r2
          rw [List.dropWhile_cons, hdp] at r3
          refine ⟨by rw [r2]; simp, by rw [r3]; rfl, by simp at r4 ⊢; omega⟩)
        have hdl : D.length + 1 = (D ++ [x]).length := by simp
        have HDL := Lib.hid hdl
        rw [hdl] at hap HN7
        obtain ⟨v7, hv7⟩ : ∃ n, (D ++ [x]).length = n := ⟨_, rfl⟩
        rw [hv7] at hap
        have HV7 := Lib.hid hv7
        clear hA3 ho4 hown7 hgrow hat hF7 hdl hv7 hig hg0 hg1 hg2 H3 HR3 HM
        go_wp2_with (at_builtin; refine wpList_arunC rfl _ _ _ _ rfl rfl rfl hap ?_)
        go_roundg (gk - 1)
        case rel => exact ⟨rv3, L2, D ++ [x], _, v7, c7, rfl, by simp at hgk; omega, HV7.out, HN7.out.1, HN7.out.2.1, by have := HN7.out.2.2.1; rwa [HV7.out] at this ⊢, by have := HN7.out.2.2.2; rwa [HV7.out] at this, HN8.out⟩
        case measure => simp at hgk; omega
      · have HP := Lib.hid (show TickP Z b rv L now by' w (.slice va vn vc) rv1 wr from by
          obtain ⟨r1, r2, r3, r4, r5, r6, _⟩ := HR.out
          have hdp : dueP now' x = false := decide_eq_false hd
          rw [List.takeWhile_cons, hdp] at r5
          rw [List.dropWhile_cons, hdp] at r6
          refine ⟨?_, r2, ?_, r4⟩
          · unfold tickL tickC
            rw [if_pos HE.out, if_pos HE.out, HN.out, r6]; exact r1
          · unfold tickO
            rw [if_pos HE.out, HN.out, r5]
            simpa using r3)
        clear HR
        go_wp2_with fail
        go_quiet ((go_at_call 26; exact Calls.quiet_of_same (rlen_any _ _ _ _)))
        have hBq : Below wr.heap.size wr (wr.drewN nq) := below_drewN (Below.refl _ _) nq
        have HP2 := Lib.hid (HP.out.below hBq)
        clear hBq
        generalize wr.drewN nq = wq at *
        go_wp2_with fail
        first | go_ret | go_ret2
        exact TickR.mk HE.out HP2.out
end Go.Proofs.Yteladooegjgdnaa
