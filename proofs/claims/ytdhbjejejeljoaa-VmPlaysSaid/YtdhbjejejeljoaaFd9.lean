/- The document's frame: step. -/
import Derived.Test.YtdhbjejejeljoaaFdK
import Derived.BigRegion
import Derived.Deep.DeepCutAuto
namespace Go.Proofs.Ytdhbjejejeljoaa
open Go.RowKit Go.Sort Go.Lib

theorem stp_all (p : List Fnc) (t : Tk) (s : Vs) (j : Nat) : ∃ e s', stpR p t (stV s j) = (atV p t s, e, stV s' j) ∧ s'.kids = s.kids ∧ s'.joined = s.joined ∧ s'.waits = s.waits ∧ s'.result = s.result ∧ s'.left ≤ s.left ∧
    ((e ≠ 0 ∧ stepV p t s = endV s' ⟨0, e⟩) ∨ (e = 0 ∧ plainB (atV p t s).k = true ∧ stepV p t s = (none, s')) ∨ (e = 0 ∧ plainB (atV p t s).k = false ∧ s.left ≠ 0 ∧ s' = { s with left := s.left - 1, pc := s.pc + 1 } ∧ stepV p t s = opV2 p t s' (atV p t s))) := by
  by_cases h : s.left = 0
  · obtain ⟨h1, h2⟩ := stp_end (p := p) (t := t) j h
    exact ⟨130, s, h1, rfl, rfl, rfl, rfl, Int.le_refl _, .inl ⟨by decide, h2⟩⟩
  · cases hp : plainB (atV p t s).k
    · obtain ⟨h1, h2⟩ := stp_other (p := p) (t := t) j h hp
      exact ⟨0, _, h1, rfl, rfl, rfl, rfl, by simp only []; omega, .inr (.inr ⟨rfl, rfl, h, rfl, h2⟩)⟩
    · obtain ⟨e, s', h1, h2, h3, h4, h5, h6, h7⟩ := stp_plain (p := p) (t := t) j h hp
      refine ⟨e, s', h1, h2, h3, h4, h5, by omega, ?_⟩
      rcases h7 with ⟨h7, h8⟩ | ⟨h7, h8⟩
      · exact .inr (.inl ⟨h7, rfl, h8⟩)
      · exact .inl ⟨by rw [h7]; decide, h8⟩
theorem one_b (w : World) : ∀ j u, (encB ⟨0, false, ⟨0, 0⟩⟩)[j]? = some u → (w.alloc (.cells #[.bool false] BoolT)).cell? ((⟨w.heap.size, 0, none⟩ : Addr).add j) = some u := by
  intro j u hj
  match j with
  | 0 => simp [encB] at hj; subst hj; simp [go_sem, Addr.add]
  | j + 1 => simp [encB] at hj
theorem one_c (w : World) : ∀ j u, (encC ⟨0, false, ⟨0, 0⟩⟩)[j]? = some u → (w.alloc (.cells #[.int .i64 0, .int .i64 0] ResT)).cell? ((⟨w.heap.size, 0, none⟩ : Addr).add j) = some u := by
  intro j u hj
  match j with
  | 0 => simp [encC, encRs] at hj; subst hj; simp [go_sem, Addr.add]
  | 1 => simp [encC, encRs] at hj; subst hj; simp [go_sem, Addr.add]
  | j + 2 => simp [encC, encRs] at hj
theorem opV2_fork {p : List Fnc} {t : Tk} {s : Vs} {o : Opr} (h : o.k = 12) : opV2 p t s o = forkV p t s o := by
  unfold opV2
  rw [if_neg (by omega), if_neg (by omega), if_neg (by omega), if_pos h]
theorem opV2_join {p : List Fnc} {t : Tk} {s : Vs} {o : Opr} (h : o.k = 13 ∨ o.k = 14) : opV2 p t s o = joinV s o := by
  unfold opV2
  rw [if_neg (by omega), if_neg (by omega), if_neg (by omega), if_neg (by omega), if_pos h]
theorem plainB_false {k : Int} (h : plainB k = false) : k = 12 ∨ k = 13 ∨ k = 14 := by
  unfold plainB at h
  by_cases h1 : k = 12
  · exact .inl h1
  by_cases h2 : k = 13
  · exact .inr (.inl h2)
  by_cases h3 : k = 14
  · exact .inr (.inr h3)
  simp [h1, h2, h3] at h
theorem joinV_args {s : Vs} {o : Opr} : ∀ y, (joinV s o).1 = some y → y.kid.args = [] := by
  intro y h
  unfold joinV at h
  by_cases h1 : (openV s).any (fun c => !c.given) = true
  · rw [if_pos h1] at h; cases h; rfl
  rw [if_neg h1] at h
  simp only [] at h
  by_cases h2 : firstE ((openV s).map (·.r.e)) ≠ 0
  · rw [if_pos h2] at h; cases h; rfl
  rw [if_neg h2] at h
  by_cases h3 : o.k = 14
  · rw [if_pos h3] at h; cases h; rfl
  · rw [if_neg h3] at h; cases h
/-- Op turns. -/
theorem Fd.op {Z b q r : Nat} {pv : Value} {t : Tk} {av gv cv iv : Value} {s : Vs} {w : World} {o : Opr} (h : Fd Z b q r pv t av gv cv iv s w) (hw : s.waits = none) :
    Fd Z b q r pv t av gv cv iv s (((((w.setCell ⟨b, 4, none⟩ (.int .u8 o.k)).setCell ⟨b, 5, none⟩ (.int .i64 o.d)).setCell ⟨b, 6, none⟩ (.int .i64 o.a)).setCell ⟨b, 7, none⟩ (.int .i64 o.b)).setCell ⟨b, 8, none⟩ (.int .i64 o.n)) ∧
    BoxAt (((((w.setCell ⟨b, 4, none⟩ (.int .u8 o.k)).setCell ⟨b, 5, none⟩ (.int .i64 o.d)).setCell ⟨b, 6, none⟩ (.int .i64 o.a)).setCell ⟨b, 7, none⟩ (.int .i64 o.b)).setCell ⟨b, 8, none⟩ (.int .i64 o.n)) b (fdC q gv cv s.waits o s.result) DFrT ∧
    Fr (fun i => i = b) w (((((w.setCell ⟨b, 4, none⟩ (.int .u8 o.k)).setCell ⟨b, 5, none⟩ (.int .i64 o.d)).setCell ⟨b, 6, none⟩ (.int .i64 o.a)).setCell ⟨b, 7, none⟩ (.int .i64 o.b)).setCell ⟨b, 8, none⟩ (.int .i64 o.n)) := by
  obtain ⟨wo, hb, _⟩ := h.box
  have hF : Fr (fun i => i = b) w (((((w.setCell ⟨b, 4, none⟩ (.int .u8 o.k)).setCell ⟨b, 5, none⟩ (.int .i64 o.d)).setCell ⟨b, 6, none⟩ (.int .i64 o.a)).setCell ⟨b, 7, none⟩ (.int .i64 o.b)).setCell ⟨b, 8, none⟩ (.int .i64 o.n)) :=
    (((((Fr.refl (fun i => i = b) w).setCell (p := ⟨b, 4, none⟩) rfl _).setCell (p := ⟨b, 5, none⟩) rfl _).setCell (p := ⟨b, 6, none⟩) rfl _).setCell (p := ⟨b, 7, none⟩) rfl _).setCell (p := ⟨b, 8, none⟩) rfl _
  have h8 := Go.heap_setCell_same _ b 8 _ _ (.int .i64 o.n) (Go.heap_setCell_same _ b 7 _ _ (.int .i64 o.b) (Go.heap_setCell_same _ b 6 _ _ (.int .i64 o.a) (Go.heap_setCell_same _ b 5 _ _ (.int .i64 o.d) (Go.heap_setCell_same w b 4 _ _ (.int .u8 o.k) hb))))
  have hb8 : BoxAt (((((w.setCell ⟨b, 4, none⟩ (.int .u8 o.k)).setCell ⟨b, 5, none⟩ (.int .i64 o.d)).setCell ⟨b, 6, none⟩ (.int .i64 o.a)).setCell ⟨b, 7, none⟩ (.int .i64 o.b)).setCell ⟨b, 8, none⟩ (.int .i64 o.n)) b (fdC q gv cv s.waits o s.result) DFrT := h8
  exact ⟨h.boxX hF hb8 (fun o' e => by rw [hw] at e; cases e) rfl rfl rfl rfl rfl (fun e => e), hb8, hF⟩
theorem dstep_end {wz : World} {tmps : Array Value} {a1 a5 a6 a7 a3 : Int} {a2 : ByteArray} {a4 : Value} {bo : Bool} {r : Nat} {T : TypeId} {R : Ending → World → Prop}
    (hr : BoxAt wz r #[.int .u8 a1, .string a2, .int .i64 a3, a4, .int .i64 a5, .int .i64 a6, .int .i64 a7] T) (h4 : tmps.getD 2 undef = .pointer (some ⟨r, 0, none⟩)) (h5 : tmps.getD 3 undef = .bool bo) (hR : R (.returned (.tuple #[.agg #[.int .u8 a1, .string a2, .int .i64 a3, a4, .int .i64 a5, .int .i64 a6, .int .i64 a7], .bool bo])) wz) :
    bodyPost Try.prog Try.f34 R Exit.ret { tmps := tmps, defers := [] } wz := by
  have c0 : wz.cell? ⟨r, 0, none⟩ = some (.int .u8 a1) := hr.cell 0
  have c1 : wz.cell? ⟨r, 1, none⟩ = some (.string a2) := hr.cell 1
  have c2 : wz.cell? ⟨r, 2, none⟩ = some (.int .i64 a3) := hr.cell 2
  have c3 : wz.cell? ⟨r, 3, none⟩ = some a4 := hr.cell 3
  have c4 : wz.cell? ⟨r, 4, none⟩ = some (.int .i64 a5) := hr.cell 4
  have c5 : wz.cell? ⟨r, 5, none⟩ = some (.int .i64 a6) := hr.cell 5
  have c6 : wz.cell? ⟨r, 6, none⟩ = some (.int .i64 a7) := hr.cell 6
  refine bodyPost_ret (v := .tuple #[.agg #[.int .u8 a1, .string a2, .int .i64 a3, a4, .int .i64 a5, .int .i64 a6, .int .i64 a7], .bool bo]) ?_ rfl hR
  have h4' : tmps[2]?.getD undef = .pointer (some ⟨r, 0, none⟩) := by simpa using h4
  have h5' : tmps[3]?.getD undef = .bool bo := by simpa using h5
  simp [results, Try.results34, go_sem, h4', h5', c0, c1, c2, c3, c4, c5, c6]
/-- What a step answers and leaves: the stop's arguments are the call's own. -/
def StepDP (Z b q r : Nat) (pv : Value) (t : Tk) (av gv cv iv : Value) (R : Option Sp × Vs) (w : World) (e : Ending) (w' : World) : Prop :=
  ∃ v gv' cv' iv', e = .returned (.tuple #[.agg (match R.1 with | none => zSp | some y => spC y v), .bool R.1.isSome]) ∧ (∀ y, R.1 = some y → w'.ownsRow w.heap.size I64T 1 v y.kid.args.length (y.kid.args.flatMap encN1)) ∧ Fd Z b q r pv t av gv' cv' iv' R.2 w' ∧ FdL b q r gv cv iv w gv' cv' iv' w' ∧ ((∀ y, R.1 = some y → y.k ≠ 2) → Fr (SmS b q r iv) w w')
theorem StepDP.stop {Z b q r : Nat} {pv : Value} {t : Tk} {av gv cv iv : Value} {s : Vs} {y : Sp} {R : Option Sp × Vs} {w w' : World} (hR : R = (some y, s)) (hk : y.kid.args = []) (h : Fd Z b q r pv t av gv cv iv s w') (hF : Fr (SmS b q r iv) w w') : StepDP Z b q r pv t av gv cv iv R w (.returned (.tuple #[.agg (spC y (.slice none 0 0)), .bool true])) w' := by
  rw [hR]
  exact ⟨_, gv, cv, iv, rfl, fun y' e => by injection e with e; subst e; rw [hk]; exact World.ownsRow_nil _ _ _ _, h, FdL.stay (hF.mono SmS.up), fun _ => hF⟩
theorem StepDP.none {Z b q r : Nat} {pv : Value} {t : Tk} {av gv cv iv : Value} {s : Vs} {R : Option Sp × Vs} {w w' : World} (hR : R = (Option.none, s)) (h : Fd Z b q r pv t av gv cv iv s w') (hF : Fr (SmS b q r iv) w w') : StepDP Z b q r pv t av gv cv iv R w (.returned (.tuple #[.agg zSp, .bool false])) w' := by
  rw [hR]
  exact ⟨.slice Option.none 0 0, gv, cv, iv, rfl, (fun y (e : (Option.none : Option Sp) = some y) => (nomatch e)), h, FdL.stay (hF.mono SmS.up), fun _ => hF⟩
set_option maxHeartbeats 6400000 in
set_option maxRecDepth 100000 in
theorem dstep_any {Z b q r : Nat} {pv : Value} {t : Tk} {av gv cv iv : Value} {s : Vs} {w : World} {p : List Fnc} (h : Fd Z b q r pv t av gv cv iv s w) (hpr : ProgAt w pv p) (hlo : ProgLow Z pv p) (hwf : WfP p) (htk : TkOk p t) (hi : InvV p t s) (hr : Runs s) (ha : s.pc < (fnAt p t.fn).ops.length) :
    Calls Try.prog 34 #[.pointer (some ⟨b, 0, none⟩)] w (StepDP Z b q r pv t av gv cv iv (stepV p t s) w) := by
  have hA := alV w (.cells zSp StopT)
  have HA := Lib.hid hA
  have HZ := Lib.hid h.z
  have H := Lib.hid (h.below hA)
  have HPR := Lib.hid (hpr.below hA)
  have HPL0 := Lib.hid (show ∀ y, Fr (FdS b q r gv cv iv) w y → ProgAt y pv p from fun y hF => hpr.fr hlo hF h.lo)
  have HSB := Lib.hid (show BoxAt (w.alloc (.cells zSp StopT)) w.heap.size zSp StopT from heap_alloc_new _ _)
  have HI := Lib.hid hi
  have HWT := Lib.hid (And.intro hwf htk)
  have HRN := Lib.hid hr
  have HPC := Lib.hid ha
  have HOK := Lib.hid (atV_ok hwf htk hi.pc0 ha)
  clear h hpr hlo hi hwf htk hr ha hA
  go_enter Try.func34, Try.ntmps34
  go_upto_region 1 with fail
  simp only [zSp] at HA H HPR HSB
  generalize w.alloc (.cells #[.int .u8 0, .string ⟨#[]⟩, .int .i64 0, .slice none 0 0, .int .i64 0, .int .i64 0, .int .i64 0] StopT) = wa at *
  obtain ⟨sb, hsb⟩ : ∃ n, w.heap.size = n := ⟨_, rfl⟩
  have HLE := Lib.hid (show w.heap.size ≤ sb by omega)
  rw [hsb] at HSB ⊢
  clear hsb
  obtain ⟨wo, hbx, hwo⟩ := H.out.box
  have HBX := Lib.hid hbx
  obtain ⟨k0, _, _, _, _, _, _, _, _, _, _, _⟩ := fd_cells hbx
  obtain ⟨f, hru, hff⟩ := H.out.run
  obtain rfl : f = s.joined := hff HRN.out.2
  have HRU := Lib.hid hru
  obtain ⟨ee, s2, hR, hs1, hs2, hs3, hs4, hs5, hs6⟩ := stp_all p t s s.joined
  have HS2 := Lib.hid (And.intro hs1 (And.intro hs2 (And.intro hs3 (And.intro hs4 (And.intro hs5 hs6)))))
  have HR := Lib.hid hR
  clear hbx hwo hru hff hs1 hs2 hs3 hs4 hs5 hs6 hR
  go_wp2_with fail
  refine (rstep_any HRU.out HPR.out HWT.out.2.f0 HWT.out.2.f1 HI.out.rl HI.out.pc0 HPC.out (by have h1 := HPC.out; have h2 := (HWT.out.1.fn HWT.out.2.f0 HWT.out.2.f1).o1; show s.pc ≤ 63; omega) HOK.out HI.out.l0 (by have := HI.out.l1; show s.left ≤ 100000; omega)).mono ?_
  rintro e w2 ⟨he, hru2, hF2⟩
  rw [HR.out] at he hru2
  obtain ⟨o, ho⟩ : ∃ o, atV p t s = o := ⟨_, rfl⟩
  have HO := Lib.hid ho
  rw [ho] at he
  subst he
  have hT2 : Typed (fun i => i = q ∨ i = r) wa [RunT, I64T] := (typed_box HRU.out.box).or (typed_box HRU.out.regs)
  have HD2 := Lib.hid (show Fd Z b q r pv t av gv cv iv s2 w2 from H.out.runX (s' := s2) (f := s.joined) hF2 hT2 (by decide) (by decide) (by decide) (by rw [HS2.out.1]; exact hru2.rebase) (fun _ => HS2.out.2.1.symm) HS2.out.1 HS2.out.2.2.1 HS2.out.2.2.2.1 (fun c hc => H.out.dn c (by rw [← HS2.out.1, ← HS2.out.2.1]; exact hc)) (Int.le_trans HS2.out.2.2.2.2.1 H.out.lf))
  have HSB2 := Lib.hid (show BoxAt w2 sb #[.int .u8 0, .string ⟨#[]⟩, .int .i64 0, .slice none 0 0, .int .i64 0, .int .i64 0, .int .i64 0] StopT from box_typed HSB.out hF2 hT2 (by decide))
  have HFR := Lib.hid (show Fr (SmS b q r iv) w w2 from (Fr.of_below HA.out).trans (hF2.mono fun i hi => by rcases hi with e | e; exact .inr (.inl e); exact .inr (.inr (.inl e))))
  have hA3 := alV w2 (.cells (opC o) OpT)
  have HOB := Lib.hid (show BoxAt (w2.alloc (.cells (opC o) OpT)) w2.heap.size (opC o) OpT from heap_alloc_new _ _)
  have HOL := Lib.hid (show w.heap.size ≤ w2.heap.size from HFR.out.size)
  have HD := Lib.hid (HD2.out.below hA3)
  replace HSB := Lib.hid (HSB2.out.below hA3)
  replace HFR := Lib.hid (HFR.out.then hA3)
  clear hru2 hF2 hT2 hA3 ho k0 HD2 HSB2
  unfold opV
  go_upto_region 2 with fail
  simp only [opC] at HOB HD HSB HFR
  generalize w2.alloc (.cells #[.int .u8 o.k, .int .i64 o.d, .int .i64 o.a, .int .i64 o.b, .int .i64 o.n] OpT) = w3 at *
  generalize w2.heap.size = ob at *
  rcases HS2.out.2.2.2.2.2 with ⟨hee, hst⟩ | ⟨hee, hpl, hst⟩ | ⟨hee, hpl, hl0, hse, hst⟩
  · have heb : (ee != 0) = true := by simpa using hee
    have HST := Lib.hid hst
    clear hee hst
    go_wp2_with fail
    refine (dends_any (⟨0, ee⟩ : Rs) HD.out).mono ?_
    rintro e w6 ⟨rfl, hd6, hF6⟩
    have HD6 := Lib.hid hd6
    obtain ⟨wo3, hb3, _⟩ := HD.out.box
    replace HSB := Lib.hid (HSB.out.fr hF6 (fun e => box_ne hb3 HSB.out (by decide) e.symm))
    replace HFR := Lib.hid (HFR.out.trans (hF6.mono fun i hi => .inl hi))
    clear hd6 hF6 hb3
    have x0 := HSB.out.cell 0; have x1 := HSB.out.cell 1; have x2 := HSB.out.cell 2; have x3 := HSB.out.cell 3; have x4 := HSB.out.cell 4; have x5 := HSB.out.cell 5; have x6 := HSB.out.cell 6
    have g0 := HSB.out.frozen 0; have g1 := HSB.out.frozen 1; have g2 := HSB.out.frozen 2; have g3 := HSB.out.frozen 3; have g4 := HSB.out.frozen 4; have g5 := HSB.out.frozen 5; have g6 := HSB.out.frozen 6
    simp only [List.getElem?_toArray, List.getElem?_cons_zero, List.getElem?_cons_succ] at x0 x1 x2 x3 x4 x5 x6
    unfold spDone spC noTk
    go_wp2_with fail
    refine dstep_end (set7_box HSB.out _ _ _ _ _ _ _) rfl rfl ?_
    have hF := set7_fr w6 sb (.int .u8 4) (.string ⟨#[]⟩) (.int .i64 0) (.slice none 0 0) (.int .i64 0) (.int .i64 0) (.int .i64 ee)
    exact StepDP.stop (y := spDone ⟨0, ee⟩) HST.out rfl (HD6.out.side HSB.out (Nat.le_trans HZ.out HLE.out) (by decide) hF) (HFR.out.join hF (fun i hi => .inr (by subst hi; exact HLE.out)))
  · subst hee
    rw [HO.out] at hpl
    have HST := Lib.hid hst
    obtain ⟨o0, o1, o2, o3, o4⟩ := op_cells HOB.out
    have hrp := rplain_any o w3
    rw [hpl] at hrp
    clear hst hpl
    go_wp2_with fail
    refine hrp.mono ?_
    rintro e w4 ⟨rfl, hB⟩
    have HD4 := Lib.hid (HD.out.below hB)
    replace HSB := Lib.hid (HSB.out.below hB)
    replace HFR := Lib.hid (HFR.out.then hB)
    clear hB hrp o0 o1 o2 o3 o4
    have x0 := HSB.out.cell 0; have x1 := HSB.out.cell 1; have x2 := HSB.out.cell 2; have x3 := HSB.out.cell 3; have x4 := HSB.out.cell 4; have x5 := HSB.out.cell 5; have x6 := HSB.out.cell 6
    have g0 := HSB.out.frozen 0; have g1 := HSB.out.frozen 1; have g2 := HSB.out.frozen 2; have g3 := HSB.out.frozen 3; have g4 := HSB.out.frozen 4; have g5 := HSB.out.frozen 5; have g6 := HSB.out.frozen 6
    simp only [List.getElem?_toArray, List.getElem?_cons_zero, List.getElem?_cons_succ] at x0 x1 x2 x3 x4 x5 x6
    go_wp2_with fail
    refine dstep_end (set7_box HSB.out _ _ _ _ _ _ _) rfl rfl ?_
    have hF := set7_fr w4 sb (.int .u8 0) (.string ⟨#[]⟩) (.int .i64 0) (.slice none 0 0) (.int .i64 0) (.int .i64 0) (.int .i64 0)
    exact StepDP.none HST.out (HD4.out.side HSB.out (Nat.le_trans HZ.out HLE.out) (by decide) hF) (HFR.out.join hF (fun i hi => .inr (by subst hi; exact HLE.out)))
  · subst hee
    rw [HO.out] at hpl hst
    have HST := Lib.hid hst
    have HSE := Lib.hid hse
    obtain ⟨o0, o1, o2, o3, o4⟩ := op_cells HOB.out
    have hrp := rplain_any o w3
    rw [hpl] at hrp
    have HPL := Lib.hid hpl
    clear hst hpl hse
    go_wp2_with fail
    refine hrp.mono ?_
    rintro e w4 ⟨rfl, hB⟩
    replace HD := Lib.hid (HD.out.below hB)
    replace HSB := Lib.hid (HSB.out.below hB)
    replace HFR := Lib.hid (HFR.out.then hB)
    replace HOB := Lib.hid (HOB.out.below hB)
    clear hB hrp o0 o1 o2 o3 o4
    have HI2 := Lib.hid (show InvV p t s2 from by
      have h1 := HSE.out
      have h2 := HPC.out
      have h3 := (HWT.out.1.fn HWT.out.2.f0 HWT.out.2.f1).o1
      have h4 := HI.out.l0
      have h5 := HI.out.l1
      have h6 := HI.out.pc0
      rw [h1]
      exact ⟨HI.out.rl, by show 0 ≤ s.pc + 1; omega, by show s.pc + 1 ≤ 64; omega, by show 0 ≤ s.left - 1; omega, by show s.left - 1 ≤ 65536; omega, HI.out.k1, HI.out.jl, HI.out.ir, HI.out.wt⟩)
    have HRN2 := Lib.hid (show s2.waits = none ∧ s2.result = none from ⟨HS2.out.2.2.1.trans HRN.out.1, HS2.out.2.2.2.1.trans HRN.out.2⟩)
    have HOK2 := Lib.hid (show OpOk p (fnAt p t.fn) o from by have h1 := HOK.out; rw [HO.out] at h1; exact h1)
    clear hl0 HI HR HOK H HBX HRU HPR
    obtain ⟨o0, o1, o2, o3, o4⟩ := op_cells HOB.out
    by_cases h12 : o.k = 12
    · have h12b : (o.k != 12) = false := by simp [h12]
      have HST2 := Lib.hid (HST.out.trans (opV2_fork h12))
      have HK12 := Lib.hid h12
      clear h12
      go_upto_region 9 with fail
      go_cut [5, 6] (fun s5 s6 wc => ∃ ke tb a n va vn vc u, s5 = .int .i64 ke ∧ s6 = .pointer (some ⟨tb, 0, none⟩) ∧ Hid (BoxAt wc tb (taC a n (.slice va vn vc) u) TaskT ∧ KidK Z b q r sb pv p t av gv cv iv s2 o w ke a n (.slice va vn vc) u wc))
      case first =>
        have HC := Lib.hid (show ∀ y, Below w4.heap.size w4 y → Calls Try.prog 54 #[.pointer (some ⟨q, 0, none⟩), .agg #[.int .u8 o.k, .int .i64 o.d, .int .i64 o.a, .int .i64 o.b, .int .i64 o.n]] y (fun e w' => ∃ a n va vn vc u ke, e = .returned (.tuple #[.agg #[.string a, .int .i64 n, .slice va vn vc, .int .i64 u], .int .i64 ke]) ∧ KidK Z b q r sb pv p t av gv cv iv s2 o w ke a n (.slice va vn vc) u w' ∧ ∀ x c T, BoxAt y x c T → T ∉ [RunT, IntT] → BoxAt w' x c T) from fun y hy =>
          dkid_any (HD.out.below hy) (HSB.out.below hy) (HFR.out.then hy) (HPL0.out y ((HFR.out.then hy).mono SmS.up)) HWT.out.1 HWT.out.2 HI2.out (by have := HI2.out.l1; omega) HOK2.out HK12.out HRN2.out.2)
        obtain ⟨wo4, hb4, _⟩ := HD.out.box
        have HB4 := Lib.hid (show BoxAt w4 b (fdC q gv cv s2.waits wo4 s2.result) DFrT ∧ BoxAt w4 ob (opC o) OpT from ⟨hb4, HOB.out⟩)
        have HLW := Lib.hid (show w.heap.size ≤ w4.heap.size ∧ Z ≤ w4.heap.size from ⟨HFR.out.size, HD.out.z⟩)
        clear hb4 o0 o1 o2 o3 o4 HD HSB HFR HOB
        refine wp_region_held_drew (S := fun y => BoxAt y b (fdC q gv cv s2.waits wo4 s2.result) DFrT ∧ BoxAt y ob (opC o) OpT) (by kernel_rfl) (⟨HB4.out.1.below (Below.refl _ _).drew, HB4.out.2.below (Below.refl _ _).drew⟩) (fun hHeld => ?_)
        refine wpAnyH_take (i := 0) (oi := _) (v := ?_) (by rw [List.getElem?_toArray]; exact rfl) (by kernel_rfl) (by kernel_rfl) (by kernel_rfl) (by exact fun _ _ _ h => h) (Or.inl ⟨by rfl, ?_⟩) hHeld ?_
        rotate_left
        · (intro wX hSw; clear hSw; go_simp; try with_reducible rfl)
        try simp only [Act.put, List.setIfInBounds_toArray, List.set_cons_zero, List.set_cons_succ]
        refine wpAnyH_take (i := 1) (oi := _) (v := ?_) (by rw [List.getElem?_toArray]; exact rfl) (by kernel_rfl) (by kernel_rfl) (by kernel_rfl) (by exact fun _ _ _ h => h) (Or.inl ⟨by rfl, ?_⟩) hHeld ?_
        rotate_left
        · (intro wX hSw; clear hSw; go_simp; try with_reducible rfl)
        try simp only [Act.put, List.setIfInBounds_toArray, List.set_cons_zero, List.set_cons_succ]
        refine wpAnyH_take (i := 2) (oi := _) (v := ?_) (by rw [List.getElem?_toArray]; exact rfl) (by kernel_rfl) (by kernel_rfl) (by kernel_rfl) (by exact fun _ _ _ h => h) (Or.inl ⟨by rfl, ?_⟩) hHeld ?_
        rotate_left
        · (intro wX hSw; clear hSw; go_simp; try with_reducible rfl)
        try simp only [Act.put, List.setIfInBounds_toArray, List.set_cons_zero, List.set_cons_succ]
        refine wpAnyH_take (i := 3) (oi := _) (v := ?_) (by rw [List.getElem?_toArray]; exact rfl) (by kernel_rfl) (by kernel_rfl) (by kernel_rfl) (by exact fun _ _ _ h => h) (Or.inl ⟨by rfl, ?_⟩) hHeld ?_
        rotate_left
        · (intro wX hSw; have h0 : wX.cell? ⟨b, 0, none⟩ = some (.pointer (some ⟨q, 0, none⟩)) := hSw.1.cell 0; clear hSw; go_simp; try with_reducible rfl)
        try simp only [Act.put, List.setIfInBounds_toArray, List.set_cons_zero, List.set_cons_succ]
        refine wpAnyH_take (i := 4) (oi := _) (v := ?_) (by rw [List.getElem?_toArray]; exact rfl) (by kernel_rfl) (by kernel_rfl) (by kernel_rfl) (by exact fun _ _ _ h => h) (Or.inl ⟨by rfl, ?_⟩) hHeld ?_
        rotate_left
        · (intro wX hSw; obtain ⟨h0, h1, h2, h3, h4⟩ := op_cells hSw.2; clear hSw; go_simp; try with_reducible rfl)
        try simp only [Act.put, List.setIfInBounds_toArray, List.set_cons_zero, List.set_cons_succ]
        refine wpAnyH_ready (rs := [5, 9]) (by kernel_rfl) (by simp) ?_
        refine AllReadyH.cons (o := _) (by rw [List.getElem?_toArray]; exact rfl) (fun K hK => ?_) ?_
        · go_simp
          refine (HC.out _ ((Below.refl _ _).drew)).mono ?_
          rintro e w5 ⟨a, n, va, vn, vc, u, ke, rfl, hK5, hoth⟩
          have HK5 := Lib.hid hK5
          have HS5 := Lib.hid (show _ ∧ _ from ⟨hoth _ _ _ hHeld.1 (by decide), hoth _ _ _ hHeld.2 (by decide)⟩)
          clear hoth hK5
          go_wp2_with fail
          refine hK.out _ _ (HS5.out) (fun hHeld => ?_)
          clear hK K
          try simp only [Act.put, List.setIfInBounds_toArray, List.set_cons_zero, List.set_cons_succ]
          refine wpAnyH_take (i := 6) (oi := _) (v := ?_) (by rw [List.getElem?_toArray]; exact rfl) (by kernel_rfl) (by kernel_rfl) (by kernel_rfl) (by exact fun _ _ _ h => h) (Or.inl ⟨by rfl, ?_⟩) hHeld ?_
          rotate_left
          · (intro wX hSw; clear hSw; go_simp; try with_reducible rfl)
          try simp only [Act.put, List.setIfInBounds_toArray, List.set_cons_zero, List.set_cons_succ]
          refine wpAnyH_take (i := 7) (oi := _) (v := ?_) (by rw [List.getElem?_toArray]; exact rfl) (by kernel_rfl) (by kernel_rfl) (by kernel_rfl) (by exact fun _ _ _ h => h) (Or.inl ⟨by rfl, ?_⟩) hHeld ?_
          rotate_left
          · (intro wX hSw; clear hSw; go_simp; try with_reducible rfl)
          try simp only [Act.put, List.setIfInBounds_toArray, List.set_cons_zero, List.set_cons_succ]
          refine wpAnyH_take (i := 8) (oi := _) (v := ?_) (by rw [List.getElem?_toArray]; exact rfl) (by kernel_rfl) (by kernel_rfl) (by kernel_rfl) (by exact fun _ _ _ h => h) (Or.inl ⟨by rfl, ?_⟩) hHeld ?_
          rotate_left
          · (intro wX hSw; clear hSw; go_simp; try with_reducible rfl)
          try simp only [Act.put, List.setIfInBounds_toArray, List.set_cons_zero, List.set_cons_succ]
          refine wpAnyH_ready (rs := [9]) (by kernel_rfl) (by simp) ?_
          refine AllReadyH.cons (o := _) (by rw [List.getElem?_toArray]; exact rfl) (fun K hK => ?_) ?_
          · go_simp
            refine hK.out _ _ (⟨hHeld.1.below (alV _ _), hHeld.2.below (alV _ _)⟩) (fun hHeld => ?_)
            clear hK K
            try simp only [Act.put, List.setIfInBounds_toArray, List.set_cons_zero, List.set_cons_succ]
            refine wpAnyH_ready (rs := [10]) (by kernel_rfl) (by simp) ?_
            refine AllReadyH.cons (o := _) (by rw [List.getElem?_toArray]; exact rfl) (fun K hK => ?_) ?_
            · have HB7 := Lib.hid (show BoxAt (w5.alloc (.cells #[.string ⟨#[]⟩, .int .i64 0, .slice none 0 0, .int .i64 0] TaskT)) w5.heap.size #[.string ⟨#[]⟩, .int .i64 0, .slice none 0 0, .int .i64 0] TaskT from heap_alloc_new w5 _)
              have HK7 := Lib.hid (HK5.out.below (alV w5 (.cells #[.string ⟨#[]⟩, .int .i64 0, .slice none 0 0, .int .i64 0] TaskT)))
              have HLT := Lib.hid (show w.heap.size ≤ w5.heap.size from HK5.out.2.1.size)
              clear HK5 HS5
              generalize w5.alloc (.cells #[.string ⟨#[]⟩, .int .i64 0, .slice none 0 0, .int .i64 0] TaskT) = w7 at *
              generalize w5.heap.size = tb at *
              have t0 := HB7.out.cell 0; have t1 := HB7.out.cell 1; have t2 := HB7.out.cell 2; have t3 := HB7.out.cell 3
              have g0 := HB7.out.frozen 0; have g1 := HB7.out.frozen 1; have g2 := HB7.out.frozen 2; have g3 := HB7.out.frozen 3
              simp only [List.getElem?_toArray, List.getElem?_cons_zero, List.getElem?_cons_succ] at t0 t1 t2 t3
              obtain ⟨hbo, hFo⟩ := task_set (a' := a) (n' := n) (v' := .slice va vn vc) (u' := u) HB7.out
              have HB8 := Lib.hid hbo
              have HS8 := Lib.hid (show _ ∧ _ from ⟨box_typed hHeld.1 hFo (typed_box HB7.out) (by decide), box_typed hHeld.2 hFo (typed_box HB7.out) (by decide)⟩)
              have HK8 := Lib.hid (HK7.out.side HB7.out (Nat.le_trans HZ.out HLT.out) HLT.out hFo)
              clear hbo hFo
              go_simp
              refine hK.out _ _ (HS8.out) (fun hHeld => ?_)
              clear hK K
              try simp only [Act.put, List.setIfInBounds_toArray, List.set_cons_zero, List.set_cons_succ]
              refine wpAnyH_take (i := 11) (oi := _) (v := ?_) (by rw [List.getElem?_toArray]; exact rfl) (by kernel_rfl) (by kernel_rfl) (by kernel_rfl) (by exact fun _ _ _ h => h) (Or.inl ⟨by rfl, ?_⟩) hHeld ?_
              rotate_left
              · (intro wX hSw; clear hSw; go_simp; try with_reducible rfl)
              try simp only [Act.put, List.setIfInBounds_toArray, List.set_cons_zero, List.set_cons_succ]
              refine wpAnyH_done (by kernel_rfl) ?_ _
              go_wp2_with fail
              go_meet
              exact ⟨ke, tb, a, n, va, vn, vc, u, rfl, rfl, Lib.hid ⟨HB8.out, HK8.out⟩⟩
            exact AllReadyH.nil
          exact AllReadyH.nil
        refine AllReadyH.cons (o := _) (by rw [List.getElem?_toArray]; exact rfl) (fun K hK => ?_) ?_
        · go_simp
          refine hK.out _ _ (⟨hHeld.1.below (alV _ _), hHeld.2.below (alV _ _)⟩) (fun hHeld => ?_)
          clear hK K
          try simp only [Act.put, List.setIfInBounds_toArray, List.set_cons_zero, List.set_cons_succ]
          refine wpAnyH_ready (rs := [5]) (by kernel_rfl) (by simp) ?_
          refine AllReadyH.cons (o := _) (by rw [List.getElem?_toArray]; exact rfl) (fun K hK => ?_) ?_
          · go_simp
            refine (HC.out _ (((Below.refl w4.heap.size w4).drew.alloc (Nat.le_refl _) _))).mono ?_
            rintro e w5 ⟨a, n, va, vn, vc, u, ke, rfl, hK5, hoth⟩
            have HK5 := Lib.hid hK5
            have HS5 := Lib.hid (show _ ∧ _ from ⟨hoth _ _ _ hHeld.1 (by decide), hoth _ _ _ hHeld.2 (by decide)⟩)
            have HT5 := Lib.hid (hoth _ _ _ (show BoxAt (w4.drew.alloc (.cells #[.string ⟨#[]⟩, .int .i64 0, .slice none 0 0, .int .i64 0] TaskT)) w4.heap.size #[.string ⟨#[]⟩, .int .i64 0, .slice none 0 0, .int .i64 0] TaskT from heap_alloc_new w4.drew _) (by decide))
            clear hoth hK5
            go_wp2_with fail
            refine hK.out _ _ (HS5.out) (fun hHeld => ?_)
            clear hK K
            try simp only [Act.put, List.setIfInBounds_toArray, List.set_cons_zero, List.set_cons_succ]
            refine wpAnyH_take (i := 6) (oi := _) (v := ?_) (by rw [List.getElem?_toArray]; exact rfl) (by kernel_rfl) (by kernel_rfl) (by kernel_rfl) (by exact fun _ _ _ h => h) (Or.inl ⟨by rfl, ?_⟩) hHeld ?_
            rotate_left
            · (intro wX hSw; clear hSw; go_simp; try with_reducible rfl)
            try simp only [Act.put, List.setIfInBounds_toArray, List.set_cons_zero, List.set_cons_succ]
            refine wpAnyH_take (i := 7) (oi := _) (v := ?_) (by rw [List.getElem?_toArray]; exact rfl) (by kernel_rfl) (by kernel_rfl) (by kernel_rfl) (by exact fun _ _ _ h => h) (Or.inl ⟨by rfl, ?_⟩) hHeld ?_
            rotate_left
            · (intro wX hSw; clear hSw; go_simp; try with_reducible rfl)
            try simp only [Act.put, List.setIfInBounds_toArray, List.set_cons_zero, List.set_cons_succ]
            refine wpAnyH_take (i := 8) (oi := _) (v := ?_) (by rw [List.getElem?_toArray]; exact rfl) (by kernel_rfl) (by kernel_rfl) (by kernel_rfl) (by exact fun _ _ _ h => h) (Or.inl ⟨by rfl, ?_⟩) hHeld ?_
            rotate_left
            · (intro wX hSw; clear hSw; go_simp; try with_reducible rfl)
            try simp only [Act.put, List.setIfInBounds_toArray, List.set_cons_zero, List.set_cons_succ]
            refine wpAnyH_ready (rs := [10]) (by kernel_rfl) (by simp) ?_
            refine AllReadyH.cons (o := _) (by rw [List.getElem?_toArray]; exact rfl) (fun K hK => ?_) ?_
            · have HB7 := Lib.hid HT5.out
              have HK7 := Lib.hid HK5.out
              have HLT := Lib.hid HLW.out.1
              clear HK5 HS5 HT5
              obtain ⟨w7, rfl⟩ : ∃ x, x = w5 := ⟨_, rfl⟩
              generalize w4.heap.size = tb at *
              have t0 := HB7.out.cell 0; have t1 := HB7.out.cell 1; have t2 := HB7.out.cell 2; have t3 := HB7.out.cell 3
              have g0 := HB7.out.frozen 0; have g1 := HB7.out.frozen 1; have g2 := HB7.out.frozen 2; have g3 := HB7.out.frozen 3
              simp only [List.getElem?_toArray, List.getElem?_cons_zero, List.getElem?_cons_succ] at t0 t1 t2 t3
              obtain ⟨hbo, hFo⟩ := task_set (a' := a) (n' := n) (v' := .slice va vn vc) (u' := u) HB7.out
              have HB8 := Lib.hid hbo
              have HS8 := Lib.hid (show _ ∧ _ from ⟨box_typed hHeld.1 hFo (typed_box HB7.out) (by decide), box_typed hHeld.2 hFo (typed_box HB7.out) (by decide)⟩)
              have HK8 := Lib.hid (HK7.out.side HB7.out (Nat.le_trans HZ.out HLT.out) HLT.out hFo)
              clear hbo hFo
              go_simp
              refine hK.out _ _ (HS8.out) (fun hHeld => ?_)
              clear hK K
              try simp only [Act.put, List.setIfInBounds_toArray, List.set_cons_zero, List.set_cons_succ]
              refine wpAnyH_take (i := 11) (oi := _) (v := ?_) (by rw [List.getElem?_toArray]; exact rfl) (by kernel_rfl) (by kernel_rfl) (by kernel_rfl) (by exact fun _ _ _ h => h) (Or.inl ⟨by rfl, ?_⟩) hHeld ?_
              rotate_left
              · (intro wX hSw; clear hSw; go_simp; try with_reducible rfl)
              try simp only [Act.put, List.setIfInBounds_toArray, List.set_cons_zero, List.set_cons_succ]
              refine wpAnyH_done (by kernel_rfl) ?_ _
              go_wp2_with fail
              go_meet
              exact ⟨ke, tb, a, n, va, vn, vc, u, rfl, rfl, Lib.hid ⟨HB8.out, HK8.out⟩⟩
            exact AllReadyH.nil
          exact AllReadyH.nil
        exact AllReadyH.nil
      case rest =>
        obtain ⟨ke, tb, a, n, va, vn, vc, u, rfl, rfl, hc⟩ := hcut
        have HC := Lib.hid hc.out
        clear hc o0 o1 o2 o3 o4 HD HFR HOB
        have HSB := Lib.hid HC.out.2.1
        have HFR := Lib.hid HC.out.2.2.1
        rcases HC.out.2.2.2 with ⟨hk0, hfk, hd⟩ | ⟨hk0, hfk, ha1, ha2, ha3, ha4, iv', hkp, hdk⟩
        · have heb : (ke != 0) = true := by simpa using hk0
          have HD := Lib.hid hd
          have HST := Lib.hid (HST2.out.trans hfk)
          clear hk0 hfk hd
          go_wp2_with fail
          refine (dends_any (⟨0, ke⟩ : Rs) HD.out).mono ?_
          rintro e w6 ⟨rfl, hd6, hF6⟩
          have HD6 := Lib.hid hd6
          obtain ⟨wo3, hb3, _⟩ := HD.out.box
          replace HSB := Lib.hid (HSB.out.fr hF6 (fun e => box_ne hb3 HSB.out (by decide) e.symm))
          replace HFR := Lib.hid (HFR.out.trans (hF6.mono fun i hi => .inl hi))
          clear hd6 hF6 hb3
          have x0 := HSB.out.cell 0; have x1 := HSB.out.cell 1; have x2 := HSB.out.cell 2; have x3 := HSB.out.cell 3; have x4 := HSB.out.cell 4; have x5 := HSB.out.cell 5; have x6 := HSB.out.cell 6
          have g0 := HSB.out.frozen 0; have g1 := HSB.out.frozen 1; have g2 := HSB.out.frozen 2; have g3 := HSB.out.frozen 3; have g4 := HSB.out.frozen 4; have g5 := HSB.out.frozen 5; have g6 := HSB.out.frozen 6
          simp only [List.getElem?_toArray, List.getElem?_cons_zero, List.getElem?_cons_succ] at x0 x1 x2 x3 x4 x5 x6
          unfold spDone spC noTk
          go_wp2_with fail
          refine dstep_end (set7_box HSB.out _ _ _ _ _ _ _) rfl rfl ?_
          have hF := set7_fr w6 sb (.int .u8 4) (.string ⟨#[]⟩) (.int .i64 0) (.slice none 0 0) (.int .i64 0) (.int .i64 0) (.int .i64 ke)
          exact StepDP.stop (y := spDone ⟨0, ke⟩) HST.out rfl (HD6.out.side HSB.out (Nat.le_trans HZ.out HLE.out) (by decide) hF) (HFR.out.join hF (fun i hi => .inr (by subst hi; exact HLE.out)))
        · subst hk0
          have HST := Lib.hid (HST2.out.trans hfk)
          have HKP := Lib.hid hkp
          have HDK := Lib.hid hdk
          have HAR := Lib.hid (And.intro ha1 (And.intro ha2 (And.intro ha3 ha4)))
          have HTB := Lib.hid HC.out.1
          clear hfk hdk hkp ha1 ha2 ha3 ha4 HC
          obtain ⟨wo5, hb5, _⟩ := HDK.out.box
          have HB5 := Lib.hid hb5
          have k1 : wc.cell? ⟨b, 1, none⟩ = some gv := hb5.cell 1
          obtain ⟨ga, gc, hgv⟩ := own_slice HDK.out.gvn
          have hk16 := HI2.out.k1
          have hzw : Z ≤ wc.heap.size := by have h1 := HZ.out; have h2 := HFR.out.size; omega
          obtain ⟨ig, hig, hg0, hg1, hg2⟩ := info_parts info_bool
          subst hgv
          obtain ⟨ga5, gc5, w5, hap, hown5, hgrow, hat5, _⟩ := run_append_lies (P := Try.prog) (wc.alloc (.cells #[.bool false] BoolT)) BoolsT BoolsT Z BoolT ig (.bool false) 1 1 Try.underlying53 hig hg0 hg1 hg2 rfl (by decide) (.slice ga s2.kids.length gc) s2.kids.length (s2.kids.flatMap encB) (own_below HDK.out.gvn (alV _ _)) ⟨wc.heap.size, 0, none⟩ 1 1 (encB ⟨o.d, false, ⟨0, 0⟩⟩) rfl (one_b wc) (by intro v hv; simp [encB] at hv; subst hv; rfl) (by decide) (by unfold maxLen; omega) (by omega) (by simp; omega) _ rfl
          have hF5 := grow_fr' (alV wc (.cells #[.bool false] BoolT)) hgrow
          obtain ⟨hP, hFP, hTP⟩ := HDK.out.pushG (c := ⟨o.d, false, ⟨0, 0⟩⟩) hF5 hown5
          have hb6 := box_typed hb5 hF5 (typed_own HDK.out.gvn) (by decide)
          have k1' : w5.cell? ⟨b, 1, none⟩ = some (.slice ga s2.kids.length gc) := hb6.cell 1
          have f1' := hb6.frozen 1
          have HOG := Lib.hid (show KeepB (.slice ga s2.kids.length gc) (.slice (some ⟨ga5, 0, none⟩) (s2.kids.length + 1) gc5) w from by
            have h1 : w.heap.size ≤ wc.heap.size := HFR.out.size
            rcases hat5 with e | e
            · exact .inl (by rw [e]; rfl)
            · refine .inr fun i hi => ?_
              have hi' : ga5 = i := by simpa [Value.ownBlock] using hi
              have e1 : (wc.alloc (.cells #[.bool false] BoolT)).heap.size = wc.heap.size + 1 := by simp
              rw [e1] at e
              omega)
          have HSB6 := Lib.hid (box_typed HSB.out hFP hTP (by decide))
          have HTB6 := Lib.hid (box_typed HTB.out hFP hTP (by decide))
          have HO6 := Lib.hid (own_typed HAR.out.2.2.2 hFP hTP (by decide))
          have HFR6 := Lib.hid ((HFR.out.mono (SmS.up (gv := .slice ga s2.kids.length gc) (cv := cv))).trans (hFP.mono fun i hi => by rcases hi with e | e; exact .inl e; exact .inr (.inr (.inr (.inl e)))))
          have HP := Lib.hid hP
          clear hP hFP hTP hb5 hb6 hF5 hown5 hgrow hat5 ig hig hg0 hg1 hg2 HDK HB5
          go_upto_region 13 with (at_builtin; refine wpList_arunC rfl _ _ _ _ rfl rfl rfl hap ?_)
          clear k1 k1' f1' hap
          generalize w5.setCell ⟨b, 1, none⟩ (.slice (some ⟨ga5, 0, none⟩) (s2.kids.length + 1) gc5) = w6 at *
          obtain ⟨wo6, hb6, _⟩ := HP.out.box
          have k2 : w6.cell? ⟨b, 2, none⟩ = some cv := hb6.cell 2
          obtain ⟨ca, cc, hcv⟩ := own_slice HP.out.cam
          have hzw : Z ≤ w6.heap.size := by have h1 := HZ.out; have h2 := HFR6.out.size; omega
          obtain ⟨ig, hig, hg0, hg1, hg2⟩ := info_parts info_res
          subst hcv
          obtain ⟨ca7, cc7, w7, hap, hown7, hgrow, hat7, _⟩ := run_append_lies (P := Try.prog) (w6.alloc (.cells #[.int .i64 0, .int .i64 0] ResT)) RessT RessT Z ResT ig (.agg #[.int .i64 0, .int .i64 0]) 2 16 Try.underlying54 hig hg0 hg1 hg2 rfl (by decide) (.slice ca s2.kids.length cc) s2.kids.length (s2.kids.flatMap encC) (own_below HP.out.cam (alV _ _)) ⟨w6.heap.size, 0, none⟩ 1 1 (encC ⟨o.d, false, ⟨0, 0⟩⟩) rfl (one_c w6) (by intro v hv; simp [encC, encRs] at hv; subst hv; rfl) (by decide) (by unfold maxLen; omega) (by omega) (by simp; omega) _ rfl
          have hF7 := grow_fr' (alV w6 (.cells #[.int .i64 0, .int .i64 0] ResT)) hgrow
          obtain ⟨hP, hFP, hTP⟩ := HP.out.pushC (c := ⟨o.d, false, ⟨0, 0⟩⟩) hF7 hown7
          have hb7 := box_typed hb6 hF7 (typed_own HP.out.cam) (by decide)
          have k2' : w7.cell? ⟨b, 2, none⟩ = some (.slice ca s2.kids.length cc) := hb7.cell 2
          have f2' := hb7.frozen 2
          have HOC := Lib.hid (show KeepB (.slice ca s2.kids.length cc) (.slice (some ⟨ca7, 0, none⟩) (s2.kids.length + 1) cc7) w from by
            have h1 : w.heap.size ≤ w6.heap.size := HFR6.out.size
            rcases hat7 with e | e
            · exact .inl (by rw [e]; rfl)
            · refine .inr fun i hi => ?_
              have hi' : ca7 = i := by simpa [Value.ownBlock] using hi
              have e1 : (w6.alloc (.cells #[.int .i64 0, .int .i64 0] ResT)).heap.size = w6.heap.size + 1 := by simp
              rw [e1] at e
              omega)
          have HSB7 := Lib.hid (box_typed HSB6.out hFP hTP (by decide))
          have HTB7 := Lib.hid (box_typed HTB6.out hFP hTP (by decide))
          have HO7 := Lib.hid (own_typed HO6.out hFP hTP (by decide))
          have HFR7 := Lib.hid (HFR6.out.trans (hFP.mono fun i hi => by rcases hi with e | e; exact .inl e; exact .inr (.inr (.inr (.inr (.inl e))))))
          have HD7 := Lib.hid (show Fd Z b q r pv t av (.slice (some ⟨ga5, 0, none⟩) (s2.kids.length + 1) gc5) (.slice (some ⟨ca7, 0, none⟩) (s2.kids.length + 1) cc7) iv' (fkV s2 o) (w7.setCell ⟨b, 2, none⟩ (.slice (some ⟨ca7, 0, none⟩) (s2.kids.length + 1) cc7)) from FdK.full hP)
          clear hP hFP hTP hb6 hb7 hF7 hown7 hgrow hat7 ig hig hg0 hg1 hg2 HP HSB HFR HTB HSB6 HTB6 HFR6 HO6
          go_upto_region 14 with (at_builtin; refine wpList_arunC rfl _ _ _ _ rfl rfl rfl hap ?_)
          clear k2 k2' f2' hap
          generalize w7.setCell ⟨b, 2, none⟩ (.slice (some ⟨ca7, 0, none⟩) (s2.kids.length + 1) cc7) = w8 at *
          have HSB := Lib.hid (show BoxAt w8 sb zSp StopT from HSB7.out)
          simp only [zSp] at HSB
          have x0 := HSB.out.cell 0; have x1 := HSB.out.cell 1; have x2 := HSB.out.cell 2; have x3 := HSB.out.cell 3; have x4 := HSB.out.cell 4; have x5 := HSB.out.cell 5; have x6 := HSB.out.cell 6
          have g0 := HSB.out.frozen 0; have g1 := HSB.out.frozen 1; have g2 := HSB.out.frozen 2; have g3 := HSB.out.frozen 3; have g4 := HSB.out.frozen 4; have g5 := HSB.out.frozen 5; have g6 := HSB.out.frozen 6
          simp only [List.getElem?_toArray, List.getElem?_cons_zero, List.getElem?_cons_succ] at x0 x1 x2 x3 x4 x5 x6
          have z0 := HTB7.out.cell 0; have z1 := HTB7.out.cell 1; have z2 := HTB7.out.cell 2; have z3 := HTB7.out.cell 3
          simp only [taC, List.getElem?_toArray, List.getElem?_cons_zero, List.getElem?_cons_succ] at z0 z1 z2 z3
          go_wp2_with fail
          refine dstep_end (set7_box HSB.out _ _ _ _ _ _ _) rfl rfl ?_
          have hF := set7_fr w8 sb (.int .u8 2) (.string a) (.int .i64 n) (.slice va vn vc) (.int .i64 u) (.int .i64 0) (.int .i64 0)
          have hT := typed_box HSB.out
          rw [HST.out]
          refine ⟨.slice va vn vc, _, _, iv', ?_, ?_, HD7.out.side HSB.out (Nat.le_trans HZ.out HLE.out) (by decide) hF, ⟨HFR7.out.join hF (fun i hi => .inr (by subst hi; exact HLE.out)), HOG.out, HOC.out, HKP.out⟩, fun h => absurd rfl (h _ rfl)⟩
          · rw [HAR.out.1, HAR.out.2.1, HAR.out.2.2.1]
            rfl
          · intro y hy
            injection hy with hy
            subst hy
            exact own_typed HO7.out hF hT (by decide)
    · have h12b : (o.k != 12) = true := by simp [h12]
      have HKJ := Lib.hid (show o.k = 13 ∨ o.k = 14 from by rcases plainB_false HPL.out with e | e; exact absurd e h12; exact e)
      have HST2 := Lib.hid (HST.out.trans (opV2_join HKJ.out))
      clear h12
      obtain ⟨wo4, hb4, _⟩ := HD.out.box
      obtain ⟨_, _, _, _, k4, k5, k6, k7, k8, _, _, _⟩ := fd_cells hb4
      have f4 := hb4.frozen 4; have f5 := hb4.frozen 5; have f6 := hb4.frozen 6; have f7 := hb4.frozen 7; have f8 := hb4.frozen 8
      have HV := Lib.hid (HD.out.op (o := o) HRN2.out.1)
      have HSB5 := Lib.hid (HSB.out.fr HV.out.2.2 (fun e => box_ne hb4 HSB.out (by decide) e.symm))
      have HFR5 := Lib.hid (HFR.out.trans (HV.out.2.2.mono fun i hi => .inl hi))
      clear hb4
      go_upto_region 8 with fail
      clear k4 k5 k6 k7 k8 f4 f5 f6 f7 f8 o0 o1 o2 o3 o4 HD HSB HFR HOB
      generalize ((((w4.setCell ⟨b, 4, none⟩ (.int .u8 o.k)).setCell ⟨b, 5, none⟩ (.int .i64 o.d)).setCell ⟨b, 6, none⟩ (.int .i64 o.a)).setCell ⟨b, 7, none⟩ (.int .i64 o.b)).setCell ⟨b, 8, none⟩ (.int .i64 o.n) = w5 at *
      have HJ := Lib.hid (djoin_any o HV.out.1 HV.out.2.1 HRN2.out.2 HI2.out HOK2.out HKJ.out)
      obtain ⟨f5, hru5, _⟩ := HV.out.1.run
      have HTY := Lib.hid (show Typed (fun i => i = b ∨ i = q ∨ i = r) w5 [DFrT, RunT, I64T] from (typed_box HV.out.2.1).or ((typed_box hru5.box).or (typed_box hru5.regs)))
      clear hru5
      obtain ⟨⟨jy, s6⟩, hjv⟩ : ∃ R, joinV s2 o = R := ⟨_, rfl⟩
      rw [hjv] at HJ HST2
      have hja := joinV_args (s := s2) (o := o)
      rw [hjv] at hja
      cases jy with
      | none =>
        clear hjv hja
        go_wp2_with fail
        refine HJ.out.mono ?_
        rintro e w6 ⟨rfl, hd6, hF6⟩
        have HD6 := Lib.hid hd6
        have HSB := Lib.hid (box_typed HSB5.out hF6 HTY.out (by decide))
        have HFR := Lib.hid (HFR5.out.trans (hF6.mono fun i hi => by rcases hi with e | e | e; exact .inl e; exact .inr (.inl e); exact .inr (.inr (.inl e))))
        clear hd6 hF6 HSB5 HFR5 HJ
        have x0 := HSB.out.cell 0; have x1 := HSB.out.cell 1; have x2 := HSB.out.cell 2; have x3 := HSB.out.cell 3; have x4 := HSB.out.cell 4; have x5 := HSB.out.cell 5; have x6 := HSB.out.cell 6
        have g0 := HSB.out.frozen 0; have g1 := HSB.out.frozen 1; have g2 := HSB.out.frozen 2; have g3 := HSB.out.frozen 3; have g4 := HSB.out.frozen 4; have g5 := HSB.out.frozen 5; have g6 := HSB.out.frozen 6
        simp only [List.getElem?_toArray, List.getElem?_cons_zero, List.getElem?_cons_succ] at x0 x1 x2 x3 x4 x5 x6
        go_wp2_with fail
        refine dstep_end (set7_box HSB.out _ _ _ _ _ _ _) rfl rfl ?_
        have hF := set7_fr w6 sb (.int .u8 0) (.string ⟨#[]⟩) (.int .i64 0) (.slice none 0 0) (.int .i64 0) (.int .i64 0) (.int .i64 0)
        exact StepDP.none HST2.out (HD6.out.side HSB.out (Nat.le_trans HZ.out HLE.out) (by decide) hF) (HFR.out.join hF (fun i hi => .inr (by subst hi; exact HLE.out)))
      | some y =>
        have HJA := Lib.hid (hja y rfl)
        clear hjv hja
        go_wp2_with fail
        refine HJ.out.mono ?_
        rintro e w6 ⟨rfl, hd6, hF6⟩
        have HD6 := Lib.hid hd6
        have HSB := Lib.hid (box_typed HSB5.out hF6 HTY.out (by decide))
        have HFR := Lib.hid (HFR5.out.trans (hF6.mono fun i hi => by rcases hi with e | e | e; exact .inl e; exact .inr (.inl e); exact .inr (.inr (.inl e))))
        clear hd6 hF6 HSB5 HFR5 HJ
        have x0 := HSB.out.cell 0; have x1 := HSB.out.cell 1; have x2 := HSB.out.cell 2; have x3 := HSB.out.cell 3; have x4 := HSB.out.cell 4; have x5 := HSB.out.cell 5; have x6 := HSB.out.cell 6
        have g0 := HSB.out.frozen 0; have g1 := HSB.out.frozen 1; have g2 := HSB.out.frozen 2; have g3 := HSB.out.frozen 3; have g4 := HSB.out.frozen 4; have g5 := HSB.out.frozen 5; have g6 := HSB.out.frozen 6
        simp only [List.getElem?_toArray, List.getElem?_cons_zero, List.getElem?_cons_succ] at x0 x1 x2 x3 x4 x5 x6
        go_wp2_with fail
        refine dstep_end (set7_box HSB.out _ _ _ _ _ _ _) rfl rfl ?_
        have hF := set7_fr w6 sb (.int .u8 y.k) (.string y.kid.p) (.int .i64 y.kid.fn) (.slice none 0 0) (.int .i64 y.kid.fuel) (.int .i64 y.r.v) (.int .i64 y.r.e)
        exact StepDP.stop HST2.out HJA.out (HD6.out.side HSB.out (Nat.le_trans HZ.out HLE.out) (by decide) hF) (HFR.out.join hF (fun i hi => .inr (by subst hi; exact HLE.out)))
end Go.Proofs.Ytdhbjejejeljoaa
