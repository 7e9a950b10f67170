/- Contract: eval.task.run. -/
import Derived.Test.YtdhbjejejeljoaaGreatEv13
namespace Go.Proofs.YtdhbjejejeljoaaGreat
open Go.RowKit Go.Sort Go.Lib

theorem run_end {wz : World} {tmps : Array Value} {q : Rs} {r : Nat} {R : Ending → World → Prop}
    (hr : BoxAt wz r (resC q) ResT) (h2 : tmps.getD 2 undef = .pointer (some ⟨r, 0, none⟩)) (hR : R (.returned (.agg #[.int .i64 q.v, .int .i64 q.e])) wz) :
    bodyPost Tryz.prog Tryz.f42 R Exit.ret { tmps := tmps, defers := [] } wz := by
  have c0 := hr.cell 0
  have c1 := hr.cell 1
  simp only [resC, List.getElem?_toArray, List.getElem?_cons_zero, List.getElem?_cons_succ] at c0 c1
  refine bodyPost_ret (v := .agg #[.int .i64 q.v, .int .i64 q.e]) ?_ rfl hR
  have h2' : tmps[2]?.getD undef = .pointer (some ⟨r, 0, none⟩) := by simpa using h2
  simp [results, Tryz.results42, go_sem, h2', c0, c1]
/-- What the run of a task leaves. -/
def RunP (Z W m : Nat) (pv dv0 : Value) (l0 : List DnA) (x r : Nat) (t : Tk) (aa : Option Addr) (ac : Nat) (w : World) (R : St × Rs) (e : Ending) (w' : World) : Prop :=
  e = .returned (.agg #[.int .i64 R.2.v, .int .i64 R.2.e]) ∧ ∃ wk wb dv iv wv nd, Below w.heap.size w wb ∧ Rn wk wb Z W m pv dv0 l0 x r t aa ac dv iv wv nd R.1 w'
theorem res_set {w : World} {rb : Nat} {q : Rs} (h : BoxAt w rb (resC q) ResT) (v e : Int) : BoxAt ((w.setCell ⟨rb, 0, none⟩ (.int .i64 v)).setCell ⟨rb, 1, none⟩ (.int .i64 e)) rb (resC ⟨v, e⟩) ResT :=
  Go.heap_setCell_same _ rb 1 _ _ _ (Go.heap_setCell_same w rb 0 _ _ _ h)
theorem Rn.res {wk w0 : World} {Z W m : Nat} {pv dv0 : Value} {l0 : List DnA} {x r : Nat} {t : Tk} {aa : Option Addr} {ac : Nat} {dv iv wv : Value} {nd : List DnA} {s : St} {wr : World} {rb : Nat} {q : Rs} (h : Rn wk w0 Z W m pv dv0 l0 x r t aa ac dv iv wv nd s wr) (hb : BoxAt w0 rb (resC q) ResT)
    (hn : rb ≠ W ∧ dv0.ownBlock ≠ some rb ∧ rb ≠ x ∧ rb ≠ r) : BoxAt wr rb (resC q) ResT ∧ wv.ownBlock ≠ some rb := by
  refine ⟨hb.fr h.fr ?_, fun e => ?_⟩
  · rintro ((e | e) | e | e)
    · exact hn.1 e
    · exact hn.2.1 e
    · exact hn.2.2.1 e
    · exact hn.2.2.2 e
  · have h1 := (h.tx.waits.lt rb e).1
    have h2 := (Array.getElem?_eq_some_iff.1 hb).1
    omega
/-- The result is written: nothing of the task turns. -/
theorem Rn.done {wk w0 : World} {Z W m : Nat} {pv dv0 : Value} {l0 : List DnA} {x r : Nat} {t : Tk} {aa : Option Addr} {ac : Nat} {dv iv wv : Value} {nd : List DnA} {s : St} {wr : World} {rb : Nat} {q : Rs} (h : Rn wk w0 Z W m pv dv0 l0 x r t aa ac dv iv wv nd s wr) (hb : BoxAt w0 rb (resC q) ResT)
    (hn : rb ≠ W ∧ dv0.ownBlock ≠ some rb ∧ rb ≠ x ∧ rb ≠ r) (hrb : Z ≤ rb) (a b : Value) : ∃ wb, Below rb w0 wb ∧ Rn wk wb Z W m pv dv0 l0 x r t aa ac dv iv wv nd s ((wr.setCell ⟨rb, 0, none⟩ a).setCell ⟨rb, 1, none⟩ b) := by
  obtain ⟨hbr, hwv⟩ := h.res hb hn
  have hF : Fr (fun i => i = rb) wr ((wr.setCell ⟨rb, 0, none⟩ a).setCell ⟨rb, 1, none⟩ b) := ((Fr.refl (fun i => i = rb) wr).setCell (p := ⟨rb, 0, none⟩) rfl _).setCell (p := ⟨rb, 1, none⟩) rfl _
  have hF0 : Fr (fun i => i = rb) w0 ((w0.setCell ⟨rb, 0, none⟩ a).setCell ⟨rb, 1, none⟩ b) := ((Fr.refl (fun i => i = rb) w0).setCell (p := ⟨rb, 0, none⟩) rfl _).setCell (p := ⟨rb, 1, none⟩) rfl _
  have hlt := (Array.getElem?_eq_some_iff.1 hb).1
  have hsz : ((w0.setCell ⟨rb, 0, none⟩ a).setCell ⟨rb, 1, none⟩ b).heap.size = w0.heap.size := by simp
  have hT := typed_box hbr
  refine ⟨(w0.setCell ⟨rb, 0, none⟩ a).setCell ⟨rb, 1, none⟩ b, hF0.below (fun i hi => by omega) (by omega), ?_, ⟨box_typed h.tx.box hF hT (by decide), box_typed h.tx.regs hF hT (by decide), ?_, ?_⟩, ?_, ?_, ?_, h.zx, h.sep, h.dn, ?_, h.kp.trans (.typed hF hT (by decide))⟩
  · exact h.gl.typed hF hT (by decide) (by decide) (by decide)
  · rw [hsz]; exact own_typed h.tx.into hF hT (by decide)
  · rw [hsz]; exact own_far h.tx.waits (fun i hi => hF.block i (h.tx.waits.lt i hi).2 (fun e => hwv (by rw [hi, e])))
  · refine ⟨?_, ?_, ?_, by rw [hsz]; exact Nat.le_trans h.fr.size hF.size, fun i hi hs => ?_⟩
    · exact hF.os.trans (h.fr.os.trans hF0.os.symm)
    · exact hF.tape.trans (h.fr.tape.trans hF0.tape.symm)
    · exact hF.output.trans (h.fr.output.trans hF0.output.symm)
    · by_cases e : i = rb
      · subst e
        have e1 := Go.heap_setCell_same _ i 1 _ _ b (Go.heap_setCell_same wr i 0 _ _ a hbr)
        have e2 := Go.heap_setCell_same _ i 1 _ _ b (Go.heap_setCell_same w0 i 0 _ _ a hb)
        rw [e1, e2]
      · rw [hsz] at hi
        rw [hF.block i (Nat.lt_of_lt_of_le hi h.fr.size) e, h.fr.block i hi hs, hF0.block i hi e]
  · rw [hsz]; exact h.st
  · rw [hsz]; exact h.lo
  · rw [hsz]; exact fun d hd => own_typed (h.da d hd) hF hT (by decide)
theorem opS_done {p : List Fnc} {D : Tk → Rs × List Dn} {t : Tk} {s s5 : St} {o : Opr} {f : Fnc} {ee : Int} (h : opS p D t s o = (true, ee, s5)) (he : ee = 0) (ho : OpOk p f o) : o.k = 14 := by
  by_cases k14 : o.k = 14
  · exact k14
  exfalso
  subst he
  by_cases k1 : o.k = 1
  · rw [opS_set k1] at h; cases h
  by_cases k10 : o.k = 10
  · rw [opS_go k10] at h; cases h
  by_cases k11 : o.k = 11
  · rw [opS_if k11] at h; cases h
  by_cases k12 : o.k = 12
  · rw [opS_fork k12] at h; cases h
  by_cases k13 : o.k = 13
  · rw [opS_join k13] at h; cases h
  have h1 := ho.k1
  have h2 := ho.k2
  cases hc : calcP o.k (rg s.regs o.a) (rg s.regs o.b) with
  | none => rw [opS_zero (by omega) (by omega) hc] at h; cases h
  | some v => rw [opS_calc (by omega) (by omega) hc] at h; cases h
set_option maxHeartbeats 6400000 in
set_option maxRecDepth 100000 in
theorem run_any {Z W m : Nat} {pv dv0 : Value} {l0 : List DnA} {x r : Nat} {t : Tk} {aa : Option Addr} {ac : Nat} {w : World} {p : List Fnc} {D : Tk → Rs × List Dn} {R : St × Rs}
    (hp : WfP p) (ht : TkOk p t) (hDO : DOk p D t.fuel) (hpr : ProgAt w pv p) (hpl : ProgLow Z pv p) (hdv : ∀ i, dv0.ownBlock = some i → Z ≤ i ∧ i < w.heap.size) (hD : DoC Z W m pv p D t.fuel) (hl0 : (l0.length : Int) + t.fuel + 1 ≤ 200000)
    (hg : Gl Z W m pv dv0 (l0 ++ [(⟨t, ⟨0, 0⟩, 0⟩, aa, ac)]) w) (hx : BoxAt w x (txC t (.slice aa t.args.length ac) W r (beginS p t) (.slice none 0 0) (.slice none 0 0)) TxT) (hr : BoxAt w r ((beginS p t).regs.map (Value.int .i64)).toArray I64T)
    (hsep : ∀ d ∈ l0 ++ [(⟨t, ⟨0, 0⟩, 0⟩, aa, ac)], (argV d).ownBlock ≠ some r) (hz : Z ≤ w.heap.size) (hzx : Z ≤ x ∧ Z ≤ r) (hW : W < w.heap.size) (hR : runP p D t (t.fuel.toNat + 1) (beginS p t) = R) :
    Calls Tryz.prog 42 #[.pointer (some ⟨x, 0, none⟩)] w (RunP Z W m pv dv0 l0 x r t aa ac w R) := by
  have hA : Below w.heap.size w (w.alloc (.cells (resC ⟨0, 0⟩) ResT)) := (Below.refl _ _).alloc (Nat.le_refl _) _
  have hbx : BoxAt (w.alloc (.cells (resC ⟨0, 0⟩) ResT)) w.heap.size (resC ⟨0, 0⟩) ResT := heap_alloc_new _ _
  have hwb : w.heap.size < (w.alloc (.cells (resC ⟨0, 0⟩) ResT)).heap.size := by simp
  have hxl := (Array.getElem?_eq_some_iff.1 hx).1
  have hrl := (Array.getElem?_eq_some_iff.1 hr).1
  have H0 := Lib.hid (show Rn (w.alloc (.cells (resC ⟨0, 0⟩) ResT)) (w.alloc (.cells (resC ⟨0, 0⟩) ResT)) Z W m pv dv0 l0 x r t aa ac dv0 (.slice none 0 0) (.slice none 0 0) [] (beginS p t) (w.alloc (.cells (resC ⟨0, 0⟩) ResT)) from
    ⟨hg.below hA, ⟨hx.below hA, hr.below hA, World.ownsRow_nil _ _ _ _, World.ownsRow_nil _ _ _ _⟩, Fr.refl _ _, fun i hi => .inl (.inr hi), ⟨by omega, by omega, by omega, by omega⟩, hzx, hsep, rfl, by simp, Kp.refl _⟩)
  have HE := Lib.hid (show Env (w.alloc (.cells (resC ⟨0, 0⟩) ResT)) Z W m pv dv0 p D l0 t from ⟨hp, ht, hpr.below hA, hpl, fun i hi => (hdv i hi).1, hD, hl0⟩)
  have HRB := Lib.hid (show BoxAt (w.alloc (.cells (resC ⟨0, 0⟩) ResT)) w.heap.size (resC ⟨0, 0⟩) ResT ∧ (w.heap.size ≠ W ∧ dv0.ownBlock ≠ some w.heap.size ∧ w.heap.size ≠ x ∧ w.heap.size ≠ r) ∧ Below w.heap.size w (w.alloc (.cells (resC ⟨0, 0⟩) ResT)) from ⟨hbx, ⟨by omega, fun e => by have := (hdv _ e).2; omega, by omega, by omega⟩, hA⟩)
  have HI0 := Lib.hid (beginS_inv hp ht)
  have HA0 := Lib.hid (begin_at hp ht)
  have HR := Lib.hid hR
  have HZ := Lib.hid hz
  have HDO := Lib.hid hDO
  have hu0 := ht.u0
  have hu1 := ht.u1
  obtain ⟨hf0, hf1⟩ := (show 0 ≤ t.fn ∧ t.fn < p.length from ⟨ht.f0, ht.f1⟩)
  obtain ⟨fq, hfq⟩ : ∃ q : Nat, t.fn = q := ⟨t.fn.toNat, by omega⟩
  have hfl : fq < p.length := by omega
  have hfe : fnAt p t.fn = p[fq] := by
    unfold fnAt
    rw [hfq, List.getD_eq_getElem?_getD, Int.toNat_natCast, List.getElem?_eq_getElem hfl]; rfl
  have hfm : p[fq] ∈ p := List.getElem_mem hfl
  have hfo := hp.2 _ hfm
  obtain ⟨pb, poff, pcap, he, hpb, hpc⟩ := (hpr.below hA).fns.at (by omega)
  subst he
  have c2 := (fn_at hpc hfl).2.2
  generalize p[fq] = f at *
  have ho0 := hfo.o0
  have ho1 := hfo.o1
  obtain ⟨b, off, oc, he, hb, hoc⟩ := ((hpr.below hA).ops _ hfm).1.at (by omega)
  injection he with he1 he2 he3
  rw [he1] at c2
  have HOPS := Lib.hid (show ∀ y, ProgAt y (.slice (some ⟨pb, poff, none⟩) p.length pcap) p → ∀ k (hk : k < f.ops.length), y.cell? ⟨b, off + k * 5, none⟩ = some (.int .u8 f.ops[k].k) ∧ y.cell? ⟨b, off + k * 5 + 1, none⟩ = some (.int .i64 f.ops[k].d) ∧ y.cell? ⟨b, off + k * 5 + 2, none⟩ = some (.int .i64 f.ops[k].a) ∧ y.cell? ⟨b, off + k * 5 + 3, none⟩ = some (.int .i64 f.ops[k].b) ∧ y.cell? ⟨b, off + k * 5 + 4, none⟩ = some (.int .i64 f.ops[k].n) from fun y hy k hk => by
    obtain ⟨b', off', oc', he', _, hoc'⟩ := (hy.ops _ hfm).1.at (by omega)
    injection he' with he1' _ _
    rw [he1] at he1'
    injection he1' with he1'
    injection he1' with e1 e2 _
    subst e1; subst e2
    exact op_at hoc' hk)
  have HFE := Lib.hid hfe
  have HFQ := Lib.hid hfq
  have HOK := Lib.hid hfo
  have q1 : (fq : Int) < p.length := by omega
  have q0 : (0 : Int) ≤ fq := by omega
  clear hA hbx hwb hxl hrl hg hx hr hsep hz hR hDO hpc hpb he1 he2 he3 hb hoc hfe hpr hdv hD hl0 hfq hfo hfm
  go_enter Tryz.func42, Tryz.ntmps42
  go_upto_region 1 with fail
  simp only [resC] at H0 HE HRB c2
  generalize w.alloc (.cells #[.int .i64 0, .int .i64 0] ResT) = wb at *
  have hzr : Z ≤ w.heap.size := HZ.out
  obtain ⟨rb, hrb⟩ : ∃ rb, w.heap.size = rb := ⟨_, rfl⟩
  rw [hrb] at HRB hzr ⊢
  have HRBE := Lib.hid hrb
  clear hrb
  have x1 := (tx_cells H0.out.tx).2.1
  have x4 := (tx_cells H0.out.tx).2.2.2.1
  have w0c := H0.out.gl.box.cell 0
  simp only [List.getElem?_toArray, List.getElem?_cons_zero] at w0c
  rw [HFQ.out] at x1
  go_quiet (fail)
  have HQ0 := Lib.hid (show Rn wb wb Z W m (.slice (some ⟨pb, poff, none⟩) p.length pcap) dv0 l0 x r t aa ac dv0 (.slice none 0 0) (.slice none 0 0) [] (beginS p t) (wb.drewN nq) from H0.out.below (below_drewN (Below.refl _ _) nq))
  generalize wb.drewN nq = w2 at *
  clear x1 x4 w0c c2 H0
  go_wp2_with fail
  go_loopg [] (t.fuel.toNat + 1) (fun gk wr => ∃ (wk : World) (s : St) (dv iv wv : Value) (nd : List DnA), Hid (Rn wk wb Z W m (.slice (some ⟨pb, poff, none⟩) p.length pcap) dv0 l0 x r t aa ac dv iv wv nd s wr) ∧ Hid (InvS p t s ∧ AtOk p t s ∧ s.left < gk ∧ runP p D t gk s = R))
  case atStart => exact ⟨_, _, _, _, _, _, HQ0, HI0.out, HA0.out, by unfold beginS; simp only []; omega, HR.out⟩
  case round =>
    clear HQ0
    obtain ⟨wk, s, dv, iv, wv, nd, HS, HC⟩ := hrel
    obtain ⟨x0, x1, x3, x4, x5, x6, x7, x8, x9⟩ := tx_cells HS.out.tx
    have hrbx := (HS.out.res (q := ⟨0, 0⟩) HRB.out.1 HRB.out.2.1).1
    have rc0 := hrbx.cell 0; have rc1 := hrbx.cell 1
    have rf0 := hrbx.frozen 0; have rf1 := hrbx.frozen 1
    simp only [resC, List.getElem?_toArray, List.getElem?_cons_zero, List.getElem?_cons_succ] at rc0 rc1
    have HRX := Lib.hid hrbx
    have hll := HC.out.1.l0
    have hgk := HC.out.2.2.1
    obtain ⟨g, hg⟩ : ∃ g, gk = g + 1 := ⟨gk - 1, by omega⟩
    have HRUN := Lib.hid (show runP p D t (g + 1) s = R by rw [← hg]; exact HC.out.2.2.2)
    have HG := Lib.hid hg
    clear hrbx hg
    by_cases h0 : s.left = 0
    · have HRS := Lib.hid (show R = (s, ⟨0, 130⟩) by
        rw [← HRUN.out]; unfold runP stepP; rw [if_pos h0])
      have h1 : (s.left == 0) = true := by simp [h0]
      clear h0
      go_wp2_with fail
      obtain ⟨wb2, hB2, hRn⟩ := HS.out.done (q := ⟨0, 0⟩) HRB.out.1 HRB.out.2.1 hzr (.int .i64 0) (.int .i64 130)
      refine run_end (res_set HRX.out 0 130) rfl ⟨by rw [HRS.out], ?_⟩
      rw [HRS.out]
      exact ⟨_, wb2, _, _, _, _, HRBE.out ▸ HRB.out.2.2.trans hB2, hRn⟩
    have h1 : (s.left == 0) = false := by simpa using h0
    have HP := Lib.hid (HC.out.1.pay h0)
    have HSTEP := Lib.hid (show stepP p D t s = let y := opS p D t { s with left := s.left - 1 } (opAt p t s); if y.2.1 ≠ 0 then .stop y.2.2 ⟨0, y.2.1⟩ else if y.1 then .stop y.2.2 ⟨rg y.2.2.regs (opAt p t s).a, 0⟩ else .go y.2.2 from by unfold stepP; rw [if_neg h0])
    have hpc0 := HC.out.1.pc0
    have hpc1 := HC.out.2.1
    unfold AtOk at hpc1
    rw [HFE.out] at hpc1
    obtain ⟨q, hq⟩ : ∃ q : Nat, s.pc = q := ⟨s.pc.toNat, by omega⟩
    have hql : q < f.ops.length := by omega
    have hql1 : (q : Int) < f.ops.length := by omega
    have hql0 : (0 : Int) ≤ q := by omega
    have HOA := Lib.hid (show opAt p t s = f.ops[q] from by
      unfold opAt
      rw [HFE.out, hq, List.getD_eq_getElem?_getD, Int.toNat_natCast, List.getElem?_eq_getElem hql]; rfl)
    have HOO := Lib.hid (show OpOk p (fnAt p t.fn) f.ops[q] from by rw [HFE.out]; exact HOK.out.op _ (List.getElem_mem hql))
    have h63 : s.pc ≤ 63 := by omega
    have hlu : s.left ≤ 65536 := by have h1 := HC.out.1.cnt; omega
    rw [hq] at x6
    have HQ := Lib.hid hq
    have f3 := HS.out.tx.box.frozen 3
    clear h0 hpc0 hpc1 hq
    go_upto_region 5 with fail
    have HS2 := Lib.hid (show Rn wk wb Z W m (.slice (some ⟨pb, poff, none⟩) p.length pcap) dv0 l0 x r t aa ac dv iv wv nd { s with left := s.left - 1 } (wr.setCell ⟨x, 3, none⟩ (.int .i64 (s.left - 1))) from
      HS.out.boxX ((Fr.refl (fun i => i = x) wr).setCell (p := ⟨x, 3, none⟩) rfl _) (Go.heap_setCell_same wr x 3 _ _ _ HS.out.tx.box) rfl rfl rfl rfl)
    generalize wr.setCell ⟨x, 3, none⟩ (.int .i64 (s.left - 1)) = w3 at *
    clear x0 x1 x3 x4 x5 x6 x7 x8 x9 f3 rc0 rc1 rf0 rf1 HRX
    obtain ⟨x0, x1, x3, x4, x5, x6, x7, x8, x9⟩ := tx_cells HS2.out.tx
    simp only [] at x6
    rw [HQ.out] at x6
    obtain ⟨g0, g1, g2, g3, g4⟩ := HOPS.out w3 (HS2.out.prog HE.out.hpr HE.out.hpl HE.out.hdv) q hql
    generalize f.ops[q] = o at *
    have hA : Below w3.heap.size w3 (w3.alloc (.cells (opC o) OpT)) := (Below.refl _ _).alloc (Nat.le_refl _) _
    have HS3 := Lib.hid ((HS2.out.below hA).rekeep)
    have HOB := Lib.hid (show BoxAt (w3.alloc (.cells (opC o) OpT)) w3.heap.size (opC o) OpT from heap_alloc_new _ _)
    clear hA
    go_upto_region 6 with fail
    simp only [opC] at HS3 HOB
    generalize w3.alloc (.cells #[.int .u8 o.k, .int .i64 o.d, .int .i64 o.a, .int .i64 o.b, .int .i64 o.n] OpT) = w4 at *
    generalize w3.heap.size = ob at *
    clear x0 x1 x3 x4 x5 x6 x7 x8 x9 g0 g1 g2 g3 g4 HS2 HS
    obtain ⟨k0, k1, k2, k3, k4⟩ := op_cells HOB.out
    go_wp2_with fail
    refine (op_any (o := o) HS3.out HE.out HP.out.1 HP.out.2 (by simpa using h63) HOO.out).mono ?_
    rintro e w5 ⟨rfl, dv5, iv5, wv5, nd5, hrn5⟩
    have HINV := Lib.hid (opS_inv HE.out.hp HE.out.ht HDO.out HP.out.1 (by simpa using h63) HP.out.2 HOO.out)
    rw [HOA.out] at HSTEP
    obtain ⟨⟨bb, ee, s5⟩, hop⟩ : ∃ y, opS p D t { s with left := s.left - 1 } o = y := ⟨_, rfl⟩
    rw [hop] at hrn5 HINV ⊢
    have HSTEP2 := Lib.hid (show stepP p D t s = if ee ≠ 0 then .stop s5 ⟨0, ee⟩ else if bb = true then .stop s5 ⟨rg s5.regs o.a, 0⟩ else .go s5 from by
      have h1 := HSTEP.out
      simp only [hop] at h1
      exact h1)
    have HOP := Lib.hid hop
    have H5 := Lib.hid hrn5
    clear hop hrn5 k0 k1 k2 k3 k4 HS3
    have HOB5 := Lib.hid (HOB.out.kp H5.out.kp (by decide))
    have hrbx := (H5.out.res (q := ⟨0, 0⟩) HRB.out.1 HRB.out.2.1).1
    have rc0 := hrbx.cell 0; have rc1 := hrbx.cell 1
    have rf0 := hrbx.frozen 0; have rf1 := hrbx.frozen 1
    simp only [resC, List.getElem?_toArray, List.getElem?_cons_zero, List.getElem?_cons_succ] at rc0 rc1
    have HRX := Lib.hid hrbx
    clear hrbx HOB
    by_cases he0 : ee = 0
    · have hne : (ee != 0) = false := by simp [he0]
      have HE0 := Lib.hid he0
      clear he0
      cases bb
      · have HRS := Lib.hid (show runP p D t g s5 = R by
          rw [← HRUN.out]
          conv => rhs; unfold runP
          rw [HSTEP2.out, if_neg (fun h => h HE0.out), if_neg (by decide)])
        have HNX := Lib.hid (step_go (D := D) (s' := s5) HE.out.hp HE.out.ht HDO.out HC.out.1 HC.out.2.1 (by rw [HSTEP2.out, if_neg (fun h => h HE0.out), if_neg (by decide)]))
        clear rc0 rc1 rf0 rf1
        go_wp2_with fail
        go_roundg g
        case rel => exact ⟨_, s5, _, _, _, _, H5, HNX.out.1, HNX.out.2.1, by have h1 := HNX.out.2.2; have h2 := HG.out; omega, HRS.out⟩
        case measure => have := HG.out; omega
      · have HRS := Lib.hid (show R = (s5, ⟨rg s5.regs o.a, 0⟩) by
          rw [← HRUN.out]; unfold runP
          rw [HSTEP2.out, if_neg (fun h => h HE0.out), if_pos rfl])
        have hk14 := opS_done HOP.out HE0.out HOO.out
        have har := HOO.out.a (.inr (.inr hk14))
        have ha0 := HOO.out.a0
        have hrl5 : (s5.regs.length : Int) = (fnAt p t.fn).regs := HINV.out.1.rl
        obtain ⟨qa, hqa⟩ : ∃ q : Nat, o.a = q := ⟨o.a.toNat, by omega⟩
        have ha1 : qa < s5.regs.length := by omega
        have ha2 : (qa : Int) < s5.regs.length := by omega
        have ha3 : (0 : Int) ≤ qa := by omega
        have HRG := Lib.hid (show rg s5.regs o.a = s5.regs[qa] from by
          unfold rg
          rw [hqa, List.getD_eq_getElem?_getD, Int.toNat_natCast, List.getElem?_eq_getElem ha1]; rfl)
        have k2 := (op_cells HOB5.out).2.2.1
        rw [hqa] at k2
        have x5 := (tx_cells H5.out.tx).2.2.2.2.1
        have g0 := regs_cell H5.out.tx.regs (q := qa) ha1
        clear hk14 har hrl5 hqa
        generalize s5.regs[qa] = va at *
        go_upto_region 10 with fail
        go_still_tail 9, (by kernel_rfl)
        change wpList _ _ _ _ _ w5.drew
        go_wp2_with fail
        obtain ⟨wb2, hB2, hRn⟩ := H5.out.done (q := ⟨0, 0⟩) HRB.out.1 HRB.out.2.1 hzr (.int .i64 va) (.int .i64 0)
        refine run_end (BoxAt.below (res_set HRX.out va 0) (Below.refl _ _).drew) rfl ⟨by rw [HRS.out, HRG.out], ?_⟩
        rw [HRS.out]
        exact ⟨_, wb2, _, _, _, _, HRBE.out ▸ HRB.out.2.2.trans hB2, hRn.below (Below.refl _ _).drew⟩
    · have hne : (ee != 0) = true := by simpa using he0
      have HRS := Lib.hid (show R = (s5, ⟨0, ee⟩) by
        rw [← HRUN.out]; unfold runP
        rw [HSTEP2.out, if_pos he0])
      clear he0
      go_wp2_with fail
      obtain ⟨wb2, hB2, hRn⟩ := H5.out.done (q := ⟨0, 0⟩) HRB.out.1 HRB.out.2.1 hzr (.int .i64 0) (.int .i64 ee)
      refine run_end (res_set HRX.out 0 ee) rfl ⟨by rw [HRS.out], ?_⟩
      rw [HRS.out]
      exact ⟨_, wb2, _, _, _, _, HRBE.out ▸ HRB.out.2.2.trans hB2, hRn⟩
end Go.Proofs.YtdhbjejejeljoaaGreat
