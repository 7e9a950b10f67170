/- Contract: eval.task.op. -/
import Derived.Test.YtdhbjejejeljoaaGreatEv12
namespace Go.Proofs.YtdhbjejejeljoaaGreat
open Go.RowKit Go.Sort Go.Lib
/-- What an op leaves. -/
def OpP (wk w0 : World) (Z W m : Nat) (pv dv0 : Value) (p : List Fnc) (D : Tk → Rs × List Dn) (o : Opr) (l0 : List DnA) (x r : Nat) (t : Tk) (aa : Option Addr) (ac : Nat) (s : St) (e : Ending) (w' : World) : Prop :=
  e = .returned (.tuple #[.bool (opS p D t s o).1, .int .i64 (opS p D t s o).2.1]) ∧ ∃ dv iv wv nd, Rn wk w0 Z W m pv dv0 l0 x r t aa ac dv iv wv nd (opS p D t s o).2.2 w'
/-- What holds of all calls on the task. -/
structure Env (w0 : World) (Z W m : Nat) (pv dv0 : Value) (p : List Fnc) (D : Tk → Rs × List Dn) (l0 : List DnA) (t : Tk) : Prop where
  hp : WfP p
  ht : TkOk p t
  hpr : ProgAt w0 pv p
  hpl : ProgLow Z pv p
  hdv : ∀ i, dv0.ownBlock = some i → Z ≤ i
  hD : DoC Z W m pv p D t.fuel
  hl0 : (l0.length : Int) + t.fuel + 1 ≤ 200000
theorem opS_set {p : List Fnc} {D : Tk → Rs × List Dn} {t : Tk} {s : St} {o : Opr} (h : o.k = 1) : opS p D t s o = (false, 0, { s with pc := s.pc + 1, regs := s.regs.set o.d.toNat o.n }) := by unfold opS; simp [h]
theorem opS_go {p : List Fnc} {D : Tk → Rs × List Dn} {t : Tk} {s : St} {o : Opr} (h : o.k = 10) : opS p D t s o = (false, 0, { s with pc := o.n }) := by unfold opS; simp [h]
theorem opS_if {p : List Fnc} {D : Tk → Rs × List Dn} {t : Tk} {s : St} {o : Opr} (h : o.k = 11) : opS p D t s o = (false, 0, if rg s.regs o.a = 0 then { s with pc := s.pc + 1 } else { s with pc := o.n }) := by unfold opS; simp [h]
theorem opS_fork {p : List Fnc} {D : Tk → Rs × List Dn} {t : Tk} {s : St} {o : Opr} (h : o.k = 12) : opS p D t s o = (false, forkS p D t { s with pc := s.pc + 1 } o) := by unfold opS; simp [h]
theorem opS_join {p : List Fnc} {D : Tk → Rs × List Dn} {t : Tk} {s : St} {o : Opr} (h : o.k = 13) : opS p D t s o = (false, joinS { s with pc := s.pc + 1 }) := by unfold opS; simp [h]
theorem opS_ret {p : List Fnc} {D : Tk → Rs × List Dn} {t : Tk} {s : St} {o : Opr} (h : o.k = 14) : opS p D t s o = (true, joinS { s with pc := s.pc + 1 }) := by unfold opS; simp [h]
theorem opS_zero {p : List Fnc} {D : Tk → Rs × List Dn} {t : Tk} {s : St} {o : Opr} (h1 : 2 ≤ o.k) (h2 : o.k ≤ 9) (h : calcP o.k (rg s.regs o.a) (rg s.regs o.b) = none) : opS p D t s o = (true, 131, { s with pc := s.pc + 1 }) := by
  unfold opS
  simp only []
  rw [if_neg (by omega), if_neg (by omega), if_neg (by omega), if_neg (by omega), if_neg (by omega), if_neg (by omega), h]
theorem opS_calc {p : List Fnc} {D : Tk → Rs × List Dn} {t : Tk} {s : St} {o : Opr} {v : Int} (h1 : 2 ≤ o.k) (h2 : o.k ≤ 9) (h : calcP o.k (rg s.regs o.a) (rg s.regs o.b) = some v) : opS p D t s o = (false, 0, { s with pc := s.pc + 1, regs := s.regs.set o.d.toNat v }) := by
  unfold opS
  simp only []
  rw [if_neg (by omega), if_neg (by omega), if_neg (by omega), if_neg (by omega), if_neg (by omega), if_neg (by omega), h]
def S5 (x r W m ob : Nat) (t : Tk) (aa : Option Addr) (ac : Nat) (pv dv iv wv : Value) (o : Opr) (s : St) (y : World) : Prop := BoxAt y x (txC t (.slice aa t.args.length ac) W r s iv wv) TxT ∧ BoxAt y ob (opC o) OpT ∧ BoxAt y W #[pv, .map (some m), dv] WorldT ∧ B.MapL evC y m calL
theorem S5_of {wk w0 : World} {Z W m : Nat} {pv dv0 : Value} {l0 : List DnA} {x r : Nat} {t : Tk} {aa : Option Addr} {ac : Nat} {dv iv wv : Value} {nd : List DnA} {ob : Nat} {o : Opr} {s : St} {y : World} (h : FkW wk w0 Z W m pv dv0 l0 x r t aa ac dv iv wv nd ob o s y) : S5 x r W m ob t aa ac pv dv iv wv o s y := ⟨h.1.tx.box, h.2, h.1.gl.box, h.1.gl.cal⟩
theorem S5_set {wk w0 : World} {Z W m : Nat} {pv dv0 : Value} {l0 : List DnA} {x r : Nat} {t : Tk} {aa : Option Addr} {ac : Nat} {dv iv wv : Value} {nd : List DnA} {ob q : Nat} {o : Opr} {s : St} {v : Int} {y : World} (h : FkW wk w0 Z W m pv dv0 l0 x r t aa ac dv iv wv nd ob o { s with regs := s.regs.set q v } y) (_ : True = True) : S5 x r W m ob t aa ac pv dv iv wv o s y := by
  have h1 := h.1.tx.box
  unfold txC at h1
  rw [List.length_set] at h1
  exact ⟨h1, h.2, h.1.gl.box, h.1.gl.cal⟩
set_option maxRecDepth 100000 in
theorem upon_calc {o : Oper} {a : Act} {K : Act → World → Prop} {Q : Exit → Act → World → Prop} {w : World} {k va vb v : Int} {F : Nat} (hF : B.getL calL k = some F) (h1 : 2 ≤ k) (h2 : k ≤ 9) (hv : calcP k va vb = some v) (hK : K (a.put o.dst (.int .i64 v)) w) :
    Oper.upon Tryz.prog o a K Q (Sem.run Tryz.prog (callFunc F #[.int .i64 va, .int .i64 vb]) w) := by
  have hc := calc_any w hF h1 h2 hv
  obtain ⟨F', hF', hk⟩ := calL_get h1 h2
  rw [hF] at hF'
  injection hF' with hF'
  subst hF'
  have HC := Lib.hid hc
  have HK := Lib.hid hK
  clear hc hK hF hv
  rcases hk with ⟨_, rfl⟩ | ⟨_, rfl⟩ | ⟨_, rfl⟩ | ⟨_, rfl⟩ | ⟨_, rfl⟩ | ⟨_, rfl⟩ | ⟨_, rfl⟩ | ⟨_, rfl⟩
  all_goals
    go_simp
    refine HC.out.mono ?_
    rintro e w' ⟨rfl, rfl⟩
    go_simp
    exact HK.out
theorem calc_none {k a b : Int} (h : (k = 6 ∨ k = 7) ∧ b = 0) : calcP k a b = none := by
  obtain ⟨h | h, rfl⟩ := h <;> simp [calcP, h]
theorem calc_some {k a b : Int} (h : ¬ ((k = 6 ∨ k = 7) ∧ b = 0)) : ∃ v, calcP k a b = some v := by
  unfold calcP
  by_cases h0 : b = 0
  · have h6 : k ≠ 6 := fun e => h ⟨.inl e, h0⟩
    have h7 : k ≠ 7 := fun e => h ⟨.inr e, h0⟩
    simp only [if_neg h6, if_neg h7]
    repeat' split
    all_goals exact ⟨_, rfl⟩
  · simp only [if_neg h0]
    repeat' split
    all_goals exact ⟨_, rfl⟩
theorem cal_look {w : World} {m : Nat} {k : Int} {F : Nat} (h : B.MapL evC w m calL) (hF : B.getL calL k = some F) : (Instr.lookup 65 (.map (some m)) (.int .u8 k) false).run Tryz.prog w = .ok (.func (.func F) #[] #[]) w := by
  have hz : (zeroValue 99).run Tryz.prog w = .ok .nilFunc w := by kernel_rfl
  have h1 := h.lookup (P := Tryz.prog) B.nameTy Tryz.underlying65 hz k
  rw [hF] at h1
  exact h1
set_option maxHeartbeats 6400000 in
set_option maxRecDepth 100000 in
theorem op_any {wk w0 : World} {Z W m : Nat} {pv dv0 : Value} {l0 : List DnA} {x r : Nat} {t : Tk} {aa : Option Addr} {ac : Nat} {dv iv wv : Value} {nd : List DnA} {s : St} {w : World} {p : List Fnc} {D : Tk → Rs × List Dn} {o : Opr}
    (h : Rn wk w0 Z W m pv dv0 l0 x r t aa ac dv iv wv nd s w) (E : Env w0 Z W m pv dv0 p D l0 t) (hi : InvS p t s) (hc : s.done.length + s.left < t.fuel) (h63 : s.pc ≤ 63) (ho : OpOk p (fnAt p t.fn) o) :
    Calls Tryz.prog 59 #[.pointer (some ⟨x, 0, none⟩), .agg #[.int .u8 o.k, .int .i64 o.d, .int .i64 o.a, .int .i64 o.b, .int .i64 o.n]] w (OpP wk w0 Z W m pv dv0 p D o l0 x r t aa ac s) := by
  have hA : Below w.heap.size w (w.alloc (.cells (opC o) OpT)) := (Below.refl _ _).alloc (Nat.le_refl _) _
  have hb : BoxAt (w.alloc (.cells (opC o) OpT)) w.heap.size (opC o) OpT := heap_alloc_new _ _
  have H := Lib.hid (h.below hA)
  have HB := Lib.hid hb
  have hpc0 := hi.pc0
  have hpc1 := h63
  clear h hA hb
  go_enter Tryz.func59, Tryz.ntmps59
  go_upto_region 1 with fail
  simp only [opC] at H HB
  generalize w.alloc (.cells #[.int .u8 o.k, .int .i64 o.d, .int .i64 o.a, .int .i64 o.b, .int .i64 o.n] OpT) = w1 at *
  generalize w.heap.size = ob at *
  obtain ⟨x0, x1, x3, x4, x5, x6, x7, x8, x9⟩ := tx_cells H.out.tx
  have f6 := H.out.tx.box.frozen 6
  go_upto_region 2 with fail
  have H2 := Lib.hid (show FkW wk w0 Z W m pv dv0 l0 x r t aa ac dv iv wv nd ob o { s with pc := s.pc + 1 } (w1.setCell ⟨x, 6, none⟩ (.int .i64 (s.pc + 1))) from by
    have hF : Fr (fun i => i = x) w1 (w1.setCell ⟨x, 6, none⟩ (.int .i64 (s.pc + 1))) := (Fr.refl (fun i => i = x) w1).setCell (p := ⟨x, 6, none⟩) rfl _
    have hb : BoxAt (w1.setCell ⟨x, 6, none⟩ (.int .i64 (s.pc + 1))) x (txC t (.slice aa t.args.length ac) W r { s with pc := s.pc + 1 } iv wv) TxT := Go.heap_setCell_same w1 x 6 _ _ _ H.out.tx.box
    exact ⟨H.out.boxX hF hb rfl rfl rfl rfl, box_typed HB.out hF (typed_box H.out.tx.box) (by decide)⟩)
  generalize w1.setCell ⟨x, 6, none⟩ (.int .i64 (s.pc + 1)) = w2 at *
  clear H HB x0 x1 x3 x4 x5 x6 x7 x8 x9 f6
  have hi1 : InvS p t { s with pc := s.pc + 1 } := ⟨hi.rl, by simp only []; omega, by simp only []; omega, hi.l0, hi.k0, hi.k1, hi.il, hi.ik, hi.ir, hi.cnt⟩
  have HI1 := Lib.hid hi1
  have hd0 := ho.d0
  have ha0 := ho.a0
  have hb0 := ho.b0
  have hrl := hi.rl
  clear hi1
  obtain ⟨x0, x1, x3, x4, x5, x6, x7, x8, x9⟩ := tx_cells H2.out.1.tx
  obtain ⟨k0, k1, k2, k3, k4⟩ := op_cells H2.out.2
  have f6 := H2.out.1.tx.box.frozen 6
  by_cases e1 : o.k = 1
  · have b1 : (o.k == 1) = true := by simp [e1]
    have HE := Lib.hid (opS_set (p := p) (D := D) (t := t) (s := s) e1)
    have hdr := ho.d (.inl (by omega))
    obtain ⟨q, hq⟩ : ∃ q : Nat, o.d = q := ⟨o.d.toNat, by omega⟩
    have hq1 : q < s.regs.length := by omega
    have hq2 : (q : Int) < s.regs.length := by omega
    have hq0 : (0 : Int) ≤ q := by omega
    rw [hq] at k1
    have HQ := Lib.hid (show o.d.toNat = q by omega)
    have g0 := regs_cell H2.out.1.tx.regs (q := q) hq1
    have g1 := H2.out.1.tx.regs.frozen q
    clear e1 hq hrl hdr
    go_upto_region 7 with fail
    go_still_tail 9, (by kernel_rfl)
    change wpList _ _ _ _ _ w2.drew
    go_wp2_with fail
    go_ret2
    refine ⟨by rw [HE.out]; rfl, ?_⟩
    rw [HE.out]
    have hF : Fr (fun i => i = r) w2 (w2.setCell ⟨r, q, none⟩ (.int .i64 o.n)) := (Fr.refl (fun i => i = r) w2).setCell (p := ⟨r, q, none⟩) rfl _
    have h1 := H2.out.1.regs hF (set_box H2.out.1.tx.regs o.n) (by simp)
    simp only []
    rw [HQ.out]
    exact ⟨_, _, _, _, h1.below (Below.refl _ _).drew⟩
  have b1 : (o.k == 1) = false := by simp [e1]
  by_cases e10 : o.k = 10
  · have b10 : (o.k == 10) = true := by simp [e10]
    have HE := Lib.hid (opS_go (p := p) (D := D) (t := t) (s := s) e10)
    clear e1 e10
    go_wp2_with fail
    go_ret2
    refine ⟨by rw [HE.out]; rfl, ?_⟩
    rw [HE.out]
    exact ⟨_, _, _, _, H2.out.1.boxX (s' := { s with pc := o.n }) ((Fr.refl (fun i => i = x) w2).setCell (p := ⟨x, 6, none⟩) rfl _) (Go.heap_setCell_same w2 x 6 _ _ _ H2.out.1.tx.box) rfl rfl rfl rfl⟩
  have b10 : (o.k == 10) = false := by simp [e10]
  by_cases e11 : o.k = 11
  · have b11 : (o.k == 11) = true := by simp [e11]
    have HE := Lib.hid (opS_if (p := p) (D := D) (t := t) (s := s) e11)
    have har := ho.a (.inr (.inl e11))
    obtain ⟨q, hq⟩ : ∃ q : Nat, o.a = q := ⟨o.a.toNat, by omega⟩
    have hq1 : q < s.regs.length := by omega
    have hq2 : (q : Int) < s.regs.length := by omega
    have hq0 : (0 : Int) ≤ q := by omega
    rw [hq] at k2
    have g0 := regs_cell H2.out.1.tx.regs (q := q) hq1
    simp only [] at g0
    have HG := Lib.hid (show rg s.regs o.a = s.regs[q] from by
      unfold rg
      rw [hq, List.getD_eq_getElem?_getD, Int.toNat_natCast, List.getElem?_eq_getElem hq1]; rfl)
    clear e1 e10 e11 hq hrl har
    generalize s.regs[q] = v at *
    by_cases hv : v = 0
    · have hv1 : (v != 0) = false := by simp [hv]
      have HV := Lib.hid hv
      clear hv
      go_upto_region 11 with fail
      go_quiet (fail)
      clear x0 x1 x3 x4 x5 x6 x7 x8 x9 k0 k1 k2 k3 k4 f6 g0
      go_wp2_with fail
      go_ret2
      refine ⟨by rw [HE.out]; rfl, ?_⟩
      rw [HE.out, HG.out]
      simp only []
      rw [if_pos HV.out]
      exact ⟨_, _, _, _, H2.out.1.below (below_drewN (Below.refl _ _) _)⟩
    · have hv1 : (v != 0) = true := by simpa using hv
      have HV := Lib.hid hv
      clear hv
      go_upto_region 11 with fail
      go_quiet (fail)
      have HB3 := Lib.hid (show FkW wk w0 Z W m pv dv0 l0 x r t aa ac dv iv wv nd ob o { s with pc := s.pc + 1 } (w2.drewN nq) from ⟨H2.out.1.below (below_drewN (Below.refl _ _) _), H2.out.2.below (below_drewN (Below.refl _ _) _)⟩)
      generalize w2.drewN nq = w3 at *
      clear x0 x1 x3 x4 x5 x6 x7 x8 x9 k0 k1 k2 k3 k4 f6 g0
      obtain ⟨x0, x1, x3, x4, x5, x6, x7, x8, x9⟩ := tx_cells HB3.out.1.tx
      obtain ⟨k0, k1, k2, k3, k4⟩ := op_cells HB3.out.2
      have f6 := HB3.out.1.tx.box.frozen 6
      go_wp2_with fail
      go_ret2
      refine ⟨by rw [HE.out]; rfl, ?_⟩
      rw [HE.out, HG.out]
      simp only []
      rw [if_neg HV.out]
      exact ⟨_, _, _, _, HB3.out.1.boxX (s' := { s with pc := o.n }) ((Fr.refl (fun i => i = x) w3).setCell (p := ⟨x, 6, none⟩) rfl _) (Go.heap_setCell_same w3 x 6 _ _ _ HB3.out.1.tx.box) rfl rfl rfl rfl⟩
  have b11 : (o.k == 11) = false := by simp [e11]
  by_cases e12 : o.k = 12
  · have b12 : (o.k == 12) = true := by simp [e12]
    have HE := Lib.hid (opS_fork (p := p) (D := D) (t := t) (s := s) e12)
    have HFK := Lib.hid (fork_any (o := o) H2.out.1 E.hp E.ht HI1.out hc ho e12 E.hpr E.hpl E.hdv E.hD E.hl0)
    clear e1 e10 e11 e12 f6
    go_wp2_with fail
    refine HFK.out.mono ?_
    rintro e w3 ⟨rfl, hrn⟩
    have HR := Lib.hid hrn
    clear hrn x0 x1 x3 x4 x5 x6 x7 x8 x9 k0 k1 k2 k3 k4
    go_wp2_with fail
    go_ret2
    refine ⟨by rw [HE.out]; rfl, ?_⟩
    rw [HE.out]
    exact HR.out
  have b12 : (o.k == 12) = false := by simp [e12]
  by_cases e13 : o.k = 13
  · have b13 : (o.k == 13) = true := by simp [e13]
    have HE := Lib.hid (opS_join (p := p) (D := D) (t := t) (s := s) e13)
    have HFK := Lib.hid (join_any H2.out.1 HI1.out)
    clear e1 e10 e11 e12 e13 f6
    go_wp2_with fail
    refine HFK.out.mono ?_
    rintro e w3 ⟨rfl, iv', wv', hrn⟩
    have HR := Lib.hid hrn
    clear hrn x0 x1 x3 x4 x5 x6 x7 x8 x9 k0 k1 k2 k3 k4
    go_wp2_with fail
    go_ret2
    refine ⟨by rw [HE.out]; rfl, ?_⟩
    rw [HE.out]
    exact ⟨_, _, _, _, HR.out⟩
  have b13 : (o.k == 13) = false := by simp [e13]
  by_cases e14 : o.k = 14
  · have b14 : (o.k == 14) = true := by simp [e14]
    have HE := Lib.hid (opS_ret (p := p) (D := D) (t := t) (s := s) e14)
    have HFK := Lib.hid (join_any H2.out.1 HI1.out)
    clear e1 e10 e11 e12 e13 e14 f6
    go_wp2_with fail
    refine HFK.out.mono ?_
    rintro e w3 ⟨rfl, iv', wv', hrn⟩
    have HR := Lib.hid hrn
    clear hrn x0 x1 x3 x4 x5 x6 x7 x8 x9 k0 k1 k2 k3 k4
    go_wp2_with fail
    go_ret2
    refine ⟨by rw [HE.out]; rfl, ?_⟩
    rw [HE.out]
    exact ⟨_, _, _, _, HR.out⟩
  have b14 : (o.k == 14) = false := by simp [e14]
  have hk1 := ho.k1
  have hk2 := ho.k2
  have hk3 : 2 ≤ o.k := by omega
  have hk9 : o.k ≤ 9 := by omega
  have hdr := ho.d (.inl (by omega))
  have har := ho.a (.inl ⟨hk3, hk9⟩)
  have hbr : o.b < (fnAt p t.fn).regs := by
    by_cases e2 : o.k = 2
    · have := ho.b2 e2; omega
    · exact ho.b ⟨by omega, hk9⟩
  obtain ⟨qd, hqd⟩ : ∃ q : Nat, o.d = q := ⟨o.d.toNat, by omega⟩
  obtain ⟨qa, hqa⟩ : ∃ q : Nat, o.a = q := ⟨o.a.toNat, by omega⟩
  obtain ⟨qb, hqb⟩ : ∃ q : Nat, o.b = q := ⟨o.b.toNat, by omega⟩
  have d1 : qd < s.regs.length := by omega
  have a1 : qa < s.regs.length := by omega
  have bb1 : qb < s.regs.length := by omega
  have d2 : (qd : Int) < s.regs.length := by omega
  have a2 : (qa : Int) < s.regs.length := by omega
  have bb2 : (qb : Int) < s.regs.length := by omega
  have d0 : (0 : Int) ≤ qd := by omega
  have a0 : (0 : Int) ≤ qa := by omega
  have bb0 : (0 : Int) ≤ qb := by omega
  rw [hqd] at k1
  rw [hqa] at k2
  rw [hqb] at k3
  have HRG := Lib.hid (show rg s.regs o.a = s.regs[qa] ∧ rg s.regs o.b = s.regs[qb] from ⟨by
      unfold rg
      rw [hqa, List.getD_eq_getElem?_getD, Int.toNat_natCast, List.getElem?_eq_getElem a1]; rfl, by
      unfold rg
      rw [hqb, List.getD_eq_getElem?_getD, Int.toNat_natCast, List.getElem?_eq_getElem bb1]; rfl⟩)
  have HQD := Lib.hid (show o.d.toNat = qd by omega)
  have ga := regs_cell H2.out.1.tx.regs (q := qa) a1
  have gb := regs_cell H2.out.1.tx.regs (q := qb) bb1
  have gd := regs_cell H2.out.1.tx.regs (q := qd) d1
  have fd := H2.out.1.tx.regs.frozen qd
  simp only [] at ga gb gd
  have HQS := Lib.hid (show o.d = qd ∧ o.a = qa ∧ o.b = qb from ⟨hqd, hqa, hqb⟩)
  clear hqd hqa hqb hrl hdr har hbr hd0 ha0 hb0 e1 e10 e11 e12 e13 e14
  have HVA := Lib.hid (show ∀ y, BoxAt y r (s.regs.map (Value.int .i64)).toArray I64T → y.cell? ⟨r, qa, none⟩ = some (.int .i64 s.regs[qa]) from fun y hy => regs_cell hy a1)
  have HVB := Lib.hid (show ∀ y, BoxAt y r (s.regs.map (Value.int .i64)).toArray I64T → y.cell? ⟨r, qb, none⟩ = some (.int .i64 s.regs[qb]) from fun y hy => regs_cell hy bb1)
  generalize s.regs[qa] = va at *
  generalize s.regs[qb] = vb at *
  by_cases hz : (o.k = 6 ∨ o.k = 7) ∧ vb = 0
  · have HE := Lib.hid (show opS p D t s o = (true, 131, { s with pc := s.pc + 1 }) from opS_zero hk3 hk9 (by rw [HRG.out.1, HRG.out.2]; exact calc_none hz))
    obtain ⟨h67, hv0⟩ := hz
    have hv1 : (vb == 0) = true := by simp [hv0]
    obtain ⟨c6, hc6⟩ : ∃ c, (o.k == 6) = c := ⟨_, rfl⟩
    have h77 : c6 = false → (o.k == 7) = true := fun h => by subst h; simp at hc6; simp; omega
    have HV := Lib.hid hv0
    clear hv0 h67
    cases c6
    · have b7 := h77 rfl
      clear h77
      go_upto_region 3 with fail
      go_quiet (fail)
      clear x0 x1 x3 x4 x5 x6 x7 x8 x9 k0 k1 k2 k3 k4 f6 ga gb gd fd
      go_wp2_with fail
      go_ret2
      refine ⟨by rw [HE.out]; rfl, ?_⟩
      rw [HE.out]
      exact ⟨_, _, _, _, H2.out.1.below (below_drewN (Below.refl _ _) _)⟩
    · clear h77
      go_upto_region 3 with fail
      go_quiet (fail)
      clear x0 x1 x3 x4 x5 x6 x7 x8 x9 k0 k1 k2 k3 k4 f6 ga gb gd fd
      go_wp2_with fail
      go_ret2
      refine ⟨by rw [HE.out]; rfl, ?_⟩
      rw [HE.out]
      exact ⟨_, _, _, _, H2.out.1.below (below_drewN (Below.refl _ _) _)⟩
  obtain ⟨v, hv⟩ := calc_some hz
  have HE := Lib.hid (show opS p D t s o = (false, 0, { s with pc := s.pc + 1, regs := s.regs.set o.d.toNat v }) from opS_calc hk3 hk9 (by rw [HRG.out.1, HRG.out.2]; exact hv))
  have HV := Lib.hid hv
  have HZ := Lib.hid hz
  clear hv hz
  go_upto_region 3 with fail
  go_cut [33] (fun t33 wc => t33 = .bool false ∧ FkW wk w0 Z W m pv dv0 l0 x r t aa ac dv iv wv nd ob o { s with pc := s.pc + 1 } wc)
  case first =>
    cases h6 : (o.k == 6)
    · cases h7 : (o.k == 7)
      · go_quiet (fail)
        go_wp2_with fail
        go_meet
        exact ⟨rfl, H2.out.1.below (below_drewN (Below.refl _ _) _), H2.out.2.below (below_drewN (Below.refl _ _) _)⟩
      · have hv1 : (vb == 0) = false := by
          have h2 := HZ.out
          simp only [beq_iff_eq] at h7
          simp only [beq_eq_false_iff_ne]
          exact fun e => h2 ⟨.inr h7, e⟩
        go_quiet (fail)
        go_wp2_with fail
        go_meet
        exact ⟨rfl, H2.out.1.below (below_drewN (Below.refl _ _) _), H2.out.2.below (below_drewN (Below.refl _ _) _)⟩
    · have hv1 : (vb == 0) = false := by
        have h2 := HZ.out
        simp only [beq_iff_eq] at h6
        simp only [beq_eq_false_iff_ne]
        exact fun e => h2 ⟨.inl h6, e⟩
      go_quiet (fail)
      go_wp2_with fail
      go_meet
      exact ⟨rfl, H2.out.1.below (below_drewN (Below.refl _ _) _), H2.out.2.below (below_drewN (Below.refl _ _) _)⟩
  case rest =>
    obtain ⟨rfl, h3⟩ := hcut
    have H3 := Lib.hid h3
    clear h3 x0 x1 x3 x4 x5 x6 x7 x8 x9 k0 k1 k2 k3 k4 f6 ga gb gd fd H2
    obtain ⟨F, hF, _⟩ := calL_get hk3 hk9
    have HFF := Lib.hid hF
    have HGA := Lib.hid (show ∀ y, FkW wk w0 Z W m pv dv0 l0 x r t aa ac dv iv wv nd ob o { s with pc := s.pc + 1 } y → y.cell? ⟨r, qa, none⟩ = some (.int .i64 va) ∧ y.cell? ⟨r, qb, none⟩ = some (.int .i64 vb) from fun y hy => ⟨HVA.out y hy.1.tx.regs, HVB.out y hy.1.tx.regs⟩)
    clear hF
    have H3D := Lib.hid (show FkW wk w0 Z W m pv dv0 l0 x r t aa ac dv iv wv nd ob o { s with pc := s.pc + 1 } wc.drew from ⟨H3.out.1.below ((Below.refl _ _).drew), H3.out.2.below ((Below.refl _ _).drew)⟩)
    go_upto_region 5 with fail
    refine wp_region_held_drew (S := fun y => BoxAt y x (txC t (.slice aa t.args.length ac) W r { s with pc := s.pc + 1 } iv wv) TxT ∧ BoxAt y ob (opC o) OpT ∧ BoxAt y W #[pv, .map (some m), dv] WorldT ∧ B.MapL evC y m calL) (by kernel_rfl) (S5_of H3D.out) (fun hHeld => ?_)
    refine wpAnyH_take (i := 0) (oi := _) (v := ?_) (by rw [List.getElem?_toArray]; exact rfl) (by kernel_rfl) (by kernel_rfl) (by kernel_rfl) (by exact fun _ _ _ h => h) (Or.inl ⟨by rfl, ?_⟩) hHeld ?_
    rotate_left
    · (intro wX hSw; clear hSw; go_simp; try with_reducible rfl)
    try simp only [Act.put, List.setIfInBounds_toArray, List.set_cons_zero, List.set_cons_succ]
    refine wpAnyH_take (i := 1) (oi := _) (v := ?_) (by rw [List.getElem?_toArray]; exact rfl) (by kernel_rfl) (by kernel_rfl) (by kernel_rfl) (by exact fun _ _ _ h => h) (Or.inl ⟨by rfl, ?_⟩) hHeld ?_
    rotate_left
    · (intro wX hSw; clear hSw; go_simp; try with_reducible rfl)
    try simp only [Act.put, List.setIfInBounds_toArray, List.set_cons_zero, List.set_cons_succ]
    refine wpAnyH_take (i := 2) (oi := _) (v := ?_) (by rw [List.getElem?_toArray]; exact rfl) (by kernel_rfl) (by kernel_rfl) (by kernel_rfl) (by exact fun _ _ _ h => h) (Or.inl ⟨by rfl, ?_⟩) hHeld ?_
    rotate_left
    · (intro wX hSw; clear hSw; go_simp; try with_reducible rfl)
    try simp only [Act.put, List.setIfInBounds_toArray, List.set_cons_zero, List.set_cons_succ]
    refine wpAnyH_take (i := 3) (oi := _) (v := ?_) (by rw [List.getElem?_toArray]; exact rfl) (by kernel_rfl) (by kernel_rfl) (by kernel_rfl) (by exact fun _ _ _ h => h) (Or.inl ⟨by rfl, ?_⟩) hHeld ?_
    rotate_left
    · (intro wX hSw; have z5 := hSw.1.cell 5; simp only [txC, List.getElem?_toArray, List.getElem?_cons_zero, List.getElem?_cons_succ] at z5; clear hSw; go_simp; try with_reducible rfl)
    try simp only [Act.put, List.setIfInBounds_toArray, List.set_cons_zero, List.set_cons_succ]
    refine wpAnyH_take (i := 4) (oi := _) (v := ?_) (by rw [List.getElem?_toArray]; exact rfl) (by kernel_rfl) (by kernel_rfl) (by kernel_rfl) (by exact fun _ _ _ h => h) (Or.inl ⟨by rfl, ?_⟩) hHeld ?_
    rotate_left
    · (intro wX hSw; clear hSw; go_simp; try with_reducible rfl)
    try simp only [Act.put, List.setIfInBounds_toArray, List.set_cons_zero, List.set_cons_succ]
    refine wpAnyH_take (i := 5) (oi := _) (v := ?_) (by rw [List.getElem?_toArray]; exact rfl) (by kernel_rfl) (by kernel_rfl) (by kernel_rfl) (by exact fun _ _ _ h => h) (Or.inl ⟨by rfl, ?_⟩) hHeld ?_
    rotate_left
    · (intro wX hSw; have z1 := (op_cells hSw.2.1).2.1; rw [HQS.out.1] at z1; clear hSw; go_simp; try with_reducible rfl)
    try simp only [Act.put, List.setIfInBounds_toArray, List.set_cons_zero, List.set_cons_succ]
    refine wpAnyH_take (i := 6) (oi := _) (v := ?_) (by rw [List.getElem?_toArray]; exact rfl) (by kernel_rfl) (by kernel_rfl) (by kernel_rfl) (by exact fun _ _ _ h => h) (Or.inl ⟨by rfl, ?_⟩) hHeld ?_
    rotate_left
    · (intro wX hSw; clear hSw; go_simp; try with_reducible rfl)
    try simp only [Act.put, List.setIfInBounds_toArray, List.set_cons_zero, List.set_cons_succ]
    refine wpAnyH_take (i := 7) (oi := _) (v := ?_) (by rw [List.getElem?_toArray]; exact rfl) (by kernel_rfl) (by kernel_rfl) (by kernel_rfl) (by exact fun _ _ _ h => h) (Or.inl ⟨by rfl, ?_⟩) hHeld ?_
    rotate_left
    · (intro wX hSw; clear hSw; go_simp; try with_reducible rfl)
    try simp only [Act.put, List.setIfInBounds_toArray, List.set_cons_zero, List.set_cons_succ]
    refine wpAnyH_take (i := 8) (oi := _) (v := ?_) (by rw [List.getElem?_toArray]; exact rfl) (by kernel_rfl) (by kernel_rfl) (by kernel_rfl) (by exact fun _ _ _ h => h) (Or.inl ⟨by rfl, ?_⟩) hHeld ?_
    rotate_left
    · (intro wX hSw; clear hSw; go_simp; try with_reducible rfl)
    try simp only [Act.put, List.setIfInBounds_toArray, List.set_cons_zero, List.set_cons_succ]
    refine wpAnyH_take (i := 9) (oi := _) (v := ?_) (by rw [List.getElem?_toArray]; exact rfl) (by kernel_rfl) (by kernel_rfl) (by kernel_rfl) (by exact fun _ _ _ h => h) (Or.inl ⟨by rfl, ?_⟩) hHeld ?_
    rotate_left
    · (intro wX hSw; have z4 := hSw.1.cell 4; simp only [txC, List.getElem?_toArray, List.getElem?_cons_zero, List.getElem?_cons_succ] at z4; clear hSw; go_simp; try with_reducible rfl)
    try simp only [Act.put, List.setIfInBounds_toArray, List.set_cons_zero, List.set_cons_succ]
    refine wpAnyH_take (i := 10) (oi := _) (v := ?_) (by rw [List.getElem?_toArray]; exact rfl) (by kernel_rfl) (by kernel_rfl) (by kernel_rfl) (by exact fun _ _ _ h => h) (Or.inl ⟨by rfl, ?_⟩) hHeld ?_
    rotate_left
    · (intro wX hSw; clear hSw; go_simp; try with_reducible rfl)
    try simp only [Act.put, List.setIfInBounds_toArray, List.set_cons_zero, List.set_cons_succ]
    refine wpAnyH_take (i := 11) (oi := _) (v := ?_) (by rw [List.getElem?_toArray]; exact rfl) (by kernel_rfl) (by kernel_rfl) (by kernel_rfl) (by exact fun _ _ _ h => h) (Or.inl ⟨by rfl, ?_⟩) hHeld ?_
    rotate_left
    · (intro wX hSw; clear hSw; go_simp; try with_reducible rfl)
    try simp only [Act.put, List.setIfInBounds_toArray, List.set_cons_zero, List.set_cons_succ]
    refine wpAnyH_take (i := 12) (oi := _) (v := ?_) (by rw [List.getElem?_toArray]; exact rfl) (by kernel_rfl) (by kernel_rfl) (by kernel_rfl) (by exact fun _ _ _ h => h) (Or.inl ⟨by rfl, ?_⟩) hHeld ?_
    rotate_left
    · (intro wX hSw; have z1 := hSw.2.2.1.cell 1; simp only [List.getElem?_toArray, List.getElem?_cons_zero, List.getElem?_cons_succ] at z1; clear hSw; go_simp; try with_reducible rfl)
    try simp only [Act.put, List.setIfInBounds_toArray, List.set_cons_zero, List.set_cons_succ]
    refine wpAnyH_take (i := 13) (oi := _) (v := ?_) (by rw [List.getElem?_toArray]; exact rfl) (by kernel_rfl) (by kernel_rfl) (by kernel_rfl) (by exact fun _ _ _ h => h) (Or.inl ⟨by rfl, ?_⟩) hHeld ?_
    rotate_left
    · (intro wX hSw; clear hSw; go_simp; try with_reducible rfl)
    try simp only [Act.put, List.setIfInBounds_toArray, List.set_cons_zero, List.set_cons_succ]
    refine wpAnyH_take (i := 14) (oi := _) (v := ?_) (by rw [List.getElem?_toArray]; exact rfl) (by kernel_rfl) (by kernel_rfl) (by kernel_rfl) (by exact fun _ _ _ h => h) (Or.inl ⟨by rfl, ?_⟩) hHeld ?_
    rotate_left
    · (intro wX hSw; have z0 := (op_cells hSw.2.1).1; clear hSw; go_simp; try with_reducible rfl)
    try simp only [Act.put, List.setIfInBounds_toArray, List.set_cons_zero, List.set_cons_succ]
    refine wpAnyH_take (i := 15) (oi := _) (v := ?_) (by rw [List.getElem?_toArray]; exact rfl) (by kernel_rfl) (by kernel_rfl) (by kernel_rfl) (by exact fun _ _ _ h => h) (Or.inl ⟨by rfl, ?_⟩) hHeld ?_
    rotate_left
    · (intro wX hSw; have hlk := cal_look hSw.2.2.2 HFF.out; clear hSw; go_simp; try with_reducible rfl)
    try simp only [Act.put, List.setIfInBounds_toArray, List.set_cons_zero, List.set_cons_succ]
    refine wpAnyH_take (i := 16) (oi := _) (v := ?_) (by rw [List.getElem?_toArray]; exact rfl) (by kernel_rfl) (by kernel_rfl) (by kernel_rfl) (by exact fun _ _ _ h => h) (Or.inl ⟨by rfl, ?_⟩) hHeld ?_
    rotate_left
    · (intro wX hSw; clear hSw; go_simp; try with_reducible rfl)
    try simp only [Act.put, List.setIfInBounds_toArray, List.set_cons_zero, List.set_cons_succ]
    refine wpAnyH_take (i := 17) (oi := _) (v := ?_) (by rw [List.getElem?_toArray]; exact rfl) (by kernel_rfl) (by kernel_rfl) (by kernel_rfl) (by exact fun _ _ _ h => h) (Or.inl ⟨by rfl, ?_⟩) hHeld ?_
    rotate_left
    · (intro wX hSw; clear hSw; go_simp; try with_reducible rfl)
    try simp only [Act.put, List.setIfInBounds_toArray, List.set_cons_zero, List.set_cons_succ]
    refine wpAnyH_take (i := 18) (oi := _) (v := ?_) (by rw [List.getElem?_toArray]; exact rfl) (by kernel_rfl) (by kernel_rfl) (by kernel_rfl) (by exact fun _ _ _ h => h) (Or.inl ⟨by rfl, ?_⟩) hHeld ?_
    rotate_left
    · (intro wX hSw; clear hSw; go_simp; try with_reducible rfl)
    try simp only [Act.put, List.setIfInBounds_toArray, List.set_cons_zero, List.set_cons_succ]
    refine wpAnyH_take (i := 19) (oi := _) (v := ?_) (by rw [List.getElem?_toArray]; exact rfl) (by kernel_rfl) (by kernel_rfl) (by kernel_rfl) (by exact fun _ _ _ h => h) (Or.inl ⟨by rfl, ?_⟩) hHeld ?_
    rotate_left
    · (intro wX hSw; have z5 := hSw.1.cell 5; simp only [txC, List.getElem?_toArray, List.getElem?_cons_zero, List.getElem?_cons_succ] at z5; clear hSw; go_simp; try with_reducible rfl)
    try simp only [Act.put, List.setIfInBounds_toArray, List.set_cons_zero, List.set_cons_succ]
    refine wpAnyH_take (i := 20) (oi := _) (v := ?_) (by rw [List.getElem?_toArray]; exact rfl) (by kernel_rfl) (by kernel_rfl) (by kernel_rfl) (by exact fun _ _ _ h => h) (Or.inl ⟨by rfl, ?_⟩) hHeld ?_
    rotate_left
    · (intro wX hSw; clear hSw; go_simp; try with_reducible rfl)
    try simp only [Act.put, List.setIfInBounds_toArray, List.set_cons_zero, List.set_cons_succ]
    refine wpAnyH_take (i := 21) (oi := _) (v := ?_) (by rw [List.getElem?_toArray]; exact rfl) (by kernel_rfl) (by kernel_rfl) (by kernel_rfl) (by exact fun _ _ _ h => h) (Or.inl ⟨by rfl, ?_⟩) hHeld ?_
    rotate_left
    · (intro wX hSw; have z2 := (op_cells hSw.2.1).2.2.1; rw [HQS.out.2.1] at z2; clear hSw; go_simp; try with_reducible rfl)
    try simp only [Act.put, List.setIfInBounds_toArray, List.set_cons_zero, List.set_cons_succ]
    refine wpAnyH_take (i := 22) (oi := _) (v := ?_) (by rw [List.getElem?_toArray]; exact rfl) (by kernel_rfl) (by kernel_rfl) (by kernel_rfl) (by exact fun _ _ _ h => h) (Or.inl ⟨by rfl, ?_⟩) hHeld ?_
    rotate_left
    · (intro wX hSw; clear hSw; go_simp; try with_reducible rfl)
    try simp only [Act.put, List.setIfInBounds_toArray, List.set_cons_zero, List.set_cons_succ]
    refine wpAnyH_take (i := 24) (oi := _) (v := ?_) (by rw [List.getElem?_toArray]; exact rfl) (by kernel_rfl) (by kernel_rfl) (by kernel_rfl) (by exact fun _ _ _ h => h) (Or.inl ⟨by rfl, ?_⟩) hHeld ?_
    rotate_left
    · (intro wX hSw; clear hSw; go_simp; try with_reducible rfl)
    try simp only [Act.put, List.setIfInBounds_toArray, List.set_cons_zero, List.set_cons_succ]
    refine wpAnyH_take (i := 25) (oi := _) (v := ?_) (by rw [List.getElem?_toArray]; exact rfl) (by kernel_rfl) (by kernel_rfl) (by kernel_rfl) (by exact fun _ _ _ h => h) (Or.inl ⟨by rfl, ?_⟩) hHeld ?_
    rotate_left
    · (intro wX hSw; clear hSw; go_simp; try with_reducible rfl)
    try simp only [Act.put, List.setIfInBounds_toArray, List.set_cons_zero, List.set_cons_succ]
    refine wpAnyH_take (i := 26) (oi := _) (v := ?_) (by rw [List.getElem?_toArray]; exact rfl) (by kernel_rfl) (by kernel_rfl) (by kernel_rfl) (by exact fun _ _ _ h => h) (Or.inl ⟨by rfl, ?_⟩) hHeld ?_
    rotate_left
    · (intro wX hSw; clear hSw; go_simp; try with_reducible rfl)
    try simp only [Act.put, List.setIfInBounds_toArray, List.set_cons_zero, List.set_cons_succ]
    refine wpAnyH_take (i := 27) (oi := _) (v := ?_) (by rw [List.getElem?_toArray]; exact rfl) (by kernel_rfl) (by kernel_rfl) (by kernel_rfl) (by exact fun _ _ _ h => h) (Or.inl ⟨by rfl, ?_⟩) hHeld ?_
    rotate_left
    · (intro wX hSw; have z5 := hSw.1.cell 5; simp only [txC, List.getElem?_toArray, List.getElem?_cons_zero, List.getElem?_cons_succ] at z5; clear hSw; go_simp; try with_reducible rfl)
    try simp only [Act.put, List.setIfInBounds_toArray, List.set_cons_zero, List.set_cons_succ]
    refine wpAnyH_take (i := 28) (oi := _) (v := ?_) (by rw [List.getElem?_toArray]; exact rfl) (by kernel_rfl) (by kernel_rfl) (by kernel_rfl) (by exact fun _ _ _ h => h) (Or.inl ⟨by rfl, ?_⟩) hHeld ?_
    rotate_left
    · (intro wX hSw; clear hSw; go_simp; try with_reducible rfl)
    try simp only [Act.put, List.setIfInBounds_toArray, List.set_cons_zero, List.set_cons_succ]
    refine wpAnyH_take (i := 29) (oi := _) (v := ?_) (by rw [List.getElem?_toArray]; exact rfl) (by kernel_rfl) (by kernel_rfl) (by kernel_rfl) (by exact fun _ _ _ h => h) (Or.inl ⟨by rfl, ?_⟩) hHeld ?_
    rotate_left
    · (intro wX hSw; have z3 := (op_cells hSw.2.1).2.2.2.1; rw [HQS.out.2.2] at z3; clear hSw; go_simp; try with_reducible rfl)
    try simp only [Act.put, List.setIfInBounds_toArray, List.set_cons_zero, List.set_cons_succ]
    refine wpAnyH_take (i := 30) (oi := _) (v := ?_) (by rw [List.getElem?_toArray]; exact rfl) (by kernel_rfl) (by kernel_rfl) (by kernel_rfl) (by exact fun _ _ _ h => h) (Or.inl ⟨by rfl, ?_⟩) hHeld ?_
    rotate_left
    · (intro wX hSw; clear hSw; go_simp; try with_reducible rfl)
    try simp only [Act.put, List.setIfInBounds_toArray, List.set_cons_zero, List.set_cons_succ]
    refine wpAnyH_ready (rs := [23, 31]) (by kernel_rfl) (by simp) ?_
    refine AllReadyH.cons (o := _) (by rw [List.getElem?_toArray]; exact rfl) (fun K hK => ?_) ?_
    · have z2 := (HGA.out _ H3D.out).1
      go_simp
      refine hK.out _ _ (hHeld) (fun hHeld => ?_)
      clear hK K
      try simp only [Act.put, List.setIfInBounds_toArray, List.set_cons_zero, List.set_cons_succ]
      refine wpAnyH_ready (rs := [31]) (by kernel_rfl) (by simp) ?_
      refine AllReadyH.cons (o := _) (by rw [List.getElem?_toArray]; exact rfl) (fun K hK => ?_) ?_
      · have z3 := (HGA.out _ H3D.out).2
        go_simp
        refine hK.out _ _ (hHeld) (fun hHeld => ?_)
        clear hK K
        try simp only [Act.put, List.setIfInBounds_toArray, List.set_cons_zero, List.set_cons_succ]
        refine wpAnyH_ready (rs := [32]) (by kernel_rfl) (by simp) ?_
        refine AllReadyH.cons (o := _) (by rw [List.getElem?_toArray]; exact rfl) (fun K hK => ?_) ?_
        · go_simp
          refine upon_calc HFF.out hk3 hk9 HV.out ?_
          refine hK.out _ _ (hHeld) (fun hHeld => ?_)
          clear hK K
          try simp only [Act.put, List.setIfInBounds_toArray, List.set_cons_zero, List.set_cons_succ]
          refine wpAnyH_take (i := 33) (oi := _) (v := ?_) (by rw [List.getElem?_toArray]; exact rfl) (by kernel_rfl) (by kernel_rfl) (by kernel_rfl) (by exact fun _ _ _ h => h) (Or.inl ⟨by rfl, ?_⟩) hHeld ?_
          rotate_left
          · (intro wX hSw; clear hSw; go_simp; try with_reducible rfl)
          try simp only [Act.put, List.setIfInBounds_toArray, List.set_cons_zero, List.set_cons_succ]
          refine wpAnyH_ready (rs := [34]) (by kernel_rfl) (by simp) ?_
          refine AllReadyH.cons (o := _) (by rw [List.getElem?_toArray]; exact rfl) (fun K hK => ?_) ?_
          · have HN := Lib.hid (show FkW wk w0 Z W m pv dv0 l0 x r t aa ac dv iv wv nd ob o { s with pc := s.pc + 1, regs := s.regs.set qd v } (wc.drew.setCell ⟨r, qd, none⟩ (.int .i64 v)) from by
              have hF : Fr (fun i => i = r) wc.drew (wc.drew.setCell ⟨r, qd, none⟩ (.int .i64 v)) := (Fr.refl (fun i => i = r) wc.drew).setCell (p := ⟨r, qd, none⟩) rfl _
              exact ⟨H3D.out.1.regs hF (set_box H3D.out.1.tx.regs v) (by simp), box_typed H3D.out.2 hF (typed_box H3D.out.1.tx.regs) (by decide)⟩)
            have gd := regs_cell H3D.out.1.tx.regs (q := qd) d1
            have fd := H3D.out.1.tx.regs.frozen qd
            simp only [] at gd
            go_simp
            refine hK.out _ _ (S5_set HN.out rfl) (fun hHeld => ?_)
            clear hK K
            try simp only [Act.put, List.setIfInBounds_toArray, List.set_cons_zero, List.set_cons_succ]
            refine wpAnyH_done (by kernel_rfl) ?_ _
            clear hHeld
            go_wp2_with fail
            go_ret2
            refine ⟨by rw [HE.out]; rfl, ?_⟩
            rw [HE.out, HQD.out]
            exact ⟨_, _, _, _, HN.out.1⟩
          exact AllReadyH.nil
        exact AllReadyH.nil
      exact AllReadyH.nil
    refine AllReadyH.cons (o := _) (by rw [List.getElem?_toArray]; exact rfl) (fun K hK => ?_) ?_
    · have z3 := (HGA.out _ H3D.out).2
      go_simp
      refine hK.out _ _ (hHeld) (fun hHeld => ?_)
      clear hK K
      try simp only [Act.put, List.setIfInBounds_toArray, List.set_cons_zero, List.set_cons_succ]
      refine wpAnyH_ready (rs := [23]) (by kernel_rfl) (by simp) ?_
      refine AllReadyH.cons (o := _) (by rw [List.getElem?_toArray]; exact rfl) (fun K hK => ?_) ?_
      · have z2 := (HGA.out _ H3D.out).1
        go_simp
        refine hK.out _ _ (hHeld) (fun hHeld => ?_)
        clear hK K
        try simp only [Act.put, List.setIfInBounds_toArray, List.set_cons_zero, List.set_cons_succ]
        refine wpAnyH_ready (rs := [32]) (by kernel_rfl) (by simp) ?_
        refine AllReadyH.cons (o := _) (by rw [List.getElem?_toArray]; exact rfl) (fun K hK => ?_) ?_
        · go_simp
          refine upon_calc HFF.out hk3 hk9 HV.out ?_
          refine hK.out _ _ (hHeld) (fun hHeld => ?_)
          clear hK K
          try simp only [Act.put, List.setIfInBounds_toArray, List.set_cons_zero, List.set_cons_succ]
          refine wpAnyH_take (i := 33) (oi := _) (v := ?_) (by rw [List.getElem?_toArray]; exact rfl) (by kernel_rfl) (by kernel_rfl) (by kernel_rfl) (by exact fun _ _ _ h => h) (Or.inl ⟨by rfl, ?_⟩) hHeld ?_
          rotate_left
          · (intro wX hSw; clear hSw; go_simp; try with_reducible rfl)
          try simp only [Act.put, List.setIfInBounds_toArray, List.set_cons_zero, List.set_cons_succ]
          refine wpAnyH_ready (rs := [34]) (by kernel_rfl) (by simp) ?_
          refine AllReadyH.cons (o := _) (by rw [List.getElem?_toArray]; exact rfl) (fun K hK => ?_) ?_
          · have HN := Lib.hid (show FkW wk w0 Z W m pv dv0 l0 x r t aa ac dv iv wv nd ob o { s with pc := s.pc + 1, regs := s.regs.set qd v } (wc.drew.setCell ⟨r, qd, none⟩ (.int .i64 v)) from by
              have hF : Fr (fun i => i = r) wc.drew (wc.drew.setCell ⟨r, qd, none⟩ (.int .i64 v)) := (Fr.refl (fun i => i = r) wc.drew).setCell (p := ⟨r, qd, none⟩) rfl _
              exact ⟨H3D.out.1.regs hF (set_box H3D.out.1.tx.regs v) (by simp), box_typed H3D.out.2 hF (typed_box H3D.out.1.tx.regs) (by decide)⟩)
            have gd := regs_cell H3D.out.1.tx.regs (q := qd) d1
            have fd := H3D.out.1.tx.regs.frozen qd
            simp only [] at gd
            go_simp
            refine hK.out _ _ (S5_set HN.out rfl) (fun hHeld => ?_)
            clear hK K
            try simp only [Act.put, List.setIfInBounds_toArray, List.set_cons_zero, List.set_cons_succ]
            refine wpAnyH_done (by kernel_rfl) ?_ _
            clear hHeld
            go_wp2_with fail
            go_ret2
            refine ⟨by rw [HE.out]; rfl, ?_⟩
            rw [HE.out, HQD.out]
            exact ⟨_, _, _, _, HN.out.1⟩
          exact AllReadyH.nil
        exact AllReadyH.nil
      exact AllReadyH.nil
    exact AllReadyH.nil
end Go.Proofs.YtdhbjejejeljoaaGreat
