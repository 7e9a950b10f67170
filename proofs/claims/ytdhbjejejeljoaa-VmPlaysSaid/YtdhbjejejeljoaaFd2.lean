/- The document's frame: ends. -/
import Derived.Test.YtdhbjejejeljoaaEv28
import Derived.Test.YtdhbjejejeljoaaVm14
import Derived.Test.YtdhbjejejeljoaaVm12
namespace Go.Proofs.Ytdhbjejejeljoaa
open Go.RowKit Go.Sort Go.Lib

abbrev DFrT : TypeId := 58
abbrev BoolT : TypeId := 4
def encB (c : Ch) : List Value := [.bool c.given]
def encC (c : Ch) : List Value := encRs c.r
def zRs : Rs := ⟨0, 0⟩
abbrev fdC (q : Nat) (gv cv : Value) (wt : Option Opr) (wo : Opr) (res : Option Rs) : Array Value :=
  #[.pointer (some ⟨q, 0, none⟩), gv, cv, .bool wt.isSome, .int .u8 wo.k, .int .i64 wo.d, .int .i64 wo.a, .int .i64 wo.b, .int .i64 wo.n, .bool res.isSome, .int .i64 (res.getD zRs).v, .int .i64 (res.getD zRs).e]
def stV (s : Vs) (f : Nat) : St := { regs := s.regs, pc := s.pc, left := s.left, kids := s.kids.length, into := (s.kids.map (·.into)).drop f, waits := (s.kids.drop f).map (·.r), done := [] }
/-- The document's frame in block b, its task in block q, its registers in block r; all from block Z on. -/
structure Fd (Z b q r : Nat) (pv : Value) (t : Tk) (av gv cv iv : Value) (s : Vs) (w : World) : Prop where
  box : ∃ wo, BoxAt w b (fdC q gv cv s.waits wo s.result) DFrT ∧ ∀ o, s.waits = some o → wo = o
  run : ∃ f, Ru w Z q r pv t av f iv (.slice none 0 0) (s.kids.map (·.into)) [] (stV s f) w ∧ (s.result = none → f = s.joined)
  gvn : w.ownsRow Z BoolT 1 gv s.kids.length (s.kids.flatMap encB)
  cam : w.ownsRow Z ResT 2 cv s.kids.length (s.kids.flatMap encC)
  zb : Z ≤ b
  dn : ∀ c ∈ s.kids.take s.joined, c.given = true
  lf : s.left ≤ t.fuel
/-- Its blocks. -/
def FdS (b q r : Nat) (gv cv iv : Value) : Nat → Prop := fun i => i = b ∨ i = q ∨ i = r ∨ gv.ownBlock = some i ∨ cv.ownBlock = some i ∨ iv.ownBlock = some i
theorem Ru.rebase {w0 : World} {Z q r : Nat} {pv : Value} {t : Tk} {av : Value} {f : Nat} {iv dv : Value} {I : List Int} {nd : List DnA} {s : St} {w : World} (h : Ru w0 Z q r pv t av f iv dv I nd s w) : Ru w Z q r pv t av f iv dv I nd s w :=
  ⟨h.box, h.regs, h.into, h.done, h.da, h.sep, h.dn, Below.refl _ _, h.zq, h.ik, h.ifr⟩
section
variable {Z b q r : Nat} {pv : Value} {t : Tk} {av gv cv iv : Value} {s s' : Vs} {w w' : World}
theorem Fd.z (h : Fd Z b q r pv t av gv cv iv s w) : Z ≤ w.heap.size := by
  obtain ⟨wo, hb, _⟩ := h.box
  have := (Array.getElem?_eq_some_iff.1 hb).1
  have := h.zb
  omega
theorem Fd.below (h : Fd Z b q r pv t av gv cv iv s w) (hB : Below w.heap.size w w') : Fd Z b q r pv t av gv cv iv s w' := by
  obtain ⟨wo, hb, hw⟩ := h.box
  obtain ⟨f, hr, hf⟩ := h.run
  exact ⟨⟨wo, hb.below hB, hw⟩, ⟨f, (hr.below hB).rebase, hf⟩, own_below h.gvn hB, own_below h.cam hB, h.zb, h.dn, h.lf⟩
/-- The frame's own struct turns. -/
theorem Fd.boxX {wo : Opr} (h : Fd Z b q r pv t av gv cv iv s w) (hF : Fr (fun i => i = b) w w') (hb : BoxAt w' b (fdC q gv cv s'.waits wo s'.result) DFrT) (hwo : ∀ o, s'.waits = some o → wo = o)
    (e1 : s'.regs = s.regs) (e2 : s'.left = s.left) (e3 : s'.pc = s.pc) (e4 : s'.kids = s.kids) (e5 : s'.joined = s.joined) (e6 : s'.result = none → s.result = none) : Fd Z b q r pv t av gv cv iv s' w' := by
  obtain ⟨wo0, hb0, _⟩ := h.box
  obtain ⟨f, hr, hf⟩ := h.run
  have hT := typed_box hb0
  have hst : stV s' f = stV s f := by unfold stV; rw [e1, e2, e3, e4]
  refine ⟨⟨wo, hb, hwo⟩, ⟨f, ?_, fun he => by rw [e5]; exact hf (e6 he)⟩, ?_, ?_, h.zb, ?_, by rw [e2]; exact h.lf⟩
  · rw [hst, e4]
    exact (hr.other hF hT (fun i hi => by subst hi; exact h.zb) (by decide) (by decide) (by decide) (by decide)).rebase
  · rw [e4]; exact own_typed h.gvn hF hT (by decide)
  · rw [e4]; exact own_typed h.cam hF hT (by decide)
  · rw [e4, e5]; exact h.dn
theorem fd_cells {wt : Option Opr} {wo : Opr} {res : Option Rs} (h : BoxAt w b (fdC q gv cv wt wo res) DFrT) :
    w.cell? ⟨b, 0, none⟩ = some (.pointer (some ⟨q, 0, none⟩)) ∧ w.cell? ⟨b, 1, none⟩ = some gv ∧ w.cell? ⟨b, 2, none⟩ = some cv ∧ w.cell? ⟨b, 3, none⟩ = some (.bool wt.isSome) ∧ w.cell? ⟨b, 4, none⟩ = some (.int .u8 wo.k) ∧ w.cell? ⟨b, 5, none⟩ = some (.int .i64 wo.d) ∧ w.cell? ⟨b, 6, none⟩ = some (.int .i64 wo.a) ∧ w.cell? ⟨b, 7, none⟩ = some (.int .i64 wo.b) ∧ w.cell? ⟨b, 8, none⟩ = some (.int .i64 wo.n) ∧ w.cell? ⟨b, 9, none⟩ = some (.bool res.isSome) ∧ w.cell? ⟨b, 10, none⟩ = some (.int .i64 (res.getD zRs).v) ∧ w.cell? ⟨b, 11, none⟩ = some (.int .i64 (res.getD zRs).e) :=
  ⟨h.cell 0, h.cell 1, h.cell 2, h.cell 3, h.cell 4, h.cell 5, h.cell 6, h.cell 7, h.cell 8, h.cell 9, h.cell 10, h.cell 11⟩
end
/-- It is over: cells 9 to 11. -/
theorem Fd.over {Z b q r : Nat} {pv : Value} {t : Tk} {av gv cv iv : Value} {s : Vs} {w : World} (h : Fd Z b q r pv t av gv cv iv s w) (z : Rs) :
    Fd Z b q r pv t av gv cv iv { s with result := some z } (((w.setCell ⟨b, 9, none⟩ (.bool true)).setCell ⟨b, 10, none⟩ (.int .i64 z.v)).setCell ⟨b, 11, none⟩ (.int .i64 z.e)) ∧ Fr (fun i => i = b) w (((w.setCell ⟨b, 9, none⟩ (.bool true)).setCell ⟨b, 10, none⟩ (.int .i64 z.v)).setCell ⟨b, 11, none⟩ (.int .i64 z.e)) := by
  have hF : Fr (fun i => i = b) w (((w.setCell ⟨b, 9, none⟩ (.bool true)).setCell ⟨b, 10, none⟩ (.int .i64 z.v)).setCell ⟨b, 11, none⟩ (.int .i64 z.e)) :=
    (((Fr.refl (fun i => i = b) w).setCell (p := ⟨b, 9, none⟩) rfl _).setCell (p := ⟨b, 10, none⟩) rfl _).setCell (p := ⟨b, 11, none⟩) rfl _
  obtain ⟨wo, hb, hw⟩ := h.box
  refine ⟨h.boxX hF (wo := wo) ?_ hw rfl rfl rfl rfl rfl (fun e => by cases e), hF⟩
  exact Go.heap_setCell_same _ b 11 _ _ _ (Go.heap_setCell_same _ b 10 _ _ _ (Go.heap_setCell_same w b 9 _ _ _ hb))
set_option maxHeartbeats 3200000 in
set_option maxRecDepth 100000 in
theorem dmissing_any {Z b q r : Nat} {pv : Value} {t : Tk} {av gv cv iv : Value} {s : Vs} {w : World} (h : Fd Z b q r pv t av gv cv iv s w) (hk16 : s.kids.length ≤ 16) :
    Calls Try.prog 19 #[.pointer (some ⟨b, 0, none⟩)] w fun e w' => ∃ va vc, e = .returned (.slice va (waitsV s).length vc) ∧ w'.ownsRow w.heap.size IntT 1 (.slice va (waitsV s).length vc) (waitsV s).length ((waitsV s).flatMap encN1) ∧ Below w.heap.size w w' := by
  have H := Lib.hid h
  obtain ⟨ga, gc, hgv⟩ := own_slice h.gvn
  subst hgv
  clear h
  go_enter Try.func19, Try.ntmps19
  go_wp2_with fail
  go_loopg [3, 4] s.kids.length (fun gk t3 i wr => ∃ (k : Nat) (v : Value), gk + k = s.kids.length ∧ i = .int .i64 k ∧ v = t3 ∧ Hid (wr.ownsRow w.heap.size IntT 1 v (waitsL k s.kids).length ((waitsL k s.kids).flatMap encN1) ∧ Below w.heap.size w wr))
  case atStart => exact ⟨0, .slice none 0 0, by omega, rfl, rfl, World.ownsRow_nil _ _ _ _, Below.refl _ _⟩
  case round =>
    obtain ⟨k, v, hk, rfl, rfl, HR⟩ := hrel
    have y1 : wr.cell? ⟨b, 1, none⟩ = some (.slice ga s.kids.length gc) := by
      obtain ⟨wo, hb, _⟩ := (H.out.below HR.out.2).box
      exact hb.cell 1
    by_cases hlt : k < s.kids.length
    · have q4 : (k : Int) < s.kids.length := by omega
      have q5 : (0 : Int) ≤ k := by omega
      have q6 : IntKind.i64.wrap ((k : Int) + 1) = (k : Int) + 1 := IntWalk.i64_in _ (by omega)
      obtain ⟨b3, off3, c3, he3, _, hc3⟩ := (own_readsK (enc := encB) (k := 1) (fun _ => rfl) (by decide) (H.out.below HR.out.2).gvn).at (by omega)
      injection he3 with he3 hnn hcc
      subst he3
      subst hcc
      clear hnn
      have d0 : wr.cell? ⟨b3, off3 + k, none⟩ = some (.bool s.kids[k].given) := by
        have := hc3 k hlt 0 _ rfl
        simpa using this
      have hkg : s.kids.getD k default = s.kids[k] := by
        rw [List.getD_eq_getElem?_getD, List.getElem?_eq_getElem hlt]; rfl
      have HWL := Lib.hid (show waitsL (k + 1) s.kids = waitsL k s.kids ++ (if s.kids[k].given then [] else [(k : Int) + 1]) by rw [← hkg]; rfl)
      have hwl := waitsL_len k s.kids
      obtain ⟨va, vc, hv⟩ := own_slice HR.out.1
      subst hv
      clear hc3 hkg
      generalize s.kids[k] = cc at *
      cases hg : cc.given
      · rw [hg] at d0 HWL
        have HL := Lib.hid (show waitsL (k + 1) s.kids = waitsL k s.kids ++ [(k : Int) + 1] from by rw [HWL.out]; rfl)
        clear hg HWL
        obtain ⟨n, hn⟩ : ∃ n, (waitsL k s.kids).length = n := ⟨_, rfl⟩
        have HA := Lib.hid HR.out
        rw [hn] at HA hwl ⊢
        have HNN := Lib.hid hn
        clear hn
        obtain ⟨ig, hig, hg0, hg1, hg2⟩ := info_parts info_int
        obtain ⟨v', w5, hap, hown, hgrow, _⟩ := run_append_own (P := Try.prog) (w := wr.alloc (.cells #[.int .i64 ((k : Int) + 1)] 3)) w.heap.size 59 59 3 ig (.int .i64 0) 1 8 Try.underlying59 hig hg0 hg1 hg2 rfl (by decide) (.slice va n vc) n ((waitsL k s.kids).flatMap encN1) (own_below HA.out.1 (alV _ _)) ⟨wr.heap.size, 0, none⟩ 1 1 (encN1 ((k : Int) + 1)) rfl (one_int _ _) (by intro v hv; simp [encN1] at hv; subst hv; rfl) (by unfold maxLen; omega) (by omega) (by have := HA.out.2.size; simp; omega)
        have hF5 := grow_fr' (alV wr (.cells #[.int .i64 ((k : Int) + 1)] 3)) hgrow
        have HN := Lib.hid (show w5.ownsRow w.heap.size IntT 1 v' (waitsL (k + 1) s.kids).length ((waitsL (k + 1) s.kids).flatMap encN1) ∧ Below w.heap.size w w5 from by
          refine ⟨?_, HA.out.2.trans (hF5.below (fun i hi => (HA.out.1.lt i hi).1) HA.out.2.size)⟩
          rw [HL.out, List.length_append, HNN.out, List.flatMap_append]
          simpa using hown)
        clear hgrow hown hF5 ig hig hg0 hg1 hg2 HR
        go_wp2_with (at_builtin; refine wpList_arunC rfl _ _ _ _ rfl rfl rfl hap ?_)
        go_roundg (gk - 1)
        case rel => exact ⟨k + 1, _, by omega, by go_num, rfl, HN⟩
        case measure => omega
      · rw [hg] at d0 HWL
        have HL := Lib.hid (show waitsL (k + 1) s.kids = waitsL k s.kids from by rw [HWL.out]; simp)
        clear hg HWL
        go_wp2_with fail
        go_roundg (gk - 1)
        case rel => exact ⟨k + 1, _, by omega, by go_num, rfl, by rw [HL.out]; exact HR.out⟩
        case measure => omega
    · have hkl : k = s.kids.length := by omega
      subst hkl
      have q4 : ¬ (s.kids.length : Int) < s.kids.length := by omega
      obtain ⟨va, vc, hv⟩ := own_slice HR.out.1
      subst hv
      go_wp2_with fail
      go_ret
      exact ⟨va, vc, rfl, HR.out.1, HR.out.2⟩
end Go.Proofs.Ytdhbjejejeljoaa
namespace Go.Proofs.Ytdhbjejejeljoaa
open Go.RowKit Go.Sort Go.Lib

theorem ends_end {wz : World} {tmps : Array Value} {a1 a5 a6 a7 a3 : Int} {a2 : ByteArray} {a4 : Value} {r : Nat} {T : TypeId} {R : Ending → World → Prop}
    (hr : BoxAt wz r #[.int .u8 a1, .string a2, .int .i64 a3, a4, .int .i64 a5, .int .i64 a6, .int .i64 a7] T) (h4 : tmps.getD 4 undef = .pointer (some ⟨r, 0, none⟩)) (hR : R (.returned (.agg #[.int .u8 a1, .string a2, .int .i64 a3, a4, .int .i64 a5, .int .i64 a6, .int .i64 a7])) wz) :
    bodyPost Try.prog Try.f51 R Exit.ret { tmps := tmps, defers := [] } wz := by
  have c0 : wz.cell? ⟨r, 0, none⟩ = some (.int .u8 a1) := hr.cell 0
  have c1 : wz.cell? ⟨r, 1, none⟩ = some (.string a2) := hr.cell 1
  have c2 : wz.cell? ⟨r, 2, none⟩ = some (.int .i64 a3) := hr.cell 2
  have c3 : wz.cell? ⟨r, 3, none⟩ = some a4 := hr.cell 3
  have c4 : wz.cell? ⟨r, 4, none⟩ = some (.int .i64 a5) := hr.cell 4
  have c5 : wz.cell? ⟨r, 5, none⟩ = some (.int .i64 a6) := hr.cell 5
  have c6 : wz.cell? ⟨r, 6, none⟩ = some (.int .i64 a7) := hr.cell 6
  refine bodyPost_ret (v := .agg #[.int .u8 a1, .string a2, .int .i64 a3, a4, .int .i64 a5, .int .i64 a6, .int .i64 a7]) ?_ rfl hR
  have h4' : tmps[4]?.getD undef = .pointer (some ⟨r, 0, none⟩) := by simpa using h4
  simp [results, Try.results51, go_sem, h4', c0, c1, c2, c3, c4, c5, c6]
def EndsP (Z b q r : Nat) (pv : Value) (t : Tk) (av gv cv iv : Value) (s : Vs) (z : Rs) (w : World) (e : Ending) (w' : World) : Prop :=
  e = .returned (.agg (spC (spDone z) (.slice none 0 0))) ∧ Fd Z b q r pv t av gv cv iv { s with result := some z } w' ∧ Fr (fun i => i = b) w w'
theorem Fd.side {Z b q r x : Nat} {pv : Value} {t : Tk} {av gv cv iv : Value} {s : Vs} {w w' : World} {c : Array Value} {E : TypeId} (h : Fd Z b q r pv t av gv cv iv s w) (hb : BoxAt w x c E) (hx : Z ≤ x) (hE : E ∉ [DFrT, RunT, I64T, IntT, DoneT, BoolT, ResT]) (hF : Fr (fun i => i = x) w w') : Fd Z b q r pv t av gv cv iv s w' := by
  simp only [List.mem_cons, List.not_mem_nil, or_false, not_or] at hE
  obtain ⟨e1, e2, e3, e4, e5, e6, e7⟩ := hE
  obtain ⟨wo, hbx, hw⟩ := h.box
  obtain ⟨f, hr, hf⟩ := h.run
  have hT := typed_box hb
  have ne : ∀ {A : TypeId}, E ≠ A → A ∉ [E] := fun h e => h (List.mem_singleton.1 e).symm
  exact ⟨⟨wo, box_typed hbx hF hT (ne e1), hw⟩, ⟨f, (hr.other hF hT (fun i hi => by subst hi; exact hx) (ne e2) (ne e3) (ne e4) (ne e5)).rebase, hf⟩, own_typed h.gvn hF hT (ne e6), own_typed h.cam hF hT (ne e7), h.zb, h.dn, h.lf⟩
set_option maxHeartbeats 3200000 in
set_option maxRecDepth 100000 in
theorem dends_any {Z b q r : Nat} {pv : Value} {t : Tk} {av gv cv iv : Value} {s : Vs} {w : World} (z : Rs) (h : Fd Z b q r pv t av gv cv iv s w) :
    Calls Try.prog 51 #[.pointer (some ⟨b, 0, none⟩), .agg #[.int .i64 z.v, .int .i64 z.e]] w (EndsP Z b q r pv t av gv cv iv s z w) := by
  have hA1 := alV w (.cells (resC z) ResT)
  have hA2 := alV (w.alloc (.cells (resC z) ResT)) (.cells zSp StopT)
  have HA := Lib.hid (show Below w.heap.size w ((w.alloc (.cells (resC z) ResT)).alloc (.cells zSp StopT)) from hA1.trans (hA2.mono hA1.size))
  have H := Lib.hid ((h.below hA1).below hA2)
  have HZ := Lib.hid h.z
  have HRB := Lib.hid ((show BoxAt (w.alloc (.cells (resC z) ResT)) w.heap.size (resC z) ResT from heap_alloc_new _ _).below hA2)
  have HSB := Lib.hid (show BoxAt ((w.alloc (.cells (resC z) ResT)).alloc (.cells zSp StopT)) (w.heap.size + 1) zSp StopT from by
    have := heap_alloc_new (w.alloc (.cells (resC z) ResT)) (.cells zSp StopT)
    rwa [show (w.alloc (.cells (resC z) ResT)).heap.size = w.heap.size + 1 by simp] at this)
  clear h hA1 hA2
  go_enter Try.func51, Try.ntmps51
  go_upto_region 1 with fail
  simp only [resC, zSp] at HA H HRB HSB
  generalize (w.alloc (.cells #[.int .i64 z.v, .int .i64 z.e] ResT)).alloc (.cells #[.int .u8 0, .string ⟨#[]⟩, .int .i64 0, .slice none 0 0, .int .i64 0, .int .i64 0, .int .i64 0] StopT) = wa at *
  obtain ⟨sb, hsb⟩ : ∃ n, w.heap.size + 1 = n := ⟨_, rfl⟩
  obtain ⟨rb, hrb⟩ : ∃ n, w.heap.size = n := ⟨_, rfl⟩
  have HLE := Lib.hid (show w.heap.size ≤ sb by omega)
  rw [hsb] at HSB ⊢
  rw [hrb] at HRB ⊢
  clear hsb hrb
  obtain ⟨wo, hbx, hwo⟩ := H.out.box
  have HBX := Lib.hid hbx
  obtain ⟨k0, k1, k2, k3, k4, k5, k6, k7, k8, k9, k10, k11⟩ := fd_cells hbx
  have f9 := hbx.frozen 9
  have f10 := hbx.frozen 10
  have f11 := hbx.frozen 11
  have r0 := HRB.out.cell 0
  have r1 := HRB.out.cell 1
  simp only [List.getElem?_toArray, List.getElem?_cons_zero, List.getElem?_cons_succ] at r0 r1
  have HNE := Lib.hid (show b ≠ rb ∧ b ≠ sb from ⟨box_ne hbx HRB.out (by decide), box_ne hbx HSB.out (by decide)⟩)
  have hne := HNE.out.1
  clear hbx k0 k1 k2 k3 k4 k5 k6 k7 k8 hwo
  go_upto_region 3 with fail
  have HV := Lib.hid (H.out.over z)
  have HRB2 := Lib.hid (HRB.out.fr HV.out.2 (fun e => HNE.out.1 e.symm))
  have HSB2 := Lib.hid (HSB.out.fr HV.out.2 (fun e => HNE.out.2 e.symm))
  clear k9 k10 k11 f9 f10 f11 r0 r1 hne
  generalize ((wa.setCell ⟨b, 9, none⟩ (.bool true)).setCell ⟨b, 10, none⟩ (.int .i64 z.v)).setCell ⟨b, 11, none⟩ (.int .i64 z.e) = wb at *
  have r0 := HRB2.out.cell 0
  have r1 := HRB2.out.cell 1
  have x0 := HSB2.out.cell 0; have x1 := HSB2.out.cell 1; have x2 := HSB2.out.cell 2; have x3 := HSB2.out.cell 3; have x4 := HSB2.out.cell 4; have x5 := HSB2.out.cell 5; have x6 := HSB2.out.cell 6
  have g0 := HSB2.out.frozen 0; have g1 := HSB2.out.frozen 1; have g2 := HSB2.out.frozen 2; have g3 := HSB2.out.frozen 3; have g4 := HSB2.out.frozen 4; have g5 := HSB2.out.frozen 5; have g6 := HSB2.out.frozen 6
  simp only [List.getElem?_toArray, List.getElem?_cons_zero, List.getElem?_cons_succ] at r0 r1 x0 x1 x2 x3 x4 x5 x6
  go_wp2_with fail
  refine ends_end (set7_box HSB2.out _ _ _ _ _ _ _) rfl ?_
  have hF := set7_fr wb sb (.int .u8 4) (.string ⟨#[]⟩) (.int .i64 0) (.slice none 0 0) (.int .i64 0) (.int .i64 z.v) (.int .i64 z.e)
  refine ⟨rfl, HV.out.1.side HSB2.out (Nat.le_trans HZ.out HLE.out) (by decide) hF, ?_⟩
  refine ((Fr.of_below HA.out).trans HV.out.2).join hF (fun i hi => .inr ?_)
  subst hi
  exact HLE.out
end Go.Proofs.Ytdhbjejejeljoaa
