/- Contract: vm.Frame.Run. -/
import Derived.Test.YtdhbjejejeljoaaVm8
namespace Go.Proofs.Ytdhbjejejeljoaa
open Go.RowKit Go.Sort Go.Lib

set_option maxHeartbeats 1600000 in
theorem set7_box {w : World} {b : Nat} {E : TypeId} {a0 a1 a2 a3 a4 a5 a6 : Value} (h : BoxAt w b #[a0, a1, a2, a3, a4, a5, a6] E) (c0 c1 c2 c3 c4 c5 c6 : Value) :
    BoxAt (((((((w.setCell ⟨b, 0, none⟩ c0).setCell ⟨b, 1, none⟩ c1).setCell ⟨b, 2, none⟩ c2).setCell ⟨b, 3, none⟩ c3).setCell ⟨b, 4, none⟩ c4).setCell ⟨b, 5, none⟩ c5).setCell ⟨b, 6, none⟩ c6) b #[c0, c1, c2, c3, c4, c5, c6] E := by
  have h1 : BoxAt _ b #[c0, a1, a2, a3, a4, a5, a6] E := Go.heap_setCell_same w b 0 _ _ c0 h
  have h2 : BoxAt _ b #[c0, c1, a2, a3, a4, a5, a6] E := Go.heap_setCell_same _ b 1 _ _ c1 h1
  have h3 : BoxAt _ b #[c0, c1, c2, a3, a4, a5, a6] E := Go.heap_setCell_same _ b 2 _ _ c2 h2
  have h4 : BoxAt _ b #[c0, c1, c2, c3, a4, a5, a6] E := Go.heap_setCell_same _ b 3 _ _ c3 h3
  have h5 : BoxAt _ b #[c0, c1, c2, c3, c4, a5, a6] E := Go.heap_setCell_same _ b 4 _ _ c4 h4
  have h6 : BoxAt _ b #[c0, c1, c2, c3, c4, c5, a6] E := Go.heap_setCell_same _ b 5 _ _ c5 h5
  exact Go.heap_setCell_same _ b 6 _ _ c6 h6
theorem set7_fr (w : World) (b : Nat) (c0 c1 c2 c3 c4 c5 c6 : Value) :
    Fr (fun i => i = b) w (((((((w.setCell ⟨b, 0, none⟩ c0).setCell ⟨b, 1, none⟩ c1).setCell ⟨b, 2, none⟩ c2).setCell ⟨b, 3, none⟩ c3).setCell ⟨b, 4, none⟩ c4).setCell ⟨b, 5, none⟩ c5).setCell ⟨b, 6, none⟩ c6) := by
  have h1 := (Fr.refl (fun i => i = b) w).setCell (p := ⟨b, 0, none⟩) rfl c0
  have h2 := h1.setCell (p := ⟨b, 1, none⟩) rfl c1
  have h3 := h2.setCell (p := ⟨b, 2, none⟩) rfl c2
  have h4 := h3.setCell (p := ⟨b, 3, none⟩) rfl c3
  have h5 := h4.setCell (p := ⟨b, 4, none⟩) rfl c4
  have h6 := h5.setCell (p := ⟨b, 5, none⟩) rfl c5
  exact h6.setCell (p := ⟨b, 6, none⟩) rfl c6
theorem runV_wait {p : List Fnc} {t : Tk} {n : Nat} {s : Vs} {o : Opr} {J1 : Option Sp} {J2 : Vs} (hr : s.result = none) (hw : s.waits = some o) (hj : joinV s o = (J1, J2)) : (∀ x, J1 = some x → runV p t n s = (x, J2)) ∧ (J1 = none → runV p t n s = stepsV p t n J2) := by
  unfold runV
  rw [hr, hw]
  simp only []
  rw [hj]
  cases J1 with
  | none => exact ⟨fun x h => (by cases h), fun _ => rfl⟩
  | some y => exact ⟨fun x h => (by cases h; rfl), fun h => (by cases h)⟩
/-- What a run leaves. -/
def RunVP (x r : Nat) (pv : Value) (t : Tk) (av kv : Value) (R : Sp × Vs) (w : World) (e : Ending) (w' : World) : Prop :=
  ∃ v kv' wv' rv', e = .returned (.tuple #[.agg (spC R.1 v), .int .i64 0]) ∧ w'.ownsRow w.heap.size I64T 1 v R.1.kid.args.length (R.1.kid.args.flatMap encN1) ∧ Vm x r pv t av kv' wv' rv' R.2 w' ∧ VmL x r kv w kv' w'
/-- What a frame is, between its ops. -/
structure VmR (B x r : Nat) (pv : Value) (p : List Fnc) (t : Tk) (av kv wv rv : Value) (s : Vs) (rb : Nat) (kv0 : Value) (w0 w : World) : Prop where
  vm : Vm x r pv t av kv wv rv s w
  pr : ProgOwn B w pv p
  l : VmL x r kv0 w0 kv w
  box : BoxAt w rb zSp StopT
  rb : w0.heap.size ≤ rb
section
variable {B x r : Nat} {pv : Value} {p : List Fnc} {t : Tk} {av kv wv rv : Value} {s : Vs} {rb : Nat} {kv0 : Value} {w0 w w' : World}
theorem VmR.below (h : VmR B x r pv p t av kv wv rv s rb kv0 w0 w) (hB : Below w.heap.size w w') : VmR B x r pv p t av kv wv rv s rb kv0 w0 w' :=
  ⟨h.vm.below hB, h.pr.below hB, ⟨h.l.fr.then hB, h.l.own⟩, h.box.below hB, h.rb⟩
theorem VmR.next {kv' wv' rv' : Value} {s' : Vs} (h : VmR B x r pv p t av kv wv rv s rb kv0 w0 w) (hv : Vm x r pv t av kv' wv' rv' s' w') (hF : Fr (VmS x r kv) w w') (ho : kv'.ownBlock = kv.ownBlock ∨ ∀ b, kv'.ownBlock = some b → w.heap.size ≤ b) : VmR B x r pv p t av kv' wv' rv' s' rb kv0 w0 w' :=
  ⟨hv, h.pr.typed hF h.vm.typedS (by decide) (by decide), h.l.trans ⟨hF, ho⟩, box_typed h.box hF h.vm.typedS (by decide), h.rb⟩
/-- A stop is written where the result lies. -/
theorem VmR.stop {y : Sp} {v : Value} (h : VmR B x r pv p t av kv wv rv s rb kv0 w0 w) (hF : Fr (fun i => i = rb) w w') (ho : w.ownsRow w0.heap.size I64T 1 v y.kid.args.length (y.kid.args.flatMap encN1)) :
    RunVP x r pv t av kv0 (y, s) w0 (.returned (.tuple #[.agg (spC y v), .int .i64 0])) w' := by
  have hT := typed_box h.box
  have hne : ∀ {i : Nat} {cur : Array Value} {E : TypeId} {fz : Nat × Nat}, w.heap[i]? = some (.cells cur E fz) → E ≠ StopT → i ≠ rb := fun h2 hE e => by
    subst e
    have h1 := h.box
    unfold BoxAt at h1
    rw [h2] at h1
    injection h1 with h1
    injection h1 with _ h1 _
    exact hE h1
  refine ⟨v, kv, wv, rv, rfl, own_typed ho hF hT (by decide), h.vm.far hF hT (by decide) (by decide) (hne h.vm.box (by decide)) (hne h.vm.regs (by decide)) (fun i hi e => ?_), ⟨h.l.fr.join hF (fun i hi => .inr (by have := h.rb; omega)), h.l.own⟩⟩
  subst e
  obtain ⟨E, cur, fz, hE, hbk⟩ := typed_own h.vm.kids i hi ((h.vm.kids.lt i hi).2)
  rw [List.mem_singleton] at hE
  subst hE
  exact hne hbk (by decide) rfl
end
theorem vrun_low {B x r : Nat} {pv : Value} {t : Tk} {av kv wv rv : Value} {s : Vs} {w : World} {p : List Fnc} (n : Int) (hn : n < 1) (h : Vm x r pv t av kv wv rv s w) (hp : WfP p) (hpr : ProgOwn B w pv p) (hl : 0 < p.length) :
    Calls Try.prog 10 #[.pointer (some ⟨x, 0, none⟩), .int .i64 n] w fun e w' => e = .returned (.tuple #[.agg zSp, .int .i64 2]) ∧ Below w.heap.size w w' := by
  have hA := alV w (.cells zSp StopT)
  have hb : BoxAt (w.alloc (.cells zSp StopT)) w.heap.size zSp StopT := heap_alloc_new _ _
  have HB := Lib.hid (And.intro hb hA)
  have HN := Lib.hid (none_any (h.below hA) ((hpr.at hp).below hA) hl)
  have hn1 : decide (n < 1) = true := by simpa using hn
  clear h hpr hb hA
  go_enter Try.func10, Try.ntmps10
  go_wp2_with fail
  refine HN.out.mono ?_
  rintro e w2 ⟨rfl, rfl⟩
  go_wp2_with fail
  exact vrun_end rfl HB.out.1 rfl rfl ⟨rfl, HB.out.2⟩
set_option maxHeartbeats 6400000 in
set_option maxRecDepth 100000 in
theorem vrun_any {B x r : Nat} {pv : Value} {t : Tk} {av kv wv rv : Value} {s : Vs} {w : World} {p : List Fnc} (n : Nat) (hn : 1 ≤ n) (hnm : n ≤ 9223372036854775807) (h : Vm x r pv t av kv wv rv s w) (hp : WfP p) (hpr : ProgOwn B w pv p) (ht : TkOk p t) (hi : InvV p t s) (ha : AtV p t s) :
    Calls Try.prog 10 #[.pointer (some ⟨x, 0, none⟩), .int .i64 n] w (RunVP x r pv t av kv (runV p t n s) w) := by
  have hA := alV w (.cells zSp StopT)
  have hb : BoxAt (w.alloc (.cells zSp StopT)) w.heap.size zSp StopT := heap_alloc_new _ _
  have H := Lib.hid (show VmR B x r pv p t av kv wv rv s w.heap.size kv w (w.alloc (.cells zSp StopT)) from ⟨h.below hA, hpr.below hA, ⟨.of_below hA, .inl rfl⟩, hb, Nat.le_refl _⟩)
  have HN := Lib.hid (none_any (h.below hA) ((hpr.at hp).below hA) (by have := ht.f0; have := ht.f1; omega))
  have HP := Lib.hid (And.intro hp ht)
  have HI := Lib.hid (And.intro hi ha)
  have hn0 : decide ((n : Int) < 1) = false := by simp; omega
  clear h hpr hb hA hp ht hi ha
  go_enter Try.func10, Try.ntmps10
  go_upto_region 1 with fail
  simp only [zSp] at H HN
  generalize w.alloc (.cells #[.int .u8 0, .string ⟨#[]⟩, .int .i64 0, .slice none 0 0, .int .i64 0, .int .i64 0, .int .i64 0] StopT) = w1 at *
  obtain ⟨rb, hrb⟩ : ∃ b, w.heap.size = b := ⟨_, rfl⟩
  rw [hrb] at H ⊢
  have HRB := Lib.hid hrb
  clear hrb
  go_wp2_with fail
  refine HN.out.mono ?_
  rintro e w2 ⟨rfl, rfl⟩
  obtain ⟨x0, x1, x2, x5, x6, x7, x8, x9, x10, x11⟩ := vm_cells H.out.vm
  have c0 := H.out.box.cell 0; have c1 := H.out.box.cell 1; have c2 := H.out.box.cell 2; have c3 := H.out.box.cell 3; have c4 := H.out.box.cell 4; have c5 := H.out.box.cell 5; have c6 := H.out.box.cell 6
  have f0 := H.out.box.frozen 0; have f1 := H.out.box.frozen 1; have f2 := H.out.box.frozen 2; have f3 := H.out.box.frozen 3; have f4 := H.out.box.frozen 4; have f5 := H.out.box.frozen 5; have f6 := H.out.box.frozen 6
  simp only [List.getElem?_toArray, List.getElem?_cons_zero, List.getElem?_cons_succ] at c0 c1 c2 c3 c4 c5 c6
  clear x0 x1 x2 x5 x6 x7 x8 x9
  cases hrs : s.result with
  | some z =>
    have hrt := H.out.vm.rs
    rw [hrs] at hrt
    obtain ⟨zb, rfl, hzb⟩ := hrt
    have z0 := hzb.cell 0; have z1 := hzb.cell 1
    simp only [List.getElem?_toArray, List.getElem?_cons_zero, List.getElem?_cons_succ] at z0 z1
    have HR := Lib.hid (show runV p t n s = (spDone z, s) by unfold runV; rw [hrs])
    clear hrs hzb
    go_wp2_with fail
    refine vrun_end rfl (set7_box H.out.box _ _ _ _ _ _ _) rfl rfl ?_
    rw [HR.out]
    exact H.out.stop (set7_fr _ _ _ _ _ _ _ _ _) (World.ownsRow_nil _ _ _ _)
  | none =>
    have hrt := H.out.vm.rs
    rw [hrs] at hrt
    subst hrt
    obtain ⟨wq, rfl⟩ : ∃ q, wv = .pointer q := by
      have h1 := H.out.vm.wt
      revert h1
      cases s.waits with
      | none => intro h1; exact ⟨none, h1⟩
      | some o => rintro ⟨b, h1, _⟩; exact ⟨_, h1⟩
    go_upto_if 33 with fail
    go_cut [6] (fun _ wc => ∃ kv' wv' s', Runs s' ∧ Hid (VmR B x r pv p t av kv' wv' (.pointer none) s' rb kv w wc ∧ InvV p t s' ∧ AtV p t s' ∧ stepsV p t n s' = runV p t n s))
    case first =>
      cases hws : s.waits with
      | none =>
        have hwt := H.out.vm.wt
        rw [hws] at hwt
        injection hwt with hwt
        subst hwt
        go_wp2_with fail
        go_meet
        refine ⟨kv, _, s, ⟨hws, hrs⟩, H.out, HI.out.1, HI.out.2, ?_⟩
        unfold runV
        rw [hrs, hws]
      | some o =>
        have hwt := H.out.vm.wt
        rw [hws] at hwt
        obtain ⟨ob, hwe, hob⟩ := hwt
        injection hwe with hwe
        subst hwe
        obtain ⟨k0, k1, k2, k3, k4⟩ := op_cells hob
        have HJ := Lib.hid (joinV_at HI.out.1 HI.out.2 hws hrs)
        have HG := Lib.hid (fun h => joinV_goes (s := s) (o := o) h hrs)
        have HO := Lib.hid (HI.out.1.wt o hws)
        obtain ⟨J1, J2, hjj⟩ : ∃ J1 J2, joinV s o = (J1, J2) := ⟨_, _, rfl⟩
        have HR := Lib.hid (runV_wait (p := p) (t := t) (n := n) hrs hws hjj)
        have HV := Lib.hid (vjoin_any H.out.vm HI.out.1 HO.out.1 HO.out.2)
        rw [hjj] at HJ HG HV
        have HSZ := Lib.hid H.out.l.fr.size
        clear hrs hws hob hjj x11
        go_wp2_with fail
        refine HV.out.mono ?_
        rintro e w3 ⟨ev, kv', wv', rv', rfl, g1, g2, g3, g4⟩
        have H3 := Lib.hid (H.out.next g2 g3 g4)
        have HF3 := Lib.hid g3.size
        clear x10 g2 g3 g4 c0 c1 c2 c3 c4 c5 c6 f0 f1 f2 f3 f4 f5 f6 H HV k0 k1 k2 k3 k4
        cases J1 with
        | none =>
          simp only [SpAt] at g1
          subst g1
          obtain ⟨hg1, hg2⟩ := HG.out (by first | rfl | trivial)
          have hrt := H3.out.vm.rs
          simp only [] at hrt hg1
          rw [hg1.2] at hrt
          simp only [RsAt] at hrt
          subst hrt
          have HGG := Lib.hid hg1
          clear hg1 hg2
          go_wp2_with fail
          go_meet
          exact ⟨kv', wv', J2, HGG.out, H3.out, HJ.out.1, HJ.out.2, (HR.out.2 (by first | rfl | trivial)).symm⟩
        | some y =>
          obtain ⟨yb, yv, rfl, hyb, hyo⟩ := g1
          obtain ⟨ya, yc, rfl⟩ := own_slice hyo
          have z0 := hyb.cell 0; have z1 := hyb.cell 1; have z2 := hyb.cell 2; have z3 := hyb.cell 3; have z4 := hyb.cell 4; have z5 := hyb.cell 5; have z6 := hyb.cell 6
          have c0 := H3.out.box.cell 0; have c1 := H3.out.box.cell 1; have c2 := H3.out.box.cell 2; have c3 := H3.out.box.cell 3; have c4 := H3.out.box.cell 4; have c5 := H3.out.box.cell 5; have c6 := H3.out.box.cell 6
          have f0 := H3.out.box.frozen 0; have f1 := H3.out.box.frozen 1; have f2 := H3.out.box.frozen 2; have f3 := H3.out.box.frozen 3; have f4 := H3.out.box.frozen 4; have f5 := H3.out.box.frozen 5; have f6 := H3.out.box.frozen 6
          simp only [List.getElem?_toArray, List.getElem?_cons_zero, List.getElem?_cons_succ] at c0 c1 c2 c3 c4 c5 c6 z0 z1 z2 z3 z4 z5 z6
          have HY := Lib.hid hyo
          clear hyb hyo
          go_wp2_with fail
          refine vrun_end rfl (set7_box H3.out.box _ _ _ _ _ _ _) rfl rfl ?_
          rw [HR.out.1 y rfl]
          exact H3.out.stop (set7_fr _ _ _ _ _ _ _ _ _) (owns_monoG HY.out HSZ.out)
    case rest =>
      obtain ⟨kv2, wv2, s2, hr2, HC⟩ := hcut
      have HC0 := Lib.hid (And.intro hr2 HC.out)
      clear hr2 HC H hrs x10 x11 c0 c1 c2 c3 c4 c5 c6 f0 f1 f2 f3 f4 f5 f6
      go_wp2_with fail
      go_loopg [7, 48] n (fun gk t7 i wr => ∃ (k : Nat) (kv' wv' : Value) (s1 : Vs), gk + k = n ∧ i = .int .i64 k ∧ Hid (Runs s1 ∧ VmR B x r pv p t av kv' wv' (.pointer none) s1 rb kv w wr ∧ InvV p t s1 ∧ AtV p t s1 ∧ stepsV p t gk s1 = runV p t n s))
      case atStart => exact ⟨0, kv2, wv2, s2, by omega, rfl, HC0.out⟩
      case round =>
        clear HC0
        obtain ⟨k, kv1, wv1, s1, hk, rfl, HR⟩ := hrel
        by_cases hlt : k < n
        · have hlt1 : (k : Int) < n := by omega
          have HS := Lib.hid (vstep_any HR.out.2.1.vm HP.out.1 HR.out.2.1.pr HP.out.2 HR.out.2.2.1 HR.out.1 (HR.out.2.2.2.1.runs HR.out.1))
          have HI1 := Lib.hid (stepV_inv HP.out.1 HP.out.2 HR.out.2.2.1 HR.out.1 (HR.out.2.2.2.1.runs HR.out.1))
          have HG := Lib.hid (stepV_goes (p := p) (t := t) HR.out.1)
          obtain ⟨m, hm⟩ : ∃ m, gk = m + 1 := ⟨gk - 1, by omega⟩
          subst hm
          have HE := Lib.hid HR.out.2.2.2.2
          have HSZ := Lib.hid HR.out.2.1.l.fr.size
          unfold stepsV at HE
          obtain ⟨J1, J2, hjj⟩ : ∃ J1 J2, stepV p t s1 = (J1, J2) := ⟨_, _, rfl⟩
          rw [hjj] at HS HI1 HG HE
          clear hjj
          go_wp2_with fail
          refine HS.out.mono ?_
          rintro e w3 ⟨ev, kv', wv', rv', rfl, g1, g2, g3, g4⟩
          have H3 := Lib.hid (HR.out.2.1.next g2 g3 g4)
          clear g2 g3 g4 HR HS
          cases J1 with
          | none =>
            simp only [SpAt] at g1
            subst g1
            obtain ⟨hg1, hg2⟩ := HG.out.2 (by first | rfl | trivial)
            have hrt := H3.out.vm.rs
            simp only [] at hrt hg1
            rw [hg1.2] at hrt
            simp only [RsAt] at hrt
            subst hrt
            have HN := Lib.hid (show Runs J2 ∧ VmR B x r pv p t av kv' wv' (.pointer none) J2 rb kv w w3 ∧ InvV p t J2 ∧ AtV p t J2 ∧ stepsV p t m J2 = runV p t n s from ⟨hg1, H3.out, HI1.out.1, HI1.out.2, HE.out⟩)
            clear hg1 hg2
            go_wp2_with fail
            go_roundg m
            case rel => exact ⟨k + 1, kv', wv', J2, by omega, by go_num, HN⟩
            case measure => omega
          | some y =>
            obtain ⟨yb, yv, rfl, hyb, hyo⟩ := g1
            obtain ⟨ya, yc, rfl⟩ := own_slice hyo
            have z0 := hyb.cell 0; have z1 := hyb.cell 1; have z2 := hyb.cell 2; have z3 := hyb.cell 3; have z4 := hyb.cell 4; have z5 := hyb.cell 5; have z6 := hyb.cell 6
            have c0 := H3.out.box.cell 0; have c1 := H3.out.box.cell 1; have c2 := H3.out.box.cell 2; have c3 := H3.out.box.cell 3; have c4 := H3.out.box.cell 4; have c5 := H3.out.box.cell 5; have c6 := H3.out.box.cell 6
            have f0 := H3.out.box.frozen 0; have f1 := H3.out.box.frozen 1; have f2 := H3.out.box.frozen 2; have f3 := H3.out.box.frozen 3; have f4 := H3.out.box.frozen 4; have f5 := H3.out.box.frozen 5; have f6 := H3.out.box.frozen 6
            simp only [List.getElem?_toArray, List.getElem?_cons_zero, List.getElem?_cons_succ] at c0 c1 c2 c3 c4 c5 c6 z0 z1 z2 z3 z4 z5 z6
            have HY := Lib.hid hyo
            clear hyb hyo
            go_wp2_with fail
            refine vrun_end rfl (set7_box H3.out.box _ _ _ _ _ _ _) rfl rfl ?_
            rw [← HE.out]
            exact H3.out.stop (set7_fr _ _ _ _ _ _ _ _ _) (owns_monoG HY.out HSZ.out)
        · have hlt1 : ¬ (k : Int) < n := by omega
          have hg0 : gk = 0 := by omega
          subst hg0
          have HE := Lib.hid (show ((⟨1, noTk, ⟨0, 0⟩⟩ : Sp), s1) = runV p t n s from HR.out.2.2.2.2)
          have c0 := HR.out.2.1.box.cell 0; have c1 := HR.out.2.1.box.cell 1; have c2 := HR.out.2.1.box.cell 2; have c3 := HR.out.2.1.box.cell 3; have c4 := HR.out.2.1.box.cell 4; have c5 := HR.out.2.1.box.cell 5; have c6 := HR.out.2.1.box.cell 6
          have f0 := HR.out.2.1.box.frozen 0; have f1 := HR.out.2.1.box.frozen 1; have f2 := HR.out.2.1.box.frozen 2; have f3 := HR.out.2.1.box.frozen 3; have f4 := HR.out.2.1.box.frozen 4; have f5 := HR.out.2.1.box.frozen 5; have f6 := HR.out.2.1.box.frozen 6
          simp only [List.getElem?_toArray, List.getElem?_cons_zero, List.getElem?_cons_succ] at c0 c1 c2 c3 c4 c5 c6
          go_wp2_with fail
          refine vrun_end rfl (set7_box HR.out.2.1.box _ _ _ _ _ _ _) rfl rfl ?_
          rw [← HE.out]
          exact HR.out.2.1.stop (set7_fr _ _ _ _ _ _ _ _ _) (World.ownsRow_nil _ _ _ _)
end Go.Proofs.Ytdhbjejejeljoaa
