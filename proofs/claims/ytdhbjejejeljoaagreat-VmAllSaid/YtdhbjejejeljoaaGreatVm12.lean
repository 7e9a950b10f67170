/- Contract: vm.copied. -/
import Derived.Test.YtdhbjejejeljoaaGreatVm8
import Derived.Test.YtdhbjejejeljoaaGreatEv15
namespace Go.Proofs.YtdhbjejejeljoaaGreat
open Go.RowKit Go.Sort Go.Lib

set_option maxHeartbeats 1600000 in
theorem set7_box {w : World} {b : Nat} {E : TypeId} {a0 a1 a2 a3 a4 a5 a6 : Value} (h : BoxAt w b #[a0, a1, a2, a3, a4, a5, a6] E) (c0 c1 c2 c3 c4 c5 c6 : Value) :
    BoxAt (((((((w.setCell ⟨b, 0, none⟩ c0).setCell ⟨b, 1, none⟩ c1).setCell ⟨b, 2, none⟩ c2).setCell ⟨b, 3, none⟩ c3).setCell ⟨b, 4, none⟩ c4).setCell ⟨b, 5, none⟩ c5).setCell ⟨b, 6, none⟩ c6) b #[c0, c1, c2, c3, c4, c5, c6] E := by
  have h1 : BoxAt _ b #[c0, a1, a2, a3, a4, a5, a6] E := Go.heap_setCell_same w b 0 _ _ c0 h
  have h2 : BoxAt _ b #[c0, c1, a2, a3, a4, a5, a6] E := Go.heap_setCell_same _ b 1 _ _ c1 h1
  have h3 : BoxAt _ b #[c0, c1, c2, a3, a4, a5, a6] E := Go.heap_setCell_same _ b 2 _ _ c2 h2
  have h4 : BoxAt _ b #[c0, c1, c2, c3, a4, a5, a6] E := Go.heap_setCell_same _ b 3 _ _ c3 h3
  have h5 : BoxAt _ b #[c0, c1, c2, c3, c4, a5, a6] E := Go.heap_setCell_same _ b 4 _ _ c4 h4
  have h6 : BoxAt _ b #[c0, c1, c2, c3, c4, c5, a6] E := Go.heap_setCell_same _ b 5 _ _ c5 h5
  exact Go.heap_setCell_same _ b 6 _ _ c6 h6
theorem set7_fr (w : World) (b : Nat) (c0 c1 c2 c3 c4 c5 c6 : Value) :
    Fr (fun i => i = b) w (((((((w.setCell ⟨b, 0, none⟩ c0).setCell ⟨b, 1, none⟩ c1).setCell ⟨b, 2, none⟩ c2).setCell ⟨b, 3, none⟩ c3).setCell ⟨b, 4, none⟩ c4).setCell ⟨b, 5, none⟩ c5).setCell ⟨b, 6, none⟩ c6) := by
  have h1 := (Fr.refl (fun i => i = b) w).setCell (p := ⟨b, 0, none⟩) rfl c0
  have h2 := h1.setCell (p := ⟨b, 1, none⟩) rfl c1
  have h3 := h2.setCell (p := ⟨b, 2, none⟩) rfl c2
  have h4 := h3.setCell (p := ⟨b, 3, none⟩) rfl c3
  have h5 := h4.setCell (p := ⟨b, 4, none⟩) rfl c4
  have h6 := h5.setCell (p := ⟨b, 5, none⟩) rfl c5
  exact h6.setCell (p := ⟨b, 6, none⟩) rfl c6
theorem runV_wait {p : List Fnc} {t : Tk} {n : Nat} {s : Vs} {o : Opr} {J1 : Option Sp} {J2 : Vs} (hr : s.result = none) (hw : s.waits = some o) (hj : joinV s o = (J1, J2)) : (∀ x, J1 = some x → runV p t n s = (x, J2)) ∧ (J1 = none → runV p t n s = stepsV p t n J2) := by
  unfold runV
  rw [hr, hw]
  simp only []
  rw [hj]
  cases J1 with
  | none => exact ⟨fun x h => (by cases h), fun _ => rfl⟩
  | some y => exact ⟨fun x h => (by cases h; rfl), fun h => (by cases h)⟩
/-- What a run leaves. -/
def RunVP (x r : Nat) (pv : Value) (t : Tk) (av kv : Value) (R : Sp × Vs) (w : World) (e : Ending) (w' : World) : Prop :=
  ∃ v kv' wv' rv', e = .returned (.tuple #[.agg (spC R.1 v), .int .i64 0]) ∧ w'.ownsRow w.heap.size I64T 1 v R.1.kid.args.length (R.1.kid.args.flatMap encN1) ∧ Vm x r pv t av kv' wv' rv' R.2 w' ∧ VmL x r kv w kv' w'
/-- What a frame is, between its ops. -/
structure VmR (B x r : Nat) (pv : Value) (p : List Fnc) (t : Tk) (av kv wv rv : Value) (s : Vs) (rb : Nat) (kv0 : Value) (w0 w : World) : Prop where
  vm : Vm x r pv t av kv wv rv s w
  pr : ProgOwn B w pv p
  l : VmL x r kv0 w0 kv w
  box : BoxAt w rb zSp StopT
  rb : w0.heap.size ≤ rb
section
variable {B x r : Nat} {pv : Value} {p : List Fnc} {t : Tk} {av kv wv rv : Value} {s : Vs} {rb : Nat} {kv0 : Value} {w0 w w' : World}
theorem VmR.below (h : VmR B x r pv p t av kv wv rv s rb kv0 w0 w) (hB : Below w.heap.size w w') : VmR B x r pv p t av kv wv rv s rb kv0 w0 w' :=
  ⟨h.vm.below hB, h.pr.below hB, ⟨h.l.fr.then hB, h.l.own⟩, h.box.below hB, h.rb⟩
theorem VmR.next {kv' wv' rv' : Value} {s' : Vs} (h : VmR B x r pv p t av kv wv rv s rb kv0 w0 w) (hv : Vm x r pv t av kv' wv' rv' s' w') (hF : Fr (VmS x r kv) w w') (ho : kv'.ownBlock = kv.ownBlock ∨ ∀ b, kv'.ownBlock = some b → w.heap.size ≤ b) : VmR B x r pv p t av kv' wv' rv' s' rb kv0 w0 w' :=
  ⟨hv, h.pr.typed hF h.vm.typedS (by decide) (by decide), h.l.trans ⟨hF, ho⟩, box_typed h.box hF h.vm.typedS (by decide), h.rb⟩
/-- A stop is written where the result lies. -/
theorem VmR.stop {y : Sp} {v : Value} (h : VmR B x r pv p t av kv wv rv s rb kv0 w0 w) (hF : Fr (fun i => i = rb) w w') (ho : w.ownsRow w0.heap.size I64T 1 v y.kid.args.length (y.kid.args.flatMap encN1)) :
    RunVP x r pv t av kv0 (y, s) w0 (.returned (.tuple #[.agg (spC y v), .int .i64 0])) w' := by
  have hT := typed_box h.box
  have hne : ∀ {i : Nat} {cur : Array Value} {E : TypeId} {fz : Nat × Nat}, w.heap[i]? = some (.cells cur E fz) → E ≠ StopT → i ≠ rb := fun h2 hE e => by
    subst e
    have h1 := h.box
    unfold BoxAt at h1
    rw [h2] at h1
    injection h1 with h1
    injection h1 with _ h1 _
    exact hE h1
  refine ⟨v, kv, wv, rv, rfl, own_typed ho hF hT (by decide), h.vm.far hF hT (by decide) (by decide) (hne h.vm.box (by decide)) (hne h.vm.regs (by decide)) (fun i hi e => ?_), ⟨h.l.fr.join hF (fun i hi => .inr (by have := h.rb; omega)), h.l.own⟩⟩
  subst e
  obtain ⟨E, cur, fz, hE, hbk⟩ := typed_own h.vm.kids i hi ((h.vm.kids.lt i hi).2)
  rw [List.mem_singleton] at hE
  subst hE
  exact hne hbk (by decide) rfl
end
theorem vrun_low {B x r : Nat} {pv : Value} {t : Tk} {av kv wv rv : Value} {s : Vs} {w : World} {p : List Fnc} (n : Int) (hn : n < 1) (h : Vm x r pv t av kv wv rv s w) (hp : WfP p) (hpr : ProgOwn B w pv p) (hl : 0 < p.length) :
    Calls Tryz.prog 14 #[.pointer (some ⟨x, 0, none⟩), .int .i64 n] w fun e w' => e = .returned (.tuple #[.agg zSp, .int .i64 2]) ∧ Below w.heap.size w w' := by
  have hA := alV w (.cells zSp StopT)
  have hb : BoxAt (w.alloc (.cells zSp StopT)) w.heap.size zSp StopT := heap_alloc_new _ _
  have HB := Lib.hid (And.intro hb hA)
  have HN := Lib.hid (none_any (h.below hA) ((hpr.at hp).below hA) hl)
  have hn1 : decide (n < 1) = true := by simpa using hn
  clear h hpr hb hA
  go_enter Tryz.func14, Tryz.ntmps14
  go_wp2_with fail
  refine HN.out.mono ?_
  rintro e w2 ⟨rfl, rfl⟩
  go_wp2_with fail
  exact vrun_end rfl HB.out.1 rfl rfl ⟨rfl, HB.out.2⟩
set_option maxHeartbeats 6400000 in
set_option maxRecDepth 100000 in
theorem vrun_any {B x r : Nat} {pv : Value} {t : Tk} {av kv wv rv : Value} {s : Vs} {w : World} {p : List Fnc} (n : Nat) (hn : 1 ≤ n) (hnm : n ≤ 9223372036854775807) (h : Vm x r pv t av kv wv rv s w) (hp : WfP p) (hpr : ProgOwn B w pv p) (ht : TkOk p t) (hi : InvV p t s) (ha : AtV p t s) :
    Calls Tryz.prog 14 #[.pointer (some ⟨x, 0, none⟩), .int .i64 n] w (RunVP x r pv t av kv (runV p t n s) w) := by
  have hA := alV w (.cells zSp StopT)
  have hb : BoxAt (w.alloc (.cells zSp StopT)) w.heap.size zSp StopT := heap_alloc_new _ _
  have H := Lib.hid (show VmR B x r pv p t av kv wv rv s w.heap.size kv w (w.alloc (.cells zSp StopT)) from ⟨h.below hA, hpr.below hA, ⟨.of_below hA, .inl rfl⟩, hb, Nat.le_refl _⟩)
  have HN := Lib.hid (none_any (h.below hA) ((hpr.at hp).below hA) (by have := ht.f0; have := ht.f1; omega))
  have HP := Lib.hid (And.intro hp ht)
  have HI := Lib.hid (And.intro hi ha)
  have hn0 : decide ((n : Int) < 1) = false := by simp; omega
  clear h hpr hb hA hp ht hi ha
  go_enter Tryz.func14, Tryz.ntmps14
  go_upto_region 1 with fail
  simp only [zSp] at H HN
  generalize w.alloc (.cells #[.int .u8 0, .string ⟨#[]⟩, .int .i64 0, .slice none 0 0, .int .i64 0, .int .i64 0, .int .i64 0] StopT) = w1 at *
  obtain ⟨rb, hrb⟩ : ∃ b, w.heap.size = b := ⟨_, rfl⟩
  rw [hrb] at H ⊢
  have HRB := Lib.hid hrb
  clear hrb
  go_wp2_with fail
  refine HN.out.mono ?_
  rintro e w2 ⟨rfl, rfl⟩
  obtain ⟨x0, x1, x2, x5, x6, x7, x8, x9, x10, x11⟩ := vm_cells H.out.vm
  have c0 := H.out.box.cell 0; have c1 := H.out.box.cell 1; have c2 := H.out.box.cell 2; have c3 := H.out.box.cell 3; have c4 := H.out.box.cell 4; have c5 := H.out.box.cell 5; have c6 := H.out.box.cell 6
  have f0 := H.out.box.frozen 0; have f1 := H.out.box.frozen 1; have f2 := H.out.box.frozen 2; have f3 := H.out.box.frozen 3; have f4 := H.out.box.frozen 4; have f5 := H.out.box.frozen 5; have f6 := H.out.box.frozen 6
  simp only [List.getElem?_toArray, List.getElem?_cons_zero, List.getElem?_cons_succ] at c0 c1 c2 c3 c4 c5 c6
  clear x0 x1 x2 x5 x6 x7 x8 x9
  cases hrs : s.result with
  | some z =>
    have hrt := H.out.vm.rs
    rw [hrs] at hrt
    obtain ⟨zb, rfl, hzb⟩ := hrt
    have z0 := hzb.cell 0; have z1 := hzb.cell 1
    simp only [List.getElem?_toArray, List.getElem?_cons_zero, List.getElem?_cons_succ] at z0 z1
    have HR := Lib.hid (show runV p t n s = (spDone z, s) by unfold runV; rw [hrs])
    clear hrs hzb
    go_wp2_with fail
    refine vrun_end rfl (set7_box H.out.box _ _ _ _ _ _ _) rfl rfl ?_
    rw [HR.out]
    exact H.out.stop (set7_fr _ _ _ _ _ _ _ _ _) (World.ownsRow_nil _ _ _ _)
  | none =>
    have hrt := H.out.vm.rs
    rw [hrs] at hrt
    subst hrt
    obtain ⟨wq, rfl⟩ : ∃ q, wv = .pointer q := by
      have h1 := H.out.vm.wt
      revert h1
      cases s.waits with
      | none => intro h1; exact ⟨none, h1⟩
      | some o => rintro ⟨b, h1, _⟩; exact ⟨_, h1⟩
    go_upto_if 33 with fail
    go_cut [6] (fun _ wc => ∃ kv' wv' s', Runs s' ∧ Hid (VmR B x r pv p t av kv' wv' (.pointer none) s' rb kv w wc ∧ InvV p t s' ∧ AtV p t s' ∧ stepsV p t n s' = runV p t n s))
    case first =>
      cases hws : s.waits with
      | none =>
        have hwt := H.out.vm.wt
        rw [hws] at hwt
        injection hwt with hwt
        subst hwt
        go_wp2_with fail
        go_meet
        refine ⟨kv, _, s, ⟨hws, hrs⟩, H.out, HI.out.1, HI.out.2, ?_⟩
        unfold runV
        rw [hrs, hws]
      | some o =>
        have hwt := H.out.vm.wt
        rw [hws] at hwt
        obtain ⟨ob, hwe, hob⟩ := hwt
        injection hwe with hwe
        subst hwe
        obtain ⟨k0, k1, k2, k3, k4⟩ := op_cells hob
        have HJ := Lib.hid (joinV_at HI.out.1 HI.out.2 hws hrs)
        have HG := Lib.hid (fun h => joinV_goes (s := s) (o := o) h hrs)
        have HO := Lib.hid (HI.out.1.wt o hws)
        obtain ⟨J1, J2, hjj⟩ : ∃ J1 J2, joinV s o = (J1, J2) := ⟨_, _, rfl⟩
        have HR := Lib.hid (runV_wait (p := p) (t := t) (n := n) hrs hws hjj)
        have HV := Lib.hid (vjoin_any H.out.vm HI.out.1 HO.out.1 HO.out.2)
        rw [hjj] at HJ HG HV
        have HSZ := Lib.hid H.out.l.fr.size
        clear hrs hws hob hjj x11
        go_wp2_with fail
        refine HV.out.mono ?_
        rintro e w3 ⟨ev, kv', wv', rv', rfl, g1, g2, g3, g4⟩
        have H3 := Lib.hid (H.out.next g2 g3 g4)
        have HF3 := Lib.hid g3.size
        clear x10 g2 g3 g4 c0 c1 c2 c3 c4 c5 c6 f0 f1 f2 f3 f4 f5 f6 H HV k0 k1 k2 k3 k4
        cases J1 with
        | none =>
          simp only [SpAt] at g1
          subst g1
          obtain ⟨hg1, hg2⟩ := HG.out (by first | rfl | trivial)
          have hrt := H3.out.vm.rs
          simp only [] at hrt hg1
          rw [hg1.2] at hrt
          simp only [RsAt] at hrt
          subst hrt
          have HGG := Lib.hid hg1
          clear hg1 hg2
          go_wp2_with fail
          go_meet
          exact ⟨kv', wv', J2, HGG.out, H3.out, HJ.out.1, HJ.out.2, (HR.out.2 (by first | rfl | trivial)).symm⟩
        | some y =>
          obtain ⟨yb, yv, rfl, hyb, hyo⟩ := g1
          obtain ⟨ya, yc, rfl⟩ := own_slice hyo
          have z0 := hyb.cell 0; have z1 := hyb.cell 1; have z2 := hyb.cell 2; have z3 := hyb.cell 3; have z4 := hyb.cell 4; have z5 := hyb.cell 5; have z6 := hyb.cell 6
          have c0 := H3.out.box.cell 0; have c1 := H3.out.box.cell 1; have c2 := H3.out.box.cell 2; have c3 := H3.out.box.cell 3; have c4 := H3.out.box.cell 4; have c5 := H3.out.box.cell 5; have c6 := H3.out.box.cell 6
          have f0 := H3.out.box.frozen 0; have f1 := H3.out.box.frozen 1; have f2 := H3.out.box.frozen 2; have f3 := H3.out.box.frozen 3; have f4 := H3.out.box.frozen 4; have f5 := H3.out.box.frozen 5; have f6 := H3.out.box.frozen 6
          simp only [List.getElem?_toArray, List.getElem?_cons_zero, List.getElem?_cons_succ] at c0 c1 c2 c3 c4 c5 c6 z0 z1 z2 z3 z4 z5 z6
          have HY := Lib.hid hyo
          clear hyb hyo
          go_wp2_with fail
          refine vrun_end rfl (set7_box H3.out.box _ _ _ _ _ _ _) rfl rfl ?_
          rw [HR.out.1 y rfl]
          exact H3.out.stop (set7_fr _ _ _ _ _ _ _ _ _) (owns_monoG HY.out HSZ.out)
    case rest =>
      obtain ⟨kv2, wv2, s2, hr2, HC⟩ := hcut
      have HC0 := Lib.hid (And.intro hr2 HC.out)
      clear hr2 HC H hrs x10 x11 c0 c1 c2 c3 c4 c5 c6 f0 f1 f2 f3 f4 f5 f6
      go_wp2_with fail
      go_loopg [7, 48] n (fun gk t7 i wr => ∃ (k : Nat) (kv' wv' : Value) (s1 : Vs), gk + k = n ∧ i = .int .i64 k ∧ Hid (Runs s1 ∧ VmR B x r pv p t av kv' wv' (.pointer none) s1 rb kv w wr ∧ InvV p t s1 ∧ AtV p t s1 ∧ stepsV p t gk s1 = runV p t n s))
      case atStart => exact ⟨0, kv2, wv2, s2, by omega, rfl, HC0.out⟩
      case round =>
        clear HC0
        obtain ⟨k, kv1, wv1, s1, hk, rfl, HR⟩ := hrel
        by_cases hlt : k < n
        · have hlt1 : (k : Int) < n := by omega
          have HS := Lib.hid (vstep_any HR.out.2.1.vm HP.out.1 HR.out.2.1.pr HP.out.2 HR.out.2.2.1 HR.out.1 (HR.out.2.2.2.1.runs HR.out.1))
          have HI1 := Lib.hid (stepV_inv HP.out.1 HP.out.2 HR.out.2.2.1 HR.out.1 (HR.out.2.2.2.1.runs HR.out.1))
          have HG := Lib.hid (stepV_goes (p := p) (t := t) HR.out.1)
          obtain ⟨m, hm⟩ : ∃ m, gk = m + 1 := ⟨gk - 1, by omega⟩
          subst hm
          have HE := Lib.hid HR.out.2.2.2.2
          have HSZ := Lib.hid HR.out.2.1.l.fr.size
          unfold stepsV at HE
          obtain ⟨J1, J2, hjj⟩ : ∃ J1 J2, stepV p t s1 = (J1, J2) := ⟨_, _, rfl⟩
          rw [hjj] at HS HI1 HG HE
          clear hjj
          go_wp2_with fail
          refine HS.out.mono ?_
          rintro e w3 ⟨ev, kv', wv', rv', rfl, g1, g2, g3, g4⟩
          have H3 := Lib.hid (HR.out.2.1.next g2 g3 g4)
          clear g2 g3 g4 HR HS
          cases J1 with
          | none =>
            simp only [SpAt] at g1
            subst g1
            obtain ⟨hg1, hg2⟩ := HG.out.2 (by first | rfl | trivial)
            have hrt := H3.out.vm.rs
            simp only [] at hrt hg1
            rw [hg1.2] at hrt
            simp only [RsAt] at hrt
            subst hrt
            have HN := Lib.hid (show Runs J2 ∧ VmR B x r pv p t av kv' wv' (.pointer none) J2 rb kv w w3 ∧ InvV p t J2 ∧ AtV p t J2 ∧ stepsV p t m J2 = runV p t n s from ⟨hg1, H3.out, HI1.out.1, HI1.out.2, HE.out⟩)
            clear hg1 hg2
            go_wp2_with fail
            go_roundg m
            case rel => exact ⟨k + 1, kv', wv', J2, by omega, by go_num, HN⟩
            case measure => omega
          | some y =>
            obtain ⟨yb, yv, rfl, hyb, hyo⟩ := g1
            obtain ⟨ya, yc, rfl⟩ := own_slice hyo
            have z0 := hyb.cell 0; have z1 := hyb.cell 1; have z2 := hyb.cell 2; have z3 := hyb.cell 3; have z4 := hyb.cell 4; have z5 := hyb.cell 5; have z6 := hyb.cell 6
            have c0 := H3.out.box.cell 0; have c1 := H3.out.box.cell 1; have c2 := H3.out.box.cell 2; have c3 := H3.out.box.cell 3; have c4 := H3.out.box.cell 4; have c5 := H3.out.box.cell 5; have c6 := H3.out.box.cell 6
            have f0 := H3.out.box.frozen 0; have f1 := H3.out.box.frozen 1; have f2 := H3.out.box.frozen 2; have f3 := H3.out.box.frozen 3; have f4 := H3.out.box.frozen 4; have f5 := H3.out.box.frozen 5; have f6 := H3.out.box.frozen 6
            simp only [List.getElem?_toArray, List.getElem?_cons_zero, List.getElem?_cons_succ] at c0 c1 c2 c3 c4 c5 c6 z0 z1 z2 z3 z4 z5 z6
            have HY := Lib.hid hyo
            clear hyb hyo
            go_wp2_with fail
            refine vrun_end rfl (set7_box H3.out.box _ _ _ _ _ _ _) rfl rfl ?_
            rw [← HE.out]
            exact H3.out.stop (set7_fr _ _ _ _ _ _ _ _ _) (owns_monoG HY.out HSZ.out)
        · have hlt1 : ¬ (k : Int) < n := by omega
          have hg0 : gk = 0 := by omega
          subst hg0
          have HE := Lib.hid (show ((⟨1, noTk, ⟨0, 0⟩⟩ : Sp), s1) = runV p t n s from HR.out.2.2.2.2)
          have c0 := HR.out.2.1.box.cell 0; have c1 := HR.out.2.1.box.cell 1; have c2 := HR.out.2.1.box.cell 2; have c3 := HR.out.2.1.box.cell 3; have c4 := HR.out.2.1.box.cell 4; have c5 := HR.out.2.1.box.cell 5; have c6 := HR.out.2.1.box.cell 6
          have f0 := HR.out.2.1.box.frozen 0; have f1 := HR.out.2.1.box.frozen 1; have f2 := HR.out.2.1.box.frozen 2; have f3 := HR.out.2.1.box.frozen 3; have f4 := HR.out.2.1.box.frozen 4; have f5 := HR.out.2.1.box.frozen 5; have f6 := HR.out.2.1.box.frozen 6
          simp only [List.getElem?_toArray, List.getElem?_cons_zero, List.getElem?_cons_succ] at c0 c1 c2 c3 c4 c5 c6
          go_wp2_with fail
          refine vrun_end rfl (set7_box HR.out.2.1.box _ _ _ _ _ _ _) rfl rfl ?_
          rw [← HE.out]
          exact HR.out.2.1.stop (set7_fr _ _ _ _ _ _ _ _ _) (World.ownsRow_nil _ _ _ _)
end Go.Proofs.YtdhbjejejeljoaaGreat
namespace Go.Proofs.YtdhbjejejeljoaaGreat
open Go.RowKit Go.Sort Go.Lib

theorem flat_setCh (L : List Ch) (i : Nat) (h : i < L.length) (z : Rs) : (((L.flatMap encCh).set (i * 4 + 1) (.bool true)).set (i * 4 + 2) (.int .i64 z.v)).set (i * 4 + 3) (.int .i64 z.e) = (L.set i ⟨L[i].into, true, z⟩).flatMap encCh := by
  induction L generalizing i with
  | nil => simp at h
  | cons g L ih =>
    cases i with
    | zero => simp [encCh]
    | succ i =>
      rw [List.flatMap_cons, List.set_cons_succ, List.flatMap_cons, List.set_append_right _ _ (by simp [encCh]; omega)]
      rw [show (i + 1) * 4 + 1 - (encCh g).length = i * 4 + 1 by simp [encCh]; omega]
      rw [List.set_append_right _ _ (by simp [encCh]; omega)]
      rw [show (i + 1) * 4 + 2 - (encCh g).length = i * 4 + 2 by simp [encCh]; omega]
      rw [List.set_append_right _ _ (by simp [encCh]; omega)]
      rw [show (i + 1) * 4 + 3 - (encCh g).length = i * 4 + 3 by simp [encCh]; omega, ih i (by simpa using h)]
      simp
/-- A child's result is laid. -/
theorem Vm.give {x r : Nat} {pv : Value} {t : Tk} {av wv rv : Value} {s : Vs} {w : World} {g kc k : Nat} {z : Rs} (h : Vm x r pv t av (.slice (some ⟨g, 0, none⟩) s.kids.length kc) wv rv s w) (hk : k < s.kids.length) :
    Vm x r pv t av (.slice (some ⟨g, 0, none⟩) s.kids.length kc) wv rv { s with kids := s.kids.set k ⟨s.kids[k].into, true, z⟩ } (((w.setCell ⟨g, k * 4 + 1, none⟩ (.bool true)).setCell ⟨g, k * 4 + 2, none⟩ (.int .i64 z.v)).setCell ⟨g, k * 4 + 3, none⟩ (.int .i64 z.e)) ∧
    Fr (fun i => i = g) w (((w.setCell ⟨g, k * 4 + 1, none⟩ (.bool true)).setCell ⟨g, k * 4 + 2, none⟩ (.int .i64 z.v)).setCell ⟨g, k * 4 + 3, none⟩ (.int .i64 z.e)) := by
  have hF : Fr (fun i => i = g) w (((w.setCell ⟨g, k * 4 + 1, none⟩ (.bool true)).setCell ⟨g, k * 4 + 2, none⟩ (.int .i64 z.v)).setCell ⟨g, k * 4 + 3, none⟩ (.int .i64 z.e)) := (((Fr.refl (fun i => i = g) w).setCell (p := ⟨g, k * 4 + 1, none⟩) rfl _).setCell (p := ⟨g, k * 4 + 2, none⟩) rfl _).setCell (p := ⟨g, k * 4 + 3, none⟩) rfl _
  have hT : Typed (fun i => i = g) w [ChT] := fun i hi hl => typed_own h.kids i (by rw [hi]; rfl) hl
  have ho := own_set (own_set (own_set h.kids (j := k * 4 + 1) (v := .bool true)) (j := k * 4 + 2) (v := .int .i64 z.v)) (j := k * 4 + 3) (v := .int .i64 z.e)
  rw [flat_setCh _ _ hk] at ho
  refine ⟨⟨box_typed h.box hF hT (by decide), box_typed h.regs hF hT (by decide), by simpa using ho, h.wt.typed hF hT (by decide), h.rs.typed hF hT (by decide)⟩, hF⟩
/-- Which of the first children weren't given. -/
def waitsL : Nat → List Ch → List Int
  | 0, _ => []
  | k + 1, l => waitsL k l ++ (if (l.getD k default).given then [] else [(k : Int) + 1])
def waitsV (s : Vs) : List Int := waitsL s.kids.length s.kids
theorem waitsL_len : ∀ (k : Nat) (l : List Ch), (waitsL k l).length ≤ k
  | 0, _ => by simp [waitsL]
  | k + 1, l => by
    have := waitsL_len k l
    simp only [waitsL, List.length_append]
    split
    · simp; omega
    · simp; omega
/-- What a gift leaves. -/
def GiveVP (x r : Nat) (pv : Value) (t : Tk) (av kv wv rv : Value) (R : Int × Vs) (w : World) (e : Ending) (w' : World) : Prop :=
  e = .returned (.int .i64 R.1) ∧ Vm x r pv t av kv wv rv R.2 w' ∧ Fr (fun i => kv.ownBlock = some i) w w'
set_option maxHeartbeats 6400000 in
set_option maxRecDepth 100000 in
theorem vgive_any {x r : Nat} {pv : Value} {t : Tk} {av kv wv rv : Value} {s : Vs} {w : World} {p : List Fnc} (c : Int) (z : Rs) (h : Vm x r pv t av kv wv rv s w) (hpr : ProgAt w pv p) (hl : 0 < p.length) (hk16 : s.kids.length ≤ 16) :
    Calls Tryz.prog 16 #[.pointer (some ⟨x, 0, none⟩), .int .i64 c, .agg #[.int .i64 z.v, .int .i64 z.e]] w (GiveVP x r pv t av kv wv rv (giveV s c z) w) := by
  have hA := alV w (.cells (resC z) ResT)
  have hb : BoxAt (w.alloc (.cells (resC z) ResT)) w.heap.size (resC z) ResT := heap_alloc_new _ _
  have H := Lib.hid (show (Vm x r pv t av kv wv rv s (w.alloc (.cells (resC z) ResT)) ∧ BoxAt (w.alloc (.cells (resC z) ResT)) w.heap.size (resC z) ResT) ∧ Below w.heap.size w (w.alloc (.cells (resC z) ResT)) from ⟨⟨h.below hA, hb⟩, hA⟩)
  have HN := Lib.hid (none_any (h.below hA) (hpr.below hA) hl)
  obtain ⟨ka, kc, hkv⟩ := own_slice h.kids
  subst hkv
  clear h hpr hb hA hl
  go_enter Tryz.func16, Tryz.ntmps16
  go_upto_region 1 with fail
  simp only [resC] at H HN
  generalize w.alloc (.cells #[.int .i64 z.v, .int .i64 z.e] ResT) = w1 at *
  obtain ⟨b, hb⟩ : ∃ b, w.heap.size = b := ⟨_, rfl⟩
  rw [hb] at H ⊢
  have HBB := Lib.hid hb
  clear hb
  go_wp2_with fail
  refine HN.out.mono ?_
  rintro e w2 ⟨rfl, rfl⟩
  have x8 := (vm_cells H.out.1.1).2.2.2.2.2.2.1
  have x11 := (vm_cells H.out.1.1).2.2.2.2.2.2.2.2.2
  by_cases h1 : c < 1 ∨ (s.kids.length : Int) < c
  · have HG := Lib.hid (show giveV s c z = (5, s) by unfold giveV; rw [if_pos h1])
    by_cases h2 : c < 1
    · have q1 : decide (c < 1) = true := by simpa using h2
      clear h1 h2
      go_wp2_with fail
      go_ret
      refine ⟨by rw [HG.out]; rfl, by rw [HG.out]; exact H.out.1.1, .of_below (by rw [HBB.out]; exact H.out.2)⟩
    · have q1 : decide (c < 1) = false := by simp; omega
      have q2 : (s.kids.length : Int) < c := by omega
      clear h1 h2
      go_wp2_with fail
      go_ret
      refine ⟨by rw [HG.out]; rfl, by rw [HG.out]; exact H.out.1.1, .of_below (by rw [HBB.out]; exact H.out.2)⟩
  · obtain ⟨k, hk⟩ : ∃ k : Nat, (k : Int) = c - 1 := ⟨(c - 1).toNat, by omega⟩
    have hkl : k < s.kids.length := by omega
    obtain ⟨g, cap, cur, hv, _, _, _, _, _, _, _⟩ := own_blockK H.out.1.1.kids (by omega)
    injection hv with hv1 _ hv3
    subst hv1
    have hkg : s.kids.getD (c - 1).toNat default = s.kids[k] := by
      rw [List.getD_eq_getElem?_getD, show (c - 1).toNat = k by omega, List.getElem?_eq_getElem hkl]; rfl
    have HG : ∀ R, (if s.kids[k].given then (7, s) else if s.result.isSome then (3, s) else (0, { s with kids := s.kids.set k ⟨s.kids[k].into, true, z⟩ })) = R → giveV s c z = R := by
      intro R hR
      unfold giveV
      rw [if_neg h1, hkg, show (c - 1).toNat = k by omega]
      exact hR
    have HGG := Lib.hid HG
    have q1 : decide (c < 1) = false := by simp; omega
    have q2 : ¬ (s.kids.length : Int) < c := by omega
    have q3 : IntKind.i64.wrap (c - 1) = (k : Int) := by rw [← hk]; exact IntWalk.i64_in _ (by omega)
    have q4 : (k : Int) < s.kids.length := by omega
    have q5 : (0 : Int) ≤ k := by omega
    obtain ⟨b3, off3, c3, he3, _, hc3⟩ := (own_readsK (enc := encCh) (k := 4) encCh_len (by decide) H.out.1.1.kids).at (by omega)
    injection he3 with he3 _ _
    injection he3 with he3
    injection he3 with e31 e32 _
    subst e31; subst e32
    obtain ⟨d0, d1, d2, d3⟩ := ch_at hc3 hkl
    simp only [Nat.zero_add] at d0 d1 d2 d3
    have hgf : ∀ j, w2.frozen? ⟨g, j, none⟩ = false := fun j => by
      obtain ⟨E, cu, fz, hE, hbk⟩ := typed_own H.out.1.1.kids g rfl ((H.out.1.1.kids.lt g rfl).2)
      obtain ⟨g', cap', cur', hv', _, _, hb', _⟩ := own_blockK H.out.1.1.kids (by omega)
      injection hv' with hv' _ _
      injection hv' with hv'
      injection hv' with hv' _ _
      subst hv'
      simp [World.frozen?, hb']
    have f1 := hgf (k * 4 + 1)
    have f2 := hgf (k * 4 + 2)
    have f3 := hgf (k * 4 + 3)
    have r0 := H.out.1.2.cell 0; have r1 := H.out.1.2.cell 1
    simp only [List.getElem?_toArray, List.getElem?_cons_zero, List.getElem?_cons_succ] at r0 r1
    have HV := Lib.hid (H.out.1.1.give (z := z) hkl)
    clear hc3 hgf h1 hkg HG hv3
    obtain ⟨G, hG⟩ : ∃ G, s.kids[k].given = G := ⟨_, rfl⟩
    rw [hG] at d1 HGG
    clear hG
    cases G
    · cases hrs : s.result with
      | some zz =>
        have hrt := H.out.1.1.rs
        rw [hrs] at hrt
        obtain ⟨zb, rfl, hzb⟩ := hrt
        have HE := Lib.hid (HGG.out _ rfl)
        rw [hrs] at HE
        clear hrs hzb hk d0 d2 d3 f1 f2 f3 r0 r1
        go_wp2_with fail
        go_ret
        refine ⟨by rw [HE.out]; rfl, by rw [HE.out]; exact H.out.1.1, .of_below (by rw [HBB.out]; exact H.out.2)⟩
      | none =>
        have hrt := H.out.1.1.rs
        rw [hrs] at hrt
        simp only [RsAt] at hrt
        subst hrt
        have HE := Lib.hid (show giveV s c z = (0, { s with kids := s.kids.set k ⟨s.kids[k].into, true, z⟩ }) from HGG.out _ (by rw [if_neg (by simp), if_neg (by rw [hrs]; simp)]))
        have hbs := box_typed H.out.1.2 ((Fr.refl (fun i => i = g) w2).setCell (p := ⟨g, k * 4 + 1, none⟩) rfl (.bool true)) (fun i hi hl => typed_own H.out.1.1.kids i (by rw [hi]; rfl) hl) (by decide)
        have s0 := hbs.cell 0; have s1 := hbs.cell 1
        simp only [List.getElem?_toArray, List.getElem?_cons_zero, List.getElem?_cons_succ] at s0 s1
        clear hrs hk hbs
        go_upto_region 9 with fail
        go_region
        go_wp2_with fail
        go_ret
        refine ⟨by rw [HE.out]; rfl, ?_, ?_⟩
        · rw [HE.out]
          exact HV.out.1.below (Below.refl _ _).drew
        · refine ((Fr.of_below (by rw [HBB.out]; exact H.out.2)).trans (HV.out.2.mono fun i hi => ?_)).drew
          subst hi; rfl
    · have HE := Lib.hid (HGG.out _ rfl)
      clear hk d0 d2 d3 f1 f2 f3 r0 r1
      go_wp2_with fail
      go_ret
      refine ⟨by rw [HE.out]; rfl, by rw [HE.out]; exact H.out.1.1, .of_below (by rw [HBB.out]; exact H.out.2)⟩
set_option maxHeartbeats 1600000 in
set_option maxRecDepth 100000 in
theorem vwaits_any {x r : Nat} {pv : Value} {t : Tk} {av kv wv rv : Value} {s : Vs} {w : World} {p : List Fnc} (h : Vm x r pv t av kv wv rv s w) (hpr : ProgAt w pv p) (hl : 0 < p.length) (hk16 : s.kids.length ≤ 16) :
    Calls Tryz.prog 15 #[.pointer (some ⟨x, 0, none⟩)] w fun e w' => ∃ v, e = .returned v ∧ w'.ownsRow w.heap.size IntT 1 v (waitsV s).length ((waitsV s).flatMap encN1) ∧ Below w.heap.size w w' := by
  have HN := Lib.hid (none_any h hpr hl)
  have H := Lib.hid h
  obtain ⟨ka, kc, hkv⟩ := own_slice h.kids
  subst hkv
  have x8 := (vm_cells h).2.2.2.2.2.2.1
  clear h hpr hl
  go_enter Tryz.func15, Tryz.ntmps15
  go_wp2_with fail
  refine HN.out.mono ?_
  rintro e w2 ⟨rfl, rfl⟩
  go_wp2_with fail
  go_loopg [2, 3, 4, 12] s.kids.length (fun gk t2 t3 t4 i wr => ∃ (k : Nat) (v : Value), gk + k = s.kids.length ∧ i = .int .i64 k ∧ v = t2 ∧ Hid (wr.ownsRow w2.heap.size IntT 1 v (waitsL k s.kids).length ((waitsL k s.kids).flatMap encN1) ∧ Below w2.heap.size w2 wr))
  case atStart => exact ⟨0, .slice none 0 0, by omega, rfl, rfl, World.ownsRow_nil _ _ _ _, Below.refl _ _⟩
  case round =>
    obtain ⟨k, v, hk, rfl, rfl, HR⟩ := hrel
    by_cases hlt : k < s.kids.length
    · have q4 : (k : Int) < s.kids.length := by omega
      have q5 : (0 : Int) ≤ k := by omega
      have q6 : IntKind.i64.wrap ((k : Int) + 1) = (k : Int) + 1 := IntWalk.i64_in _ (by omega)
      have HK := Lib.hid (own_below H.out.kids HR.out.2)
      obtain ⟨b3, off3, c3, he3, _, hc3⟩ := (own_readsK (enc := encCh) (k := 4) encCh_len (by decide) HK.out).at (by omega)
      injection he3 with he3 hnn hcc
      subst he3
      subst hcc
      clear hnn
      obtain ⟨d0, d1, d2, d3⟩ := ch_at hc3 hlt
      have hkg : s.kids.getD k default = s.kids[k] := by
        rw [List.getD_eq_getElem?_getD, List.getElem?_eq_getElem hlt]; rfl
      have HWL := Lib.hid (show waitsL (k + 1) s.kids = waitsL k s.kids ++ (if s.kids[k].given then [] else [(k : Int) + 1]) by rw [← hkg]; rfl)
      have hwl := waitsL_len k s.kids
      obtain ⟨va, vc, hv⟩ := own_slice HR.out.1
      subst hv
      clear hc3 hkg
      generalize s.kids[k] = cc at *
      have hA := alV wr (.cells #[.int .i64 cc.into, .bool cc.given, .int .i64 cc.r.v, .int .i64 cc.r.e] ChT)
      have hcb : BoxAt (wr.alloc (.cells #[.int .i64 cc.into, .bool cc.given, .int .i64 cc.r.v, .int .i64 cc.r.e] ChT)) wr.heap.size #[.int .i64 cc.into, .bool cc.given, .int .i64 cc.r.v, .int .i64 cc.r.e] ChT := heap_alloc_new _ _
      have HA := Lib.hid (show (wr.alloc (.cells #[.int .i64 cc.into, .bool cc.given, .int .i64 cc.r.v, .int .i64 cc.r.e] ChT)).ownsRow w2.heap.size IntT 1 (.slice va (waitsL k s.kids).length vc) (waitsL k s.kids).length ((waitsL k s.kids).flatMap encN1) ∧ Below w2.heap.size w2 (wr.alloc (.cells #[.int .i64 cc.into, .bool cc.given, .int .i64 cc.r.v, .int .i64 cc.r.e] ChT)) from ⟨own_below HR.out.1 hA, gthen HR.out.2 hA⟩)
      have y1 := hcb.cell 1
      simp only [List.getElem?_toArray, List.getElem?_cons_zero, List.getElem?_cons_succ] at y1
      clear hA hcb HR HK
      go_upto_region 6 with fail
      clear d0 d1 d2 d3
      generalize wr.alloc (.cells #[.int .i64 cc.into, .bool cc.given, .int .i64 cc.r.v, .int .i64 cc.r.e] ChT) = w4 at *
      cases hg : cc.given
      · rw [hg] at y1 HWL
        have HL := Lib.hid (show waitsL (k + 1) s.kids = waitsL k s.kids ++ [(k : Int) + 1] from by rw [HWL.out]; rfl)
        clear hg HWL
        obtain ⟨n, hn⟩ : ∃ n, (waitsL k s.kids).length = n := ⟨_, rfl⟩
        rw [hn] at HA hwl ⊢
        have HNN := Lib.hid hn
        clear hn
        obtain ⟨ig, hig, hg0, hg1, hg2⟩ := info_parts info_int
        obtain ⟨v', w5, hap, hown, hgrow, _⟩ := run_append_own (P := Tryz.prog) (w := w4.alloc (.cells #[.int .i64 ((k : Int) + 1)] 3)) w2.heap.size 59 59 3 ig (.int .i64 0) 1 8 Tryz.underlying59 hig hg0 hg1 hg2 rfl (by decide) (.slice va n vc) n ((waitsL k s.kids).flatMap encN1) (own_below HA.out.1 (alV _ _)) ⟨w4.heap.size, 0, none⟩ 1 1 (encN1 ((k : Int) + 1)) rfl (one_int w4 _) (by intro v hv; simp [encN1] at hv; subst hv; rfl) (by unfold maxLen; omega) (by omega) (by have := HA.out.2.size; simp; omega)
        have hF5 := grow_fr' (alV w4 (.cells #[.int .i64 ((k : Int) + 1)] 3)) hgrow
        have HN := Lib.hid (show w5.ownsRow w2.heap.size IntT 1 v' (waitsL (k + 1) s.kids).length ((waitsL (k + 1) s.kids).flatMap encN1) ∧ Below w2.heap.size w2 w5 from by
          refine ⟨?_, HA.out.2.trans (hF5.below (fun i hi => (HA.out.1.lt i hi).1) HA.out.2.size)⟩
          rw [HL.out, List.length_append, HNN.out, List.flatMap_append]
          simpa using hown)
        clear hgrow hown hF5 ig hig hg0 hg1 hg2
        go_wp2_with (at_builtin; refine wpList_arunC rfl _ _ _ _ rfl rfl rfl hap ?_)
        go_roundg (gk - 1)
        case rel => exact ⟨k + 1, _, by omega, by go_num, rfl, HN⟩
        case measure => omega
      · rw [hg] at y1 HWL
        have HL := Lib.hid (show waitsL (k + 1) s.kids = waitsL k s.kids from by rw [HWL.out]; simp)
        clear hg HWL
        go_wp2_with fail
        go_roundg (gk - 1)
        case rel => exact ⟨k + 1, _, by omega, by go_num, rfl, by rw [HL.out]; exact HA.out⟩
        case measure => omega
    · have hkl : k = s.kids.length := by omega
      subst hkl
      have q4 : ¬ (s.kids.length : Int) < s.kids.length := by omega
      go_wp2_with fail
      go_ret
      exact ⟨_, rfl, HR.out.1, HR.out.2⟩
end Go.Proofs.YtdhbjejejeljoaaGreat
namespace Go.Proofs.YtdhbjejejeljoaaGreat
open Go.RowKit Go.Sort Go.Lib

theorem vtask_set {w : World} {b : Nat} {a a' : ByteArray} {n u n' u' : Int} {v v' : Value} (h : BoxAt w b (taC a n v u) TaskT) : BoxAt ((((w.setCell ⟨b, 0, none⟩ (.string a')).setCell ⟨b, 1, none⟩ (.int .i64 n')).setCell ⟨b, 2, none⟩ v').setCell ⟨b, 3, none⟩ (.int .i64 u')) b (taC a' n' v' u') TaskT ∧
    Fr (fun i => i = b) w ((((w.setCell ⟨b, 0, none⟩ (.string a')).setCell ⟨b, 1, none⟩ (.int .i64 n')).setCell ⟨b, 2, none⟩ v').setCell ⟨b, 3, none⟩ (.int .i64 u')) := by
  have h1 := Go.heap_setCell_same w b 0 _ _ (.string a') h
  have h2 := Go.heap_setCell_same _ b 1 _ _ (.int .i64 n') h1
  have h3 := Go.heap_setCell_same _ b 2 _ _ v' h2
  exact ⟨Go.heap_setCell_same _ b 3 _ _ (.int .i64 u') h3, ((((Fr.refl (fun i => i = b) w).setCell (p := ⟨b, 0, none⟩) rfl _).setCell (p := ⟨b, 1, none⟩) rfl _).setCell (p := ⟨b, 2, none⟩) rfl _).setCell (p := ⟨b, 3, none⟩) rfl _⟩
set_option maxHeartbeats 1600000 in
set_option maxRecDepth 100000 in
theorem vtask_any {x r : Nat} {pv : Value} {t : Tk} {av kv wv rv : Value} {s : Vs} {w : World} {p : List Fnc} (h : Vm x r pv t av kv wv rv s w) (hpr : ProgAt w pv p) (hl : 0 < p.length) (hav : ReadsK encN1 1 w av t.args) (hal : t.args.length ≤ 1000) :
    Calls Tryz.prog 19 #[.pointer (some ⟨x, 0, none⟩)] w fun e w' => ∃ v, e = .returned (.agg #[.string t.p, .int .i64 t.fn, v, .int .i64 t.fuel]) ∧ w'.ownsRow w.heap.size I64T 1 v t.args.length (t.args.flatMap encN1) ∧ Below w.heap.size w w' := by
  have hA := alV w (.cells (taC ⟨#[]⟩ 0 (.slice none 0 0) 0) TaskT)
  have hb : BoxAt (w.alloc (.cells (taC ⟨#[]⟩ 0 (.slice none 0 0) 0) TaskT)) w.heap.size (taC ⟨#[]⟩ 0 (.slice none 0 0) 0) TaskT := heap_alloc_new _ _
  have HN := Lib.hid (none_any (h.below hA) (hpr.below hA) hl)
  have HR := Lib.hid (hav.below hA)
  have HV := Lib.hid (h.below hA)
  obtain ⟨b, hbb⟩ : ∃ b, w.heap.size = b := ⟨_, rfl⟩
  have HW := Lib.hid (And.intro hA hbb)
  rw [hbb] at hb
  have HB := Lib.hid hb
  obtain ⟨aa, ac, rfl⟩ := hav.slice
  clear h hpr hb hA hl hav
  go_enter Tryz.func19, Tryz.ntmps19
  go_upto_region 1 with fail
  simp only [taC] at HN HR HV HB HW
  generalize w.alloc (.cells #[.string ⟨#[]⟩, .int .i64 0, .slice none 0 0, .int .i64 0] TaskT) = w1 at *
  clear hbb
  go_wp2_with fail
  refine HN.out.mono ?_
  rintro e w2 ⟨rfl, rfl⟩
  have x1 := HV.out.box.cell 1; have x2 := HV.out.box.cell 2; have x3 := HV.out.box.cell 3; have x4 := HV.out.box.cell 4
  simp only [vmC, List.getElem?_toArray, List.getElem?_cons_zero, List.getElem?_cons_succ] at x1 x2 x3 x4
  go_upto_region 4 with fail
  have hA3 := alV w2 (.cells (taC t.p t.fn (.slice aa t.args.length ac) t.fuel) TaskT)
  have hb3 : BoxAt (w2.alloc (.cells (taC t.p t.fn (.slice aa t.args.length ac) t.fuel) TaskT)) w2.heap.size (taC t.p t.fn (.slice aa t.args.length ac) t.fuel) TaskT := heap_alloc_new _ _
  have H3 := Lib.hid (show (BoxAt (w2.alloc (.cells (taC t.p t.fn (.slice aa t.args.length ac) t.fuel) TaskT)) b (taC ⟨#[]⟩ 0 (.slice none 0 0) 0) TaskT ∧ BoxAt (w2.alloc (.cells (taC t.p t.fn (.slice aa t.args.length ac) t.fuel) TaskT)) w2.heap.size (taC t.p t.fn (.slice aa t.args.length ac) t.fuel) TaskT) ∧ Below w.heap.size w (w2.alloc (.cells (taC t.p t.fn (.slice aa t.args.length ac) t.fuel) TaskT)) from
    ⟨⟨BoxAt.below HB.out hA3, hb3⟩, gthen HW.out.1 hA3⟩)
  have HR3 := Lib.hid (HR.out.below hA3)
  have HLT := Lib.hid (show b < w2.heap.size from (Array.getElem?_eq_some_iff.1 HB.out).1)
  clear hA3 hb3 x1 x2 x3 x4 HR HB HV
  simp only [taC] at H3 HR3
  generalize w2.alloc (.cells #[.string t.p, .int .i64 t.fn, .slice aa t.args.length ac, .int .i64 t.fuel] TaskT) = w3 at *
  generalize w2.heap.size = tb at *
  have z2 := H3.out.1.2.cell 2
  simp only [List.getElem?_toArray, List.getElem?_cons_zero, List.getElem?_cons_succ] at z2
  go_wp2_with fail
  refine (clone_any _ t.args _ HR3.out (by omega)).mono ?_
  rintro e w4 ⟨va, vc, rfl, ho, hB⟩
  have H4 := Lib.hid (show (BoxAt w4 b (taC ⟨#[]⟩ 0 (.slice none 0 0) 0) TaskT ∧ BoxAt w4 tb (taC t.p t.fn (.slice aa t.args.length ac) t.fuel) TaskT) ∧ Below w.heap.size w w4 from ⟨⟨BoxAt.below H3.out.1.1 hB, BoxAt.below H3.out.1.2 hB⟩, gthen H3.out.2 hB⟩)
  have HO := Lib.hid (show w4.ownsRow w.heap.size I64T 1 (.slice va t.args.length vc) t.args.length (t.args.flatMap encN1) from owns_monoG ho H3.out.2.size)
  clear ho hB H3 z2 HR3
  have z2 := H4.out.1.2.cell 2; have fz2 := H4.out.1.2.frozen 2
  simp only [taC, List.getElem?_toArray, List.getElem?_cons_zero, List.getElem?_cons_succ] at z2
  go_upto_region 5 with fail
  have hb5 : BoxAt (w4.setCell ⟨tb, 2, none⟩ (.slice va t.args.length vc)) tb (taC t.p t.fn (.slice va t.args.length vc) t.fuel) TaskT := Go.heap_setCell_same w4 tb 2 _ _ _ H4.out.1.2
  have hF5 : Fr (fun i => i = tb) w4 (w4.setCell ⟨tb, 2, none⟩ (.slice va t.args.length vc)) := (Fr.refl (fun i => i = tb) w4).setCell (p := ⟨tb, 2, none⟩) rfl _
  have hwb : w.heap.size ≤ tb := by have h1 := HLT.out; have h2 := HW.out.2; omega
  have H5 := Lib.hid (show (BoxAt (w4.setCell ⟨tb, 2, none⟩ (.slice va t.args.length vc)) b (taC ⟨#[]⟩ 0 (.slice none 0 0) 0) TaskT ∧ BoxAt (w4.setCell ⟨tb, 2, none⟩ (.slice va t.args.length vc)) tb (taC t.p t.fn (.slice va t.args.length vc) t.fuel) TaskT) ∧ Below w.heap.size w (w4.setCell ⟨tb, 2, none⟩ (.slice va t.args.length vc)) ∧ (w4.setCell ⟨tb, 2, none⟩ (.slice va t.args.length vc)).ownsRow w.heap.size I64T 1 (.slice va t.args.length vc) t.args.length (t.args.flatMap encN1) from
    ⟨⟨H4.out.1.1.fr hF5 (by have := HLT.out; omega), hb5⟩, H4.out.2.trans (hF5.below (fun i hi => by omega) H4.out.2.size), own_typed HO.out hF5 (typed_box H4.out.1.2) (by decide)⟩)
  clear hb5 hF5 H4 HO z2 fz2 hwb
  generalize w4.setCell ⟨tb, 2, none⟩ (.slice va t.args.length vc) = w5 at *
  have z0 := H5.out.1.2.cell 0; have z1 := H5.out.1.2.cell 1; have z2 := H5.out.1.2.cell 2; have z3 := H5.out.1.2.cell 3
  have r0 := H5.out.1.1.cell 0; have r1 := H5.out.1.1.cell 1; have r2 := H5.out.1.1.cell 2; have r3 := H5.out.1.1.cell 3
  have f0 := H5.out.1.1.frozen 0; have f1 := H5.out.1.1.frozen 1; have f2 := H5.out.1.1.frozen 2; have f3 := H5.out.1.1.frozen 3
  simp only [taC, List.getElem?_toArray, List.getElem?_cons_zero, List.getElem?_cons_succ] at z0 z1 z2 z3 r0 r1 r2 r3
  go_wp2_with fail
  obtain ⟨hb6, hF6⟩ := vtask_set (a' := t.p) (n' := t.fn) (v' := .slice va t.args.length vc) (u' := t.fuel) H5.out.1.1
  refine vtask_end hb6 rfl ⟨_, rfl, own_typed H5.out.2.2 hF6 (typed_box H5.out.1.1) (by decide), ?_⟩
  exact H5.out.2.1.trans (hF6.below (fun i hi => by have := HW.out.2; omega) H5.out.2.1.size)
set_option maxHeartbeats 800000 in
set_option maxRecDepth 100000 in
theorem cloneO_any (v : Value) (l : List Opr) (w : World) (h : ReadsK encO 5 w v l) (hl : l.length ≤ 1000) :
    Calls Tryz.prog 46 #[v] w fun e w' => ∃ aa ac, e = .returned (.slice aa l.length ac) ∧ w'.ownsRow w.heap.size OpT 5 (.slice aa l.length ac) l.length (l.flatMap encO) ∧ Below w.heap.size w w' := by
  have q36 : ∀ (w : World) (a : Option Addr) (n c n' c' : Nat), (binOp .eql 75 (.slice a n c) (.slice none n' c')).run Tryz.prog w = .ok (.bool a.isNone) w := fun w a n c n' c' => Lib.run_eql_slice_nil w _ _ a n c n' c' Tryz.underlying75
  have hB1 := alV w (.cells #[] OpT)
  obtain ⟨v', w1, hap, hown, hgrow⟩ := run_appK (enc := encO) (k := 5) (bytes := 40) (B := w.heap.size) (w := w.alloc (.cells #[] OpT)) (v := .slice (some ⟨w.heap.size, 0, none⟩) 0 0) (u := v) (xs := []) (ys := l) Tryz.underlying75 info_op rfl (by decide) (fun _ => rfl) encO_one 75 (World.ownsRow_made w #[] 0 (Nat.le_refl _) (Nat.zero_le _) (by simp)) (h.below hB1) (by simp; omega) (by decide) (by simp)
  have hB : Below w.heap.size w w1 := hB1.grown hgrow (by simp) (by intro k hk; simp [Value.ownBlock] at hk; omega)
  simp only [List.nil_append] at hown
  obtain ⟨a1, c1, rfl⟩ := own_slice hown
  have HO := Lib.hid (And.intro hown hB)
  have main : ∀ (ad : Addr) (cap : Nat), v = .slice (some ad) l.length cap →
      Calls Tryz.prog 46 #[v] w fun e w' => ∃ aa ac, e = .returned (.slice aa l.length ac) ∧ w'.ownsRow w.heap.size OpT 5 (.slice aa l.length ac) l.length (l.flatMap encO) ∧ Below w.heap.size w w' := by
    rintro ad cap rfl
    clear h hB hown hgrow
    go_enter Tryz.func46, Tryz.ntmps46
    go_wp2_with (at_builtin; refine wpList_arunC rfl _ _ _ _ rfl rfl rfl hap ?_)
    go_ret
    exact ⟨a1, c1, rfl, HO.out.1, HO.out.2⟩
  rcases h with ⟨rfl, a, cap, rfl⟩ | ⟨b, off, cap, rfl, hb, hc⟩
  · cases a with
    | none =>
      clear main hap hB hown hgrow
      go_enter Tryz.func46, Tryz.ntmps46
      go_wp2_with fail
      go_ret
      exact ⟨none, 0, rfl, World.ownsRow_nil _ _ _ _, Below.refl _ _⟩
    | some ad => exact main ad cap rfl
  · exact main _ _ rfl
set_option maxHeartbeats 800000 in
set_option maxRecDepth 100000 in
theorem cloneF_any (v : Value) (l : List Fnc) (w : World) (h : ReadsK encF 3 w v l) (hl : l.length ≤ 1000) :
    Calls Tryz.prog 45 #[v] w fun e w' => ∃ aa ac, e = .returned (.slice aa l.length ac) ∧ w'.ownsRow w.heap.size FnT 3 (.slice aa l.length ac) l.length (l.flatMap encF) ∧ Below w.heap.size w w' := by
  have q36 : ∀ (w : World) (a : Option Addr) (n c n' c' : Nat), (binOp .eql 22 (.slice a n c) (.slice none n' c')).run Tryz.prog w = .ok (.bool a.isNone) w := fun w a n c n' c' => Lib.run_eql_slice_nil w _ _ a n c n' c' Tryz.underlying22
  have hB1 := alV w (.cells #[] FnT)
  obtain ⟨v', w1, hap, hown, hgrow⟩ := run_appK (enc := encF) (k := 3) (bytes := 40) (B := w.heap.size) (w := w.alloc (.cells #[] FnT)) (v := .slice (some ⟨w.heap.size, 0, none⟩) 0 0) (u := v) (xs := []) (ys := l) Tryz.underlying22 info_fn rfl (by decide) (fun _ => rfl) encF_one 22 (World.ownsRow_made w #[] 0 (Nat.le_refl _) (Nat.zero_le _) (by simp)) (h.below hB1) (by simp; omega) (by decide) (by simp)
  have hB : Below w.heap.size w w1 := hB1.grown hgrow (by simp) (by intro k hk; simp [Value.ownBlock] at hk; omega)
  simp only [List.nil_append] at hown
  obtain ⟨a1, c1, rfl⟩ := own_slice hown
  have HO := Lib.hid (And.intro hown hB)
  have main : ∀ (ad : Addr) (cap : Nat), v = .slice (some ad) l.length cap →
      Calls Tryz.prog 45 #[v] w fun e w' => ∃ aa ac, e = .returned (.slice aa l.length ac) ∧ w'.ownsRow w.heap.size FnT 3 (.slice aa l.length ac) l.length (l.flatMap encF) ∧ Below w.heap.size w w' := by
    rintro ad cap rfl
    clear h hB hown hgrow
    go_enter Tryz.func45, Tryz.ntmps45
    go_wp2_with (at_builtin; refine wpList_arunC rfl _ _ _ _ rfl rfl rfl hap ?_)
    go_ret
    exact ⟨a1, c1, rfl, HO.out.1, HO.out.2⟩
  rcases h with ⟨rfl, a, cap, rfl⟩ | ⟨b, off, cap, rfl, hb, hc⟩
  · cases a with
    | none =>
      clear main hap hB hown hgrow
      go_enter Tryz.func45, Tryz.ntmps45
      go_wp2_with fail
      go_ret
      exact ⟨none, 0, rfl, World.ownsRow_nil _ _ _ _, Below.refl _ _⟩
    | some ad => exact main ad cap rfl
  · exact main _ _ rfl
end Go.Proofs.YtdhbjejejeljoaaGreat
namespace Go.Proofs.YtdhbjejejeljoaaGreat
open Go.RowKit Go.Sort Go.Lib

abbrev PrgT : TypeId := 24
/-- The same functions, wherever their ops lie. -/
def SameP (p q : List Fnc) : Prop := q.length = p.length ∧ ∀ (i : Nat) (h : i < p.length) (h' : i < q.length), FnEq p[i] q[i]
def CopyVP (p : List Fnc) (w : World) (e : Ending) (w' : World) : Prop := ∃ (v : Value) (p' : List Fnc), e = .returned (.agg #[v]) ∧ Below w.heap.size w w' ∧ ProgOwn w.heap.size w' v p' ∧ SameP p p'
theorem copied_end {wz : World} {tmps : Array Value} {b : Nat} {v : Value} {R : Ending → World → Prop}
    (hb : BoxAt wz b #[v] PrgT) (h2 : tmps.getD 2 undef = .pointer (some ⟨b, 0, none⟩)) (hR : R (.returned (.agg #[v])) wz) :
    bodyPost Tryz.prog Tryz.f26 R Exit.ret { tmps := tmps, defers := [] } wz := by
  have k0 := hb.cell 0
  simp only [List.getElem?_toArray, List.getElem?_cons_zero] at k0
  refine bodyPost_ret (v := .agg #[v]) ?_ rfl hR
  have h2' : tmps[2]?.getD undef = .pointer (some ⟨b, 0, none⟩) := by simpa using h2
  simp [results, Tryz.results26, go_sem, h2', k0]
theorem flat_setFn (L : List Fnc) (i : Nat) (h : i < L.length) (f : Fnc) (ha : f.args = L[i].args) (hr : f.regs = L[i].regs) : (L.flatMap encF).set (i * 3 + 2) (.slice f.oa f.ops.length f.oc) = (L.set i f).flatMap encF := by
  induction L generalizing i with
  | nil => simp at h
  | cons g L ih =>
    cases i with
    | zero =>
      simp only [List.getElem_cons_zero] at ha hr
      simp [encF, ha, hr]
    | succ i =>
      rw [List.flatMap_cons, List.set_cons_succ, List.flatMap_cons, List.set_append_right _ _ (by simp [encF]; omega)]
      rw [show (i + 1) * 3 + 2 - (encF g).length = i * 3 + 2 by simp [encF]; omega, ih i (by simpa using h) (by simpa using ha) (by simpa using hr)]
/-- The first k functions have ops of their own. -/
structure CpV (B pb rb g cap : Nat) (p : List Fnc) (k : Nat) (q : List Fnc) (w : World) : Prop where
  pbox : BoxAt w pb #[.slice (some ⟨g, 0, none⟩) p.length cap] PrgT
  rbox : BoxAt w rb #[.slice none 0 0] PrgT
  own : w.ownsRow B FnT 3 (.slice (some ⟨g, 0, none⟩) p.length cap) p.length (q.flatMap encF)
  len : q.length = p.length
  did : ∀ (j : Nat) (h : j < p.length) (h' : j < q.length), j < k → FnEq p[j] q[j] ∧ OpsOwn B w q[j]
  old : ∀ (j : Nat) (h : j < p.length) (h' : j < q.length), k ≤ j → q[j] = p[j]
theorem CpV.next {B pb rb g cap : Nat} {p : List Fnc} {k : Nat} {q : List Fnc} {w w5 : World} {aa : Option Addr} {ac : Nat} (h : CpV B pb rb g cap p k q w) (hk : k < p.length) (hB : Below w.heap.size w w5) (hb : B ≤ w.heap.size)
    (ho : w5.ownsRow w.heap.size OpT 5 (.slice aa p[k].ops.length ac) p[k].ops.length (p[k].ops.flatMap encO)) :
    ∃ q', CpV B pb rb g cap p (k + 1) q' (w5.setCell ⟨g, k * 3 + 2, none⟩ (.slice aa p[k].ops.length ac)) ∧ Below B w (w5.setCell ⟨g, k * 3 + 2, none⟩ (.slice aa p[k].ops.length ac)) := by
  have hkq : k < q.length := by rw [h.len]; exact hk
  have hqk := h.old k hk hkq (Nat.le_refl _)
  have ho5 := own_below h.own hB
  have hF : Fr (fun i => i = g) w5 (w5.setCell ⟨g, k * 3 + 2, none⟩ (.slice aa p[k].ops.length ac)) := (Fr.refl (fun i => i = g) w5).setCell (p := ⟨g, k * 3 + 2, none⟩) rfl _
  have hT : Typed (fun i => i = g) w5 [FnT] := fun i hi hl => typed_own ho5 i (by rw [hi]; rfl) hl
  have ho6 := own_set ho5 (j := k * 3 + 2) (v := .slice aa p[k].ops.length ac)
  have hgl : B ≤ g := (h.own.lt g rfl).1
  rw [flat_setFn q k hkq ⟨p[k].args, p[k].regs, p[k].ops, aa, ac⟩ (by rw [hqk]) (by rw [hqk])] at ho6
  refine ⟨q.set k ⟨p[k].args, p[k].regs, p[k].ops, aa, ac⟩, ⟨box_typed (h.pbox.below hB) hF hT (by decide), box_typed (h.rbox.below hB) hF hT (by decide), ho6, by simpa using h.len, fun j h1 h2 h3 => ?_, fun j h1 h2 h3 => ?_⟩, (hB.mono hb).trans (hF.below (fun i hi => by omega) (Nat.le_trans hb hB.size))⟩
  · by_cases hj : j = k
    · subst hj
      rw [List.getElem_set_self]
      exact ⟨⟨rfl, rfl, rfl⟩, own_typed (owns_monoG ho hb) hF hT (by decide)⟩
    · rw [List.getElem_set_ne (by omega)]
      obtain ⟨g1, g2⟩ := h.did j h1 (by simpa using h2) (by omega)
      exact ⟨g1, own_typed (own_below g2 hB) hF hT (by decide)⟩
  · rw [List.getElem_set_ne (by omega)]
    exact h.old j h1 (by simpa using h2) (by omega)
set_option maxHeartbeats 6400000 in
set_option maxRecDepth 100000 in
theorem copied_any (pv : Value) (p : List Fnc) (w : World) (hp : ProgAt w pv p) (hl : 0 < p.length) :
    Calls Tryz.prog 26 #[.agg #[pv]] w (CopyVP p w) := by
  obtain ⟨pa, pc, rfl⟩ := hp.fns.slice
  have hA1 : Below w.heap.size w (w.alloc (.cells #[.slice pa p.length pc] PrgT)) := alV _ _
  have hA2 : Below (w.alloc (.cells #[.slice pa p.length pc] PrgT)).heap.size _ ((w.alloc (.cells #[.slice pa p.length pc] PrgT)).alloc (.cells #[.slice none 0 0] PrgT)) := alV _ _
  have b1 : BoxAt (w.alloc (.cells #[.slice pa p.length pc] PrgT)) w.heap.size #[.slice pa p.length pc] PrgT := heap_alloc_new _ _
  have b2 : BoxAt ((w.alloc (.cells #[.slice pa p.length pc] PrgT)).alloc (.cells #[.slice none 0 0] PrgT)) (w.heap.size + 1) #[.slice none 0 0] PrgT := by
    have h1 := heap_alloc_new (w.alloc (.cells #[.slice pa p.length pc] PrgT)) (.cells #[.slice none 0 0] PrgT)
    rwa [World.size_alloc] at h1
  have hsz : ((w.alloc (.cells #[.slice pa p.length pc] PrgT)).alloc (.cells #[.slice none 0 0] PrgT)).heap.size = w.heap.size + 2 := by simp
  have H1 := Lib.hid (And.intro (And.intro (BoxAt.below b1 hA2) b2) (And.intro (gthen hA1 hA2) hsz))
  have HP := Lib.hid hp
  have hlen := hp.len
  clear hp hA1 hA2 b1 b2 hsz
  go_enter Tryz.func26, Tryz.ntmps26
  go_upto_region 1 with fail
  generalize (w.alloc (.cells #[.slice pa p.length pc] PrgT)).alloc (.cells #[.slice none 0 0] PrgT) = w1 at *
  have c0 := H1.out.1.1.cell 0
  simp only [List.getElem?_toArray, List.getElem?_cons_zero] at c0
  go_wp2_with fail
  refine (cloneF_any _ p _ (HP.out.below H1.out.2.1).fns hlen).mono ?_
  rintro e w2 ⟨ga, cap, rfl, ho, hB⟩
  obtain ⟨g, cap', cur, hv, hgb, _⟩ := own_blockK ho (by omega)
  injection hv with hv1 hv2 hv3
  subst hv1
  subst hv3
  clear hv2
  have hb2 := H1.out.1.1.below hB
  have hF : Fr (fun i => i = w.heap.size) w2 (w2.setCell ⟨w.heap.size, 0, none⟩ (.slice (some ⟨g, 0, none⟩) p.length cap)) := (Fr.refl (fun i => i = w.heap.size) w2).setCell (p := ⟨w.heap.size, 0, none⟩) rfl _
  have hT := typed_box hb2
  have H3 := Lib.hid (show CpV w.heap.size w.heap.size (w.heap.size + 1) g cap p 0 p (w2.setCell ⟨w.heap.size, 0, none⟩ (.slice (some ⟨g, 0, none⟩) p.length cap)) ∧ Below w.heap.size w (w2.setCell ⟨w.heap.size, 0, none⟩ (.slice (some ⟨g, 0, none⟩) p.length cap)) from
    ⟨⟨Go.heap_setCell_same w2 w.heap.size 0 _ _ _ hb2, (H1.out.1.2.below hB).fr hF (by omega), own_typed (owns_monoG ho (by have := H1.out.2.2; omega)) hF hT (by decide), rfl, fun j h1 h2 h3 => by omega, fun j h1 h2 h3 => rfl⟩,
     (gthen H1.out.2.1 hB).trans (hF.below (fun i hi => by omega) (gthen H1.out.2.1 hB).size)⟩)
  have y0 := hb2.cell 0; have fy0 := hb2.frozen 0
  simp only [List.getElem?_toArray, List.getElem?_cons_zero] at y0
  clear hF hT hb2 ho hB hgb c0
  go_upto_region 2 with fail
  clear y0 fy0 H1
  generalize w2.setCell ⟨w.heap.size, 0, none⟩ (.slice (some ⟨g, 0, none⟩) p.length cap) = w3 at *
  have z0 := H3.out.1.pbox.cell 0
  simp only [List.getElem?_toArray, List.getElem?_cons_zero] at z0
  go_wp2_with fail
  clear z0
  go_loopg [3, 11] p.length (fun gk t3 i wr => ∃ (k : Nat) (q : List Fnc), gk + k = p.length ∧ i = .int .i64 k ∧ Hid (CpV w.heap.size w.heap.size (w.heap.size + 1) g cap p k q wr ∧ Below w.heap.size w wr))
  case atStart => exact ⟨0, p, by omega, rfl, H3.out⟩
  case round =>
    clear H3
    obtain ⟨k, q, hk, rfl, HR⟩ := hrel
    by_cases hlt : k < p.length
    · have q4 : (k : Int) < p.length := by omega
      have q5 : (0 : Int) ≤ k := by omega
      have hkq : k < q.length := by rw [HR.out.1.len]; exact hlt
      obtain ⟨b3, off3, c3, he3, _, hc3⟩ := (own_readsK (enc := encF) (k := 3) (fun _ => rfl) (by decide) (show wr.ownsRow w.heap.size FnT 3 (.slice (some ⟨g, 0, none⟩) p.length cap) q.length (q.flatMap encF) from by rw [HR.out.1.len]; exact HR.out.1.own)).at (by omega)
      injection he3 with he3 hnn hcc
      injection he3 with he3
      injection he3 with e31 e32 _
      subst e31; subst e32
      clear hnn hcc
      obtain ⟨d0, d1, d2⟩ := fn_at hc3 hkq
      rw [HR.out.1.old k hlt hkq (Nat.le_refl _)] at d2
      simp only [Nat.zero_add] at d2
      have hops := HP.out.ops _ (List.getElem_mem hlt)
      have HOP := Lib.hid (show ∀ y, Below wr.heap.size wr y → OpsAt y p[k] from fun y hy => (hops.below HR.out.2).below hy)
      have hol := hops.2
      have HNX := Lib.hid (fun w5 aa ac (hB : Below wr.heap.size wr w5) ho => HR.out.1.next (aa := aa) (ac := ac) hlt hB HR.out.2.size ho)
      have hgf : ∀ y, Below wr.heap.size wr y → y.frozen? ⟨g, k * 3 + 2, none⟩ = false := fun y hy => by
        obtain ⟨g', cap', cur', hv', _, _, hb', _⟩ := own_blockK (own_below HR.out.1.own hy) (by omega)
        injection hv' with hv' _ _
        injection hv' with hv'
        injection hv' with hv' _ _
        subst hv'
        simp [World.frozen?, hb']
      have HGF := Lib.hid hgf
      clear d0 d1 hc3 hops hgf
      generalize p[k] = f at *
      have HC := Lib.hid (show ∀ y, Below wr.heap.size wr y → Calls Tryz.prog 46 #[.slice f.oa f.ops.length f.oc] y (fun e w' => ∃ aa ac, e = .returned (.slice aa f.ops.length ac) ∧ w'.ownsRow wr.heap.size OpT 5 (.slice aa f.ops.length ac) f.ops.length (f.ops.flatMap encO) ∧ Below wr.heap.size wr w') from fun y hy =>
        (cloneO_any _ f.ops y (HOP.out y hy).1 hol).mono fun e w' hh => by
          obtain ⟨aa, ac, h1, h2, h3⟩ := hh
          exact ⟨aa, ac, h1, owns_monoG h2 hy.size, gthen hy h3⟩)
      have z0 := HR.out.1.pbox.cell 0
      have HZ := Lib.hid (show ∀ y, Below wr.heap.size wr y → y.cell? ⟨w.heap.size, 0, none⟩ = some (.slice (some ⟨g, 0, none⟩) p.length cap) from fun y hy => (BoxAt.below HR.out.1.pbox hy).cell 0)
      have HD := Lib.hid (show ∀ y, Below wr.heap.size wr y → y.cell? ⟨g, k * 3 + 2, none⟩ = some (.slice f.oa f.ops.length f.oc) from fun y hy => (hy.cell (World.block_lt_of_cell? _ _ d2)).trans d2)
      simp only [List.getElem?_toArray, List.getElem?_cons_zero] at z0
      go_upto_region 5 with fail
      go_region_with (go_at_call 46; refine (HC.out _ (by first | exact Below.refl _ _ | exact (Below.refl _ _).drew)).mono ?_; rintro e w5 ⟨aa, ac, rfl, ho, hB⟩; have HO := Lib.hid (And.intro ho hB); have m0 := HZ.out _ hB; have m1 := HD.out _ hB; have m2 := HGF.out _ hB; clear ho hB)
      all_goals
        obtain ⟨q', hq', hB'⟩ := HNX.out _ _ _ HO.out.2 HO.out.1
        have HN := Lib.hid (show CpV w.heap.size w.heap.size (w.heap.size + 1) g cap p (k + 1) q' (w5.setCell ⟨g, k * 3 + 2, none⟩ (.slice aa f.ops.length ac)) ∧ Below w.heap.size w (w5.setCell ⟨g, k * 3 + 2, none⟩ (.slice aa f.ops.length ac)) from ⟨hq', HR.out.2.trans hB'⟩)
        clear hq' hB' m0 m1 m2 z0 d2
        go_wp2_with fail
        go_roundg (gk - 1)
        case rel => exact ⟨k + 1, q', by omega, by go_num, HN⟩
        case measure => omega
    · have hkl : k = p.length := by omega
      have q4 : ¬ (k : Int) < p.length := by omega
      have z0 := HR.out.1.pbox.cell 0
      have r0 := HR.out.1.rbox.cell 0
      have fr0 := HR.out.1.rbox.frozen 0
      simp only [List.getElem?_toArray, List.getElem?_cons_zero] at z0 r0
      have HK := Lib.hid hkl
      clear hkl
      go_wp2_with fail
      have hF : Fr (fun i => i = w.heap.size + 1) wr (wr.setCell ⟨w.heap.size + 1, 0, none⟩ (.slice (some ⟨g, 0, none⟩) p.length cap)) := (Fr.refl (fun i => i = w.heap.size + 1) wr).setCell (p := ⟨w.heap.size + 1, 0, none⟩) rfl _
      have hT := typed_box HR.out.1.rbox
      refine copied_end (Go.heap_setCell_same wr _ 0 _ _ _ HR.out.1.rbox) rfl ⟨_, q, rfl, HR.out.2.trans (hF.below (fun i hi => by omega) HR.out.2.size), ⟨?_, fun f hf => ?_⟩, HR.out.1.len, fun i h h' => (HR.out.1.did i h h' (by have := HK.out; omega)).1⟩
      · rw [HR.out.1.len]; exact own_typed HR.out.1.own hF hT (by decide)
      · obtain ⟨i, hi, rfl⟩ := List.getElem_of_mem hf
        have hl := HR.out.1.len
        exact own_typed (HR.out.1.did i (by omega) hi (by have := HK.out; omega)).2 hF hT (by decide)
end Go.Proofs.YtdhbjejejeljoaaGreat
