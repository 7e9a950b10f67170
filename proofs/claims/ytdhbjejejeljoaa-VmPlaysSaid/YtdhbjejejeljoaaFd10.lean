/- The document's frame: Run. -/
import Derived.Test.YtdhbjejejeljoaaFd9
namespace Go.Proofs.Ytdhbjejejeljoaa
open Go.RowKit Go.Sort Go.Lib

theorem drun_end {wz : World} {tmps : Array Value} {a1 a5 a6 a7 a3 x : Int} {a2 : ByteArray} {a4 : Value} {r : Nat} {T : TypeId} {R : Ending → World → Prop}
    (hr : BoxAt wz r #[.int .u8 a1, .string a2, .int .i64 a3, a4, .int .i64 a5, .int .i64 a6, .int .i64 a7] T) (h4 : tmps.getD 4 undef = .pointer (some ⟨r, 0, none⟩)) (h5 : tmps.getD 5 undef = .int .i64 x) (hR : R (.returned (.tuple #[.agg #[.int .u8 a1, .string a2, .int .i64 a3, a4, .int .i64 a5, .int .i64 a6, .int .i64 a7], .int .i64 x])) wz) :
    bodyPost Try.prog Try.f11 R Exit.ret { tmps := tmps, defers := [] } wz := by
  have c0 : wz.cell? ⟨r, 0, none⟩ = some (.int .u8 a1) := hr.cell 0
  have c1 : wz.cell? ⟨r, 1, none⟩ = some (.string a2) := hr.cell 1
  have c2 : wz.cell? ⟨r, 2, none⟩ = some (.int .i64 a3) := hr.cell 2
  have c3 : wz.cell? ⟨r, 3, none⟩ = some a4 := hr.cell 3
  have c4 : wz.cell? ⟨r, 4, none⟩ = some (.int .i64 a5) := hr.cell 4
  have c5 : wz.cell? ⟨r, 5, none⟩ = some (.int .i64 a6) := hr.cell 5
  have c6 : wz.cell? ⟨r, 6, none⟩ = some (.int .i64 a7) := hr.cell 6
  refine bodyPost_ret (v := .tuple #[.agg #[.int .u8 a1, .string a2, .int .i64 a3, a4, .int .i64 a5, .int .i64 a6, .int .i64 a7], .int .i64 x]) ?_ rfl hR
  have h4' : tmps[4]?.getD undef = .pointer (some ⟨r, 0, none⟩) := by simpa using h4
  have h5' : tmps[5]?.getD undef = .int .i64 x := by simpa using h5
  simp [results, Try.results11, go_sem, h4', h5', c0, c1, c2, c3, c4, c5, c6]
/-- What a run leaves. -/
def RunDP (Z b q r : Nat) (pv : Value) (t : Tk) (av gv cv iv : Value) (R : Sp × Vs) (w : World) (e : Ending) (w' : World) : Prop :=
  ∃ v gv' cv' iv', e = .returned (.tuple #[.agg (spC R.1 v), .int .i64 0]) ∧ w'.ownsRow w.heap.size I64T 1 v R.1.kid.args.length (R.1.kid.args.flatMap encN1) ∧ Fd Z b q r pv t av gv' cv' iv' R.2 w' ∧ FdL b q r gv cv iv w gv' cv' iv' w' ∧ (R.1.k ≠ 2 → Fr (SmS b q r iv) w w')
/-- What the frame is, between its ops. -/
structure FdR (Z b q r : Nat) (pv : Value) (t : Tk) (av gv cv iv : Value) (s : Vs) (rb : Nat) (gv0 cv0 iv0 : Value) (K : Prop) (w0 w : World) : Prop where
  fd : Fd Z b q r pv t av gv cv iv s w
  l : FdL b q r gv0 cv0 iv0 w0 gv cv iv w
  box : BoxAt w rb zSp StopT
  rb : w0.heap.size ≤ rb
  zw : Z ≤ w0.heap.size
  sm : K → Fr (SmS b q r iv0) w0 w
section
variable {Z b q r : Nat} {pv : Value} {t : Tk} {av gv cv iv gv' cv' iv' gv0 cv0 iv0 : Value} {s s' : Vs} {rb : Nat} {w0 w w' : World} {K : Prop}
theorem Fd.typedS (h : Fd Z b q r pv t av gv cv iv s w) : Typed (FdS b q r gv cv iv) w [DFrT, RunT, I64T, BoolT, ResT, IntT] := by
  obtain ⟨wo, hb, _⟩ := h.box
  obtain ⟨f, hr, _⟩ := h.run
  exact (typed_box hb).or ((typed_box hr.box).or ((typed_box hr.regs).or ((typed_own h.gvn).or ((typed_own h.cam).or (typed_own hr.into)))))
theorem FdR.below (h : FdR Z b q r pv t av gv cv iv s rb gv0 cv0 iv0 K w0 w) (hB : Below w.heap.size w w') : FdR Z b q r pv t av gv cv iv s rb gv0 cv0 iv0 K w0 w' :=
  ⟨h.fd.below hB, h.l.more hB, h.box.below hB, h.rb, h.zw, fun hk => (h.sm hk).then hB⟩
theorem FdR.next (h : FdR Z b q r pv t av gv cv iv s rb gv0 cv0 iv0 True w0 w) (hd : Fd Z b q r pv t av gv' cv' iv' s' w') (hl : FdL b q r gv cv iv w gv' cv' iv' w') (hs : K → Fr (SmS b q r iv) w w') : FdR Z b q r pv t av gv' cv' iv' s' rb gv0 cv0 iv0 K w0 w' :=
  ⟨hd, h.l.trans hl, box_typed h.box hl.fr h.fd.typedS (by decide), h.rb, h.zw, fun hk => SmS.trans (h.sm trivial) h.l.oi (hs hk)⟩
theorem FdR.stop {y : Sp} {v : Value} (h : FdR Z b q r pv t av gv cv iv s rb gv0 cv0 iv0 (y.k ≠ 2) w0 w) (hF : Fr (fun i => i = rb) w w') (ho : w.ownsRow w0.heap.size I64T 1 v y.kid.args.length (y.kid.args.flatMap encN1)) :
    RunDP Z b q r pv t av gv0 cv0 iv0 (y, s) w0 (.returned (.tuple #[.agg (spC y v), .int .i64 0])) w' :=
  ⟨v, gv, cv, iv, rfl, own_typed ho hF (typed_box h.box) (by decide), h.fd.side h.box (Nat.le_trans h.zw h.rb) (by decide) hF, ⟨h.l.fr.join hF (fun i hi => .inr (by subst hi; exact h.rb)), h.l.og, h.l.oc, h.l.oi⟩, fun hk => (h.sm hk).join hF (fun i hi => .inr (by subst hi; exact h.rb))⟩
theorem FdR.at (h : FdR Z b q r pv t av gv cv iv s rb gv0 cv0 iv0 True w0 w) (K : Prop) : FdR Z b q r pv t av gv cv iv s rb gv0 cv0 iv0 K w0 w := ⟨h.fd, h.l, h.box, h.rb, h.zw, fun _ => h.sm trivial⟩
end
theorem drun_low {Z b q r : Nat} {pv : Value} {t : Tk} {av gv cv iv : Value} {s : Vs} {w : World} (n : Int) (hn : n < 1) (h : Fd Z b q r pv t av gv cv iv s w) :
    Calls Try.prog 11 #[.pointer (some ⟨b, 0, none⟩), .int .i64 n] w fun e w' => e = .returned (.tuple #[.agg zSp, .int .i64 2]) ∧ Below w.heap.size w w' := by
  have hA := alV w (.cells zSp StopT)
  have hb : BoxAt (w.alloc (.cells zSp StopT)) w.heap.size zSp StopT := heap_alloc_new _ _
  have HB := Lib.hid (And.intro hb hA)
  have hn1 : decide (n < 1) = true := by simpa using hn
  clear h hb hA
  go_enter Try.func11, Try.ntmps11
  go_upto_region 1 with fail
  simp only [zSp] at HB
  generalize w.alloc (.cells #[.int .u8 0, .string ⟨#[]⟩, .int .i64 0, .slice none 0 0, .int .i64 0, .int .i64 0, .int .i64 0] StopT) = wa at *
  obtain ⟨sb, hsb⟩ : ∃ n, w.heap.size = n := ⟨_, rfl⟩
  rw [hsb] at HB ⊢
  have HLE := Lib.hid hsb
  clear hsb
  have x0 := HB.out.1.cell 0; have x1 := HB.out.1.cell 1; have x2 := HB.out.1.cell 2; have x3 := HB.out.1.cell 3; have x4 := HB.out.1.cell 4; have x5 := HB.out.1.cell 5; have x6 := HB.out.1.cell 6
  have g0 := HB.out.1.frozen 0; have g1 := HB.out.1.frozen 1; have g2 := HB.out.1.frozen 2; have g3 := HB.out.1.frozen 3; have g4 := HB.out.1.frozen 4; have g5 := HB.out.1.frozen 5; have g6 := HB.out.1.frozen 6
  simp only [List.getElem?_toArray, List.getElem?_cons_zero, List.getElem?_cons_succ] at x0 x1 x2 x3 x4 x5 x6
  go_wp2_with fail
  refine drun_end (set7_box HB.out.1 _ _ _ _ _ _ _) rfl rfl ⟨rfl, ?_⟩
  have hF := set7_fr wa sb (.int .u8 0) (.string ⟨#[]⟩) (.int .i64 0) (.slice none 0 0) (.int .i64 0) (.int .i64 0) (.int .i64 0)
  have h1 := HB.out.2.trans (hF.below (fun i hi => by rw [hi]; exact Nat.le_refl _) (by have h1 := HB.out.2.size; rw [HLE.out] at h1; exact h1))
  rw [HLE.out]
  exact h1
set_option maxHeartbeats 6400000 in
set_option maxRecDepth 100000 in
theorem drun_any {Z b q r : Nat} {pv : Value} {t : Tk} {av gv cv iv : Value} {s : Vs} {w : World} {p : List Fnc} (n : Nat) (hn : 1 ≤ n) (hnm : n ≤ 9223372036854775807) (h : Fd Z b q r pv t av gv cv iv s w) (hpr : ProgAt w pv p) (hlo : ProgLow Z pv p) (hwf : WfP p) (htk : TkOk p t) (hi : InvV p t s) (ha : AtV p t s) :
    Calls Try.prog 11 #[.pointer (some ⟨b, 0, none⟩), .int .i64 n] w (RunDP Z b q r pv t av gv cv iv (runV p t n s) w) := by
  have hA := alV w (.cells zSp StopT)
  have hb : BoxAt (w.alloc (.cells zSp StopT)) w.heap.size zSp StopT := heap_alloc_new _ _
  have H := Lib.hid (show FdR Z b q r pv t av gv cv iv s w.heap.size gv cv iv True w (w.alloc (.cells zSp StopT)) from ⟨h.below hA, FdL.stay (.of_below hA), hb, Nat.le_refl _, h.z, fun _ => .of_below hA⟩)
  have HPL0 := Lib.hid (show ∀ y, Fr (FdS b q r gv cv iv) w y → ProgAt y pv p from fun y hF => hpr.fr hlo hF h.lo)
  have HP := Lib.hid (And.intro hwf (And.intro htk hlo))
  have HI := Lib.hid (And.intro hi ha)
  have hn0 : decide ((n : Int) < 1) = false := by simp; omega
  clear h hpr hlo hwf htk hi ha hb hA
  go_enter Try.func11, Try.ntmps11
  go_upto_region 1 with fail
  simp only [zSp] at H
  generalize w.alloc (.cells #[.int .u8 0, .string ⟨#[]⟩, .int .i64 0, .slice none 0 0, .int .i64 0, .int .i64 0, .int .i64 0] StopT) = w1 at *
  obtain ⟨rb, hrb⟩ : ∃ b, w.heap.size = b := ⟨_, rfl⟩
  rw [hrb] at H ⊢
  clear hrb
  obtain ⟨wo, hbx, hwo⟩ := H.out.fd.box
  have c0 := H.out.box.cell 0; have c1 := H.out.box.cell 1; have c2 := H.out.box.cell 2; have c3 := H.out.box.cell 3; have c4 := H.out.box.cell 4; have c5 := H.out.box.cell 5; have c6 := H.out.box.cell 6
  have f0 := H.out.box.frozen 0; have f1 := H.out.box.frozen 1; have f2 := H.out.box.frozen 2; have f3 := H.out.box.frozen 3; have f4 := H.out.box.frozen 4; have f5 := H.out.box.frozen 5; have f6 := H.out.box.frozen 6
  simp only [List.getElem?_toArray, List.getElem?_cons_zero, List.getElem?_cons_succ] at c0 c1 c2 c3 c4 c5 c6
  cases hrs : s.result with
  | some z =>
    have HR := Lib.hid (show runV p t n s = (spDone z, s) by unfold runV; rw [hrs])
    rw [hrs] at hbx
    obtain ⟨_, _, _, _, _, _, _, _, _, k9, k10, k11⟩ := fd_cells hbx
    simp only [Option.getD_some, Option.isSome_some] at k9 k10 k11
    clear hrs hbx hwo
    go_wp2_with fail
    refine drun_end (set7_box H.out.box _ _ _ _ _ _ _) rfl rfl ?_
    rw [HR.out]
    exact (H.out.at _).stop (y := spDone z) (set7_fr _ _ _ _ _ _ _ _ _) (World.ownsRow_nil _ _ _ _)
  | none =>
    have hbx0 := hbx
    rw [hrs] at hbx0
    obtain ⟨_, _, _, k3, _, _, _, _, _, k9, _, _⟩ := fd_cells hbx0
    simp only [Option.isSome_none] at k9
    have HBX := Lib.hid (And.intro hbx hwo)
    clear hbx hbx0 hwo
    go_upto_if 26 with fail
    go_cut [6, 7] (fun _ _ wc => ∃ s', Runs s' ∧ Hid (FdR Z b q r pv t av gv cv iv s' rb gv cv iv True w wc ∧ InvV p t s' ∧ AtV p t s' ∧ stepsV p t n s' = runV p t n s))
    case first =>
      cases hws : s.waits with
      | none =>
        rw [hws] at k3
        simp only [Option.isSome_none] at k3
        go_wp2_with fail
        go_meet
        refine ⟨s, ⟨hws, hrs⟩, H.out, HI.out.1, HI.out.2, ?_⟩
        unfold runV
        rw [hrs, hws]
      | some o =>
        have hbo := HBX.out.1
        rw [HBX.out.2 o hws] at hbo
        rw [hws] at k3
        simp only [Option.isSome_some] at k3
        have HJ := Lib.hid (joinV_at HI.out.1 HI.out.2 hws hrs)
        have HG := Lib.hid (fun h => joinV_goes (s := s) (o := o) h hrs)
        have HO := Lib.hid (HI.out.1.wt o hws)
        have hja := joinV_args (s := s) (o := o)
        obtain ⟨J1, J2, hjj⟩ : ∃ J1 J2, joinV s o = (J1, J2) := ⟨_, _, rfl⟩
        have HR := Lib.hid (runV_wait (p := p) (t := t) (n := n) hrs hws hjj)
        have HV := Lib.hid (djoin_any o H.out.fd hbo hrs HI.out.1 HO.out.1 HO.out.2)
        rw [hjj] at HJ HG HV hja
        have HJA := Lib.hid hja
        clear hrs hws hjj hbo hja
        cases J1 with
        | none =>
          go_wp2_with fail
          refine HV.out.mono ?_
          rintro e w3 ⟨rfl, hd3, hF3⟩
          have hS3 : Fr (SmS b q r iv) w1 w3 := hF3.mono fun i hi => by rcases hi with e | e | e; exact .inl e; exact .inr (.inl e); exact .inr (.inr (.inl e))
          have H3 := Lib.hid (H.out.next (K := True) hd3 (FdL.stay (hS3.mono SmS.up)) (fun _ => hS3))
          clear hd3 hF3 hS3 c0 c1 c2 c3 c4 c5 c6 f0 f1 f2 f3 f4 f5 f6 H HV k3 k9
          have HGG := Lib.hid (HG.out (by first | rfl | trivial)).1
          go_wp2_with fail
          go_meet
          exact ⟨J2, HGG.out, H3.out.below (alV _ _), HJ.out.1, HJ.out.2, (HR.out.2 (by first | rfl | trivial)).symm⟩
        | some y =>
          go_wp2_with fail
          refine HV.out.mono ?_
          rintro e w3 ⟨rfl, hd3, hF3⟩
          have hS3 : Fr (SmS b q r iv) w1 w3 := hF3.mono fun i hi => by rcases hi with e | e | e; exact .inl e; exact .inr (.inl e); exact .inr (.inr (.inl e))
          have H3 := Lib.hid ((H.out.next (K := y.k ≠ 2) hd3 (FdL.stay (hS3.mono SmS.up)) (fun _ => hS3)).below (alV w3 (.cells (spC y (.slice none 0 0)) StopT)))
          have HYB := Lib.hid (show BoxAt (w3.alloc (.cells (spC y (.slice none 0 0)) StopT)) w3.heap.size (spC y (.slice none 0 0)) StopT from heap_alloc_new _ _)
          clear hd3 hF3 hS3 c0 c1 c2 c3 c4 c5 c6 f0 f1 f2 f3 f4 f5 f6 H HV k3 k9
          unfold spC
          go_upto_region 7 with fail
          simp only [spC] at H3 HYB
          generalize w3.alloc (.cells #[.int .u8 y.k, .string y.kid.p, .int .i64 y.kid.fn, .slice none 0 0, .int .i64 y.kid.fuel, .int .i64 y.r.v, .int .i64 y.r.e] StopT) = w4 at *
          generalize w3.heap.size = yb at *
          have z0 := HYB.out.cell 0; have z1 := HYB.out.cell 1; have z2 := HYB.out.cell 2; have z3 := HYB.out.cell 3; have z4 := HYB.out.cell 4; have z5 := HYB.out.cell 5; have z6 := HYB.out.cell 6
          have c0 := H3.out.box.cell 0; have c1 := H3.out.box.cell 1; have c2 := H3.out.box.cell 2; have c3 := H3.out.box.cell 3; have c4 := H3.out.box.cell 4; have c5 := H3.out.box.cell 5; have c6 := H3.out.box.cell 6
          have f0 := H3.out.box.frozen 0; have f1 := H3.out.box.frozen 1; have f2 := H3.out.box.frozen 2; have f3 := H3.out.box.frozen 3; have f4 := H3.out.box.frozen 4; have f5 := H3.out.box.frozen 5; have f6 := H3.out.box.frozen 6
          simp only [List.getElem?_toArray, List.getElem?_cons_zero, List.getElem?_cons_succ] at c0 c1 c2 c3 c4 c5 c6 z0 z1 z2 z3 z4 z5 z6
          go_wp2_with fail
          refine drun_end (set7_box H3.out.box _ _ _ _ _ _ _) rfl rfl ?_
          rw [HR.out.1 y rfl]
          exact H3.out.stop (y := y) (set7_fr _ _ _ _ _ _ _ _ _) (by rw [HJA.out y rfl]; exact World.ownsRow_nil _ _ _ _)
    case rest =>
      obtain ⟨s2, hr2, HC⟩ := hcut
      have HC0 := Lib.hid (And.intro hr2 HC.out)
      clear hr2 HC H hrs k3 k9 c0 c1 c2 c3 c4 c5 c6 f0 f1 f2 f3 f4 f5 f6
      go_wp2_with fail
      go_loopg [8, 9, 10] n (fun gk i t9 t10 wr => ∃ (k : Nat) (gv' cv' iv' : Value) (s1 : Vs), gk + k = n ∧ i = .int .i64 k ∧ Hid (Runs s1 ∧ FdR Z b q r pv t av gv' cv' iv' s1 rb gv cv iv True w wr ∧ InvV p t s1 ∧ AtV p t s1 ∧ stepsV p t gk s1 = runV p t n s))
      case atStart => exact ⟨0, gv, cv, iv, s2, by omega, rfl, HC0.out⟩
      case round =>
        clear HC0
        obtain ⟨k, gv1, cv1, iv1, s1, hk, rfl, HR⟩ := hrel
        by_cases hlt : k < n
        · have hlt1 : (k : Int) < n := by omega
          have HS := Lib.hid (dstep_any HR.out.2.1.fd (HPL0.out _ HR.out.2.1.l.fr) HP.out.2.2 HP.out.1 HP.out.2.1 HR.out.2.2.1 HR.out.1 (HR.out.2.2.2.1.runs HR.out.1))
          have HI1 := Lib.hid (stepV_inv HP.out.1 HP.out.2.1 HR.out.2.2.1 HR.out.1 (HR.out.2.2.2.1.runs HR.out.1))
          have HG := Lib.hid (stepV_goes (p := p) (t := t) HR.out.1)
          obtain ⟨m, hm⟩ : ∃ m, gk = m + 1 := ⟨gk - 1, by omega⟩
          subst hm
          have HE := Lib.hid HR.out.2.2.2.2
          have HSZ := Lib.hid HR.out.2.1.l.fr.size
          unfold stepsV at HE
          obtain ⟨J1, J2, hjj⟩ : ∃ J1 J2, stepV p t s1 = (J1, J2) := ⟨_, _, rfl⟩
          rw [hjj] at HS HI1 HG HE
          clear hjj
          cases J1 with
          | none =>
            go_wp2_with fail
            refine HS.out.mono ?_
            rintro e w3 ⟨ev, gv', cv', iv', rfl, g1, g2, g3, g4⟩
            have H3 := Lib.hid (HR.out.2.1.next (K := True) g2 g3 (fun _ => g4 (fun y h => (nomatch h))))
            have HGG := Lib.hid (HG.out.2 (by first | rfl | trivial)).1
            clear g1 g2 g3 g4 HR HS
            go_wp2_with fail
            go_roundg m
            case rel => exact ⟨k + 1, gv', cv', iv', J2, by omega, by go_num, HGG.out, H3.out.below (alV _ _), HI1.out.1, HI1.out.2, HE.out⟩
            case measure => omega
          | some y =>
            go_wp2_with fail
            refine HS.out.mono ?_
            rintro e w3 ⟨ev, gv', cv', iv', rfl, g1, g2, g3, g4⟩
            have hyo := g1 y rfl
            obtain ⟨ya, yc, rfl⟩ := own_slice hyo
            have HY := Lib.hid (own_below (owns_base hyo HSZ.out) (alV w3 (.cells (spC y (.slice ya y.kid.args.length yc)) StopT)))
            have H3 := Lib.hid ((HR.out.2.1.next (K := y.k ≠ 2) g2 g3 (fun hk => g4 (fun y' h => by injection h with h; subst h; exact hk))).below (alV w3 (.cells (spC y (.slice ya y.kid.args.length yc)) StopT)))
            have HYB := Lib.hid (show BoxAt (w3.alloc (.cells (spC y (.slice ya y.kid.args.length yc)) StopT)) w3.heap.size (spC y (.slice ya y.kid.args.length yc)) StopT from heap_alloc_new _ _)
            clear g1 g2 g3 g4 hyo HR HS
            unfold spC
            go_upto_region 13 with fail
            simp only [spC] at H3 HYB HY
            generalize w3.alloc (.cells #[.int .u8 y.k, .string y.kid.p, .int .i64 y.kid.fn, .slice ya y.kid.args.length yc, .int .i64 y.kid.fuel, .int .i64 y.r.v, .int .i64 y.r.e] StopT) = w4 at *
            generalize w3.heap.size = yb at *
            have z0 := HYB.out.cell 0; have z1 := HYB.out.cell 1; have z2 := HYB.out.cell 2; have z3 := HYB.out.cell 3; have z4 := HYB.out.cell 4; have z5 := HYB.out.cell 5; have z6 := HYB.out.cell 6
            have c0 := H3.out.box.cell 0; have c1 := H3.out.box.cell 1; have c2 := H3.out.box.cell 2; have c3 := H3.out.box.cell 3; have c4 := H3.out.box.cell 4; have c5 := H3.out.box.cell 5; have c6 := H3.out.box.cell 6
            have f0 := H3.out.box.frozen 0; have f1 := H3.out.box.frozen 1; have f2 := H3.out.box.frozen 2; have f3 := H3.out.box.frozen 3; have f4 := H3.out.box.frozen 4; have f5 := H3.out.box.frozen 5; have f6 := H3.out.box.frozen 6
            simp only [List.getElem?_toArray, List.getElem?_cons_zero, List.getElem?_cons_succ] at c0 c1 c2 c3 c4 c5 c6 z0 z1 z2 z3 z4 z5 z6
            go_wp2_with fail
            refine drun_end (set7_box H3.out.box _ _ _ _ _ _ _) rfl rfl ?_
            rw [← HE.out]
            exact H3.out.stop (y := y) (set7_fr _ _ _ _ _ _ _ _ _) HY.out
        · have hlt1 : ¬ (k : Int) < n := by omega
          have hg0 : gk = 0 := by omega
          subst hg0
          have HE := Lib.hid (show ((⟨1, noTk, ⟨0, 0⟩⟩ : Sp), s1) = runV p t n s from HR.out.2.2.2.2)
          have c0 := HR.out.2.1.box.cell 0; have c1 := HR.out.2.1.box.cell 1; have c2 := HR.out.2.1.box.cell 2; have c3 := HR.out.2.1.box.cell 3; have c4 := HR.out.2.1.box.cell 4; have c5 := HR.out.2.1.box.cell 5; have c6 := HR.out.2.1.box.cell 6
          have f0 := HR.out.2.1.box.frozen 0; have f1 := HR.out.2.1.box.frozen 1; have f2 := HR.out.2.1.box.frozen 2; have f3 := HR.out.2.1.box.frozen 3; have f4 := HR.out.2.1.box.frozen 4; have f5 := HR.out.2.1.box.frozen 5; have f6 := HR.out.2.1.box.frozen 6
          simp only [List.getElem?_toArray, List.getElem?_cons_zero, List.getElem?_cons_succ] at c0 c1 c2 c3 c4 c5 c6
          go_wp2_with fail
          refine drun_end (set7_box HR.out.2.1.box _ _ _ _ _ _ _) rfl rfl ?_
          rw [← HE.out]
          exact (HR.out.2.1.at _).stop (y := ⟨1, noTk, ⟨0, 0⟩⟩) (set7_fr _ _ _ _ _ _ _ _ _) (World.ownsRow_nil _ _ _ _)
end Go.Proofs.Ytdhbjejejeljoaa
