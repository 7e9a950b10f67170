/- JoinPlays: its walk. -/
import Derived.Test.YthbkbmkcgpdedaaJp4
import Derived.Test.YthbkbmkcgpdedaaHeavy17
namespace Go.Proofs.Ythbkbmkcgpdedaa
open Go.RowKit Go.Sort Go.Lib
set_option linter.unusedVariables false
set_option linter.unusedSimpArgs false

def FrP (mo : Int) (sv : Value) (f r : Nat) (k : Int) (a : Act) : Prop := a.defers = [] ∧ a.tmps.size = 337 ∧ sl a.tmps 0 = .int .i64 mo ∧ sl a.tmps 1 = sv ∧ sl a.tmps 5 = .pointer (some ⟨f, 0, none⟩) ∧ sl a.tmps 7 = RP r ∧ sl a.tmps 8 = .int .i64 k
def PlP (w0 : World) (mo : Int) (sv : Value) (N f m r gk : Nat) (a : Act) (wr : World) : Prop := ∃ (k : Nat) (lv : Value) (T : Tb) (l : List Rl), gk + k = N ∧ Pj w0 f m r mo lv T l wr ∧ FrP mo sv f r k a
def CuP (w0 : World) (mo : Int) (sv : Value) (f m r k s : Nat) (x : Stp) (ta : Option Addr) (tc : Nat) (a : Act) (wr : World) : Prop := ∃ (lv : Value) (T : Tb) (l : List Rl), Pj w0 f m r mo lv T l wr ∧ Box s (stepC x ta tc) StepT wr ∧ FrP mo sv f r k a ∧ sl a.tmps 9 = .pointer (some ⟨s, 0, none⟩) ∧ sl a.tmps 10 = .bool true
def RwP (w0 : World) (mo : Int) (sv : Value) (f m r k : Nat) (lv : Value) (T : Tb) (l S : List Rl) (v : Value) (V gi : Nat) (a : Act) (wr : World) : Prop := ∃ i : Nat, gi + i = V ∧ Pj w0 f m r mo lv T l wr ∧ ReadsK encT 10 wr v S ∧ (∀ p ∈ S, ArgsR wr p.2) ∧ FrP mo sv f r k a ∧ sl a.tmps 35 = v ∧ sl a.tmps 36 = .int .i64 i
set_option maxHeartbeats 16000000 in
set_option maxRecDepth 100000 in
theorem plays_any (mo : Int) (v : Value) (L : List Stp) (w0 : World) (hv : ReadsK encS 12 w0 v L) (hz : ∀ s ∈ L, StpZ s) (ht : ∀ s ∈ L, TskOk w0 s.t) (hl : (L.length : Int) ≤ 9223372036854775807) :
    Calls Try.prog 3 #[.int .i64 mo, v] w0 fun e w' => e = .returned (.bool true) ∧ Below w0.heap.size w0 w' := by
  obtain ⟨a, cap, rfl⟩ := hv.slice
  have HV := Lib.hid hv
  have HZ := Lib.hid hz
  have HT := Lib.hid ht
  clear hv hz ht
  go_enter Try.func3, Try.ntmps3
  go_wp2_with fail
  refine (heavy_any _ L w0 HV.out hl HZ.out HT.out).mono ?_
  rintro e w ⟨b, rfl, hB0, hb⟩
  cases b
  · obtain ⟨hl2, hz2⟩ := hb rfl
    have HV1 := Lib.hid (HV.out.below hB0)
    have HT1 := Lib.hid (fun s hs => (show TskOk w s.t from ⟨(HT.out s hs).1.below hB0, (HT.out s hs).2⟩))
    have HZ2 := Lib.hid hz2
    have HB0 := Lib.hid hB0
    clear hb hB0 HV HT HZ hl hz2
    by_cases hbad : mo < 1 ∨ mo > 4096
    · go_wp2_with fail
      refine (new_bad mo w hbad).mono ?_
      rintro e w2 ⟨rfl, hB⟩
      have HB2 := Lib.hid (gthenD HB0.out hB)
      clear hB
      rcases hbad with h1 | h1
      · have h1b : decide (mo < 1) = true := decide_eq_true h1
        go_wp2_with fail
        refine (works_any _).mono ?_
        rintro e w3 ⟨rfl, hB⟩
        have HB3 := Lib.hid (gthenD HB2.out hB)
        clear hB
        go_wp2_with fail
        go_ret
        exact ⟨rfl, HB3.out⟩
      · have h1b : decide (mo < 1) = false := decide_eq_false (by omega)
        have h1d : ¬ mo < 1 := by omega
        have h1e : 4096 < mo := h1
        have h1c : decide (4096 < mo) = true := decide_eq_true h1
        go_wp2_with fail
        refine (works_any _).mono ?_
        rintro e w3 ⟨rfl, hB⟩
        have HB3 := Lib.hid (gthenD HB2.out hB)
        clear hB
        go_wp2_with fail
        go_ret
        exact ⟨rfl, HB3.out⟩
    · have hg1 : ¬ mo < 1 := fun e => hbad (.inl e)
      have hg2 : ¬ mo > 4096 := fun e => hbad (.inr e)
      have hg3 : ¬ 4096 < mo := hg2
      have hg4 : decide (mo < 1) = false := decide_eq_false hg1
      have hg5 : decide (4096 < mo) = false := decide_eq_false hg3
      clear hbad
      go_wp2_with fail
      refine (new_tab mo w (by omega) (by omega)).mono ?_
      intro e w1 hM
      obtain ⟨f, m, rfl, hP⟩ := pj_start hM (by omega)
      have H2 := Lib.hid hP
      clear hM hP
      go_wp2_with fail
      refine wp_loop_ghost_k (PlP w mo (.slice a L.length cap) L.length f m w1.heap.size) L.length ?atStart ?round
      case atStart => exact ⟨0, _, _, _, by omega, H2.out, rfl, rfl, rfl, rfl, rfl, rfl, rfl⟩
      case round =>
        clear H2
        generalize w1.heap.size = r at *
        rintro go0 ⟨ts, ds⟩ wr ⟨k, lv, T, l, hk, hP, hd, hts, f0, f1, f5, f7, f8⟩ J K9 hJ9 hK9
        have HP := Lib.hid hP
        clear hP
        simp only at hd hts f0 f1 f5 f7 f8
        subst hd
        rw [frame_lit337 hts, f0, f1, f5, f7, f8]
        clear f0 f1 f5 f7 f8
        by_cases hkl : k < L.length
        · obtain ⟨b, off, c, he, hb, hc⟩ := (HV1.out.below HP.out.t.wj.low).at (by omega)
          injection he with he1 he2 he3
          subst he1
          have HX := Lib.hid (HZ2.out _ (List.getElem_mem hkl))
          have HXT := Lib.hid (HT1.out _ (List.getElem_mem hkl))
          have hcc := hc k hkl
          clear hc he2 he3
          generalize L[k] = x at hcc HX HXT
          obtain ⟨ta, tc, hs4⟩ := HXT.out.1.slice
          have c0 : wr.cell? ⟨b, off + k * 12, none⟩ = some (.int .i64 x.op) := hcc 0 _ rfl
          have c1 : wr.cell? ⟨b, off + k * 12 + 1, none⟩ = some (.int .u64 x.job) := hcc 1 _ rfl
          have c2 : wr.cell? ⟨b, off + k * 12 + 2, none⟩ = some (.int .u64 x.n.1) := hcc 2 _ rfl
          have c3 : wr.cell? ⟨b, off + k * 12 + 3, none⟩ = some (.string x.n.2) := hcc 3 _ rfl
          have c4 : wr.cell? ⟨b, off + k * 12 + 4, none⟩ = some (.int .u64 x.m.1) := hcc 4 _ rfl
          have c5 : wr.cell? ⟨b, off + k * 12 + 5, none⟩ = some (.string x.m.2) := hcc 5 _ rfl
          have c6 : wr.cell? ⟨b, off + k * 12 + 6, none⟩ = some (.string x.t.p) := hcc 6 _ rfl
          have c7 : wr.cell? ⟨b, off + k * 12 + 7, none⟩ = some (.int .i64 x.t.fn) := hcc 7 _ rfl
          have c8 : wr.cell? ⟨b, off + k * 12 + 8, none⟩ = some (.slice ta x.t.args.length tc) := hs4 ▸ hcc 8 _ rfl
          have c9 : wr.cell? ⟨b, off + k * 12 + 9, none⟩ = some (.int .i64 x.t.fuel) := hcc 9 _ rfl
          have c10 : wr.cell? ⟨b, off + k * 12 + 10, none⟩ = some (.int .i64 x.val) := hcc 10 _ rfl
          have c11 : wr.cell? ⟨b, off + k * 12 + 11, none⟩ = some (.int .i64 x.err) := hcc 11 _ rfl
          have hA := alD wr (.cells (stepC x ta tc) StepT)
          have HS := Lib.hid (HP.out.below hA)
          have HXB := Lib.hid (show ReadsK encI 1 w (.slice ta x.t.args.length tc) x.t.args from hs4 ▸ HXT.out.1)
          have hxt : x.t.args.length ≤ 8192 := by have := HX.out; unfold totS at this; omega
          have hxp : x.t.p.size ≤ 8192 := by have := HX.out; unfold totS at this; omega
          have hxn : x.n.2.size ≤ 8192 := by have := HX.out; unfold totS at this; omega
          have hxm : x.m.2.size ≤ 8192 := by have := HX.out; unfold totS at this; omega
          have HXL := Lib.hid (And.intro hxt (And.intro hxp (And.intro hxn hxm)))
          have hbx : Box wr.heap.size (stepC x ta tc) StepT (wr.alloc (.cells (stepC x ta tc) StepT)) := heap_alloc_new _ _
          clear hcc hb hA HX HXT hs4 hxt hxp hxn hxm
          simp only [stepC] at HS hbx
          go_upto_block 2 with fail
          generalize wr.alloc (.cells #[.int .i64 x.op, .int .u64 x.job, .int .u64 x.n.1, .string x.n.2, .int .u64 x.m.1, .string x.m.2, .string x.t.p, .int .i64 x.t.fn, .slice ta x.t.args.length tc, .int .i64 x.t.fuel, .int .i64 x.val, .int .i64 x.err] StepT) = ws at *
          generalize wr.heap.size = s at *
          clear HP c0 c1 c2 c3 c4 c5 c6 c7 c8 c9 c10 c11
          have HSS : Hid (Box s (stepC x ta tc) StepT ws) := hbx
          refine wp_cut (CuP w mo (.slice (some ⟨b, off, none⟩) L.length cap) f m r k s x ta tc) ?rest ?first
          case first =>
            intro J2 K2 hJ2 hK2
            obtain ⟨s0, s1, s2, s3, s4, s5, s6, s7, s8, s9, s10, s11⟩ := step_cells hbx
            clear hbx
            have HFT := Lib.hid HS.out.fit
            have HSD := Lib.hid HS.out.s
            by_cases h0 : x.op = 0
            · have b0 : (x.op == 0) = true := by rw [h0]; rfl
              clear h0
              have HL := Lib.hid (HS.out.below ((Below.refl _ _).drew)).t
              have HD := Lib.hid (HS.out.below ((Below.refl _ _).drew)).d
              have hstart := Kept.below ((Below.refl ws.heap.size ws).drew) _ _ _ (by decide) HSS.out
              clear s0 s1 s2 s3 s4 s5 s6 s7 s8 s9 s10 s11 HS
              go_upto_region 16 with fail
              refine wp_region_held_drew (S := fun y => Box s (stepC x ta tc) StepT y) (by kernel_rfl) (hstart) (fun hHeld => ?_)
              refine wpAnyH_take (i := 0) (oi := _) (v := ?_) (by rw [List.getElem?_toArray]; exact rfl) (by kernel_rfl) (by kernel_rfl) (by kernel_rfl) (by exact fun _ _ _ h => h) (Or.inl ⟨by rfl, ?_⟩) hHeld ?_
              rotate_left
              · (intro wX hSw; clear hSw; go_simp; try with_reducible rfl)
              try simp only [Act.put, List.setIfInBounds_toArray, List.set_cons_zero, List.set_cons_succ]
              refine wpAnyH_take (i := 1) (oi := _) (v := ?_) (by rw [List.getElem?_toArray]; exact rfl) (by kernel_rfl) (by kernel_rfl) (by kernel_rfl) (by exact fun _ _ _ h => h) (Or.inl ⟨by rfl, ?_⟩) hHeld ?_
              rotate_left
              · (intro wX hSw; clear hSw; go_simp; try with_reducible rfl)
              try simp only [Act.put, List.setIfInBounds_toArray, List.set_cons_zero, List.set_cons_succ]
              refine wpAnyH_take (i := 2) (oi := _) (v := ?_) (by rw [List.getElem?_toArray]; exact rfl) (by kernel_rfl) (by kernel_rfl) (by kernel_rfl) (by exact fun _ _ _ h => h) (Or.inl ⟨by rfl, ?_⟩) hHeld ?_
              rotate_left
              · (intro wX hSw; obtain ⟨s0, s1, s2, s3, s4, s5, s6, s7, s8, s9, s10, s11⟩ := step_cells hSw; clear hSw; go_simp; try with_reducible rfl)
              try simp only [Act.put, List.setIfInBounds_toArray, List.set_cons_zero, List.set_cons_succ]
              refine wpAnyH_take (i := 3) (oi := _) (v := ?_) (by rw [List.getElem?_toArray]; exact rfl) (by kernel_rfl) (by kernel_rfl) (by kernel_rfl) (by exact fun _ _ _ h => h) (Or.inl ⟨by rfl, ?_⟩) hHeld ?_
              rotate_left
              · (intro wX hSw; clear hSw; go_simp; try with_reducible rfl)
              try simp only [Act.put, List.setIfInBounds_toArray, List.set_cons_zero, List.set_cons_succ]
              refine wpAnyH_take (i := 4) (oi := _) (v := ?_) (by rw [List.getElem?_toArray]; exact rfl) (by kernel_rfl) (by kernel_rfl) (by kernel_rfl) (by exact fun _ _ _ h => h) (Or.inl ⟨by rfl, ?_⟩) hHeld ?_
              rotate_left
              · (intro wX hSw; obtain ⟨s0, s1, s2, s3, s4, s5, s6, s7, s8, s9, s10, s11⟩ := step_cells hSw; clear hSw; go_simp; try with_reducible rfl)
              try simp only [Act.put, List.setIfInBounds_toArray, List.set_cons_zero, List.set_cons_succ]
              refine wpAnyH_take (i := 7) (oi := _) (v := ?_) (by rw [List.getElem?_toArray]; exact rfl) (by kernel_rfl) (by kernel_rfl) (by kernel_rfl) (by exact fun _ _ _ h => h) (Or.inl ⟨by rfl, ?_⟩) hHeld ?_
              rotate_left
              · (intro wX hSw; clear hSw; go_simp; try with_reducible rfl)
              try simp only [Act.put, List.setIfInBounds_toArray, List.set_cons_zero, List.set_cons_succ]
              refine wpAnyH_take (i := 8) (oi := _) (v := ?_) (by rw [List.getElem?_toArray]; exact rfl) (by kernel_rfl) (by kernel_rfl) (by kernel_rfl) (by exact fun _ _ _ h => h) (Or.inl ⟨by rfl, ?_⟩) hHeld ?_
              rotate_left
              · (intro wX hSw; clear hSw; go_simp; try with_reducible rfl)
              try simp only [Act.put, List.setIfInBounds_toArray, List.set_cons_zero, List.set_cons_succ]
              refine wpAnyH_take (i := 9) (oi := _) (v := ?_) (by rw [List.getElem?_toArray]; exact rfl) (by kernel_rfl) (by kernel_rfl) (by kernel_rfl) (by exact fun _ _ _ h => h) (Or.inl ⟨by rfl, ?_⟩) hHeld ?_
              rotate_left
              · (intro wX hSw; obtain ⟨s0, s1, s2, s3, s4, s5, s6, s7, s8, s9, s10, s11⟩ := step_cells hSw; clear hSw; go_simp; try with_reducible rfl)
              try simp only [Act.put, List.setIfInBounds_toArray, List.set_cons_zero, List.set_cons_succ]
              refine wpAnyH_take (i := 10) (oi := _) (v := ?_) (by rw [List.getElem?_toArray]; exact rfl) (by kernel_rfl) (by kernel_rfl) (by kernel_rfl) (by exact fun _ _ _ h => h) (Or.inl ⟨by rfl, ?_⟩) hHeld ?_
              rotate_left
              · (intro wX hSw; clear hSw; go_simp; try with_reducible rfl)
              try simp only [Act.put, List.setIfInBounds_toArray, List.set_cons_zero, List.set_cons_succ]
              refine wpAnyH_take (i := 11) (oi := _) (v := ?_) (by rw [List.getElem?_toArray]; exact rfl) (by kernel_rfl) (by kernel_rfl) (by kernel_rfl) (by exact fun _ _ _ h => h) (Or.inl ⟨by rfl, ?_⟩) hHeld ?_
              rotate_left
              · (intro wX hSw; obtain ⟨s0, s1, s2, s3, s4, s5, s6, s7, s8, s9, s10, s11⟩ := step_cells hSw; clear hSw; go_simp; try with_reducible rfl)
              try simp only [Act.put, List.setIfInBounds_toArray, List.set_cons_zero, List.set_cons_succ]
              refine wpAnyH_ready (rs := [5]) (by kernel_rfl) (by simp) ?_
              refine AllReadyH.cons (o := _) (by rw [List.getElem?_toArray]; exact rfl) (fun K hK => ?_) AllReadyH.nil
              go_simp
              refine (ownL_any x.t.p x.t.fn x.t.fuel _ x.t.args _ (HXB.out.below HL.out.wj.low) (by have := HXL.out.1; omega)).mono ?_; rintro e wo ⟨oa, oc, rfl, ho, hB⟩; have HO := Lib.hid (show ReadsK encI 1 wo (.slice oa x.t.args.length oc) x.t.args from own_readsK (enc := encI) (k := 1) (fun _ => rfl) (by decide) ho); replace HL := Lib.hid (HL.out.below hB); replace HD := Lib.hid (HD.out.below hB); have hxo := step_keep hHeld (.below hB); clear ho hB
              go_wp2_with fail
              refine hK.out _ _ (hxo) (fun hHeld => ?_)
              clear hK K
              try simp only [Act.put, List.setIfInBounds_toArray, List.set_cons_zero, List.set_cons_succ]
              refine wpAnyH_ready (rs := [6]) (by kernel_rfl) (by simp) ?_
              refine AllReadyH.cons (o := _) (by rw [List.getElem?_toArray]; exact rfl) (fun K hK => ?_) AllReadyH.nil
              go_simp
              refine (put_v HL.out x.job x.t.p x.t.fn x.t.fuel _ x.t.args HO.out HXL.out.1 (by have := HXL.out.2.1; omega)).mono ?_; rintro e w3 ⟨rfl, T3, hPT, hL3, hKK⟩; have HPT := Lib.hid hPT; replace HD := Lib.hid (dt_left HL.out hL3 HD.out hKK); replace HL := Lib.hid hL3; have hx3 := step_keep hHeld hKK; clear hL3 hKK hPT
              go_wp2_with fail
              refine hK.out _ _ (hx3) (fun hHeld => ?_)
              clear hK K
              try simp only [Act.put, List.setIfInBounds_toArray, List.set_cons_zero, List.set_cons_succ]
              refine wpAnyH_ready (rs := [12]) (by kernel_rfl) (by simp) ?_
              refine AllReadyH.cons (o := _) (by rw [List.getElem?_toArray]; exact rfl) (fun K hK => ?_) AllReadyH.nil
              go_simp
              refine (dput_any x.job x.t.p x.t.fn x.t.fuel ta tc x.t.args HD.out HFT.out.len (by have := HXL.out.2.1; omega) HFT.out.ml (argsZ_of _ _ _ HXB.out HL.out.wj.low)).mono ?_; rintro e w4 hR; obtain ⟨rfl, lv4, l4, hs4, hd4, hL4⟩ := PutDP.both (c := ⟨x.t.fn, ta, tc, x.t.args, x.t.fuel, 1, 0, 0, 0, false⟩) rfl HSD.out HPT.out hR; have hx4 := box_right hHeld HD.out hL4 (by decide); replace HL := Lib.hid (vj_right HL.out HD.out hL4); replace HD := Lib.hid hd4; have HSZ := Lib.hid hs4; clear hR hd4 hs4 hL4
              go_wp2_with fail
              refine hK.out _ _ (hx4) (fun hHeld => ?_)
              clear hK K
              try simp only [Act.put, List.setIfInBounds_toArray, List.set_cons_zero, List.set_cons_succ]
              refine wpAnyH_take (i := 13) (oi := _) (v := ?_) (by rw [List.getElem?_toArray]; exact rfl) (by kernel_rfl) (by kernel_rfl) (by kernel_rfl) (by exact fun _ _ _ h => h) (Or.inl ⟨by rfl, ?_⟩) hHeld ?_
              rotate_left
              · (intro wX hSw; clear hSw; go_simp; try with_reducible rfl)
              try simp only [Act.put, List.setIfInBounds_toArray, List.set_cons_zero, List.set_cons_succ]
              refine wpAnyH_take (i := 14) (oi := _) (v := ?_) (by rw [List.getElem?_toArray]; exact rfl) (by kernel_rfl) (by kernel_rfl) (by kernel_rfl) (by exact fun _ _ _ h => h) (Or.inl ⟨by rfl, ?_⟩) hHeld ?_
              rotate_left
              · (intro wX hSw; clear hSw; go_simp; try with_reducible rfl)
              try simp only [Act.put, List.setIfInBounds_toArray, List.set_cons_zero, List.set_cons_succ]
              refine wpAnyH_done (by kernel_rfl) ?_ _
              have HSE := Lib.hid hHeld
              clear hHeld
              have hee : ((putE T mo (x.job, x.t.p)) == (putE T mo (x.job, x.t.p))) = true := by simp
              generalize (putE T mo (x.job, x.t.p)) = E at *
              go_wp2_with fail
              refine Met.intro (hJ2 _ _ ?_)
              exact ⟨_, _, _, ⟨HL.out, HD.out, HSZ.out⟩, HSE.out, ⟨rfl, rfl, rfl, rfl, rfl, rfl, rfl⟩, rfl, by first | rfl | simp⟩
            have b0 : (x.op == 0) = false := by rw [beq_eq_false_iff_ne]; exact h0
            clear h0
            by_cases h1 : x.op = 1
            · have b1 : (x.op == 1) = true := by rw [h1]; rfl
              clear h1
              have HL := Lib.hid (HS.out.below ((Below.refl _ _).drew)).t
              have HD := Lib.hid (HS.out.below ((Below.refl _ _).drew)).d
              have hstart := Kept.below ((Below.refl ws.heap.size ws).drew) _ _ _ (by decide) HSS.out
              clear s0 s1 s2 s3 s4 s5 s6 s7 s8 s9 s10 s11 HS
              go_upto_region 18 with fail
              refine wp_region_held_drew (S := fun y => Box s (stepC x ta tc) StepT y) (by kernel_rfl) (hstart) (fun hHeld => ?_)
              refine wpAnyH_take (i := 0) (oi := _) (v := ?_) (by rw [List.getElem?_toArray]; exact rfl) (by kernel_rfl) (by kernel_rfl) (by kernel_rfl) (by exact fun _ _ _ h => h) (Or.inl ⟨by rfl, ?_⟩) hHeld ?_
              rotate_left
              · (intro wX hSw; clear hSw; go_simp; try with_reducible rfl)
              try simp only [Act.put, List.setIfInBounds_toArray, List.set_cons_zero, List.set_cons_succ]
              refine wpAnyH_take (i := 1) (oi := _) (v := ?_) (by rw [List.getElem?_toArray]; exact rfl) (by kernel_rfl) (by kernel_rfl) (by kernel_rfl) (by exact fun _ _ _ h => h) (Or.inl ⟨by rfl, ?_⟩) hHeld ?_
              rotate_left
              · (intro wX hSw; clear hSw; go_simp; try with_reducible rfl)
              try simp only [Act.put, List.setIfInBounds_toArray, List.set_cons_zero, List.set_cons_succ]
              refine wpAnyH_take (i := 2) (oi := _) (v := ?_) (by rw [List.getElem?_toArray]; exact rfl) (by kernel_rfl) (by kernel_rfl) (by kernel_rfl) (by exact fun _ _ _ h => h) (Or.inl ⟨by rfl, ?_⟩) hHeld ?_
              rotate_left
              · (intro wX hSw; obtain ⟨s0, s1, s2, s3, s4, s5, s6, s7, s8, s9, s10, s11⟩ := step_cells hSw; clear hSw; go_simp; try with_reducible rfl)
              try simp only [Act.put, List.setIfInBounds_toArray, List.set_cons_zero, List.set_cons_succ]
              refine wpAnyH_take (i := 3) (oi := _) (v := ?_) (by rw [List.getElem?_toArray]; exact rfl) (by kernel_rfl) (by kernel_rfl) (by kernel_rfl) (by exact fun _ _ _ h => h) (Or.inl ⟨by rfl, ?_⟩) hHeld ?_
              rotate_left
              · (intro wX hSw; clear hSw; go_simp; try with_reducible rfl)
              try simp only [Act.put, List.setIfInBounds_toArray, List.set_cons_zero, List.set_cons_succ]
              refine wpAnyH_take (i := 4) (oi := _) (v := ?_) (by rw [List.getElem?_toArray]; exact rfl) (by kernel_rfl) (by kernel_rfl) (by kernel_rfl) (by exact fun _ _ _ h => h) (Or.inl ⟨by rfl, ?_⟩) hHeld ?_
              rotate_left
              · (intro wX hSw; obtain ⟨s0, s1, s2, s3, s4, s5, s6, s7, s8, s9, s10, s11⟩ := step_cells hSw; clear hSw; go_simp; try with_reducible rfl)
              try simp only [Act.put, List.setIfInBounds_toArray, List.set_cons_zero, List.set_cons_succ]
              refine wpAnyH_take (i := 7) (oi := _) (v := ?_) (by rw [List.getElem?_toArray]; exact rfl) (by kernel_rfl) (by kernel_rfl) (by kernel_rfl) (by exact fun _ _ _ h => h) (Or.inl ⟨by rfl, ?_⟩) hHeld ?_
              rotate_left
              · (intro wX hSw; clear hSw; go_simp; try with_reducible rfl)
              try simp only [Act.put, List.setIfInBounds_toArray, List.set_cons_zero, List.set_cons_succ]
              refine wpAnyH_take (i := 8) (oi := _) (v := ?_) (by rw [List.getElem?_toArray]; exact rfl) (by kernel_rfl) (by kernel_rfl) (by kernel_rfl) (by exact fun _ _ _ h => h) (Or.inl ⟨by rfl, ?_⟩) hHeld ?_
              rotate_left
              · (intro wX hSw; clear hSw; go_simp; try with_reducible rfl)
              try simp only [Act.put, List.setIfInBounds_toArray, List.set_cons_zero, List.set_cons_succ]
              refine wpAnyH_take (i := 9) (oi := _) (v := ?_) (by rw [List.getElem?_toArray]; exact rfl) (by kernel_rfl) (by kernel_rfl) (by kernel_rfl) (by exact fun _ _ _ h => h) (Or.inl ⟨by rfl, ?_⟩) hHeld ?_
              rotate_left
              · (intro wX hSw; obtain ⟨s0, s1, s2, s3, s4, s5, s6, s7, s8, s9, s10, s11⟩ := step_cells hSw; clear hSw; go_simp; try with_reducible rfl)
              try simp only [Act.put, List.setIfInBounds_toArray, List.set_cons_zero, List.set_cons_succ]
              refine wpAnyH_take (i := 10) (oi := _) (v := ?_) (by rw [List.getElem?_toArray]; exact rfl) (by kernel_rfl) (by kernel_rfl) (by kernel_rfl) (by exact fun _ _ _ h => h) (Or.inl ⟨by rfl, ?_⟩) hHeld ?_
              rotate_left
              · (intro wX hSw; clear hSw; go_simp; try with_reducible rfl)
              try simp only [Act.put, List.setIfInBounds_toArray, List.set_cons_zero, List.set_cons_succ]
              refine wpAnyH_take (i := 11) (oi := _) (v := ?_) (by rw [List.getElem?_toArray]; exact rfl) (by kernel_rfl) (by kernel_rfl) (by kernel_rfl) (by exact fun _ _ _ h => h) (Or.inl ⟨by rfl, ?_⟩) hHeld ?_
              rotate_left
              · (intro wX hSw; obtain ⟨s0, s1, s2, s3, s4, s5, s6, s7, s8, s9, s10, s11⟩ := step_cells hSw; clear hSw; go_simp; try with_reducible rfl)
              try simp only [Act.put, List.setIfInBounds_toArray, List.set_cons_zero, List.set_cons_succ]
              refine wpAnyH_ready (rs := [5]) (by kernel_rfl) (by simp) ?_
              refine AllReadyH.cons (o := _) (by rw [List.getElem?_toArray]; exact rfl) (fun K hK => ?_) AllReadyH.nil
              go_simp
              refine (ownL_any x.t.p x.t.fn x.t.fuel _ x.t.args _ (HXB.out.below HL.out.wj.low) (by have := HXL.out.1; omega)).mono ?_; rintro e wo ⟨oa, oc, rfl, ho, hB⟩; have HO := Lib.hid (show ReadsK encI 1 wo (.slice oa x.t.args.length oc) x.t.args from own_readsK (enc := encI) (k := 1) (fun _ => rfl) (by decide) ho); replace HL := Lib.hid (HL.out.below hB); replace HD := Lib.hid (HD.out.below hB); have hxo := step_keep hHeld (.below hB); clear ho hB
              go_wp2_with fail
              refine hK.out _ _ (hxo) (fun hHeld => ?_)
              clear hK K
              try simp only [Act.put, List.setIfInBounds_toArray, List.set_cons_zero, List.set_cons_succ]
              refine wpAnyH_ready (rs := [6]) (by kernel_rfl) (by simp) ?_
              refine AllReadyH.cons (o := _) (by rw [List.getElem?_toArray]; exact rfl) (fun K hK => ?_) AllReadyH.nil
              go_simp
              refine (fork_v HL.out x.n x.t.p x.t.fn x.t.fuel _ x.t.args HO.out HXL.out.1 (by have := HXL.out.2.1; omega)).mono ?_; rintro e w3 ⟨rfl, T3, hPT, hL3, hKK⟩; have HPT := Lib.hid hPT; replace HD := Lib.hid (dt_left HL.out hL3 HD.out hKK); replace HL := Lib.hid hL3; have hx3 := step_keep hHeld hKK; clear hL3 hKK hPT
              go_wp2_with fail
              refine hK.out _ _ (hx3) (fun hHeld => ?_)
              clear hK K
              try simp only [Act.put, List.setIfInBounds_toArray, List.set_cons_zero, List.set_cons_succ]
              refine wpAnyH_ready (rs := [12]) (by kernel_rfl) (by simp) ?_
              refine AllReadyH.cons (o := _) (by rw [List.getElem?_toArray]; exact rfl) (fun K hK => ?_) AllReadyH.nil
              go_simp
              refine (dfork_any x.n x.t.p x.t.fn x.t.fuel ta tc x.t.args HD.out HFT.out.len HFT.out.nd (by have := HXL.out.2.1; omega) HFT.out.ml HFT.out.op (argsZ_of _ _ _ HXB.out HL.out.wj.low)).mono ?_; rintro e w4 hR; obtain ⟨rfl, lv4, l4, hs4, hd4, hL4⟩ := ForkDP.both (c := ⟨x.t.fn, ta, tc, x.t.args, x.t.fuel, 1, 0, 0, 0, true⟩) rfl HSD.out HPT.out hR; have hx4 := box_right hHeld HD.out hL4 (by decide); replace HL := Lib.hid (vj_right HL.out HD.out hL4); replace HD := Lib.hid hd4; have HSZ := Lib.hid hs4; clear hR hd4 hs4 hL4
              go_wp2_with fail
              refine hK.out _ _ (hx4) (fun hHeld => ?_)
              clear hK K
              try simp only [Act.put, List.setIfInBounds_toArray, List.set_cons_zero, List.set_cons_succ]
              refine wpAnyH_take (i := 13) (oi := _) (v := ?_) (by rw [List.getElem?_toArray]; exact rfl) (by kernel_rfl) (by kernel_rfl) (by kernel_rfl) (by exact fun _ _ _ h => h) (Or.inl ⟨by rfl, ?_⟩) hHeld ?_
              rotate_left
              · (intro wX hSw; clear hSw; go_simp; try with_reducible rfl)
              try simp only [Act.put, List.setIfInBounds_toArray, List.set_cons_zero, List.set_cons_succ]
              refine wpAnyH_take (i := 14) (oi := _) (v := ?_) (by rw [List.getElem?_toArray]; exact rfl) (by kernel_rfl) (by kernel_rfl) (by kernel_rfl) (by exact fun _ _ _ h => h) (Or.inl ⟨by rfl, ?_⟩) hHeld ?_
              rotate_left
              · (intro wX hSw; clear hSw; go_simp; try with_reducible rfl)
              try simp only [Act.put, List.setIfInBounds_toArray, List.set_cons_zero, List.set_cons_succ]
              refine wpAnyH_done (by kernel_rfl) ?_ _
              have HSE := Lib.hid hHeld
              clear hHeld
              have hee : ((forkE T mo x.n x.t.p) == (forkE T mo x.n x.t.p)) = true := by simp
              generalize (forkE T mo x.n x.t.p) = E at *
              go_wp2_with fail
              refine Met.intro (hJ2 _ _ ?_)
              exact ⟨_, _, _, ⟨HL.out, HD.out, HSZ.out⟩, HSE.out, ⟨rfl, rfl, rfl, rfl, rfl, rfl, rfl⟩, rfl, by first | rfl | simp⟩
            have b1 : (x.op == 1) = false := by rw [beq_eq_false_iff_ne]; exact h1
            clear h1
            by_cases h2 : x.op = 2
            · have b2 : (x.op == 2) = true := by rw [h2]; rfl
              clear h2
              obtain ⟨⟨tp, tf, tu, tl⟩, htk⟩ : ∃ z, tkT T x.n [1, 4] = z := ⟨_, rfl⟩
              obtain ⟨ec, hec⟩ : ∃ z, (ofV T x.n [1, 4]).2 = z := ⟨_, rfl⟩
              have hee : (ec == ec) = true := by simp
              have HTK := Lib.hid (And.intro htk hec)
              have HTL := Lib.hid (show tl.length ≤ 1000000 from by have h0 := tk_len HS.out.t.ok x.n [1, 4]; rw [htk] at h0; exact Nat.le_trans h0 (by decide))
              clear htk hec
              have HL := Lib.hid HS.out.t
              have HD := Lib.hid HS.out.d
              clear HS
              go_wp2_with fail
              refine (begin_v HL.out x.n).mono ?_
              rintro e w3 ⟨hV, hL3, hKK⟩
              unfold TaskV at hV
              rw [HTK.out.1, HTK.out.2] at hV
              obtain ⟨va, vc, rfl, ho⟩ := hV
              have hA := alD w3 (.cells #[.string tp, .int .i64 tf, .slice va tl.length vc, .int .i64 tu] TaskT)
              have HB1 := Lib.hid (show BoxAt (w3.alloc (.cells #[.string tp, .int .i64 tf, .slice va tl.length vc, .int .i64 tu] TaskT)) w3.heap.size #[.string tp, .int .i64 tf, .slice va tl.length vc, .int .i64 tu] TaskT from heap_alloc_new _ _)
              replace HD := Lib.hid ((dt_left HL.out hL3 HD.out hKK).below hA)
              replace HL := Lib.hid (hL3.below hA)
              have HO := Lib.hid (own_below ho hA)
              have HS1 := Lib.hid (step_keep (step_keep HSS.out hKK) (.below hA))
              clear s0 s1 s2 s3 s4 s5 s6 s7 s8 s9 s10 s11 hL3 hKK ho HSS
              go_upto_region 21 with fail
              try simp only at HB1 HD HL HO HS1
              clear hA
              generalize w3.alloc (.cells #[.string tp, .int .i64 tf, .slice va tl.length vc, .int .i64 tu] TaskT) = w5 at *
              generalize w3.heap.size = b1 at *
              obtain ⟨s0, s1, s2, s3, s4, s5, s6, s7, s8, s9, s10, s11⟩ := step_cells HS1.out
              go_wp2_with fail
              refine (dbegin_any x.n HD.out HFT.out.len HFT.out.nd).mono ?_
              rintro e w4 hR
              have hBo := StateP.both (L := [1, 4]) (by simp) HSD.out hR
              rw [HTK.out.1, HTK.out.2] at hBo
              obtain ⟨⟨ua, uc, rfl, hrd⟩, lv4, l4, hs4, hd4, hL4⟩ := hBo
              have hA := alD w4 (.cells #[.string tp, .int .i64 tf, .slice ua tl.length uc, .int .i64 tu] TaskT)
              have HB2 := Lib.hid (show BoxAt (w4.alloc (.cells #[.string tp, .int .i64 tf, .slice ua tl.length uc, .int .i64 tu] TaskT)) w4.heap.size #[.string tp, .int .i64 tf, .slice ua tl.length uc, .int .i64 tu] TaskT from heap_alloc_new _ _)
              replace HB1 := Lib.hid ((box_dl HB1.out HD.out hL4 (by decide)).below hA)
              have HS2 := Lib.hid (step_keep (box_right HS1.out HD.out hL4 (by decide)) (.below hA))
              replace HO := Lib.hid (own_below (own_right HO.out HD.out hL4 (by decide)) hA)
              replace HL := Lib.hid ((vj_right HL.out HD.out hL4).below hA)
              replace HD := Lib.hid (hd4.below hA)
              have HRD := Lib.hid (hrd.below hA)
              have HSZ := Lib.hid hs4
              clear s0 s1 s2 s3 s4 s5 s6 s7 s8 s9 s10 s11 hR hd4 hs4 hL4 hrd HS1
              go_upto_region 22 with fail
              clear hA
              generalize w4.alloc (.cells #[.string tp, .int .i64 tf, .slice ua tl.length uc, .int .i64 tu] TaskT) = w6 at *
              generalize w4.heap.size = b2 at *
              obtain ⟨t0, t1, t2, t3⟩ := task_cells HB1.out
              obtain ⟨u0, u1, u2, u3⟩ := task_cells HB2.out
              have htl := HTL.out
              go_wp2_with fail
              have hsm := same_task tp tp tf tf tu tu _ _ tl tl _ (own_readsK (enc := encI) (k := 1) (fun _ => rfl) (by decide) HO.out) HRD.out htl
              rw [show sameT tp tp tf tf tu tu tl tl = true from by unfold sameT; exact decide_eq_true ⟨rfl, rfl, rfl, rfl⟩] at hsm
              refine hsm.mono ?_
              rintro e w7 ⟨rfl, hB⟩
              replace HL := Lib.hid (HL.out.below hB)
              replace HD := Lib.hid (HD.out.below hB)
              have HSE := Lib.hid (step_keep HS2.out (.below hB))
              clear hB hsm t0 t1 t2 t3 u0 u1 u2 u3 HB1 HB2 HO HRD HS2
              go_wp2_with fail
              refine Met.intro (hJ2 _ _ ?_)
              exact ⟨_, _, _, ⟨HL.out, HD.out, HSZ.out⟩, HSE.out, ⟨rfl, rfl, rfl, rfl, rfl, rfl, rfl⟩, rfl, by first | rfl | simp⟩
            have b2 : (x.op == 2) = false := by rw [beq_eq_false_iff_ne]; exact h2
            clear h2
            by_cases h3 : x.op = 3
            · have b3 : (x.op == 3) = true := by rw [h3]; rfl
              clear h3
              obtain ⟨⟨wb, wq⟩, hwv⟩ : ∃ z, waitV T x.n = z := ⟨_, rfl⟩
              have hbb : (wb == wb) = true := by simp
              have hqq : (wq == wq) = true := by simp
              have HWV := Lib.hid hwv
              clear hwv
              have HL := Lib.hid HS.out.t
              have HD := Lib.hid HS.out.d
              clear HS
              go_wp2_with fail
              refine (wait_v HL.out x.n).mono ?_
              rintro e w3 ⟨he, hL3, hKK⟩
              rw [HWV.out] at he
              subst he
              replace HD := Lib.hid (dt_left HL.out hL3 HD.out hKK)
              replace HL := Lib.hid hL3
              have HS1 := Lib.hid (step_keep HSS.out hKK)
              clear s0 s1 s2 s3 s4 s5 s6 s7 s8 s9 s10 s11 hL3 hKK HSS
              obtain ⟨s0, s1, s2, s3, s4, s5, s6, s7, s8, s9, s10, s11⟩ := step_cells HS1.out
              go_wp2_with fail
              refine (dwait_any x.n HD.out HFT.out.len HFT.out.nd).mono ?_
              rintro e w4 hR
              obtain ⟨he, lv4, l4, hs4, hd4, hL4⟩ := WaitDP.both HSD.out hR
              rw [HWV.out] at he
              subst he
              have HSE := Lib.hid (box_right HS1.out HD.out hL4 (by decide))
              replace HL := Lib.hid (vj_right HL.out HD.out hL4)
              replace HD := Lib.hid hd4
              have HSZ := Lib.hid hs4
              clear s0 s1 s2 s3 s4 s5 s6 s7 s8 s9 s10 s11 hR hd4 hs4 hL4 HS1
              go_wp2_with fail
              refine Met.intro (hJ2 _ _ ?_)
              exact ⟨_, _, _, ⟨HL.out, HD.out, HSZ.out⟩, HSE.out, ⟨rfl, rfl, rfl, rfl, rfl, rfl, rfl⟩, rfl, by first | rfl | simp⟩
            have b3 : (x.op == 3) = false := by rw [beq_eq_false_iff_ne]; exact h3
            clear h3
            by_cases h4 : x.op = 4
            · have b4 : (x.op == 4) = true := by rw [h4]; rfl
              clear h4
              obtain ⟨⟨tp, tf, tu, tl⟩, htk⟩ : ∃ z, tkT T x.n [1] = z := ⟨_, rfl⟩
              obtain ⟨ec, hec⟩ : ∃ z, (ofV T x.n [1]).2 = z := ⟨_, rfl⟩
              have hee : (ec == ec) = true := by simp
              have HTK := Lib.hid (And.intro htk hec)
              have HTL := Lib.hid (show tl.length ≤ 1000000 from by have h0 := tk_len HS.out.t.ok x.n [1]; rw [htk] at h0; exact Nat.le_trans h0 (by decide))
              clear htk hec
              have HL := Lib.hid HS.out.t
              have HD := Lib.hid HS.out.d
              clear HS
              go_wp2_with fail
              refine (leave_v HL.out x.n).mono ?_
              rintro e w3 ⟨hV, hL3, hKK⟩
              unfold TaskV at hV
              rw [HTK.out.1, HTK.out.2] at hV
              obtain ⟨va, vc, rfl, ho⟩ := hV
              have hA := alD w3 (.cells #[.string tp, .int .i64 tf, .slice va tl.length vc, .int .i64 tu] TaskT)
              have HB1 := Lib.hid (show BoxAt (w3.alloc (.cells #[.string tp, .int .i64 tf, .slice va tl.length vc, .int .i64 tu] TaskT)) w3.heap.size #[.string tp, .int .i64 tf, .slice va tl.length vc, .int .i64 tu] TaskT from heap_alloc_new _ _)
              replace HD := Lib.hid ((dt_left HL.out hL3 HD.out hKK).below hA)
              replace HL := Lib.hid (hL3.below hA)
              have HO := Lib.hid (own_below ho hA)
              have HS1 := Lib.hid (step_keep (step_keep HSS.out hKK) (.below hA))
              clear s0 s1 s2 s3 s4 s5 s6 s7 s8 s9 s10 s11 hL3 hKK ho HSS
              go_upto_region 29 with fail
              try simp only at HB1 HD HL HO HS1
              clear hA
              generalize w3.alloc (.cells #[.string tp, .int .i64 tf, .slice va tl.length vc, .int .i64 tu] TaskT) = w5 at *
              generalize w3.heap.size = b1 at *
              obtain ⟨s0, s1, s2, s3, s4, s5, s6, s7, s8, s9, s10, s11⟩ := step_cells HS1.out
              go_wp2_with fail
              refine (dleave_any x.n HD.out HFT.out.len HFT.out.nd).mono ?_
              rintro e w4 hR
              have hBo := StateP.both (L := [1]) (by simp) HSD.out hR
              rw [HTK.out.1, HTK.out.2] at hBo
              obtain ⟨⟨ua, uc, rfl, hrd⟩, lv4, l4, hs4, hd4, hL4⟩ := hBo
              have hA := alD w4 (.cells #[.string tp, .int .i64 tf, .slice ua tl.length uc, .int .i64 tu] TaskT)
              have HB2 := Lib.hid (show BoxAt (w4.alloc (.cells #[.string tp, .int .i64 tf, .slice ua tl.length uc, .int .i64 tu] TaskT)) w4.heap.size #[.string tp, .int .i64 tf, .slice ua tl.length uc, .int .i64 tu] TaskT from heap_alloc_new _ _)
              replace HB1 := Lib.hid ((box_dl HB1.out HD.out hL4 (by decide)).below hA)
              have HS2 := Lib.hid (step_keep (box_right HS1.out HD.out hL4 (by decide)) (.below hA))
              replace HO := Lib.hid (own_below (own_right HO.out HD.out hL4 (by decide)) hA)
              replace HL := Lib.hid ((vj_right HL.out HD.out hL4).below hA)
              replace HD := Lib.hid (hd4.below hA)
              have HRD := Lib.hid (hrd.below hA)
              have HSZ := Lib.hid hs4
              clear s0 s1 s2 s3 s4 s5 s6 s7 s8 s9 s10 s11 hR hd4 hs4 hL4 hrd HS1
              go_upto_region 30 with fail
              clear hA
              generalize w4.alloc (.cells #[.string tp, .int .i64 tf, .slice ua tl.length uc, .int .i64 tu] TaskT) = w6 at *
              generalize w4.heap.size = b2 at *
              obtain ⟨t0, t1, t2, t3⟩ := task_cells HB1.out
              obtain ⟨u0, u1, u2, u3⟩ := task_cells HB2.out
              have htl := HTL.out
              go_wp2_with fail
              have hsm := same_task tp tp tf tf tu tu _ _ tl tl _ (own_readsK (enc := encI) (k := 1) (fun _ => rfl) (by decide) HO.out) HRD.out htl
              rw [show sameT tp tp tf tf tu tu tl tl = true from by unfold sameT; exact decide_eq_true ⟨rfl, rfl, rfl, rfl⟩] at hsm
              refine hsm.mono ?_
              rintro e w7 ⟨rfl, hB⟩
              replace HL := Lib.hid (HL.out.below hB)
              replace HD := Lib.hid (HD.out.below hB)
              have HSE := Lib.hid (step_keep HS2.out (.below hB))
              clear hB hsm t0 t1 t2 t3 u0 u1 u2 u3 HB1 HB2 HO HRD HS2
              go_wp2_with fail
              refine Met.intro (hJ2 _ _ ?_)
              exact ⟨_, _, _, ⟨HL.out, HD.out, HSZ.out⟩, HSE.out, ⟨rfl, rfl, rfl, rfl, rfl, rfl, rfl⟩, rfl, by first | rfl | simp⟩
            have b4 : (x.op == 4) = false := by rw [beq_eq_false_iff_ne]; exact h4
            clear h4
            by_cases h5 : x.op = 5
            · have b5 : (x.op == 5) = true := by rw [h5]; rfl
              clear h5
              have HL := Lib.hid (HS.out.below ((Below.refl _ _).drew)).t
              have HD := Lib.hid (HS.out.below ((Below.refl _ _).drew)).d
              have hstart := Kept.below ((Below.refl ws.heap.size ws).drew) _ _ _ (by decide) HSS.out
              clear s0 s1 s2 s3 s4 s5 s6 s7 s8 s9 s10 s11 HS
              go_upto_region 32 with fail
              refine wp_region_held_drew (S := fun y => Box s (stepC x ta tc) StepT y) (by kernel_rfl) (hstart) (fun hHeld => ?_)
              refine wpAnyH_take (i := 0) (oi := _) (v := ?_) (by rw [List.getElem?_toArray]; exact rfl) (by kernel_rfl) (by kernel_rfl) (by kernel_rfl) (by exact fun _ _ _ h => h) (Or.inl ⟨by rfl, ?_⟩) hHeld ?_
              rotate_left
              · (intro wX hSw; clear hSw; go_simp; try with_reducible rfl)
              try simp only [Act.put, List.setIfInBounds_toArray, List.set_cons_zero, List.set_cons_succ]
              refine wpAnyH_take (i := 1) (oi := _) (v := ?_) (by rw [List.getElem?_toArray]; exact rfl) (by kernel_rfl) (by kernel_rfl) (by kernel_rfl) (by exact fun _ _ _ h => h) (Or.inl ⟨by rfl, ?_⟩) hHeld ?_
              rotate_left
              · (intro wX hSw; clear hSw; go_simp; try with_reducible rfl)
              try simp only [Act.put, List.setIfInBounds_toArray, List.set_cons_zero, List.set_cons_succ]
              refine wpAnyH_take (i := 2) (oi := _) (v := ?_) (by rw [List.getElem?_toArray]; exact rfl) (by kernel_rfl) (by kernel_rfl) (by kernel_rfl) (by exact fun _ _ _ h => h) (Or.inl ⟨by rfl, ?_⟩) hHeld ?_
              rotate_left
              · (intro wX hSw; obtain ⟨s0, s1, s2, s3, s4, s5, s6, s7, s8, s9, s10, s11⟩ := step_cells hSw; clear hSw; go_simp; try with_reducible rfl)
              try simp only [Act.put, List.setIfInBounds_toArray, List.set_cons_zero, List.set_cons_succ]
              refine wpAnyH_take (i := 4) (oi := _) (v := ?_) (by rw [List.getElem?_toArray]; exact rfl) (by kernel_rfl) (by kernel_rfl) (by kernel_rfl) (by exact fun _ _ _ h => h) (Or.inl ⟨by rfl, ?_⟩) hHeld ?_
              rotate_left
              · (intro wX hSw; clear hSw; go_simp; try with_reducible rfl)
              try simp only [Act.put, List.setIfInBounds_toArray, List.set_cons_zero, List.set_cons_succ]
              refine wpAnyH_take (i := 5) (oi := _) (v := ?_) (by rw [List.getElem?_toArray]; exact rfl) (by kernel_rfl) (by kernel_rfl) (by kernel_rfl) (by exact fun _ _ _ h => h) (Or.inl ⟨by rfl, ?_⟩) hHeld ?_
              rotate_left
              · (intro wX hSw; clear hSw; go_simp; try with_reducible rfl)
              try simp only [Act.put, List.setIfInBounds_toArray, List.set_cons_zero, List.set_cons_succ]
              refine wpAnyH_take (i := 6) (oi := _) (v := ?_) (by rw [List.getElem?_toArray]; exact rfl) (by kernel_rfl) (by kernel_rfl) (by kernel_rfl) (by exact fun _ _ _ h => h) (Or.inl ⟨by rfl, ?_⟩) hHeld ?_
              rotate_left
              · (intro wX hSw; obtain ⟨s0, s1, s2, s3, s4, s5, s6, s7, s8, s9, s10, s11⟩ := step_cells hSw; clear hSw; go_simp; try with_reducible rfl)
              try simp only [Act.put, List.setIfInBounds_toArray, List.set_cons_zero, List.set_cons_succ]
              refine wpAnyH_ready (rs := [3]) (by kernel_rfl) (by simp) ?_
              refine AllReadyH.cons (o := _) (by rw [List.getElem?_toArray]; exact rfl) (fun K hK => ?_) AllReadyH.nil
              go_simp
              refine (back_v HL.out x.n).mono ?_; rintro e w3 ⟨rfl, hL3, hKK⟩; replace HD := Lib.hid (dt_left HL.out hL3 HD.out hKK); replace HL := Lib.hid hL3; have hx3 := step_keep hHeld hKK; clear hL3 hKK
              go_wp2_with fail
              refine hK.out _ _ (hx3) (fun hHeld => ?_)
              clear hK K
              try simp only [Act.put, List.setIfInBounds_toArray, List.set_cons_zero, List.set_cons_succ]
              refine wpAnyH_ready (rs := [7]) (by kernel_rfl) (by simp) ?_
              refine AllReadyH.cons (o := _) (by rw [List.getElem?_toArray]; exact rfl) (fun K hK => ?_) AllReadyH.nil
              go_simp
              refine (dback_any x.n HD.out HFT.out.len HFT.out.nd).mono ?_; rintro e w4 hR; obtain ⟨rfl, lv4, l4, hs4, hd4, hL4⟩ := BackDP.both HSD.out hR; have hx4 := box_right hHeld HD.out hL4 (by decide); replace HL := Lib.hid (vj_right HL.out HD.out hL4); replace HD := Lib.hid hd4; have HSZ := Lib.hid hs4; clear hR hd4 hs4 hL4
              go_wp2_with fail
              refine hK.out _ _ (hx4) (fun hHeld => ?_)
              clear hK K
              try simp only [Act.put, List.setIfInBounds_toArray, List.set_cons_zero, List.set_cons_succ]
              refine wpAnyH_take (i := 8) (oi := _) (v := ?_) (by rw [List.getElem?_toArray]; exact rfl) (by kernel_rfl) (by kernel_rfl) (by kernel_rfl) (by exact fun _ _ _ h => h) (Or.inl ⟨by rfl, ?_⟩) hHeld ?_
              rotate_left
              · (intro wX hSw; clear hSw; go_simp; try with_reducible rfl)
              try simp only [Act.put, List.setIfInBounds_toArray, List.set_cons_zero, List.set_cons_succ]
              refine wpAnyH_take (i := 9) (oi := _) (v := ?_) (by rw [List.getElem?_toArray]; exact rfl) (by kernel_rfl) (by kernel_rfl) (by kernel_rfl) (by exact fun _ _ _ h => h) (Or.inl ⟨by rfl, ?_⟩) hHeld ?_
              rotate_left
              · (intro wX hSw; clear hSw; go_simp; try with_reducible rfl)
              try simp only [Act.put, List.setIfInBounds_toArray, List.set_cons_zero, List.set_cons_succ]
              refine wpAnyH_done (by kernel_rfl) ?_ _
              have HSE := Lib.hid hHeld
              clear hHeld
              have hee : (((ofV T x.n [5]).2) == ((ofV T x.n [5]).2)) = true := by simp
              generalize ((ofV T x.n [5]).2) = E at *
              go_wp2_with fail
              refine Met.intro (hJ2 _ _ ?_)
              exact ⟨_, _, _, ⟨HL.out, HD.out, HSZ.out⟩, HSE.out, ⟨rfl, rfl, rfl, rfl, rfl, rfl, rfl⟩, rfl, by first | rfl | simp⟩
            have b5 : (x.op == 5) = false := by rw [beq_eq_false_iff_ne]; exact h5
            clear h5
            by_cases h6 : x.op = 6
            · have b6 : (x.op == 6) = true := by rw [h6]; rfl
              clear h6
              have HL := Lib.hid HS.out.t
              have HD := Lib.hid HS.out.d
              clear HS
              go_wp2_with fail
              refine (over_v HL.out x.n x.val x.err).mono ?_
              rintro e w3 ⟨T3, hOT, hL3, hKK⟩
              obtain ⟨an, ab, aq, he⟩ := hOT.shape
              have HOT := Lib.hid hOT
              subst he
              have hbb : (ab == ab) = true := by simp
              have hqq : (aq == aq) = true := by simp
              have hnn : ∀ w, (binOp .eql NmT (nmA an) (nmA an)).run Try.prog w = .ok (.bool true) w := fun w => by have h := eqNm an an w; rwa [decide_eq_true rfl] at h
              have hA := alD w3 (.cells #[.int .u64 an.1, .string an.2] NmT)
              have HB1 := Lib.hid (show BoxAt (w3.alloc (.cells #[.int .u64 an.1, .string an.2] NmT)) w3.heap.size #[.int .u64 an.1, .string an.2] NmT from heap_alloc_new _ _)
              replace HD := Lib.hid ((dt_left HL.out hL3 HD.out hKK).below hA)
              replace HL := Lib.hid (hL3.below hA)
              have HS1 := Lib.hid (step_keep (step_keep HSS.out hKK) (.below hA))
              clear s0 s1 s2 s3 s4 s5 s6 s7 s8 s9 s10 s11 hL3 hKK hOT HSS
              go_upto_region 35 with fail
              clear hA
              generalize w3.alloc (.cells #[.int .u64 an.1, .string an.2] NmT) = w5 at *
              generalize w3.heap.size = b1 at *
              obtain ⟨s0, s1, s2, s3, s4, s5, s6, s7, s8, s9, s10, s11⟩ := step_cells HS1.out
              go_wp2_with fail
              refine (dover_any x.n x.val x.err HD.out HFT.out.len HFT.out.nd HFT.out.ml HFT.out.op HFT.out.pb).mono ?_
              rintro e w4 hR
              obtain ⟨rfl, _, lv4, l4, hs4, hd4, hL4⟩ := OverDP.both HSD.out HOT.out hR
              have hA := alD w4 (.cells #[.int .u64 an.1, .string an.2] NmT)
              have HB2 := Lib.hid (show BoxAt (w4.alloc (.cells #[.int .u64 an.1, .string an.2] NmT)) w4.heap.size #[.int .u64 an.1, .string an.2] NmT from heap_alloc_new _ _)
              replace HB1 := Lib.hid ((box_dl HB1.out HD.out hL4 (by decide)).below hA)
              have HSE := Lib.hid (step_keep (box_right HS1.out HD.out hL4 (by decide)) (.below hA))
              replace HL := Lib.hid ((vj_right HL.out HD.out hL4).below hA)
              replace HD := Lib.hid (hd4.below hA)
              have HSZ := Lib.hid hs4
              clear s0 s1 s2 s3 s4 s5 s6 s7 s8 s9 s10 s11 hR hd4 hs4 hL4 HS1
              go_upto_region 36 with fail
              clear hA
              generalize w4.alloc (.cells #[.int .u64 an.1, .string an.2] NmT) = w6 at *
              generalize w4.heap.size = b2 at *
              obtain ⟨t0, t1⟩ := nm_cells HB1.out
              obtain ⟨u0, u1⟩ := nm_cells HB2.out
              go_wp2_with fail
              refine Met.intro (hJ2 _ _ ?_)
              exact ⟨_, _, _, ⟨HL.out, HD.out, HSZ.out⟩, HSE.out, ⟨rfl, rfl, rfl, rfl, rfl, rfl, rfl⟩, rfl, by first | rfl | simp⟩
            have b6 : (x.op == 6) = false := by rw [beq_eq_false_iff_ne]; exact h6
            clear h6
            by_cases h7 : x.op = 7
            · have b7 : (x.op == 7) = true := by rw [h7]; rfl
              clear h7
              have HL := Lib.hid HS.out.t
              have HD := Lib.hid HS.out.d
              have hA := alD ws (.cells #[.int .u64 x.n.1, .string x.n.2, .int .u64 x.m.1, .string x.m.2] NmT)
              have HRN := Lib.hid (reads_two_names ws x.n x.m)
              have HBX := Lib.hid (show (ws.alloc (.cells #[.int .u64 x.n.1, .string x.n.2, .int .u64 x.m.1, .string x.m.2] NmT)).heap[ws.heap.size]? = some (.cells #[.int .u64 x.n.1, .string x.n.2, .int .u64 x.m.1, .string x.m.2] NmT (0, 0)) from heap_alloc_new _ _)
              replace HL := Lib.hid (HL.out.below hA)
              replace HD := Lib.hid (HD.out.below hA)
              have HS0 := Lib.hid (step_keep HSS.out (.below hA))
              clear HS hA HSS
              go_wp2_with fail
              refine (drop_v HL.out x.n x.m _ HRN.out (by rintro a k c e; injection e with e1 _ _; injection e1 with e1; rw [← e1]; exact ⟨_, _, _, HBX.out, by decide⟩) (by have := HXL.out.2.2.1; omega) (by have := HXL.out.2.2.2; omega)).mono ?_
              rintro e w3 ⟨rfl, hL3, hKK⟩
              obtain ⟨dn, hdn⟩ : ∃ z : Int, (T.length : Int) - (dropT (dropT T x.n) x.m).length = z := ⟨_, rfl⟩
              rw [hdn]
              have HDN := Lib.hid hdn
              replace HD := Lib.hid (dt_left HL.out hL3 HD.out hKK)
              have HOK := Lib.hid (HL.out.ok)
              have HSZ0 := Lib.hid (HL.out.sz)
              replace HL := Lib.hid hL3
              have HS1 := Lib.hid (step_keep HS0.out hKK)
              clear s0 s1 s2 s3 s4 s5 s6 s7 s8 s9 s10 s11 hL3 hKK HS0 HRN HBX hdn
              obtain ⟨s0, s1, s2, s3, s4, s5, s6, s7, s8, s9, s10, s11⟩ := step_cells HS1.out
              go_wp2_with fail
              refine (ddropR_any x.n HD.out HFT.out.len HFT.out.nd (by have := HXL.out.2.2.1; omega) HFT.out.ml HFT.out.op HFT.out.pb).mono ?_
              rintro e w4 hR
              obtain ⟨rfl, lv4, l4, hs4, hd4, hL4⟩ := DropDP.both HSD.out HOK.out hR
              obtain ⟨da, hda⟩ : ∃ z : Int, (T.length : Int) - (dropT T x.n).length = z := ⟨_, rfl⟩
              rw [hda]
              have HDA := Lib.hid hda
              have HOK1 := Lib.hid (HOK.out.drop x.n)
              have HF4 := Lib.hid (hs4.fit HOK1.out (Nat.le_trans (dropT_len_le T x.n) HSZ0.out))
              have HS2 := Lib.hid (box_right HS1.out HD.out hL4 (by decide))
              replace HL := Lib.hid (vj_right HL.out HD.out hL4)
              replace HD := Lib.hid hd4
              have HSD4 := Lib.hid hs4
              clear s0 s1 s2 s3 s4 s5 s6 s7 s8 s9 s10 s11 hR hd4 hs4 hL4 HS1 hda
              obtain ⟨s0, s1, s2, s3, s4, s5, s6, s7, s8, s9, s10, s11⟩ := step_cells HS2.out
              go_wp2_with fail
              refine (ddropR_any x.m HD.out HF4.out.len HF4.out.nd (by have := HXL.out.2.2.2; omega) HF4.out.ml HF4.out.op HF4.out.pb).mono ?_
              rintro e w8 hR
              obtain ⟨rfl, lv5, l5, hs5, hd5, hL5⟩ := DropDP.both HSD4.out HOK1.out hR
              obtain ⟨db, hdb⟩ : ∃ z : Int, ((dropT T x.n).length : Int) - (dropT (dropT T x.n) x.m).length = z := ⟨_, rfl⟩
              rw [hdb]
              have hsum : da + db = dn := by have h1 := HDA.out; have h2 := HDN.out; omega
              have hwr : IntKind.i64.wrap (da + db) = dn := by
                rw [hsum]
                have h2 := HDN.out
                have h3 := HSZ0.out
                have h4 : (dropT (dropT T x.n) x.m).length ≤ T.length := Nat.le_trans (dropT_len_le _ x.m) (dropT_len_le T x.n)
                exact IntWalk.i64_in _ (by omega)
              have hdd : (dn == dn) = true := by simp
              have HSE := Lib.hid (box_right HS2.out HD.out hL5 (by decide))
              replace HL := Lib.hid (vj_right HL.out HD.out hL5)
              replace HD := Lib.hid hd5
              have HSZ := Lib.hid hs5
              clear s0 s1 s2 s3 s4 s5 s6 s7 s8 s9 s10 s11 hR hd5 hs5 hL5 HS2 hdb hsum
              go_wp2_with fail
              refine Met.intro (hJ2 _ _ ?_)
              exact ⟨_, _, _, ⟨HL.out, HD.out, HSZ.out⟩, HSE.out, ⟨rfl, rfl, rfl, rfl, rfl, rfl, rfl⟩, rfl, by first | rfl | simp⟩
            have b7 : (x.op == 7) = false := by rw [beq_eq_false_iff_ne]; exact h7
            clear h7
            clear s0 s1 s2 s3 s4 s5 s6 s7 s8 s9 s10 s11
            go_wp2_with fail
            refine Met.intro (hJ2 _ _ ?_)
            exact ⟨_, _, _, HS.out, HSS.out, ⟨rfl, rfl, rfl, rfl, rfl, rfl, rfl⟩, rfl, rfl⟩
          case rest =>
            clear hbx HS HSS
            rintro ⟨ts2, ds2⟩ wc ⟨lv, T, l, hP, hbx, ⟨hd2, hts2, f0, f1, f5, f7, f8⟩, f9, f10⟩
            have HP := Lib.hid hP
            have HSS := Lib.hid hbx
            clear hP hbx
            simp only at hd2 hts2 f0 f1 f5 f7 f8 f9 f10
            subst hd2
            rw [frame_lit337 hts2, f0, f1, f5, f7, f8, f9, f10]
            clear f0 f1 f5 f7 f8 f9 f10
            have HFT := Lib.hid HP.out.fit
            obtain ⟨la, lc, hlv⟩ := own_slice HP.out.d.own
            have HLV := Lib.hid hlv
            clear hlv
            go_upto_region 42 with fail
            refine wp_region_held_drew (S := fun y => Below wc.heap.size wc y) (by kernel_rfl) ((Below.refl _ _).drew) (fun hHeld => ?_)
            refine wpAnyH_take (i := 0) (oi := _) (v := ?_) (by rw [List.getElem?_toArray]; exact rfl) (by kernel_rfl) (by kernel_rfl) (by kernel_rfl) (by exact fun _ _ _ h => h) (Or.inl ⟨by rfl, ?_⟩) hHeld ?_
            rotate_left
            · (intro wX hSw; clear hSw; go_simp; try with_reducible rfl)
            try simp only [Act.put, List.setIfInBounds_toArray, List.set_cons_zero, List.set_cons_succ]
            refine wpAnyH_take (i := 1) (oi := _) (v := ?_) (by rw [List.getElem?_toArray]; exact rfl) (by kernel_rfl) (by kernel_rfl) (by kernel_rfl) (by exact fun _ _ _ h => h) (Or.inl ⟨by rfl, ?_⟩) hHeld ?_
            rotate_left
            · (intro wX hSw; clear hSw; go_simp; try with_reducible rfl)
            try simp only [Act.put, List.setIfInBounds_toArray, List.set_cons_zero, List.set_cons_succ]
            refine wpAnyH_take (i := 2) (oi := _) (v := ?_) (by rw [List.getElem?_toArray]; exact rfl) (by kernel_rfl) (by kernel_rfl) (by kernel_rfl) (by exact fun _ _ _ h => h) (Or.inl ⟨by rfl, ?_⟩) hHeld ?_
            rotate_left
            · (intro wX hSw; clear hSw; go_simp; try with_reducible rfl)
            try simp only [Act.put, List.setIfInBounds_toArray, List.set_cons_zero, List.set_cons_succ]
            refine wpAnyH_take (i := 3) (oi := _) (v := ?_) (by rw [List.getElem?_toArray]; exact rfl) (by kernel_rfl) (by kernel_rfl) (by kernel_rfl) (by exact fun _ _ _ h => h) (Or.inl ⟨by rfl, ?_⟩) hHeld ?_
            rotate_left
            · (intro wX hSw; clear hSw; go_simp; try with_reducible rfl)
            try simp only [Act.put, List.setIfInBounds_toArray, List.set_cons_zero, List.set_cons_succ]
            refine wpAnyH_take (i := 5) (oi := _) (v := ?_) (by rw [List.getElem?_toArray]; exact rfl) (by kernel_rfl) (by kernel_rfl) (by kernel_rfl) (by exact fun _ _ _ h => h) (Or.inl ⟨by rfl, ?_⟩) hHeld ?_
            rotate_left
            · (intro wX hSw; clear hSw; go_simp; try with_reducible rfl)
            try simp only [Act.put, List.setIfInBounds_toArray, List.set_cons_zero, List.set_cons_succ]
            refine wpAnyH_take (i := 6) (oi := _) (v := ?_) (by rw [List.getElem?_toArray]; exact rfl) (by kernel_rfl) (by kernel_rfl) (by kernel_rfl) (by exact fun _ _ _ h => h) (Or.inl ⟨by rfl, ?_⟩) hHeld ?_
            rotate_left
            · (intro wX hSw; clear hSw; go_simp; try with_reducible rfl)
            try simp only [Act.put, List.setIfInBounds_toArray, List.set_cons_zero, List.set_cons_succ]
            refine wpAnyH_take (i := 7) (oi := _) (v := ?_) (by rw [List.getElem?_toArray]; exact rfl) (by kernel_rfl) (by kernel_rfl) (by kernel_rfl) (by exact fun _ _ _ h => h) (Or.inl ⟨by rfl, ?_⟩) hHeld ?_
            rotate_left
            · (intro wX hSw; clear hSw; go_simp; try with_reducible rfl)
            try simp only [Act.put, List.setIfInBounds_toArray, List.set_cons_zero, List.set_cons_succ]
            refine wpAnyH_take (i := 8) (oi := _) (v := ?_) (by rw [List.getElem?_toArray]; exact rfl) (by kernel_rfl) (by kernel_rfl) (by kernel_rfl) (by exact fun _ _ _ h => h) (Or.inl ⟨by rfl, ?_⟩) hHeld ?_
            rotate_left
            · (intro wX hSw; have y0 := (HP.out.d.below hSw).cell; rw [HLV.out] at y0; clear hSw; go_simp; try with_reducible rfl)
            try simp only [Act.put, List.setIfInBounds_toArray, List.set_cons_zero, List.set_cons_succ]
            refine wpAnyH_take (i := 9) (oi := _) (v := ?_) (by rw [List.getElem?_toArray]; exact rfl) (by kernel_rfl) (by kernel_rfl) (by kernel_rfl) (by exact fun _ _ _ h => h) (Or.inl ⟨by rfl, ?_⟩) hHeld ?_
            rotate_left
            · (intro wX hSw; clear hSw; go_simp; try with_reducible rfl)
            try simp only [Act.put, List.setIfInBounds_toArray, List.set_cons_zero, List.set_cons_succ]
            refine wpAnyH_ready (rs := [4]) (by kernel_rfl) (by simp) ?_
            refine AllReadyH.cons (o := _) (by rw [List.getElem?_toArray]; exact rfl) (fun K hK => ?_) AllReadyH.nil
            go_simp
            refine (len_tab f m mo T _ (HP.out.below hHeld).t.wj.tab).mono ?_; rintro e w6 ⟨rfl, hw6⟩; subst hw6; rw [← HP.out.s.len]
            go_wp2_with fail
            refine hK.out _ _ (hHeld) (fun hHeld => ?_)
            clear hK K
            try simp only [Act.put, List.setIfInBounds_toArray, List.set_cons_zero, List.set_cons_succ]
            refine wpAnyH_take (i := 10) (oi := _) (v := ?_) (by rw [List.getElem?_toArray]; exact rfl) (by kernel_rfl) (by kernel_rfl) (by kernel_rfl) (by exact fun _ _ _ h => h) (Or.inl ⟨by rfl, ?_⟩) hHeld ?_
            rotate_left
            · (intro wX hSw; clear hSw; go_simp; try with_reducible rfl)
            try simp only [Act.put, List.setIfInBounds_toArray, List.set_cons_zero, List.set_cons_succ]
            refine wpAnyH_take (i := 11) (oi := _) (v := ?_) (by rw [List.getElem?_toArray]; exact rfl) (by kernel_rfl) (by kernel_rfl) (by kernel_rfl) (by exact fun _ _ _ h => h) (Or.inl ⟨by rfl, ?_⟩) hHeld ?_
            rotate_left
            · (intro wX hSw; clear hSw; go_simp; try with_reducible rfl)
            try simp only [Act.put, List.setIfInBounds_toArray, List.set_cons_zero, List.set_cons_succ]
            refine wpAnyH_done (by kernel_rfl) ?_ _
            have HP1 := Lib.hid (HP.out.below hHeld)
            have HS1 := Lib.hid (step_keep HSS.out (.below hHeld))
            clear hHeld HP HSS
            generalize wc.drew = w1 at *
            obtain ⟨s0, s1, s2, s3, s4, s5, s6, s7, s8, s9, s10, s11⟩ := step_cells HS1.out
            go_wp2_with fail
            refine (get_tab f m mo T x.n _ HP1.out.t.wj.tab HP1.out.t.args).mono ?_
            rintro e w2 hG
            obtain ⟨q, is, rfl, hq, hra, hB⟩ := get_uni hG
            have hA := alD w2 (.cells (encT q).toArray ARowT)
            have HP2 := Lib.hid ((HP1.out.below hB).below hA)
            have HS2 := Lib.hid (step_keep (step_keep HS1.out (.below hB)) (.below hA))
            have HB1 := Lib.hid (show BoxAt (w2.alloc (.cells (encT q).toArray ARowT)) w2.heap.size (encT q).toArray ARowT from heap_alloc_new _ _)
            have HRA := Lib.hid (hra.below hA)
            have HQ := Lib.hid hq
            unfold encT
            unfold encT at HP2 HS2 HB1 HRA
            clear s0 s1 s2 s3 s4 s5 s6 s7 s8 s9 s10 s11 hG hq hra hB HP1 HS1 hA
            go_upto_region 45 with fail
            try simp only at HP2 HS2 HB1 HRA
            generalize w2.alloc (.cells #[.int .u64 q.1.1, .string q.1.2, .string q.1.2, .int .i64 q.2.fn, .slice q.2.aa q.2.args.length q.2.ac, .int .i64 q.2.fuel, .int .u8 q.2.st, .int .i64 q.2.op, .int .i64 q.2.val, .int .i64 q.2.err] ARowT) = w3 at *
            generalize w2.heap.size = qb at *
            obtain ⟨s0, s1, s2, s3, s4, s5, s6, s7, s8, s9, s10, s11⟩ := step_cells HS2.out
            go_wp2_with fail
            refine (dfind_any x.n HP2.out.d HFT.out.len).mono ?_
            rintro e w4 ⟨⟨i, rfl, hF⟩, hB⟩
            have HP3 := Lib.hid (HP2.out.below hB)
            replace HB1 := Lib.hid (show BoxAt w4 qb (encT q).toArray ARowT from HB1.out.below hB)
            replace HRA := Lib.hid (HRA.out.below hB)
            have HFF := Lib.hid (HP3.out.s.found HQ.out hF)
            clear s0 s1 s2 s3 s4 s5 s6 s7 s8 s9 s10 s11 hB hF HQ HP2 HS2
            go_upto_region 46 with fail
            rcases HFF.out with ⟨rfl, rfl, rfl⟩ | ⟨rfl, hqn, j, hj, rfl, hjn, hqc⟩
            · clear HFF
              refine wp_region_held_drew (S := fun y => Below w4.heap.size w4 y) (by kernel_rfl) ((Below.refl _ _).drew) (fun hHeld => ?_)
              refine wpAnyH_take (i := 0) (oi := _) (v := ?_) (by rw [List.getElem?_toArray]; exact rfl) (by kernel_rfl) (by kernel_rfl) (by kernel_rfl) (by exact fun _ _ _ h => h) (Or.inl ⟨by rfl, ?_⟩) hHeld ?_
              rotate_left
              · (intro wX hSw; clear hSw; go_simp; try with_reducible rfl)
              try simp only [Act.put, List.setIfInBounds_toArray, List.set_cons_zero, List.set_cons_succ]
              refine wpAnyH_take (i := 1) (oi := _) (v := ?_) (by rw [List.getElem?_toArray]; exact rfl) (by kernel_rfl) (by kernel_rfl) (by kernel_rfl) (by exact fun _ _ _ h => h) (Or.inl ⟨by rfl, ?_⟩) hHeld ?_
              rotate_left
              · (intro wX hSw; clear hSw; go_simp; try with_reducible rfl)
              try simp only [Act.put, List.setIfInBounds_toArray, List.set_cons_zero, List.set_cons_succ]
              refine wpAnyH_take (i := 2) (oi := _) (v := ?_) (by rw [List.getElem?_toArray]; exact rfl) (by kernel_rfl) (by kernel_rfl) (by kernel_rfl) (by exact fun _ _ _ h => h) (Or.inl ⟨by rfl, ?_⟩) hHeld ?_
              rotate_left
              · (intro wX hSw; clear hSw; go_simp; try with_reducible rfl)
              try simp only [Act.put, List.setIfInBounds_toArray, List.set_cons_zero, List.set_cons_succ]
              refine wpAnyH_take (i := 3) (oi := _) (v := ?_) (by rw [List.getElem?_toArray]; exact rfl) (by kernel_rfl) (by kernel_rfl) (by kernel_rfl) (by exact fun _ _ _ h => h) (Or.inl ⟨by rfl, ?_⟩) hHeld ?_
              rotate_left
              · (intro wX hSw; clear hSw; go_simp; try with_reducible rfl)
              try simp only [Act.put, List.setIfInBounds_toArray, List.set_cons_zero, List.set_cons_succ]
              refine wpAnyH_take (i := 4) (oi := _) (v := ?_) (by rw [List.getElem?_toArray]; exact rfl) (by kernel_rfl) (by kernel_rfl) (by kernel_rfl) (by exact fun _ _ _ h => h) (Or.inl ⟨by rfl, ?_⟩) hHeld ?_
              rotate_left
              · (intro wX hSw; clear hSw; go_simp; try with_reducible rfl)
              try simp only [Act.put, List.setIfInBounds_toArray, List.set_cons_zero, List.set_cons_succ]
              refine wpAnyH_take (i := 5) (oi := _) (v := ?_) (by rw [List.getElem?_toArray]; exact rfl) (by kernel_rfl) (by kernel_rfl) (by kernel_rfl) (by exact fun _ _ _ h => h) (Or.inl ⟨by rfl, ?_⟩) hHeld ?_
              rotate_left
              · (intro wX hSw; clear hSw; go_simp; try with_reducible rfl)
              try simp only [Act.put, List.setIfInBounds_toArray, List.set_cons_zero, List.set_cons_succ]
              refine wpAnyH_take (i := 6) (oi := _) (v := ?_) (by rw [List.getElem?_toArray]; exact rfl) (by kernel_rfl) (by kernel_rfl) (by kernel_rfl) (by exact fun _ _ _ h => h) (Or.inl ⟨by rfl, ?_⟩) hHeld ?_
              rotate_left
              · (intro wX hSw; clear hSw; go_simp; try with_reducible rfl)
              try simp only [Act.put, List.setIfInBounds_toArray, List.set_cons_zero, List.set_cons_succ]
              refine wpAnyH_take (i := 7) (oi := _) (v := undef) (by rw [List.getElem?_toArray]; exact rfl) (by kernel_rfl) (by kernel_rfl) (by kernel_rfl) (by exact fun _ _ _ h => h) (Or.inr ⟨by rfl, rfl⟩) hHeld ?_
              try simp only [Act.put, List.setIfInBounds_toArray, List.set_cons_zero, List.set_cons_succ]
              refine wpAnyH_take (i := 8) (oi := _) (v := undef) (by rw [List.getElem?_toArray]; exact rfl) (by kernel_rfl) (by kernel_rfl) (by kernel_rfl) (by exact fun _ _ _ h => h) (Or.inr ⟨by rfl, rfl⟩) hHeld ?_
              try simp only [Act.put, List.setIfInBounds_toArray, List.set_cons_zero, List.set_cons_succ]
              refine wpAnyH_take (i := 9) (oi := _) (v := undef) (by rw [List.getElem?_toArray]; exact rfl) (by kernel_rfl) (by kernel_rfl) (by kernel_rfl) (by exact fun _ _ _ h => h) (Or.inr ⟨by rfl, rfl⟩) hHeld ?_
              try simp only [Act.put, List.setIfInBounds_toArray, List.set_cons_zero, List.set_cons_succ]
              refine wpAnyH_take (i := 10) (oi := _) (v := undef) (by rw [List.getElem?_toArray]; exact rfl) (by kernel_rfl) (by kernel_rfl) (by kernel_rfl) (by exact fun _ _ _ h => h) (Or.inr ⟨by rfl, rfl⟩) hHeld ?_
              try simp only [Act.put, List.setIfInBounds_toArray, List.set_cons_zero, List.set_cons_succ]
              refine wpAnyH_take (i := 11) (oi := _) (v := undef) (by rw [List.getElem?_toArray]; exact rfl) (by kernel_rfl) (by kernel_rfl) (by kernel_rfl) (by exact fun _ _ _ h => h) (Or.inr ⟨by rfl, rfl⟩) hHeld ?_
              try simp only [Act.put, List.setIfInBounds_toArray, List.set_cons_zero, List.set_cons_succ]
              refine wpAnyH_take (i := 12) (oi := _) (v := undef) (by rw [List.getElem?_toArray]; exact rfl) (by kernel_rfl) (by kernel_rfl) (by kernel_rfl) (by exact fun _ _ _ h => h) (Or.inr ⟨by rfl, rfl⟩) hHeld ?_
              try simp only [Act.put, List.setIfInBounds_toArray, List.set_cons_zero, List.set_cons_succ]
              refine wpAnyH_take (i := 13) (oi := _) (v := undef) (by rw [List.getElem?_toArray]; exact rfl) (by kernel_rfl) (by kernel_rfl) (by kernel_rfl) (by exact fun _ _ _ h => h) (Or.inr ⟨by rfl, rfl⟩) hHeld ?_
              try simp only [Act.put, List.setIfInBounds_toArray, List.set_cons_zero, List.set_cons_succ]
              refine wpAnyH_take (i := 14) (oi := _) (v := undef) (by rw [List.getElem?_toArray]; exact rfl) (by kernel_rfl) (by kernel_rfl) (by kernel_rfl) (by exact fun _ _ _ h => h) (Or.inr ⟨by rfl, rfl⟩) hHeld ?_
              try simp only [Act.put, List.setIfInBounds_toArray, List.set_cons_zero, List.set_cons_succ]
              refine wpAnyH_take (i := 15) (oi := _) (v := undef) (by rw [List.getElem?_toArray]; exact rfl) (by kernel_rfl) (by kernel_rfl) (by kernel_rfl) (by exact fun _ _ _ h => h) (Or.inr ⟨by rfl, rfl⟩) hHeld ?_
              try simp only [Act.put, List.setIfInBounds_toArray, List.set_cons_zero, List.set_cons_succ]
              refine wpAnyH_take (i := 16) (oi := _) (v := undef) (by rw [List.getElem?_toArray]; exact rfl) (by kernel_rfl) (by kernel_rfl) (by kernel_rfl) (by exact fun _ _ _ h => h) (Or.inr ⟨by rfl, rfl⟩) hHeld ?_
              try simp only [Act.put, List.setIfInBounds_toArray, List.set_cons_zero, List.set_cons_succ]
              refine wpAnyH_take (i := 17) (oi := _) (v := undef) (by rw [List.getElem?_toArray]; exact rfl) (by kernel_rfl) (by kernel_rfl) (by kernel_rfl) (by exact fun _ _ _ h => h) (Or.inr ⟨by rfl, rfl⟩) hHeld ?_
              try simp only [Act.put, List.setIfInBounds_toArray, List.set_cons_zero, List.set_cons_succ]
              refine wpAnyH_take (i := 18) (oi := _) (v := ?_) (by rw [List.getElem?_toArray]; exact rfl) (by kernel_rfl) (by kernel_rfl) (by kernel_rfl) (by exact fun _ _ _ h => h) (Or.inl ⟨by rfl, ?_⟩) hHeld ?_
              rotate_left
              · (intro wX hSw; clear hSw; go_simp; try with_reducible rfl)
              try simp only [Act.put, List.setIfInBounds_toArray, List.set_cons_zero, List.set_cons_succ]
              refine wpAnyH_take (i := 19) (oi := _) (v := ?_) (by rw [List.getElem?_toArray]; exact rfl) (by kernel_rfl) (by kernel_rfl) (by kernel_rfl) (by exact fun _ _ _ h => h) (Or.inl ⟨by rfl, ?_⟩) hHeld ?_
              rotate_left
              · (intro wX hSw; clear hSw; go_simp; try with_reducible rfl)
              try simp only [Act.put, List.setIfInBounds_toArray, List.set_cons_zero, List.set_cons_succ]
              refine wpAnyH_take (i := 20) (oi := _) (v := ?_) (by rw [List.getElem?_toArray]; exact rfl) (by kernel_rfl) (by kernel_rfl) (by kernel_rfl) (by exact fun _ _ _ h => h) (Or.inl ⟨by rfl, ?_⟩) hHeld ?_
              rotate_left
              · (intro wX hSw; clear hSw; go_simp; try with_reducible rfl)
              try simp only [Act.put, List.setIfInBounds_toArray, List.set_cons_zero, List.set_cons_succ]
              refine wpAnyH_take (i := 21) (oi := _) (v := ?_) (by rw [List.getElem?_toArray]; exact rfl) (by kernel_rfl) (by kernel_rfl) (by kernel_rfl) (by exact fun _ _ _ h => h) (Or.inl ⟨by rfl, ?_⟩) hHeld ?_
              rotate_left
              · (intro wX hSw; clear hSw; go_simp; try with_reducible rfl)
              try simp only [Act.put, List.setIfInBounds_toArray, List.set_cons_zero, List.set_cons_succ]
              refine wpAnyH_take (i := 22) (oi := _) (v := ?_) (by rw [List.getElem?_toArray]; exact rfl) (by kernel_rfl) (by kernel_rfl) (by kernel_rfl) (by exact fun _ _ _ h => h) (Or.inl ⟨by rfl, ?_⟩) hHeld ?_
              rotate_left
              · (intro wX hSw; clear hSw; go_simp; try with_reducible rfl)
              try simp only [Act.put, List.setIfInBounds_toArray, List.set_cons_zero, List.set_cons_succ]
              refine wpAnyH_take (i := 23) (oi := _) (v := ?_) (by rw [List.getElem?_toArray]; exact rfl) (by kernel_rfl) (by kernel_rfl) (by kernel_rfl) (by exact fun _ _ _ h => h) (Or.inl ⟨by rfl, ?_⟩) hHeld ?_
              rotate_left
              · (intro wX hSw; clear hSw; go_simp; try with_reducible rfl)
              try simp only [Act.put, List.setIfInBounds_toArray, List.set_cons_zero, List.set_cons_succ]
              refine wpAnyH_take (i := 24) (oi := _) (v := ?_) (by rw [List.getElem?_toArray]; exact rfl) (by kernel_rfl) (by kernel_rfl) (by kernel_rfl) (by exact fun _ _ _ h => h) (Or.inl ⟨by rfl, ?_⟩) hHeld ?_
              rotate_left
              · (intro wX hSw; obtain ⟨q0, q1, q2, q3, q4, q5, q6, q7, q8, q9⟩ := encT_cells (HB1.out.below hSw); clear hSw; go_simp; try with_reducible rfl)
              try simp only [Act.put, List.setIfInBounds_toArray, List.set_cons_zero, List.set_cons_succ]
              refine wpAnyH_take (i := 25) (oi := _) (v := ?_) (by rw [List.getElem?_toArray]; exact rfl) (by kernel_rfl) (by kernel_rfl) (by kernel_rfl) (by exact fun _ _ _ h => h) (Or.inl ⟨by rfl, ?_⟩) hHeld ?_
              rotate_left
              · (intro wX hSw; clear hSw; go_simp; try with_reducible rfl)
              try simp only [Act.put, List.setIfInBounds_toArray, List.set_cons_zero, List.set_cons_succ]
              refine wpAnyH_ready (rs := [26]) (by kernel_rfl) (by simp) ?_
              refine AllReadyH.cons (o := _) (by rw [List.getElem?_toArray]; exact rfl) (fun K hK => ?_) AllReadyH.nil
              go_simp
              refine (same_zrow _).mono ?_; rintro e w7 ⟨rfl, hB7⟩; have hx7 := hHeld.trans (hB7.mono hHeld.size); clear hB7
              go_wp2_with fail
              refine hK.out _ _ (hx7) (fun hHeld => ?_)
              clear hK K
              try simp only [Act.put, List.setIfInBounds_toArray, List.set_cons_zero, List.set_cons_succ]
              refine wpAnyH_take (i := 27) (oi := _) (v := ?_) (by rw [List.getElem?_toArray]; exact rfl) (by kernel_rfl) (by kernel_rfl) (by kernel_rfl) (by exact fun _ _ _ h => h) (Or.inl ⟨by rfl, ?_⟩) hHeld ?_
              rotate_left
              · (intro wX hSw; clear hSw; go_simp; try with_reducible rfl)
              try simp only [Act.put, List.setIfInBounds_toArray, List.set_cons_zero, List.set_cons_succ]
              refine wpAnyH_take (i := 28) (oi := _) (v := ?_) (by rw [List.getElem?_toArray]; exact rfl) (by kernel_rfl) (by kernel_rfl) (by kernel_rfl) (by exact fun _ _ _ h => h) (Or.inl ⟨by rfl, ?_⟩) hHeld ?_
              rotate_left
              · (intro wX hSw; clear hSw; go_simp; try with_reducible rfl)
              try simp only [Act.put, List.setIfInBounds_toArray, List.set_cons_zero, List.set_cons_succ]
              refine wpAnyH_take (i := 29) (oi := _) (v := ?_) (by rw [List.getElem?_toArray]; exact rfl) (by kernel_rfl) (by kernel_rfl) (by kernel_rfl) (by exact fun _ _ _ h => h) (Or.inl ⟨by rfl, ?_⟩) hHeld ?_
              rotate_left
              · (intro wX hSw; clear hSw; go_simp; try with_reducible rfl)
              try simp only [Act.put, List.setIfInBounds_toArray, List.set_cons_zero, List.set_cons_succ]
              refine wpAnyH_done (by kernel_rfl) ?_ _
              have HP4 := Lib.hid (HP3.out.below hHeld)
              clear hHeld HP3 HB1 HRA
              go_wp2_with fail
              refine Handed.intro (go0 - 1) (by omega) (hJ9 _ _ _ ?_)
              exact ⟨k + 1, _, T, l, by omega, HP4.out, rfl, rfl, rfl, rfl, rfl, rfl, by go_num⟩
            · clear HFF
              obtain ⟨g, cap, eg, ya, a0, a1, a2, a3, a4, a5, a6, a7, a8, a9⟩ := HP3.out.row hj
              have HYA := Lib.hid (HP3.out.args _ (List.getElem_mem hj))
              have HQC := Lib.hid hqc
              have HYL := Lib.hid (like_args hqc (HFT.out.args _ (List.getElem_mem hj)))
              have hj0 : (0 : Int) ≤ (j : Int) := by omega
              have hj1 : (j : Int) < (l.length : Int) := by omega
              generalize l[j] = yr at *
              clear eg hqc
              obtain ⟨qn, qr⟩ := q
              obtain rfl : qn = x.n := hqn
              obtain ⟨yn, yr2⟩ := yr
              obtain rfl : yn = x.n := hjn
              refine wp_region_held_drew (S := fun y => Below w4.heap.size w4 y) (by kernel_rfl) ((Below.refl _ _).drew) (fun hHeld => ?_)
              refine wpAnyH_take (i := 0) (oi := _) (v := ?_) (by rw [List.getElem?_toArray]; exact rfl) (by kernel_rfl) (by kernel_rfl) (by kernel_rfl) (by exact fun _ _ _ h => h) (Or.inl ⟨by rfl, ?_⟩) hHeld ?_
              rotate_left
              · (intro wX hSw; clear hSw; go_simp; try with_reducible rfl)
              try simp only [Act.put, List.setIfInBounds_toArray, List.set_cons_zero, List.set_cons_succ]
              refine wpAnyH_take (i := 1) (oi := _) (v := ?_) (by rw [List.getElem?_toArray]; exact rfl) (by kernel_rfl) (by kernel_rfl) (by kernel_rfl) (by exact fun _ _ _ h => h) (Or.inl ⟨by rfl, ?_⟩) hHeld ?_
              rotate_left
              · (intro wX hSw; clear hSw; go_simp; try with_reducible rfl)
              try simp only [Act.put, List.setIfInBounds_toArray, List.set_cons_zero, List.set_cons_succ]
              refine wpAnyH_take (i := 2) (oi := _) (v := ?_) (by rw [List.getElem?_toArray]; exact rfl) (by kernel_rfl) (by kernel_rfl) (by kernel_rfl) (by exact fun _ _ _ h => h) (Or.inl ⟨by rfl, ?_⟩) hHeld ?_
              rotate_left
              · (intro wX hSw; clear hSw; go_simp; try with_reducible rfl)
              try simp only [Act.put, List.setIfInBounds_toArray, List.set_cons_zero, List.set_cons_succ]
              refine wpAnyH_take (i := 3) (oi := _) (v := ?_) (by rw [List.getElem?_toArray]; exact rfl) (by kernel_rfl) (by kernel_rfl) (by kernel_rfl) (by exact fun _ _ _ h => h) (Or.inl ⟨by rfl, ?_⟩) hHeld ?_
              rotate_left
              · (intro wX hSw; clear hSw; go_simp; try with_reducible rfl)
              try simp only [Act.put, List.setIfInBounds_toArray, List.set_cons_zero, List.set_cons_succ]
              refine wpAnyH_take (i := 4) (oi := _) (v := ?_) (by rw [List.getElem?_toArray]; exact rfl) (by kernel_rfl) (by kernel_rfl) (by kernel_rfl) (by exact fun _ _ _ h => h) (Or.inl ⟨by rfl, ?_⟩) hHeld ?_
              rotate_left
              · (intro wX hSw; clear hSw; go_simp; try with_reducible rfl)
              try simp only [Act.put, List.setIfInBounds_toArray, List.set_cons_zero, List.set_cons_succ]
              refine wpAnyH_take (i := 5) (oi := _) (v := ?_) (by rw [List.getElem?_toArray]; exact rfl) (by kernel_rfl) (by kernel_rfl) (by kernel_rfl) (by exact fun _ _ _ h => h) (Or.inl ⟨by rfl, ?_⟩) hHeld ?_
              rotate_left
              · (intro wX hSw; clear hSw; go_simp; try with_reducible rfl)
              try simp only [Act.put, List.setIfInBounds_toArray, List.set_cons_zero, List.set_cons_succ]
              refine wpAnyH_take (i := 6) (oi := _) (v := ?_) (by rw [List.getElem?_toArray]; exact rfl) (by kernel_rfl) (by kernel_rfl) (by kernel_rfl) (by exact fun _ _ _ h => h) (Or.inl ⟨by rfl, ?_⟩) hHeld ?_
              rotate_left
              · (intro wX hSw; clear hSw; go_simp; try with_reducible rfl)
              try simp only [Act.put, List.setIfInBounds_toArray, List.set_cons_zero, List.set_cons_succ]
              refine wpAnyH_take (i := 7) (oi := _) (v := ?_) (by rw [List.getElem?_toArray]; exact rfl) (by kernel_rfl) (by kernel_rfl) (by kernel_rfl) (by exact fun _ _ _ h => h) (Or.inl ⟨by rfl, ?_⟩) hHeld ?_
              rotate_left
              · (intro wX hSw; obtain ⟨q0, q1, q2, q3, q4, q5, q6, q7, q8, q9⟩ := encT_cells (HB1.out.below hSw); clear hSw; go_simp; try with_reducible rfl)
              try simp only [Act.put, List.setIfInBounds_toArray, List.set_cons_zero, List.set_cons_succ]
              refine wpAnyH_take (i := 8) (oi := _) (v := ?_) (by rw [List.getElem?_toArray]; exact rfl) (by kernel_rfl) (by kernel_rfl) (by kernel_rfl) (by exact fun _ _ _ h => h) (Or.inl ⟨by rfl, ?_⟩) hHeld ?_
              rotate_left
              · (intro wX hSw; clear hSw; go_simp; try with_reducible rfl)
              try simp only [Act.put, List.setIfInBounds_toArray, List.set_cons_zero, List.set_cons_succ]
              refine wpAnyH_take (i := 9) (oi := _) (v := ?_) (by rw [List.getElem?_toArray]; exact rfl) (by kernel_rfl) (by kernel_rfl) (by kernel_rfl) (by exact fun _ _ _ h => h) (Or.inl ⟨by rfl, ?_⟩) hHeld ?_
              rotate_left
              · (intro wX hSw; clear hSw; go_simp; try with_reducible rfl)
              try simp only [Act.put, List.setIfInBounds_toArray, List.set_cons_zero, List.set_cons_succ]
              refine wpAnyH_take (i := 10) (oi := _) (v := ?_) (by rw [List.getElem?_toArray]; exact rfl) (by kernel_rfl) (by kernel_rfl) (by kernel_rfl) (by exact fun _ _ _ h => h) (Or.inl ⟨by rfl, ?_⟩) hHeld ?_
              rotate_left
              · (intro wX hSw; clear hSw; go_simp; try with_reducible rfl)
              try simp only [Act.put, List.setIfInBounds_toArray, List.set_cons_zero, List.set_cons_succ]
              refine wpAnyH_take (i := 11) (oi := _) (v := ?_) (by rw [List.getElem?_toArray]; exact rfl) (by kernel_rfl) (by kernel_rfl) (by kernel_rfl) (by exact fun _ _ _ h => h) (Or.inl ⟨by rfl, ?_⟩) hHeld ?_
              rotate_left
              · (intro wX hSw; have za := (hSw.cell (World.block_lt_of_cell? _ _ ya)).trans ya; clear hSw; go_simp; try with_reducible rfl)
              try simp only [Act.put, List.setIfInBounds_toArray, List.set_cons_zero, List.set_cons_succ]
              refine wpAnyH_take (i := 12) (oi := _) (v := ?_) (by rw [List.getElem?_toArray]; exact rfl) (by kernel_rfl) (by kernel_rfl) (by kernel_rfl) (by exact fun _ _ _ h => h) (Or.inl ⟨by rfl, ?_⟩) hHeld ?_
              rotate_left
              · (intro wX hSw; clear hSw; go_simp; try with_reducible rfl)
              try simp only [Act.put, List.setIfInBounds_toArray, List.set_cons_zero, List.set_cons_succ]
              refine wpAnyH_take (i := 13) (oi := _) (v := ?_) (by rw [List.getElem?_toArray]; exact rfl) (by kernel_rfl) (by kernel_rfl) (by kernel_rfl) (by exact fun _ _ _ h => h) (Or.inl ⟨by rfl, ?_⟩) hHeld ?_
              rotate_left
              · (intro wX hSw; clear hSw; go_simp; try with_reducible rfl)
              try simp only [Act.put, List.setIfInBounds_toArray, List.set_cons_zero, List.set_cons_succ]
              refine wpAnyH_take (i := 14) (oi := _) (v := ?_) (by rw [List.getElem?_toArray]; exact rfl) (by kernel_rfl) (by kernel_rfl) (by kernel_rfl) (by exact fun _ _ _ h => h) (Or.inl ⟨by rfl, ?_⟩) hHeld ?_
              rotate_left
              · (intro wX hSw; clear hSw; go_simp; try with_reducible rfl)
              try simp only [Act.put, List.setIfInBounds_toArray, List.set_cons_zero, List.set_cons_succ]
              refine wpAnyH_take (i := 15) (oi := _) (v := ?_) (by rw [List.getElem?_toArray]; exact rfl) (by kernel_rfl) (by kernel_rfl) (by kernel_rfl) (by exact fun _ _ _ h => h) (Or.inl ⟨by rfl, ?_⟩) hHeld ?_
              rotate_left
              · (intro wX hSw; have z0 := (hSw.cell (World.block_lt_of_cell? _ _ a0)).trans a0; have z1 := (hSw.cell (World.block_lt_of_cell? _ _ a1)).trans a1; have z2 := (hSw.cell (World.block_lt_of_cell? _ _ a2)).trans a2; have z3 := (hSw.cell (World.block_lt_of_cell? _ _ a3)).trans a3; have z4 := (hSw.cell (World.block_lt_of_cell? _ _ a4)).trans a4; have z5 := (hSw.cell (World.block_lt_of_cell? _ _ a5)).trans a5; have z6 := (hSw.cell (World.block_lt_of_cell? _ _ a6)).trans a6; have z7 := (hSw.cell (World.block_lt_of_cell? _ _ a7)).trans a7; have z8 := (hSw.cell (World.block_lt_of_cell? _ _ a8)).trans a8; have z9 := (hSw.cell (World.block_lt_of_cell? _ _ a9)).trans a9; clear hSw; go_simp; try with_reducible rfl)
              try simp only [Act.put, List.setIfInBounds_toArray, List.set_cons_zero, List.set_cons_succ]
              refine wpAnyH_ready (rs := [16]) (by kernel_rfl) (by simp) ?_
              refine AllReadyH.cons (o := _) (by rw [List.getElem?_toArray]; exact rfl) (fun K hK => ?_) AllReadyH.nil
              go_simp
              have hsame := same_row x.n qr yr2 _ HQC.out (HRA.out.below hHeld) (HYA.out.below hHeld) HYL.out; unfold encT at hsame; refine hsame.mono ?_; rintro e w7 ⟨rfl, hB7⟩; have hx7 := hHeld.trans (hB7.mono hHeld.size); clear hB7 hsame
              go_wp2_with fail
              refine hK.out _ _ (hx7) (fun hHeld => ?_)
              clear hK K
              try simp only [Act.put, List.setIfInBounds_toArray, List.set_cons_zero, List.set_cons_succ]
              refine wpAnyH_take (i := 17) (oi := _) (v := ?_) (by rw [List.getElem?_toArray]; exact rfl) (by kernel_rfl) (by kernel_rfl) (by kernel_rfl) (by exact fun _ _ _ h => h) (Or.inl ⟨by rfl, ?_⟩) hHeld ?_
              rotate_left
              · (intro wX hSw; clear hSw; go_simp; try with_reducible rfl)
              try simp only [Act.put, List.setIfInBounds_toArray, List.set_cons_zero, List.set_cons_succ]
              refine wpAnyH_take (i := 18) (oi := _) (v := ?_) (by rw [List.getElem?_toArray]; exact rfl) (by kernel_rfl) (by kernel_rfl) (by kernel_rfl) (by exact fun _ _ _ h => h) (Or.inl ⟨by rfl, ?_⟩) hHeld ?_
              rotate_left
              · (intro wX hSw; clear hSw; go_simp; try with_reducible rfl)
              try simp only [Act.put, List.setIfInBounds_toArray, List.set_cons_zero, List.set_cons_succ]
              refine wpAnyH_take (i := 19) (oi := _) (v := ?_) (by rw [List.getElem?_toArray]; exact rfl) (by kernel_rfl) (by kernel_rfl) (by kernel_rfl) (by exact fun _ _ _ h => h) (Or.inl ⟨by rfl, ?_⟩) hHeld ?_
              rotate_left
              · (intro wX hSw; clear hSw; go_simp; try with_reducible rfl)
              try simp only [Act.put, List.setIfInBounds_toArray, List.set_cons_zero, List.set_cons_succ]
              refine wpAnyH_take (i := 20) (oi := _) (v := ?_) (by rw [List.getElem?_toArray]; exact rfl) (by kernel_rfl) (by kernel_rfl) (by kernel_rfl) (by exact fun _ _ _ h => h) (Or.inl ⟨by rfl, ?_⟩) hHeld ?_
              rotate_left
              · (intro wX hSw; clear hSw; go_simp; try with_reducible rfl)
              try simp only [Act.put, List.setIfInBounds_toArray, List.set_cons_zero, List.set_cons_succ]
              refine wpAnyH_take (i := 21) (oi := _) (v := ?_) (by rw [List.getElem?_toArray]; exact rfl) (by kernel_rfl) (by kernel_rfl) (by kernel_rfl) (by exact fun _ _ _ h => h) (Or.inl ⟨by rfl, ?_⟩) hHeld ?_
              rotate_left
              · (intro wX hSw; clear hSw; go_simp; try with_reducible rfl)
              try simp only [Act.put, List.setIfInBounds_toArray, List.set_cons_zero, List.set_cons_succ]
              refine wpAnyH_take (i := 22) (oi := _) (v := ?_) (by rw [List.getElem?_toArray]; exact rfl) (by kernel_rfl) (by kernel_rfl) (by kernel_rfl) (by exact fun _ _ _ h => h) (Or.inl ⟨by rfl, ?_⟩) hHeld ?_
              rotate_left
              · (intro wX hSw; clear hSw; go_simp; try with_reducible rfl)
              try simp only [Act.put, List.setIfInBounds_toArray, List.set_cons_zero, List.set_cons_succ]
              refine wpAnyH_take (i := 23) (oi := _) (v := ?_) (by rw [List.getElem?_toArray]; exact rfl) (by kernel_rfl) (by kernel_rfl) (by kernel_rfl) (by exact fun _ _ _ h => h) (Or.inl ⟨by rfl, ?_⟩) hHeld ?_
              rotate_left
              · (intro wX hSw; clear hSw; go_simp; try with_reducible rfl)
              try simp only [Act.put, List.setIfInBounds_toArray, List.set_cons_zero, List.set_cons_succ]
              refine wpAnyH_take (i := 24) (oi := _) (v := undef) (by rw [List.getElem?_toArray]; exact rfl) (by kernel_rfl) (by kernel_rfl) (by kernel_rfl) (by exact fun _ _ _ h => h) (Or.inr ⟨by rfl, rfl⟩) hHeld ?_
              try simp only [Act.put, List.setIfInBounds_toArray, List.set_cons_zero, List.set_cons_succ]
              refine wpAnyH_take (i := 25) (oi := _) (v := undef) (by rw [List.getElem?_toArray]; exact rfl) (by kernel_rfl) (by kernel_rfl) (by kernel_rfl) (by exact fun _ _ _ h => h) (Or.inr ⟨by rfl, rfl⟩) hHeld ?_
              try simp only [Act.put, List.setIfInBounds_toArray, List.set_cons_zero, List.set_cons_succ]
              refine wpAnyH_take (i := 26) (oi := _) (v := undef) (by rw [List.getElem?_toArray]; exact rfl) (by kernel_rfl) (by kernel_rfl) (by kernel_rfl) (by exact fun _ _ _ h => h) (Or.inr ⟨by rfl, rfl⟩) hHeld ?_
              try simp only [Act.put, List.setIfInBounds_toArray, List.set_cons_zero, List.set_cons_succ]
              refine wpAnyH_take (i := 27) (oi := _) (v := undef) (by rw [List.getElem?_toArray]; exact rfl) (by kernel_rfl) (by kernel_rfl) (by kernel_rfl) (by exact fun _ _ _ h => h) (Or.inr ⟨by rfl, rfl⟩) hHeld ?_
              try simp only [Act.put, List.setIfInBounds_toArray, List.set_cons_zero, List.set_cons_succ]
              refine wpAnyH_take (i := 28) (oi := _) (v := ?_) (by rw [List.getElem?_toArray]; exact rfl) (by kernel_rfl) (by kernel_rfl) (by kernel_rfl) (by exact fun _ _ _ h => h) (Or.inl ⟨by rfl, ?_⟩) hHeld ?_
              rotate_left
              · (intro wX hSw; clear hSw; go_simp; try with_reducible rfl)
              try simp only [Act.put, List.setIfInBounds_toArray, List.set_cons_zero, List.set_cons_succ]
              refine wpAnyH_take (i := 29) (oi := _) (v := ?_) (by rw [List.getElem?_toArray]; exact rfl) (by kernel_rfl) (by kernel_rfl) (by kernel_rfl) (by exact fun _ _ _ h => h) (Or.inl ⟨by rfl, ?_⟩) hHeld ?_
              rotate_left
              · (intro wX hSw; clear hSw; go_simp; try with_reducible rfl)
              try simp only [Act.put, List.setIfInBounds_toArray, List.set_cons_zero, List.set_cons_succ]
              refine wpAnyH_done (by kernel_rfl) ?_ _
              clear ya a0 a1 a2 a3 a4 a5 a6 a7 a8 a9 HYA HQC HYL
              have HP4 := Lib.hid (HP3.out.below hHeld)
              clear hHeld HP3 HB1 HRA
              go_wp2_with fail
              refine Handed.intro (go0 - 1) (by omega) (hJ9 _ _ _ ?_)
              exact ⟨k + 1, _, T, l, by omega, HP4.out, rfl, rfl, rfl, rfl, rfl, rfl, by go_num⟩
        · have hke : ¬ k < L.length := hkl
          have HFT := Lib.hid HP.out.fit
          obtain ⟨la, lc, hlv⟩ := own_slice HP.out.d.own
          have HLV := Lib.hid hlv
          clear hlv
          go_wp2_with fail
          refine (rows_tab f m mo T _ HP.out.t.wj.tab (by have := HP.out.t.sz; omega) HP.out.t.args).mono ?_
          rintro e w1 ⟨v, S, rfl, ho, hS, hsa, hB⟩
          obtain ⟨hsl, hst⟩ := HP.out.s.told hS
          have HP1 := Lib.hid (HP.out.below hB)
          have hro := own_readsK (enc := encT) (k := 10) (fun _ => rfl) (by decide) ho
          obtain ⟨sa, sc, rfl⟩ := hro.slice
          have HRS := Lib.hid hro
          have HSA := Lib.hid (show ∀ p ∈ S, ArgsR w1 p.2 from fun p hp => own_readsK (enc := encI) (k := 1) (fun _ => rfl) (by decide) (hsa p hp))
          have HST := Lib.hid hst
          have HSL := Lib.hid hsl
          obtain ⟨V, hV⟩ : ∃ V, l.length = V := ⟨_, rfl⟩
          have HVL := Lib.hid hV
          have hV2 : V ≤ 100000 := by have := HFT.out.len; omega
          rw [hsl, hV] at HRS ⊢
          clear ho hS hsa hB hro hst HP hsl
          have y0 := HP1.out.d.cell
          rw [HLV.out, hV] at y0
          clear hV
          go_wp2_with fail
          clear y0
          refine wp_loop_ghost_k (RwP w mo (.slice a L.length cap) f m r k lv T l S (.slice sa V sc) V) V ?atStart ?round
          case atStart => exact ⟨0, by omega, HP1.out, HRS.out, HSA.out, ⟨rfl, rfl, rfl, rfl, rfl, rfl, rfl⟩, rfl, rfl⟩
          case round =>
            clear HP1 HRS HSA
            rintro gi ⟨ts3, ds3⟩ wv ⟨i, hi, hP, hrs, hsa, ⟨hd3, hts3, f0, f1, f5, f7, f8⟩, f35, f36⟩ J8 K8 hJ8 hK8
            have HP := Lib.hid hP
            have HRS := Lib.hid hrs
            have HSA := Lib.hid hsa
            clear hP hrs hsa
            simp only at hd3 hts3 f0 f1 f5 f7 f8 f35 f36
            subst hd3
            rw [frame_lit337 hts3, f0, f1, f5, f7, f8, f35, f36]
            clear f0 f1 f5 f7 f8 f35 f36
            by_cases hlt : i < V
            · have hil : i < l.length := by rw [HVL.out]; exact hlt
              have hil2 : i < S.length := by rw [HSL.out]; exact hil
              obtain ⟨sb, so, scc, hse, _, hsc⟩ := HRS.out.at (by omega)
              injection hse with hse1 hse2 hse3
              clear hse2
              subst hse1; subst hse3
              have hsc := hsc i hil2
              have d0 : wv.cell? ⟨sb, so + i * 10, none⟩ = some (.int .u64 S[i].1.1) := hsc 0 _ rfl
              have d1 : wv.cell? ⟨sb, so + i * 10 + 1, none⟩ = some (.string S[i].1.2) := hsc 1 _ rfl
              have d2 : wv.cell? ⟨sb, so + i * 10 + 2, none⟩ = some (.string S[i].1.2) := hsc 2 _ rfl
              have d3 : wv.cell? ⟨sb, so + i * 10 + 3, none⟩ = some (.int .i64 S[i].2.fn) := hsc 3 _ rfl
              have d4 : wv.cell? ⟨sb, so + i * 10 + 4, none⟩ = some (.slice S[i].2.aa S[i].2.args.length S[i].2.ac) := hsc 4 _ rfl
              have d5 : wv.cell? ⟨sb, so + i * 10 + 5, none⟩ = some (.int .i64 S[i].2.fuel) := hsc 5 _ rfl
              have d6 : wv.cell? ⟨sb, so + i * 10 + 6, none⟩ = some (.int .u8 S[i].2.st) := hsc 6 _ rfl
              have d7 : wv.cell? ⟨sb, so + i * 10 + 7, none⟩ = some (.int .i64 S[i].2.op) := hsc 7 _ rfl
              have d8 : wv.cell? ⟨sb, so + i * 10 + 8, none⟩ = some (.int .i64 S[i].2.val) := hsc 8 _ rfl
              have d9 : wv.cell? ⟨sb, so + i * 10 + 9, none⟩ = some (.int .i64 S[i].2.err) := hsc 9 _ rfl
              obtain ⟨g, capg, eg, ya, a0, a1, a2, a3, a4, a5, a6, a7, a8, a9⟩ := HP.out.row hil
              obtain ⟨hn, hc⟩ := HST.out i hil2 hil
              have HQC := Lib.hid hc
              have HYA := Lib.hid (HP.out.args _ (List.getElem_mem hil))
              have HYL := Lib.hid (like_args hc (HFT.out.args _ (List.getElem_mem hil)))
              have HSR := Lib.hid (HSA.out _ (List.getElem_mem hil2))
              have hi0 : (0 : Int) ≤ (i : Int) := by omega
              have hi1 : (i : Int) < (V : Int) := by omega
              rw [HVL.out] at ya
              generalize S[i] = sp at *
              generalize l[i] = yp at *
              obtain ⟨nm, sr⟩ := sp
              obtain ⟨nm2, yr⟩ := yp
              obtain rfl : nm = nm2 := hn
              clear hsc eg hc
              go_upto_region 54 with fail
              refine wp_region_held_drew (S := fun y => Below wv.heap.size wv y) (by kernel_rfl) ((Below.refl _ _).drew) (fun hHeld => ?_)
              refine wpAnyH_take (i := 0) (oi := _) (v := ?_) (by rw [List.getElem?_toArray]; exact rfl) (by kernel_rfl) (by kernel_rfl) (by kernel_rfl) (by exact fun _ _ _ h => h) (Or.inl ⟨by rfl, ?_⟩) hHeld ?_
              rotate_left
              · (intro wX hSw; clear hSw; go_simp; try with_reducible rfl)
              try simp only [Act.put, List.setIfInBounds_toArray, List.set_cons_zero, List.set_cons_succ]
              refine wpAnyH_take (i := 1) (oi := _) (v := ?_) (by rw [List.getElem?_toArray]; exact rfl) (by kernel_rfl) (by kernel_rfl) (by kernel_rfl) (by exact fun _ _ _ h => h) (Or.inl ⟨by rfl, ?_⟩) hHeld ?_
              rotate_left
              · (intro wX hSw; clear hSw; go_simp; try with_reducible rfl)
              try simp only [Act.put, List.setIfInBounds_toArray, List.set_cons_zero, List.set_cons_succ]
              refine wpAnyH_take (i := 2) (oi := _) (v := ?_) (by rw [List.getElem?_toArray]; exact rfl) (by kernel_rfl) (by kernel_rfl) (by kernel_rfl) (by exact fun _ _ _ h => h) (Or.inl ⟨by rfl, ?_⟩) hHeld ?_
              rotate_left
              · (intro wX hSw; clear hSw; go_simp; try with_reducible rfl)
              try simp only [Act.put, List.setIfInBounds_toArray, List.set_cons_zero, List.set_cons_succ]
              refine wpAnyH_take (i := 3) (oi := _) (v := ?_) (by rw [List.getElem?_toArray]; exact rfl) (by kernel_rfl) (by kernel_rfl) (by kernel_rfl) (by exact fun _ _ _ h => h) (Or.inl ⟨by rfl, ?_⟩) hHeld ?_
              rotate_left
              · (intro wX hSw; have z0 := (hSw.cell (World.block_lt_of_cell? _ _ d0)).trans d0; have z1 := (hSw.cell (World.block_lt_of_cell? _ _ d1)).trans d1; have z2 := (hSw.cell (World.block_lt_of_cell? _ _ d2)).trans d2; have z3 := (hSw.cell (World.block_lt_of_cell? _ _ d3)).trans d3; have z4 := (hSw.cell (World.block_lt_of_cell? _ _ d4)).trans d4; have z5 := (hSw.cell (World.block_lt_of_cell? _ _ d5)).trans d5; have z6 := (hSw.cell (World.block_lt_of_cell? _ _ d6)).trans d6; have z7 := (hSw.cell (World.block_lt_of_cell? _ _ d7)).trans d7; have z8 := (hSw.cell (World.block_lt_of_cell? _ _ d8)).trans d8; have z9 := (hSw.cell (World.block_lt_of_cell? _ _ d9)).trans d9; clear hSw; go_simp; try with_reducible rfl)
              try simp only [Act.put, List.setIfInBounds_toArray, List.set_cons_zero, List.set_cons_succ]
              refine wpAnyH_take (i := 4) (oi := _) (v := ?_) (by rw [List.getElem?_toArray]; exact rfl) (by kernel_rfl) (by kernel_rfl) (by kernel_rfl) (by exact fun _ _ _ h => h) (Or.inl ⟨by rfl, ?_⟩) hHeld ?_
              rotate_left
              · (intro wX hSw; clear hSw; go_simp; try with_reducible rfl)
              try simp only [Act.put, List.setIfInBounds_toArray, List.set_cons_zero, List.set_cons_succ]
              refine wpAnyH_take (i := 5) (oi := _) (v := ?_) (by rw [List.getElem?_toArray]; exact rfl) (by kernel_rfl) (by kernel_rfl) (by kernel_rfl) (by exact fun _ _ _ h => h) (Or.inl ⟨by rfl, ?_⟩) hHeld ?_
              rotate_left
              · (intro wX hSw; clear hSw; go_simp; try with_reducible rfl)
              try simp only [Act.put, List.setIfInBounds_toArray, List.set_cons_zero, List.set_cons_succ]
              refine wpAnyH_take (i := 6) (oi := _) (v := ?_) (by rw [List.getElem?_toArray]; exact rfl) (by kernel_rfl) (by kernel_rfl) (by kernel_rfl) (by exact fun _ _ _ h => h) (Or.inl ⟨by rfl, ?_⟩) hHeld ?_
              rotate_left
              · (intro wX hSw; clear hSw; go_simp; try with_reducible rfl)
              try simp only [Act.put, List.setIfInBounds_toArray, List.set_cons_zero, List.set_cons_succ]
              refine wpAnyH_take (i := 7) (oi := _) (v := ?_) (by rw [List.getElem?_toArray]; exact rfl) (by kernel_rfl) (by kernel_rfl) (by kernel_rfl) (by exact fun _ _ _ h => h) (Or.inl ⟨by rfl, ?_⟩) hHeld ?_
              rotate_left
              · (intro wX hSw; have za := (hSw.cell (World.block_lt_of_cell? _ _ ya)).trans ya; clear hSw; go_simp; try with_reducible rfl)
              try simp only [Act.put, List.setIfInBounds_toArray, List.set_cons_zero, List.set_cons_succ]
              refine wpAnyH_take (i := 8) (oi := _) (v := ?_) (by rw [List.getElem?_toArray]; exact rfl) (by kernel_rfl) (by kernel_rfl) (by kernel_rfl) (by exact fun _ _ _ h => h) (Or.inl ⟨by rfl, ?_⟩) hHeld ?_
              rotate_left
              · (intro wX hSw; clear hSw; go_simp; try with_reducible rfl)
              try simp only [Act.put, List.setIfInBounds_toArray, List.set_cons_zero, List.set_cons_succ]
              refine wpAnyH_take (i := 9) (oi := _) (v := ?_) (by rw [List.getElem?_toArray]; exact rfl) (by kernel_rfl) (by kernel_rfl) (by kernel_rfl) (by exact fun _ _ _ h => h) (Or.inl ⟨by rfl, ?_⟩) hHeld ?_
              rotate_left
              · (intro wX hSw; clear hSw; go_simp; try with_reducible rfl)
              try simp only [Act.put, List.setIfInBounds_toArray, List.set_cons_zero, List.set_cons_succ]
              refine wpAnyH_take (i := 10) (oi := _) (v := ?_) (by rw [List.getElem?_toArray]; exact rfl) (by kernel_rfl) (by kernel_rfl) (by kernel_rfl) (by exact fun _ _ _ h => h) (Or.inl ⟨by rfl, ?_⟩) hHeld ?_
              rotate_left
              · (intro wX hSw; clear hSw; go_simp; try with_reducible rfl)
              try simp only [Act.put, List.setIfInBounds_toArray, List.set_cons_zero, List.set_cons_succ]
              refine wpAnyH_take (i := 11) (oi := _) (v := ?_) (by rw [List.getElem?_toArray]; exact rfl) (by kernel_rfl) (by kernel_rfl) (by kernel_rfl) (by exact fun _ _ _ h => h) (Or.inl ⟨by rfl, ?_⟩) hHeld ?_
              rotate_left
              · (intro wX hSw; have z0 := (hSw.cell (World.block_lt_of_cell? _ _ a0)).trans a0; have z1 := (hSw.cell (World.block_lt_of_cell? _ _ a1)).trans a1; have z2 := (hSw.cell (World.block_lt_of_cell? _ _ a2)).trans a2; have z3 := (hSw.cell (World.block_lt_of_cell? _ _ a3)).trans a3; have z4 := (hSw.cell (World.block_lt_of_cell? _ _ a4)).trans a4; have z5 := (hSw.cell (World.block_lt_of_cell? _ _ a5)).trans a5; have z6 := (hSw.cell (World.block_lt_of_cell? _ _ a6)).trans a6; have z7 := (hSw.cell (World.block_lt_of_cell? _ _ a7)).trans a7; have z8 := (hSw.cell (World.block_lt_of_cell? _ _ a8)).trans a8; have z9 := (hSw.cell (World.block_lt_of_cell? _ _ a9)).trans a9; clear hSw; go_simp; try with_reducible rfl)
              try simp only [Act.put, List.setIfInBounds_toArray, List.set_cons_zero, List.set_cons_succ]
              refine wpAnyH_ready (rs := [12]) (by kernel_rfl) (by simp) ?_
              refine AllReadyH.cons (o := _) (by rw [List.getElem?_toArray]; exact rfl) (fun K hK => ?_) AllReadyH.nil
              go_simp
              have hsame := same_row nm sr yr _ HQC.out (HSR.out.below hHeld) (HYA.out.below hHeld) HYL.out; unfold encT at hsame; refine hsame.mono ?_; rintro e w7 ⟨rfl, hB7⟩; have hx7 := hHeld.trans (hB7.mono hHeld.size); clear hB7 hsame
              go_wp2_with fail
              refine hK.out _ _ (hx7) (fun hHeld => ?_)
              clear hK K
              try simp only [Act.put, List.setIfInBounds_toArray, List.set_cons_zero, List.set_cons_succ]
              refine wpAnyH_take (i := 13) (oi := _) (v := ?_) (by rw [List.getElem?_toArray]; exact rfl) (by kernel_rfl) (by kernel_rfl) (by kernel_rfl) (by exact fun _ _ _ h => h) (Or.inl ⟨by rfl, ?_⟩) hHeld ?_
              rotate_left
              · (intro wX hSw; clear hSw; go_simp; try with_reducible rfl)
              try simp only [Act.put, List.setIfInBounds_toArray, List.set_cons_zero, List.set_cons_succ]
              refine wpAnyH_done (by kernel_rfl) ?_ _
              have HP4 := Lib.hid (HP.out.below hHeld)
              have HRS4 := Lib.hid (HRS.out.below hHeld)
              have HSA4 := Lib.hid (fun p hp => (HSA.out p hp).below hHeld)
              clear hHeld HP HRS HSA HSR HQC HYA HYL ya a0 a1 a2 a3 a4 a5 a6 a7 a8 a9 d0 d1 d2 d3 d4 d5 d6 d7 d8 d9
              go_wp2_with fail
              refine Handed.intro (gi - 1) (by omega) (hJ8 _ _ _ ?_)
              exact ⟨i + 1, by omega, HP4.out, HRS4.out, HSA4.out, ⟨rfl, rfl, rfl, rfl, rfl, rfl, rfl⟩, rfl, by go_num⟩
            · have hie : ¬ i < V := hlt
              go_wp2_with fail
              refine (works_any _).mono ?_
              rintro e w11 ⟨rfl, hB⟩
              have HB11 := Lib.hid (gthenD (gthenD HB0.out HP.out.t.wj.low) hB)
              clear hB
              go_wp2_with fail
              go_ret
              exact ⟨rfl, HB11.out⟩
  · clear hb
    go_wp2_with fail
    refine (works_any _).mono ?_
    rintro e w7 ⟨rfl, hB⟩
    have HB7 := Lib.hid (gthenD hB0 hB)
    clear hB
    go_wp2_with fail
    go_ret
    exact ⟨rfl, HB7.out⟩
end Go.Proofs.Ythbkbmkcgpdedaa
