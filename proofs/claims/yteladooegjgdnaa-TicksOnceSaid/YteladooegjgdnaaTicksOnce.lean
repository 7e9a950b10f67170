/- TicksOnce, whole. -/
import Derived.Test.YteladooegjgdnaaOn1
namespace Go.Proofs.Yteladooegjgdnaa
open Go.RowKit Go.Sort Go.Lib

/-- What holds between two steps. -/
structure On (w0 : World) (b : Nat) (rv : Value) (L : List Tm) (now : Int) (km : Nat) (M : Mp) (w : World) : Prop where
  c : Oc w0 b rv L now km M w
  rm : Rm M L
  late : Late L now
  n0 : 0 ≤ now
  n1 : now ≤ 17592186044416
def FrO (sv : Value) (b km : Nat) (k : Int) (a : Act) : Prop := a.defers = [] ∧ a.tmps.size = 233 ∧ sl a.tmps 0 = sv ∧ sl a.tmps 3 = TP b ∧ sl a.tmps 4 = .map (some km) ∧ sl a.tmps 5 = .int .i64 k
def PlO (w0 : World) (sv : Value) (N b km gk : Nat) (a : Act) (wr : World) : Prop := ∃ (k : Nat) (rv : Value) (L : List Tm) (now : Int) (M : Mp), gk + k = N ∧ On w0 b rv L now km M wr ∧ FrO sv b km k a
def CuO (w0 : World) (sv : Value) (b km k : Nat) (a : Act) (wr : World) : Prop := ∃ (rv : Value) (L : List Tm) (now : Int) (M : Mp), On w0 b rv L now km M wr ∧ FrO sv b km k a
/-- While what was told is struck out. -/
def TlO (w0 : World) (sv ov : Value) (b km k : Nat) (rv : Value) (D L : List Tm) (old now : Int) (Z gk : Nat) (a : Act) (wr : World) : Prop :=
  ∃ (j : Nat) (M : Mp), gk + j = D.length ∧ Oc w0 b rv L now km M wr ∧ Rm M (D.drop j ++ L) ∧ wr.ownsRow Z TmT 2 ov D.length (D.flatMap encT) ∧ FrO sv b km k a ∧ sl a.tmps 10 = .int .i64 old ∧ sl a.tmps 11 = ov ∧ sl a.tmps 13 = .int .i64 j
def AlO (w0 : World) (sv av : Value) (b km k : Nat) (rv : Value) (K L : List Tm) (now : Int) (M : Mp) (Z gk : Nat) (a : Act) (wr : World) : Prop :=
  ∃ (j : Nat), gk + j = K.length ∧ Oc w0 b rv L now km M wr ∧ wr.ownsRow Z TmT 2 av K.length (K.flatMap encT) ∧ FrO sv b km k a ∧ sl a.tmps 16 = av ∧ sl a.tmps 17 = .int .i64 j
set_option maxHeartbeats 16000000 in
set_option maxRecDepth 100000 in
theorem ticksonce_row (v : Value) (l : List Stp) (w : World) (hv : ReadsK encS 4 w v l) (hl : (l.length : Int) ≤ 9223372036854775807) :
    Calls Try.prog 5 #[v] w fun e w' => e = .returned (.bool true) ∧ Below w.heap.size w w' := by
  obtain ⟨va, vc, rfl⟩ := hv.slice
  have HV := Lib.hid hv
  clear hv
  go_enter Try.func5, Try.ntmps5
  have hmk := @Go.RowKit.run_makeMap Try.prog
  go_wp2_with fail
  refine (heavy_any _ l w HV.out hl).mono ?_
  rintro e w1 ⟨hb, rfl, hB, hhv⟩
  have HV1 := Lib.hid (HV.out.below hB)
  have HB1 := Lib.hid hB
  clear hB HV
  cases hb
  · have hlen : l.length ≤ 300 := hhv rfl
    clear hhv
    go_wp2_with fail
    refine (new_any w1).mono ?_
    rintro e w2 ⟨b, rv, rfl, hB, hQ, rfl⟩
    have hM : Below w2.heap.size w2 (w2.alloc (.map #[] 0)) := alT w2 _
    have H2 := Lib.hid (show On w1 b (.slice none 0 0) [] 0 w2.heap.size [] (w2.alloc (.map #[] 0)) from
      ⟨⟨(show Wt w1 b (.slice none 0 0) [] 0 w2 from ⟨⟨[], hQ, TmOk.none, by simp⟩, hB⟩).below hM, S.MapL.made evA w2, hB.size⟩, Rm.none, fun x hx => by simp at hx, by decide, by decide⟩)
    clear hB hQ hM
    go_wp2_with fail
    refine wp_loop_ghost_k (PlO w1 (.slice va l.length vc) l.length b w2.heap.size) l.length ?atStart ?round
    case atStart => exact ⟨0, _, _, _, _, by omega, H2.out, rfl, rfl, rfl, rfl, rfl, rfl⟩
    case round =>
      clear H2 hmk
      generalize w2.heap.size = km at *
      rintro go0 ⟨ts, ds⟩ wr ⟨k, rv, L, now, M, hk, hO, hd, hts, f0, f3, f4, f5⟩ J K9 hJ9 hK9
      have HO := Lib.hid hO
      clear hO
      simp only at hd hts f0 f3 f4 f5
      subst hd
      rw [frame_lit233 hts, f0, f3, f4, f5]
      clear f0 f3 f4 f5
      by_cases hkl : k < l.length
      · obtain ⟨bs, off, c, he, hbs, hc⟩ := (HV1.out.below HO.out.c.t.low).at (by omega)
        injection he with he1 he2 he3
        subst he1
        have hcc := hc k hkl
        clear hc he3 hbs
        generalize l[k] = s at hcc
        have c0 : wr.cell? ⟨bs, off + k * 4, none⟩ = some (.int .i64 s.1) := hcc 0 _ rfl
        have c1 : wr.cell? ⟨bs, off + k * 4 + 1, none⟩ = some (.string s.2.1) := hcc 1 _ rfl
        have c2 : wr.cell? ⟨bs, off + k * 4 + 2, none⟩ = some (.string s.2.2.1) := hcc 2 _ rfl
        have c3 : wr.cell? ⟨bs, off + k * 4 + 3, none⟩ = some (.int .i64 s.2.2.2) := hcc 3 _ rfl
        clear hcc
        have hA := alT wr (.cells (stepC s) StepT)
        have HS := Lib.hid (show On w1 b rv L now km M (wr.alloc (.cells (stepC s) StepT)) from ⟨HO.out.c.below hA, HO.out.rm, HO.out.late, HO.out.n0, HO.out.n1⟩)
        have hbx : BoxAt (wr.alloc (.cells (stepC s) StepT)) wr.heap.size (stepC s) StepT := heap_alloc_new _ _
        simp only [stepC] at HS hbx
        clear hA
        go_upto_block 2 with fail
        generalize wr.alloc (.cells #[.int .i64 s.1, .string s.2.1, .string s.2.2.1, .int .i64 s.2.2.2] StepT) = ws at *
        generalize wr.heap.size = sb at *
        clear c0 c1 c2 c3 HO
        refine wp_cut (CuO w1 (.slice (some ⟨bs, off, none⟩) l.length vc) b km k) ?rest ?first
        case first =>
          intro J2 K2 hJ2 hK2
          have HBX : Hid (BoxAt ws sb (stepC s) StepT) := hbx
          obtain ⟨s0, s1, s2, s3⟩ := step_cells hbx
          clear hbx
          by_cases h03 : s.1 = 0 ∨ s.1 = 3
          · obtain ⟨lx, hqx, _⟩ := HS.out.c.t.tms
            have HQX := Lib.hid hqx
            clear hqx
            have hbs : ((s.1 == 0) = true ∧ (s.1 == 3) = false) ∨ ((s.1 == 0) = false ∧ (s.1 == 3) = true) := by
              rcases h03 with h | h
              · left; rw [h]; exact ⟨rfl, rfl⟩
              · right; rw [h]; exact ⟨rfl, rfl⟩
            clear h03
            rcases hbs with ⟨b0, b3⟩ | ⟨b0, b3⟩
            · go_upto_region 14 with fail
              go_quiet ((first | (go_at_call 15; exact Calls.quiet_of_same (now_any (HQX.out.below (below_drewN (Below.refl _ _) _)))) | (go_at_call 12; exact Calls.quiet_of_same (near_any _ _ _))))
              have hBd : Below ws.heap.size ws (ws.drewN nq) := below_drewN (Below.refl _ _) nq
              have HD := Lib.hid (HS.out.c.below hBd)
              have HBD := Lib.hid (HBX.out.below hBd)
              clear hBd s0 s1 s2 s3
              obtain ⟨wd, hwd⟩ : ∃ t, ws.drewN nq = t := ⟨_, rfl⟩
              rw [hwd] at HD HBD ⊢
              clear hwd HQX
              obtain ⟨s0, s1, s2, s3⟩ := step_cells HBD.out
              go_wp2_with fail
              refine (set_any s.2.1 (nearV now s.2.2.2) HD.out.t.tms).mono ?_
              rintro e w3 ⟨rfl, rv3, h3, hL3⟩
              have H3 := Lib.hid (HD.out.next h3 hL3)
              have HB3 := Lib.hid (HD.out.box HBD.out hL3)
              clear h3 hL3 s0 s1 s2 s3 HD HBD
              by_cases hE : setE L now s.2.1 (nearV now s.2.2.2) = 0
              · have hEb : (setE L now s.2.1 (nearV now s.2.2.2) == 0) = true := by rw [hE]; rfl
                have HL3 := Lib.hid (show setL L now s.2.1 (nearV now s.2.2.2) = insT ⟨s.2.1, (nearV now s.2.2.2)⟩ (offT s.2.1 L) by unfold setL; rw [if_pos hE])
                obtain ⟨w4, hup, hM4, hO4⟩ := H3.out.mp.update (P := Try.prog) S.nameTy Try.underlying49 s.2.1 (nearV now s.2.2.2)
                have hup' : (Instr.mapUpdate MapT (.map (some km)) (.string s.2.1) (.int .i64 (nearV now s.2.2.2))).run Try.prog w3 = .ok () w4 := hup
                have H4 := Lib.hid (H3.out.put hM4 hO4)
                obtain ⟨_, s1, _, _⟩ := step_cells HB3.out
                have HLT := Lib.hid (HS.out.late.set (k := s.2.1) (a := (nearV now s.2.2.2)))
                clear hE hup hM4 hO4 H3
                generalize setE L now s.2.1 (nearV now s.2.2.2) = E at *
                go_wp2_with fail
                refine Met.intro (hJ2 _ _ ?_)
                exact ⟨rv3, _, now, _, ⟨H4.out, by rw [HL3.out]; exact HS.out.rm.put _ _, HLT.out, HS.out.n0, HS.out.n1⟩, rfl, rfl, rfl, rfl, rfl, rfl⟩
              · have hEb : (setE L now s.2.1 (nearV now s.2.2.2) == 0) = false := by rw [beq_eq_false_iff_ne]; exact hE
                have HL3 := Lib.hid (show setL L now s.2.1 (nearV now s.2.2.2) = L by unfold setL; rw [if_neg hE])
                clear hE
                generalize setE L now s.2.1 (nearV now s.2.2.2) = E at *
                go_wp2_with fail
                refine Met.intro (hJ2 _ _ ?_)
                exact ⟨rv3, L, now, M, ⟨by have := H3.out; rwa [HL3.out] at this, HS.out.rm, HS.out.late, HS.out.n0, HS.out.n1⟩, rfl, rfl, rfl, rfl, rfl, rfl⟩
            · go_upto_region 14 with fail
              go_quiet ((first | (go_at_call 15; exact Calls.quiet_of_same (now_any (HQX.out.below (below_drewN (Below.refl _ _) _)))) | (go_at_call 12; exact Calls.quiet_of_same (near_any _ _ _))))
              have hBd : Below ws.heap.size ws (ws.drewN nq) := below_drewN (Below.refl _ _) nq
              have HD := Lib.hid (HS.out.c.below hBd)
              have HBD := Lib.hid (HBX.out.below hBd)
              clear hBd s0 s1 s2 s3
              obtain ⟨wd, hwd⟩ : ∃ t, ws.drewN nq = t := ⟨_, rfl⟩
              rw [hwd] at HD HBD ⊢
              clear hwd HQX
              obtain ⟨s0, s1, s2, s3⟩ := step_cells HBD.out
              go_wp2_with fail
              refine (set_any s.2.1 s.2.2.2 HD.out.t.tms).mono ?_
              rintro e w3 ⟨rfl, rv3, h3, hL3⟩
              have H3 := Lib.hid (HD.out.next h3 hL3)
              have HB3 := Lib.hid (HD.out.box HBD.out hL3)
              clear h3 hL3 s0 s1 s2 s3 HD HBD
              by_cases hE : setE L now s.2.1 s.2.2.2 = 0
              · have hEb : (setE L now s.2.1 s.2.2.2 == 0) = true := by rw [hE]; rfl
                have HL3 := Lib.hid (show setL L now s.2.1 s.2.2.2 = insT ⟨s.2.1, s.2.2.2⟩ (offT s.2.1 L) by unfold setL; rw [if_pos hE])
                obtain ⟨w4, hup, hM4, hO4⟩ := H3.out.mp.update (P := Try.prog) S.nameTy Try.underlying49 s.2.1 s.2.2.2
                have hup' : (Instr.mapUpdate MapT (.map (some km)) (.string s.2.1) (.int .i64 s.2.2.2)).run Try.prog w3 = .ok () w4 := hup
                have H4 := Lib.hid (H3.out.put hM4 hO4)
                obtain ⟨_, s1, _, _⟩ := step_cells HB3.out
                have HLT := Lib.hid (HS.out.late.set (k := s.2.1) (a := s.2.2.2))
                clear hE hup hM4 hO4 H3
                generalize setE L now s.2.1 s.2.2.2 = E at *
                go_wp2_with fail
                refine Met.intro (hJ2 _ _ ?_)
                exact ⟨rv3, _, now, _, ⟨H4.out, by rw [HL3.out]; exact HS.out.rm.put _ _, HLT.out, HS.out.n0, HS.out.n1⟩, rfl, rfl, rfl, rfl, rfl, rfl⟩
              · have hEb : (setE L now s.2.1 s.2.2.2 == 0) = false := by rw [beq_eq_false_iff_ne]; exact hE
                have HL3 := Lib.hid (show setL L now s.2.1 s.2.2.2 = L by unfold setL; rw [if_neg hE])
                clear hE
                generalize setE L now s.2.1 s.2.2.2 = E at *
                go_wp2_with fail
                refine Met.intro (hJ2 _ _ ?_)
                exact ⟨rv3, L, now, M, ⟨by have := H3.out; rwa [HL3.out] at this, HS.out.rm, HS.out.late, HS.out.n0, HS.out.n1⟩, rfl, rfl, rfl, rfl, rfl, rfl⟩
          have b0 : (s.1 == 0) = false := by rw [beq_eq_false_iff_ne]; omega
          have b3 : (s.1 == 3) = false := by rw [beq_eq_false_iff_ne]; omega
          clear h03
          by_cases h1 : s.1 = 1
          · have b1 : (s.1 == 1) = true := by rw [h1]; rfl
            clear h1
            have hA := alT ws (.cells #[.string s.2.1] 9)
            have HA := Lib.hid (HS.out.c.below hA)
            have HBA := Lib.hid (HBX.out.below hA)
            have hks : ∀ j (hj : j < [s.2.1].length), (ws.alloc (.cells #[.string s.2.1] 9)).cell? ⟨ws.heap.size, j, none⟩ = some (.string ([s.2.1] : List ByteArray)[j]) := by
              intro j hj
              match j, hj with
              | 0, _ => simp [go_sem]
            have hkb : ws.heap.size ≠ b ∧ rv.ownBlock ≠ some ws.heap.size := by
              have h1 := HS.out.c.t.tms.block
              have h2 := World.block_lt_of_cell? _ _ HS.out.c.t.tms.cells.1
              exact ⟨fun e => by have h3 : b < ws.heap.size := h2; omega, fun e => by have := h1 _ e; omega⟩
            have HKS := Lib.hid (And.intro hks hkb)
            clear hA hks hkb
            have hlk := map_look HS.out.c.mp s.2.1
            cases hh : hasT s.2.1 L
            all_goals
              rw [(HS.out.rm.has s.2.1).trans hh] at hlk
              generalize (S.getL M s.2.1).getD 0 = g0 at hlk
              have HH := Lib.hid hh
              clear hh
              go_wp2_with fail
              refine (stop_any (cap := 1) [s.2.1] HA.out.t.tms HKS.out.1 HKS.out.2.1 HKS.out.2.2 (by simp)).mono ?_
              rintro e w3 ⟨rfl, rv3, h3, hL3⟩
              have h3' := HA.out.next h3 hL3
              have hsn : stopN [s.2.1] L = (if hasT s.2.1 L = true then 1 else 0) + 0 := rfl
              rw [HH.out] at hsn
              simp only [Bool.false_eq_true, if_false, if_true, Nat.zero_add, Nat.add_zero] at hsn
              rw [hsn]
              have HB3 := Lib.hid (HA.out.box HBA.out hL3)
              obtain ⟨w4, hdl, hM4, hO4, _⟩ := h3'.mp.delete (P := Try.prog) S.nameTy Try.underlying49 s.2.1 0
              have hdl' : (Builtin.delete_ #[MapT, 9] 0 #[.map (some km), .string s.2.1]).run Try.prog w3 = .ok (.tuple #[]) w4 := hdl
              have H4 := Lib.hid (h3'.put hM4 hO4)
              obtain ⟨_, s1', _, _⟩ := step_cells HB3.out
              clear h3 hL3 h3' hdl hM4 hO4 s0 s1 s2 s3 hsn
              go_wp2_with (at_builtin; refine wpList_del rfl _ _ _ _ rfl rfl rfl hdl' ?_)
              refine Met.intro (hJ2 _ _ ?_)
              exact ⟨rv3, _, now, _, ⟨H4.out, HS.out.rm.del _, HS.out.late.off _, HS.out.n0, HS.out.n1⟩, rfl, rfl, rfl, rfl, rfl, rfl⟩
          have b1 : (s.1 == 1) = false := by rw [beq_eq_false_iff_ne]; exact h1
          clear h1
          by_cases h2 : s.1 = 2
          · have b2 : (s.1 == 2) = true := by rw [h2]; rfl
            clear h2
            obtain ⟨lx, hqx, _⟩ := HS.out.c.t.tms
            have HQX := Lib.hid hqx
            clear hqx
            go_wp2_with fail
            refine (now_any HQX.out).mono ?_
            rintro e w3 ⟨rfl, rfl⟩
            clear HQX
            go_wp2_with fail
            refine (tick_any s.2.2.2 HS.out.c.t.tms HS.out.n0 HS.out.n1).mono ?_
            rintro e w4 ⟨ov, rv4, rfl, hP⟩
            obtain ⟨D, hD⟩ : ∃ D, tickO L now s.2.2.2 = D := ⟨_, rfl⟩
            have hw := hP.own
            rw [hD] at hw
            obtain ⟨oa, oc, rfl⟩ := own_slice hw
            have H4 := Lib.hid (HS.out.c.next hP.tms hP.ql)
            have HW := Lib.hid hw
            have HDD := Lib.hid hD
            clear hP hw hD s0 s1 s2 s3
            by_cases hE : tickE now s.2.2.2 = 0
            · have hEb : (tickE now s.2.2.2 != 0) = false := by rw [hE]; rfl
              have HE := Lib.hid hE
              clear hE
              generalize hTE : tickE now s.2.2.2 = E at hEb ⊢
              have HTE := Lib.hid hTE
              clear hTE
              have hsp : L = D ++ tickL L now s.2.2.2 := by
                have h1 := HDD.out
                unfold tickO at h1
                rw [if_pos HE.out] at h1
                unfold tickL
                rw [if_pos HE.out, ← h1, List.takeWhile_append_dropWhile]
              obtain ⟨L', hL'⟩ : ∃ t, tickL L now s.2.2.2 = t := ⟨_, rfl⟩
              obtain ⟨now', hn'⟩ : ∃ t, tickC now s.2.2.2 = t := ⟨_, rfl⟩
              rw [hL'] at hsp
              have h4 := H4.out
              rw [hL', hn'] at h4
              have H5 := Lib.hid h4
              have hby : 0 ≤ s.2.2.2 ∧ s.2.2.2 ≤ 17592186044416 ∧ now ≤ 17592186044416 - s.2.2.2 := by
                have h1 := HE.out
                unfold tickE at h1
                split at h1
                · simp at h1
                · split at h1
                  · simp at h1
                  · split at h1
                    · simp at h1
                    · omega
              have hnv : now' = now + s.2.2.2 := by rw [← hn']; unfold tickC; rw [if_pos HE.out]
              have HNB := Lib.hid (show 0 ≤ now' ∧ now' ≤ 17592186044416 from by have := HS.out.n0; omega)
              have HLT := Lib.hid (show Late L' now' from by rw [← hL', ← hn']; exact HS.out.late.tick HS.out.c.srt.1)
              have HDU := Lib.hid (show ∀ x ∈ D, x.a ≤ now' ∧ now < x.a from fun x hx => by
                refine ⟨?_, HS.out.late x (by rw [hsp]; exact List.mem_append_left _ hx)⟩
                have h1 := HDD.out
                unfold tickO at h1
                rw [if_pos HE.out, ← hnv] at h1
                exact take_due _ x (by rw [h1]; exact hx))
              have HSP := Lib.hid hsp
              have HSR := Lib.hid HS.out.c.srt
              have hD1 : D.length ≤ 1024 := by have h1 := HS.out.c.srt.2.2; rw [hsp, List.length_append] at h1; omega
              obtain ⟨DN, hDN⟩ : ∃ n, D.length = n := ⟨_, rfl⟩
              have HW2 := Lib.hid (show w4.ownsRow w3.heap.size TmT 2 (.slice oa DN oc) D.length (D.flatMap encT) from by have := HW.out; rw [hDN] at this ⊢; exact this)
              have HDN := Lib.hid hDN
              rw [hDN] at hD1
              rw [hDN]
              clear hsp hL' hn' h4 hby hnv hDN H4 HW
              go_wp2_with fail
              refine wp_loop_ghost_k (TlO w1 (.slice (some ⟨bs, off, none⟩) l.length vc) (.slice oa DN oc) b km k rv4 D L' now now' w3.heap.size) DN ?atStartT ?roundT
              case atStartT => exact ⟨0, M, by rw [HDN.out]; omega, H5.out, by have := HS.out.rm; rw [HSP.out] at this; simpa using this, HW2.out, ⟨rfl, rfl, rfl, rfl, rfl, rfl⟩, rfl, rfl, rfl⟩
              case roundT =>
                clear H5 HW2
                generalize w3.heap.size = Z3 at *
                rintro go1 ⟨ts1, ds1⟩ wr1 ⟨j, M1, hj, hC, hR, hw, ⟨hd1, hts1, f0, f3, f4, f5⟩, f10, f11, f13⟩ J5 K5 hJ5 hK5
                have HC := Lib.hid hC
                have HW := Lib.hid hw
                have HR := Lib.hid hR
                clear hC hw hR
                simp only at hd1 hts1 f0 f3 f4 f5 f10 f11 f13
                subst hd1
                rw [frame_lit233 hts1, f0, f3, f4, f5, f10, f11, f13]
                clear f0 f3 f4 f5 f10 f11 f13
                rw [HDN.out] at hj
                by_cases hjl : j < DN
                · have hjk : j < D.length := by rw [HDN.out]; exact hjl
                  obtain ⟨g, hg⟩ : ∃ g, oa = some ⟨g, 0, none⟩ := by
                    obtain ⟨_, ⟨hv, h0⟩ | ⟨g, c', cur, hv, _⟩⟩ := HW.out
                    · omega
                    · injection hv with e1 _ _
                      exact ⟨g, e1⟩
                  subst hg
                  have hww := HW.out
                  rw [HDN.out] at hww
                  obtain ⟨c0, c1⟩ := tm_at hww HDN.out hjk
                  have hdr : D.drop j = D[j] :: D.drop (j + 1) := List.drop_eq_getElem_cons hjk
                  have hdu := HDU.out _ (List.getElem_mem hjk)
                  have hget := HR.out.get D[j] (List.mem_append_left _ (by rw [hdr]; exact List.mem_cons_self))
                  have hndL : ((D.drop j ++ L').map (·.k)).Nodup := by
                    have h1 := HSR.out.2.1
                    rw [HSP.out] at h1
                    exact (((List.drop_sublist j D).append_right L').map _).nodup h1
                  have hoff : offT D[j].k (D.drop j ++ L') = D.drop (j + 1) ++ L' := by
                    rw [hdr, List.cons_append] at hndL ⊢
                    exact offT_head hndL
                  have HRN := Lib.hid (show Rm (S.delL M1 D[j].k) (D.drop (j + 1) ++ L') from by rw [← hoff]; exact HR.out.del _)
                  have hlk := map_look HC.out.mp D[j].k
                  rw [hget] at hlk
                  simp only [Option.getD_some, Option.isSome_some] at hlk
                  have hord : j = 0 ∨ ∃ i, ∃ hi : i < D.length, i + 1 = j ∧ wr1.cell? ⟨g, i * 2, none⟩ = some (.string D[i].k) ∧ wr1.cell? ⟨g, i * 2 + 1, none⟩ = some (.int .i64 D[i].a) ∧ (D[i].a < D[j].a ∨ (D[i].a = D[j].a ∧ Op.bytesLess D[i].k.toList D[j].k.toList = true)) := by
                    by_cases hj0 : j = 0
                    · exact .inl hj0
                    · obtain ⟨i, rfl⟩ : ∃ i, j = i + 1 := ⟨j - 1, by omega⟩
                      obtain ⟨d0, d1⟩ := tm_at hww HDN.out (show i < D.length by omega)
                      refine .inr ⟨i, by omega, rfl, d0, d1, ?_⟩
                      have hsD : Srt D := by have h1 := HSR.out.1; rw [HSP.out] at h1; exact (List.pairwise_append.1 h1).1
                      have hnD : (D.map (·.k)).Nodup := by have h1 := HSR.out.2.1; rw [HSP.out] at h1; exact ((List.sublist_append_left D L').map _).nodup h1
                      exact srt_lt hsD hnD hjk
                  obtain ⟨x, hx⟩ : ∃ x, D[j] = x := ⟨_, rfl⟩
                  rw [hx] at c0 c1 hdu hlk hord HRN
                  clear hww hdr hget hndL hoff
                  have HX := Lib.hid hx
                  clear hx
                  have hne : (x.a != x.a) = false := by simp
                  have hq1 : ¬ now' < x.a := by omega
                  have hq2 : ¬ x.a ≤ now := by omega
                  obtain ⟨lx, hqx, _⟩ := HC.out.t.tms
                  have HQX := Lib.hid hqx
                  have HORD := Lib.hid hord
                  clear hqx hdu hord
                  go_wp2_with fail
                  refine (now_any HQX.out).mono ?_
                  rintro e w5 ⟨rfl, rfl⟩
                  clear hlk
                  rcases HORD.out with hj0 | ⟨i, hi, hij, d0, d1, ho⟩
                  · have hz : ¬ (0 : Int) < (j : Int) := by omega
                    have hz2 : ¬ 0 < j := by omega
                    have hz3 : decide (0 < j) = false := decide_eq_false hz2
                    have hz4 : decide ((0 : Int) < (j : Int)) = false := decide_eq_false hz
                    have HJ0 := Lib.hid hj0
                    clear hj0
                    clear HORD
                    go_upto_region 36 with fail
                    have hgl : g < w5.heap.size := World.block_lt_of_cell? _ _ c0
                    refine wp_region_held_drew (S := fun y => Below w5.heap.size w5 y) (by kernel_rfl) ((Below.refl _ _).drew) (fun hHeld => ?_)
                    refine wpAnyH_take (i := 0) (oi := _) (v := ?_) (by rw [List.getElem?_toArray]; exact rfl) (by kernel_rfl) (by kernel_rfl) (by kernel_rfl) (by exact fun _ _ _ h => h) (Or.inl ⟨by rfl, ?_⟩) hHeld ?_
                    rotate_left
                    · (intro wX hSw; clear hSw; go_simp; try with_reducible rfl)
                    try simp only [Act.put, List.setIfInBounds_toArray, List.set_cons_zero, List.set_cons_succ]
                    refine wpAnyH_take (i := 1) (oi := _) (v := ?_) (by rw [List.getElem?_toArray]; exact rfl) (by kernel_rfl) (by kernel_rfl) (by kernel_rfl) (by exact fun _ _ _ h => h) (Or.inl ⟨by rfl, ?_⟩) hHeld ?_
                    rotate_left
                    · (intro wX hSw; clear hSw; go_simp; try with_reducible rfl)
                    try simp only [Act.put, List.setIfInBounds_toArray, List.set_cons_zero, List.set_cons_succ]
                    refine wpAnyH_take (i := 2) (oi := _) (v := ?_) (by rw [List.getElem?_toArray]; exact rfl) (by kernel_rfl) (by kernel_rfl) (by kernel_rfl) (by exact fun _ _ _ h => h) (Or.inl ⟨by rfl, ?_⟩) hHeld ?_
                    rotate_left
                    · (intro wX hSw; clear hSw; go_simp; try with_reducible rfl)
                    try simp only [Act.put, List.setIfInBounds_toArray, List.set_cons_zero, List.set_cons_succ]
                    refine wpAnyH_take (i := 3) (oi := _) (v := undef) (by rw [List.getElem?_toArray]; exact rfl) (by kernel_rfl) (by kernel_rfl) (by kernel_rfl) (by exact fun _ _ _ h => h) (Or.inr ⟨by rfl, rfl⟩) hHeld ?_
                    try simp only [Act.put, List.setIfInBounds_toArray, List.set_cons_zero, List.set_cons_succ]
                    refine wpAnyH_take (i := 4) (oi := _) (v := undef) (by rw [List.getElem?_toArray]; exact rfl) (by kernel_rfl) (by kernel_rfl) (by kernel_rfl) (by exact fun _ _ _ h => h) (Or.inr ⟨by rfl, rfl⟩) hHeld ?_
                    try simp only [Act.put, List.setIfInBounds_toArray, List.set_cons_zero, List.set_cons_succ]
                    refine wpAnyH_take (i := 5) (oi := _) (v := undef) (by rw [List.getElem?_toArray]; exact rfl) (by kernel_rfl) (by kernel_rfl) (by kernel_rfl) (by exact fun _ _ _ h => h) (Or.inr ⟨by rfl, rfl⟩) hHeld ?_
                    try simp only [Act.put, List.setIfInBounds_toArray, List.set_cons_zero, List.set_cons_succ]
                    refine wpAnyH_take (i := 6) (oi := _) (v := undef) (by rw [List.getElem?_toArray]; exact rfl) (by kernel_rfl) (by kernel_rfl) (by kernel_rfl) (by exact fun _ _ _ h => h) (Or.inr ⟨by rfl, rfl⟩) hHeld ?_
                    try simp only [Act.put, List.setIfInBounds_toArray, List.set_cons_zero, List.set_cons_succ]
                    refine wpAnyH_take (i := 7) (oi := _) (v := undef) (by rw [List.getElem?_toArray]; exact rfl) (by kernel_rfl) (by kernel_rfl) (by kernel_rfl) (by exact fun _ _ _ h => h) (Or.inr ⟨by rfl, rfl⟩) hHeld ?_
                    try simp only [Act.put, List.setIfInBounds_toArray, List.set_cons_zero, List.set_cons_succ]
                    refine wpAnyH_take (i := 8) (oi := _) (v := undef) (by rw [List.getElem?_toArray]; exact rfl) (by kernel_rfl) (by kernel_rfl) (by kernel_rfl) (by exact fun _ _ _ h => h) (Or.inr ⟨by rfl, rfl⟩) hHeld ?_
                    try simp only [Act.put, List.setIfInBounds_toArray, List.set_cons_zero, List.set_cons_succ]
                    refine wpAnyH_take (i := 9) (oi := _) (v := undef) (by rw [List.getElem?_toArray]; exact rfl) (by kernel_rfl) (by kernel_rfl) (by kernel_rfl) (by exact fun _ _ _ h => h) (Or.inr ⟨by rfl, rfl⟩) hHeld ?_
                    try simp only [Act.put, List.setIfInBounds_toArray, List.set_cons_zero, List.set_cons_succ]
                    refine wpAnyH_take (i := 10) (oi := _) (v := undef) (by rw [List.getElem?_toArray]; exact rfl) (by kernel_rfl) (by kernel_rfl) (by kernel_rfl) (by exact fun _ _ _ h => h) (Or.inr ⟨by rfl, rfl⟩) hHeld ?_
                    try simp only [Act.put, List.setIfInBounds_toArray, List.set_cons_zero, List.set_cons_succ]
                    refine wpAnyH_take (i := 11) (oi := _) (v := undef) (by rw [List.getElem?_toArray]; exact rfl) (by kernel_rfl) (by kernel_rfl) (by kernel_rfl) (by exact fun _ _ _ h => h) (Or.inr ⟨by rfl, rfl⟩) hHeld ?_
                    try simp only [Act.put, List.setIfInBounds_toArray, List.set_cons_zero, List.set_cons_succ]
                    refine wpAnyH_take (i := 12) (oi := _) (v := undef) (by rw [List.getElem?_toArray]; exact rfl) (by kernel_rfl) (by kernel_rfl) (by kernel_rfl) (by exact fun _ _ _ h => h) (Or.inr ⟨by rfl, rfl⟩) hHeld ?_
                    try simp only [Act.put, List.setIfInBounds_toArray, List.set_cons_zero, List.set_cons_succ]
                    refine wpAnyH_take (i := 13) (oi := _) (v := undef) (by rw [List.getElem?_toArray]; exact rfl) (by kernel_rfl) (by kernel_rfl) (by kernel_rfl) (by exact fun _ _ _ h => h) (Or.inr ⟨by rfl, rfl⟩) hHeld ?_
                    try simp only [Act.put, List.setIfInBounds_toArray, List.set_cons_zero, List.set_cons_succ]
                    refine wpAnyH_take (i := 14) (oi := _) (v := undef) (by rw [List.getElem?_toArray]; exact rfl) (by kernel_rfl) (by kernel_rfl) (by kernel_rfl) (by exact fun _ _ _ h => h) (Or.inr ⟨by rfl, rfl⟩) hHeld ?_
                    try simp only [Act.put, List.setIfInBounds_toArray, List.set_cons_zero, List.set_cons_succ]
                    refine wpAnyH_take (i := 15) (oi := _) (v := undef) (by rw [List.getElem?_toArray]; exact rfl) (by kernel_rfl) (by kernel_rfl) (by kernel_rfl) (by exact fun _ _ _ h => h) (Or.inr ⟨by rfl, rfl⟩) hHeld ?_
                    try simp only [Act.put, List.setIfInBounds_toArray, List.set_cons_zero, List.set_cons_succ]
                    refine wpAnyH_take (i := 16) (oi := _) (v := undef) (by rw [List.getElem?_toArray]; exact rfl) (by kernel_rfl) (by kernel_rfl) (by kernel_rfl) (by exact fun _ _ _ h => h) (Or.inr ⟨by rfl, rfl⟩) hHeld ?_
                    try simp only [Act.put, List.setIfInBounds_toArray, List.set_cons_zero, List.set_cons_succ]
                    refine wpAnyH_take (i := 17) (oi := _) (v := undef) (by rw [List.getElem?_toArray]; exact rfl) (by kernel_rfl) (by kernel_rfl) (by kernel_rfl) (by exact fun _ _ _ h => h) (Or.inr ⟨by rfl, rfl⟩) hHeld ?_
                    try simp only [Act.put, List.setIfInBounds_toArray, List.set_cons_zero, List.set_cons_succ]
                    refine wpAnyH_take (i := 18) (oi := _) (v := undef) (by rw [List.getElem?_toArray]; exact rfl) (by kernel_rfl) (by kernel_rfl) (by kernel_rfl) (by exact fun _ _ _ h => h) (Or.inr ⟨by rfl, rfl⟩) hHeld ?_
                    try simp only [Act.put, List.setIfInBounds_toArray, List.set_cons_zero, List.set_cons_succ]
                    refine wpAnyH_take (i := 19) (oi := _) (v := undef) (by rw [List.getElem?_toArray]; exact rfl) (by kernel_rfl) (by kernel_rfl) (by kernel_rfl) (by exact fun _ _ _ h => h) (Or.inr ⟨by rfl, rfl⟩) hHeld ?_
                    try simp only [Act.put, List.setIfInBounds_toArray, List.set_cons_zero, List.set_cons_succ]
                    refine wpAnyH_take (i := 20) (oi := _) (v := undef) (by rw [List.getElem?_toArray]; exact rfl) (by kernel_rfl) (by kernel_rfl) (by kernel_rfl) (by exact fun _ _ _ h => h) (Or.inr ⟨by rfl, rfl⟩) hHeld ?_
                    try simp only [Act.put, List.setIfInBounds_toArray, List.set_cons_zero, List.set_cons_succ]
                    refine wpAnyH_take (i := 21) (oi := _) (v := undef) (by rw [List.getElem?_toArray]; exact rfl) (by kernel_rfl) (by kernel_rfl) (by kernel_rfl) (by exact fun _ _ _ h => h) (Or.inr ⟨by rfl, rfl⟩) hHeld ?_
                    try simp only [Act.put, List.setIfInBounds_toArray, List.set_cons_zero, List.set_cons_succ]
                    refine wpAnyH_take (i := 22) (oi := _) (v := undef) (by rw [List.getElem?_toArray]; exact rfl) (by kernel_rfl) (by kernel_rfl) (by kernel_rfl) (by exact fun _ _ _ h => h) (Or.inr ⟨by rfl, rfl⟩) hHeld ?_
                    try simp only [Act.put, List.setIfInBounds_toArray, List.set_cons_zero, List.set_cons_succ]
                    refine wpAnyH_take (i := 23) (oi := _) (v := undef) (by rw [List.getElem?_toArray]; exact rfl) (by kernel_rfl) (by kernel_rfl) (by kernel_rfl) (by exact fun _ _ _ h => h) (Or.inr ⟨by rfl, rfl⟩) hHeld ?_
                    try simp only [Act.put, List.setIfInBounds_toArray, List.set_cons_zero, List.set_cons_succ]
                    refine wpAnyH_take (i := 24) (oi := _) (v := undef) (by rw [List.getElem?_toArray]; exact rfl) (by kernel_rfl) (by kernel_rfl) (by kernel_rfl) (by exact fun _ _ _ h => h) (Or.inr ⟨by rfl, rfl⟩) hHeld ?_
                    try simp only [Act.put, List.setIfInBounds_toArray, List.set_cons_zero, List.set_cons_succ]
                    refine wpAnyH_take (i := 25) (oi := _) (v := undef) (by rw [List.getElem?_toArray]; exact rfl) (by kernel_rfl) (by kernel_rfl) (by kernel_rfl) (by exact fun _ _ _ h => h) (Or.inr ⟨by rfl, rfl⟩) hHeld ?_
                    try simp only [Act.put, List.setIfInBounds_toArray, List.set_cons_zero, List.set_cons_succ]
                    refine wpAnyH_take (i := 26) (oi := _) (v := undef) (by rw [List.getElem?_toArray]; exact rfl) (by kernel_rfl) (by kernel_rfl) (by kernel_rfl) (by exact fun _ _ _ h => h) (Or.inr ⟨by rfl, rfl⟩) hHeld ?_
                    try simp only [Act.put, List.setIfInBounds_toArray, List.set_cons_zero, List.set_cons_succ]
                    refine wpAnyH_take (i := 27) (oi := _) (v := undef) (by rw [List.getElem?_toArray]; exact rfl) (by kernel_rfl) (by kernel_rfl) (by kernel_rfl) (by exact fun _ _ _ h => h) (Or.inr ⟨by rfl, rfl⟩) hHeld ?_
                    try simp only [Act.put, List.setIfInBounds_toArray, List.set_cons_zero, List.set_cons_succ]
                    refine wpAnyH_take (i := 28) (oi := _) (v := undef) (by rw [List.getElem?_toArray]; exact rfl) (by kernel_rfl) (by kernel_rfl) (by kernel_rfl) (by exact fun _ _ _ h => h) (Or.inr ⟨by rfl, rfl⟩) hHeld ?_
                    try simp only [Act.put, List.setIfInBounds_toArray, List.set_cons_zero, List.set_cons_succ]
                    refine wpAnyH_take (i := 29) (oi := _) (v := undef) (by rw [List.getElem?_toArray]; exact rfl) (by kernel_rfl) (by kernel_rfl) (by kernel_rfl) (by exact fun _ _ _ h => h) (Or.inr ⟨by rfl, rfl⟩) hHeld ?_
                    try simp only [Act.put, List.setIfInBounds_toArray, List.set_cons_zero, List.set_cons_succ]
                    refine wpAnyH_take (i := 30) (oi := _) (v := undef) (by rw [List.getElem?_toArray]; exact rfl) (by kernel_rfl) (by kernel_rfl) (by kernel_rfl) (by exact fun _ _ _ h => h) (Or.inr ⟨by rfl, rfl⟩) hHeld ?_
                    try simp only [Act.put, List.setIfInBounds_toArray, List.set_cons_zero, List.set_cons_succ]
                    refine wpAnyH_take (i := 31) (oi := _) (v := undef) (by rw [List.getElem?_toArray]; exact rfl) (by kernel_rfl) (by kernel_rfl) (by kernel_rfl) (by exact fun _ _ _ h => h) (Or.inr ⟨by rfl, rfl⟩) hHeld ?_
                    try simp only [Act.put, List.setIfInBounds_toArray, List.set_cons_zero, List.set_cons_succ]
                    refine wpAnyH_take (i := 32) (oi := _) (v := undef) (by rw [List.getElem?_toArray]; exact rfl) (by kernel_rfl) (by kernel_rfl) (by kernel_rfl) (by exact fun _ _ _ h => h) (Or.inr ⟨by rfl, rfl⟩) hHeld ?_
                    try simp only [Act.put, List.setIfInBounds_toArray, List.set_cons_zero, List.set_cons_succ]
                    refine wpAnyH_take (i := 33) (oi := _) (v := undef) (by rw [List.getElem?_toArray]; exact rfl) (by kernel_rfl) (by kernel_rfl) (by kernel_rfl) (by exact fun _ _ _ h => h) (Or.inr ⟨by rfl, rfl⟩) hHeld ?_
                    try simp only [Act.put, List.setIfInBounds_toArray, List.set_cons_zero, List.set_cons_succ]
                    refine wpAnyH_take (i := 34) (oi := _) (v := undef) (by rw [List.getElem?_toArray]; exact rfl) (by kernel_rfl) (by kernel_rfl) (by kernel_rfl) (by exact fun _ _ _ h => h) (Or.inr ⟨by rfl, rfl⟩) hHeld ?_
                    try simp only [Act.put, List.setIfInBounds_toArray, List.set_cons_zero, List.set_cons_succ]
                    refine wpAnyH_take (i := 35) (oi := _) (v := undef) (by rw [List.getElem?_toArray]; exact rfl) (by kernel_rfl) (by kernel_rfl) (by kernel_rfl) (by exact fun _ _ _ h => h) (Or.inr ⟨by rfl, rfl⟩) hHeld ?_
                    try simp only [Act.put, List.setIfInBounds_toArray, List.set_cons_zero, List.set_cons_succ]
                    refine wpAnyH_take (i := 36) (oi := _) (v := undef) (by rw [List.getElem?_toArray]; exact rfl) (by kernel_rfl) (by kernel_rfl) (by kernel_rfl) (by exact fun _ _ _ h => h) (Or.inr ⟨by rfl, rfl⟩) hHeld ?_
                    try simp only [Act.put, List.setIfInBounds_toArray, List.set_cons_zero, List.set_cons_succ]
                    refine wpAnyH_take (i := 37) (oi := _) (v := undef) (by rw [List.getElem?_toArray]; exact rfl) (by kernel_rfl) (by kernel_rfl) (by kernel_rfl) (by exact fun _ _ _ h => h) (Or.inr ⟨by rfl, rfl⟩) hHeld ?_
                    try simp only [Act.put, List.setIfInBounds_toArray, List.set_cons_zero, List.set_cons_succ]
                    refine wpAnyH_take (i := 38) (oi := _) (v := undef) (by rw [List.getElem?_toArray]; exact rfl) (by kernel_rfl) (by kernel_rfl) (by kernel_rfl) (by exact fun _ _ _ h => h) (Or.inr ⟨by rfl, rfl⟩) hHeld ?_
                    try simp only [Act.put, List.setIfInBounds_toArray, List.set_cons_zero, List.set_cons_succ]
                    refine wpAnyH_take (i := 39) (oi := _) (v := undef) (by rw [List.getElem?_toArray]; exact rfl) (by kernel_rfl) (by kernel_rfl) (by kernel_rfl) (by exact fun _ _ _ h => h) (Or.inr ⟨by rfl, rfl⟩) hHeld ?_
                    try simp only [Act.put, List.setIfInBounds_toArray, List.set_cons_zero, List.set_cons_succ]
                    refine wpAnyH_take (i := 40) (oi := _) (v := undef) (by rw [List.getElem?_toArray]; exact rfl) (by kernel_rfl) (by kernel_rfl) (by kernel_rfl) (by exact fun _ _ _ h => h) (Or.inr ⟨by rfl, rfl⟩) hHeld ?_
                    try simp only [Act.put, List.setIfInBounds_toArray, List.set_cons_zero, List.set_cons_succ]
                    refine wpAnyH_take (i := 41) (oi := _) (v := undef) (by rw [List.getElem?_toArray]; exact rfl) (by kernel_rfl) (by kernel_rfl) (by kernel_rfl) (by exact fun _ _ _ h => h) (Or.inr ⟨by rfl, rfl⟩) hHeld ?_
                    try simp only [Act.put, List.setIfInBounds_toArray, List.set_cons_zero, List.set_cons_succ]
                    refine wpAnyH_take (i := 42) (oi := _) (v := undef) (by rw [List.getElem?_toArray]; exact rfl) (by kernel_rfl) (by kernel_rfl) (by kernel_rfl) (by exact fun _ _ _ h => h) (Or.inr ⟨by rfl, rfl⟩) hHeld ?_
                    try simp only [Act.put, List.setIfInBounds_toArray, List.set_cons_zero, List.set_cons_succ]
                    refine wpAnyH_take (i := 43) (oi := _) (v := ?_) (by rw [List.getElem?_toArray]; exact rfl) (by kernel_rfl) (by kernel_rfl) (by kernel_rfl) (by exact fun _ _ _ h => h) (Or.inl ⟨by rfl, ?_⟩) hHeld ?_
                    rotate_left
                    · (intro wX hSw; clear hSw; go_simp; try with_reducible rfl)
                    try simp only [Act.put, List.setIfInBounds_toArray, List.set_cons_zero, List.set_cons_succ]
                    refine wpAnyH_done (by kernel_rfl) ?_ _
                    clear hHeld hgl
                    have hBd : Below w5.heap.size w5 w5.drew := (Below.refl _ _).drew
                    have HCd := Lib.hid (HC.out.below hBd)
                    have HWd := Lib.hid (own_below HW.out hBd)
                    replace c0 : (w5.drew).cell? ⟨g, j * 2, none⟩ = some (.string x.k) := c0
                    clear hBd HC HW HQX c1
                    obtain ⟨wd, hwd⟩ : ∃ t, w5.drew = t := ⟨_, rfl⟩
                    rw [hwd] at HCd HWd c0 ⊢
                    clear hwd
                    obtain ⟨w4', hdl, hM4, hO4, _⟩ := HCd.out.mp.delete (P := Try.prog) S.nameTy Try.underlying49 x.k 0
                    have hdl0 : (Builtin.delete_ #[MapT, 9] 0 #[.map (some km), .string x.k]).run Try.prog wd = .ok (.tuple #[]) w4' := hdl
                    have H4' := Lib.hid (HCd.out.put hM4 hO4)
                    have HW4 := Lib.hid (own_only HWd.out HCd.out.mp hO4)
                    clear hdl hM4 hO4 HCd HWd
                    go_wp2_with (at_builtin; refine wpList_del rfl _ _ _ _ rfl rfl rfl hdl0 ?_)
                    refine Handed.intro (go1 - 1) (by omega) (hJ5 _ _ _ ?_)
                    exact ⟨j + 1, S.delL M1 x.k, by rw [HDN.out]; omega, H4'.out, HRN.out, HW4.out, ⟨rfl, rfl, rfl, rfl, rfl, rfl⟩, rfl, rfl, by go_num⟩
                  · have hz : (0 : Int) < (j : Int) := by omega
                    have hz2 : 0 < j := by omega
                    have hz3 : decide (0 < j) = true := decide_eq_true hz2
                    have hz4 : decide ((0 : Int) < (j : Int)) = true := decide_eq_true hz
                    have qi : IntKind.i64.wrap ((j : Int) - 1) = (i : Int) := by rw [IntWalk.i64_in _ (by omega)]; omega
                    have hi1 : (i : Int) < DN := by omega
                    have hi0 : (0 : Int) ≤ i := by omega
                    have HIJ := Lib.hid hij
                    clear hij
                    generalize D[i] = y at d0 d1 ho
                    clear hi
                    rcases ho with ho | ⟨ho, hb⟩
                    · have hg1 : ¬ x.a < y.a := by omega
                      have hg2 : decide (x.a < y.a) = false := decide_eq_false hg1
                      have he1 : (y.a == x.a) = false := by rw [beq_eq_false_iff_ne]; omega
                      clear ho
                      clear HORD
                      go_upto_region 36 with fail
                      have hgl : g < w5.heap.size := World.block_lt_of_cell? _ _ c0
                      refine wp_region_held_drew (S := fun y => Below w5.heap.size w5 y) (by kernel_rfl) ((Below.refl _ _).drew) (fun hHeld => ?_)
                      refine wpAnyH_take (i := 0) (oi := _) (v := ?_) (by rw [List.getElem?_toArray]; exact rfl) (by kernel_rfl) (by kernel_rfl) (by kernel_rfl) (by exact fun _ _ _ h => h) (Or.inl ⟨by rfl, ?_⟩) hHeld ?_
                      rotate_left
                      · (intro wX hSw; clear hSw; go_simp; try with_reducible rfl)
                      try simp only [Act.put, List.setIfInBounds_toArray, List.set_cons_zero, List.set_cons_succ]
                      refine wpAnyH_take (i := 1) (oi := _) (v := ?_) (by rw [List.getElem?_toArray]; exact rfl) (by kernel_rfl) (by kernel_rfl) (by kernel_rfl) (by exact fun _ _ _ h => h) (Or.inl ⟨by rfl, ?_⟩) hHeld ?_
                      rotate_left
                      · (intro wX hSw; clear hSw; go_simp; try with_reducible rfl)
                      try simp only [Act.put, List.setIfInBounds_toArray, List.set_cons_zero, List.set_cons_succ]
                      refine wpAnyH_take (i := 2) (oi := _) (v := ?_) (by rw [List.getElem?_toArray]; exact rfl) (by kernel_rfl) (by kernel_rfl) (by kernel_rfl) (by exact fun _ _ _ h => h) (Or.inl ⟨by rfl, ?_⟩) hHeld ?_
                      rotate_left
                      · (intro wX hSw; clear hSw; go_simp; try with_reducible rfl)
                      try simp only [Act.put, List.setIfInBounds_toArray, List.set_cons_zero, List.set_cons_succ]
                      refine wpAnyH_take (i := 3) (oi := _) (v := ?_) (by rw [List.getElem?_toArray]; exact rfl) (by kernel_rfl) (by kernel_rfl) (by kernel_rfl) (by exact fun _ _ _ h => h) (Or.inl ⟨by rfl, ?_⟩) hHeld ?_
                      rotate_left
                      · (intro wX hSw; clear hSw; go_simp; try with_reducible rfl)
                      try simp only [Act.put, List.setIfInBounds_toArray, List.set_cons_zero, List.set_cons_succ]
                      refine wpAnyH_take (i := 4) (oi := _) (v := ?_) (by rw [List.getElem?_toArray]; exact rfl) (by kernel_rfl) (by kernel_rfl) (by kernel_rfl) (by exact fun _ _ _ h => h) (Or.inl ⟨by rfl, ?_⟩) hHeld ?_
                      rotate_left
                      · (intro wX hSw; clear hSw; go_simp; try with_reducible rfl)
                      try simp only [Act.put, List.setIfInBounds_toArray, List.set_cons_zero, List.set_cons_succ]
                      refine wpAnyH_take (i := 5) (oi := _) (v := ?_) (by rw [List.getElem?_toArray]; exact rfl) (by kernel_rfl) (by kernel_rfl) (by kernel_rfl) (by exact fun _ _ _ h => h) (Or.inl ⟨by rfl, ?_⟩) hHeld ?_
                      rotate_left
                      · (intro wX hSw; clear hSw; go_simp; try with_reducible rfl)
                      try simp only [Act.put, List.setIfInBounds_toArray, List.set_cons_zero, List.set_cons_succ]
                      refine wpAnyH_take (i := 6) (oi := _) (v := ?_) (by rw [List.getElem?_toArray]; exact rfl) (by kernel_rfl) (by kernel_rfl) (by kernel_rfl) (by exact fun _ _ _ h => h) (Or.inl ⟨by rfl, ?_⟩) hHeld ?_
                      rotate_left
                      · (intro wX hSw; clear hSw; go_simp; try with_reducible rfl)
                      try simp only [Act.put, List.setIfInBounds_toArray, List.set_cons_zero, List.set_cons_succ]
                      refine wpAnyH_take (i := 7) (oi := _) (v := ?_) (by rw [List.getElem?_toArray]; exact rfl) (by kernel_rfl) (by kernel_rfl) (by kernel_rfl) (by exact fun _ _ _ h => h) (Or.inl ⟨by rfl, ?_⟩) hHeld ?_
                      rotate_left
                      · (intro wX hSw; clear hSw; go_simp; try with_reducible rfl)
                      try simp only [Act.put, List.setIfInBounds_toArray, List.set_cons_zero, List.set_cons_succ]
                      refine wpAnyH_take (i := 8) (oi := _) (v := ?_) (by rw [List.getElem?_toArray]; exact rfl) (by kernel_rfl) (by kernel_rfl) (by kernel_rfl) (by exact fun _ _ _ h => h) (Or.inl ⟨by rfl, ?_⟩) hHeld ?_
                      rotate_left
                      · (intro wX hSw; have z0 := (hSw.cell (p := ⟨g, j * 2, none⟩) hgl).trans c0; have z1 := (hSw.cell (p := ⟨g, j * 2 + 1, none⟩) hgl).trans c1; have z2 := (hSw.cell (p := ⟨g, i * 2, none⟩) hgl).trans d0; have z3 := (hSw.cell (p := ⟨g, i * 2 + 1, none⟩) hgl).trans d1; clear hSw; go_simp; try with_reducible rfl)
                      try simp only [Act.put, List.setIfInBounds_toArray, List.set_cons_zero, List.set_cons_succ]
                      refine wpAnyH_take (i := 9) (oi := _) (v := ?_) (by rw [List.getElem?_toArray]; exact rfl) (by kernel_rfl) (by kernel_rfl) (by kernel_rfl) (by exact fun _ _ _ h => h) (Or.inl ⟨by rfl, ?_⟩) hHeld ?_
                      rotate_left
                      · (intro wX hSw; clear hSw; go_simp; try with_reducible rfl)
                      try simp only [Act.put, List.setIfInBounds_toArray, List.set_cons_zero, List.set_cons_succ]
                      refine wpAnyH_take (i := 10) (oi := _) (v := ?_) (by rw [List.getElem?_toArray]; exact rfl) (by kernel_rfl) (by kernel_rfl) (by kernel_rfl) (by exact fun _ _ _ h => h) (Or.inl ⟨by rfl, ?_⟩) hHeld ?_
                      rotate_left
                      · (intro wX hSw; clear hSw; go_simp; try with_reducible rfl)
                      try simp only [Act.put, List.setIfInBounds_toArray, List.set_cons_zero, List.set_cons_succ]
                      refine wpAnyH_take (i := 11) (oi := _) (v := ?_) (by rw [List.getElem?_toArray]; exact rfl) (by kernel_rfl) (by kernel_rfl) (by kernel_rfl) (by exact fun _ _ _ h => h) (Or.inl ⟨by rfl, ?_⟩) hHeld ?_
                      rotate_left
                      · (intro wX hSw; clear hSw; go_simp; try with_reducible rfl)
                      try simp only [Act.put, List.setIfInBounds_toArray, List.set_cons_zero, List.set_cons_succ]
                      refine wpAnyH_take (i := 12) (oi := _) (v := ?_) (by rw [List.getElem?_toArray]; exact rfl) (by kernel_rfl) (by kernel_rfl) (by kernel_rfl) (by exact fun _ _ _ h => h) (Or.inl ⟨by rfl, ?_⟩) hHeld ?_
                      rotate_left
                      · (intro wX hSw; clear hSw; go_simp; try with_reducible rfl)
                      try simp only [Act.put, List.setIfInBounds_toArray, List.set_cons_zero, List.set_cons_succ]
                      refine wpAnyH_take (i := 13) (oi := _) (v := ?_) (by rw [List.getElem?_toArray]; exact rfl) (by kernel_rfl) (by kernel_rfl) (by kernel_rfl) (by exact fun _ _ _ h => h) (Or.inl ⟨by rfl, ?_⟩) hHeld ?_
                      rotate_left
                      · (intro wX hSw; have z0 := (hSw.cell (p := ⟨g, j * 2, none⟩) hgl).trans c0; have z1 := (hSw.cell (p := ⟨g, j * 2 + 1, none⟩) hgl).trans c1; have z2 := (hSw.cell (p := ⟨g, i * 2, none⟩) hgl).trans d0; have z3 := (hSw.cell (p := ⟨g, i * 2 + 1, none⟩) hgl).trans d1; clear hSw; go_simp; try with_reducible rfl)
                      try simp only [Act.put, List.setIfInBounds_toArray, List.set_cons_zero, List.set_cons_succ]
                      refine wpAnyH_take (i := 14) (oi := _) (v := ?_) (by rw [List.getElem?_toArray]; exact rfl) (by kernel_rfl) (by kernel_rfl) (by kernel_rfl) (by exact fun _ _ _ h => h) (Or.inl ⟨by rfl, ?_⟩) hHeld ?_
                      rotate_left
                      · (intro wX hSw; clear hSw; go_simp; try with_reducible rfl)
                      try simp only [Act.put, List.setIfInBounds_toArray, List.set_cons_zero, List.set_cons_succ]
                      refine wpAnyH_take (i := 15) (oi := _) (v := ?_) (by rw [List.getElem?_toArray]; exact rfl) (by kernel_rfl) (by kernel_rfl) (by kernel_rfl) (by exact fun _ _ _ h => h) (Or.inl ⟨by rfl, ?_⟩) hHeld ?_
                      rotate_left
                      · (intro wX hSw; clear hSw; go_simp; try with_reducible rfl)
                      try simp only [Act.put, List.setIfInBounds_toArray, List.set_cons_zero, List.set_cons_succ]
                      refine wpAnyH_take (i := 16) (oi := _) (v := ?_) (by rw [List.getElem?_toArray]; exact rfl) (by kernel_rfl) (by kernel_rfl) (by kernel_rfl) (by exact fun _ _ _ h => h) (Or.inl ⟨by rfl, ?_⟩) hHeld ?_
                      rotate_left
                      · (intro wX hSw; clear hSw; go_simp; try with_reducible rfl)
                      try simp only [Act.put, List.setIfInBounds_toArray, List.set_cons_zero, List.set_cons_succ]
                      refine wpAnyH_take (i := 17) (oi := _) (v := ?_) (by rw [List.getElem?_toArray]; exact rfl) (by kernel_rfl) (by kernel_rfl) (by kernel_rfl) (by exact fun _ _ _ h => h) (Or.inl ⟨by rfl, ?_⟩) hHeld ?_
                      rotate_left
                      · (intro wX hSw; clear hSw; go_simp; try with_reducible rfl)
                      try simp only [Act.put, List.setIfInBounds_toArray, List.set_cons_zero, List.set_cons_succ]
                      refine wpAnyH_take (i := 18) (oi := _) (v := ?_) (by rw [List.getElem?_toArray]; exact rfl) (by kernel_rfl) (by kernel_rfl) (by kernel_rfl) (by exact fun _ _ _ h => h) (Or.inl ⟨by rfl, ?_⟩) hHeld ?_
                      rotate_left
                      · (intro wX hSw; clear hSw; go_simp; try with_reducible rfl)
                      try simp only [Act.put, List.setIfInBounds_toArray, List.set_cons_zero, List.set_cons_succ]
                      refine wpAnyH_take (i := 19) (oi := _) (v := ?_) (by rw [List.getElem?_toArray]; exact rfl) (by kernel_rfl) (by kernel_rfl) (by kernel_rfl) (by exact fun _ _ _ h => h) (Or.inl ⟨by rfl, ?_⟩) hHeld ?_
                      rotate_left
                      · (intro wX hSw; clear hSw; go_simp; try with_reducible rfl)
                      try simp only [Act.put, List.setIfInBounds_toArray, List.set_cons_zero, List.set_cons_succ]
                      refine wpAnyH_take (i := 20) (oi := _) (v := ?_) (by rw [List.getElem?_toArray]; exact rfl) (by kernel_rfl) (by kernel_rfl) (by kernel_rfl) (by exact fun _ _ _ h => h) (Or.inl ⟨by rfl, ?_⟩) hHeld ?_
                      rotate_left
                      · (intro wX hSw; clear hSw; go_simp; try with_reducible rfl)
                      try simp only [Act.put, List.setIfInBounds_toArray, List.set_cons_zero, List.set_cons_succ]
                      refine wpAnyH_take (i := 21) (oi := _) (v := ?_) (by rw [List.getElem?_toArray]; exact rfl) (by kernel_rfl) (by kernel_rfl) (by kernel_rfl) (by exact fun _ _ _ h => h) (Or.inl ⟨by rfl, ?_⟩) hHeld ?_
                      rotate_left
                      · (intro wX hSw; have z0 := (hSw.cell (p := ⟨g, j * 2, none⟩) hgl).trans c0; have z1 := (hSw.cell (p := ⟨g, j * 2 + 1, none⟩) hgl).trans c1; have z2 := (hSw.cell (p := ⟨g, i * 2, none⟩) hgl).trans d0; have z3 := (hSw.cell (p := ⟨g, i * 2 + 1, none⟩) hgl).trans d1; clear hSw; go_simp; try with_reducible rfl)
                      try simp only [Act.put, List.setIfInBounds_toArray, List.set_cons_zero, List.set_cons_succ]
                      refine wpAnyH_take (i := 22) (oi := _) (v := ?_) (by rw [List.getElem?_toArray]; exact rfl) (by kernel_rfl) (by kernel_rfl) (by kernel_rfl) (by exact fun _ _ _ h => h) (Or.inl ⟨by rfl, ?_⟩) hHeld ?_
                      rotate_left
                      · (intro wX hSw; clear hSw; go_simp; try with_reducible rfl)
                      try simp only [Act.put, List.setIfInBounds_toArray, List.set_cons_zero, List.set_cons_succ]
                      refine wpAnyH_take (i := 23) (oi := _) (v := ?_) (by rw [List.getElem?_toArray]; exact rfl) (by kernel_rfl) (by kernel_rfl) (by kernel_rfl) (by exact fun _ _ _ h => h) (Or.inl ⟨by rfl, ?_⟩) hHeld ?_
                      rotate_left
                      · (intro wX hSw; clear hSw; go_simp; try with_reducible rfl)
                      try simp only [Act.put, List.setIfInBounds_toArray, List.set_cons_zero, List.set_cons_succ]
                      refine wpAnyH_take (i := 24) (oi := _) (v := ?_) (by rw [List.getElem?_toArray]; exact rfl) (by kernel_rfl) (by kernel_rfl) (by kernel_rfl) (by exact fun _ _ _ h => h) (Or.inl ⟨by rfl, ?_⟩) hHeld ?_
                      rotate_left
                      · (intro wX hSw; clear hSw; go_simp; try with_reducible rfl)
                      try simp only [Act.put, List.setIfInBounds_toArray, List.set_cons_zero, List.set_cons_succ]
                      refine wpAnyH_take (i := 25) (oi := _) (v := ?_) (by rw [List.getElem?_toArray]; exact rfl) (by kernel_rfl) (by kernel_rfl) (by kernel_rfl) (by exact fun _ _ _ h => h) (Or.inl ⟨by rfl, ?_⟩) hHeld ?_
                      rotate_left
                      · (intro wX hSw; clear hSw; go_simp; try with_reducible rfl)
                      try simp only [Act.put, List.setIfInBounds_toArray, List.set_cons_zero, List.set_cons_succ]
                      refine wpAnyH_take (i := 26) (oi := _) (v := ?_) (by rw [List.getElem?_toArray]; exact rfl) (by kernel_rfl) (by kernel_rfl) (by kernel_rfl) (by exact fun _ _ _ h => h) (Or.inl ⟨by rfl, ?_⟩) hHeld ?_
                      rotate_left
                      · (intro wX hSw; have z0 := (hSw.cell (p := ⟨g, j * 2, none⟩) hgl).trans c0; have z1 := (hSw.cell (p := ⟨g, j * 2 + 1, none⟩) hgl).trans c1; have z2 := (hSw.cell (p := ⟨g, i * 2, none⟩) hgl).trans d0; have z3 := (hSw.cell (p := ⟨g, i * 2 + 1, none⟩) hgl).trans d1; clear hSw; go_simp; try with_reducible rfl)
                      try simp only [Act.put, List.setIfInBounds_toArray, List.set_cons_zero, List.set_cons_succ]
                      refine wpAnyH_take (i := 27) (oi := _) (v := ?_) (by rw [List.getElem?_toArray]; exact rfl) (by kernel_rfl) (by kernel_rfl) (by kernel_rfl) (by exact fun _ _ _ h => h) (Or.inl ⟨by rfl, ?_⟩) hHeld ?_
                      rotate_left
                      · (intro wX hSw; clear hSw; go_simp; try with_reducible rfl)
                      try simp only [Act.put, List.setIfInBounds_toArray, List.set_cons_zero, List.set_cons_succ]
                      refine wpAnyH_take (i := 28) (oi := _) (v := ?_) (by rw [List.getElem?_toArray]; exact rfl) (by kernel_rfl) (by kernel_rfl) (by kernel_rfl) (by exact fun _ _ _ h => h) (Or.inl ⟨by rfl, ?_⟩) hHeld ?_
                      rotate_left
                      · (intro wX hSw; clear hSw; go_simp; try with_reducible rfl)
                      try simp only [Act.put, List.setIfInBounds_toArray, List.set_cons_zero, List.set_cons_succ]
                      refine wpAnyH_take (i := 29) (oi := _) (v := undef) (by rw [List.getElem?_toArray]; exact rfl) (by kernel_rfl) (by kernel_rfl) (by kernel_rfl) (by exact fun _ _ _ h => h) (Or.inr ⟨by rfl, rfl⟩) hHeld ?_
                      try simp only [Act.put, List.setIfInBounds_toArray, List.set_cons_zero, List.set_cons_succ]
                      refine wpAnyH_take (i := 30) (oi := _) (v := undef) (by rw [List.getElem?_toArray]; exact rfl) (by kernel_rfl) (by kernel_rfl) (by kernel_rfl) (by exact fun _ _ _ h => h) (Or.inr ⟨by rfl, rfl⟩) hHeld ?_
                      try simp only [Act.put, List.setIfInBounds_toArray, List.set_cons_zero, List.set_cons_succ]
                      refine wpAnyH_take (i := 31) (oi := _) (v := undef) (by rw [List.getElem?_toArray]; exact rfl) (by kernel_rfl) (by kernel_rfl) (by kernel_rfl) (by exact fun _ _ _ h => h) (Or.inr ⟨by rfl, rfl⟩) hHeld ?_
                      try simp only [Act.put, List.setIfInBounds_toArray, List.set_cons_zero, List.set_cons_succ]
                      refine wpAnyH_take (i := 32) (oi := _) (v := undef) (by rw [List.getElem?_toArray]; exact rfl) (by kernel_rfl) (by kernel_rfl) (by kernel_rfl) (by exact fun _ _ _ h => h) (Or.inr ⟨by rfl, rfl⟩) hHeld ?_
                      try simp only [Act.put, List.setIfInBounds_toArray, List.set_cons_zero, List.set_cons_succ]
                      refine wpAnyH_take (i := 33) (oi := _) (v := undef) (by rw [List.getElem?_toArray]; exact rfl) (by kernel_rfl) (by kernel_rfl) (by kernel_rfl) (by exact fun _ _ _ h => h) (Or.inr ⟨by rfl, rfl⟩) hHeld ?_
                      try simp only [Act.put, List.setIfInBounds_toArray, List.set_cons_zero, List.set_cons_succ]
                      refine wpAnyH_take (i := 34) (oi := _) (v := undef) (by rw [List.getElem?_toArray]; exact rfl) (by kernel_rfl) (by kernel_rfl) (by kernel_rfl) (by exact fun _ _ _ h => h) (Or.inr ⟨by rfl, rfl⟩) hHeld ?_
                      try simp only [Act.put, List.setIfInBounds_toArray, List.set_cons_zero, List.set_cons_succ]
                      refine wpAnyH_take (i := 35) (oi := _) (v := undef) (by rw [List.getElem?_toArray]; exact rfl) (by kernel_rfl) (by kernel_rfl) (by kernel_rfl) (by exact fun _ _ _ h => h) (Or.inr ⟨by rfl, rfl⟩) hHeld ?_
                      try simp only [Act.put, List.setIfInBounds_toArray, List.set_cons_zero, List.set_cons_succ]
                      refine wpAnyH_take (i := 36) (oi := _) (v := undef) (by rw [List.getElem?_toArray]; exact rfl) (by kernel_rfl) (by kernel_rfl) (by kernel_rfl) (by exact fun _ _ _ h => h) (Or.inr ⟨by rfl, rfl⟩) hHeld ?_
                      try simp only [Act.put, List.setIfInBounds_toArray, List.set_cons_zero, List.set_cons_succ]
                      refine wpAnyH_take (i := 37) (oi := _) (v := undef) (by rw [List.getElem?_toArray]; exact rfl) (by kernel_rfl) (by kernel_rfl) (by kernel_rfl) (by exact fun _ _ _ h => h) (Or.inr ⟨by rfl, rfl⟩) hHeld ?_
                      try simp only [Act.put, List.setIfInBounds_toArray, List.set_cons_zero, List.set_cons_succ]
                      refine wpAnyH_take (i := 38) (oi := _) (v := undef) (by rw [List.getElem?_toArray]; exact rfl) (by kernel_rfl) (by kernel_rfl) (by kernel_rfl) (by exact fun _ _ _ h => h) (Or.inr ⟨by rfl, rfl⟩) hHeld ?_
                      try simp only [Act.put, List.setIfInBounds_toArray, List.set_cons_zero, List.set_cons_succ]
                      refine wpAnyH_take (i := 39) (oi := _) (v := undef) (by rw [List.getElem?_toArray]; exact rfl) (by kernel_rfl) (by kernel_rfl) (by kernel_rfl) (by exact fun _ _ _ h => h) (Or.inr ⟨by rfl, rfl⟩) hHeld ?_
                      try simp only [Act.put, List.setIfInBounds_toArray, List.set_cons_zero, List.set_cons_succ]
                      refine wpAnyH_take (i := 40) (oi := _) (v := undef) (by rw [List.getElem?_toArray]; exact rfl) (by kernel_rfl) (by kernel_rfl) (by kernel_rfl) (by exact fun _ _ _ h => h) (Or.inr ⟨by rfl, rfl⟩) hHeld ?_
                      try simp only [Act.put, List.setIfInBounds_toArray, List.set_cons_zero, List.set_cons_succ]
                      refine wpAnyH_take (i := 41) (oi := _) (v := ?_) (by rw [List.getElem?_toArray]; exact rfl) (by kernel_rfl) (by kernel_rfl) (by kernel_rfl) (by exact fun _ _ _ h => h) (Or.inl ⟨by rfl, ?_⟩) hHeld ?_
                      rotate_left
                      · (intro wX hSw; clear hSw; go_simp; try with_reducible rfl)
                      try simp only [Act.put, List.setIfInBounds_toArray, List.set_cons_zero, List.set_cons_succ]
                      refine wpAnyH_take (i := 42) (oi := _) (v := ?_) (by rw [List.getElem?_toArray]; exact rfl) (by kernel_rfl) (by kernel_rfl) (by kernel_rfl) (by exact fun _ _ _ h => h) (Or.inl ⟨by rfl, ?_⟩) hHeld ?_
                      rotate_left
                      · (intro wX hSw; clear hSw; go_simp; try with_reducible rfl)
                      try simp only [Act.put, List.setIfInBounds_toArray, List.set_cons_zero, List.set_cons_succ]
                      refine wpAnyH_take (i := 43) (oi := _) (v := ?_) (by rw [List.getElem?_toArray]; exact rfl) (by kernel_rfl) (by kernel_rfl) (by kernel_rfl) (by exact fun _ _ _ h => h) (Or.inl ⟨by rfl, ?_⟩) hHeld ?_
                      rotate_left
                      · (intro wX hSw; clear hSw; go_simp; try with_reducible rfl)
                      try simp only [Act.put, List.setIfInBounds_toArray, List.set_cons_zero, List.set_cons_succ]
                      refine wpAnyH_done (by kernel_rfl) ?_ _
                      clear hHeld hgl
                      have hBd : Below w5.heap.size w5 w5.drew := (Below.refl _ _).drew
                      have HCd := Lib.hid (HC.out.below hBd)
                      have HWd := Lib.hid (own_below HW.out hBd)
                      replace c0 : (w5.drew).cell? ⟨g, j * 2, none⟩ = some (.string x.k) := c0
                      clear hBd HC HW HQX c1
                      obtain ⟨wd, hwd⟩ : ∃ t, w5.drew = t := ⟨_, rfl⟩
                      rw [hwd] at HCd HWd c0 ⊢
                      clear hwd
                      obtain ⟨w4', hdl, hM4, hO4, _⟩ := HCd.out.mp.delete (P := Try.prog) S.nameTy Try.underlying49 x.k 0
                      have hdl0 : (Builtin.delete_ #[MapT, 9] 0 #[.map (some km), .string x.k]).run Try.prog wd = .ok (.tuple #[]) w4' := hdl
                      have H4' := Lib.hid (HCd.out.put hM4 hO4)
                      have HW4 := Lib.hid (own_only HWd.out HCd.out.mp hO4)
                      clear hdl hM4 hO4 HCd HWd
                      go_wp2_with (at_builtin; refine wpList_del rfl _ _ _ _ rfl rfl rfl hdl0 ?_)
                      refine Handed.intro (go1 - 1) (by omega) (hJ5 _ _ _ ?_)
                      exact ⟨j + 1, S.delL M1 x.k, by rw [HDN.out]; omega, H4'.out, HRN.out, HW4.out, ⟨rfl, rfl, rfl, rfl, rfl, rfl⟩, rfl, rfl, by go_num⟩
                    · have hg1 : ¬ x.a < y.a := by omega
                      have hg2 : decide (x.a < y.a) = false := decide_eq_false hg1
                      have he1 : (y.a == x.a) = true := by rw [beq_iff_eq]; exact ho
                      clear ho
                      clear HORD
                      go_upto_region 36 with fail
                      have hgl : g < w5.heap.size := World.block_lt_of_cell? _ _ c0
                      refine wp_region_held_drew (S := fun y => Below w5.heap.size w5 y) (by kernel_rfl) ((Below.refl _ _).drew) (fun hHeld => ?_)
                      refine wpAnyH_take (i := 0) (oi := _) (v := ?_) (by rw [List.getElem?_toArray]; exact rfl) (by kernel_rfl) (by kernel_rfl) (by kernel_rfl) (by exact fun _ _ _ h => h) (Or.inl ⟨by rfl, ?_⟩) hHeld ?_
                      rotate_left
                      · (intro wX hSw; clear hSw; go_simp; try with_reducible rfl)
                      try simp only [Act.put, List.setIfInBounds_toArray, List.set_cons_zero, List.set_cons_succ]
                      refine wpAnyH_take (i := 1) (oi := _) (v := ?_) (by rw [List.getElem?_toArray]; exact rfl) (by kernel_rfl) (by kernel_rfl) (by kernel_rfl) (by exact fun _ _ _ h => h) (Or.inl ⟨by rfl, ?_⟩) hHeld ?_
                      rotate_left
                      · (intro wX hSw; clear hSw; go_simp; try with_reducible rfl)
                      try simp only [Act.put, List.setIfInBounds_toArray, List.set_cons_zero, List.set_cons_succ]
                      refine wpAnyH_take (i := 2) (oi := _) (v := ?_) (by rw [List.getElem?_toArray]; exact rfl) (by kernel_rfl) (by kernel_rfl) (by kernel_rfl) (by exact fun _ _ _ h => h) (Or.inl ⟨by rfl, ?_⟩) hHeld ?_
                      rotate_left
                      · (intro wX hSw; clear hSw; go_simp; try with_reducible rfl)
                      try simp only [Act.put, List.setIfInBounds_toArray, List.set_cons_zero, List.set_cons_succ]
                      refine wpAnyH_take (i := 3) (oi := _) (v := ?_) (by rw [List.getElem?_toArray]; exact rfl) (by kernel_rfl) (by kernel_rfl) (by kernel_rfl) (by exact fun _ _ _ h => h) (Or.inl ⟨by rfl, ?_⟩) hHeld ?_
                      rotate_left
                      · (intro wX hSw; clear hSw; go_simp; try with_reducible rfl)
                      try simp only [Act.put, List.setIfInBounds_toArray, List.set_cons_zero, List.set_cons_succ]
                      refine wpAnyH_take (i := 4) (oi := _) (v := ?_) (by rw [List.getElem?_toArray]; exact rfl) (by kernel_rfl) (by kernel_rfl) (by kernel_rfl) (by exact fun _ _ _ h => h) (Or.inl ⟨by rfl, ?_⟩) hHeld ?_
                      rotate_left
                      · (intro wX hSw; clear hSw; go_simp; try with_reducible rfl)
                      try simp only [Act.put, List.setIfInBounds_toArray, List.set_cons_zero, List.set_cons_succ]
                      refine wpAnyH_take (i := 5) (oi := _) (v := ?_) (by rw [List.getElem?_toArray]; exact rfl) (by kernel_rfl) (by kernel_rfl) (by kernel_rfl) (by exact fun _ _ _ h => h) (Or.inl ⟨by rfl, ?_⟩) hHeld ?_
                      rotate_left
                      · (intro wX hSw; clear hSw; go_simp; try with_reducible rfl)
                      try simp only [Act.put, List.setIfInBounds_toArray, List.set_cons_zero, List.set_cons_succ]
                      refine wpAnyH_take (i := 6) (oi := _) (v := ?_) (by rw [List.getElem?_toArray]; exact rfl) (by kernel_rfl) (by kernel_rfl) (by kernel_rfl) (by exact fun _ _ _ h => h) (Or.inl ⟨by rfl, ?_⟩) hHeld ?_
                      rotate_left
                      · (intro wX hSw; clear hSw; go_simp; try with_reducible rfl)
                      try simp only [Act.put, List.setIfInBounds_toArray, List.set_cons_zero, List.set_cons_succ]
                      refine wpAnyH_take (i := 7) (oi := _) (v := ?_) (by rw [List.getElem?_toArray]; exact rfl) (by kernel_rfl) (by kernel_rfl) (by kernel_rfl) (by exact fun _ _ _ h => h) (Or.inl ⟨by rfl, ?_⟩) hHeld ?_
                      rotate_left
                      · (intro wX hSw; clear hSw; go_simp; try with_reducible rfl)
                      try simp only [Act.put, List.setIfInBounds_toArray, List.set_cons_zero, List.set_cons_succ]
                      refine wpAnyH_take (i := 8) (oi := _) (v := ?_) (by rw [List.getElem?_toArray]; exact rfl) (by kernel_rfl) (by kernel_rfl) (by kernel_rfl) (by exact fun _ _ _ h => h) (Or.inl ⟨by rfl, ?_⟩) hHeld ?_
                      rotate_left
                      · (intro wX hSw; have z0 := (hSw.cell (p := ⟨g, j * 2, none⟩) hgl).trans c0; have z1 := (hSw.cell (p := ⟨g, j * 2 + 1, none⟩) hgl).trans c1; have z2 := (hSw.cell (p := ⟨g, i * 2, none⟩) hgl).trans d0; have z3 := (hSw.cell (p := ⟨g, i * 2 + 1, none⟩) hgl).trans d1; clear hSw; go_simp; try with_reducible rfl)
                      try simp only [Act.put, List.setIfInBounds_toArray, List.set_cons_zero, List.set_cons_succ]
                      refine wpAnyH_take (i := 9) (oi := _) (v := ?_) (by rw [List.getElem?_toArray]; exact rfl) (by kernel_rfl) (by kernel_rfl) (by kernel_rfl) (by exact fun _ _ _ h => h) (Or.inl ⟨by rfl, ?_⟩) hHeld ?_
                      rotate_left
                      · (intro wX hSw; clear hSw; go_simp; try with_reducible rfl)
                      try simp only [Act.put, List.setIfInBounds_toArray, List.set_cons_zero, List.set_cons_succ]
                      refine wpAnyH_take (i := 10) (oi := _) (v := ?_) (by rw [List.getElem?_toArray]; exact rfl) (by kernel_rfl) (by kernel_rfl) (by kernel_rfl) (by exact fun _ _ _ h => h) (Or.inl ⟨by rfl, ?_⟩) hHeld ?_
                      rotate_left
                      · (intro wX hSw; clear hSw; go_simp; try with_reducible rfl)
                      try simp only [Act.put, List.setIfInBounds_toArray, List.set_cons_zero, List.set_cons_succ]
                      refine wpAnyH_take (i := 11) (oi := _) (v := ?_) (by rw [List.getElem?_toArray]; exact rfl) (by kernel_rfl) (by kernel_rfl) (by kernel_rfl) (by exact fun _ _ _ h => h) (Or.inl ⟨by rfl, ?_⟩) hHeld ?_
                      rotate_left
                      · (intro wX hSw; clear hSw; go_simp; try with_reducible rfl)
                      try simp only [Act.put, List.setIfInBounds_toArray, List.set_cons_zero, List.set_cons_succ]
                      refine wpAnyH_take (i := 12) (oi := _) (v := ?_) (by rw [List.getElem?_toArray]; exact rfl) (by kernel_rfl) (by kernel_rfl) (by kernel_rfl) (by exact fun _ _ _ h => h) (Or.inl ⟨by rfl, ?_⟩) hHeld ?_
                      rotate_left
                      · (intro wX hSw; clear hSw; go_simp; try with_reducible rfl)
                      try simp only [Act.put, List.setIfInBounds_toArray, List.set_cons_zero, List.set_cons_succ]
                      refine wpAnyH_take (i := 13) (oi := _) (v := ?_) (by rw [List.getElem?_toArray]; exact rfl) (by kernel_rfl) (by kernel_rfl) (by kernel_rfl) (by exact fun _ _ _ h => h) (Or.inl ⟨by rfl, ?_⟩) hHeld ?_
                      rotate_left
                      · (intro wX hSw; have z0 := (hSw.cell (p := ⟨g, j * 2, none⟩) hgl).trans c0; have z1 := (hSw.cell (p := ⟨g, j * 2 + 1, none⟩) hgl).trans c1; have z2 := (hSw.cell (p := ⟨g, i * 2, none⟩) hgl).trans d0; have z3 := (hSw.cell (p := ⟨g, i * 2 + 1, none⟩) hgl).trans d1; clear hSw; go_simp; try with_reducible rfl)
                      try simp only [Act.put, List.setIfInBounds_toArray, List.set_cons_zero, List.set_cons_succ]
                      refine wpAnyH_take (i := 14) (oi := _) (v := ?_) (by rw [List.getElem?_toArray]; exact rfl) (by kernel_rfl) (by kernel_rfl) (by kernel_rfl) (by exact fun _ _ _ h => h) (Or.inl ⟨by rfl, ?_⟩) hHeld ?_
                      rotate_left
                      · (intro wX hSw; clear hSw; go_simp; try with_reducible rfl)
                      try simp only [Act.put, List.setIfInBounds_toArray, List.set_cons_zero, List.set_cons_succ]
                      refine wpAnyH_take (i := 15) (oi := _) (v := ?_) (by rw [List.getElem?_toArray]; exact rfl) (by kernel_rfl) (by kernel_rfl) (by kernel_rfl) (by exact fun _ _ _ h => h) (Or.inl ⟨by rfl, ?_⟩) hHeld ?_
                      rotate_left
                      · (intro wX hSw; clear hSw; go_simp; try with_reducible rfl)
                      try simp only [Act.put, List.setIfInBounds_toArray, List.set_cons_zero, List.set_cons_succ]
                      refine wpAnyH_take (i := 16) (oi := _) (v := ?_) (by rw [List.getElem?_toArray]; exact rfl) (by kernel_rfl) (by kernel_rfl) (by kernel_rfl) (by exact fun _ _ _ h => h) (Or.inl ⟨by rfl, ?_⟩) hHeld ?_
                      rotate_left
                      · (intro wX hSw; clear hSw; go_simp; try with_reducible rfl)
                      try simp only [Act.put, List.setIfInBounds_toArray, List.set_cons_zero, List.set_cons_succ]
                      refine wpAnyH_take (i := 17) (oi := _) (v := ?_) (by rw [List.getElem?_toArray]; exact rfl) (by kernel_rfl) (by kernel_rfl) (by kernel_rfl) (by exact fun _ _ _ h => h) (Or.inl ⟨by rfl, ?_⟩) hHeld ?_
                      rotate_left
                      · (intro wX hSw; clear hSw; go_simp; try with_reducible rfl)
                      try simp only [Act.put, List.setIfInBounds_toArray, List.set_cons_zero, List.set_cons_succ]
                      refine wpAnyH_take (i := 18) (oi := _) (v := ?_) (by rw [List.getElem?_toArray]; exact rfl) (by kernel_rfl) (by kernel_rfl) (by kernel_rfl) (by exact fun _ _ _ h => h) (Or.inl ⟨by rfl, ?_⟩) hHeld ?_
                      rotate_left
                      · (intro wX hSw; clear hSw; go_simp; try with_reducible rfl)
                      try simp only [Act.put, List.setIfInBounds_toArray, List.set_cons_zero, List.set_cons_succ]
                      refine wpAnyH_take (i := 19) (oi := _) (v := ?_) (by rw [List.getElem?_toArray]; exact rfl) (by kernel_rfl) (by kernel_rfl) (by kernel_rfl) (by exact fun _ _ _ h => h) (Or.inl ⟨by rfl, ?_⟩) hHeld ?_
                      rotate_left
                      · (intro wX hSw; clear hSw; go_simp; try with_reducible rfl)
                      try simp only [Act.put, List.setIfInBounds_toArray, List.set_cons_zero, List.set_cons_succ]
                      refine wpAnyH_take (i := 20) (oi := _) (v := ?_) (by rw [List.getElem?_toArray]; exact rfl) (by kernel_rfl) (by kernel_rfl) (by kernel_rfl) (by exact fun _ _ _ h => h) (Or.inl ⟨by rfl, ?_⟩) hHeld ?_
                      rotate_left
                      · (intro wX hSw; clear hSw; go_simp; try with_reducible rfl)
                      try simp only [Act.put, List.setIfInBounds_toArray, List.set_cons_zero, List.set_cons_succ]
                      refine wpAnyH_take (i := 21) (oi := _) (v := ?_) (by rw [List.getElem?_toArray]; exact rfl) (by kernel_rfl) (by kernel_rfl) (by kernel_rfl) (by exact fun _ _ _ h => h) (Or.inl ⟨by rfl, ?_⟩) hHeld ?_
                      rotate_left
                      · (intro wX hSw; have z0 := (hSw.cell (p := ⟨g, j * 2, none⟩) hgl).trans c0; have z1 := (hSw.cell (p := ⟨g, j * 2 + 1, none⟩) hgl).trans c1; have z2 := (hSw.cell (p := ⟨g, i * 2, none⟩) hgl).trans d0; have z3 := (hSw.cell (p := ⟨g, i * 2 + 1, none⟩) hgl).trans d1; clear hSw; go_simp; try with_reducible rfl)
                      try simp only [Act.put, List.setIfInBounds_toArray, List.set_cons_zero, List.set_cons_succ]
                      refine wpAnyH_take (i := 22) (oi := _) (v := ?_) (by rw [List.getElem?_toArray]; exact rfl) (by kernel_rfl) (by kernel_rfl) (by kernel_rfl) (by exact fun _ _ _ h => h) (Or.inl ⟨by rfl, ?_⟩) hHeld ?_
                      rotate_left
                      · (intro wX hSw; clear hSw; go_simp; try with_reducible rfl)
                      try simp only [Act.put, List.setIfInBounds_toArray, List.set_cons_zero, List.set_cons_succ]
                      refine wpAnyH_take (i := 23) (oi := _) (v := ?_) (by rw [List.getElem?_toArray]; exact rfl) (by kernel_rfl) (by kernel_rfl) (by kernel_rfl) (by exact fun _ _ _ h => h) (Or.inl ⟨by rfl, ?_⟩) hHeld ?_
                      rotate_left
                      · (intro wX hSw; clear hSw; go_simp; try with_reducible rfl)
                      try simp only [Act.put, List.setIfInBounds_toArray, List.set_cons_zero, List.set_cons_succ]
                      refine wpAnyH_take (i := 24) (oi := _) (v := ?_) (by rw [List.getElem?_toArray]; exact rfl) (by kernel_rfl) (by kernel_rfl) (by kernel_rfl) (by exact fun _ _ _ h => h) (Or.inl ⟨by rfl, ?_⟩) hHeld ?_
                      rotate_left
                      · (intro wX hSw; clear hSw; go_simp; try with_reducible rfl)
                      try simp only [Act.put, List.setIfInBounds_toArray, List.set_cons_zero, List.set_cons_succ]
                      refine wpAnyH_take (i := 25) (oi := _) (v := ?_) (by rw [List.getElem?_toArray]; exact rfl) (by kernel_rfl) (by kernel_rfl) (by kernel_rfl) (by exact fun _ _ _ h => h) (Or.inl ⟨by rfl, ?_⟩) hHeld ?_
                      rotate_left
                      · (intro wX hSw; clear hSw; go_simp; try with_reducible rfl)
                      try simp only [Act.put, List.setIfInBounds_toArray, List.set_cons_zero, List.set_cons_succ]
                      refine wpAnyH_take (i := 26) (oi := _) (v := ?_) (by rw [List.getElem?_toArray]; exact rfl) (by kernel_rfl) (by kernel_rfl) (by kernel_rfl) (by exact fun _ _ _ h => h) (Or.inl ⟨by rfl, ?_⟩) hHeld ?_
                      rotate_left
                      · (intro wX hSw; have z0 := (hSw.cell (p := ⟨g, j * 2, none⟩) hgl).trans c0; have z1 := (hSw.cell (p := ⟨g, j * 2 + 1, none⟩) hgl).trans c1; have z2 := (hSw.cell (p := ⟨g, i * 2, none⟩) hgl).trans d0; have z3 := (hSw.cell (p := ⟨g, i * 2 + 1, none⟩) hgl).trans d1; clear hSw; go_simp; try with_reducible rfl)
                      try simp only [Act.put, List.setIfInBounds_toArray, List.set_cons_zero, List.set_cons_succ]
                      refine wpAnyH_take (i := 27) (oi := _) (v := ?_) (by rw [List.getElem?_toArray]; exact rfl) (by kernel_rfl) (by kernel_rfl) (by kernel_rfl) (by exact fun _ _ _ h => h) (Or.inl ⟨by rfl, ?_⟩) hHeld ?_
                      rotate_left
                      · (intro wX hSw; clear hSw; go_simp; try with_reducible rfl)
                      try simp only [Act.put, List.setIfInBounds_toArray, List.set_cons_zero, List.set_cons_succ]
                      refine wpAnyH_take (i := 28) (oi := _) (v := ?_) (by rw [List.getElem?_toArray]; exact rfl) (by kernel_rfl) (by kernel_rfl) (by kernel_rfl) (by exact fun _ _ _ h => h) (Or.inl ⟨by rfl, ?_⟩) hHeld ?_
                      rotate_left
                      · (intro wX hSw; clear hSw; go_simp; try with_reducible rfl)
                      try simp only [Act.put, List.setIfInBounds_toArray, List.set_cons_zero, List.set_cons_succ]
                      refine wpAnyH_take (i := 29) (oi := _) (v := ?_) (by rw [List.getElem?_toArray]; exact rfl) (by kernel_rfl) (by kernel_rfl) (by kernel_rfl) (by exact fun _ _ _ h => h) (Or.inl ⟨by rfl, ?_⟩) hHeld ?_
                      rotate_left
                      · (intro wX hSw; clear hSw; go_simp; try with_reducible rfl)
                      try simp only [Act.put, List.setIfInBounds_toArray, List.set_cons_zero, List.set_cons_succ]
                      refine wpAnyH_take (i := 30) (oi := _) (v := ?_) (by rw [List.getElem?_toArray]; exact rfl) (by kernel_rfl) (by kernel_rfl) (by kernel_rfl) (by exact fun _ _ _ h => h) (Or.inl ⟨by rfl, ?_⟩) hHeld ?_
                      rotate_left
                      · (intro wX hSw; clear hSw; go_simp; try with_reducible rfl)
                      try simp only [Act.put, List.setIfInBounds_toArray, List.set_cons_zero, List.set_cons_succ]
                      refine wpAnyH_take (i := 31) (oi := _) (v := ?_) (by rw [List.getElem?_toArray]; exact rfl) (by kernel_rfl) (by kernel_rfl) (by kernel_rfl) (by exact fun _ _ _ h => h) (Or.inl ⟨by rfl, ?_⟩) hHeld ?_
                      rotate_left
                      · (intro wX hSw; clear hSw; go_simp; try with_reducible rfl)
                      try simp only [Act.put, List.setIfInBounds_toArray, List.set_cons_zero, List.set_cons_succ]
                      refine wpAnyH_take (i := 32) (oi := _) (v := ?_) (by rw [List.getElem?_toArray]; exact rfl) (by kernel_rfl) (by kernel_rfl) (by kernel_rfl) (by exact fun _ _ _ h => h) (Or.inl ⟨by rfl, ?_⟩) hHeld ?_
                      rotate_left
                      · (intro wX hSw; clear hSw; go_simp; try with_reducible rfl)
                      try simp only [Act.put, List.setIfInBounds_toArray, List.set_cons_zero, List.set_cons_succ]
                      refine wpAnyH_take (i := 33) (oi := _) (v := ?_) (by rw [List.getElem?_toArray]; exact rfl) (by kernel_rfl) (by kernel_rfl) (by kernel_rfl) (by exact fun _ _ _ h => h) (Or.inl ⟨by rfl, ?_⟩) hHeld ?_
                      rotate_left
                      · (intro wX hSw; clear hSw; go_simp; try with_reducible rfl)
                      try simp only [Act.put, List.setIfInBounds_toArray, List.set_cons_zero, List.set_cons_succ]
                      refine wpAnyH_take (i := 34) (oi := _) (v := ?_) (by rw [List.getElem?_toArray]; exact rfl) (by kernel_rfl) (by kernel_rfl) (by kernel_rfl) (by exact fun _ _ _ h => h) (Or.inl ⟨by rfl, ?_⟩) hHeld ?_
                      rotate_left
                      · (intro wX hSw; have z0 := (hSw.cell (p := ⟨g, j * 2, none⟩) hgl).trans c0; have z1 := (hSw.cell (p := ⟨g, j * 2 + 1, none⟩) hgl).trans c1; have z2 := (hSw.cell (p := ⟨g, i * 2, none⟩) hgl).trans d0; have z3 := (hSw.cell (p := ⟨g, i * 2 + 1, none⟩) hgl).trans d1; clear hSw; go_simp; try with_reducible rfl)
                      try simp only [Act.put, List.setIfInBounds_toArray, List.set_cons_zero, List.set_cons_succ]
                      refine wpAnyH_take (i := 35) (oi := _) (v := ?_) (by rw [List.getElem?_toArray]; exact rfl) (by kernel_rfl) (by kernel_rfl) (by kernel_rfl) (by exact fun _ _ _ h => h) (Or.inl ⟨by rfl, ?_⟩) hHeld ?_
                      rotate_left
                      · (intro wX hSw; clear hSw; go_simp; try with_reducible rfl)
                      try simp only [Act.put, List.setIfInBounds_toArray, List.set_cons_zero, List.set_cons_succ]
                      refine wpAnyH_take (i := 36) (oi := _) (v := ?_) (by rw [List.getElem?_toArray]; exact rfl) (by kernel_rfl) (by kernel_rfl) (by kernel_rfl) (by exact fun _ _ _ h => h) (Or.inl ⟨by rfl, ?_⟩) hHeld ?_
                      rotate_left
                      · (intro wX hSw; clear hSw; go_simp; try with_reducible rfl)
                      try simp only [Act.put, List.setIfInBounds_toArray, List.set_cons_zero, List.set_cons_succ]
                      refine wpAnyH_take (i := 37) (oi := _) (v := ?_) (by rw [List.getElem?_toArray]; exact rfl) (by kernel_rfl) (by kernel_rfl) (by kernel_rfl) (by exact fun _ _ _ h => h) (Or.inl ⟨by rfl, ?_⟩) hHeld ?_
                      rotate_left
                      · (intro wX hSw; clear hSw; go_simp; try with_reducible rfl)
                      try simp only [Act.put, List.setIfInBounds_toArray, List.set_cons_zero, List.set_cons_succ]
                      refine wpAnyH_take (i := 38) (oi := _) (v := ?_) (by rw [List.getElem?_toArray]; exact rfl) (by kernel_rfl) (by kernel_rfl) (by kernel_rfl) (by exact fun _ _ _ h => h) (Or.inl ⟨by rfl, ?_⟩) hHeld ?_
                      rotate_left
                      · (intro wX hSw; clear hSw; go_simp; try with_reducible rfl)
                      try simp only [Act.put, List.setIfInBounds_toArray, List.set_cons_zero, List.set_cons_succ]
                      refine wpAnyH_take (i := 39) (oi := _) (v := ?_) (by rw [List.getElem?_toArray]; exact rfl) (by kernel_rfl) (by kernel_rfl) (by kernel_rfl) (by exact fun _ _ _ h => h) (Or.inl ⟨by rfl, ?_⟩) hHeld ?_
                      rotate_left
                      · (intro wX hSw; have z0 := (hSw.cell (p := ⟨g, j * 2, none⟩) hgl).trans c0; have z1 := (hSw.cell (p := ⟨g, j * 2 + 1, none⟩) hgl).trans c1; have z2 := (hSw.cell (p := ⟨g, i * 2, none⟩) hgl).trans d0; have z3 := (hSw.cell (p := ⟨g, i * 2 + 1, none⟩) hgl).trans d1; clear hSw; go_simp; try with_reducible rfl)
                      try simp only [Act.put, List.setIfInBounds_toArray, List.set_cons_zero, List.set_cons_succ]
                      refine wpAnyH_take (i := 40) (oi := _) (v := ?_) (by rw [List.getElem?_toArray]; exact rfl) (by kernel_rfl) (by kernel_rfl) (by kernel_rfl) (by exact fun _ _ _ h => h) (Or.inl ⟨by rfl, ?_⟩) hHeld ?_
                      rotate_left
                      · (intro wX hSw; clear hSw; go_simp; try with_reducible rfl)
                      try simp only [Act.put, List.setIfInBounds_toArray, List.set_cons_zero, List.set_cons_succ]
                      refine wpAnyH_take (i := 41) (oi := _) (v := ?_) (by rw [List.getElem?_toArray]; exact rfl) (by kernel_rfl) (by kernel_rfl) (by kernel_rfl) (by exact fun _ _ _ h => h) (Or.inl ⟨by rfl, ?_⟩) hHeld ?_
                      rotate_left
                      · (intro wX hSw; clear hSw; go_simp; try with_reducible rfl)
                      try simp only [Act.put, List.setIfInBounds_toArray, List.set_cons_zero, List.set_cons_succ]
                      refine wpAnyH_take (i := 42) (oi := _) (v := ?_) (by rw [List.getElem?_toArray]; exact rfl) (by kernel_rfl) (by kernel_rfl) (by kernel_rfl) (by exact fun _ _ _ h => h) (Or.inl ⟨by rfl, ?_⟩) hHeld ?_
                      rotate_left
                      · (intro wX hSw; clear hSw; go_simp; try with_reducible rfl)
                      try simp only [Act.put, List.setIfInBounds_toArray, List.set_cons_zero, List.set_cons_succ]
                      refine wpAnyH_take (i := 43) (oi := _) (v := ?_) (by rw [List.getElem?_toArray]; exact rfl) (by kernel_rfl) (by kernel_rfl) (by kernel_rfl) (by exact fun _ _ _ h => h) (Or.inl ⟨by rfl, ?_⟩) hHeld ?_
                      rotate_left
                      · (intro wX hSw; clear hSw; go_simp; try with_reducible rfl)
                      try simp only [Act.put, List.setIfInBounds_toArray, List.set_cons_zero, List.set_cons_succ]
                      refine wpAnyH_done (by kernel_rfl) ?_ _
                      clear hHeld hgl
                      have hBd : Below w5.heap.size w5 w5.drew := (Below.refl _ _).drew
                      have HCd := Lib.hid (HC.out.below hBd)
                      have HWd := Lib.hid (own_below HW.out hBd)
                      replace c0 : (w5.drew).cell? ⟨g, j * 2, none⟩ = some (.string x.k) := c0
                      clear hBd HC HW HQX c1
                      obtain ⟨wd, hwd⟩ : ∃ t, w5.drew = t := ⟨_, rfl⟩
                      rw [hwd] at HCd HWd c0 ⊢
                      clear hwd
                      obtain ⟨w4', hdl, hM4, hO4, _⟩ := HCd.out.mp.delete (P := Try.prog) S.nameTy Try.underlying49 x.k 0
                      have hdl0 : (Builtin.delete_ #[MapT, 9] 0 #[.map (some km), .string x.k]).run Try.prog wd = .ok (.tuple #[]) w4' := hdl
                      have H4' := Lib.hid (HCd.out.put hM4 hO4)
                      have HW4 := Lib.hid (own_only HWd.out HCd.out.mp hO4)
                      clear hdl hM4 hO4 HCd HWd
                      go_wp2_with (at_builtin; refine wpList_del rfl _ _ _ _ rfl rfl rfl hdl0 ?_)
                      refine Handed.intro (go1 - 1) (by omega) (hJ5 _ _ _ ?_)
                      exact ⟨j + 1, S.delL M1 x.k, by rw [HDN.out]; omega, H4'.out, HRN.out, HW4.out, ⟨rfl, rfl, rfl, rfl, rfl, rfl⟩, rfl, rfl, by go_num⟩
                · have hje : ¬ j < DN := hjl
                  go_wp2_with fail
                  refine Met.intro (hJ2 _ _ ?_)
                  exact ⟨rv4, L', now', M1, ⟨HC.out, by have := HR.out; rwa [List.drop_of_length_le (by rw [HDN.out]; omega), List.nil_append] at this, HLT.out, HNB.out.1, HNB.out.2⟩, rfl, rfl, rfl, rfl, rfl, rfl⟩
            · have hEb : (tickE now s.2.2.2 != 0) = true := by simpa using hE
              have hD0 : D = [] := by have := HDD.out; unfold tickO at this; rw [if_neg hE] at this; exact this.symm
              subst hD0
              have h4 := H4.out
              unfold tickL tickC at h4
              rw [if_neg hE, if_neg hE] at h4
              have H5 := Lib.hid h4
              clear h4 H4 hE HDD HW
              generalize tickE now s.2.2.2 = E at *
              obtain ⟨lx, hqx, _⟩ := H5.out.t.tms
              have HQX := Lib.hid hqx
              clear hqx
              have hnn : (now != now) = false := by simp
              go_wp2_with fail
              refine (now_any HQX.out).mono ?_
              rintro e w5 ⟨rfl, rfl⟩
              go_wp2_with fail
              refine Met.intro (hJ2 _ _ ?_)
              exact ⟨rv4, L, now, M, ⟨H5.out, HS.out.rm, HS.out.late, HS.out.n0, HS.out.n1⟩, rfl, rfl, rfl, rfl, rfl, rfl⟩
          have b2 : (s.1 == 2) = false := by rw [beq_eq_false_iff_ne]; exact h2
          clear h2
          go_wp2_with fail
          refine Met.intro (hJ2 _ _ ?_)
          exact ⟨rv, L, now, M, HS.out, rfl, rfl, rfl, rfl, rfl, rfl⟩
        case rest =>
          clear hbx HS
          rintro ⟨ts2, ds2⟩ wc ⟨rv, L, now, M, hO, hd2, hts2, f0, f3, f4, f5⟩
          have HO := Lib.hid hO
          clear hO
          simp only at hd2 hts2 f0 f3 f4 f5
          subst hd2
          rw [frame_lit233 hts2, f0, f3, f4, f5]
          clear f0 f3 f4 f5
          go_wp2_with fail
          refine (all_any HO.out.c.t.tms).mono ?_
          rintro e w4 ⟨av, rfl, ho, hB⟩
          obtain ⟨K, hK⟩ : ∃ K, keyL L = K := ⟨_, rfl⟩
          have hKp := keyL_perm L
          rw [hK] at ho hKp
          have HKP := Lib.hid hKp
          have hKl : K.length = M.length := by rw [hKp.length_eq, HO.out.rm.len HO.out.c.srt.2.1]
          have hK1 : K.length ≤ 1024 := by have := HO.out.c.srt.2.2; rw [hKp.length_eq]; exact this
          obtain ⟨aa, ac, rfl⟩ := own_slice ho
          have H4 := Lib.hid (HO.out.c.below hB)
          have hml := H4.out.mp.len (P := Try.prog) Try.underlying49 3
          rw [← hKl] at hml
          have hneq : ((K.length : Int) != (K.length : Int)) = false := by simp
          clear hB hK hKp hKl
          obtain ⟨KN, hKN⟩ : ∃ n, K.length = n := ⟨_, rfl⟩
          have HW := Lib.hid (show w4.ownsRow wc.heap.size TmT 2 (.slice aa KN ac) K.length (K.flatMap encT) from by rw [hKN] at ho ⊢; exact ho)
          clear ho
          rw [hKN] at hml hneq hK1
          have HKN := Lib.hid hKN
          rw [hKN]
          clear hKN
          go_wp2_with fail
          refine wp_loop_ghost_k (AlO w1 (.slice (some ⟨bs, off, none⟩) l.length vc) (.slice aa KN ac) b km k rv K L now M wc.heap.size) KN ?atStartA ?roundA
          case atStartA => exact ⟨0, by rw [HKN.out]; omega, H4.out, HW.out, ⟨rfl, rfl, rfl, rfl, rfl, rfl⟩, rfl, rfl⟩
          case roundA =>
            clear H4 HW hml
            rintro go1 ⟨ts1, ds1⟩ wr1 ⟨j, hj, hC, hw, ⟨hd1, hts1, f0, f3, f4, f5⟩, f16, f17⟩ J5 K5 hJ5 hK5
            have HC := Lib.hid hC
            have HW := Lib.hid hw
            clear hC hw
            simp only at hd1 hts1 f0 f3 f4 f5 f16 f17
            subst hd1
            rw [frame_lit233 hts1, f0, f3, f4, f5, f16, f17]
            clear f0 f3 f4 f5 f16 f17
            rw [HKN.out] at hj
            by_cases hjl : j < KN
            · have hjk : j < K.length := by rw [HKN.out]; exact hjl
              obtain ⟨g, hg⟩ : ∃ g, aa = some ⟨g, 0, none⟩ := by
                obtain ⟨_, ⟨hv, h0⟩ | ⟨g, c', cur, hv, _⟩⟩ := HW.out
                · omega
                · injection hv with e1 _ _
                  exact ⟨g, e1⟩
              subst hg
              have hww := HW.out
              rw [HKN.out] at hww
              obtain ⟨c0, c1⟩ := tm_at hww HKN.out hjk
              have hxL : K[j] ∈ L := HKP.out.subset (List.getElem_mem hjk)
              have hget := HO.out.rm.get _ hxL
              have hlate := HO.out.late _ hxL
              generalize K[j] = x at *
              have hlk := map_look HC.out.mp x.k
              rw [hget] at hlk
              simp only [Option.getD_some, Option.isSome_some] at hlk
              have hne : (x.a != x.a) = false := by simp
              have hlq : ¬ x.a ≤ now := by omega
              obtain ⟨lx, hqx, _⟩ := HC.out.t.tms
              have HQX := Lib.hid hqx
              clear hww hxL hget hlate hqx
              go_wp2_with fail
              refine (now_any HQX.out).mono ?_
              rintro e w5 ⟨rfl, rfl⟩
              go_wp2_with fail
              refine Handed.intro (go1 - 1) (by omega) (hJ5 _ _ _ ?_)
              exact ⟨j + 1, by rw [HKN.out]; omega, HC.out, HW.out, ⟨rfl, rfl, rfl, rfl, rfl, rfl⟩, rfl, by go_num⟩
            · go_wp2_with fail
              refine Handed.intro (go0 - 1) (by omega) (hJ9 _ _ _ ?_)
              exact ⟨k + 1, rv, L, now, M, by omega, ⟨HC.out, HO.out.rm, HO.out.late, HO.out.n0, HO.out.n1⟩, rfl, rfl, rfl, rfl, rfl, by go_num⟩
      · have hke : ¬ k < l.length := hkl
        go_wp2_with fail
        refine (works_any _).mono ?_
        rintro e w11 ⟨rfl, hB⟩
        have HB11 := Lib.hid (gthen (gthen HB1.out HO.out.c.t.low) hB)
        clear hB
        go_wp2_with fail
        go_ret
        exact ⟨rfl, HB11.out⟩
  · clear hhv
    go_wp2_with fail
    refine (works_any _).mono ?_
    rintro e w7 ⟨rfl, hB⟩
    have HB7 := Lib.hid (gthen HB1.out hB)
    clear hB
    go_wp2_with fail
    go_ret
    exact ⟨rfl, HB7.out⟩
end Go.Proofs.Yteladooegjgdnaa
