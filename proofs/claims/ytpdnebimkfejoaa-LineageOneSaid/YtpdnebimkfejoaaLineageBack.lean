/- LineageBack: its walk. -/
import Derived.Test.YtpdnebimkfejoaaTwo25
import Derived.Test.YtpdnebimkfejoaaLineageNone
import Derived.StillTailTactics
namespace Go.Proofs.Ytpdnebimkfejoaa
open Go.RowKit Go.Sort Go.Lib
set_option linter.unusedVariables false
set_option linter.unusedSimpArgs false

def Fresh (A : Al) : Prop := OkU A ∧ ∀ p ∈ A, p.2.st = 1 ∧ p.2.wk = 0 ∧ p.2.ep = 0
theorem fresh_nil : Fresh [] := ⟨(by intro p hp; cases hp), (by intro p hp; cases hp)⟩
theorem fresh_add {A : Al} {n : Nm} {fn fuel : Int} {l : List Int} (h : Fresh A) : Fresh (addA A n ⟨fn, none, 0, l, fuel, 1, 0, 0⟩) := by
  refine ⟨okU_add h.1, ?_⟩
  unfold addA
  split
  · intro p hp
    rcases List.mem_append.1 hp with hp | hp
    · exact h.2 p hp
    · rw [List.mem_singleton] at hp; subst hp; exact ⟨rfl, rfl, rfl⟩
  · exact h.2
theorem fresh_drop {A : Al} {js : List Int} (h : Fresh A) : Fresh (dropA A js) := ⟨okU_drop h.1, fun p hp => h.2 p (List.mem_filter.1 hp).1⟩
def BkI (w : World) (f m f2 m2 : Nat) (wr : World) : Prop := ∃ A, TwoA w f m f2 m2 A [] wr ∧ Fresh A
set_option maxHeartbeats 16000000 in
set_option maxRecDepth 100000 in
theorem back_any (v : Value) (l : List Stp) (w0 : World) (hv : ReadsK encS 10 w0 v l) (hz : ∀ s ∈ l, StpZ s) (ht : ∀ s ∈ l, TskOk w0 s.t) (hl : (l.length : Int) ≤ 9223372036854775807) :
    Calls Try.prog 3 #[v] w0 fun e w' => e = .returned (.bool true) ∧ Below w0.heap.size w0 w' := by
  obtain ⟨a, cap, rfl⟩ := hv.slice
  have HV := Lib.hid hv
  have HZ := Lib.hid hz
  have HT := Lib.hid ht
  clear hv hz ht
  go_enter Try.func3, Try.ntmps3
  go_wp2_with fail
  refine (heavy_any _ l w0 HV.out hl HZ.out HT.out).mono ?_
  rintro e w ⟨b, rfl, hB0, hb⟩
  cases b
  · obtain ⟨hl2, hz2⟩ := hb rfl
    have HV1 := Lib.hid (HV.out.below hB0)
    have HT1 := Lib.hid (fun s hs => (show TskOk w s.t from ⟨(HT.out s hs).1.below hB0, (HT.out s hs).2⟩))
    have HZ2 := Lib.hid hz2
    have HB0 := Lib.hid hB0
    clear hb hB0 HV HT HZ hl hz2
    go_wp2_with fail
    refine (lt_new w).mono ?_
    rintro e w1 ⟨f, m, rfl, hL1, hB1⟩
    have HL1 := Lib.hid hL1
    have HB1 := Lib.hid hB1
    clear hL1 hB1
    go_wp2_with fail
    refine (lt_new w1).mono ?_
    rintro e w2 ⟨f2, m2, rfl, hL2, hB2⟩
    have HT0 : Hid (BkI w f m f2 m2 w2) := ⟨[], ta_new HL1.out HB1.out hL2 hB2, fresh_nil⟩
    clear hL2 hB2 HL1 HB1
    go_wp2_with fail
    go_loopg [5] l.length (fun gk i wr => ∃ k : Nat, gk + k = l.length ∧ i = .int .i64 k ∧ BkI w f m f2 m2 wr)
    case atStart => exact ⟨0, by omega, rfl, HT0.out⟩
    case round =>
      clear HT0
      obtain ⟨k, hk, rfl, A, hTA, hF⟩ := hrel
      have HTA := Lib.hid hTA
      have HF := Lib.hid hF
      clear hTA hF
      by_cases hlt : k < l.length
      · obtain ⟨b, off, c, he, hb, hc⟩ := HV1.out.at (by omega)
        injection he with he1 he2 he3
        subst he1
        have HX := Lib.hid (HZ2.out _ (List.getElem_mem hlt))
        have HXT := Lib.hid (HT1.out _ (List.getElem_mem hlt))
        have hcc := hc k hlt
        clear hc he2 he3
        generalize l[k] = x at hcc HX HXT
        obtain ⟨ta, tc, hs4⟩ := HXT.out.1.slice
        have HC := Lib.hid (show w.cell? ⟨b, off + k * 10, none⟩ = some (.int .i64 x.op) ∧ w.cell? ⟨b, off + k * 10 + 1, none⟩ = some (.int .u64 x.n.1) ∧ w.cell? ⟨b, off + k * 10 + 3, none⟩ = some (.string x.t.p) ∧ w.cell? ⟨b, off + k * 10 + 3 + 1, none⟩ = some (.int .i64 x.t.fn) ∧ w.cell? ⟨b, off + k * 10 + 3 + 2, none⟩ = some (.slice ta x.t.args.length tc) ∧ w.cell? ⟨b, off + k * 10 + 3 + 3, none⟩ = some (.int .i64 x.t.fuel) from ⟨hcc 0 _ rfl, hcc 1 _ rfl, hcc 3 _ rfl, hcc 4 _ rfl, hs4 ▸ hcc 5 _ rfl, hcc 6 _ rfl⟩)
        have HXR := Lib.hid (show ReadsK encI 1 w (.slice ta x.t.args.length tc) x.t.args from hs4 ▸ HXT.out.1)
        have hxt : x.t.args.length ≤ 8192 := by have := HX.out; unfold totS at this; omega
        have hxp : x.t.p.size ≤ 8192 := by have := HX.out; unfold totS at this; omega
        have r0 : wr.cell? ⟨b, off + k * 10, none⟩ = some (.int .i64 x.op) := cell_keepL (HTA.out.fst.low) HC.out.1
        have hbl := hb
        clear hcc hs4 hb
        by_cases h0 : x.op = 0
        · have hb0 : (x.op == 0) = true := by simp [h0]
          clear h0
          go_upto_region 11 with fail
          have HRD := Lib.hid (show ReadsK encI 1 wr.drew (.slice ta x.t.args.length tc) x.t.args from HXR.out.below (HTA.out.fst.low.drew))
          have hlow0 := HTA.out.fst.low.drew
          clear r0
          refine wp_region_held_drew (S := fun y => Below w.heap.size w y) (by kernel_rfl) (hlow0) (fun hHeld => ?_)
          refine wpAnyH_take (i := 0) (oi := _) (v := ?_) (by rw [List.getElem?_toArray]; exact rfl) (by kernel_rfl) (by kernel_rfl) (by kernel_rfl) (by exact fun _ _ _ h => h) (Or.inl ⟨by rfl, ?_⟩) hHeld ?_
          rotate_left
          · (intro wX hSw; clear hSw; go_simp; try with_reducible rfl)
          try simp only [Act.put, List.setIfInBounds_toArray, List.set_cons_zero, List.set_cons_succ]
          refine wpAnyH_take (i := 1) (oi := _) (v := ?_) (by rw [List.getElem?_toArray]; exact rfl) (by kernel_rfl) (by kernel_rfl) (by kernel_rfl) (by exact fun _ _ _ h => h) (Or.inl ⟨by rfl, ?_⟩) hHeld ?_
          rotate_left
          · (intro wX hSw; clear hSw; go_simp; try with_reducible rfl)
          try simp only [Act.put, List.setIfInBounds_toArray, List.set_cons_zero, List.set_cons_succ]
          refine wpAnyH_take (i := 2) (oi := _) (v := ?_) (by rw [List.getElem?_toArray]; exact rfl) (by kernel_rfl) (by kernel_rfl) (by kernel_rfl) (by exact fun _ _ _ h => h) (Or.inl ⟨by rfl, ?_⟩) hHeld ?_
          rotate_left
          · (intro wX hSw; clear hSw; go_simp; try with_reducible rfl)
          try simp only [Act.put, List.setIfInBounds_toArray, List.set_cons_zero, List.set_cons_succ]
          refine wpAnyH_take (i := 3) (oi := _) (v := ?_) (by rw [List.getElem?_toArray]; exact rfl) (by kernel_rfl) (by kernel_rfl) (by kernel_rfl) (by exact fun _ _ _ h => h) (Or.inl ⟨by rfl, ?_⟩) hHeld ?_
          rotate_left
          · (intro wX hSw; clear hSw; go_simp; try with_reducible rfl)
          try simp only [Act.put, List.setIfInBounds_toArray, List.set_cons_zero, List.set_cons_succ]
          refine wpAnyH_take (i := 4) (oi := _) (v := ?_) (by rw [List.getElem?_toArray]; exact rfl) (by kernel_rfl) (by kernel_rfl) (by kernel_rfl) (by exact fun _ _ _ h => h) (Or.inl ⟨by rfl, ?_⟩) hHeld ?_
          rotate_left
          · (intro wX hSw; clear hSw; go_simp; try with_reducible rfl)
          try simp only [Act.put, List.setIfInBounds_toArray, List.set_cons_zero, List.set_cons_succ]
          refine wpAnyH_take (i := 5) (oi := _) (v := ?_) (by rw [List.getElem?_toArray]; exact rfl) (by kernel_rfl) (by kernel_rfl) (by kernel_rfl) (by exact fun _ _ _ h => h) (Or.inl ⟨by rfl, ?_⟩) hHeld ?_
          rotate_left
          · (intro wX hSw; clear hSw; go_simp; try with_reducible rfl)
          try simp only [Act.put, List.setIfInBounds_toArray, List.set_cons_zero, List.set_cons_succ]
          refine wpAnyH_take (i := 6) (oi := _) (v := ?_) (by rw [List.getElem?_toArray]; exact rfl) (by kernel_rfl) (by kernel_rfl) (by kernel_rfl) (by exact fun _ _ _ h => h) (Or.inl ⟨by rfl, ?_⟩) hHeld ?_
          rotate_left
          · (intro wX hSw; obtain ⟨_, z1, z2, z3, z4, z5⟩ := HC.out; have y1 := cell_low hSw hbl z1; have y2 := cell_low hSw hbl z2; have y3 := cell_low hSw hbl z3; have y4 := cell_low hSw hbl z4; have y5 := cell_low hSw hbl z5; clear hSw z1 z2 z3 z4 z5; go_simp; try with_reducible rfl)
          try simp only [Act.put, List.setIfInBounds_toArray, List.set_cons_zero, List.set_cons_succ]
          refine wpAnyH_take (i := 7) (oi := _) (v := ?_) (by rw [List.getElem?_toArray]; exact rfl) (by kernel_rfl) (by kernel_rfl) (by kernel_rfl) (by exact fun _ _ _ h => h) (Or.inl ⟨by rfl, ?_⟩) hHeld ?_
          rotate_left
          · (intro wX hSw; clear hSw; go_simp; try with_reducible rfl)
          try simp only [Act.put, List.setIfInBounds_toArray, List.set_cons_zero, List.set_cons_succ]
          refine wpAnyH_take (i := 8) (oi := _) (v := ?_) (by rw [List.getElem?_toArray]; exact rfl) (by kernel_rfl) (by kernel_rfl) (by kernel_rfl) (by exact fun _ _ _ h => h) (Or.inl ⟨by rfl, ?_⟩) hHeld ?_
          rotate_left
          · (intro wX hSw; clear hSw; go_simp; try with_reducible rfl)
          try simp only [Act.put, List.setIfInBounds_toArray, List.set_cons_zero, List.set_cons_succ]
          refine wpAnyH_take (i := 9) (oi := _) (v := ?_) (by rw [List.getElem?_toArray]; exact rfl) (by kernel_rfl) (by kernel_rfl) (by kernel_rfl) (by exact fun _ _ _ h => h) (Or.inl ⟨by rfl, ?_⟩) hHeld ?_
          rotate_left
          · (intro wX hSw; clear hSw; go_simp; try with_reducible rfl)
          try simp only [Act.put, List.setIfInBounds_toArray, List.set_cons_zero, List.set_cons_succ]
          refine wpAnyH_take (i := 10) (oi := _) (v := ?_) (by rw [List.getElem?_toArray]; exact rfl) (by kernel_rfl) (by kernel_rfl) (by kernel_rfl) (by exact fun _ _ _ h => h) (Or.inl ⟨by rfl, ?_⟩) hHeld ?_
          rotate_left
          · (intro wX hSw; clear hSw; go_simp; try with_reducible rfl)
          try simp only [Act.put, List.setIfInBounds_toArray, List.set_cons_zero, List.set_cons_succ]
          refine wpAnyH_take (i := 11) (oi := _) (v := ?_) (by rw [List.getElem?_toArray]; exact rfl) (by kernel_rfl) (by kernel_rfl) (by kernel_rfl) (by exact fun _ _ _ h => h) (Or.inl ⟨by rfl, ?_⟩) hHeld ?_
          rotate_left
          · (intro wX hSw; obtain ⟨_, z1, z2, z3, z4, z5⟩ := HC.out; have y1 := cell_low hSw hbl z1; have y2 := cell_low hSw hbl z2; have y3 := cell_low hSw hbl z3; have y4 := cell_low hSw hbl z4; have y5 := cell_low hSw hbl z5; clear hSw z1 z2 z3 z4 z5; go_simp; try with_reducible rfl)
          try simp only [Act.put, List.setIfInBounds_toArray, List.set_cons_zero, List.set_cons_succ]
          refine wpAnyH_ready (rs := [12]) (by kernel_rfl) (by simp) ?_
          refine AllReadyH.cons (o := _) (by rw [List.getElem?_toArray]; exact rfl) (fun K hK => ?_) ?_
          · go_simp
            refine (ownL_any x.t.p x.t.fn x.t.fuel _ x.t.args _ HRD.out (by omega)).mono ?_; rintro e wc ⟨oa, oc, rfl, ho, hB⟩; have HO := Lib.hid (show ReadsK encI 1 wc (.slice oa x.t.args.length oc) x.t.args from own_readsK (enc := encI) (k := 1) (fun _ => rfl) (by decide) ho); have HTC := Lib.hid (HTA.out.below (gdrew hB)); clear ho
            go_wp2_with fail
            refine hK.out _ _ (hHeld.trans (hB.mono hHeld.size)) (fun hHeld => ?_)
            clear hK K
            try simp only [Act.put, List.setIfInBounds_toArray, List.set_cons_zero, List.set_cons_succ]
            refine wpAnyH_ready (rs := [13]) (by kernel_rfl) (by simp) ?_
            refine AllReadyH.cons (o := _) (by rw [List.getElem?_toArray]; exact rfl) (fun K hK => ?_) ?_
            · go_simp
              refine (ta_add HTC.out x.n.1 x.t.p x.t.fn x.t.fuel _ x.t.args HO.out hxt (by omega)).mono ?_; rintro e w3 ⟨rfl, hT3, _⟩; have HT3 : Hid (BkI w f m f2 m2 w3) := ⟨_, hT3, fresh_add HF.out⟩; have hlow := hT3.fst.low; clear hT3
              go_wp2_with fail
              refine hK.out _ _ (hlow) (fun hHeld => ?_)
              clear hK K
              try simp only [Act.put, List.setIfInBounds_toArray, List.set_cons_zero, List.set_cons_succ]
              refine wpAnyH_done (by kernel_rfl) ?_ _
              clear hHeld hlow
              go_wp2_with fail
              go_roundg (gk - 1)
              case rel => exact ⟨k + 1, by omega, by go_num, HT3.out⟩
              case measure => omega
            exact AllReadyH.nil
          exact AllReadyH.nil
        · by_cases h4 : x.op = 4
          · have hb0 : (x.op == 0) = false := by simpa using h0
            have hb4 : (x.op == 4) = true := by simp [h4]
            have r1 : wr.cell? ⟨b, off + k * 10 + 1, none⟩ = some (.int .u64 x.n.1) := cell_keepL (HTA.out.fst.low) HC.out.2.1
            clear h0 h4
            go_wp2_with fail
            have hA2 : Below wr.heap.size wr (wr.alloc (.cells #[.int .u64 x.n.1] 27)) := (Below.refl _ _).alloc (Nat.le_refl _) _
            refine (ta_drop (HTA.out.below hA2) _ [x.n.1] (reads_u1 wr x.n.1 27) (by simp)).mono ?_
            rintro e w3 ⟨⟨i, rfl⟩, hT3, _⟩
            have HT3 : Hid (BkI w f m f2 m2 w3) := ⟨_, hT3, fresh_drop HF.out⟩
            clear hT3 hA2 r0 r1
            go_wp2_with fail
            go_roundg (gk - 1)
            case rel => exact ⟨k + 1, by omega, by go_num, HT3.out⟩
            case measure => omega
          · have hb0 : (x.op == 0) = false := by simpa using h0
            have hb4 : (x.op == 4) = false := by simpa using h4
            have HT3 : Hid (BkI w f m f2 m2 wr) := ⟨_, HTA.out, HF.out⟩
            clear h0 h4
            go_wp2_with fail
            go_roundg (gk - 1)
            case rel => exact ⟨k + 1, by omega, by go_num, HT3.out⟩
            case measure => omega
      · have hnd := HTA.out.fst.nd
        have hokA := HTA.out.fst.ok
        have hszA := HTA.out.fst.len
        have hcor := HTA.out.cores
        have HW := Lib.hid (show ∀ p ∈ A, (⟨p.2.fn, none, 0, p.2.args, p.2.fuel, 1, 0, 0⟩ : Rw) = p.2 from fun p hp => by
          have h1 := hcor p hp
          obtain ⟨h2, h3, h4⟩ := HF.out.2 p hp
          rw [← h1]
          show (⟨p.2.fn, none, 0, p.2.args, p.2.fuel, 1, 0, 0⟩ : Rw) = ⟨p.2.fn, none, 0, p.2.args, p.2.fuel, p.2.st, p.2.wk, p.2.ep⟩
          rw [h2, h3, h4])
        have HRB := Lib.hid (fun k hk => rebuilt hnd HF.out.1 (fun p hp => (hokA p hp).1) hszA k hk)
        have HND := Lib.hid hnd
        have HOKA := Lib.hid hokA
        have HSP := Lib.hid (sortV_perm A)
        have hslen := (sortV_perm A).length_eq
        clear hnd hokA hcor
        go_wp2_with fail
        refine (lt_rows HTA.out.fst).mono ?_
        rintro e w3 ⟨v, S, rfl, ho, hS, ha, hB⟩
        have hSl : S.length = (sortV A).length := by have := congrArg List.length hS; simpa using this
        have hS10 : S.length ≤ 1024 := by omega
        have HS := Lib.hid hS
        have HSL := Lib.hid hSl
        have HO := Lib.hid ho
        have HA := Lib.hid ha
        have HT3 := Lib.hid (HTA.out.below hB)
        obtain ⟨va, vc, rfl⟩ := (own_readsK (enc := encT) (k := 9) encT_len (by decide) ho).slice
        clear ho ha hS hSl hB HTA hslen hszA
        go_wp2_with fail
        go_loopg [7] S.length (fun gk i wr => ∃ k : Nat, gk + k = S.length ∧ i = .int .i64 k ∧ TwoA w f m f2 m2 A ((sortV A).take k) wr ∧ Kept w3 wr)
        case atStart => exact ⟨0, by omega, rfl, by rw [List.take_zero]; exact HT3.out, Kept.refl _⟩
        case round =>
          clear HT3
          obtain ⟨k, hk, rfl, hTA, hK⟩ := hrel
          have HTA := Lib.hid hTA
          have HK := Lib.hid hK
          clear hTA hK
          by_cases hlt : k < S.length
          · obtain ⟨b, off, c, he, hb, hc⟩ := (own_readsK (enc := encT) (k := 9) encT_len (by decide) (own_kept HO.out (by decide) HK.out)).at (by omega)
            injection he with he1 he2 he3
            subst he1
            have hlt2 : k < (sortV A).length := by rw [← HSL.out]; exact hlt
            have hcq := hc k hlt
            have haq := args_kept (HA.out _ (List.getElem_mem hlt)) HK.out
            have hq : coreP S[k] = (sortV A)[k] := by
              have h1 : (S.map coreP)[k]? = (sortV A)[k]? := by rw [HS.out]
              rw [List.getElem?_map, List.getElem?_eq_getElem hlt, List.getElem?_eq_getElem hlt2] at h1
              simpa using h1
            have hmem : (sortV A)[k] ∈ A := HSP.out.mem_iff.1 (List.getElem_mem hlt2)
            have hz0 := HRB.out k hlt2
            have hww := HW.out _ hmem
            have hok1 := HOKA.out _ hmem
            have htk : (sortV A).take (k + 1) = (sortV A).take k ++ [(sortV A)[k]] := List.take_succ_eq_append_getElem hlt2
            rw [← hq] at hz0 hww hok1 htk
            generalize S[k] = q at *
            have HZ0 := Lib.hid (show addEA ((sortV A).take k) (q.1.1, q.1.2) = 0 from hz0)
            have HTK := Lib.hid (show addA ((sortV A).take k) (q.1.1, q.1.2) ⟨q.2.fn, none, 0, q.2.args, q.2.fuel, 1, 0, 0⟩ = (sortV A).take (k + 1) by
              unfold addA
              rw [if_pos HZ0.out, htk]
              have : (⟨q.2.fn, none, 0, q.2.args, q.2.fuel, 1, 0, 0⟩ : Rw) = core q.2 := hww
              rw [this]; rfl)
            have HAQ := Lib.hid (show ArgsR wr.drew q.2 from argsB_reads haq)
            have hal : q.2.args.length ≤ 8192 := hok1.2
            have hpz := may_size hok1.1
            have hps : q.1.2.size ≤ 9223372036854775807 := hpz
            have k0 : wr.cell? ⟨b, off + k * 9, none⟩ = some (.int .u64 q.1.1) := hcq 0 _ rfl
            have k2 : wr.cell? ⟨b, off + k * 9 + 2, none⟩ = some (.string q.1.2) := hcq 2 _ rfl
            have k3 : wr.cell? ⟨b, off + k * 9 + 2 + 1, none⟩ = some (.int .i64 q.2.fn) := hcq 3 _ rfl
            have k4 : wr.cell? ⟨b, off + k * 9 + 2 + 2, none⟩ = some (.slice q.2.aa q.2.args.length q.2.ac) := hcq 4 _ rfl
            have k5 : wr.cell? ⟨b, off + k * 9 + 2 + 3, none⟩ = some (.int .i64 q.2.fuel) := hcq 5 _ rfl
            have HT4 := Lib.hid (HTA.out.below ((Below.refl _ _).drew))
            clear hc hb he2 he3 hcq haq hq hmem hz0 hww hok1 htk HTA hpz
            go_wp2_with fail
            go_still_tail 12, (by kernel_rfl)
            change wpList _ _ _ _ _ wr.drew
            go_wp2_with fail
            refine (ta_add2 HT4.out q.1.1 q.1.2 q.2.fn q.2.fuel _ q.2.args HAQ.out hal hps).mono ?_
            rintro e w4 ⟨he, hT, hK⟩
            rw [HZ0.out] at he
            rw [HTK.out] at hT
            subst he
            have HT5 := Lib.hid hT
            have HK5 := Lib.hid (HK.out.trans ((Kept.below ((Below.refl _ _).drew)).trans hK))
            clear hT hK k0 k2 k3 k4 k5 HK HT4 HAQ
            go_wp2_with fail
            go_roundg (gk - 1)
            case rel => exact ⟨k + 1, by omega, by go_num, HT5.out, HK5.out⟩
            case measure => omega
          · have HT5 := Lib.hid (show TwoA w f m f2 m2 A (sortV A) wr by
              have h1 := HTA.out
              rwa [List.take_of_length_le (by rw [← HSL.out]; omega)] at h1)
            have HO5 := Lib.hid (own_kept HO.out (by decide) HK.out)
            have HA5 : Hid (∀ p ∈ S, ArgsR wr p.2) := fun p hp => argsB_reads (args_kept (HA.out p hp) HK.out)
            have HAL : Hid (∀ p ∈ S, p.2.args.length ≤ 1000000) := fun p hp => by
              have h1 : coreP p ∈ sortV A := by rw [← HS.out]; exact List.mem_map.2 ⟨p, hp, rfl⟩
              exact Nat.le_trans (HOKA.out _ (HSP.out.mem_iff.1 h1)).2 (by decide)
            clear HTA HK HO HA HRB HW
            have HNDS := Lib.hid (sort_sort HND.out)
            go_wp2_with fail
            refine (lt_rows HT5.out.snd).mono ?_
            rintro e w5 ⟨u, S2, rfl, ho2, hS2, ha2, hB5⟩
            rw [HNDS.out] at hS2
            have HT6 := Lib.hid (HT5.out.below hB5)
            obtain ⟨ua, uc, rfl⟩ := (own_readsK (enc := encT) (k := 9) encT_len (by decide) ho2).slice
            have HR1 := Lib.hid ((own_readsK (enc := encT) (k := 9) encT_len (by decide) HO5.out).below hB5)
            have HR2 := Lib.hid (own_readsK (enc := encT) (k := 9) encT_len (by decide) ho2)
            have HA1 : Hid (∀ p ∈ S, ArgsR w5 p.2) := fun p hp => (HA5.out p hp).below hB5
            have HA2 : Hid (∀ p ∈ S2, ArgsR w5 p.2) := fun p hp => argsB_reads (ha2 p hp)
            have HSS := Lib.hid (HS.out.trans hS2.symm)
            clear ho2 hS2 ha2 hB5 HO5 HA5 HT5
            go_wp2_with fail
            refine (sameRoots S S2 _ _ w5 HR1.out HR2.out HA1.out HA2.out HSS.out (by omega) HAL.out).mono ?_
            rintro e w6 ⟨rfl, hB⟩
            have HT7 := Lib.hid (HT6.out.below hB)
            clear hB HR1 HR2 HA1 HA2 HSS HT6
            go_wp2_with fail
            refine (lt_waits HT7.out.fst).mono ?_
            rintro e w7 ⟨x1, rfl, ho, hB⟩
            obtain ⟨NL, hNL⟩ : ∃ NL : List Nm, NL = (sortV (pickA A fun _ r => decide (r.st = 1))).map (·.1) := ⟨_, rfl⟩
            have hwl : NL.length ≤ 1000000 := by
              rw [hNL, List.length_map, (sortV_perm _).length_eq]
              exact Nat.le_trans (List.length_filter_le _ _) (Nat.le_trans HT7.out.fst.len (by decide))
            rw [← hNL] at ho
            have HNL := Lib.hid hNL
            clear hNL
            have HT8 := Lib.hid (HT7.out.below hB)
            have HN1 := Lib.hid (own_readsK (enc := encM) (k := 2) (fun _ => rfl) (by decide) ho)
            obtain ⟨na, nc, rfl⟩ := HN1.out.slice
            clear ho hB HT7
            go_wp2_with fail
            refine (lt_waits HT8.out.snd).mono ?_
            rintro e w8 ⟨x2, rfl, ho, hB⟩
            rw [pick_permV HND.out HSP.out, ← HNL.out] at ho
            have HT9 := Lib.hid (HT8.out.below hB)
            have HN2 := Lib.hid (own_readsK (enc := encM) (k := 2) (fun _ => rfl) (by decide) ho)
            have HN3 := Lib.hid (HN1.out.below hB)
            obtain ⟨na2, nc2, rfl⟩ := HN2.out.slice
            clear ho hB HT8 HN1
            go_wp2_with fail
            refine (sameNames _ _ _ w8 HN3.out HN2.out hwl).mono ?_
            rintro e w9 ⟨rfl, hB⟩
            have HT10 := Lib.hid (HT9.out.below hB)
            clear hB HN2 HN3 hwl HT9
            go_wp2_with fail
            go_loopg [8] l.length (fun gk i wr => ∃ k : Nat, gk + k = l.length ∧ i = .int .i64 k ∧ TwoA w f m f2 m2 A (sortV A) wr)
            case atStart => exact ⟨0, by omega, rfl, HT10.out⟩
            case round =>
              clear HT10
              obtain ⟨k, hk, rfl, hTA⟩ := hrel
              have HTA := Lib.hid hTA
              clear hTA
              by_cases hlt : k < l.length
              · obtain ⟨b, off, c, he, hb, hc⟩ := HV1.out.at (by omega)
                injection he with he1 he2 he3
                subst he1
                have HX := Lib.hid (HZ2.out _ (List.getElem_mem hlt))
                have hcc := hc k hlt
                clear hc he2 he3
                generalize l[k] = x at hcc HX
                have hnz : x.n.2.size ≤ 9223372036854775807 := by have := HX.out; unfold totS at this; omega
                have r1 : wr.cell? ⟨b, off + k * 10 + 1, none⟩ = some (.int .u64 x.n.1) := cell_low HTA.out.fst.low hb (hcc 1 _ rfl)
                have r2 : wr.cell? ⟨b, off + k * 10 + 1 + 1, none⟩ = some (.string x.n.2) := cell_low HTA.out.fst.low hb (hcc 2 _ rfl)
                clear hcc hb
                go_upto_region 26 with fail
                have hA : Below wr.heap.size wr (wr.alloc (.cells #[.int .u64 x.n.1, .string x.n.2] 29)) := (Below.refl _ _).alloc (Nat.le_refl _) _
                have hx : Box wr.heap.size #[.int .u64 x.n.1, .string x.n.2] 29 (wr.alloc (.cells #[.int .u64 x.n.1, .string x.n.2] 29)) := heap_alloc_new _ _
                have HT1 := Lib.hid (HTA.out.below hA)
                have HN1 := Lib.hid hx
                clear hA hx HTA r1 r2
                generalize wr.heap.size = nb at *
                generalize wr.alloc (.cells #[.int .u64 x.n.1, .string x.n.2] 29) = wa at *
                have n0 : wa.cell? ⟨nb, 0, none⟩ = some (.int .u64 x.n.1) := HN1.out.cell 0
                have n1 : wa.cell? ⟨nb, 1, none⟩ = some (.string x.n.2) := HN1.out.cell 1
                go_wp2_with fail
                refine (lt_above HT1.out.fst x.n hnz).mono ?_
                rintro e wb hR
                obtain ⟨q1, rfl, hq1, ha1, hB⟩ := told_uni hR
                have HT2 := Lib.hid (HT1.out.below hB)
                have HN2 := Lib.hid (Kept.below hB _ _ _ (by decide) HN1.out)
                have HQ1 := Lib.hid hq1
                have HA1 := Lib.hid ha1
                clear hR hq1 ha1 hB HT1 HN1 n0 n1
                unfold encT
                go_upto_region 27 with fail
                have hA : Below wb.heap.size wb (wb.alloc (.cells (encT q1).toArray 42)) := (Below.refl _ _).alloc (Nat.le_refl _) _
                have hx : Box wb.heap.size (encT q1).toArray 42 (wb.alloc (.cells (encT q1).toArray 42)) := heap_alloc_new _ _
                have HT3 := Lib.hid (HT2.out.below hA)
                have HN3 := Lib.hid (Kept.below hA _ _ _ (by decide) HN2.out)
                have HA3 := Lib.hid (HA1.out.below hA)
                have HX3 := Lib.hid hx
                clear hA hx HT2 HN2 HA1
                unfold encT at HT3 HN3 HA3 HX3
                generalize wb.heap.size = qb1 at *
                generalize wb.alloc (.cells [.int .u64 q1.1.1, .string q1.1.2, .string q1.1.2, .int .i64 q1.2.fn, .slice q1.2.aa q1.2.args.length q1.2.ac, .int .i64 q1.2.fuel, .int .u8 q1.2.st, .int .i64 q1.2.wk, .int .u64 q1.2.ep].toArray 42) = wc at *
                have n0 : wc.cell? ⟨nb, 0, none⟩ = some (.int .u64 x.n.1) := HN3.out.cell 0
                have n1 : wc.cell? ⟨nb, 1, none⟩ = some (.string x.n.2) := HN3.out.cell 1
                go_wp2_with fail
                refine (lt_above HT3.out.snd x.n hnz).mono ?_
                rintro e wd hR
                obtain ⟨q2, rfl, hq2, ha2, hB⟩ := told_uni hR
                rw [above_perm HND.out HSP.out] at hq2
                rw [above_perm HND.out HSP.out]
                have HT4 := Lib.hid (HT3.out.below hB)
                have HN4 := Lib.hid (Kept.below hB _ _ _ (by decide) HN3.out)
                have HX4 := Lib.hid (Kept.below hB _ _ _ (by decide) HX3.out)
                have HA4 := Lib.hid (HA3.out.below hB)
                have HQ2 := Lib.hid hq2
                have HY4 := Lib.hid ha2
                clear hR hq2 ha2 hB HT3 HN3 HX3 HA3 n0 n1
                unfold encT
                go_upto_region 28 with fail
                have hA : Below wd.heap.size wd (wd.alloc (.cells [.int .u64 q2.1.1, .string q2.1.2, .string q2.1.2, .int .i64 q2.2.fn, .slice q2.2.aa q2.2.args.length q2.2.ac, .int .i64 q2.2.fuel, .int .u8 q2.2.st, .int .i64 q2.2.wk, .int .u64 q2.2.ep].toArray 42)) := (Below.refl _ _).alloc (Nat.le_refl _) _
                have hx : Box wd.heap.size [.int .u64 q2.1.1, .string q2.1.2, .string q2.1.2, .int .i64 q2.2.fn, .slice q2.2.aa q2.2.args.length q2.2.ac, .int .i64 q2.2.fuel, .int .u8 q2.2.st, .int .i64 q2.2.wk, .int .u64 q2.2.ep].toArray 42 (wd.alloc (.cells [.int .u64 q2.1.1, .string q2.1.2, .string q2.1.2, .int .i64 q2.2.fn, .slice q2.2.aa q2.2.args.length q2.2.ac, .int .i64 q2.2.fuel, .int .u8 q2.2.st, .int .i64 q2.2.wk, .int .u64 q2.2.ep].toArray 42)) := heap_alloc_new _ _
                have HT5 := Lib.hid (HT4.out.below hA)
                have HN5 := Lib.hid (Kept.below hA _ _ _ (by decide) HN4.out)
                have HX5 := Lib.hid (Kept.below hA _ _ _ (by decide) HX4.out)
                have HA5 := Lib.hid (HA4.out.below hA)
                have HY5 := Lib.hid (HY4.out.below hA)
                have HZ5 := Lib.hid hx
                have HE := Lib.hid (HQ1.out.trans HQ2.out.symm)
                have hal : q1.2.args.length ≤ 1000000 := Nat.le_trans (aboveA_args (fun p hp => (HOKA.out p hp).2) HQ1.out) (by decide)
                have HSW := Lib.hid (show (sortV (pickA A fun a _ => withinA A x.n a)).length ≤ 1000000 by
                  rw [(sortV_perm _).length_eq]
                  exact Nat.le_trans (List.length_filter_le _ _) (Nat.le_trans HT5.out.fst.len (by decide)))
                have HSW2 := Lib.hid (show ∀ p ∈ sortV (pickA A fun a _ => withinA A x.n a), p.2.args.length ≤ 1000000 from fun p hp => Nat.le_trans (HOKA.out p (List.mem_filter.1 ((sortV_perm _).mem_iff.1 hp)).1).2 (by decide))
                clear hA hx HT4 HN4 HX4 HA4 HY4 HQ1 HQ2
                generalize wd.heap.size = qb2 at *
                generalize wd.alloc (.cells [.int .u64 q2.1.1, .string q2.1.2, .string q2.1.2, .int .i64 q2.2.fn, .slice q2.2.aa q2.2.args.length q2.2.ac, .int .i64 q2.2.fuel, .int .u8 q2.2.st, .int .i64 q2.2.wk, .int .u64 q2.2.ep].toArray 42) = we at *
                have HI := Lib.hid (show ∀ w', Below we.heap.size we w' → (Box nb #[.int .u64 x.n.1, .string x.n.2] 29 w' ∧ Box qb1 _ 42 w' ∧ Box qb2 _ 42 w') from fun w' h => ⟨Kept.below h _ _ _ (by decide) HN5.out, Kept.below h _ _ _ (by decide) HX5.out, Kept.below h _ _ _ (by decide) HZ5.out⟩)
                clear HN5 HX5 HZ5
                refine wp_region_held_drew (S := fun y => Below we.heap.size we y) (by kernel_rfl) ((Below.refl _ _).drew) (fun hHeld => ?_)
                refine wpAnyH_take (i := 0) (oi := _) (v := ?_) (by rw [List.getElem?_toArray]; exact rfl) (by kernel_rfl) (by kernel_rfl) (by kernel_rfl) (by exact fun _ _ _ h => h) (Or.inl ⟨by rfl, ?_⟩) hHeld ?_
                rotate_left
                · (intro wX hSw; clear hSw; go_simp; try with_reducible rfl)
                try simp only [Act.put, List.setIfInBounds_toArray, List.set_cons_zero, List.set_cons_succ]
                refine wpAnyH_take (i := 1) (oi := _) (v := ?_) (by rw [List.getElem?_toArray]; exact rfl) (by kernel_rfl) (by kernel_rfl) (by kernel_rfl) (by exact fun _ _ _ h => h) (Or.inl ⟨by rfl, ?_⟩) hHeld ?_
                rotate_left
                · (intro wX hSw; clear hSw; go_simp; try with_reducible rfl)
                try simp only [Act.put, List.setIfInBounds_toArray, List.set_cons_zero, List.set_cons_succ]
                refine wpAnyH_take (i := 2) (oi := _) (v := ?_) (by rw [List.getElem?_toArray]; exact rfl) (by kernel_rfl) (by kernel_rfl) (by kernel_rfl) (by exact fun _ _ _ h => h) (Or.inl ⟨by rfl, ?_⟩) hHeld ?_
                rotate_left
                · (intro wX hSw; clear hSw; go_simp; try with_reducible rfl)
                try simp only [Act.put, List.setIfInBounds_toArray, List.set_cons_zero, List.set_cons_succ]
                refine wpAnyH_take (i := 3) (oi := _) (v := ?_) (by rw [List.getElem?_toArray]; exact rfl) (by kernel_rfl) (by kernel_rfl) (by kernel_rfl) (by exact fun _ _ _ h => h) (Or.inl ⟨by rfl, ?_⟩) hHeld ?_
                rotate_left
                · (intro wX hSw; clear hSw; go_simp; try with_reducible rfl)
                try simp only [Act.put, List.setIfInBounds_toArray, List.set_cons_zero, List.set_cons_succ]
                refine wpAnyH_take (i := 4) (oi := _) (v := ?_) (by rw [List.getElem?_toArray]; exact rfl) (by kernel_rfl) (by kernel_rfl) (by kernel_rfl) (by exact fun _ _ _ h => h) (Or.inl ⟨by rfl, ?_⟩) hHeld ?_
                rotate_left
                · (intro wX hSw; obtain ⟨z0, z1, z2⟩ := HI.out _ hSw; have y0 : wX.cell? ⟨qb1, 0, none⟩ = some (.int .u64 q1.1.1) := z1.cell 0; have y1 : wX.cell? ⟨qb1, 1, none⟩ = some (.string q1.1.2) := z1.cell 1; have y2 : wX.cell? ⟨qb1, 2, none⟩ = some (.string q1.1.2) := z1.cell 2; have y3 : wX.cell? ⟨qb1, 3, none⟩ = some (.int .i64 q1.2.fn) := z1.cell 3; have y4 : wX.cell? ⟨qb1, 4, none⟩ = some (.slice q1.2.aa q1.2.args.length q1.2.ac) := z1.cell 4; have y5 : wX.cell? ⟨qb1, 5, none⟩ = some (.int .i64 q1.2.fuel) := z1.cell 5; have y6 : wX.cell? ⟨qb1, 6, none⟩ = some (.int .u8 q1.2.st) := z1.cell 6; have y7 : wX.cell? ⟨qb1, 7, none⟩ = some (.int .i64 q1.2.wk) := z1.cell 7; have y8 : wX.cell? ⟨qb1, 8, none⟩ = some (.int .u64 q1.2.ep) := z1.cell 8; clear hSw z0 z1 z2; go_simp; try with_reducible rfl)
                try simp only [Act.put, List.setIfInBounds_toArray, List.set_cons_zero, List.set_cons_succ]
                refine wpAnyH_take (i := 5) (oi := _) (v := ?_) (by rw [List.getElem?_toArray]; exact rfl) (by kernel_rfl) (by kernel_rfl) (by kernel_rfl) (by exact fun _ _ _ h => h) (Or.inl ⟨by rfl, ?_⟩) hHeld ?_
                rotate_left
                · (intro wX hSw; obtain ⟨z0, z1, z2⟩ := HI.out _ hSw; have y0 : wX.cell? ⟨qb2, 0, none⟩ = some (.int .u64 q2.1.1) := z2.cell 0; have y1 : wX.cell? ⟨qb2, 1, none⟩ = some (.string q2.1.2) := z2.cell 1; have y2 : wX.cell? ⟨qb2, 2, none⟩ = some (.string q2.1.2) := z2.cell 2; have y3 : wX.cell? ⟨qb2, 3, none⟩ = some (.int .i64 q2.2.fn) := z2.cell 3; have y4 : wX.cell? ⟨qb2, 4, none⟩ = some (.slice q2.2.aa q2.2.args.length q2.2.ac) := z2.cell 4; have y5 : wX.cell? ⟨qb2, 5, none⟩ = some (.int .i64 q2.2.fuel) := z2.cell 5; have y6 : wX.cell? ⟨qb2, 6, none⟩ = some (.int .u8 q2.2.st) := z2.cell 6; have y7 : wX.cell? ⟨qb2, 7, none⟩ = some (.int .i64 q2.2.wk) := z2.cell 7; have y8 : wX.cell? ⟨qb2, 8, none⟩ = some (.int .u64 q2.2.ep) := z2.cell 8; clear hSw z0 z1 z2; go_simp; try with_reducible rfl)
                try simp only [Act.put, List.setIfInBounds_toArray, List.set_cons_zero, List.set_cons_succ]
                refine wpAnyH_ready (rs := [6]) (by kernel_rfl) (by simp) ?_
                refine AllReadyH.cons (o := _) (by rw [List.getElem?_toArray]; exact rfl) (fun K hK => ?_) ?_
                · go_simp
                  have hsame := same_any q1 q2 _ (HA5.out.below hHeld) (HY5.out.below hHeld) hal; rw [(sameR_iff q1 q2).2 HE.out] at hsame; unfold encT at hsame; refine hsame.mono ?_; rintro e w6 ⟨rfl, hB⟩; clear hsame
                  go_wp2_with fail
                  refine hK.out _ _ (gthen hHeld hB) (fun hHeld => ?_)
                  clear hK K
                  try simp only [Act.put, List.setIfInBounds_toArray, List.set_cons_zero, List.set_cons_succ]
                  refine wpAnyH_take (i := 7) (oi := _) (v := ?_) (by rw [List.getElem?_toArray]; exact rfl) (by kernel_rfl) (by kernel_rfl) (by kernel_rfl) (by exact fun _ _ _ h => h) (Or.inl ⟨by rfl, ?_⟩) hHeld ?_
                  rotate_left
                  · (intro wX hSw; clear hSw; go_simp; try with_reducible rfl)
                  try simp only [Act.put, List.setIfInBounds_toArray, List.set_cons_zero, List.set_cons_succ]
                  refine wpAnyH_take (i := 8) (oi := _) (v := ?_) (by rw [List.getElem?_toArray]; exact rfl) (by kernel_rfl) (by kernel_rfl) (by kernel_rfl) (by exact fun _ _ _ h => h) (Or.inl ⟨by rfl, ?_⟩) hHeld ?_
                  rotate_left
                  · (intro wX hSw; clear hSw; go_simp; try with_reducible rfl)
                  try simp only [Act.put, List.setIfInBounds_toArray, List.set_cons_zero, List.set_cons_succ]
                  refine wpAnyH_take (i := 9) (oi := _) (v := ?_) (by rw [List.getElem?_toArray]; exact rfl) (by kernel_rfl) (by kernel_rfl) (by kernel_rfl) (by exact fun _ _ _ h => h) (Or.inl ⟨by rfl, ?_⟩) hHeld ?_
                  rotate_left
                  · (intro wX hSw; clear hSw; go_simp; try with_reducible rfl)
                  try simp only [Act.put, List.setIfInBounds_toArray, List.set_cons_zero, List.set_cons_succ]
                  refine wpAnyH_take (i := 10) (oi := _) (v := ?_) (by rw [List.getElem?_toArray]; exact rfl) (by kernel_rfl) (by kernel_rfl) (by kernel_rfl) (by exact fun _ _ _ h => h) (Or.inl ⟨by rfl, ?_⟩) hHeld ?_
                  rotate_left
                  · (intro wX hSw; clear hSw; go_simp; try with_reducible rfl)
                  try simp only [Act.put, List.setIfInBounds_toArray, List.set_cons_zero, List.set_cons_succ]
                  refine wpAnyH_take (i := 11) (oi := _) (v := ?_) (by rw [List.getElem?_toArray]; exact rfl) (by kernel_rfl) (by kernel_rfl) (by kernel_rfl) (by exact fun _ _ _ h => h) (Or.inl ⟨by rfl, ?_⟩) hHeld ?_
                  rotate_left
                  · (intro wX hSw; obtain ⟨z0, z1, z2⟩ := HI.out _ hSw; have y0 : wX.cell? ⟨nb, 0, none⟩ = some (.int .u64 x.n.1) := z0.cell 0; have y1 : wX.cell? ⟨nb, 1, none⟩ = some (.string x.n.2) := z0.cell 1; clear hSw z0 z1 z2; go_simp; try with_reducible rfl)
                  try simp only [Act.put, List.setIfInBounds_toArray, List.set_cons_zero, List.set_cons_succ]
                  refine wpAnyH_take (i := 13) (oi := _) (v := ?_) (by rw [List.getElem?_toArray]; exact rfl) (by kernel_rfl) (by kernel_rfl) (by kernel_rfl) (by exact fun _ _ _ h => h) (Or.inl ⟨by rfl, ?_⟩) hHeld ?_
                  rotate_left
                  · (intro wX hSw; clear hSw; go_simp; try with_reducible rfl)
                  try simp only [Act.put, List.setIfInBounds_toArray, List.set_cons_zero, List.set_cons_succ]
                  refine wpAnyH_take (i := 14) (oi := _) (v := ?_) (by rw [List.getElem?_toArray]; exact rfl) (by kernel_rfl) (by kernel_rfl) (by kernel_rfl) (by exact fun _ _ _ h => h) (Or.inl ⟨by rfl, ?_⟩) hHeld ?_
                  rotate_left
                  · (intro wX hSw; obtain ⟨z0, z1, z2⟩ := HI.out _ hSw; have y0 : wX.cell? ⟨nb, 0, none⟩ = some (.int .u64 x.n.1) := z0.cell 0; have y1 : wX.cell? ⟨nb, 1, none⟩ = some (.string x.n.2) := z0.cell 1; clear hSw z0 z1 z2; go_simp; try with_reducible rfl)
                  try simp only [Act.put, List.setIfInBounds_toArray, List.set_cons_zero, List.set_cons_succ]
                  refine wpAnyH_ready (rs := [12]) (by kernel_rfl) (by simp) ?_
                  refine AllReadyH.cons (o := _) (by rw [List.getElem?_toArray]; exact rfl) (fun K hK => ?_) ?_
                  · go_simp
                    refine (lt_within (HT5.out.below hHeld).fst x.n).mono ?_; rintro e w7 ⟨v1, S1, rfl, ho1, hS1, ha1, hB⟩; have HO1 := Lib.hid (own_readsK (enc := encT) (k := 9) encT_len (by decide) ho1); have HS1 := Lib.hid hS1; have HG1 := Lib.hid (fun p hp => argsB_reads (ha1 p hp)); clear ho1 hS1 ha1
                    go_wp2_with fail
                    refine hK.out _ _ (gthen hHeld hB) (fun hHeld => ?_)
                    clear hK K
                    try simp only [Act.put, List.setIfInBounds_toArray, List.set_cons_zero, List.set_cons_succ]
                    refine wpAnyH_ready (rs := [15]) (by kernel_rfl) (by simp) ?_
                    refine AllReadyH.cons (o := _) (by rw [List.getElem?_toArray]; exact rfl) (fun K hK => ?_) ?_
                    · go_simp
                      refine (lt_within (HT5.out.below hHeld).snd x.n).mono ?_; rintro e w8 ⟨v2, S2, rfl, ho2, hS2, ha2, hB⟩; rw [within_perm HND.out HSP.out, pick_permV HND.out HSP.out] at hS2; have HR2 := Lib.hid (own_readsK (enc := encT) (k := 9) encT_len (by decide) ho2); have HR1 := Lib.hid (HO1.out.below hB); have HG2 := Lib.hid (fun p hp => argsB_reads (ha2 p hp)); have HG3 := Lib.hid (fun p hp => (HG1.out p hp).below hB); have HSS := Lib.hid (HS1.out.trans hS2.symm); have hSl := wlen HSW.out HS1.out; have hSa := wargs HSW2.out HS1.out; clear ho2 hS2 ha2
                      go_wp2_with fail
                      refine hK.out _ _ (gthen hHeld hB) (fun hHeld => ?_)
                      clear hK K
                      try simp only [Act.put, List.setIfInBounds_toArray, List.set_cons_zero, List.set_cons_succ]
                      refine wpAnyH_ready (rs := [16]) (by kernel_rfl) (by simp) ?_
                      refine AllReadyH.cons (o := _) (by rw [List.getElem?_toArray]; exact rfl) (fun K hK => ?_) ?_
                      · go_simp
                        refine (sameRoots S1 S2 _ _ w8 HR1.out HR2.out HG3.out HG2.out HSS.out hSl hSa).mono ?_; rintro e w9 ⟨rfl, hB⟩
                        go_wp2_with fail
                        refine hK.out _ _ (gthen hHeld hB) (fun hHeld => ?_)
                        clear hK K
                        try simp only [Act.put, List.setIfInBounds_toArray, List.set_cons_zero, List.set_cons_succ]
                        refine wpAnyH_take (i := 17) (oi := _) (v := ?_) (by rw [List.getElem?_toArray]; exact rfl) (by kernel_rfl) (by kernel_rfl) (by kernel_rfl) (by exact fun _ _ _ h => h) (Or.inl ⟨by rfl, ?_⟩) hHeld ?_
                        rotate_left
                        · (intro wX hSw; clear hSw; go_simp; try with_reducible rfl)
                        try simp only [Act.put, List.setIfInBounds_toArray, List.set_cons_zero, List.set_cons_succ]
                        refine wpAnyH_take (i := 18) (oi := _) (v := ?_) (by rw [List.getElem?_toArray]; exact rfl) (by kernel_rfl) (by kernel_rfl) (by kernel_rfl) (by exact fun _ _ _ h => h) (Or.inl ⟨by rfl, ?_⟩) hHeld ?_
                        rotate_left
                        · (intro wX hSw; clear hSw; go_simp; try with_reducible rfl)
                        try simp only [Act.put, List.setIfInBounds_toArray, List.set_cons_zero, List.set_cons_succ]
                        refine wpAnyH_done (by kernel_rfl) ?_ _
                        have HT6 := Lib.hid (HT5.out.below hHeld)
                        clear hHeld
                        go_wp2_with fail
                        go_roundg (gk - 1)
                        case rel => exact ⟨k + 1, by omega, by go_num, HT6.out⟩
                        case measure => omega
                      exact AllReadyH.nil
                    exact AllReadyH.nil
                  exact AllReadyH.nil
                exact AllReadyH.nil
              · go_wp2_with fail
                refine (works_any _).mono ?_
                rintro e w9 ⟨rfl, hB⟩
                have HF9 := Lib.hid (HB0.out.trans (((HTA.out.fst.below hB).low).mono HB0.out.size))
                clear hB
                go_wp2_with fail
                go_ret
                exact ⟨ret_boolE rfl, HF9.out⟩
  · clear hb
    have HB0 := Lib.hid hB0
    clear hB0
    go_wp2_with fail
    refine (works_any _).mono ?_
    rintro e w1 ⟨rfl, hB⟩
    have HF := Lib.hid (gthen HB0.out hB)
    clear hB
    go_wp2_with fail
    go_ret
    exact ⟨ret_boolE rfl, HF.out⟩
theorem back_row (v : Value) (W : World) (h : ∃ l, ReadsK encS 10 W v l ∧ l.length ≤ maxLen ∧ ∀ s ∈ l, TskOk W s.t ∧ StpZ s) :
    Calls Try.prog 3 #[v] W fun e w' => e = .returned (.bool true) ∧ Below W.heap.size W w' := by
  obtain ⟨l, h1, h2, h3⟩ := h
  exact back_any v l W h1 (fun s hs => (h3 s hs).2) (fun s hs => (h3 s hs).1) (by unfold maxLen at h2; omega)
end Go.Proofs.Ytpdnebimkfejoaa
