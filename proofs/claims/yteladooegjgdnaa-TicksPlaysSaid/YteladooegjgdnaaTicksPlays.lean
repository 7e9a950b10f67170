/- TicksPlays, whole. -/
import Derived.Test.YteladooegjgdnaaPt1
namespace Go.Proofs.Yteladooegjgdnaa
open Go.RowKit Go.Sort Go.Lib

def FrP (sv : Value) (b r : Nat) (k : Int) (a : Act) : Prop := a.defers = [] ∧ a.tmps.size = 170 ∧ sl a.tmps 0 = sv ∧ sl a.tmps 3 = TP b ∧ sl a.tmps 4 = TP r ∧ sl a.tmps 5 = .int .i64 k
/-- What holds between two steps. -/
structure Pn (w0 : World) (b : Nat) (rv : Value) (r : Nat) (lv : Value) (L : List Tm) (now : Int) (w : World) : Prop where
  p : Pt w0 b rv L now r lv L now w
  n0 : 0 ≤ now
  n1 : now ≤ 17592186044416
def PlP (w0 : World) (sv : Value) (N b r gk : Nat) (a : Act) (wr : World) : Prop := ∃ (k : Nat) (rv lv : Value) (L : List Tm) (now : Int), gk + k = N ∧ Pn w0 b rv r lv L now wr ∧ FrP sv b r k a
def CuP (w0 : World) (sv : Value) (b r k : Nat) (a : Act) (wr : World) : Prop := ∃ (rv lv : Value) (L : List Tm) (now : Int), Pn w0 b rv r lv L now wr ∧ FrP sv b r k a ∧ sl a.tmps 7 = .bool true
theorem neqT (x y : ByteArray) (i j : Int) (w : World) (h1 : x = y) (h2 : i = j) : (binOp .neq TmT (.agg #[.string x, .int .i64 i]) (.agg #[.string y, .int .i64 j])).run Try.prog w = .ok (.bool false) w := by
  subst h1 h2
  simp only [binOp, Op.equal, Op.maxDepth]
  simp [go_sem]
set_option maxHeartbeats 16000000 in
set_option maxRecDepth 100000 in
theorem ticksplays_row (v : Value) (l : List Stp) (w : World) (hv : ReadsK encS 4 w v l) (hl : (l.length : Int) ≤ 9223372036854775807) :
    Calls Try.prog 4 #[v] w fun e w' => e = .returned (.bool true) ∧ Below w.heap.size w w' := by
  obtain ⟨va, vc, rfl⟩ := hv.slice
  have HV := Lib.hid hv
  clear hv
  go_enter Try.func4, Try.ntmps4
  go_wp2_with fail
  refine (heavy_any _ l w HV.out hl).mono ?_
  rintro e w1 ⟨hb, rfl, hB, hhv⟩
  have HV1 := Lib.hid (HV.out.below hB)
  have HB1 := Lib.hid hB
  clear hB HV
  cases hb
  · have hlen : l.length ≤ 300 := hhv rfl
    clear hhv
    go_wp2_with fail
    refine (new_any w1).mono ?_
    rintro e w2 ⟨b, rv, rfl, hB, hQ, rfl⟩
    have hA : Below w2.heap.size w2 (w2.alloc (.cells #[.int .i64 0, .slice none 0 0] RtT)) := alT w2 _
    have H2 := Lib.hid (show Pn w1 b (.slice none 0 0) w2.heap.size (.slice none 0 0) [] 0 (w2.alloc (.cells #[.int .i64 0, .slice none 0 0] RtT)) from
      ⟨⟨(show Wt w1 b (.slice none 0 0) [] 0 w2 from ⟨⟨[], hQ, TmOk.none, by simp⟩, hB⟩).below hA, ⟨[], ⟨heap_alloc_new _ _, World.ownsRow_nil _ _ _ _, hB.size⟩, .refl _, .nil, .nil, by simp⟩, NoSame.none _ _ _⟩, by decide, by decide⟩)
    clear hB hQ hA
    go_wp2_with fail
    refine wp_loop_ghost_k (PlP w1 (.slice va l.length vc) l.length b w2.heap.size) l.length ?atStart ?round
    case atStart => exact ⟨0, _, _, _, _, by omega, H2.out, rfl, rfl, rfl, rfl, rfl, rfl⟩
    case round =>
      clear H2
      generalize w2.heap.size = r at *
      rintro go0 ⟨ts, ds⟩ wr ⟨k, rv, lv, L, now, hk, hP, hd, hts, f0, f3, f4, f5⟩ J K9 hJ9 hK9
      have HP := Lib.hid hP
      clear hP
      simp only at hd hts f0 f3 f4 f5
      subst hd
      rw [frame_lit170 hts, f0, f3, f4, f5]
      clear f0 f3 f4 f5
      by_cases hkl : k < l.length
      · obtain ⟨bs, off, c, he, hbs, hc⟩ := (HV1.out.below HP.out.p.t.low).at (by omega)
        injection he with he1 he2 he3
        subst he1
        have hcc := hc k hkl
        clear hc he3 hbs
        generalize l[k] = s at hcc
        have c0 : wr.cell? ⟨bs, off + k * 4, none⟩ = some (.int .i64 s.1) := hcc 0 _ rfl
        have c1 : wr.cell? ⟨bs, off + k * 4 + 1, none⟩ = some (.string s.2.1) := hcc 1 _ rfl
        have c2 : wr.cell? ⟨bs, off + k * 4 + 2, none⟩ = some (.string s.2.2.1) := hcc 2 _ rfl
        have c3 : wr.cell? ⟨bs, off + k * 4 + 3, none⟩ = some (.int .i64 s.2.2.2) := hcc 3 _ rfl
        clear hcc
        have hA := alT wr (.cells (stepC s) StepT)
        have HS := Lib.hid (show Pn w1 b rv r lv L now (wr.alloc (.cells (stepC s) StepT)) from ⟨HP.out.p.below hA, HP.out.n0, HP.out.n1⟩)
        have hbx : BoxAt (wr.alloc (.cells (stepC s) StepT)) wr.heap.size (stepC s) StepT := heap_alloc_new _ _
        simp only [stepC] at HS hbx
        clear hA
        go_upto_block 2 with fail
        generalize wr.alloc (.cells #[.int .i64 s.1, .string s.2.1, .string s.2.2.1, .int .i64 s.2.2.2] StepT) = ws at *
        generalize wr.heap.size = sb at *
        clear c0 c1 c2 c3 HP
        refine wp_cut (CuP w1 (.slice (some ⟨bs, off, none⟩) l.length vc) b r k) ?rest ?first
        case first =>
          intro J2 K2 hJ2 hK2
          have HBX : Hid (BoxAt ws sb (stepC s) StepT) := hbx
          obtain ⟨s0, s1, s2, s3⟩ := step_cells hbx
          clear hbx
          by_cases h0 : s.1 = 0
          · have b0 : (s.1 == 0) = true := by rw [h0]; rfl
            clear h0
            have HD := Lib.hid (HS.out.p.below (Below.refl _ _).drew)
            have HST := Lib.hid (show BoxAt ws.drew sb (stepC s) StepT ∧ ws.drew.cell? ⟨r, 0, none⟩ = some (.int .i64 now) from ⟨HBX.out, HS.out.p.d.cell⟩)
            clear s0 s1 s2 s3
            go_upto_region 14 with fail
            refine wp_region_held_drew (S := fun y => BoxAt y sb (stepC s) StepT ∧ y.cell? ⟨r, 0, none⟩ = some (.int .i64 now)) (by kernel_rfl) (HST.out) (fun hHeld => ?_)
            refine wpAnyH_take (i := 0) (oi := _) (v := ?_) (by rw [List.getElem?_toArray]; exact rfl) (by kernel_rfl) (by kernel_rfl) (by kernel_rfl) (by exact fun _ _ _ h => h) (Or.inl ⟨by rfl, ?_⟩) hHeld ?_
            rotate_left
            · (intro wX hSw; clear hSw; go_simp; try with_reducible rfl)
            try simp only [Act.put, List.setIfInBounds_toArray, List.set_cons_zero, List.set_cons_succ]
            refine wpAnyH_take (i := 1) (oi := _) (v := ?_) (by rw [List.getElem?_toArray]; exact rfl) (by kernel_rfl) (by kernel_rfl) (by kernel_rfl) (by exact fun _ _ _ h => h) (Or.inl ⟨by rfl, ?_⟩) hHeld ?_
            rotate_left
            · (intro wX hSw; clear hSw; go_simp; try with_reducible rfl)
            try simp only [Act.put, List.setIfInBounds_toArray, List.set_cons_zero, List.set_cons_succ]
            refine wpAnyH_take (i := 2) (oi := _) (v := ?_) (by rw [List.getElem?_toArray]; exact rfl) (by kernel_rfl) (by kernel_rfl) (by kernel_rfl) (by exact fun _ _ _ h => h) (Or.inl ⟨by rfl, ?_⟩) hHeld ?_
            rotate_left
            · (intro wX hSw; obtain ⟨z0, z1, z2, z3⟩ := step_cells hSw.1; have z4 := hSw.2; clear hSw; go_simp; try with_reducible rfl)
            try simp only [Act.put, List.setIfInBounds_toArray, List.set_cons_zero, List.set_cons_succ]
            refine wpAnyH_take (i := 3) (oi := _) (v := ?_) (by rw [List.getElem?_toArray]; exact rfl) (by kernel_rfl) (by kernel_rfl) (by kernel_rfl) (by exact fun _ _ _ h => h) (Or.inl ⟨by rfl, ?_⟩) hHeld ?_
            rotate_left
            · (intro wX hSw; clear hSw; go_simp; try with_reducible rfl)
            try simp only [Act.put, List.setIfInBounds_toArray, List.set_cons_zero, List.set_cons_succ]
            refine wpAnyH_take (i := 4) (oi := _) (v := ?_) (by rw [List.getElem?_toArray]; exact rfl) (by kernel_rfl) (by kernel_rfl) (by kernel_rfl) (by exact fun _ _ _ h => h) (Or.inl ⟨by rfl, ?_⟩) hHeld ?_
            rotate_left
            · (intro wX hSw; clear hSw; go_simp; try with_reducible rfl)
            try simp only [Act.put, List.setIfInBounds_toArray, List.set_cons_zero, List.set_cons_succ]
            refine wpAnyH_take (i := 5) (oi := _) (v := ?_) (by rw [List.getElem?_toArray]; exact rfl) (by kernel_rfl) (by kernel_rfl) (by kernel_rfl) (by exact fun _ _ _ h => h) (Or.inl ⟨by rfl, ?_⟩) hHeld ?_
            rotate_left
            · (intro wX hSw; clear hSw; go_simp; try with_reducible rfl)
            try simp only [Act.put, List.setIfInBounds_toArray, List.set_cons_zero, List.set_cons_succ]
            refine wpAnyH_take (i := 6) (oi := _) (v := ?_) (by rw [List.getElem?_toArray]; exact rfl) (by kernel_rfl) (by kernel_rfl) (by kernel_rfl) (by exact fun _ _ _ h => h) (Or.inl ⟨by rfl, ?_⟩) hHeld ?_
            rotate_left
            · (intro wX hSw; obtain ⟨z0, z1, z2, z3⟩ := step_cells hSw.1; have z4 := hSw.2; clear hSw; go_simp; try with_reducible rfl)
            try simp only [Act.put, List.setIfInBounds_toArray, List.set_cons_zero, List.set_cons_succ]
            refine wpAnyH_take (i := 7) (oi := _) (v := ?_) (by rw [List.getElem?_toArray]; exact rfl) (by kernel_rfl) (by kernel_rfl) (by kernel_rfl) (by exact fun _ _ _ h => h) (Or.inl ⟨by rfl, ?_⟩) hHeld ?_
            rotate_left
            · (intro wX hSw; clear hSw; go_simp; try with_reducible rfl)
            try simp only [Act.put, List.setIfInBounds_toArray, List.set_cons_zero, List.set_cons_succ]
            refine wpAnyH_take (i := 8) (oi := _) (v := ?_) (by rw [List.getElem?_toArray]; exact rfl) (by kernel_rfl) (by kernel_rfl) (by kernel_rfl) (by exact fun _ _ _ h => h) (Or.inl ⟨by rfl, ?_⟩) hHeld ?_
            rotate_left
            · (intro wX hSw; obtain ⟨z0, z1, z2, z3⟩ := step_cells hSw.1; have z4 := hSw.2; clear hSw; go_simp; try with_reducible rfl)
            try simp only [Act.put, List.setIfInBounds_toArray, List.set_cons_zero, List.set_cons_succ]
            refine wpAnyH_take (i := 11) (oi := _) (v := ?_) (by rw [List.getElem?_toArray]; exact rfl) (by kernel_rfl) (by kernel_rfl) (by kernel_rfl) (by exact fun _ _ _ h => h) (Or.inl ⟨by rfl, ?_⟩) hHeld ?_
            rotate_left
            · (intro wX hSw; clear hSw; go_simp; try with_reducible rfl)
            try simp only [Act.put, List.setIfInBounds_toArray, List.set_cons_zero, List.set_cons_succ]
            refine wpAnyH_take (i := 12) (oi := _) (v := ?_) (by rw [List.getElem?_toArray]; exact rfl) (by kernel_rfl) (by kernel_rfl) (by kernel_rfl) (by exact fun _ _ _ h => h) (Or.inl ⟨by rfl, ?_⟩) hHeld ?_
            rotate_left
            · (intro wX hSw; clear hSw; go_simp; try with_reducible rfl)
            try simp only [Act.put, List.setIfInBounds_toArray, List.set_cons_zero, List.set_cons_succ]
            refine wpAnyH_take (i := 13) (oi := _) (v := ?_) (by rw [List.getElem?_toArray]; exact rfl) (by kernel_rfl) (by kernel_rfl) (by kernel_rfl) (by exact fun _ _ _ h => h) (Or.inl ⟨by rfl, ?_⟩) hHeld ?_
            rotate_left
            · (intro wX hSw; obtain ⟨z0, z1, z2, z3⟩ := step_cells hSw.1; have z4 := hSw.2; clear hSw; go_simp; try with_reducible rfl)
            try simp only [Act.put, List.setIfInBounds_toArray, List.set_cons_zero, List.set_cons_succ]
            refine wpAnyH_take (i := 14) (oi := _) (v := ?_) (by rw [List.getElem?_toArray]; exact rfl) (by kernel_rfl) (by kernel_rfl) (by kernel_rfl) (by exact fun _ _ _ h => h) (Or.inl ⟨by rfl, ?_⟩) hHeld ?_
            rotate_left
            · (intro wX hSw; clear hSw; go_simp; try with_reducible rfl)
            try simp only [Act.put, List.setIfInBounds_toArray, List.set_cons_zero, List.set_cons_succ]
            refine wpAnyH_take (i := 15) (oi := _) (v := ?_) (by rw [List.getElem?_toArray]; exact rfl) (by kernel_rfl) (by kernel_rfl) (by kernel_rfl) (by exact fun _ _ _ h => h) (Or.inl ⟨by rfl, ?_⟩) hHeld ?_
            rotate_left
            · (intro wX hSw; clear hSw; go_simp; try with_reducible rfl)
            try simp only [Act.put, List.setIfInBounds_toArray, List.set_cons_zero, List.set_cons_succ]
            refine wpAnyH_take (i := 16) (oi := _) (v := ?_) (by rw [List.getElem?_toArray]; exact rfl) (by kernel_rfl) (by kernel_rfl) (by kernel_rfl) (by exact fun _ _ _ h => h) (Or.inl ⟨by rfl, ?_⟩) hHeld ?_
            rotate_left
            · (intro wX hSw; clear hSw; go_simp; try with_reducible rfl)
            try simp only [Act.put, List.setIfInBounds_toArray, List.set_cons_zero, List.set_cons_succ]
            refine wpAnyH_take (i := 17) (oi := _) (v := ?_) (by rw [List.getElem?_toArray]; exact rfl) (by kernel_rfl) (by kernel_rfl) (by kernel_rfl) (by exact fun _ _ _ h => h) (Or.inl ⟨by rfl, ?_⟩) hHeld ?_
            rotate_left
            · (intro wX hSw; obtain ⟨z0, z1, z2, z3⟩ := step_cells hSw.1; have z4 := hSw.2; clear hSw; go_simp; try with_reducible rfl)
            try simp only [Act.put, List.setIfInBounds_toArray, List.set_cons_zero, List.set_cons_succ]
            refine wpAnyH_take (i := 18) (oi := _) (v := ?_) (by rw [List.getElem?_toArray]; exact rfl) (by kernel_rfl) (by kernel_rfl) (by kernel_rfl) (by exact fun _ _ _ h => h) (Or.inl ⟨by rfl, ?_⟩) hHeld ?_
            rotate_left
            · (intro wX hSw; clear hSw; go_simp; try with_reducible rfl)
            try simp only [Act.put, List.setIfInBounds_toArray, List.set_cons_zero, List.set_cons_succ]
            refine wpAnyH_take (i := 19) (oi := _) (v := ?_) (by rw [List.getElem?_toArray]; exact rfl) (by kernel_rfl) (by kernel_rfl) (by kernel_rfl) (by exact fun _ _ _ h => h) (Or.inl ⟨by rfl, ?_⟩) hHeld ?_
            rotate_left
            · (intro wX hSw; obtain ⟨z0, z1, z2, z3⟩ := step_cells hSw.1; have z4 := hSw.2; clear hSw; go_simp; try with_reducible rfl)
            try simp only [Act.put, List.setIfInBounds_toArray, List.set_cons_zero, List.set_cons_succ]
            refine wpAnyH_ready (rs := [9]) (by kernel_rfl) (by simp) ?_
            refine AllReadyH.cons (o := _) (by rw [List.getElem?_toArray]; exact rfl) (fun K hK => ?_) AllReadyH.nil
            go_simp
            refine (near_any now s.2.2.2 _).mono ?_; rintro e w5 ⟨rfl, rfl⟩
            go_wp2_with fail
            refine hK.out _ _ (hHeld) (fun hHeld => ?_)
            clear hK K
            try simp only [Act.put, List.setIfInBounds_toArray, List.set_cons_zero, List.set_cons_succ]
            refine wpAnyH_ready (rs := [10]) (by kernel_rfl) (by simp) ?_
            refine AllReadyH.cons (o := _) (by rw [List.getElem?_toArray]; exact rfl) (fun K hK => ?_) AllReadyH.nil
            go_simp
            refine (set_any s.2.1 (nearV now s.2.2.2) HD.out.t.tms).mono ?_; rintro e w6 ⟨rfl, rv6, h6, hL6⟩; have H6 := Lib.hid (HD.out.left h6 hL6); have hK6 : BoxAt w6 sb (stepC s) StepT ∧ w6.cell? ⟨r, 0, none⟩ = some (.int .i64 now) := ⟨HD.out.boxL hHeld.1 hL6, H6.out.d.cell⟩; clear h6 hL6
            go_wp2_with fail
            refine hK.out _ _ (hK6) (fun hHeld => ?_)
            clear hK K
            try simp only [Act.put, List.setIfInBounds_toArray, List.set_cons_zero, List.set_cons_succ]
            refine wpAnyH_ready (rs := [20]) (by kernel_rfl) (by simp) ?_
            refine AllReadyH.cons (o := _) (by rw [List.getElem?_toArray]; exact rfl) (fun K hK => ?_) AllReadyH.nil
            go_simp
            refine (near_any now s.2.2.2 _).mono ?_; rintro e w5 ⟨rfl, rfl⟩
            go_wp2_with fail
            refine hK.out _ _ (hHeld) (fun hHeld => ?_)
            clear hK K
            try simp only [Act.put, List.setIfInBounds_toArray, List.set_cons_zero, List.set_cons_succ]
            refine wpAnyH_ready (rs := [21]) (by kernel_rfl) (by simp) ?_
            refine AllReadyH.cons (o := _) (by rw [List.getElem?_toArray]; exact rfl) (fun K hK => ?_) AllReadyH.nil
            go_simp
            refine (rset_any s.2.1 (nearV now s.2.2.2) H6.out.d).mono ?_; rintro e w7 ⟨rfl, lv7, h7, hR7⟩; have H7 := Lib.hid (H6.out.right h7 hR7); have hK7 : BoxAt w7 sb (stepC s) StepT ∧ w7.cell? ⟨r, 0, none⟩ = some (.int .i64 now) := ⟨H6.out.boxR hHeld.1 hR7, H7.out.d.cell⟩; clear h7 hR7
            go_wp2_with fail
            refine hK.out _ _ (hK7) (fun hHeld => ?_)
            clear hK K
            try simp only [Act.put, List.setIfInBounds_toArray, List.set_cons_zero, List.set_cons_succ]
            refine wpAnyH_take (i := 22) (oi := _) (v := ?_) (by rw [List.getElem?_toArray]; exact rfl) (by kernel_rfl) (by kernel_rfl) (by kernel_rfl) (by exact fun _ _ _ h => h) (Or.inl ⟨by rfl, ?_⟩) hHeld ?_
            rotate_left
            · (intro wX hSw; clear hSw; go_simp; try with_reducible rfl)
            try simp only [Act.put, List.setIfInBounds_toArray, List.set_cons_zero, List.set_cons_succ]
            refine wpAnyH_take (i := 23) (oi := _) (v := ?_) (by rw [List.getElem?_toArray]; exact rfl) (by kernel_rfl) (by kernel_rfl) (by kernel_rfl) (by exact fun _ _ _ h => h) (Or.inl ⟨by rfl, ?_⟩) hHeld ?_
            rotate_left
            · (intro wX hSw; clear hSw; go_simp; try with_reducible rfl)
            try simp only [Act.put, List.setIfInBounds_toArray, List.set_cons_zero, List.set_cons_succ]
            refine wpAnyH_done (by kernel_rfl) ?_ _
            have HSE := Lib.hid (show 0 ≤ now ∧ now ≤ 17592186044416 from ⟨HS.out.n0, HS.out.n1⟩)
            clear hHeld
            have hee : (setE L now s.2.1 (nearV now s.2.2.2) == setE L now s.2.1 (nearV now s.2.2.2)) = true := by simp
            generalize setE L now s.2.1 (nearV now s.2.2.2) = E at *
            go_wp2_with fail
            refine Met.intro (hJ2 _ _ ?_)
            exact ⟨_, _, _, now, ⟨H7.out, HSE.out.1, HSE.out.2⟩, ⟨rfl, rfl, rfl, rfl, rfl, rfl⟩, rfl⟩
          have b0 : (s.1 == 0) = false := by rw [beq_eq_false_iff_ne]; exact h0
          clear h0
          by_cases h3 : s.1 = 3
          · have b3 : (s.1 == 3) = true := by rw [h3]; rfl
            clear h3
            have HD := Lib.hid (HS.out.p.below (Below.refl _ _).drew)
            have HST := Lib.hid (show BoxAt ws.drew sb (stepC s) StepT ∧ ws.drew.cell? ⟨r, 0, none⟩ = some (.int .i64 now) from ⟨HBX.out, HS.out.p.d.cell⟩)
            clear s0 s1 s2 s3
            go_upto_region 16 with fail
            refine wp_region_held_drew (S := fun y => BoxAt y sb (stepC s) StepT ∧ y.cell? ⟨r, 0, none⟩ = some (.int .i64 now)) (by kernel_rfl) (HST.out) (fun hHeld => ?_)
            refine wpAnyH_take (i := 0) (oi := _) (v := ?_) (by rw [List.getElem?_toArray]; exact rfl) (by kernel_rfl) (by kernel_rfl) (by kernel_rfl) (by exact fun _ _ _ h => h) (Or.inl ⟨by rfl, ?_⟩) hHeld ?_
            rotate_left
            · (intro wX hSw; clear hSw; go_simp; try with_reducible rfl)
            try simp only [Act.put, List.setIfInBounds_toArray, List.set_cons_zero, List.set_cons_succ]
            refine wpAnyH_take (i := 1) (oi := _) (v := ?_) (by rw [List.getElem?_toArray]; exact rfl) (by kernel_rfl) (by kernel_rfl) (by kernel_rfl) (by exact fun _ _ _ h => h) (Or.inl ⟨by rfl, ?_⟩) hHeld ?_
            rotate_left
            · (intro wX hSw; clear hSw; go_simp; try with_reducible rfl)
            try simp only [Act.put, List.setIfInBounds_toArray, List.set_cons_zero, List.set_cons_succ]
            refine wpAnyH_take (i := 2) (oi := _) (v := ?_) (by rw [List.getElem?_toArray]; exact rfl) (by kernel_rfl) (by kernel_rfl) (by kernel_rfl) (by exact fun _ _ _ h => h) (Or.inl ⟨by rfl, ?_⟩) hHeld ?_
            rotate_left
            · (intro wX hSw; obtain ⟨z0, z1, z2, z3⟩ := step_cells hSw.1; have z4 := hSw.2; clear hSw; go_simp; try with_reducible rfl)
            try simp only [Act.put, List.setIfInBounds_toArray, List.set_cons_zero, List.set_cons_succ]
            refine wpAnyH_take (i := 3) (oi := _) (v := ?_) (by rw [List.getElem?_toArray]; exact rfl) (by kernel_rfl) (by kernel_rfl) (by kernel_rfl) (by exact fun _ _ _ h => h) (Or.inl ⟨by rfl, ?_⟩) hHeld ?_
            rotate_left
            · (intro wX hSw; clear hSw; go_simp; try with_reducible rfl)
            try simp only [Act.put, List.setIfInBounds_toArray, List.set_cons_zero, List.set_cons_succ]
            refine wpAnyH_take (i := 4) (oi := _) (v := ?_) (by rw [List.getElem?_toArray]; exact rfl) (by kernel_rfl) (by kernel_rfl) (by kernel_rfl) (by exact fun _ _ _ h => h) (Or.inl ⟨by rfl, ?_⟩) hHeld ?_
            rotate_left
            · (intro wX hSw; obtain ⟨z0, z1, z2, z3⟩ := step_cells hSw.1; have z4 := hSw.2; clear hSw; go_simp; try with_reducible rfl)
            try simp only [Act.put, List.setIfInBounds_toArray, List.set_cons_zero, List.set_cons_succ]
            refine wpAnyH_take (i := 6) (oi := _) (v := ?_) (by rw [List.getElem?_toArray]; exact rfl) (by kernel_rfl) (by kernel_rfl) (by kernel_rfl) (by exact fun _ _ _ h => h) (Or.inl ⟨by rfl, ?_⟩) hHeld ?_
            rotate_left
            · (intro wX hSw; clear hSw; go_simp; try with_reducible rfl)
            try simp only [Act.put, List.setIfInBounds_toArray, List.set_cons_zero, List.set_cons_succ]
            refine wpAnyH_take (i := 7) (oi := _) (v := ?_) (by rw [List.getElem?_toArray]; exact rfl) (by kernel_rfl) (by kernel_rfl) (by kernel_rfl) (by exact fun _ _ _ h => h) (Or.inl ⟨by rfl, ?_⟩) hHeld ?_
            rotate_left
            · (intro wX hSw; clear hSw; go_simp; try with_reducible rfl)
            try simp only [Act.put, List.setIfInBounds_toArray, List.set_cons_zero, List.set_cons_succ]
            refine wpAnyH_take (i := 8) (oi := _) (v := ?_) (by rw [List.getElem?_toArray]; exact rfl) (by kernel_rfl) (by kernel_rfl) (by kernel_rfl) (by exact fun _ _ _ h => h) (Or.inl ⟨by rfl, ?_⟩) hHeld ?_
            rotate_left
            · (intro wX hSw; obtain ⟨z0, z1, z2, z3⟩ := step_cells hSw.1; have z4 := hSw.2; clear hSw; go_simp; try with_reducible rfl)
            try simp only [Act.put, List.setIfInBounds_toArray, List.set_cons_zero, List.set_cons_succ]
            refine wpAnyH_take (i := 9) (oi := _) (v := ?_) (by rw [List.getElem?_toArray]; exact rfl) (by kernel_rfl) (by kernel_rfl) (by kernel_rfl) (by exact fun _ _ _ h => h) (Or.inl ⟨by rfl, ?_⟩) hHeld ?_
            rotate_left
            · (intro wX hSw; clear hSw; go_simp; try with_reducible rfl)
            try simp only [Act.put, List.setIfInBounds_toArray, List.set_cons_zero, List.set_cons_succ]
            refine wpAnyH_take (i := 10) (oi := _) (v := ?_) (by rw [List.getElem?_toArray]; exact rfl) (by kernel_rfl) (by kernel_rfl) (by kernel_rfl) (by exact fun _ _ _ h => h) (Or.inl ⟨by rfl, ?_⟩) hHeld ?_
            rotate_left
            · (intro wX hSw; obtain ⟨z0, z1, z2, z3⟩ := step_cells hSw.1; have z4 := hSw.2; clear hSw; go_simp; try with_reducible rfl)
            try simp only [Act.put, List.setIfInBounds_toArray, List.set_cons_zero, List.set_cons_succ]
            refine wpAnyH_ready (rs := [5]) (by kernel_rfl) (by simp) ?_
            refine AllReadyH.cons (o := _) (by rw [List.getElem?_toArray]; exact rfl) (fun K hK => ?_) AllReadyH.nil
            go_simp
            refine (set_any s.2.1 s.2.2.2 HD.out.t.tms).mono ?_; rintro e w6 ⟨rfl, rv6, h6, hL6⟩; have H6 := Lib.hid (HD.out.left h6 hL6); have hK6 : BoxAt w6 sb (stepC s) StepT ∧ w6.cell? ⟨r, 0, none⟩ = some (.int .i64 now) := ⟨HD.out.boxL hHeld.1 hL6, H6.out.d.cell⟩; clear h6 hL6
            go_wp2_with fail
            refine hK.out _ _ (hK6) (fun hHeld => ?_)
            clear hK K
            try simp only [Act.put, List.setIfInBounds_toArray, List.set_cons_zero, List.set_cons_succ]
            refine wpAnyH_ready (rs := [11]) (by kernel_rfl) (by simp) ?_
            refine AllReadyH.cons (o := _) (by rw [List.getElem?_toArray]; exact rfl) (fun K hK => ?_) AllReadyH.nil
            go_simp
            refine (rset_any s.2.1 s.2.2.2 H6.out.d).mono ?_; rintro e w7 ⟨rfl, lv7, h7, hR7⟩; have H7 := Lib.hid (H6.out.right h7 hR7); have hK7 : BoxAt w7 sb (stepC s) StepT ∧ w7.cell? ⟨r, 0, none⟩ = some (.int .i64 now) := ⟨H6.out.boxR hHeld.1 hR7, H7.out.d.cell⟩; clear h7 hR7
            go_wp2_with fail
            refine hK.out _ _ (hK7) (fun hHeld => ?_)
            clear hK K
            try simp only [Act.put, List.setIfInBounds_toArray, List.set_cons_zero, List.set_cons_succ]
            refine wpAnyH_take (i := 12) (oi := _) (v := ?_) (by rw [List.getElem?_toArray]; exact rfl) (by kernel_rfl) (by kernel_rfl) (by kernel_rfl) (by exact fun _ _ _ h => h) (Or.inl ⟨by rfl, ?_⟩) hHeld ?_
            rotate_left
            · (intro wX hSw; clear hSw; go_simp; try with_reducible rfl)
            try simp only [Act.put, List.setIfInBounds_toArray, List.set_cons_zero, List.set_cons_succ]
            refine wpAnyH_take (i := 13) (oi := _) (v := ?_) (by rw [List.getElem?_toArray]; exact rfl) (by kernel_rfl) (by kernel_rfl) (by kernel_rfl) (by exact fun _ _ _ h => h) (Or.inl ⟨by rfl, ?_⟩) hHeld ?_
            rotate_left
            · (intro wX hSw; clear hSw; go_simp; try with_reducible rfl)
            try simp only [Act.put, List.setIfInBounds_toArray, List.set_cons_zero, List.set_cons_succ]
            refine wpAnyH_done (by kernel_rfl) ?_ _
            have HSE := Lib.hid (show 0 ≤ now ∧ now ≤ 17592186044416 from ⟨HS.out.n0, HS.out.n1⟩)
            clear hHeld
            have hee : (setE L now s.2.1 s.2.2.2 == setE L now s.2.1 s.2.2.2) = true := by simp
            generalize setE L now s.2.1 s.2.2.2 = E at *
            go_wp2_with fail
            refine Met.intro (hJ2 _ _ ?_)
            exact ⟨_, _, _, now, ⟨H7.out, HSE.out.1, HSE.out.2⟩, ⟨rfl, rfl, rfl, rfl, rfl, rfl⟩, rfl⟩
          have b3 : (s.1 == 3) = false := by rw [beq_eq_false_iff_ne]; exact h3
          clear h3
          by_cases h1 : s.1 = 1
          · have b1 : (s.1 == 1) = true := by rw [h1]; rfl
            clear h1
            have hA := alT ws (.cells #[.string s.2.1, .string s.2.2.1] 9)
            have HA := Lib.hid (HS.out.p.below hA)
            have HBA := Lib.hid (HBX.out.below hA)
            have hks : ∀ j (hj : j < [s.2.1, s.2.2.1].length), (ws.alloc (.cells #[.string s.2.1, .string s.2.2.1] 9)).cell? ⟨ws.heap.size, j, none⟩ = some (.string ([s.2.1, s.2.2.1] : List ByteArray)[j]) := by
              intro j hj
              match j, hj with
              | 0, _ => simp [go_sem]
              | 1, _ => simp [go_sem]
            have hkb : ws.heap.size ≠ b ∧ rv.ownBlock ≠ some ws.heap.size := by
              have h1 := HS.out.p.t.tms.block
              have h2 := World.block_lt_of_cell? _ _ HS.out.p.t.tms.cells.1
              exact ⟨fun e => by have h3 : b < ws.heap.size := h2; omega, fun e => by have := h1 _ e; omega⟩
            have HKS := Lib.hid (And.intro hks hkb)
            clear hA hks hkb
            go_wp2_with fail
            refine (stop_any (cap := 2) [s.2.1, s.2.2.1] HA.out.t.tms HKS.out.1 HKS.out.2.1 HKS.out.2.2 (by simp)).mono ?_
            rintro e w3 ⟨rfl, rv3, h3, hL3⟩
            have H3 := Lib.hid (HA.out.left h3 hL3)
            have HB3 := Lib.hid (HA.out.boxL HBA.out hL3)
            clear h3 hL3 s0 s1 s2 s3
            obtain ⟨_, s1, _, _⟩ := step_cells HB3.out
            go_wp2_with fail
            refine (rstop_any s.2.1 H3.out.d).mono ?_
            rintro e w4 ⟨rfl, lv4, h4, hR4⟩
            have H4 := Lib.hid (H3.out.right h4 hR4)
            have HB4 := Lib.hid (H3.out.boxR HB3.out hR4)
            clear h4 hR4 s1
            obtain ⟨_, _, s2, _⟩ := step_cells HB4.out
            go_wp2_with fail
            refine (rstop_any s.2.2.1 H4.out.d).mono ?_
            rintro e w5 ⟨rfl, lv5, h5, hR5⟩
            have H5 := Lib.hid (H4.out.right h5 hR5)
            clear h5 hR5 s2
            have hsum : (stopN [s.2.1, s.2.2.1] L : Int) = hasN s.2.1 L + hasN s.2.2.1 (offT s.2.1 L) ∧ 0 ≤ hasN s.2.1 L ∧ hasN s.2.1 L ≤ 1 ∧ 0 ≤ hasN s.2.2.1 (offT s.2.1 L) ∧ hasN s.2.2.1 (offT s.2.1 L) ≤ 1 := by
              unfold stopN stopN stopN hasN
              by_cases e1 : hasT s.2.1 L = true <;> by_cases e2 : hasT s.2.2.1 (offT s.2.1 L) = true <;> simp [e1, e2]
            obtain ⟨hsum, q0, q1, q2, q3⟩ := hsum
            generalize hasN s.2.1 L = na at *
            generalize hasN s.2.2.1 (offT s.2.1 L) = nb at *
            generalize stopN [s.2.1, s.2.2.1] L = ns at *
            have qs : IntKind.i64.wrap (na + nb) = (ns : Int) := by rw [IntWalk.i64_in _ (by omega)]; omega
            have HSE := Lib.hid (show 0 ≤ now ∧ now ≤ 17592186044416 from ⟨HS.out.n0, HS.out.n1⟩)
            clear hsum
            go_wp2_with fail
            refine Met.intro (hJ2 _ _ ?_)
            exact ⟨rv3, lv5, offT s.2.2.1 (offT s.2.1 L), now, ⟨H5.out, HSE.out.1, HSE.out.2⟩, ⟨rfl, rfl, rfl, rfl, rfl, rfl⟩, by first | rfl | (simp [qs])⟩
          have b1 : (s.1 == 1) = false := by rw [beq_eq_false_iff_ne]; exact h1
          clear h1
          by_cases h2 : s.1 = 2
          · have b2 : (s.1 == 2) = true := by rw [h2]; rfl
            clear h2
            go_wp2_with fail
            refine (tick_any s.2.2.2 HS.out.p.t.tms HS.out.n0 HS.out.n1).mono ?_
            rintro e w4 ⟨ov, rv4, rfl, hP⟩
            obtain ⟨D, hD⟩ : ∃ D, tickO L now s.2.2.2 = D := ⟨_, rfl⟩
            obtain ⟨E, hE⟩ : ∃ E, tickE now s.2.2.2 = E := ⟨_, rfl⟩
            have hw := hP.own
            rw [hD] at hw
            obtain ⟨oa, oc, rfl⟩ := own_slice hw
            have H4 := Lib.hid (HS.out.p.left hP.tms hP.ql)
            have HB4 := Lib.hid (HS.out.p.boxL HBX.out hP.ql)
            have HW := Lib.hid hw
            have HDD := Lib.hid hD
            have HEE := Lib.hid hE
            rw [hE]
            have hD1 : D.length ≤ 1024 := by
              obtain ⟨_, _, _, h3⟩ := HS.out.p.t.tms
              rw [← hD]
              unfold tickO
              split
              · exact Nat.le_trans (List.takeWhile_sublist _).length_le h3
              · simp
            have HD1 := Lib.hid hD1
            have HNW := Lib.hid (show 0 ≤ tickC now s.2.2.2 ∧ tickC now s.2.2.2 ≤ 17592186044416 from by
              have h1 := HS.out.n0
              have h2 := HS.out.n1
              unfold tickC
              split
              · rename_i h3
                unfold tickE at h3
                split at h3
                · simp at h3
                · split at h3
                  · simp at h3
                  · split at h3
                    · simp at h3
                    · omega
              · exact ⟨h1, h2⟩)
            clear hP hw hD hE hD1 s0 s1 s2 s3
            obtain ⟨_, _, _, s3⟩ := step_cells HB4.out
            obtain ⟨DN, hDN⟩ : ∃ n, D.length = n := ⟨_, rfl⟩
            rw [hDN]
            have HDN := Lib.hid hDN
            clear hDN
            go_wp2_with fail
            refine (rtick_any s.2.2.2 H4.out.d HS.out.n0 HS.out.n1).mono ?_
            rintro e w5 ⟨mv, lv5, rfl, hP⟩
            have hw := hP.own
            rw [HDD.out] at hw
            rw [HEE.out]
            have HR1 := Lib.hid (show ReadsK encT 2 w5 (.slice oa DN oc) D from by
              have h1 := H4.out.ownR HW.out hP.rl
              have h2 := readsT_own h1 rfl
              rwa [HDN.out] at h2)
            obtain ⟨ma, mc, rfl⟩ := own_slice hw
            have HR2 := Lib.hid (show ReadsK encT 2 w5 (.slice ma D.length mc) D from readsT_own hw rfl)
            rw [HDN.out] at HR2 ⊢
            have H5 := Lib.hid (H4.out.right hP.rms hP.rl)
            clear hP hw s3 HW
            have hEb : (E == E) = true := by simp
            go_wp2_with fail
            refine (same_any _ _ D w5 HR1.out HR2.out (by have := HD1.out; omega)).mono ?_
            rintro e w6 ⟨rfl, hB⟩
            have H6 := Lib.hid (H5.out.below hB)
            clear hB H5
            go_wp2_with fail
            refine Met.intro (hJ2 _ _ ?_)
            exact ⟨rv4, lv5, tickL L now s.2.2.2, tickC now s.2.2.2, ⟨H6.out, HNW.out.1, HNW.out.2⟩, ⟨rfl, rfl, rfl, rfl, rfl, rfl⟩, rfl⟩
          have b2 : (s.1 == 2) = false := by rw [beq_eq_false_iff_ne]; exact h2
          clear h2
          go_wp2_with fail
          refine Met.intro (hJ2 _ _ ?_)
          exact ⟨rv, lv, L, now, HS.out, ⟨rfl, rfl, rfl, rfl, rfl, rfl⟩, rfl⟩
        case rest =>
          clear hbx HS
          rintro ⟨ts2, ds2⟩ wc ⟨rv, lv, L, now, hP, ⟨hd2, hts2, f0, f3, f4, f5⟩, f7⟩
          have HP := Lib.hid hP
          clear hP
          simp only at hd2 hts2 f0 f3 f4 f5 f7
          subst hd2
          rw [frame_lit170 hts2, f0, f3, f4, f5, f7]
          clear f0 f3 f4 f5 f7
          go_wp2_with fail
          refine (next_any HP.out.p.t.tms).mono ?_
          rintro e w4 ⟨rfl, hB⟩
          rw [nextV_head]
          obtain ⟨hk, hhk⟩ : ∃ z, headK L = z := ⟨_, rfl⟩
          obtain ⟨ha, hha⟩ : ∃ z, headA L = z := ⟨_, rfl⟩
          obtain ⟨he, hhe⟩ : ∃ z, (!L.isEmpty) = z := ⟨_, rfl⟩
          rw [hhk, hha, hhe]
          have HHD := Lib.hid (And.intro hhk (And.intro hha hhe))
          have H4 := Lib.hid (HP.out.p.below hB)
          clear hB hhk hha hhe
          have hA := alT w4 (.cells #[.string hk, .int .i64 ha] TmT)
          have H5 := Lib.hid (H4.out.below hA)
          have hb1 : BoxAt (w4.alloc (.cells #[.string hk, .int .i64 ha] TmT)) w4.heap.size #[.string hk, .int .i64 ha] TmT := heap_alloc_new _ _
          go_upto_region 27 with fail
          generalize w4.alloc (.cells #[.string hk, .int .i64 ha] TmT) = w5 at *
          generalize w4.heap.size = n1 at *
          have HB1x := Lib.hid hb1
          clear hA hb1 H4
          go_wp2_with fail
          refine (rNext_any H5.out.d).mono ?_
          rintro e w6 ⟨rfl, hB⟩
          rw [nextV_head, HHD.out.1, HHD.out.2.1, HHD.out.2.2]
          have H6 := Lib.hid (H5.out.below hB)
          have hb1 := HB1x.out.below hB
          clear hB H5 HB1x
          have hA := alT w6 (.cells #[.string hk, .int .i64 ha] TmT)
          have H7 := Lib.hid (H6.out.below hA)
          have hb1a := hb1.below hA
          have hb2 : BoxAt (w6.alloc (.cells #[.string hk, .int .i64 ha] TmT)) w6.heap.size #[.string hk, .int .i64 ha] TmT := heap_alloc_new _ _
          go_upto_region 28 with fail
          generalize w6.alloc (.cells #[.string hk, .int .i64 ha] TmT) = w7 at *
          generalize w6.heap.size = n2 at *
          have HBX := Lib.hid (And.intro hb1a hb2)
          have hcl := H7.out.d.cell
          clear hA hb1 hb1a hb2 H6
          have heq : (he != he) = false := by simp
          have hnn : (now != now) = false := by simp
          have hqt := fun w => neqT hk hk ha ha w rfl rfl
          have HD := Lib.hid (H7.out.below (Below.refl _ _).drew)
          have HST := Lib.hid (show BoxAt w7.drew n1 #[.string hk, .int .i64 ha] TmT ∧ BoxAt w7.drew n2 #[.string hk, .int .i64 ha] TmT ∧ w7.drew.cell? ⟨r, 0, none⟩ = some (.int .i64 now) from ⟨HBX.out.1, HBX.out.2, hcl⟩)
          clear hcl H7 HBX
          refine wp_region_held_drew (S := fun y => BoxAt y n1 #[.string hk, .int .i64 ha] TmT ∧ BoxAt y n2 #[.string hk, .int .i64 ha] TmT ∧ y.cell? ⟨r, 0, none⟩ = some (.int .i64 now)) (by kernel_rfl) (HST.out) (fun hHeld => ?_)
          refine wpAnyH_take (i := 0) (oi := _) (v := ?_) (by rw [List.getElem?_toArray]; exact rfl) (by kernel_rfl) (by kernel_rfl) (by kernel_rfl) (by exact fun _ _ _ h => h) (Or.inl ⟨by rfl, ?_⟩) hHeld ?_
          rotate_left
          · (intro wX hSw; clear hSw; go_simp; try with_reducible rfl)
          try simp only [Act.put, List.setIfInBounds_toArray, List.set_cons_zero, List.set_cons_succ]
          refine wpAnyH_take (i := 1) (oi := _) (v := ?_) (by rw [List.getElem?_toArray]; exact rfl) (by kernel_rfl) (by kernel_rfl) (by kernel_rfl) (by exact fun _ _ _ h => h) (Or.inl ⟨by rfl, ?_⟩) hHeld ?_
          rotate_left
          · (intro wX hSw; clear hSw; go_simp; try with_reducible rfl)
          try simp only [Act.put, List.setIfInBounds_toArray, List.set_cons_zero, List.set_cons_succ]
          refine wpAnyH_take (i := 2) (oi := _) (v := ?_) (by rw [List.getElem?_toArray]; exact rfl) (by kernel_rfl) (by kernel_rfl) (by kernel_rfl) (by exact fun _ _ _ h => h) (Or.inl ⟨by rfl, ?_⟩) hHeld ?_
          rotate_left
          · (intro wX hSw; clear hSw; go_simp; try with_reducible rfl)
          try simp only [Act.put, List.setIfInBounds_toArray, List.set_cons_zero, List.set_cons_succ]
          refine wpAnyH_take (i := 3) (oi := _) (v := ?_) (by rw [List.getElem?_toArray]; exact rfl) (by kernel_rfl) (by kernel_rfl) (by kernel_rfl) (by exact fun _ _ _ h => h) (Or.inl ⟨by rfl, ?_⟩) hHeld ?_
          rotate_left
          · (intro wX hSw; have z0 := hSw.1.cell 0; have z1 := hSw.1.cell 1; have z2 := hSw.2.1.cell 0; have z3 := hSw.2.1.cell 1; have z4 := hSw.2.2; simp only [List.getElem?_toArray, List.getElem?_cons_zero, List.getElem?_cons_succ] at z0 z1 z2 z3; clear hSw; go_simp; try with_reducible rfl)
          try simp only [Act.put, List.setIfInBounds_toArray, List.set_cons_zero, List.set_cons_succ]
          refine wpAnyH_take (i := 4) (oi := _) (v := ?_) (by rw [List.getElem?_toArray]; exact rfl) (by kernel_rfl) (by kernel_rfl) (by kernel_rfl) (by exact fun _ _ _ h => h) (Or.inl ⟨by rfl, ?_⟩) hHeld ?_
          rotate_left
          · (intro wX hSw; have z0 := hSw.1.cell 0; have z1 := hSw.1.cell 1; have z2 := hSw.2.1.cell 0; have z3 := hSw.2.1.cell 1; have z4 := hSw.2.2; simp only [List.getElem?_toArray, List.getElem?_cons_zero, List.getElem?_cons_succ] at z0 z1 z2 z3; clear hSw; go_simp; try with_reducible rfl)
          try simp only [Act.put, List.setIfInBounds_toArray, List.set_cons_zero, List.set_cons_succ]
          refine wpAnyH_take (i := 5) (oi := _) (v := ?_) (by rw [List.getElem?_toArray]; exact rfl) (by kernel_rfl) (by kernel_rfl) (by kernel_rfl) (by exact fun _ _ _ h => h) (Or.inl ⟨by rfl, ?_⟩) hHeld ?_
          rotate_left
          · (intro wX hSw; clear hSw; go_simp; try with_reducible rfl)
          try simp only [Act.put, List.setIfInBounds_toArray, List.set_cons_zero, List.set_cons_succ]
          refine wpAnyH_take (i := 6) (oi := _) (v := ?_) (by rw [List.getElem?_toArray]; exact rfl) (by kernel_rfl) (by kernel_rfl) (by kernel_rfl) (by exact fun _ _ _ h => h) (Or.inl ⟨by rfl, ?_⟩) hHeld ?_
          rotate_left
          · (intro wX hSw; clear hSw; go_simp; try with_reducible rfl)
          try simp only [Act.put, List.setIfInBounds_toArray, List.set_cons_zero, List.set_cons_succ]
          refine wpAnyH_take (i := 7) (oi := _) (v := ?_) (by rw [List.getElem?_toArray]; exact rfl) (by kernel_rfl) (by kernel_rfl) (by kernel_rfl) (by exact fun _ _ _ h => h) (Or.inl ⟨by rfl, ?_⟩) hHeld ?_
          rotate_left
          · (intro wX hSw; clear hSw; go_simp; try with_reducible rfl)
          try simp only [Act.put, List.setIfInBounds_toArray, List.set_cons_zero, List.set_cons_succ]
          refine wpAnyH_take (i := 8) (oi := _) (v := ?_) (by rw [List.getElem?_toArray]; exact rfl) (by kernel_rfl) (by kernel_rfl) (by kernel_rfl) (by exact fun _ _ _ h => h) (Or.inl ⟨by rfl, ?_⟩) hHeld ?_
          rotate_left
          · (intro wX hSw; clear hSw; go_simp; try with_reducible rfl)
          try simp only [Act.put, List.setIfInBounds_toArray, List.set_cons_zero, List.set_cons_succ]
          refine wpAnyH_take (i := 9) (oi := _) (v := ?_) (by rw [List.getElem?_toArray]; exact rfl) (by kernel_rfl) (by kernel_rfl) (by kernel_rfl) (by exact fun _ _ _ h => h) (Or.inl ⟨by rfl, ?_⟩) hHeld ?_
          rotate_left
          · (intro wX hSw; clear hSw; go_simp; try with_reducible rfl)
          try simp only [Act.put, List.setIfInBounds_toArray, List.set_cons_zero, List.set_cons_succ]
          refine wpAnyH_take (i := 10) (oi := _) (v := ?_) (by rw [List.getElem?_toArray]; exact rfl) (by kernel_rfl) (by kernel_rfl) (by kernel_rfl) (by exact fun _ _ _ h => h) (Or.inl ⟨by rfl, ?_⟩) hHeld ?_
          rotate_left
          · (intro wX hSw; clear hSw; go_simp; try with_reducible rfl)
          try simp only [Act.put, List.setIfInBounds_toArray, List.set_cons_zero, List.set_cons_succ]
          refine wpAnyH_take (i := 11) (oi := _) (v := ?_) (by rw [List.getElem?_toArray]; exact rfl) (by kernel_rfl) (by kernel_rfl) (by kernel_rfl) (by exact fun _ _ _ h => h) (Or.inl ⟨by rfl, ?_⟩) hHeld ?_
          rotate_left
          · (intro wX hSw; clear hSw; go_simp; try with_reducible rfl)
          try simp only [Act.put, List.setIfInBounds_toArray, List.set_cons_zero, List.set_cons_succ]
          refine wpAnyH_take (i := 12) (oi := _) (v := ?_) (by rw [List.getElem?_toArray]; exact rfl) (by kernel_rfl) (by kernel_rfl) (by kernel_rfl) (by exact fun _ _ _ h => h) (Or.inl ⟨by rfl, ?_⟩) hHeld ?_
          rotate_left
          · (intro wX hSw; clear hSw; go_simp; try with_reducible rfl)
          try simp only [Act.put, List.setIfInBounds_toArray, List.set_cons_zero, List.set_cons_succ]
          refine wpAnyH_take (i := 13) (oi := _) (v := ?_) (by rw [List.getElem?_toArray]; exact rfl) (by kernel_rfl) (by kernel_rfl) (by kernel_rfl) (by exact fun _ _ _ h => h) (Or.inl ⟨by rfl, ?_⟩) hHeld ?_
          rotate_left
          · (intro wX hSw; clear hSw; go_simp; try with_reducible rfl)
          try simp only [Act.put, List.setIfInBounds_toArray, List.set_cons_zero, List.set_cons_succ]
          refine wpAnyH_take (i := 15) (oi := _) (v := ?_) (by rw [List.getElem?_toArray]; exact rfl) (by kernel_rfl) (by kernel_rfl) (by kernel_rfl) (by exact fun _ _ _ h => h) (Or.inl ⟨by rfl, ?_⟩) hHeld ?_
          rotate_left
          · (intro wX hSw; clear hSw; go_simp; try with_reducible rfl)
          try simp only [Act.put, List.setIfInBounds_toArray, List.set_cons_zero, List.set_cons_succ]
          refine wpAnyH_take (i := 16) (oi := _) (v := ?_) (by rw [List.getElem?_toArray]; exact rfl) (by kernel_rfl) (by kernel_rfl) (by kernel_rfl) (by exact fun _ _ _ h => h) (Or.inl ⟨by rfl, ?_⟩) hHeld ?_
          rotate_left
          · (intro wX hSw; clear hSw; go_simp; try with_reducible rfl)
          try simp only [Act.put, List.setIfInBounds_toArray, List.set_cons_zero, List.set_cons_succ]
          refine wpAnyH_take (i := 17) (oi := _) (v := ?_) (by rw [List.getElem?_toArray]; exact rfl) (by kernel_rfl) (by kernel_rfl) (by kernel_rfl) (by exact fun _ _ _ h => h) (Or.inl ⟨by rfl, ?_⟩) hHeld ?_
          rotate_left
          · (intro wX hSw; clear hSw; go_simp; try with_reducible rfl)
          try simp only [Act.put, List.setIfInBounds_toArray, List.set_cons_zero, List.set_cons_succ]
          refine wpAnyH_take (i := 18) (oi := _) (v := ?_) (by rw [List.getElem?_toArray]; exact rfl) (by kernel_rfl) (by kernel_rfl) (by kernel_rfl) (by exact fun _ _ _ h => h) (Or.inl ⟨by rfl, ?_⟩) hHeld ?_
          rotate_left
          · (intro wX hSw; have z0 := hSw.1.cell 0; have z1 := hSw.1.cell 1; have z2 := hSw.2.1.cell 0; have z3 := hSw.2.1.cell 1; have z4 := hSw.2.2; simp only [List.getElem?_toArray, List.getElem?_cons_zero, List.getElem?_cons_succ] at z0 z1 z2 z3; clear hSw; go_simp; try with_reducible rfl)
          try simp only [Act.put, List.setIfInBounds_toArray, List.set_cons_zero, List.set_cons_succ]
          refine wpAnyH_ready (rs := [14]) (by kernel_rfl) (by simp) ?_
          refine AllReadyH.cons (o := _) (by rw [List.getElem?_toArray]; exact rfl) (fun K hK => ?_) AllReadyH.nil
          go_simp
          obtain ⟨lq, hqq, _⟩ := HD.out.t.tms; refine (now_any hqq).mono ?_; rintro e w8 ⟨rfl, rfl⟩; clear hqq
          go_wp2_with fail
          refine hK.out _ _ (hHeld) (fun hHeld => ?_)
          clear hK K
          try simp only [Act.put, List.setIfInBounds_toArray, List.set_cons_zero, List.set_cons_succ]
          refine wpAnyH_take (i := 19) (oi := _) (v := ?_) (by rw [List.getElem?_toArray]; exact rfl) (by kernel_rfl) (by kernel_rfl) (by kernel_rfl) (by exact fun _ _ _ h => h) (Or.inl ⟨by rfl, ?_⟩) hHeld ?_
          rotate_left
          · (intro wX hSw; clear hSw; go_simp; try with_reducible rfl)
          try simp only [Act.put, List.setIfInBounds_toArray, List.set_cons_zero, List.set_cons_succ]
          refine wpAnyH_take (i := 20) (oi := _) (v := ?_) (by rw [List.getElem?_toArray]; exact rfl) (by kernel_rfl) (by kernel_rfl) (by kernel_rfl) (by exact fun _ _ _ h => h) (Or.inl ⟨by rfl, ?_⟩) hHeld ?_
          rotate_left
          · (intro wX hSw; clear hSw; go_simp; try with_reducible rfl)
          try simp only [Act.put, List.setIfInBounds_toArray, List.set_cons_zero, List.set_cons_succ]
          refine wpAnyH_take (i := 21) (oi := _) (v := ?_) (by rw [List.getElem?_toArray]; exact rfl) (by kernel_rfl) (by kernel_rfl) (by kernel_rfl) (by exact fun _ _ _ h => h) (Or.inl ⟨by rfl, ?_⟩) hHeld ?_
          rotate_left
          · (intro wX hSw; clear hSw; go_simp; try with_reducible rfl)
          try simp only [Act.put, List.setIfInBounds_toArray, List.set_cons_zero, List.set_cons_succ]
          refine wpAnyH_take (i := 22) (oi := _) (v := ?_) (by rw [List.getElem?_toArray]; exact rfl) (by kernel_rfl) (by kernel_rfl) (by kernel_rfl) (by exact fun _ _ _ h => h) (Or.inl ⟨by rfl, ?_⟩) hHeld ?_
          rotate_left
          · (intro wX hSw; clear hSw; go_simp; try with_reducible rfl)
          try simp only [Act.put, List.setIfInBounds_toArray, List.set_cons_zero, List.set_cons_succ]
          refine wpAnyH_take (i := 24) (oi := _) (v := ?_) (by rw [List.getElem?_toArray]; exact rfl) (by kernel_rfl) (by kernel_rfl) (by kernel_rfl) (by exact fun _ _ _ h => h) (Or.inl ⟨by rfl, ?_⟩) hHeld ?_
          rotate_left
          · (intro wX hSw; clear hSw; go_simp; try with_reducible rfl)
          try simp only [Act.put, List.setIfInBounds_toArray, List.set_cons_zero, List.set_cons_succ]
          refine wpAnyH_ready (rs := [23]) (by kernel_rfl) (by simp) ?_
          refine AllReadyH.cons (o := _) (by rw [List.getElem?_toArray]; exact rfl) (fun K hK => ?_) AllReadyH.nil
          go_simp
          refine (all_any HD.out.t.tms).mono ?_
          rintro e w9 ⟨av, rfl, ho, hB9⟩
          have H9 := Lib.hid (HD.out.below hB9)
          have hK9' : BoxAt w9 n1 #[.string hk, .int .i64 ha] TmT ∧ BoxAt w9 n2 #[.string hk, .int .i64 ha] TmT ∧ w9.cell? ⟨r, 0, none⟩ = some (.int .i64 now) := ⟨hHeld.1.below hB9, hHeld.2.1.below hB9, H9.out.d.cell⟩
          have HO9 := Lib.hid (readsT_own ho rfl)
          obtain ⟨aa, ac, rfl⟩ := own_slice ho
          clear ho hB9
          go_wp2_with fail
          refine hK.out _ _ (hK9') (fun hHeld => ?_)
          clear hK K
          try simp only [Act.put, List.setIfInBounds_toArray, List.set_cons_zero, List.set_cons_succ]
          refine wpAnyH_ready (rs := [25]) (by kernel_rfl) (by simp) ?_
          refine AllReadyH.cons (o := _) (by rw [List.getElem?_toArray]; exact rfl) (fun K hK => ?_) AllReadyH.nil
          go_simp
          refine (rall_any H9.out.d).mono ?_
          rintro e w10 ⟨bv, rfl, ho, hB10⟩
          have H10 := Lib.hid (H9.out.below hB10)
          have hK10 : BoxAt w10 n1 #[.string hk, .int .i64 ha] TmT ∧ BoxAt w10 n2 #[.string hk, .int .i64 ha] TmT ∧ w10.cell? ⟨r, 0, none⟩ = some (.int .i64 now) := ⟨hHeld.1.below hB10, hHeld.2.1.below hB10, H10.out.d.cell⟩
          have HO10 := Lib.hid (HO9.out.below hB10)
          have HQ10 := Lib.hid (readsT_own ho rfl)
          obtain ⟨ba, bc, rfl⟩ := own_slice ho
          clear ho hB10
          go_wp2_with fail
          refine hK.out _ _ (hK10) (fun hHeld => ?_)
          clear hK K
          try simp only [Act.put, List.setIfInBounds_toArray, List.set_cons_zero, List.set_cons_succ]
          refine wpAnyH_ready (rs := [26]) (by kernel_rfl) (by simp) ?_
          refine AllReadyH.cons (o := _) (by rw [List.getElem?_toArray]; exact rfl) (fun K hK => ?_) AllReadyH.nil
          go_simp
          refine (same_any _ _ (keyL L) w10 HO10.out HQ10.out (by
            obtain ⟨_, _, _, h3⟩ := H10.out.t.tms
            rw [(keyL_perm L).length_eq]; omega)).mono ?_
          rintro e w11 ⟨rfl, hB11⟩
          have H11 := Lib.hid (H10.out.below hB11)
          have hK11 : BoxAt w11 n1 #[.string hk, .int .i64 ha] TmT ∧ BoxAt w11 n2 #[.string hk, .int .i64 ha] TmT ∧ w11.cell? ⟨r, 0, none⟩ = some (.int .i64 now) := ⟨hHeld.1.below hB11, hHeld.2.1.below hB11, H11.out.d.cell⟩
          clear hB11
          go_wp2_with fail
          refine hK.out _ _ (hK11) (fun hHeld => ?_)
          clear hK K
          try simp only [Act.put, List.setIfInBounds_toArray, List.set_cons_zero, List.set_cons_succ]
          refine wpAnyH_take (i := 27) (oi := _) (v := ?_) (by rw [List.getElem?_toArray]; exact rfl) (by kernel_rfl) (by kernel_rfl) (by kernel_rfl) (by exact fun _ _ _ h => h) (Or.inl ⟨by rfl, ?_⟩) hHeld ?_
          rotate_left
          · (intro wX hSw; clear hSw; go_simp; try with_reducible rfl)
          try simp only [Act.put, List.setIfInBounds_toArray, List.set_cons_zero, List.set_cons_succ]
          refine wpAnyH_take (i := 28) (oi := _) (v := ?_) (by rw [List.getElem?_toArray]; exact rfl) (by kernel_rfl) (by kernel_rfl) (by kernel_rfl) (by exact fun _ _ _ h => h) (Or.inl ⟨by rfl, ?_⟩) hHeld ?_
          rotate_left
          · (intro wX hSw; clear hSw; go_simp; try with_reducible rfl)
          try simp only [Act.put, List.setIfInBounds_toArray, List.set_cons_zero, List.set_cons_succ]
          refine wpAnyH_done (by kernel_rfl) ?_ _
          clear hHeld
          go_wp2_with fail
          refine Handed.intro (go0 - 1) (by omega) (hJ9 _ _ _ ?_)
          exact ⟨k + 1, rv, lv, L, now, by omega, ⟨H11.out, HP.out.n0, HP.out.n1⟩, rfl, rfl, rfl, rfl, rfl, by go_num⟩
      · have hke : ¬ k < l.length := hkl
        go_wp2_with fail
        refine (stop_none HP.out.p.t.tms).mono ?_
        rintro e w10 ⟨rfl, rfl⟩
        go_wp2_with fail
        refine (works_any _).mono ?_
        rintro e w11 ⟨rfl, hB⟩
        have HB11 := Lib.hid (gthen (gthen HB1.out HP.out.p.t.low) hB)
        clear hB
        go_wp2_with fail
        go_ret
        exact ⟨rfl, HB11.out⟩
  · clear hhv
    go_wp2_with fail
    refine (works_any _).mono ?_
    rintro e w7 ⟨rfl, hB⟩
    have HB7 := Lib.hid (gthen HB1.out hB)
    clear hB
    go_wp2_with fail
    go_ret
    exact ⟨rfl, HB7.out⟩
end Go.Proofs.Yteladooegjgdnaa
