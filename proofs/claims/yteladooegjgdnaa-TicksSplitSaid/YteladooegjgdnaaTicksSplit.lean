/- TicksSplit, whole. -/
import Derived.Test.YteladooegjgdnaaHp17
namespace Go.Proofs.Yteladooegjgdnaa
open Go.RowKit Go.Sort Go.Lib

set_option maxHeartbeats 12800000 in
set_option maxRecDepth 100000 in
theorem ticksplit_row (v : Value) (l : List Stp) (a b : Int) (w : World) (hv : ReadsK encS 4 w v l) (hl : (l.length : Int) ≤ 9223372036854775807) (ha0 : 0 ≤ a) (ha1 : a ≤ 65535) (hb0 : 0 ≤ b) (hb1 : b ≤ 65535) :
    Calls Try.prog 3 #[v, .int .u16 a, .int .u16 b] w fun e w' => e = .returned (.bool true) ∧ Below w.heap.size w w' := by
  obtain ⟨va, vc, rfl⟩ := hv.slice
  have HV := Lib.hid hv
  clear hv
  go_enter Try.func3, Try.ntmps3
  go_wp2_with fail
  refine (heavy_any _ l w HV.out hl).mono ?_
  rintro e w1 ⟨hb, rfl, hB, hhv⟩
  have HV1 := Lib.hid (HV.out.below hB)
  have HB1 := Lib.hid hB
  clear hB HV
  cases hb
  · have hlen : l.length ≤ 300 := hhv rfl
    clear hhv
    go_wp2_with fail
    refine (new_any w1).mono ?_
    rintro e w2 ⟨x, rv, rfl, hB, hQ, rfl⟩
    have H2 := Lib.hid (show Wt w1 x (.slice none 0 0) [] 0 w2 from ⟨⟨[], hQ, TmOk.none, by simp⟩, hB⟩)
    clear hB hQ
    go_wp2_with fail
    refine (new_any w2).mono ?_
    rintro e w3 ⟨y, ru, rfl, hB, hQ, rfl⟩
    have H3 := Lib.hid (show Tw w1 x (.slice none 0 0) y (.slice none 0 0) [] 0 [] 0 w3 from by
      obtain ⟨l0, hq, ht, hn⟩ := H2.out.tms
      refine ⟨H2.out.below hB, ⟨⟨[], ⟨hQ.box, World.ownsRow_nil _ _ _ _, Nat.le_trans H2.out.low.size hQ.zb⟩, TmOk.none, by simp⟩, gthen H2.out.low hB⟩, ?_, NoSame.none _ _ _⟩
      intro e
      have h1 := hQ.zb
      have h2 : x < w2.heap.size := (Array.getElem?_eq_some_iff.1 hq.box).1
      omega)
    clear hB hQ H2
    go_wp2_with fail
    go_loopg [9] l.length (fun gk t9 wr => ∃ (k : Nat) (rv ru : Value) (L : List Tm), gk + k = l.length ∧ t9 = .int .i64 k ∧ Hid (Tw w1 x rv y ru L 0 L 0 wr))
    case atStart => exact ⟨0, _, _, [], by omega, rfl, H3.out⟩
    case round =>
      obtain ⟨k, rv, ru, L, hk, rfl, HR⟩ := hrel
      clear H3
      by_cases hkl : k < l.length
      · obtain ⟨bs, off, c, he, hbs, hc⟩ := (HV1.out.below HR.out.x.low).at (by omega)
        injection he with he1 he2 he3
        subst he1
        have hcc := hc k hkl
        clear hc he3 hbs
        generalize l[k] = s at hcc
        have c0 : wr.cell? ⟨bs, off + k * 4, none⟩ = some (.int .i64 s.1) := hcc 0 _ rfl
        have c1 : wr.cell? ⟨bs, off + k * 4 + 1, none⟩ = some (.string s.2.1) := hcc 1 _ rfl
        have c2 : wr.cell? ⟨bs, off + k * 4 + 2, none⟩ = some (.string s.2.2.1) := hcc 2 _ rfl
        have c3 : wr.cell? ⟨bs, off + k * 4 + 3, none⟩ = some (.int .i64 s.2.2.2) := hcc 3 _ rfl
        clear hcc
        have hA := alT wr (.cells #[.int .i64 s.1, .string s.2.1, .string s.2.2.1, .int .i64 s.2.2.2] 29)
        have H4 := Lib.hid (HR.out.below hA)
        have HKB := Lib.hid (show wr.heap.size ≠ x ∧ rv.ownBlock ≠ some wr.heap.size ∧ wr.heap.size ≠ y ∧ ru.ownBlock ≠ some wr.heap.size from by
          have h1 : x < wr.heap.size := World.block_lt_of_cell? _ _ HR.out.x.tms.cells.1
          have h2 : y < wr.heap.size := World.block_lt_of_cell? _ _ HR.out.y.tms.cells.1
          exact ⟨by omega, fun e => Nat.lt_irrefl _ (HR.out.x.tms.block _ e), by omega, fun e => Nat.lt_irrefl _ (HR.out.y.tms.block _ e)⟩)
        have x0 : (wr.alloc (.cells #[.int .i64 s.1, .string s.2.1, .string s.2.2.1, .int .i64 s.2.2.2] 29)).cell? ⟨wr.heap.size, 0, none⟩ = some (.int .i64 s.1) := by simp [go_sem]
        have x1 : (wr.alloc (.cells #[.int .i64 s.1, .string s.2.1, .string s.2.2.1, .int .i64 s.2.2.2] 29)).cell? ⟨wr.heap.size, 1, none⟩ = some (.string s.2.1) := by simp [go_sem]
        have x3 : (wr.alloc (.cells #[.int .i64 s.1, .string s.2.1, .string s.2.2.1, .int .i64 s.2.2.2] 29)).cell? ⟨wr.heap.size, 3, none⟩ = some (.int .i64 s.2.2.2) := by simp [go_sem]
        clear hA
        go_upto_region 10 with fail
        generalize wr.alloc (.cells #[.int .i64 s.1, .string s.2.1, .string s.2.2.1, .int .i64 s.2.2.2] 29) = w4 at *
        generalize wr.heap.size = kb at *
        clear c0 c1 c2 c3 HR
        by_cases hs : s.1 = 0
        · have hs1 : (s.1 == 0) = true := by simp [hs]
          have X1 := Lib.hid (show w4.drew.cell? ⟨kb, 1, none⟩ = some (.string s.2.1) ∧ w4.drew.cell? ⟨kb, 3, none⟩ = some (.int .i64 s.2.2.2) from ⟨x1, x3⟩)
          have HD := Lib.hid (H4.out.below (Below.refl _ _).drew)
          clear hs x1 x3
          go_upto_region 11 with fail
          clear x0 hs1
          refine wp_region_held_drew (S := fun y => y.cell? ⟨kb, 1, none⟩ = some (.string s.2.1) ∧ y.cell? ⟨kb, 3, none⟩ = some (.int .i64 s.2.2.2)) (by kernel_rfl) (X1.out) (fun hHeld => ?_)
          refine wpAnyH_take (i := 0) (oi := _) (v := ?_) (by rw [List.getElem?_toArray]; exact rfl) (by kernel_rfl) (by kernel_rfl) (by kernel_rfl) (by exact fun _ _ _ h => h) (Or.inl ⟨by rfl, ?_⟩) hHeld ?_
          rotate_left
          · (intro wX hSw; clear hSw; go_simp; try with_reducible rfl)
          try simp only [Act.put, List.setIfInBounds_toArray, List.set_cons_zero, List.set_cons_succ]
          refine wpAnyH_take (i := 1) (oi := _) (v := ?_) (by rw [List.getElem?_toArray]; exact rfl) (by kernel_rfl) (by kernel_rfl) (by kernel_rfl) (by exact fun _ _ _ h => h) (Or.inl ⟨by rfl, ?_⟩) hHeld ?_
          rotate_left
          · (intro wX hSw; clear hSw; go_simp; try with_reducible rfl)
          try simp only [Act.put, List.setIfInBounds_toArray, List.set_cons_zero, List.set_cons_succ]
          refine wpAnyH_take (i := 2) (oi := _) (v := ?_) (by rw [List.getElem?_toArray]; exact rfl) (by kernel_rfl) (by kernel_rfl) (by kernel_rfl) (by exact fun _ _ _ h => h) (Or.inl ⟨by rfl, ?_⟩) hHeld ?_
          rotate_left
          · (intro wX hSw; obtain ⟨z1, z3⟩ := hSw; go_simp; try with_reducible rfl)
          try simp only [Act.put, List.setIfInBounds_toArray, List.set_cons_zero, List.set_cons_succ]
          refine wpAnyH_take (i := 3) (oi := _) (v := ?_) (by rw [List.getElem?_toArray]; exact rfl) (by kernel_rfl) (by kernel_rfl) (by kernel_rfl) (by exact fun _ _ _ h => h) (Or.inl ⟨by rfl, ?_⟩) hHeld ?_
          rotate_left
          · (intro wX hSw; clear hSw; go_simp; try with_reducible rfl)
          try simp only [Act.put, List.setIfInBounds_toArray, List.set_cons_zero, List.set_cons_succ]
          refine wpAnyH_take (i := 4) (oi := _) (v := ?_) (by rw [List.getElem?_toArray]; exact rfl) (by kernel_rfl) (by kernel_rfl) (by kernel_rfl) (by exact fun _ _ _ h => h) (Or.inl ⟨by rfl, ?_⟩) hHeld ?_
          rotate_left
          · (intro wX hSw; obtain ⟨z1, z3⟩ := hSw; go_simp; try with_reducible rfl)
          try simp only [Act.put, List.setIfInBounds_toArray, List.set_cons_zero, List.set_cons_succ]
          refine wpAnyH_take (i := 7) (oi := _) (v := ?_) (by rw [List.getElem?_toArray]; exact rfl) (by kernel_rfl) (by kernel_rfl) (by kernel_rfl) (by exact fun _ _ _ h => h) (Or.inl ⟨by rfl, ?_⟩) hHeld ?_
          rotate_left
          · (intro wX hSw; clear hSw; go_simp; try with_reducible rfl)
          try simp only [Act.put, List.setIfInBounds_toArray, List.set_cons_zero, List.set_cons_succ]
          refine wpAnyH_take (i := 8) (oi := _) (v := ?_) (by rw [List.getElem?_toArray]; exact rfl) (by kernel_rfl) (by kernel_rfl) (by kernel_rfl) (by exact fun _ _ _ h => h) (Or.inl ⟨by rfl, ?_⟩) hHeld ?_
          rotate_left
          · (intro wX hSw; clear hSw; go_simp; try with_reducible rfl)
          try simp only [Act.put, List.setIfInBounds_toArray, List.set_cons_zero, List.set_cons_succ]
          refine wpAnyH_take (i := 9) (oi := _) (v := ?_) (by rw [List.getElem?_toArray]; exact rfl) (by kernel_rfl) (by kernel_rfl) (by kernel_rfl) (by exact fun _ _ _ h => h) (Or.inl ⟨by rfl, ?_⟩) hHeld ?_
          rotate_left
          · (intro wX hSw; obtain ⟨z1, z3⟩ := hSw; go_simp; try with_reducible rfl)
          try simp only [Act.put, List.setIfInBounds_toArray, List.set_cons_zero, List.set_cons_succ]
          refine wpAnyH_take (i := 10) (oi := _) (v := ?_) (by rw [List.getElem?_toArray]; exact rfl) (by kernel_rfl) (by kernel_rfl) (by kernel_rfl) (by exact fun _ _ _ h => h) (Or.inl ⟨by rfl, ?_⟩) hHeld ?_
          rotate_left
          · (intro wX hSw; clear hSw; go_simp; try with_reducible rfl)
          try simp only [Act.put, List.setIfInBounds_toArray, List.set_cons_zero, List.set_cons_succ]
          refine wpAnyH_take (i := 11) (oi := _) (v := ?_) (by rw [List.getElem?_toArray]; exact rfl) (by kernel_rfl) (by kernel_rfl) (by kernel_rfl) (by exact fun _ _ _ h => h) (Or.inl ⟨by rfl, ?_⟩) hHeld ?_
          rotate_left
          · (intro wX hSw; obtain ⟨z1, z3⟩ := hSw; go_simp; try with_reducible rfl)
          try simp only [Act.put, List.setIfInBounds_toArray, List.set_cons_zero, List.set_cons_succ]
          refine wpAnyH_ready (rs := [5]) (by kernel_rfl) (by simp) ?_
          refine AllReadyH.cons (o := _) (by rw [List.getElem?_toArray]; exact rfl) (fun K hK => ?_) AllReadyH.nil
          go_simp
          refine (near_any 0 s.2.2.2 _).mono ?_; rintro e w5 ⟨rfl, rfl⟩
          go_wp2_with fail
          refine hK.out _ _ (hHeld) (fun hHeld => ?_)
          clear hK K
          try simp only [Act.put, List.setIfInBounds_toArray, List.set_cons_zero, List.set_cons_succ]
          refine wpAnyH_ready (rs := [6]) (by kernel_rfl) (by simp) ?_
          refine AllReadyH.cons (o := _) (by rw [List.getElem?_toArray]; exact rfl) (fun K hK => ?_) AllReadyH.nil
          go_simp
          refine (set_any s.2.1 (nearV 0 s.2.2.2) HD.out.x.tms).mono ?_; rintro e w6 ⟨rfl, rv6, h6, hL6⟩; have H6 := Lib.hid (HD.out.left h6 hL6); clear h6
          go_wp2_with fail
          refine hK.out _ _ (⟨(hL6.keep HKB.out.1 HKB.out.2.1 (World.block_lt_of_cell? _ _ hHeld.1) 1).trans hHeld.1, (hL6.keep HKB.out.1 HKB.out.2.1 (World.block_lt_of_cell? _ _ hHeld.1) 3).trans hHeld.2⟩) (fun hHeld => ?_)
          clear hK K
          try simp only [Act.put, List.setIfInBounds_toArray, List.set_cons_zero, List.set_cons_succ]
          refine wpAnyH_ready (rs := [12]) (by kernel_rfl) (by simp) ?_
          refine AllReadyH.cons (o := _) (by rw [List.getElem?_toArray]; exact rfl) (fun K hK => ?_) AllReadyH.nil
          go_simp
          refine (near_any 0 s.2.2.2 _).mono ?_; rintro e w5 ⟨rfl, rfl⟩
          go_wp2_with fail
          refine hK.out _ _ (hHeld) (fun hHeld => ?_)
          clear hK K
          try simp only [Act.put, List.setIfInBounds_toArray, List.set_cons_zero, List.set_cons_succ]
          refine wpAnyH_ready (rs := [13]) (by kernel_rfl) (by simp) ?_
          refine AllReadyH.cons (o := _) (by rw [List.getElem?_toArray]; exact rfl) (fun K hK => ?_) AllReadyH.nil
          go_simp
          refine (set_any s.2.1 (nearV 0 s.2.2.2) H6.out.y.tms).mono ?_; rintro e w7 ⟨rfl, ru7, h7, hL7⟩; have H7 := Lib.hid (H6.out.right h7 hL7); clear h7
          go_wp2_with fail
          refine hK.out _ _ (⟨(hL7.keep HKB.out.2.2.1 HKB.out.2.2.2 (World.block_lt_of_cell? _ _ hHeld.1) 1).trans hHeld.1, (hL7.keep HKB.out.2.2.1 HKB.out.2.2.2 (World.block_lt_of_cell? _ _ hHeld.1) 3).trans hHeld.2⟩) (fun hHeld => ?_)
          clear hK K
          try simp only [Act.put, List.setIfInBounds_toArray, List.set_cons_zero, List.set_cons_succ]
          refine wpAnyH_take (i := 14) (oi := _) (v := ?_) (by rw [List.getElem?_toArray]; exact rfl) (by kernel_rfl) (by kernel_rfl) (by kernel_rfl) (by exact fun _ _ _ h => h) (Or.inl ⟨by rfl, ?_⟩) hHeld ?_
          rotate_left
          · (intro wX hSw; clear hSw; go_simp; try with_reducible rfl)
          try simp only [Act.put, List.setIfInBounds_toArray, List.set_cons_zero, List.set_cons_succ]
          refine wpAnyH_done (by kernel_rfl) ?_ _
          go_wp2_with fail
          go_roundg (gk - 1)
          case rel => exact ⟨k + 1, rv6, ru7, setL L 0 s.2.1 (nearV 0 s.2.2.2), by omega, by go_num, H7.out⟩
          case measure => omega
        · have hs1 : (s.1 == 0) = false := by simp [hs]
          clear hs x1 x3
          go_wp2_with fail
          go_roundg (gk - 1)
          case rel => exact ⟨k + 1, rv, ru, L, by omega, by go_num, H4.out⟩
          case measure => omega
      · clear hk
        have hL4 : L.length ≤ 1024 := by obtain ⟨_, _, _, h⟩ := HR.out.x.tms; exact h
        have qa : IntKind.i64.wrap a = a := IntWalk.i64_in _ (by omega)
        have qb : IntKind.i64.wrap b = b := IntWalk.i64_in _ (by omega)
        have qab : IntKind.i64.wrap (a + b) = a + b := IntWalk.i64_in _ (by omega)
        have HE1 := Lib.hid (show tickE 0 (a + b) = 0 from tickE_ok (by omega) (by omega) (by omega))
        have HE2 := Lib.hid (show tickE 0 a = 0 from tickE_ok (by omega) (by omega) (by omega))
        have HE3 := Lib.hid (show tickE a b = 0 from tickE_ok (by omega) (by omega) (by omega))
        have HC1 := Lib.hid (show tickC 0 (a + b) = a + b from by unfold tickC; rw [if_pos HE1.out]; omega)
        have HC2 := Lib.hid (show tickC 0 a = a from by unfold tickC; rw [if_pos HE2.out]; omega)
        have HC3 := Lib.hid (show tickC a b = a + b from by unfold tickC; rw [if_pos HE3.out])
        obtain ⟨l1, hl1⟩ : ∃ t, tickO L 0 (a + b) = t := ⟨_, rfl⟩
        obtain ⟨m1, hm1⟩ : ∃ t, tickO L 0 a = t := ⟨_, rfl⟩
        obtain ⟨n1, hn1⟩ : ∃ t, tickO (tickL L 0 a) a b = t := ⟨_, rfl⟩
        have hsp : l1 = m1 ++ n1 := by
          rw [← hl1, ← hm1, ← hn1]
          unfold tickO tickL
          rw [if_pos HE1.out, if_pos HE2.out, if_pos HE2.out, if_pos HE3.out, Int.zero_add, Int.zero_add]
          exact take_split a b hb0 L
        have hll1 : l1.length ≤ 1024 := by
          rw [← hl1]
          unfold tickO
          rw [if_pos HE1.out]
          exact Nat.le_trans (List.takeWhile_sublist _).length_le hL4
        have HSP := Lib.hid hsp
        have HL1 := Lib.hid hl1
        have HM1 := Lib.hid hm1
        have HN1 := Lib.hid hn1
        have HLL1 := Lib.hid hll1
        clear hl1 hm1 hn1 hsp hll1 hL4
        have hke : ¬ k < l.length := hkl
        go_wp2_with fail
        refine (tick_any (a + b) HR.out.x.tms (by decide) (by decide)).mono ?_
        rintro e w4 ⟨ov, rv4, rfl, hP⟩
        have h4 := HR.out.left hP.tms hP.ql
        rw [HC1.out] at h4
        have o4 := hP.own
        rw [HL1.out] at o4
        have HS4 := Lib.hid (show NoSame ov ru from fun g hg hu => by
          have h1 := own_low o4 g hg
          have h2 := HR.out.y.tms.block g hu
          omega)
        rw [HE1.out]
        obtain ⟨oa, oc, rfl⟩ := own_slice o4
        have H4 := Lib.hid h4
        have HO4 := Lib.hid o4
        clear hP h4 o4
        obtain ⟨LL, hLL⟩ : ∃ n, l1.length = n := ⟨_, rfl⟩
        rw [hLL] at HS4 HO4 ⊢
        have HLL := Lib.hid hLL
        clear hLL
        go_wp2_with fail
        refine (tick_any a H4.out.y.tms (by decide) (by decide)).mono ?_
        rintro e w5 ⟨mv, ru5, rfl, hP⟩
        have h5 := H4.out.right hP.tms hP.ql
        rw [HC2.out] at h5
        have o5 := hP.own
        rw [HM1.out] at o5
        have HO4b := Lib.hid (hP.ql.side H4.out.y.tms HO4.out HS4.out)
        have HS5 := Lib.hid hP.apart
        rw [HE2.out]
        obtain ⟨ma, mc, rfl⟩ := own_slice o5
        have H5 := Lib.hid h5
        have HO5 := Lib.hid o5
        clear hP h5 o5 HO4 HS4 H4
        obtain ⟨ML, hML⟩ : ∃ n, m1.length = n := ⟨_, rfl⟩
        rw [hML] at HS5 HO5 ⊢
        have HML := Lib.hid hML
        clear hML
        go_wp2_with fail
        refine (tick_any b H5.out.y.tms (by omega) (by omega)).mono ?_
        rintro e w6 ⟨nv, ru6, rfl, hP⟩
        have h6 := H5.out.right hP.tms hP.ql
        rw [HC3.out] at h6
        have o6 := hP.own
        rw [HN1.out] at o6
        have HO4c := Lib.hid (hP.ql.side H5.out.y.tms HO4b.out.1 HO4b.out.2)
        have HO5c := Lib.hid (hP.ql.side H5.out.y.tms HO5.out HS5.out)
        rw [HE3.out]
        obtain ⟨na, nc, rfl⟩ := own_slice o6
        have H6 := Lib.hid h6
        have HO6 := Lib.hid o6
        clear hP h6 o6 HO4b HO5 HS5 H5
        obtain ⟨NL, hNL⟩ : ∃ n, n1.length = n := ⟨_, rfl⟩
        rw [hNL] at HO6 ⊢
        have hsum : LL = ML + NL := by rw [← HLL.out, ← HML.out, ← hNL, HSP.out, List.length_append]
        have hLLn : LL ≤ 1024 := by rw [← HLL.out]; exact HLL1.out
        have HNL := Lib.hid hNL
        clear hNL
        have qs : IntKind.i64.wrap ((ML : Int) + (NL : Int)) = (LL : Int) := by rw [IntWalk.i64_in _ (by omega)]; omega
        have HMN := Lib.hid (show ML ≤ LL from by omega)
        have hNLn : NL ≤ 1024 := by omega
        clear hsum
        have hoc := own_cap HO4c.out.1
        have hs1 := run_first (a := oa) (N := LL) (show ML ≤ oc by have := HMN.out; omega)
        have hR4 : ReadsK encT 2 w6 (.slice oa LL oc) l1 := readsT_own HO4c.out.1 HLL.out
        have hR5 : ReadsK encT 2 w6 (.slice ma ML mc) m1 := readsT_own HO5c.out.1 HML.out
        have hR6 : ReadsK encT 2 w6 (.slice na NL nc) n1 := readsT_own HO6.out HNL.out
        have hR7 : ReadsK encT 2 w6 (.slice oa ML oc) m1 := by
          have := readsT_take hR4 ML (by rw [HLL.out]; exact HMN.out) oc
          rwa [HSP.out, List.take_append_of_le_length (by rw [HML.out]; exact Nat.le_refl _), List.take_of_length_le (by rw [HML.out]; exact Nat.le_refl _)] at this
        obtain ⟨lv, hs2, hR8⟩ := run_last (a := oa) (cap := oc) (n := ML) (l := l1) (by rw [HLL.out]; exact hR4) (by rw [HLL.out]; exact HMN.out) (by rw [HLL.out]; exact hoc)
        rw [HLL.out] at hs2
        have hR9 : ReadsK encT 2 w6 lv n1 := by rwa [HSP.out, ← HML.out, List.drop_left] at hR8
        have HR5 := Lib.hid hR5
        have HR6 := Lib.hid hR6
        have HR7 := Lib.hid hR7
        have HR9 := Lib.hid hR9
        have hml : ML ≤ oc := by have := HMN.out; omega
        have hmll := HMN.out
        clear hR4 hR5 hR6 hR7 hR8 hR9 hoc HO4c HO5c HO6
        go_wp2_with fail
        refine (same_any _ _ m1 w6 HR7.out HR5.out (by rw [HML.out]; omega)).mono ?_
        rintro e w7 ⟨rfl, hB⟩
        have H7 := Lib.hid (H6.out.below hB)
        have HR6b := Lib.hid (HR6.out.below hB)
        have HR9b := Lib.hid (HR9.out.below hB)
        clear hB
        go_wp2_with fail
        refine (same_any _ _ n1 w7 HR9b.out HR6b.out (by rw [HNL.out]; omega)).mono ?_
        rintro e w8 ⟨rfl, hB⟩
        have H8 := Lib.hid (H7.out.below hB)
        clear hB
        obtain ⟨lx, hqx, _⟩ := H8.out.x.tms
        have HQX := Lib.hid hqx
        obtain ⟨ly, hqy, _⟩ := H8.out.y.tms
        have HQY := Lib.hid hqy
        clear hqx hqy
        go_wp2_with fail
        refine (now_any HQX.out).mono ?_
        rintro e w9 ⟨rfl, rfl⟩
        go_wp2_with fail
        refine (now_any HQY.out).mono ?_
        rintro e w10 ⟨rfl, rfl⟩
        go_wp2_with fail
        refine (works_any _).mono ?_
        rintro e w11 ⟨rfl, hB⟩
        have HB11 := Lib.hid (gthen (gthen HB1.out H8.out.x.low) hB)
        clear hB
        go_wp2_with fail
        go_ret
        exact ⟨rfl, HB11.out⟩
  · clear hhv
    go_wp2_with fail
    refine (works_any _).mono ?_
    rintro e w7 ⟨rfl, hB⟩
    have HB7 := Lib.hid (gthen HB1.out hB)
    clear hB
    go_wp2_with fail
    go_ret
    exact ⟨rfl, HB7.out⟩
end Go.Proofs.Yteladooegjgdnaa
