/- The document's answers for credits: two held against each other; what is left of one. -/
import Derived.Test.YtgjmnmcbinekdaaRefC1
namespace Go.Proofs.Ytgjmnmcbinekdaa
open Go.RowKit Go.Sort Go.Lib

theorem cmpB_lt {A B : List Int} (hA : A.length = 4097) (hB : B.length = 4097) {k : Nat} (hk : k < 4097) (he : ∀ j, j < k → A.getD j 0 = B.getD j 0) (h : A.getD k 0 < B.getD k 0) : cmpB A B = -1 := by
  rw [cmpB_drop k (by omega) (by omega) (fun j h1 h2 h3 => by have := he j h3; rwa [getD_at h1, getD_at h2] at this)]
  rw [List.drop_eq_getElem_cons (show k < A.length by omega), List.drop_eq_getElem_cons (show k < B.length by omega)]
  rw [getD_at (by omega), getD_at (by omega)] at h
  simp only [cmpB]
  rw [if_pos h]
theorem cmpB_gt {A B : List Int} (hA : A.length = 4097) (hB : B.length = 4097) {k : Nat} (hk : k < 4097) (he : ∀ j, j < k → A.getD j 0 = B.getD j 0) (h : B.getD k 0 < A.getD k 0) : cmpB A B = 1 := by
  rw [cmpB_drop k (by omega) (by omega) (fun j h1 h2 h3 => by have := he j h3; rwa [getD_at h1, getD_at h2] at this)]
  rw [List.drop_eq_getElem_cons (show k < A.length by omega), List.drop_eq_getElem_cons (show k < B.length by omega)]
  rw [getD_at (by omega), getD_at (by omega)] at h
  simp only [cmpB]
  rw [if_neg (by omega), if_pos h]
theorem cmpB_eq {A B : List Int} (hA : A.length = 4097) (hB : B.length = 4097) (he : ∀ j, j < 4097 → A.getD j 0 = B.getD j 0) : cmpB A B = 0 := by
  rw [cmpB_drop 4097 (by omega) (by omega) (fun j h1 h2 h3 => by have := he j h3; rwa [getD_at h1, getD_at h2] at this)]
  rw [List.drop_of_length_le (by omega)]
  cases B.drop 4097 <;> rfl
set_option maxHeartbeats 3200000 in
set_option maxRecDepth 100000 in
theorem rcmp_any (l m : List Int) (v u : Value) (w : World) (hv : ReadsK encC 1 w v l) (hu : ReadsK encC 1 w u m) (hl : l.length ≤ 1000000) (hm : m.length ≤ 1000000) :
    Calls Try.prog 19 #[v, u] w fun e w' => e = .returned (.int .i64 (cmpC l m)) ∧ Below w.heap.size w w' := by
  have HV := Lib.hid hv
  have HU := Lib.hid hu
  clear hv hu
  go_enter Try.func19, Try.ntmps19
  go_wp2_with fail
  refine (rmay_any l v w HV.out hl).mono ?_
  rintro e w1 ⟨rfl, hB⟩
  have HU := Lib.hid (HU.out.below hB)
  have HV := Lib.hid (HV.out.below hB)
  have HB := Lib.hid hB
  clear hB
  cases hma : mayC l
  · have HC : Hid (cmpC l m = 0) := by show _ = _; unfold cmpC; rw [hma]; rfl
    go_wp2_with fail
    go_ret
    exact ⟨ret_intE HC.out.symm, HB.out⟩
  · go_wp2_with fail
    refine (rmay_any m u w1 HU.out hm).mono ?_
    rintro e w2 ⟨rfl, hB⟩
    have HV := Lib.hid (HV.out.below hB)
    have HU := Lib.hid (HU.out.below hB)
    have HB := Lib.hid (HB.out.trans (hB.mono HB.out.size))
    clear hB
    cases hmb : mayC m
    · have HC : Hid (cmpC l m = 0) := by show _ = _; unfold cmpC; rw [hma, hmb]; rfl
      go_wp2_with fail
      go_ret
      exact ⟨ret_intE HC.out.symm, HB.out⟩
    · have HC := Lib.hid (cmpB_bits hma hmb)
      have HM := Lib.hid hmb
      have HA := Lib.hid hma
      clear hma hmb
      go_wp2_with fail
      refine (bits_any l v w2 HV.out HA.out).mono ?_
      rintro e w3 ⟨g1, rfl, hg1, hi, hB⟩
      have HI1 := Lib.hid hi
      have HU := Lib.hid (HU.out.below hB)
      have HB := Lib.hid (HB.out.trans (hB.mono HB.out.size))
      clear hB hi hg1
      go_wp2_with fail
      refine (bits_any m u w3 HU.out HM.out).mono ?_
      rintro e w4 ⟨g2, rfl, hg2, hi, hB⟩
      have HI2 := Lib.hid hi
      have HI1 := Lib.hid (HI1.out.below hB)
      have HB := Lib.hid (HB.out.trans (hB.mono HB.out.size))
      have hA := bitL_len l
      have hBm := bitL_len m
      clear hB hi hg2 HV HU HA HM
      generalize bitL l = A at *
      generalize bitL m = M at *
      go_wp2_with fail
      go_loopg [7] 4097 (fun gk i wr => ∃ k : Nat, gk + k = 4097 ∧ i = .int .i64 k ∧ Below w.heap.size w wr ∧ IRow wr g1 A ∧ IRow wr g2 M ∧ ∀ j, j < k → A.getD j 0 = M.getD j 0)
      case atStart => exact ⟨0, by omega, rfl, HB.out, HI1.out, HI2.out, fun j h0 => by omega⟩
      case round =>
        clear HI1 HI2 HB
        obtain ⟨k, hk, rfl, hB, h1, h2, hall⟩ := hrel
        have HB := Lib.hid hB
        have H1 := Lib.hid h1
        have H2 := Lib.hid h2
        have HALL := Lib.hid hall
        clear hB h1 h2 hall
        by_cases hlt : k < 4097
        · have hle : (k : Int) ≤ 4096 := by omega
          have k1 := H1.out.cellD (j := k) (by omega)
          have k2 := H2.out.cellD (j := k) (by omega)
          have HLT := Lib.hid (fun h => (cmpB_lt hA hBm hlt HALL.out h).symm.trans HC.out)
          have HGT := Lib.hid (fun h => (cmpB_gt hA hBm hlt HALL.out h).symm.trans HC.out)
          have HEQ := Lib.hid (fun h : A.getD k 0 = M.getD k 0 => (show ∀ j, j < k + 1 → A.getD j 0 = M.getD j 0 from fun j hj => by
            by_cases e : j = k
            · subst e; exact h
            · exact HALL.out j (by omega)))
          generalize A.getD k 0 = x at k1 HLT HGT HEQ
          generalize M.getD k 0 = y at k2 HLT HGT HEQ
          by_cases hxy : x < y
          · have d1 : decide (x < y) = true := decide_eq_true hxy
            have HR := Lib.hid (HLT.out hxy)
            go_wp2_with fail
            go_quiet (fail)
            have HBq := Lib.hid (below_drewN HB.out nq)
            generalize wr.drewN nq = wq at *
            clear k1 k2
            go_wp2_with fail
            go_ret
            exact ⟨ret_intE HR.out, HBq.out⟩
          · have d1 : decide (x < y) = false := decide_eq_false hxy
            go_wp2_with fail
            go_quiet (fail)
            have HBq := Lib.hid (below_drewN HB.out nq)
            have HQ1 := Lib.hid (H1.out.below (below_drewN (Below.refl wr.heap.size wr) nq))
            have HQ2 := Lib.hid (H2.out.below (below_drewN (Below.refl wr.heap.size wr) nq))
            have q1 := cell_keep (below_drewN (Below.refl wr.heap.size wr) nq) k1
            have q2 := cell_keep (below_drewN (Below.refl wr.heap.size wr) nq) k2
            generalize wr.drewN nq = wq at *
            clear k1 k2
            by_cases hyx : y < x
            · have d2 : decide (y < x) = true := decide_eq_true hyx
              have HR := Lib.hid (HGT.out hyx)
              go_wp2_with fail
              go_quiet (fail)
              have HBq := Lib.hid (below_drewN HBq.out nq)
              generalize wq.drewN nq = wq2 at *
              go_wp2_with fail
              go_ret
              exact ⟨ret_intE HR.out, HBq.out⟩
            · have d2 : decide (y < x) = false := decide_eq_false hyx
              have HR := Lib.hid (HEQ.out (by omega))
              go_wp2_with fail
              go_quiet (fail)
              have HBq2 := Lib.hid (below_drewN HBq.out nq)
              have HP1 := Lib.hid (HQ1.out.below (below_drewN (Below.refl wq.heap.size wq) nq))
              have HP2 := Lib.hid (HQ2.out.below (below_drewN (Below.refl wq.heap.size wq) nq))
              generalize wq.drewN nq = wq2 at *
              go_wp2_with fail
              go_roundg (gk - 1)
              case rel => exact ⟨k + 1, by omega, by go_num, HBq2.out, HP1.out, HP2.out, HR.out⟩
              case measure => omega
        · have HR := Lib.hid ((cmpB_eq hA hBm (fun j hj => HALL.out j (by omega))).symm.trans HC.out)
          have hgt : ¬ (k : Int) ≤ 4096 := by omega
          go_wp2_with fail
          go_ret
          exact ⟨ret_intE HR.out, HB.out⟩
theorem ret_pairC {v : Value} {a b : Int} (h : a = b) : Ending.returned (.tuple #[v, .int .i64 a]) = Ending.returned (.tuple #[v, .int .i64 b]) := by rw [h]
theorem subA_form {a b : List Int} (h : mayC a = false ∨ mayC b = false) : subA a b = (8, []) := by
  unfold subA
  rcases h with h | h <;> simp [h]
set_option maxHeartbeats 3200000 in
set_option maxRecDepth 100000 in
theorem rsub_any (a b : List Int) (v u : Value) (w : World) (hv : ReadsK encC 1 w v a) (hu : ReadsK encC 1 w u b) (hl : a.length ≤ 1000000) (hm : b.length ≤ 1000000) :
    Calls Try.prog 23 #[v, u] w (SubR a b w) := by
  have HV := Lib.hid hv
  have HU := Lib.hid hu
  clear hv hu
  go_enter Try.func23, Try.ntmps23
  go_wp2_with fail
  refine (rmay_any a v w HV.out hl).mono ?_
  rintro e w1 ⟨rfl, hB⟩
  have HU := Lib.hid (HU.out.below hB)
  have HV := Lib.hid (HV.out.below hB)
  have HB := Lib.hid hB
  clear hB
  cases hma : mayC a
  · have HF := Lib.hid (subA_form (a := a) (b := b) (.inl hma))
    go_wp2_with fail
    go_ret2
    exact ⟨_, ret_pairI (by rw [HF.out]), by rw [HF.out]; exact COwn.nil _ _, HB.out⟩
  · go_wp2_with fail
    refine (rmay_any b u w1 HU.out hm).mono ?_
    rintro e w2 ⟨rfl, hB⟩
    have HV := Lib.hid (HV.out.below hB)
    have HU := Lib.hid (HU.out.below hB)
    have HB := Lib.hid (HB.out.trans (hB.mono HB.out.size))
    clear hB
    cases hmb : mayC b
    · have HF := Lib.hid (subA_form (a := a) (b := b) (.inr hmb))
      go_wp2_with fail
      go_ret2
      exact ⟨_, ret_pairI (by rw [HF.out]), by rw [HF.out]; exact COwn.nil _ _, HB.out⟩
    · have HMA := Lib.hid hma
      have HMB := Lib.hid hmb
      clear hma hmb
      go_wp2_with fail
      refine (rcmp_any a b v u w2 HV.out HU.out hl hm).mono ?_
      rintro e w3 ⟨rfl, hB⟩
      have HV := Lib.hid (HV.out.below hB)
      have HU := Lib.hid (HU.out.below hB)
      have HB := Lib.hid (HB.out.trans (hB.mono HB.out.size))
      clear hB
      by_cases hc : cmpC a b < 0
      · have HF := Lib.hid (subA_lt HMA.out HMB.out hc)
        go_wp2_with fail
        go_ret2
        exact ⟨_, ret_pairI (by rw [HF.out]), by rw [HF.out]; exact COwn.nil _ _, HB.out⟩
      · have HF := Lib.hid (subA_ge HMA.out HMB.out hc)
        have HCC := Lib.hid hc
        go_wp2_with fail
        clear hc
        refine (bits_any a v w3 HV.out HMA.out).mono ?_
        rintro e w4 ⟨g1, rfl, hg1, hi, hB⟩
        have HI1 := Lib.hid hi
        have HU := Lib.hid (HU.out.below hB)
        have HG := Lib.hid (show w.heap.size ≤ g1 from Nat.le_trans HB.out.size hg1)
        have HB := Lib.hid (HB.out.trans (hB.mono HB.out.size))
        clear hB hi hg1
        go_wp2_with fail
        refine (bits_any b u w4 HU.out HMB.out).mono ?_
        rintro e w5 ⟨g2, rfl, hg2, hi, hB⟩
        have HI2 := Lib.hid hi
        have hne : g1 ≠ g2 := by have := HI1.out.lt; omega
        have HI1 := Lib.hid (HI1.out.below hB)
        have HB := Lib.hid (HB.out.trans (hB.mono HB.out.size))
        have hYl := bitL_len b
        have HYB := Lib.hid (bitL_bit b)
        have HS := Lib.hid (BorS.start HMA.out HMB.out)
        have HFN := Lib.hid (fun S (h : BorS 0 ((vC a : Int) - vC b) (bitL b) S) => h.fin HMA.out HMB.out (Int.not_lt.2 HCC.out))
        clear hB hi hg2 HV HU HMA HMB
        generalize (vC a : Int) - vC b = V at *
        generalize bitL a = A at *
        generalize bitL b = Y at *
        go_wp2_with fail
        go_loopg [8] 4097 (fun gk i wr => ∃ X : List Int, i = .int .i64 ((gk : Int) - 1) ∧ gk ≤ 4097 ∧ BorS gk V Y X ∧ IRow wr g1 X ∧ IRow wr g2 Y ∧ Below w.heap.size w wr)
        case atStart => exact ⟨A, rfl, by omega, HS.out, HI1.out, HI2.out, HB.out⟩
        case round =>
          clear HI1 HI2 HB HS
          obtain ⟨X, rfl, hle, hS, h1, h2, hB⟩ := hrel
          have HB := Lib.hid hB
          have H1 := Lib.hid h1
          have H2 := Lib.hid h2
          have HS := Lib.hid hS
          clear hB h1 h2 hS
          cases gk with
          | zero =>
            have HE := Lib.hid (HFN.out X HS.out)
            go_wp2_with fail
            refine (rcred_any X g1 wr HS.out.len H1.out).mono ?_
            rintro e w6 ⟨vv, rfl, ho, hB⟩
            have HO := Lib.hid (show COwn w6 w.heap.size vv (crF 0 X) from owns_low ho HB.out.size)
            have HB := Lib.hid (HB.out.trans (hB.mono HB.out.size))
            clear hB ho
            go_wp2_with fail
            go_ret2
            exact ⟨_, ret_pairC (by rw [HF.out]), by rw [HF.out]; have := HO.out; rw [HE.out] at this; exact this, HB.out⟩
          | succ k =>
            have ek : (((k + 1 : Nat) : Int) - 1) = (k : Int) := by omega
            rw [ek]
            clear ek
            have hk0 : (0 : Int) ≤ (k : Int) := by omega
            have hXl := HS.out.len
            have k1 := H1.out.cellD (j := k) (by omega)
            have k2 := H2.out.cellD (j := k) (by omega)
            have f1 := H1.out.fz k
            have HT := Lib.hid (HS.out.step (by omega) hYl HYB.out)
            have hbd := HS.out.mid k (by omega) rfl
            rw [← getD_at (by omega)] at hbd
            have hby := HYB.out _ (List.getElem_mem (show k < Y.length by omega))
            rw [← getD_at (by omega)] at hby
            have hyb : 0 ≤ Y.getD k 0 ∧ Y.getD k 0 ≤ 1 := by rcases hby with h | h <;> omega
            have hkl : (k : Int) < 4097 := by omega
            clear hby
            obtain ⟨x, hx⟩ : ∃ x, X.getD k 0 = x := ⟨_, rfl⟩
            obtain ⟨y, hy⟩ : ∃ y, Y.getD k 0 = y := ⟨_, rfl⟩
            rw [hx] at hbd k1
            rw [hy] at hyb k2 HT
            have wr1 : IntKind.i64.wrap (x - y) = x - y := by rw [IntKind.wrap_i64]; omega
            have HI1 := Lib.hid (H1.out.set k (x - y))
            have HI2 := Lib.hid (H2.out.other (i := g1) (j := k) (v := .int .i64 (x - y)) hne)
            have HB1 := Lib.hid (HB.out.setCell (p := ⟨g1, k, none⟩) HG.out (.int .i64 (x - y)))
            by_cases hc : x - y < 0 ∧ 0 < k
            · obtain ⟨hneg, hkp⟩ := hc
              obtain ⟨j, hj⟩ : ∃ j, k - 1 = j := ⟨_, rfl⟩
              have k3 := H1.out.cellD (j := j) (by omega)
              have hz := HS.out.low j (by omega) (by omega)
              rw [← getD_at (by omega)] at hz
              have hzb : 0 ≤ X.getD j 0 ∧ X.getD j 0 ≤ 1 := by rcases hz with h | h <;> omega
              have hstep : stepS X k y = (X.set k (x - y + 2)).set j (X.getD j 0 - 1) := by
                unfold stepS
                rw [hx, if_pos ⟨hneg, hkp⟩, hj]
              rw [hstep] at HT
              generalize X.getD j 0 = z at *
              have e1 : ((k : Int) - 1) = (j : Int) := by omega
              have hjk : j ≠ k := by omega
              have hkp2 : (0 : Int) < (k : Int) := by omega
              have hjl : (j : Int) < 4097 := by omega
              have wr2 : IntKind.i64.wrap (x - y + 2) = x - y + 2 := by rw [IntKind.wrap_i64]; omega
              have wr3 : IntKind.i64.wrap (z - 1) = z - 1 := by rw [IntKind.wrap_i64]; omega
              have f3 := H1.out.fz j
              have HJ1 := Lib.hid ((HI1.out.set k (x - y + 2)).set j (z - 1))
              rw [List.set_set] at HJ1
              have HJ2 := Lib.hid ((HI2.out.other (i := g1) (j := k) (v := .int .i64 (x - y + 2)) hne).other (i := g1) (j := j) (v := .int .i64 (z - 1)) hne)
              have HJB := Lib.hid ((HB1.out.setCell (p := ⟨g1, k, none⟩) HG.out (.int .i64 (x - y + 2))).setCell (p := ⟨g1, j, none⟩) HG.out (.int .i64 (z - 1)))
              clear hz hstep hx hy hj
              go_wp2_with fail
              go_still_tail 12, (by kernel_rfl)
              change wpList _ _ _ _ _ wr.drew
              go_wp2_with fail
              go_roundg k
              case rel => exact ⟨_, by go_num, by omega, HT.out, HJ1.out, HJ2.out, HJB.out.drew⟩
              case measure => omega
            · have hstep : stepS X k y = X.set k (x - y) := by
                unfold stepS
                rw [hx, if_neg hc]
              rw [hstep] at HT
              clear hstep hx hy
              by_cases hneg : x - y < 0
              · have hk0' : ¬ (0 : Int) < (k : Int) := by omega
                have hkz : k = 0 := by omega
                subst hkz
                go_wp2_with fail
                go_still_tail 12, (by kernel_rfl)
                change wpList _ _ _ _ _ wr.drew
                go_wp2_with fail
                go_roundg 0
                case rel => exact ⟨_, by go_num, by omega, HT.out, HI1.out, HI2.out, HB1.out.drew⟩
                case measure => omega
              · go_wp2_with fail
                go_still_tail 12, (by kernel_rfl)
                change wpList _ _ _ _ _ wr.drew
                go_wp2_with fail
                go_roundg k
                case rel => exact ⟨_, by go_num, by omega, HT.out, HI1.out, HI2.out, HB1.out.drew⟩
                case measure => omega
end Go.Proofs.Ytgjmnmcbinekdaa
