/- The document's answers for credits: several together; halves. -/
import Derived.Test.YtgjmnmcbinekdaaRefC2
namespace Go.Proofs.Ytgjmnmcbinekdaa
open Go.RowKit Go.Sort Go.Lib

/-- The first k numbers are sums already. -/
def zipK (S B : List Int) (k : Nat) : List Int := (List.zipWith (· + ·) S B).take k ++ S.drop k
theorem zipK_zero (S B : List Int) : zipK S B 0 = S := rfl
theorem zipK_len {S B : List Int} (h : S.length = 4097) (h' : B.length = 4097) {k : Nat} (hk : k ≤ 4097) : (zipK S B k).length = 4097 := by
  unfold zipK
  rw [List.length_append, List.length_take, List.length_drop, List.length_zipWith]; omega
theorem zipK_all {S B : List Int} (h : S.length = 4097) (h' : B.length = 4097) : zipK S B 4097 = List.zipWith (· + ·) S B := by
  unfold zipK
  rw [List.take_of_length_le (by rw [List.length_zipWith]; omega), List.drop_of_length_le (by omega), List.append_nil]
theorem zipK_at {S B : List Int} (h : S.length = 4097) (h' : B.length = 4097) {k : Nat} (hk : k < 4097) : (zipK S B k).getD k 0 = S.getD k 0 := by
  unfold zipK
  rw [List.getD_eq_getElem?_getD, List.getD_eq_getElem?_getD, List.getElem?_append_right (by rw [List.length_take]; omega), List.getElem?_drop, List.length_take, List.length_zipWith]
  congr 2
  omega
theorem zipK_step {S B : List Int} (h : S.length = 4097) (h' : B.length = 4097) {k : Nat} (hk : k < 4097) : (zipK S B k).set k (S.getD k 0 + B.getD k 0) = zipK S B (k + 1) := by
  have hz : (List.zipWith (· + ·) S B).length = 4097 := by rw [List.length_zipWith]; omega
  apply List.ext_getElem?
  intro j
  rw [List.getElem?_set]
  unfold zipK
  by_cases hj : k = j
  · subst hj
    rw [if_pos rfl, if_pos (by have := zipK_len h h' (k := k) (by omega); unfold zipK at this; omega)]
    rw [List.getElem?_append_left (by rw [List.length_take]; omega), List.getElem?_take_of_lt (by omega), List.getElem?_zipWith, getD_at (by omega), getD_at (by omega), List.getElem?_eq_getElem (by omega), List.getElem?_eq_getElem (by omega)]
  · rw [if_neg hj]
    by_cases hlt : j < k
    · rw [List.getElem?_append_left (by rw [List.length_take]; omega), List.getElem?_append_left (by rw [List.length_take]; omega), List.getElem?_take_of_lt hlt, List.getElem?_take_of_lt (by omega)]
    · rw [List.getElem?_append_right (by rw [List.length_take]; omega), List.getElem?_append_right (by rw [List.length_take]; omega), List.getElem?_drop, List.getElem?_drop, List.length_take, List.length_take]
      congr 1
      omega
theorem stepA_nat {X : List Int} {k a b : Nat} (ha : X.getD (k + 1) 0 = (a : Int)) (hb : X.getD k 0 = (b : Int)) : stepA X (k + 1) = (X.set k ((b : Int) + (a : Int) / 2)).set (k + 1) ((a : Int) % 2) := by
  unfold stepA
  rw [Nat.add_sub_cancel, ha, hb]
theorem finB_over {S : List Int} (h : 1 < S.getD 0 0 ∨ S.getD 0 0 = 1 ∧ 1 < (crF 0 S).length) : finB S = (9, []) := by unfold finB; rw [if_pos h]
theorem finB_ok {S : List Int} (h : ¬ (1 < S.getD 0 0 ∨ S.getD 0 0 = 1 ∧ 1 < (crF 0 S).length)) : finB S = (0, crF 0 S) := by unfold finB; rw [if_neg h]
set_option maxHeartbeats 6400000 in
set_option maxRecDepth 100000 in
theorem radd_any (L : List (Value × List Int)) (v : Value) (w : World) (h : ReadsK encV 1 w v L) (hL : L.length ≤ 20) (hr : ∀ p ∈ L, ReadsK encC 1 w p.1 p.2 ∧ p.2.length ≤ 1000000) :
    Calls Try.prog 21 #[v] w (AddR (L.map (·.2)) w) := by
  obtain ⟨a, c, rfl⟩ := h.slice
  have HR := Lib.hid h
  have HP := Lib.hid hr
  clear h hr
  have hmk := make_ints
  have HI := Lib.hid (made_irow w)
  have HB0 : Hid (Below w.heap.size w (w.alloc (.cells (madeCells #[.int .i64 0] 4097) 3))) := (Below.refl _ _).alloc (Nat.le_refl _) _
  go_enter Try.func21, Try.ntmps21
  go_wp2_with fail
  go_loopg [5] L.length (fun gk i wr => ∃ k : Nat, gk + k = L.length ∧ i = .int .i64 k ∧ IRow wr w.heap.size (List.replicate 4097 0) ∧ Below w.heap.size w wr ∧ ∀ j (hj : j < L.length), j < k → mayC L[j].2 = true)
  case atStart => exact ⟨0, by omega, rfl, HI.out, HB0.out, fun j hj h0 => by omega⟩
  case round =>
    clear hmk HI HB0
    obtain ⟨k, hk, rfl, hI, hB, hall⟩ := hrel
    have HALL := Lib.hid hall
    have HB := Lib.hid hB
    have HI := Lib.hid hI
    clear hall hB hI
    by_cases hlt : k < L.length
    · obtain ⟨b, off, cc, he, hb, hc⟩ := (HR.out.below HB.out).at (by omega)
      injection he with he1 he2 he3
      subst he1
      have k1 : wr.cell? ⟨b, off + k, none⟩ = some L[k].1 := by have h := hc k hlt 0 _ rfl; rw [Nat.mul_one, Nat.add_zero] at h; exact h
      have HPK := Lib.hid (HP.out L[k] (List.getElem_mem hlt))
      have HRK := Lib.hid (HPK.out.1.below HB.out)
      clear hc hb he2 he3
      go_wp2_with fail
      refine (rmay_any L[k].2 L[k].1 wr HRK.out HPK.out.2).mono ?_
      rintro e w1 ⟨rfl, hB⟩
      have HI := Lib.hid (HI.out.below hB)
      have HB := Lib.hid (HB.out.trans (hB.mono HB.out.size))
      clear hB k1
      cases hm : mayC L[k].2
      · have HF := Lib.hid (addL_form (L := L.map (·.2)) (l := L[k].2) (List.mem_map.2 ⟨L[k], List.getElem_mem hlt, rfl⟩) hm)
        clear hm
        go_wp2_with fail
        go_ret2
        exact ⟨.slice none 0 0, by rw [HF.out]; rfl, by rw [HF.out]; exact COwn.nil _ _, HB.out⟩
      · have HM := Lib.hid hm
        clear hm
        go_wp2_with fail
        go_roundg (gk - 1)
        case rel => exact ⟨k + 1, by omega, by go_num, HI.out, HB.out, fun j hj h0 => by
          by_cases e : j = k
          · subst e; exact HM.out
          · exact HALL.out j hj (by omega)⟩
        case measure => omega
    · have HMAY : Hid (∀ l ∈ L.map (·.2), mayC l = true) := by
        intro l hl
        obtain ⟨p, hp, rfl⟩ := List.mem_map.1 hl
        obtain ⟨j, hj, rfl⟩ := List.getElem_of_mem hp
        exact HALL.out j hj (by omega)
      have HSP := Lib.hid (sumB_ok (L.map (·.2)) HMAY.out)
      have hnk : ¬ (k : Int) < (L.length : Int) := by omega
      clear HALL
      go_wp2_with fail
      clear hlt hnk
      go_loopg [6] L.length (fun gk i wr => ∃ k : Nat, gk + k = L.length ∧ i = .int .i64 k ∧ IRow wr w.heap.size (sumB ((L.map (·.2)).take k)) ∧ Below w.heap.size w wr)
      case atStart => exact ⟨0, by omega, rfl, HI.out, HB.out⟩
      case round =>
        clear HI HB
        obtain ⟨k, hk, rfl, hI, hB⟩ := hrel
        have HB := Lib.hid hB
        have HI := Lib.hid hI
        clear hB hI
        by_cases hlt : k < L.length
        · obtain ⟨b, off, cc, he, hb, hc⟩ := (HR.out.below HB.out).at (by omega)
          injection he with he1 he2 he3
          subst he1
          have k1 : wr.cell? ⟨b, off + k, none⟩ = some L[k].1 := by have h := hc k hlt 0 _ rfl; rw [Nat.mul_one, Nat.add_zero] at h; exact h
          have HPK := Lib.hid (HP.out L[k] (List.getElem_mem hlt))
          have HRK := Lib.hid (HPK.out.1.below HB.out)
          have hlm : k < (L.map (·.2)).length := by rw [List.length_map]; exact hlt
          have HT := Lib.hid (sumB_take hlm)
          have HMK := Lib.hid (HMAY.out _ (List.getElem_mem hlm))
          have hST := sumB_ok ((L.map (·.2)).take k) (fun l hl => HMAY.out l (List.mem_of_mem_take hl))
          have hTL : ((L.map (·.2)).take k).length ≤ 20 := by rw [List.length_take, List.length_map]; omega
          rw [List.getElem_map] at HT HMK
          have HSB := Lib.hid hST.bd
          have hSl := hST.len
          clear hc hb he2 he3 hST
          generalize ((L.map (·.2)).take k).length = nT at *
          obtain ⟨G, hG⟩ : ∃ G, G = gk := ⟨_, rfl⟩
          subst hG
          go_wp2_with fail
          refine (bits_any L[k].2 L[k].1 wr HRK.out HMK.out).mono ?_
          rintro e w1 ⟨g2, rfl, hg2, hi, hB⟩
          have HI2 := Lib.hid hi
          have hne : w.heap.size ≠ g2 := by have := HI.out.lt; omega
          have HI := Lib.hid (HI.out.below hB)
          have HB := Lib.hid (HB.out.trans (hB.mono HB.out.size))
          have hYl := bitL_len L[k].2
          have HYB := Lib.hid (bitL_bit L[k].2)
          clear hB hi hg2 k1
          generalize bitL L[k].2 = Y at *
          generalize sumB ((L.map (·.2)).take k) = S at *
          go_wp2_with fail
          go_loopg [8] 4097 (fun gi i wr => ∃ t : Nat, gi + t = 4097 ∧ i = .int .i64 t ∧ IRow wr w.heap.size (zipK S Y t) ∧ IRow wr g2 Y ∧ Below w.heap.size w wr)
          case atStart => exact ⟨0, by omega, rfl, HI.out, HI2.out, HB.out⟩
          case round =>
            clear HI HI2 HB
            obtain ⟨t, ht, rfl, hI, hI2, hB⟩ := hrel
            have HB := Lib.hid hB
            have HI := Lib.hid hI
            have HI2 := Lib.hid hI2
            clear hB hI hI2
            by_cases htl : t < 4097
            · have hle : (t : Int) ≤ 4096 := by omega
              have hzl := zipK_len hSl hYl (k := t) (by omega)
              have k1 := HI.out.cellD (j := t) (by omega)
              rw [zipK_at hSl hYl htl] at k1
              have k2 := HI2.out.cellD (j := t) (by omega)
              have f1 := HI.out.fz t
              have HZ := Lib.hid (HI.out.set t (S.getD t 0 + Y.getD t 0))
              rw [zipK_step hSl hYl htl] at HZ
              have b1 := HSB.out _ (List.getElem_mem (show t < S.length by omega))
              have b2 := HYB.out _ (List.getElem_mem (show t < Y.length by omega))
              rw [← getD_at (by omega)] at b1 b2
              generalize S.getD t 0 = x at *
              generalize Y.getD t 0 = y at *
              have b3 : 0 ≤ y ∧ y ≤ 1 := by rcases b2 with h | h <;> omega
              have wr1 : IntKind.i64.wrap (x + y) = x + y := by rw [IntKind.wrap_i64]; omega
              have htl2 : (t : Int) < 4097 := by omega
              have HB1 := Lib.hid (HB.out.setCell (p := ⟨w.heap.size, t, none⟩) (Nat.le_refl _) (.int .i64 (x + y)))
              have HY1 := Lib.hid (HI2.out.other (i := w.heap.size) (j := t) (v := .int .i64 (x + y)) hne)
              clear b2
              go_wp2_with fail
              go_still_tail 12, (by kernel_rfl)
              change wpList _ _ _ _ _ wr.drew
              go_wp2_with fail
              go_roundg (gk - 1)
              case rel => exact ⟨t + 1, by omega, by go_num, HZ.out, HY1.out, HB1.out.drew⟩
              case measure => omega
            · have ht4 : t = 4097 := by omega
              subst ht4
              have HZ := HI.out
              rw [zipK_all hSl hYl, ← HT.out] at HZ
              have HZ := Lib.hid HZ
              go_wp2_with fail
              go_roundg (G - 1)
              case rel => exact ⟨k + 1, by omega, by go_num, HZ.out, HB.out⟩
              case measure => omega
        · have hkl : k = L.length := by omega
          have HS0 := HI.out
          rw [List.take_of_length_le (by rw [List.length_map]; omega)] at HS0
          have HCA := Lib.hid (CarA.start HSP.out (by rw [List.length_map]; exact hL))
          have HS0 := Lib.hid HS0
          have HFN := Lib.hid (fun S (h : CarA 0 (((L.map (·.2)).map vC).sum : Nat) S) => h.fin HMAY.out rfl)
          clear HI HSP
          generalize ((((L.map (·.2)).map vC).sum : Nat) : Int) = V at *
          generalize sumB (L.map (·.2)) = S0 at *
          go_wp2_with fail
          clear hlt hkl
          go_loopg [9] 4096 (fun gi i wr => ∃ X : List Int, i = .int .i64 (gi : Int) ∧ gi ≤ 4096 ∧ CarA gi V X ∧ IRow wr w.heap.size X ∧ Below w.heap.size w wr)
          case atStart => exact ⟨S0, rfl, by omega, HCA.out, HS0.out, HB.out⟩
          case round =>
            clear HB HS0 HCA
            obtain ⟨X, rfl, hle, hC, hI, hB⟩ := hrel
            have HB := Lib.hid hB
            have HI := Lib.hid hI
            have HC := Lib.hid hC
            clear hB hI hC
            cases gk with
            | succ k =>
              have hXl := HC.out.len
              have hm := HC.out.mid
              have hlo := HC.out.low k (by omega) (by omega)
              rw [← getD_at (by omega)] at hlo
              obtain ⟨a, ha⟩ : ∃ a : Nat, X.getD (k + 1) 0 = (a : Int) := ⟨(X.getD (k + 1) 0).toNat, by omega⟩
              obtain ⟨b, hb⟩ : ∃ b : Nat, X.getD k 0 = (b : Int) := ⟨(X.getD k 0).toNat, by omega⟩
              have HT := HC.out.step (by omega)
              rw [stepA_nat ha hb] at HT
              have HT := Lib.hid HT
              have k1 := HI.out.cellD (j := k + 1) (by omega)
              have k2 := HI.out.cellD (j := k) (by omega)
              rw [ha] at k1 hm
              rw [hb] at k2 hlo
              have f1 := HI.out.fz k
              have f2 := HI.out.fz (k + 1)
              have HJ := Lib.hid ((HI.out.set k ((b : Int) + (a : Int) / 2)).set (k + 1) ((a : Int) % 2))
              have HJB := Lib.hid ((HB.out.setCell (p := ⟨w.heap.size, k, none⟩) (Nat.le_refl _) (.int .i64 ((b : Int) + (a : Int) / 2))).setCell (p := ⟨w.heap.size, k + 1, none⟩) (Nat.le_refl _) (.int .i64 ((a : Int) % 2)))
              have wr2 : IntKind.i64.wrap ((b : Int) + (a : Int) / 2) = (b : Int) + (a : Int) / 2 := by rw [IntKind.wrap_i64]; omega
              obtain ⟨m, hm1⟩ : ∃ m, k + 1 = m := ⟨_, rfl⟩
              rw [hm1] at HT k1 HJ HJB f2 ⊢
              have e1 : ((m : Int) - 1) = (k : Int) := by omega
              have wrm : IntKind.i64.wrap (k : Int) = (k : Int) := by rw [IntKind.wrap_i64]; omega
              have hkm : k ≠ m := by omega
              have hmp : (0 : Int) < (m : Int) := by omega
              have hkl : (k : Int) < 4097 := by omega
              have hml : (m : Int) < 4097 := by omega
              clear ha hb
              go_wp2_with fail
              go_still_tail 15, (by kernel_rfl)
              change wpList _ _ _ _ _ wr.drew
              go_wp2_with fail
              go_roundg k
              case rel => exact ⟨_, by go_num, by omega, HT.out, HJ.out, HJB.out.drew⟩
              case measure => omega
            | zero =>
              have HFX := Lib.hid (HFN.out X HC.out)
              have hXl := HC.out.len
              go_wp2_with fail
              refine (rcred_any X w.heap.size wr hXl HI.out).mono ?_
              rintro e w6 ⟨vv, rfl, ho, hB⟩
              have HO := Lib.hid (show COwn w6 w.heap.size vv (crF 0 X) from owns_low ho HB.out.size)
              have HI := Lib.hid (HI.out.below hB)
              have HB := Lib.hid (HB.out.trans (hB.mono HB.out.size))
              clear hB ho
              obtain ⟨oa, oc, rfl⟩ := HO.out.reads.slice
              have k1 := HI.out.cellD (j := 0) (by omega)
              have HOV := Lib.hid (fun h => (finB_over (S := X) h).symm.trans HFX.out)
              have HOK := Lib.hid (fun h => (finB_ok (S := X) h).symm.trans HFX.out)
              generalize X.getD 0 0 = x at *
              by_cases h1 : 1 < x
              · have HR := Lib.hid (HOV.out (.inl h1))
                go_wp2_with fail
                go_ret2
                exact ⟨.slice none 0 0, ret_pairI (by rw [← HR.out]), by rw [← HR.out]; exact COwn.nil _ _, HB.out⟩
              · by_cases h2 : x = 1
                · have hb2 : (x == 1) = true := by simp [h2]
                  by_cases h3 : 1 < (crF 0 X).length
                  · have HR := Lib.hid (HOV.out (.inr ⟨h2, h3⟩))
                    have h3' : (1 : Int) < ((crF 0 X).length : Int) := by omega
                    go_wp2_with fail
                    go_ret2
                    exact ⟨.slice none 0 0, ret_pairI (by rw [← HR.out]), by rw [← HR.out]; exact COwn.nil _ _, HB.out⟩
                  · have HR := Lib.hid (HOK.out (by omega))
                    have h3' : ¬ (1 : Int) < ((crF 0 X).length : Int) := by omega
                    go_wp2_with fail
                    go_ret2
                    exact ⟨_, ret_pairI (by rw [← HR.out]), by rw [← HR.out]; exact HO.out, HB.out⟩
                · have hb2 : (x == 1) = false := by simp [h2]
                  have HR := Lib.hid (HOK.out (by omega))
                  go_wp2_with fail
                  go_ret2
                  exact ⟨_, ret_pairI (by rw [← HR.out]), by rw [← HR.out]; exact HO.out, HB.out⟩
/-- What Half answers. -/
def halfE (l : List Int) : Int := if mayC l then (if l = [] then 5 else if 4096 < l.getD (l.length - 1) 0 + 1 then 6 else 0) else 8
def halfK (l : List Int) : List Int := if halfE l = 0 then keepL l else []
def halfG (l : List Int) : List Int := if halfE l = 0 then giveL l else []
def HalfQ (l : List Int) (w : World) (e : Ending) (w' : World) : Prop := ∃ v u, e = .returned (.tuple #[v, u, .int .i64 (halfE l)]) ∧ COwn w' w.heap.size v (halfK l) ∧ COwn w' w.heap.size u (halfG l) ∧ Below w.heap.size w w'
theorem halfQ_no {l : List Int} {w w' : World} {c : Int} (hB : Below w.heap.size w w') (hc : halfE l = c) (h0 : c ≠ 0) : HalfQ l w (.returned (.tuple #[.slice none 0 0, .slice none 0 0, .int .i64 c])) w' := by
  subst hc
  refine ⟨_, _, rfl, ?_, ?_, hB⟩
  · unfold halfK; rw [if_neg h0]; exact COwn.nil _ _
  · unfold halfG; rw [if_neg h0]; exact COwn.nil _ _
theorem halfQ_yes {l : List Int} {w w' : World} {v u : Value} (hB : Below w.heap.size w w') (hc : halfE l = 0) (hv : COwn w' w.heap.size v (keepL l)) (hu : COwn w' w.heap.size u (giveL l)) : HalfQ l w (.returned (.tuple #[v, u, .int .i64 0])) w' := by
  refine ⟨v, u, by rw [hc], ?_, ?_, hB⟩
  · unfold halfK; rw [if_pos hc]; exact hv
  · unfold halfG; rw [if_pos hc]; exact hu
theorem halfR_q {l : List Int} {w w' : World} {e : Ending} (h : HalfR l w e w') : HalfQ l w e w' := by
  rcases h with ⟨c, h0, hc, hover, rfl, hB⟩ | ⟨hm, hn, hov, v, u, rfl, hv, hu, _, hB⟩
  · refine halfQ_no hB ?_ h0
    unfold halfE
    rw [hc]
    by_cases hm : mayC l = true
    · rw [if_pos hm, if_pos hm]
      by_cases hn : l = []
      · rw [if_pos hn, if_pos hn]
      · rw [if_neg hn, if_neg hn, if_pos (hover hm hn)]
    · rw [if_neg hm, if_neg hm]
  · exact halfQ_yes hB (by unfold halfE; rw [if_pos hm, if_neg hn, if_neg hov]) hv hu
end Go.Proofs.Ytgjmnmcbinekdaa
