/- CreditSums, walked. -/
import Derived.Test.YtgjmnmcbinekdaaRefC5
import Derived.Test.YtgjmnmcbinekdaaAlive20
import Derived.Test.YtgjmnmcbinekdaaOpenC20
namespace Go.Proofs.Ytgjmnmcbinekdaa
open Go.RowKit Go.Lib

theorem below_crs {w w' : World} {L : List (Value × List Int)} (h : ∀ p ∈ L, ReadsK encC 1 w p.1 p.2) (hB : Below w.heap.size w w') : ∀ p ∈ L, ReadsK encC 1 w' p.1 p.2 := fun p hp => (h p hp).below hB
theorem halfK_len {l : List Int} (h : l.length ≤ 8192) : (halfK l).length ≤ 10000 := by
  unfold halfK
  split
  · unfold keepL; simp; omega
  · simp
theorem halfG_len {l : List Int} : (halfG l).length ≤ 10000 := by
  unfold halfG
  split
  · unfold giveL; simp
  · simp
theorem subA_len {a b : List Int} : (subA a b).2.length ≤ 4097 := by
  by_cases h : mayC a = true ∧ mayC b = true
  · by_cases hc : cmpC a b < 0
    · rw [subA_lt h.1 h.2 hc]; simp
    · rw [subA_ge h.1 h.2 hc]; exact (sub_left h.1 h.2 hc).2.2.len
  · rw [subA_form (by
      by_cases ha : mayC a = true
      · exact .inr (by simpa [ha] using h)
      · exact .inl (by simpa using ha))]
    simp
set_option maxHeartbeats 16000000 in
set_option maxRecDepth 100000 in
theorem sums_row (v0 v1 v2 : Value) (w : World) (h0 : ∃ L, Crs w v0 L) (h1 : ∃ l, Cr w v1 l) (h2 : ∃ l, Cr w v2 l) :
    Calls Try.prog 4 #[v0, v1, v2] w fun e w' => e = .returned (.bool true) ∧ Below w.heap.size w w' := by
  obtain ⟨C, h0, hCl, hC⟩ := h0
  obtain ⟨a, h1, _, hcap⟩ := h1
  obtain ⟨b, h2, _, _⟩ := h2
  have HC := Lib.hid h0
  have HP := Lib.hid (fun p hp => (hC p hp).1)
  have HA := Lib.hid h1
  have HBB := Lib.hid h2
  obtain ⟨a0, c0, rfl⟩ := h0.slice
  obtain ⟨a1, c1, rfl⟩ := h1.slice
  obtain ⟨a2, c2, rfl⟩ := h2.slice
  have HCAP := Lib.hid hcap
  have HCL := Lib.hid (show (C.length : Int) ≤ 9223372036854775807 by unfold maxLen at hCl; omega)
  clear h0 h1 h2 hC hCl hcap
  have HB := Lib.hid (Below.refl w.heap.size w)
  go_enter Try.func4, Try.ntmps4
  go_wp2_with fail
  refine (long_any C _ w HC.out HCL.out (fun p hp => (HP.out p hp).slice)).mono ?_
  rintro e w1 ⟨lg, rfl, hB, hlg⟩
  have HLG := Lib.hid hlg
  clear hlg
  have HP := Lib.hid (below_crs HP.out hB)
  have HC := Lib.hid (HC.out.below hB)
  have HA := Lib.hid (HA.out.below hB)
  have HBB := Lib.hid (HBB.out.below hB)
  have HB := Lib.hid (HB.out.trans (hB.mono HB.out.size))
  clear hB
  cases lg with
  | true =>
    clear HLG
    go_wp2_with fail
    refine (alive_any w1).mono ?_
    rintro e wz ⟨rfl, hB⟩
    have HB := Lib.hid (HB.out.trans (hB.mono HB.out.size))
    clear hB
    go_wp2_with fail
    go_ret
    exact ⟨rfl, HB.out⟩
  | false =>
    have hl := HLG.out rfl
    have HN := Lib.hid hl.1
    have HPL := Lib.hid hl.2
    clear hl HLG
    go_wp2_with fail
    have hA : Below w1.heap.size w1 (w1.alloc (.cells #[.slice a1 a.length c1, .slice a2 b.length c2] 23)) := ((Below.refl _ _).alloc (Nat.le_refl _) _)
    have HVV : Hid (ReadsK encV 1 (w1.alloc (.cells #[.slice a1 a.length c1, .slice a2 b.length c2] 23)) (.slice (some ⟨w1.heap.size, 0, none⟩) 2 2) [(.slice a1 a.length c1, a), (.slice a2 b.length c2, b)]) := lit_v (L := [(.slice a1 a.length c1, a), (.slice a2 b.length c2, b)]) (show (w1.heap.push _)[w1.heap.size]? = _ from by rw [Array.getElem?_push, if_pos rfl]; rfl)
    have HP := Lib.hid (below_crs HP.out hA)
    have HC := Lib.hid (HC.out.below hA)
    have HA := Lib.hid (HA.out.below hA)
    have HBB := Lib.hid (HBB.out.below hA)
    have HB := Lib.hid (HB.out.trans (hA.mono HB.out.size))
    clear hA
    refine (long_any [(.slice a1 a.length c1, a), (.slice a2 b.length c2, b)] _ _ HVV.out (by simp) (by
      intro p hp
      simp only [List.mem_cons, List.not_mem_nil, or_false] at hp
      rcases hp with rfl | rfl
      · exact ⟨_, _, rfl⟩
      · exact ⟨_, _, rfl⟩
      )).mono ?_
    rintro e w2 ⟨lg, rfl, hB, hlg⟩
    have HLG := Lib.hid hlg
    clear hlg HVV
    have HP := Lib.hid (below_crs HP.out hB)
    have HC := Lib.hid (HC.out.below hB)
    have HA := Lib.hid (HA.out.below hB)
    have HBB := Lib.hid (HBB.out.below hB)
    have HB := Lib.hid (HB.out.trans (hB.mono HB.out.size))
    clear hB
    cases lg with
    | true =>
      clear HLG
      go_wp2_with fail
      refine (alive_any w2).mono ?_
      rintro e wz ⟨rfl, hB⟩
      have HB := Lib.hid (HB.out.trans (hB.mono HB.out.size))
      clear hB
      go_wp2_with fail
      go_ret
      exact ⟨rfl, HB.out⟩
    | false =>
      have hl := (HLG.out rfl).2
      have hal : a.length ≤ 8192 := hl (.slice a1 a.length c1, a) (by simp)
      have hbl : b.length ≤ 8192 := hl (.slice a2 b.length c2, b) (by simp)
      have HAL := Lib.hid hal
      have HBL := Lib.hid hbl
      clear hl hal hbl HLG
      go_wp2_with fail
      refine (add_any C _ w2 HC.out (by have := HN.out; omega) (fun p hp => ⟨HP.out p hp, Nat.le_trans (HPL.out p hp) (by decide)⟩)).mono ?_
      rintro e w3 ⟨vc, rfl, ho, hB⟩
      have RC := Lib.hid (show COwn w3 _ vc (addL (C.map (·.2))).2 from ho).reads
      obtain ⟨avc, cvc, rfl⟩ := RC.out.slice
      have HP := Lib.hid (below_crs HP.out hB)
      have HC := Lib.hid (HC.out.below hB)
      have HA := Lib.hid (HA.out.below hB)
      have HBB := Lib.hid (HBB.out.below hB)
      have HB := Lib.hid (HB.out.trans (hB.mono HB.out.size))
      clear hB ho
      go_wp2_with fail
      refine (radd_any C _ w3 HC.out HN.out (fun p hp => ⟨HP.out p hp, Nat.le_trans (HPL.out p hp) (by decide)⟩)).mono ?_
      rintro e w4 ⟨vd, rfl, ho, hB⟩
      have RD := Lib.hid (show COwn w4 _ vd (addL (C.map (·.2))).2 from ho).reads
      obtain ⟨avd, cvd, rfl⟩ := RD.out.slice
      have HP := Lib.hid (below_crs HP.out hB)
      have HC := Lib.hid (HC.out.below hB)
      have HA := Lib.hid (HA.out.below hB)
      have HBB := Lib.hid (HBB.out.below hB)
      have RC := Lib.hid (RC.out.below hB)
      have HB := Lib.hid (HB.out.trans (hB.mono HB.out.size))
      clear hB ho
      go_wp2_with fail
      refine (sub_any a b _ _ w4 HA.out HBB.out (Nat.le_trans HAL.out (by decide)) (Nat.le_trans HBL.out (by decide))).mono ?_
      rintro e w5 ⟨vx, rfl, ho, hB⟩
      have RX := Lib.hid (show COwn w5 _ vx (subA a b).2 from ho).reads
      obtain ⟨avx, cvx, rfl⟩ := RX.out.slice
      have HP := Lib.hid (below_crs HP.out hB)
      have HC := Lib.hid (HC.out.below hB)
      have HA := Lib.hid (HA.out.below hB)
      have HBB := Lib.hid (HBB.out.below hB)
      have RC := Lib.hid (RC.out.below hB)
      have RD := Lib.hid (RD.out.below hB)
      have HB := Lib.hid (HB.out.trans (hB.mono HB.out.size))
      clear hB ho
      go_wp2_with fail
      refine (rsub_any a b _ _ w5 HA.out HBB.out (Nat.le_trans HAL.out (by decide)) (Nat.le_trans HBL.out (by decide))).mono ?_
      rintro e w6 ⟨vy, rfl, ho, hB⟩
      have RY := Lib.hid (show COwn w6 _ vy (subA a b).2 from ho).reads
      obtain ⟨avy, cvy, rfl⟩ := RY.out.slice
      have HP := Lib.hid (below_crs HP.out hB)
      have HC := Lib.hid (HC.out.below hB)
      have HA := Lib.hid (HA.out.below hB)
      have HBB := Lib.hid (HBB.out.below hB)
      have RC := Lib.hid (RC.out.below hB)
      have RD := Lib.hid (RD.out.below hB)
      have RX := Lib.hid (RX.out.below hB)
      have HB := Lib.hid (HB.out.trans (hB.mono HB.out.size))
      clear hB ho
      go_wp2_with fail
      refine (half_any a _ w6 HA.out HCAP.out (Nat.le_trans HAL.out (by decide))).mono ?_
      intro e w7 hq
      obtain ⟨vk, vm, rfl, ho, hu, hB⟩ := halfR_q hq
      clear hq
      have RK := Lib.hid (show COwn w7 _ vk (halfK a) from ho).reads
      have RM := Lib.hid (show COwn w7 _ vm (halfG a) from hu).reads
      obtain ⟨avk, cvk, rfl⟩ := RK.out.slice
      obtain ⟨avm, cvm, rfl⟩ := RM.out.slice
      have HP := Lib.hid (below_crs HP.out hB)
      have HC := Lib.hid (HC.out.below hB)
      have HA := Lib.hid (HA.out.below hB)
      have HBB := Lib.hid (HBB.out.below hB)
      have RC := Lib.hid (RC.out.below hB)
      have RD := Lib.hid (RD.out.below hB)
      have RX := Lib.hid (RX.out.below hB)
      have RY := Lib.hid (RY.out.below hB)
      have HB := Lib.hid (HB.out.trans (hB.mono HB.out.size))
      clear hB ho hu
      go_wp2_with fail
      refine (rhalf_any a _ w7 HA.out HCAP.out (Nat.le_trans HAL.out (by decide))).mono ?_
      rintro e w8 ⟨vn, vo, rfl, ho, hu, hB⟩
      have RN := Lib.hid (show COwn w8 _ vn (halfK a) from ho).reads
      have RO := Lib.hid (show COwn w8 _ vo (halfG a) from hu).reads
      obtain ⟨avn, cvn, rfl⟩ := RN.out.slice
      obtain ⟨avo, cvo, rfl⟩ := RO.out.slice
      have HP := Lib.hid (below_crs HP.out hB)
      have HC := Lib.hid (HC.out.below hB)
      have HA := Lib.hid (HA.out.below hB)
      have HBB := Lib.hid (HBB.out.below hB)
      have RC := Lib.hid (RC.out.below hB)
      have RD := Lib.hid (RD.out.below hB)
      have RX := Lib.hid (RX.out.below hB)
      have RY := Lib.hid (RY.out.below hB)
      have RK := Lib.hid (RK.out.below hB)
      have RM := Lib.hid (RM.out.below hB)
      have HB := Lib.hid (HB.out.trans (hB.mono HB.out.size))
      clear hB ho hu
      have addlen := Lib.hid (Nat.le_trans (addL_len (C.map (·.2))) (show 4097 ≤ 1000000 by decide))
      have sublen := Lib.hid (Nat.le_trans (subA_len (a := a) (b := b)) (show 4097 ≤ 1000000 by decide))
      have klen := Lib.hid (Nat.le_trans (halfK_len HAL.out) (show 10000 ≤ 1000000 by decide))
      have glen := Lib.hid (Nat.le_trans (halfG_len (l := a)) (show 10000 ≤ 1000000 by decide))
      go_wp2_with fail
      refine (rsame_any (addL (C.map (·.2))).2 (addL (C.map (·.2))).2 _ _ w8 RC.out RD.out addlen.out addlen.out).mono ?_
      rintro e w9 ⟨rfl, hB⟩
      rw [decide_eq_true rfl]
      have HP := Lib.hid (below_crs HP.out hB)
      have HC := Lib.hid (HC.out.below hB)
      have HA := Lib.hid (HA.out.below hB)
      have HBB := Lib.hid (HBB.out.below hB)
      have RC := Lib.hid (RC.out.below hB)
      have RD := Lib.hid (RD.out.below hB)
      have RX := Lib.hid (RX.out.below hB)
      have RY := Lib.hid (RY.out.below hB)
      have RK := Lib.hid (RK.out.below hB)
      have RM := Lib.hid (RM.out.below hB)
      have RN := Lib.hid (RN.out.below hB)
      have RO := Lib.hid (RO.out.below hB)
      have HB := Lib.hid (HB.out.trans (hB.mono HB.out.size))
      clear hB
      go_wp2_with fail
      refine (rsame_any (subA a b).2 (subA a b).2 _ _ w9 RX.out RY.out sublen.out sublen.out).mono ?_
      rintro e w10 ⟨rfl, hB⟩
      rw [decide_eq_true rfl]
      have HP := Lib.hid (below_crs HP.out hB)
      have HC := Lib.hid (HC.out.below hB)
      have HA := Lib.hid (HA.out.below hB)
      have HBB := Lib.hid (HBB.out.below hB)
      have RC := Lib.hid (RC.out.below hB)
      have RD := Lib.hid (RD.out.below hB)
      have RX := Lib.hid (RX.out.below hB)
      have RY := Lib.hid (RY.out.below hB)
      have RK := Lib.hid (RK.out.below hB)
      have RM := Lib.hid (RM.out.below hB)
      have RN := Lib.hid (RN.out.below hB)
      have RO := Lib.hid (RO.out.below hB)
      have HB := Lib.hid (HB.out.trans (hB.mono HB.out.size))
      clear hB
      go_wp2_with fail
      refine (rsame_any (halfK a) (halfK a) _ _ w10 RK.out RN.out klen.out klen.out).mono ?_
      rintro e w11 ⟨rfl, hB⟩
      rw [decide_eq_true rfl]
      have HP := Lib.hid (below_crs HP.out hB)
      have HC := Lib.hid (HC.out.below hB)
      have HA := Lib.hid (HA.out.below hB)
      have HBB := Lib.hid (HBB.out.below hB)
      have RC := Lib.hid (RC.out.below hB)
      have RD := Lib.hid (RD.out.below hB)
      have RX := Lib.hid (RX.out.below hB)
      have RY := Lib.hid (RY.out.below hB)
      have RK := Lib.hid (RK.out.below hB)
      have RM := Lib.hid (RM.out.below hB)
      have RN := Lib.hid (RN.out.below hB)
      have RO := Lib.hid (RO.out.below hB)
      have HB := Lib.hid (HB.out.trans (hB.mono HB.out.size))
      clear hB
      go_wp2_with fail
      refine (rsame_any (halfG a) (halfG a) _ _ w11 RM.out RO.out glen.out glen.out).mono ?_
      rintro e w12 ⟨rfl, hB⟩
      rw [decide_eq_true rfl]
      have HP := Lib.hid (below_crs HP.out hB)
      have HC := Lib.hid (HC.out.below hB)
      have HA := Lib.hid (HA.out.below hB)
      have HBB := Lib.hid (HBB.out.below hB)
      have RC := Lib.hid (RC.out.below hB)
      have RD := Lib.hid (RD.out.below hB)
      have RX := Lib.hid (RX.out.below hB)
      have RY := Lib.hid (RY.out.below hB)
      have RK := Lib.hid (RK.out.below hB)
      have RM := Lib.hid (RM.out.below hB)
      have RN := Lib.hid (RN.out.below hB)
      have RO := Lib.hid (RO.out.below hB)
      have HB := Lib.hid (HB.out.trans (hB.mono HB.out.size))
      clear hB
      go_wp2_with fail
      refine (alive_any w12).mono ?_
      rintro e wz ⟨rfl, hB⟩
      have HB := Lib.hid (HB.out.trans (hB.mono HB.out.size))
      clear hB
      go_wp2_with fail
      go_ret
      exact ⟨rfl, HB.out⟩
end Go.Proofs.Ytgjmnmcbinekdaa
