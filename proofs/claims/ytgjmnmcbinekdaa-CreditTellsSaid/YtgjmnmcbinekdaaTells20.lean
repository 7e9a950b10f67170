/- CreditTells, walked. -/
import Derived.Test.YtgjmnmcbinekdaaRefC8
import Derived.Test.YtgjmnmcbinekdaaRefC2
import Derived.Test.YtgjmnmcbinekdaaAlive20
import Derived.Test.YtgjmnmcbinekdaaOpen20
namespace Go.Proofs.Ytgjmnmcbinekdaa
open Go.RowKit Go.Lib

theorem manyS_len : ∀ (k : Nat) (s : List UInt8 × Int), (manyS k s).1.length = k
  | 0, _ => rfl
  | k + 1, s => by rw [manyS_succ]; simp [manyS_len k]
theorem decA_len (l : List UInt8) : (decA l).1.length ≤ 1000000 := by
  unfold decA
  split
  · unfold decM
    rw [manyS_len]
    exact Nat.le_trans (cntS_le 4097 (l, 0)) (by decide)
  · simp
set_option maxHeartbeats 16000000 in
set_option maxRecDepth 100000 in
theorem tells_walk (v0 v1 : Value) (s : List UInt8) (w : World) (h0 : ∃ l, Cr w v0 l) (h1 : ∃ l, Cr w v1 l) (hs : (s.length : Int) ≤ 9223372036854775807) :
    Calls Try.prog 3 #[v0, v1, .string ⟨s.toArray⟩] w fun e w' => e = .returned (.bool true) ∧ Below w.heap.size w w' := by
  obtain ⟨a, h1', _, _⟩ := h0
  obtain ⟨b, h2', _, _⟩ := h1
  have HA := Lib.hid h1'
  have HBB := Lib.hid h2'
  obtain ⟨a1, c1, rfl⟩ := h1'.slice
  obtain ⟨a2, c2, rfl⟩ := h2'.slice
  clear h1' h2'
  have HB := Lib.hid (Below.refl w.heap.size w)
  go_enter Try.func3, Try.ntmps3
  go_wp2_with fail
  have hA : Below w.heap.size w (w.alloc (.cells #[.slice a1 a.length c1, .slice a2 b.length c2] 23)) := ((Below.refl _ _).alloc (Nat.le_refl _) _)
  have HVV : Hid (ReadsK encV 1 (w.alloc (.cells #[.slice a1 a.length c1, .slice a2 b.length c2] 23)) (.slice (some ⟨w.heap.size, 0, none⟩) 2 2) [(.slice a1 a.length c1, a), (.slice a2 b.length c2, b)]) := lit_v (L := [(.slice a1 a.length c1, a), (.slice a2 b.length c2, b)]) (show (w.heap.push _)[w.heap.size]? = _ from by rw [Array.getElem?_push, if_pos rfl]; rfl)
  have HA := Lib.hid (HA.out.below hA)
  have HBB := Lib.hid (HBB.out.below hA)
  have HB := Lib.hid (HB.out.trans (hA.mono HB.out.size))
  clear hA
  refine (long_any [(.slice a1 a.length c1, a), (.slice a2 b.length c2, b)] _ _ HVV.out (by simp) (by
    intro p hp
    simp only [List.mem_cons, List.not_mem_nil, or_false] at hp
    rcases hp with rfl | rfl
    · exact ⟨_, _, rfl⟩
    · exact ⟨_, _, rfl⟩
    )).mono ?_
  rintro e w1 ⟨lg, rfl, hB, hlg⟩
  have HLG := Lib.hid hlg
  clear hlg HVV
  have HA := Lib.hid (HA.out.below hB)
  have HBB := Lib.hid (HBB.out.below hB)
  have HB := Lib.hid (HB.out.trans (hB.mono HB.out.size))
  clear hB
  cases lg with
  | true =>
    clear HLG
    go_wp2_with fail
    refine (alive_any w1).mono ?_
    rintro e wz ⟨rfl, hB⟩
    have HB := Lib.hid (HB.out.trans (hB.mono HB.out.size))
    clear hB
    go_wp2_with fail
    go_ret
    exact ⟨rfl, HB.out⟩
  | false =>
    have hl := (HLG.out rfl).2
    have hal : a.length ≤ 8192 := hl (.slice a1 a.length c1, a) (by simp)
    have hbl : b.length ≤ 8192 := hl (.slice a2 b.length c2, b) (by simp)
    have HAL := Lib.hid hal
    have HBL := Lib.hid hbl
    clear hl hal hbl HLG
    by_cases hsl : (4096 : Int) < s.length
    · go_wp2_with fail
      refine (alive_any w1).mono ?_
      rintro e wz ⟨rfl, hB⟩
      have HB := Lib.hid (HB.out.trans (hB.mono HB.out.size))
      clear hB
      go_wp2_with fail
      go_ret
      exact ⟨rfl, HB.out⟩
    · have HSL := Lib.hid hs
      go_wp2_with fail
      refine (encode_any a _ w1 HA.out (Nat.le_trans HAL.out (by decide))).mono ?_
      rintro e w2 ⟨rfl, hB⟩
      have HA := Lib.hid (HA.out.below hB)
      have HBB := Lib.hid (HBB.out.below hB)
      have HB := Lib.hid (HB.out.trans (hB.mono HB.out.size))
      clear hB
      obtain ⟨es, hes⟩ : ∃ es, (encA a).1 = es := ⟨_, rfl⟩
      obtain ⟨ee, hee⟩ : ∃ ee, (encA a).2 = ee := ⟨_, rfl⟩
      rw [hes, hee]
      go_wp2_with fail
      refine (rencode_any a _ w2 HA.out (Nat.le_trans HAL.out (by decide))).mono ?_
      rintro e w3 ⟨rfl, hB⟩
      have HA := Lib.hid (HA.out.below hB)
      have HBB := Lib.hid (HBB.out.below hB)
      have HB := Lib.hid (HB.out.trans (hB.mono HB.out.size))
      clear hB
      rw [hes, hee]
      go_wp2_with fail
      refine (decode_any s w3 HSL.out).mono ?_
      rintro e w4 ⟨vc, rfl, ho, hB⟩
      have RC := Lib.hid (show COwn w4 _ vc (decA s).1 from ho).reads
      obtain ⟨avc, cvc, rfl⟩ := RC.out.slice
      have HA := Lib.hid (HA.out.below hB)
      have HBB := Lib.hid (HBB.out.below hB)
      have HB := Lib.hid (HB.out.trans (hB.mono HB.out.size))
      clear hB ho
      go_wp2_with fail
      refine (rdecode_any s w4 HSL.out).mono ?_
      rintro e w5 ⟨vd, rfl, ho, hB⟩
      have RD := Lib.hid (show COwn w5 _ vd (decA s).1 from ho).reads
      obtain ⟨avd, cvd, rfl⟩ := RD.out.slice
      have HA := Lib.hid (HA.out.below hB)
      have HBB := Lib.hid (HBB.out.below hB)
      have RC := Lib.hid (RC.out.below hB)
      have HB := Lib.hid (HB.out.trans (hB.mono HB.out.size))
      clear hB ho
      go_wp2_with fail
      refine (cmay_any a _ w5 HA.out (Nat.le_trans HAL.out (by decide))).mono ?_
      rintro e w6 ⟨rfl, hw⟩
      have hw := hw.symm
      subst hw
      go_wp2_with fail
      refine (rmay_any a _ w5 HA.out (Nat.le_trans HAL.out (by decide))).mono ?_
      rintro e w6 ⟨rfl, hB⟩
      have HA := Lib.hid (HA.out.below hB)
      have HBB := Lib.hid (HBB.out.below hB)
      have RC := Lib.hid (RC.out.below hB)
      have RD := Lib.hid (RD.out.below hB)
      have HB := Lib.hid (HB.out.trans (hB.mono HB.out.size))
      clear hB
      go_wp2_with fail
      refine (isone_any a _ w6 HA.out (Nat.le_trans HAL.out (by decide))).mono ?_
      rintro e w7 ⟨rfl, hB⟩
      have HA := Lib.hid (HA.out.below hB)
      have HBB := Lib.hid (HBB.out.below hB)
      have RC := Lib.hid (RC.out.below hB)
      have RD := Lib.hid (RD.out.below hB)
      have HB := Lib.hid (HB.out.trans (hB.mono HB.out.size))
      clear hB
      go_wp2_with fail
      have hA : Below w7.heap.size w7 (w7.alloc (.cells #[.int .i64 0] 3)) := (Below.refl _ _).alloc (Nat.le_refl _) _
      have HL1 : Hid (ReadsK encC 1 (w7.alloc (.cells #[.int .i64 0] 3)) (.slice (some ⟨w7.heap.size, 0, none⟩) 1 1) [0]) := lit_at (l := [0]) (show (w7.heap.push _)[w7.heap.size]? = _ from by rw [Array.getElem?_push, if_pos rfl]; rfl)
      have HA := Lib.hid (HA.out.below hA)
      have HBB := Lib.hid (HBB.out.below hA)
      have RC := Lib.hid (RC.out.below hA)
      have RD := Lib.hid (RD.out.below hA)
      have HB := Lib.hid (HB.out.trans (hA.mono HB.out.size))
      clear hA
      refine (rsame_any a [0] _ _ _ HA.out HL1.out (Nat.le_trans HAL.out (by decide)) (by decide)).mono ?_
      rintro e w8 ⟨rfl, hB⟩
      have HA := Lib.hid (HA.out.below hB)
      have HBB := Lib.hid (HBB.out.below hB)
      have RC := Lib.hid (RC.out.below hB)
      have RD := Lib.hid (RD.out.below hB)
      have HB := Lib.hid (HB.out.trans (hB.mono HB.out.size))
      clear hB HL1
      go_wp2_with fail
      refine (iszero_any a _ w8 HA.out).mono ?_
      rintro e w9 ⟨rfl, hw⟩
      have hw := hw.symm
      subst hw
      have he0 : ((a.length : Int) == 0) = decide (a = []) := by
        rw [Bool.eq_iff_iff]
        simp only [beq_iff_eq, decide_eq_true_eq]
        rw [← List.length_eq_zero_iff]; omega
      go_wp2_with fail
      refine (ccompare_any a b _ _ w8 HA.out HBB.out (Nat.le_trans HAL.out (by decide)) (Nat.le_trans HBL.out (by decide))).mono ?_
      rintro e w9 ⟨rfl, hB⟩
      have HA := Lib.hid (HA.out.below hB)
      have HBB := Lib.hid (HBB.out.below hB)
      have RC := Lib.hid (RC.out.below hB)
      have RD := Lib.hid (RD.out.below hB)
      have HB := Lib.hid (HB.out.trans (hB.mono HB.out.size))
      clear hB
      go_wp2_with fail
      refine (rcmp_any a b _ _ w9 HA.out HBB.out (Nat.le_trans HAL.out (by decide)) (Nat.le_trans HBL.out (by decide))).mono ?_
      rintro e w10 ⟨rfl, hB⟩
      have HA := Lib.hid (HA.out.below hB)
      have HBB := Lib.hid (HBB.out.below hB)
      have RC := Lib.hid (RC.out.below hB)
      have RD := Lib.hid (RD.out.below hB)
      have HB := Lib.hid (HB.out.trans (hB.mono HB.out.size))
      clear hB
      go_wp2_with fail
      refine (rsame_any (decA s).1 (decA s).1 _ _ w10 RC.out RD.out (decA_len s) (decA_len s)).mono ?_
      rintro e w11 ⟨rfl, hB⟩
      have HA := Lib.hid (HA.out.below hB)
      have HBB := Lib.hid (HBB.out.below hB)
      have RC := Lib.hid (RC.out.below hB)
      have RD := Lib.hid (RD.out.below hB)
      have HB := Lib.hid (HB.out.trans (hB.mono HB.out.size))
      clear hB
      rw [decide_eq_true rfl]
      go_wp2_with fail
      refine (alive_any w11).mono ?_
      rintro e wz ⟨rfl, hB⟩
      have HB := Lib.hid (HB.out.trans (hB.mono HB.out.size))
      clear hB
      go_wp2_with fail
      go_ret
      exact ⟨rfl, HB.out⟩
theorem tells_row (v0 v1 : Value) (s : ByteArray) (w : World) (h0 : ∃ l, Cr w v0 l) (h1 : ∃ l, Cr w v1 l) (hs : s.size ≤ maxLen) :
    Calls Try.prog 3 #[v0, v1, .string s] w fun e w' => e = .returned (.bool true) ∧ Below w.heap.size w w' := by
  have e : s.data.toList.length = s.size := Array.length_toList
  have h := tells_walk v0 v1 s.data.toList w h0 h1 (by
    rw [e]
    unfold maxLen at hs
    omega)
  rw [Array.toArray_toList] at h
  exact h
end Go.Proofs.Ytgjmnmcbinekdaa
