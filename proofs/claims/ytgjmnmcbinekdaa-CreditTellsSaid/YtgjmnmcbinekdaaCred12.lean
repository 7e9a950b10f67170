/- Credits: Sub. -/
import Derived.Test.YtgjmnmcbinekdaaCred11
namespace Go.Proofs.Ytgjmnmcbinekdaa
open Go.RowKit Go.Sort Go.Lib

/-- What Sub answers: its errno, its credit. -/
def subA (a b : List Int) : Int × List Int := if mayC a && mayC b then (if cmpC a b < 0 then (9, []) else (0, subL a b)) else (8, [])
def SubR (a b : List Int) (w : World) (e : Ending) (w' : World) : Prop := ∃ v, e = .returned (.tuple #[v, .int .i64 (subA a b).1]) ∧ COwn w' w.heap.size v (subA a b).2 ∧ Below w.heap.size w w'
theorem ret_pairI {a : Value} {k : IntKind} {c d : Int} (h : c = d) : Ending.returned (.tuple #[a, .int k c]) = Ending.returned (.tuple #[a, .int k d]) := by rw [h]
theorem cmpC_cases (a b : List Int) : cmpC a b = 0 ∨ cmpC a b = 1 ∨ cmpC a b = -1 := by
  cases ha : mayC a with
  | false => left; unfold cmpC; rw [ha]; rfl
  | true =>
    cases hb : mayC b with
    | false => left; unfold cmpC; rw [ha, hb]; rfl
    | true => rcases cmpC_val ha hb with ⟨h, _⟩ | ⟨h, _⟩ | ⟨h, _⟩ <;> simp [h]
set_option maxHeartbeats 1600000 in
set_option maxRecDepth 100000 in
theorem sub_any (a b : List Int) (v u : Value) (w : World) (hv : ReadsK encC 1 w v a) (hu : ReadsK encC 1 w u b) (ha : a.length ≤ 1000000) (hb : b.length ≤ 1000000) :
    Calls Try.prog 22 #[v, u] w (SubR a b w) := by
  have HV := Lib.hid hv
  have HU := Lib.hid hu
  obtain ⟨ua, uc, rfl⟩ := hu.slice
  clear hv hu
  go_enter Try.func22, Try.ntmps22
  go_wp2_with fail
  refine (cmay_any a v w HV.out ha).mono ?_
  rintro e w1 ⟨rfl, hw⟩
  have hw := hw.symm
  subst hw
  cases hma : mayC a with
  | false =>
    have HF := Lib.hid (show subA a b = (8, []) by unfold subA; rw [hma]; rfl)
    clear hma
    go_wp2_with fail
    go_ret2
    exact ⟨_, ret_pairI (by rw [HF.out]), by rw [HF.out]; exact COwn.nil _ _, Below.refl _ _⟩
  | true =>
    have HMA := Lib.hid hma
    clear hma
    go_wp2_with fail
    refine (cmay_any b _ w HU.out hb).mono ?_
    rintro e w2 ⟨rfl, hw⟩
    have hw := hw.symm
    subst hw
    cases hmb : mayC b with
    | false =>
      have HF := Lib.hid (show subA a b = (8, []) by unfold subA; rw [hmb, Bool.and_false]; rfl)
      clear hmb
      go_wp2_with fail
      go_ret2
      exact ⟨_, ret_pairI (by rw [HF.out]), by rw [HF.out]; exact COwn.nil _ _, Below.refl _ _⟩
    | true =>
      have HMB := Lib.hid hmb
      clear hmb
      go_wp2_with fail
      refine (ccompare_any a b v _ w HV.out HU.out ha hb).mono ?_
      rintro e w3 ⟨rfl, hB3⟩
      have HB3 := Lib.hid hB3
      clear hB3
      by_cases hlt : cmpC a b < 0
      · have HF := Lib.hid (show subA a b = (9, []) by unfold subA; rw [HMA.out, HMB.out]; simp [hlt])
        go_wp2_with fail
        go_ret2
        exact ⟨_, ret_pairI (by rw [HF.out]), by rw [HF.out]; exact COwn.nil _ _, HB3.out⟩
      · have HF := Lib.hid (show subA a b = (0, subL a b) by unfold subA; rw [HMA.out, HMB.out]; simp [hlt])
        have hge : vC b ≤ vC a := by
          rcases cmpC_val HMA.out HMB.out with ⟨h, h'⟩ | ⟨h, h'⟩ | ⟨h, h'⟩
          · rw [h']; exact Nat.le_refl _
          · omega
          · omega
        have HGE := Lib.hid hge
        have HSA := Lib.hid (mayC_sc HMA.out)
        have HSB := Lib.hid (mayC_sc HMB.out)
        have HU3 := Lib.hid (HU.out.below HB3.out)
        clear hge
        go_wp2_with fail
        refine (cclone_any v a _ (HV.out.below HB3.out) ha).mono ?_
        rintro e w4 ⟨ca, cc, rfl, ho, hB4⟩
        have HO := Lib.hid (show COwn w4 w.heap.size (.slice ca a.length cc) a from owns_low ho HB3.out.size)
        have HB4 := Lib.hid (HB3.out.trans (hB4.mono HB3.out.size))
        have HU4 := Lib.hid (HU3.out.below hB4)
        clear ho hB4 HU3 hlt
        go_wp2_with fail
        go_loopg [6, 27] b.length (fun gk sv si wr => ∃ (j : Nat) (c : List Int), gk + j = b.length ∧ si = .int .i64 j ∧ COwn wr w.heap.size sv c ∧ SC c ∧ vC (b.drop j) ≤ vC c ∧ subL c (b.drop j) = subL a b ∧ Below w.heap.size w wr)
        case atStart => exact ⟨0, a, by omega, rfl, HO.out, HSA.out, HGE.out, rfl, HB4.out⟩
        case round =>
          obtain ⟨j, c, hj, rfl, ho, hsc, hvc, hsl, hB⟩ := hrel
          have HC := Lib.hid ho
          have HSC := Lib.hid hsc
          have HVC := Lib.hid hvc
          have HSL := Lib.hid hsl
          have HB := Lib.hid hB
          clear ho hsc hvc hsl hB HO HB4
          by_cases hjl : j < b.length
          · obtain ⟨b5, off5, cc5, he, hb5, hc5⟩ := (HU.out.below HB.out).at (by omega)
            injection he with he1 he2 he3
            subst he1
            have k1 : wr.cell? ⟨b5, off5 + j, none⟩ = some (.int .i64 b[j]) := by have h := hc5 j hjl 0 _ rfl; rw [Nat.mul_one, Nat.add_zero] at h; exact h
            have HDR : Hid (b.drop j = b[j] :: b.drop (j + 1)) := List.drop_eq_getElem_cons hjl
            have hbk := HSB.out.2 _ (List.getElem_mem hjl)
            clear hc5 he2 he3 hb5
            obtain ⟨k, hk⟩ : ∃ k, b[j] = k := ⟨_, rfl⟩
            rw [hk] at k1 HDR hbk
            have hv2 := HVC.out
            rw [HDR.out, vC_cons] at hv2
            have hm := minC_ok HSC.out hbk (by omega)
            have HM := Lib.hid hm
            have HV2 : Hid (vC (b.drop (j + 1)) ≤ vC (minC c k)) := by show _ ≤ _; have := hm.2; omega
            have HPK := Lib.hid (show pw k ≤ vC c by omega)
            clear hk hv2 hm
            go_wp2_with fail
            refine (min_own c k _ w.heap.size wr HC.out HSC.out hbk HPK.out HB.out.size).mono ?_
            rintro e w6 ⟨v6, rfl, hO6, hB6⟩
            have HO6 := Lib.hid hO6
            have HB6 := Lib.hid (HB.out.trans hB6)
            clear hO6 hB6 k1
            go_wp2_with fail
            go_roundg (gk - 1)
            case rel => exact ⟨j + 1, minC c k, by omega, by go_num, HO6.out, HM.out.1, HV2.out, by have := HSL.out; rw [HDR.out] at this; exact this, HB6.out⟩
            case measure => omega
          · have hd : b.drop j = [] := List.drop_eq_nil_of_le (by omega)
            have hs2 := HSL.out
            rw [hd] at hs2
            have HS2 := Lib.hid (show c = subL a b from hs2)
            clear hd hs2
            go_wp2_with fail
            go_ret2
            exact ⟨_, ret_pairI (by rw [HF.out]), by rw [HF.out]; simp only; rw [← HS2.out]; exact HC.out, HB.out⟩
end Go.Proofs.Ytgjmnmcbinekdaa
