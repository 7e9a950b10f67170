/- The document's Decode. -/
import Derived.Test.YtgjmnmcbinekdaaRefC7
namespace Go.Proofs.Ytgjmnmcbinekdaa
open Go.RowKit Go.Lib

theorem manyS_e {rest : List UInt8} {e : Int} (he : e ≠ 0) : ∀ k : Nat, (manyS k (rest, e)).2 = (rest, e)
  | 0 => rfl
  | k + 1 => by
    rw [manyS_succ, uintS_e he]
    exact manyS_e he k
theorem rdec_new (w : World) (l : List UInt8) : RrAt (w.alloc (.cells #[.string ⟨l.toArray⟩, .int .i64 0] 64)) w.heap.size l 0 := by
  unfold RrAt
  rw [heap_alloc_new]
set_option maxHeartbeats 1600000 in
set_option maxRecDepth 100000 in
theorem rdecode_any (l : List UInt8) (w : World) (hl : (l.length : Int) ≤ 9223372036854775807) :
    Calls Try.prog 12 #[.string ⟨l.toArray⟩] w (DecR l w) := by
  obtain ⟨ig, hig, hg0, hg1, hg2⟩ := info_parts info_int
  have HR := Lib.hid (rdec_new w l)
  have HB := Lib.hid ((Below.refl w.heap.size w).alloc (Nat.le_refl _) (.cells #[.string ⟨l.toArray⟩, .int .i64 0] 64))
  go_enter Try.func12, Try.ntmps12
  go_wp2_with fail
  refine (r3Count_any 4097 w.heap.size l 0 _ HR.out (by omega) hl).mono ?_
  rintro e w2 ⟨rfl, hr, hf⟩
  obtain ⟨⟨N, s0⟩, hN⟩ : ∃ r, cntS 4097 (l, 0) = r := ⟨_, rfl⟩
  have HN := Lib.hid hN
  have hNle := cntS_le 4097 (l, 0)
  have hsl := numS_len (chkC 4097 l) (l, 0)
  rw [show numS (chkC 4097 l) (l, 0) = cntS 4097 (l, 0) from rfl, hN] at hsl
  rw [hN] at hr hNle ⊢
  simp only at hr hNle hsl ⊢
  have HR2 := Lib.hid hr
  have HB2 := Lib.hid (HB.out.trans (hf.below (fun i h => by rw [h]; exact Nat.le_refl _) (by simp)))
  have HM : Hid (decM l = manyS N s0) := by show _ = _; unfold decM; rw [HN.out]
  have HSL := Lib.hid hsl
  obtain ⟨r0, e0⟩ := s0
  clear hN hr hf hsl
  go_wp2_with fail
  generalize hBB : w.heap.size = B at *
  go_loopg [6, 7] N (fun gk sv si wr => ∃ (k : Nat) (cs : List Int) (rest : List UInt8) (e : Int), gk + k = N ∧ si = .int .i64 k ∧ cs.length = k ∧ COwn wr (B + 1) sv cs ∧ RrAt wr B rest e ∧ rest.length ≤ l.length ∧ manyS N (r0, e0) = (cs ++ (manyS gk (rest, e)).1, (manyS gk (rest, e)).2) ∧ Below B w wr)
  case atStart => exact ⟨0, [], r0, e0, by omega, rfl, rfl, COwn.nil _ _, HR2.out, HSL.out, by simp, HB2.out⟩
  case round =>
    obtain ⟨k, cs, rest, e, hk, rfl, hcs, ho, hr, hrl, hm, hB⟩ := hrel
    have HO := Lib.hid ho
    have HRD := Lib.hid hr
    have HRL := Lib.hid hrl
    have HMM := Lib.hid hm
    have HBB := Lib.hid hB
    have c1 := hr.c1
    clear ho hr hrl hm hB HR2 HB2
    by_cases hkn : k < N
    · by_cases he : e = 0
      · subst he
        obtain ⟨j, rfl⟩ : ∃ j, gk = j + 1 := ⟨gk - 1, by omega⟩
        have HM2 := Lib.hid (manyS_succ j (rest, 0))
        have hx := uintS_le 4096 (rest, 0)
        have hl2 := numS_len (chkU 4096) (rest, 0)
        rw [show numS (chkU 4096) (rest, 0) = uintS 4096 (rest, 0) from rfl] at hl2
        have HRU := Lib.hid (r3RUint_any 4096 B rest 0 wr HRD.out (by have := HRL.out; omega))
        obtain ⟨⟨x, r1, e1⟩, hu⟩ : ∃ r, uintS 4096 (rest, 0) = r := ⟨_, rfl⟩
        rw [hu] at HM2 hx hl2 HRU
        simp only at hx hl2
        have HL2 := Lib.hid (Nat.le_trans hl2 HRL.out)
        have wx : IntKind.i64.wrap (x : Int) = x := by rw [IntKind.wrap_i64]; omega
        clear hu hl2
        go_wp2_with fail
        refine HRU.out.mono ?_
        rintro e w3 ⟨rfl, hr3, hf3⟩
        have HR3 := Lib.hid hr3
        have HO3 := Lib.hid (uint_cell HO.out hf3)
        have HB3 := Lib.hid (HBB.out.trans (hf3.below (fun i h => by rw [h]; exact Nat.le_refl _) (Nat.le_of_lt HRD.out.lt)))
        clear hr3 hf3 HO HBB HRD HRU c1
        simp only
        go_wp2_with (at_builtin; refine wpList_append_own _ rfl _ _ 23 rfl (B + 1) 3 ig (.int .i64 0) 1 8 Try.underlying23 hig hg0 hg1 hg2 rfl (by decide) _ _ _ rfl (HO3.out.alloc _) ⟨w3.heap.size, 0, none⟩ 1 1 [.int .i64 (x : Int)] rfl rfl ?c1 ?c2 ?c3 ?c4 ?c5 ?_)
        case c2 => first | exact int_one _ | rfl
        case c3 => unfold maxLen; omega
        case c4 => omega
        case c5 => have := HR3.out.lt; simp; omega
        intro v' w4 hown hgrow _
        have HO4 := Lib.hid (COwn.snoc (l := cs) (by rw [hcs]; exact hown))
        have HR4 := Lib.hid (HR3.out.block (own_off HO3.out HR3.out.lt hgrow))
        have HB4 : Hid (Below B w w4) := by
          have h1 := owns_low HO3.out (show w.heap.size ≤ B + 1 by omega)
          have h2 := own_grown (w := w) h1 (by rw [hBB]; exact HB3.out) hgrow
          rwa [hBB] at h2
        clear hown hgrow HO3 HR3 HB3
        go_wp2_with fail
        go_roundg j
        case rel => exact ⟨k + 1, cs ++ [(x : Int)], r1, e1, by omega, by go_num, by simp [hcs], HO4.out, HR4.out, HL2.out, by rw [HMM.out, HM2.out, List.append_assoc]; rfl, HB4.out⟩
        case measure => omega
      · have hbe : (e == 0) = false := by simp [he]
        have hME := manyS_e (rest := rest) he gk
        have hen : endE (rest, e) ≠ 0 := by unfold endE; rw [if_neg (by simp [he])]; exact he
        have hb : (endE (rest, e) != 0) = true := by simp [hen]
        have HF : Hid (decA l = ([], 8)) := by
          show _ = _
          unfold decA
          rw [HM.out, HMM.out]
          simp only
          rw [hME, if_neg (by simp [hen])]
        clear hME hen he
        go_wp2_with fail
        refine (r3End_any B rest e wr HRD.out).mono ?_
        rintro en w3 ⟨rfl, hf3⟩
        have HB3 := Lib.hid (HBB.out.trans (hf3.below (fun i h => by rw [h]; exact Nat.le_refl _) (Nat.le_of_lt HRD.out.lt)))
        clear hf3 HO HBB HRD
        go_wp2_with fail
        go_ret2
        exact ⟨_, ret_pairI (by rw [HF.out]), by rw [HF.out]; exact COwn.nil _ _, by rw [hBB]; exact HB3.out⟩
    · have hg0 : gk = 0 := by omega
      subst hg0
      have HM3 : Hid (decM l = (cs, rest, e)) := by show _ = _; rw [HM.out, HMM.out]; simp [manyS]
      clear HMM HM
      go_wp2_with fail
      refine (r3End_any B rest e wr HRD.out).mono ?_
      rintro en w3 ⟨rfl, hf3⟩
      have HO3 := Lib.hid (show COwn w3 (B + 1) _ cs from uint_cell HO.out hf3)
      have HB3 := Lib.hid (HBB.out.trans (hf3.below (fun i h => by rw [h]; exact Nat.le_refl _) (Nat.le_of_lt HRD.out.lt)))
      clear hf3 HO HBB HRD c1
      by_cases hen : endE (rest, e) = 0
      · have hb : (endE (rest, e) != 0) = false := by simp [hen]
        have HEN := Lib.hid hen
        clear hen
        have hcl : cs.length ≤ 1000000 := by omega
        cases hma : mayC cs with
        | false =>
          have HF : Hid (decA l = ([], 8)) := by show _ = _; unfold decA; rw [HM3.out, if_neg (by simp [hma])]
          go_wp2_with fail
          refine (rmay_any cs _ w3 HO3.out.reads hcl).mono ?_
          rintro en w4 ⟨rfl, hB4⟩
          rw [hma]
          have HB4 := Lib.hid (HB3.out.trans (hB4.mono (by have := HB3.out.size; omega)))
          clear hma hB4
          go_wp2_with fail
          go_ret2
          exact ⟨_, ret_pairI (by rw [HF.out]), by rw [HF.out]; exact COwn.nil _ _, by rw [hBB]; exact HB4.out⟩
        | true =>
          have HF : Hid (decA l = (cs, 0)) := by show _ = _; unfold decA; rw [HM3.out, if_pos ⟨HEN.out, hma⟩]
          go_wp2_with fail
          refine (rmay_any cs _ w3 HO3.out.reads hcl).mono ?_
          rintro en w4 ⟨rfl, hB4⟩
          rw [hma]
          have HO4 := Lib.hid (show COwn w4 (B + 1) _ cs from cowns HO3.out hB4)
          have HB4 := Lib.hid (HB3.out.trans (hB4.mono (by have := HB3.out.size; omega)))
          clear hma hB4
          go_wp2_with fail
          go_ret2
          exact ⟨_, ret_pairI (by rw [HF.out]), by rw [HF.out, hBB]; exact owns_low HO4.out (by omega), by rw [hBB]; exact HB4.out⟩
      · have hb : (endE (rest, e) != 0) = true := by simp [hen]
        have HF : Hid (decA l = ([], 8)) := by show _ = _; unfold decA; rw [HM3.out, if_neg (by simp [hen])]
        clear hen
        go_wp2_with fail
        go_ret2
        exact ⟨_, ret_pairI (by rw [HF.out]), by rw [HF.out]; exact COwn.nil _ _, by rw [hBB]; exact HB3.out⟩
end Go.Proofs.Ytgjmnmcbinekdaa
