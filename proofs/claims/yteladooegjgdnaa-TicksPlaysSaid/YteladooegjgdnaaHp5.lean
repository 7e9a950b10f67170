/- Contract: heap.down. -/
import Derived.Test.YteladooegjgdnaaHp4
namespace Go.Proofs.Yteladooegjgdnaa
open Go.RowKit Go.Sort Go.Lib

/-- The lesser child. -/
def kidL (l : List Tm) (i m : Nat) : Nat := if 2 * i + 2 < m ∧ lessT (l.getD (2 * i + 2) default) (l.getD (2 * i + 1) default) = true then 2 * i + 2 else 2 * i + 1
/-- A timer sinks to its place. -/
def downL : Nat → List Tm → Nat → Nat → List Tm × Nat
  | 0, l, i, _ => (l, i)
  | f + 1, l, i, m => if m ≤ 2 * i + 1 then (l, i) else if lessT (l.getD (kidL l i m) default) (l.getD i default) then downL f (swapL l i (kidL l i m)) (kidL l i m) m else (l, i)
theorem downL_len : ∀ (f : Nat) (l : List Tm) (i m : Nat), (downL f l i m).1.length = l.length
  | 0, _, _, _ => rfl
  | f + 1, l, i, m => by
    unfold downL
    split
    · rfl
    · split
      · rw [downL_len, swapL_len]
      · rfl
theorem downL_end {f : Nat} {l : List Tm} {i m : Nat} (h : m ≤ 2 * i + 1) : downL f l i m = (l, i) := by
  cases f with
  | zero => rfl
  | succ f => unfold downL; rw [if_pos h]
set_option maxHeartbeats 12800000 in
set_option maxRecDepth 100000 in
theorem down_any {Z b g n cap i0 m : Nat} {l : List Tm} {now : Int} {w : World} (h : Qu Z b (.slice (some ⟨g, 0, none⟩) n cap) l now w) (hn : l.length = n) (hm : m ≤ n) (hi : i0 ≤ n) (hnm : n ≤ 1000000) :
    Calls Try.prog 39 #[QI b, .int .i64 i0, .int .i64 m] w fun e w' => e = .returned (.bool (decide (i0 < (downL (m + 1) l i0 m).2))) ∧ Qu Z b (.slice (some ⟨g, 0, none⟩) n cap) (downL (m + 1) l i0 m).1 now w' ∧ Fr (fun i => i = g) w w' := by
  have H0 := Lib.hid h
  clear h
  go_enter Try.func39, Try.ntmps39
  go_wp2_with fail
  go_loopg [7] (m + 1) (fun gk t7 wr => ∃ (ii : Nat) (l' : List Tm), t7 = .int .i64 ii ∧ m < ii + gk ∧ ii ≤ n ∧ l'.length = n ∧ Hid (Qu Z b (.slice (some ⟨g, 0, none⟩) n cap) l' now wr ∧ Fr (fun i => i = g) w wr ∧ downL gk l' ii m = downL (m + 1) l i0 m))
  case atStart => exact ⟨i0, l, rfl, by omega, hi, hn, H0.out, Fr.refl _ _, rfl⟩
  case round =>
    clear H0
    obtain ⟨ii, l', rfl, hgk, hin, hln, HR⟩ := hrel
    obtain ⟨A0, hA0⟩ : ∃ a, 2 * ii = a := ⟨_, rfl⟩
    have q1 : IntKind.i64.wrap (2 * (ii : Int)) = (A0 : Int) := by rw [IntWalk.i64_in _ (by omega)]; omega
    obtain ⟨A1, hA1⟩ : ∃ a, A0 + 1 = a := ⟨_, rfl⟩
    have q2 : IntKind.i64.wrap ((A0 : Int) + 1) = (A1 : Int) := by rw [IntWalk.i64_in _ (by omega)]; omega
    have q0 : ¬ (A1 : Int) < 0 := by omega
    have hk1 : 2 * ii + 1 = A1 := by omega
    by_cases hend : m ≤ A1
    · have hend1 : (m : Int) ≤ A1 := by omega
      have HE := Lib.hid (show (l', ii) = downL (m + 1) l i0 m by rw [← HR.out.2.2, downL_end (by omega)])
      have hres : decide (i0 < (downL (m + 1) l i0 m).2) = decide ((i0 : Int) < (ii : Int)) := by rw [← HE.out]; simp
      have HRS := Lib.hid hres
      clear hend hA0 hA1 hk1 hres
      go_wp2_with fail
      go_ret
      refine ⟨ret_bool ?_, by rw [← HE.out]; exact HR.out.1, HR.out.2.1⟩
      rw [HRS.out]
      first | rfl | simp
    · have hend1 : ¬ (m : Int) ≤ A1 := by omega
      obtain ⟨f, hf⟩ : ∃ f, gk = f + 1 := ⟨gk - 1, by omega⟩
      subst hf
      obtain ⟨A2, hA2⟩ : ∃ a, A1 + 1 = a := ⟨_, rfl⟩
      have q3 : IntKind.i64.wrap ((A1 : Int) + 1) = (A2 : Int) := by rw [IntWalk.i64_in _ (by omega)]; omega
      have hk2 : 2 * ii + 2 = A2 := by omega
      have HE := Lib.hid HR.out.2.2
      unfold downL at HE
      rw [if_neg (by omega)] at HE
      obtain ⟨jj, hjj⟩ : ∃ j, kidL l' ii m = j := ⟨_, rfl⟩
      rw [hjj] at HE
      have HK := Lib.hid hjj
      have hjm : jj < m ∧ ii < jj := by
        rw [← hjj]
        unfold kidL
        split <;> omega
      have hO : wr.ownsRow Z TmT 2 (.slice (some ⟨g, 0, none⟩) n cap) n (l'.flatMap encT) := by have := HR.out.1.own; rwa [hln] at this
      have HO := Lib.hid hO
      have hl1 : A1 < l'.length := by omega
      have HR1 := Lib.hid (And.intro HR.out.1 HR.out.2.1)
      clear hjj hA0 hA1 hA2 hO HR
      go_upto_region 6 with fail
      go_cut [33] (fun t33 wc => ∃ bb : Bool, t33 = .bool bb ∧ Hid (decide (jj = A2) = bb) ∧ Hid (Qu Z b (.slice (some ⟨g, 0, none⟩) n cap) l' now wc ∧ Fr (fun i => i = g) w wc))
      case first =>
        by_cases h2 : A2 < m
        · have h21 : (A2 : Int) < m := by omega
          have hl2 : A2 < l'.length := by omega
          have mL := find_less wr b _ HR1.out.1.cell.1
          go_wp2_with fail
          refine (rless_any HO.out hln hl2 hl1).mono ?_
          rintro e w2 ⟨rfl, hB⟩
          have H2 := Lib.hid (show Qu Z b (.slice (some ⟨g, 0, none⟩) n cap) l' now w2 ∧ Fr (fun i => i = g) w w2 from ⟨HR1.out.1.below hB, HR1.out.2.then hB⟩)
          have hg2 : l'.getD A2 default = l'[A2] := by rw [List.getD_eq_getElem?_getD, List.getElem?_eq_getElem hl2]; rfl
          have hg1 : l'.getD A1 default = l'[A1] := by rw [List.getD_eq_getElem?_getD, List.getElem?_eq_getElem hl1]; rfl
          have HC := Lib.hid (show lessT l'[A2] l'[A1] = decide (jj = A2) from by
            rw [← HK.out]
            unfold kidL
            rw [hk1, hk2, hg1, hg2]
            cases lessT l'[A2] l'[A1]
            · rw [if_neg (by simp)]; simp; omega
            · rw [if_pos ⟨h2, rfl⟩]; simp)
          obtain ⟨bb, hbb⟩ : ∃ bb, lessT l'[A2] l'[A1] = bb := ⟨_, rfl⟩
          have HBB := Lib.hid (show decide (jj = A2) = bb from by rw [← HC.out, hbb])
          rw [hbb]
          clear hB mL hg2 hg1 HC hbb
          go_wp2_with fail
          go_meet
          exact ⟨bb, rfl, HBB.out, H2.out⟩
        · have h21 : ¬ (A2 : Int) < m := by omega
          have HC := Lib.hid (show decide (jj = A2) = false from by
            rw [← HK.out]
            unfold kidL
            rw [hk1, hk2, if_neg (by rintro ⟨h, _⟩; omega)]
            simp; omega)
          go_wp2_with fail
          go_meet
          exact ⟨false, rfl, HC.out, HR1.out⟩
      case rest =>
        obtain ⟨bb, rfl, HBB, HC⟩ := hcut
        clear HR1 HO
        have hjj := Lib.hid (show jj = A2 ∨ jj = A1 from by
          rw [← HK.out]
          unfold kidL
          rw [hk1, hk2]
          split
          · exact .inl rfl
          · exact .inr rfl)
        obtain ⟨wx, rfl⟩ : ∃ x, x = wc := ⟨_, rfl⟩
        go_upto_if 33 with fail
        go_cut [9] (fun t9 wd => t9 = .int .i64 jj ∧ wd = wx)
        case first =>
          cases bb
          · have HJ := Lib.hid (show jj = A1 from by
              have he : ¬ jj = A2 := by simpa using HBB.out
              rcases hjj.out with h | h
              · exact absurd h he
              · exact h)
            go_wp2_with fail
            go_meet
            exact ⟨by rw [HJ.out], rfl⟩
          · have HJ := Lib.hid (show jj = A2 from by simpa using HBB.out)
            go_wp2_with fail
            go_meet
            exact ⟨by rw [HJ.out], rfl⟩
        case rest =>
          obtain ⟨rfl, rfl⟩ := hcut
          have hjl : jj < l'.length := by omega
          have hil : ii < l'.length := by omega
          have HO := Lib.hid (show wc.ownsRow Z TmT 2 (.slice (some ⟨g, 0, none⟩) n cap) n (l'.flatMap encT) from by have := HC.out.1.own; rwa [hln] at this)
          have mL := find_less wc b _ HC.out.1.cell.1
          have hgj : l'.getD jj default = l'[jj] := by rw [List.getD_eq_getElem?_getD, List.getElem?_eq_getElem hjl]; rfl
          have hgi : l'.getD ii default = l'[ii] := by rw [List.getD_eq_getElem?_getD, List.getElem?_eq_getElem hil]; rfl
          rw [hgj, hgi] at HE
          clear hgj hgi
          go_wp2_with fail
          refine (rless_any HO.out hln hjl hil).mono ?_
          rintro e w2 ⟨rfl, hB⟩
          have H2 := Lib.hid (show Qu Z b (.slice (some ⟨g, 0, none⟩) n cap) l' now w2 ∧ Fr (fun i => i = g) w w2 ∧ w2.ownsRow Z TmT 2 (.slice (some ⟨g, 0, none⟩) n cap) n (l'.flatMap encT) from ⟨HC.out.1.below hB, HC.out.2.then hB, own_below HO.out hB⟩)
          clear hB HO HC mL
          generalize lessT l'[jj] l'[ii] = c at *
          cases c
          · have HE2 := Lib.hid (show (l', ii) = downL (m + 1) l i0 m from HE.out)
            have hres : decide (i0 < (downL (m + 1) l i0 m).2) = decide ((i0 : Int) < (ii : Int)) := by rw [← HE2.out]; simp
            have HRS := Lib.hid hres
            clear HE hres
            go_wp2_with fail
            go_ret
            refine ⟨ret_bool ?_, by rw [← HE2.out]; exact H2.out.1, H2.out.2.1⟩
            rw [HRS.out]
            first | rfl | simp
          · have HE2 := Lib.hid (show downL f (swapL l' ii jj) jj m = downL (m + 1) l i0 m from HE.out)
            have mS := find_swap w2 b _ H2.out.1.cell.1
            clear HE
            go_wp2_with fail
            refine (rswap_any H2.out.2.2 hln hil hjl).mono ?_
            rintro e w3 ⟨rfl, ho, hF⟩
            have H3 := Lib.hid (show Qu Z b (.slice (some ⟨g, 0, none⟩) n cap) (swapL l' ii jj) now w3 ∧ Fr (fun i => i = g) w w3 from ⟨H2.out.1.rows hF (by rw [swapL_len, hln]; exact ho), H2.out.2.1.trans hF⟩)
            clear ho hF mS H2
            go_wp2_with fail
            go_roundg f
            case rel => exact ⟨jj, swapL l' ii jj, rfl, by omega, by omega, by rw [swapL_len]; exact hln, H3.out.1, H3.out.2, HE2.out⟩
            case measure => omega
end Go.Proofs.Yteladooegjgdnaa
