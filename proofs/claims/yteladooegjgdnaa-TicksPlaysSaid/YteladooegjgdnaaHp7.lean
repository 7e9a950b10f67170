/- Contracts: heap.Push, Pop, Fix, Remove, over the queue. -/
import Derived.Test.YteladooegjgdnaaHp5
import Derived.Test.YteladooegjgdnaaHp6
namespace Go.Proofs.Yteladooegjgdnaa
open Go.RowKit Go.Sort Go.Lib

theorem Qu.lit {Z b : Nat} {rv : Value} {l : List Tm} {now : Int} {w : World} (h : Qu Z b rv l now w) (hl : 0 < l.length) : ∃ g cap, rv = .slice (some ⟨g, 0, none⟩) l.length cap := by
  obtain ⟨_, ⟨hv, h0⟩ | ⟨g, cap, cur, hv, _⟩⟩ := h.own
  · omega
  · exact ⟨g, cap, hv⟩
theorem QL.turn {b g n cap : Nat} {rv : Value} {w w1 w2 : World} (h : QL b rv w (.slice (some ⟨g, 0, none⟩) n cap) w1) (hF : Fr (fun i => i = g) w1 w2) : QL b rv w (.slice (some ⟨g, 0, none⟩) n cap) w2 := h.trans (QL.of hF)
def pushL (l : List Tm) (x : Tm) : List Tm := upL (l.length + 1) (l ++ [x]) l.length
set_option maxHeartbeats 6400000 in
set_option maxRecDepth 100000 in
theorem hpush_any {Z b : Nat} {rv : Value} {l : List Tm} {now : Int} {w : World} (x : Tm) (h : Qu Z b rv l now w) (hl : l.length ≤ 100000) :
    Calls Try.prog 27 #[QI b, ifT x] w fun e w' => e = .returned (.tuple #[]) ∧ ∃ rv', Qu Z b rv' (pushL l x) now w' ∧ QL b rv w rv' w' := by
  have H0 := Lib.hid h
  have mP := find_push w b
  clear h
  go_enter Try.func27, Try.ntmps27
  go_wp2_with fail
  refine (qpush_any x H0.out hl).mono ?_
  rintro e w2 ⟨rfl, g, cap, h1, hL1⟩
  have H1 := Lib.hid h1
  have HL1 := Lib.hid hL1
  have mN := find_len w2 b _ h1.cell.1
  obtain ⟨N, hN⟩ : ∃ N, l.length + 1 = N := ⟨_, rfl⟩
  have q1 : IntKind.i64.wrap ((N : Int) - 1) = (l.length : Int) := by rw [IntWalk.i64_in _ (by omega)]; omega
  rw [hN] at mN H1 HL1
  have HNN := Lib.hid hN
  obtain ⟨L, hL⟩ : ∃ L, l.length = L := ⟨_, rfl⟩
  rw [hL] at q1
  have HLL := Lib.hid hL
  have HLM := Lib.hid (show N ≤ 1000000 by omega)
  clear h1 hL1 hN H0 mP hL hl
  go_wp2_with fail
  refine (rlen_any _ _ _ _).mono ?_
  rintro e w3 ⟨rfl, rfl⟩
  clear mN
  go_wp2_with fail
  have e1 : (l ++ [x]).length = N := by rw [← HNN.out]; simp
  refine (up_any H1.out e1 (show L < N by have := HNN.out; have := HLL.out; omega) HLM.out).mono ?_
  rintro e w4 ⟨rfl, h4, hF4⟩
  have H4 := Lib.hid h4
  have HF4 := Lib.hid hF4
  clear h4 hF4 e1
  go_wp2_with fail
  go_end0
  refine ⟨rfl, _, ?_, HL1.out.turn HF4.out⟩
  have := H4.out
  unfold pushL
  rw [HLL.out]
  exact this
def popL (l : List Tm) : List Tm := (downL l.length (swapL l 0 (l.length - 1)) 0 (l.length - 1)).1
set_option maxHeartbeats 6400000 in
set_option maxRecDepth 100000 in
theorem hpop_any {Z b n : Nat} {rv : Value} {l : List Tm} {now : Int} {w : World} (h : Qu Z b rv l now w) (hl : l.length = n + 1) (hn : n ≤ 100000) :
    Calls Try.prog 28 #[QI b] w fun e w' => e = .returned (ifT ((popL l).getD n default)) ∧ ∃ rv', Qu Z b rv' ((popL l).take n) now w' ∧ QL b rv w rv' w' := by
  obtain ⟨g, cap, rfl⟩ := h.lit (by omega)
  obtain ⟨N, hN⟩ : ∃ N, l.length = N := ⟨_, rfl⟩
  rw [hN] at h ⊢
  have H0 := Lib.hid h
  have HNN := Lib.hid hN
  have HN1 := Lib.hid (show N = n + 1 by omega)
  have mN := find_len w b _ h.cell.1
  have mS := find_swap w b _ h.cell.1
  have q1 : IntKind.i64.wrap ((N : Int) - 1) = (n : Int) := by rw [IntWalk.i64_in _ (by omega)]; omega
  clear h hN hl
  go_enter Try.func28, Try.ntmps28
  go_wp2_with fail
  refine (rlen_any _ _ _ _).mono ?_
  rintro e w2 ⟨rfl, rfl⟩
  clear mN
  have HO := Lib.hid (show w2.ownsRow Z TmT 2 (.slice (some ⟨g, 0, none⟩) N cap) N (l.flatMap encT) from by have := H0.out.own; rwa [HNN.out] at this)
  go_wp2_with fail
  refine (rswap_any (i := 0) (j := n) HO.out HNN.out (by have := HNN.out; have := HN1.out; omega) (by have := HNN.out; have := HN1.out; omega)).mono ?_
  rintro e w3 ⟨rfl, ho, hF⟩
  have H3 := Lib.hid (show Qu Z b (.slice (some ⟨g, 0, none⟩) N cap) (swapL l 0 n) now w3 ∧ Fr (fun i => i = g) w2 w3 from ⟨H0.out.rows hF (by rw [swapL_len, HNN.out]; exact ho), hF⟩)
  clear ho hF mS HO
  go_wp2_with fail
  refine (down_any (i0 := 0) (m := n) H3.out.1 (by rw [swapL_len]; exact HNN.out) (by have := HN1.out; omega) (by omega) (by have := HN1.out; omega)).mono ?_
  rintro e w4 ⟨rfl, h4, hF4⟩
  have hpl : (downL (n + 1) (swapL l 0 n) 0 n).1 = popL l := by
    unfold popL
    rw [HNN.out, HN1.out]
    rfl
  rw [hpl] at h4
  have H4 := Lib.hid (And.intro h4 (H3.out.2.trans hF4))
  have HPL := Lib.hid (show (popL l).length = N from by rw [← hpl, downL_len, swapL_len]; exact HNN.out)
  have mP := find_pop w4 b
  clear h4 hF4 hpl H3 H0
  obtain ⟨pl, hpe⟩ : ∃ pl, popL l = pl := ⟨_, rfl⟩
  have HPE := Lib.hid hpe
  rw [hpe] at H4 HPL
  clear hpe
  generalize decide (0 < (downL (n + 1) (swapL l 0 n) 0 n).2) = dd
  go_wp2_with fail
  have H5 : Qu Z b (.slice (some ⟨g, 0, none⟩) (n + 1) cap) pl now w4 := by have := H4.out.1; rwa [HN1.out] at this
  refine (qpop_any H5 (by rw [HPL.out, HN1.out]) hn).mono ?_
  rintro e w5 ⟨rfl, h5, hL5⟩
  have H6 := Lib.hid (And.intro h5 hL5)
  clear h5 hL5 H5 mP
  go_wp2_with fail
  first | go_ret | go_ret2
  rw [HPE.out]
  refine ⟨rfl, _, H6.out.1, ?_⟩
  have := (QL.of (b := b) (n := N) (cap := cap) (n' := N) (cap' := cap) H4.out.2)
  have h6 := H6.out.2
  rw [← HN1.out] at h6
  exact this.trans h6
def fixL (l : List Tm) (i : Nat) : List Tm := if i < (downL (l.length + 1) l i l.length).2 then (downL (l.length + 1) l i l.length).1 else upL (i + 1) (downL (l.length + 1) l i l.length).1 i
set_option maxHeartbeats 6400000 in
set_option maxRecDepth 100000 in
theorem hfix_any {Z b i : Nat} {rv : Value} {l : List Tm} {now : Int} {w : World} (h : Qu Z b rv l now w) (hi : i < l.length) (hn : l.length ≤ 100000) :
    Calls Try.prog 25 #[QI b, .int .i64 i] w fun e w' => e = .returned (.tuple #[]) ∧ Qu Z b rv (fixL l i) now w' ∧ QL b rv w rv w' := by
  obtain ⟨g, cap, rfl⟩ := h.lit (by omega)
  obtain ⟨N, hN⟩ : ∃ N, l.length = N := ⟨_, rfl⟩
  rw [hN] at h hi hn ⊢
  have H0 := Lib.hid h
  have HNN := Lib.hid hN
  have mN := find_len w b _ h.cell.1
  clear h hN
  go_enter Try.func25, Try.ntmps25
  go_wp2_with fail
  refine (rlen_any _ _ _ _).mono ?_
  rintro e w2 ⟨rfl, rfl⟩
  clear mN
  go_wp2_with fail
  refine (down_any (i0 := i) (m := N) H0.out HNN.out (by omega) (by omega) (by omega)).mono ?_
  rintro e w4 ⟨rfl, h4, hF4⟩
  have H4 := Lib.hid (And.intro h4 hF4)
  obtain ⟨dd, hdd⟩ : ∃ dd, decide (i < (downL (N + 1) l i N).2) = dd := ⟨_, rfl⟩
  have HPE := Lib.hid (show fixL l i = if dd = true then (downL (N + 1) l i N).1 else upL (i + 1) (downL (N + 1) l i N).1 i from by
    unfold fixL
    rw [HNN.out, ← hdd]
    simp only [decide_eq_true_eq])
  have HPL := Lib.hid (show (downL (N + 1) l i N).1.length = N from by rw [downL_len]; exact HNN.out)
  rw [hdd]
  clear h4 hF4 hdd
  cases dd
  · go_wp2_with fail
    refine (up_any H4.out.1 HPL.out hi (by omega)).mono ?_
    rintro e w5 ⟨rfl, h5, hF5⟩
    have H5 := Lib.hid (And.intro h5 hF5)
    clear h5 hF5
    go_wp2_with fail
    go_end0
    exact ⟨rfl, by rw [HPE.out, if_neg (by simp)]; exact H5.out.1, QL.of (H4.out.2.trans H5.out.2)⟩
  · go_wp2_with fail
    go_end0
    exact ⟨rfl, by rw [HPE.out]; simpa using H4.out.1, QL.of H4.out.2⟩
def remL (l : List Tm) (i : Nat) : List Tm :=
  if l.length - 1 = i then l else
    if i < (downL l.length (swapL l i (l.length - 1)) i (l.length - 1)).2 then (downL l.length (swapL l i (l.length - 1)) i (l.length - 1)).1
    else upL (i + 1) (downL l.length (swapL l i (l.length - 1)) i (l.length - 1)).1 i
set_option maxHeartbeats 6400000 in
set_option maxRecDepth 100000 in
theorem hrem_any {Z b n i : Nat} {rv : Value} {l : List Tm} {now : Int} {w : World} (h : Qu Z b rv l now w) (hl : l.length = n + 1) (hi : i < l.length) (hn : n ≤ 100000) :
    Calls Try.prog 31 #[QI b, .int .i64 i] w fun e w' => e = .returned (ifT ((remL l i).getD n default)) ∧ ∃ rv', Qu Z b rv' ((remL l i).take n) now w' ∧ QL b rv w rv' w' := by
  obtain ⟨g, cap, rfl⟩ := h.lit (by omega)
  obtain ⟨N, hN⟩ : ∃ N, l.length = N := ⟨_, rfl⟩
  rw [hN] at h hi ⊢
  have H0 := Lib.hid h
  have HNN := Lib.hid hN
  have HN1 := Lib.hid (show N = n + 1 by omega)
  have mN := find_len w b _ h.cell.1
  have mS := find_swap w b _ h.cell.1
  have q1 : IntKind.i64.wrap ((N : Int) - 1) = (n : Int) := by rw [IntWalk.i64_in _ (by omega)]; omega
  clear h hN hl
  go_enter Try.func31, Try.ntmps31
  go_wp2_with fail
  refine (rlen_any _ _ _ _).mono ?_
  rintro e w2 ⟨rfl, rfl⟩
  clear mN
  go_upto_if 11 with fail
  go_cut [0] (fun t0 wc => t0 = QI b ∧ Hid (Qu Z b (.slice (some ⟨g, 0, none⟩) N cap) (remL l i) now wc ∧ Fr (fun k => k = g) w2 wc ∧ (remL l i).length = N))
  case first =>
    by_cases hni : n = i
    · have q2 : ((n : Int) != (i : Int)) = false := by rw [hni]; simp
      have HX := Lib.hid (show remL l i = l from by
        unfold remL
        rw [if_pos (by have := HNN.out; have := HN1.out; omega)])
      clear hni
      go_wp2_with fail
      go_meet
      exact ⟨rfl, by rw [HX.out]; exact H0.out, Fr.refl _ _, by rw [HX.out]; exact HNN.out⟩
    · have q2 : ((n : Int) != (i : Int)) = true := by simp; omega
      have q3 : ((n : Int) == (i : Int)) = false := by simp; omega
      have hin : i < n := by have := HN1.out; omega
      have hnN : n < N := by have := HN1.out; omega
      have HD := Lib.hid (show remL l i = if i < (downL (n + 1) (swapL l i n) i n).2 then (downL (n + 1) (swapL l i n) i n).1 else upL (i + 1) (downL (n + 1) (swapL l i n) i n).1 i from by
        unfold remL
        rw [HNN.out, HN1.out, if_neg (by omega)]
        rfl)
      clear hni
      have HO := Lib.hid (show w2.ownsRow Z TmT 2 (.slice (some ⟨g, 0, none⟩) N cap) N (l.flatMap encT) from by have := H0.out.own; rwa [HNN.out] at this)
      go_wp2_with fail
      refine (rswap_any (i := i) (j := n) HO.out HNN.out (by rw [HNN.out]; omega) (by rw [HNN.out]; omega)).mono ?_
      rintro e w3 ⟨rfl, ho, hF⟩
      have H3 := Lib.hid (show Qu Z b (.slice (some ⟨g, 0, none⟩) N cap) (swapL l i n) now w3 ∧ Fr (fun i => i = g) w2 w3 from ⟨H0.out.rows hF (by rw [swapL_len, HNN.out]; exact ho), hF⟩)
      clear ho hF mS HO
      go_wp2_with fail
      refine (down_any (i0 := i) (m := n) H3.out.1 (by rw [swapL_len]; exact HNN.out) (by omega) (by omega) (by have := HN1.out; omega)).mono ?_
      rintro e w4 ⟨rfl, h4, hF4⟩
      have H4 := Lib.hid (And.intro h4 (H3.out.2.trans hF4))
      obtain ⟨dd, hdd⟩ : ∃ dd, decide (i < (downL (n + 1) (swapL l i n) i n).2) = dd := ⟨_, rfl⟩
      have HPE := Lib.hid (show remL l i = if dd = true then (downL (n + 1) (swapL l i n) i n).1 else upL (i + 1) (downL (n + 1) (swapL l i n) i n).1 i from by
        rw [HD.out, ← hdd]
        simp only [decide_eq_true_eq])
      have HPL := Lib.hid (show (downL (n + 1) (swapL l i n) i n).1.length = N from by rw [downL_len, swapL_len]; exact HNN.out)
      rw [hdd]
      clear h4 hF4 hdd HD
      cases dd
      · go_wp2_with fail
        refine (up_any H4.out.1 HPL.out hi (by have := HN1.out; omega)).mono ?_
        rintro e w5 ⟨rfl, h5, hF5⟩
        have H5 := Lib.hid (And.intro h5 (H4.out.2.trans hF5))
        clear h5 hF5
        go_wp2_with fail
        go_meet
        exact ⟨rfl, by rw [HPE.out, if_neg (by simp)]; exact H5.out.1, H5.out.2, by rw [HPE.out, if_neg (by simp), upL_len]; exact HPL.out⟩
      · go_wp2_with fail
        go_meet
        exact ⟨rfl, by rw [HPE.out]; simpa using H4.out.1, H4.out.2, by rw [HPE.out]; simpa using HPL.out⟩
  case rest =>
    obtain ⟨rfl, HC⟩ := hcut
    obtain ⟨wx, rfl⟩ : ∃ x, x = wc := ⟨_, rfl⟩
    have mP := find_pop wx b
    obtain ⟨pl, hpe⟩ : ∃ pl, remL l i = pl := ⟨_, rfl⟩
    have HPE := Lib.hid hpe
    rw [hpe] at HC
    clear hpe mS H0
    go_wp2_with fail
    have H5 : Qu Z b (.slice (some ⟨g, 0, none⟩) (n + 1) cap) pl now wx := by have := HC.out.1; rwa [HN1.out] at this
    refine (qpop_any H5 (by rw [HC.out.2.2, HN1.out]) hn).mono ?_
    rintro e w5 ⟨rfl, h5, hL5⟩
    have H6 := Lib.hid (And.intro h5 hL5)
    clear h5 hL5 H5 mP
    go_wp2_with fail
    first | go_ret | go_ret2
    rw [HPE.out]
    refine ⟨rfl, _, H6.out.1, ?_⟩
    have := (QL.of (b := b) (n := N) (cap := cap) (n' := N) (cap' := cap) HC.out.2.1)
    have h6 := H6.out.2
    rw [← HN1.out] at h6
    exact this.trans h6
end Go.Proofs.Yteladooegjgdnaa
