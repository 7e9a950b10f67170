/- CreditBack, walked. -/
import Derived.Test.YtgjmnmcbinekdaaAlive20
import Derived.Test.YtgjmnmcbinekdaaBack20A
import Derived.Test.YtgjmnmcbinekdaaOpenB20
namespace Go.Proofs.Ytgjmnmcbinekdaa
open Go.RowKit Go.Lib

theorem slice_shape {w : World} {B : Nat} {p : Value × List Int} (h : GoodP w B p) : ∃ a c, p.1 = .slice a p.2.length c := h.1.reads.slice
set_option maxHeartbeats 16000000 in
set_option maxRecDepth 100000 in
theorem back_row (v0 v1 v2 : Value) (w : World) (h0 : ∃ l : List Nat, ReadsK encU8 1 w v0 l ∧ l.length ≤ maxLen ∧ ∀ x ∈ l, x < 256) (h1 : ∃ l : List Nat, ReadsK encU8 1 w v1 l ∧ l.length ≤ maxLen ∧ ∀ x ∈ l, x < 256) (h2 : ∃ l : List Bool, ReadsK encBo 1 w v2 l ∧ l.length ≤ maxLen) :
    Calls Try.prog 5 #[v0, v1, v2] w fun e w' => e = .returned (.bool true) ∧ Below w.heap.size w w' := by
  obtain ⟨P, h0, hP1, hP2⟩ := h0
  obtain ⟨Q, h1, hQ1, hQ2⟩ := h1
  obtain ⟨U, h2, hU1⟩ := h2
  obtain ⟨a0, c0, rfl⟩ := h0.slice
  obtain ⟨a1, c1, rfl⟩ := h1.slice
  obtain ⟨a2, c2, rfl⟩ := h2.slice
  have HP := Lib.hid h0
  have HQ := Lib.hid h1
  have HU := Lib.hid h2
  have HP2 := Lib.hid hP2
  have HQ2 := Lib.hid hQ2
  have HQ1 := Lib.hid hQ1
  have HU1 := Lib.hid hU1
  clear h0 h1 h2 hP2 hQ2 hP1 hQ1 hU1
  go_enter Try.func5, Try.ntmps5
  by_cases hl : (60 : Int) < P.length
  · go_wp2_with fail
    refine (alive_any w).mono ?_
    rintro e w2 ⟨rfl, hB⟩
    go_wp2_with fail
    go_ret
    exact ⟨rfl, hB⟩
  · have HPL := Lib.hid (show P.length ≤ 60 by omega)
    go_wp2_with fail
    refine (one_any w).mono ?_
    rintro e w1 ⟨b1, k1, rfl, ho, hB⟩
    have HO1 := Lib.hid (show AOwn (w1.alloc (.cells #[.slice (some ⟨b1, 0, none⟩) 1 k1] 23)) w.heap.size (.slice (some ⟨w1.heap.size, 0, none⟩) 1 1) [(.slice (some ⟨b1, 0, none⟩) 1 k1, [0])] from AOwn.one hB.size ⟨ho, one_may, by simp⟩)
    have HB1 := Lib.hid (show Below w.heap.size w (w1.alloc (.cells #[.slice (some ⟨b1, 0, none⟩) 1 k1] 23)) from hB.alloc hB.size _)
    clear ho hB hl
    obtain ⟨ig, hig, hg0, hg1, hg2⟩ : ∃ i, Try.prog.info? 23 = some i ∧ i.zero = some (.slice none 0 0) ∧ i.size = 1 ∧ i.bytes = 24 := ⟨_, rfl, rfl, rfl, rfl⟩
    go_wp2_with fail
    go_loopg [7, 8] P.length (fun gk sv si wr => ∃ (j : Nat) (A : List (Value × List Int)), gk + j = P.length ∧ si = .int .i64 j ∧ AOwn wr w.heap.size sv A ∧ 0 < A.length ∧ A.length ≤ j + 1 ∧ wA A = pw 0 ∧ Below w.heap.size w wr)
    case atStart => exact ⟨0, _, by omega, rfl, HO1.out, by simp, by simp, by rw [wA_one]; exact one_vC, HB1.out⟩
    case round =>
      obtain ⟨j, A, hj, rfl, ho, hpos, hlen, hsum, hB⟩ := hrel
      have HA := Lib.hid ho
      have HB := Lib.hid hB
      have HPOS := Lib.hid hpos
      have HLEN := Lib.hid hlen
      have HSUM := Lib.hid hsum
      have hpl := HPL.out
      clear ho hB hpos hlen hsum HO1 HB1
      by_cases hjl : j < P.length
      · obtain ⟨b5, off5, cc5, he, hb5, hc5⟩ := (HP.out.below HB.out).at (by omega)
        injection he with he1 he2 he3
        subst he1
        have k1 : wr.cell? ⟨b5, off5 + j, none⟩ = some (.int .u8 (P[j] : Nat)) := by have h := hc5 j hjl 0 _ rfl; rw [Nat.mul_one, Nat.add_zero] at h; exact h
        have hx := HP2.out _ (List.getElem_mem hjl)
        generalize P[j] = x at k1 hx
        clear hc5 he2 he3 hb5
        obtain ⟨g, cap, rfl, hcell, hfz, _, _⟩ := HA.out.open HPOS.out
        obtain ⟨k, hk⟩ : ∃ k, x % A.length = k := ⟨_, rfl⟩
        have hkl : k < A.length := by rw [← hk]; exact Nat.mod_lt _ HPOS.out
        have hk2 : (x : Int) % (A.length : Int) = (k : Int) := by rw [← hk]; exact (Int.natCast_emod _ _).symm
        have hg := HA.out.good _ (List.getElem_mem hkl)
        have hpos := HPOS.out
        have k2 := hcell k hkl
        obtain ⟨⟨pv, l⟩, hAk⟩ : ∃ p, A[k] = p := ⟨_, rfl⟩
        rw [hAk] at hg k2
        obtain ⟨sa, sc, hsh⟩ := slice_shape hg
        simp only at hsh
        subst hsh
        have HG := Lib.hid hg
        have HAK := Lib.hid hAk
        clear hcell hfz hg hk hAk
        go_wp2_with fail
        refine (half_any l _ wr HG.out.1.reads (owns_cap HG.out.1) (Nat.le_trans HG.out.len (by decide))).mono ?_
        intro e w2 hh
        rcases hh with ⟨c, hc0, hc, hcf, rfl, hB⟩ | ⟨_, _, hlim, v, u, rfl, hv, hu, _, hB⟩
        · have hc6 : c = 6 := by rw [hc, HG.out.2.1, if_pos rfl, if_neg HG.out.2.2]
          subst hc6
          have HA2 := Lib.hid (HA.out.below hB)
          have HB2 := Lib.hid (HB.out.trans (hB.mono HB.out.size))
          clear hc0 hc hcf hB
          go_wp2_with fail
          go_roundg (gk - 1)
          case rel => exact ⟨j + 1, A, by omega, by go_num, HA2.out, HPOS.out, by have := HLEN.out; omega, HSUM.out, HB2.out⟩
          case measure => omega
        · have hgood := half_good HG.out.2.1 HG.out.2.2 hlim
          have HK := Lib.hid (show GoodP w2 w.heap.size (v, keepL l) from ⟨owns_low hv HB.out.size, hgood.1⟩)
          have HV := Lib.hid (show GoodP w2 w.heap.size (u, giveL l) from ⟨owns_low hu HB.out.size, hgood.2.1⟩)
          have HS := Lib.hid hgood.2.2
          have HA2 := Lib.hid (HA.out.below hB)
          have HB2 := Lib.hid (HB.out.trans (hB.mono HB.out.size))
          obtain ⟨ka, kc, rfl⟩ : ∃ a c, v = .slice a (keepL l).length c := slice_shape HK.out
          obtain ⟨ua, uc, rfl⟩ : ∃ a c, u = .slice a (giveL l).length c := slice_shape HV.out
          obtain ⟨g', cap', he, hc', hf', hBg, hgl⟩ := HA2.out.open HPOS.out
          injection he with he1 he2 he3
          injection he1 with he1
          injection he1 with he1
          subst he1
          subst he3
          have k3 := hc' k hkl
          rw [HAK.out] at k3
          have f3 := hf' k
          have HA4 := Lib.hid (HA2.out.put rfl hkl HK.out)
          have HV4 := Lib.hid (HV.out.keep (put_keep (i := k) (x := .slice ka (keepL l).length kc) HA2.out.own))
          have HB4 := Lib.hid (HB2.out.setCell (p := ⟨g, k, none⟩) hBg (.slice ka (keepL l).length kc))
          have HBs := Lib.hid (show w.heap.size ≤ w2.heap.size from HB2.out.size)
          have hle := HLEN.out
          clear hv hu hB hgood hc' hf' hBg hgl he2 k1 k2 hlim
          go_wp2_with (at_builtin; refine wpList_append_own _ rfl _ _ 25 rfl w.heap.size 23 ig (.slice none 0 0) 1 24 Try.underlying25 hig hg0 hg1 hg2 rfl (by decide) _ _ _ rfl (HA4.out.own.alloc _) ⟨w2.heap.size, 0, none⟩ 1 1 [.slice ua (giveL l).length uc] rfl rfl ?c1 ?c2 ?c3 ?c4 ?c5 ?_)
          case c1 =>
            intro j2 u2 hj2
            have h := one_cell (w := w2.setCell ⟨g, k, none⟩ (.slice ka (keepL l).length kc)) (E := 23) j2 u2 hj2
            have e : (w2.setCell ⟨g, k, none⟩ (.slice ka (keepL l).length kc)).heap.size = w2.heap.size := by simp
            rw [e] at h
            exact h
          case c2 => first | exact slice_one | rfl
          case c3 => unfold maxLen; simp; omega
          case c4 => simp; omega
          case c5 => have := HBs.out; simp; omega
          intro v' w5 hown hgrow _
          have HA5 := Lib.hid (HA4.out.push HV4.out (by rw [List.length_set, List.map_set]; exact hown) hgrow)
          have HB5 := Lib.hid (own_grown HA4.out.own HB4.out hgrow)
          clear hown hgrow
          go_wp2_with fail
          go_roundg (gk - 1)
          case rel => exact ⟨j + 1, _, by omega, by go_num, HA5.out, by simp, by simp; omega, by
            have h1 := wA_set A k (.slice ka (keepL l).length kc, keepL l) hkl
            have h2 := HS.out
            have h3 := HSUM.out
            rw [HAK.out] at h1
            rw [wA_append, wA_one]
            simp only at h1 ⊢
            omega, HB5.out⟩
          case measure => omega
      · have hn61 : A.length ≤ 61 := by have := HLEN.out; omega
        have hpos := HPOS.out
        obtain ⟨g, cap, rfl, _, _, hBg, _⟩ := HA.out.open hpos
        obtain ⟨n, hn⟩ : ∃ n, A.length = n := ⟨_, rfl⟩
        have HN := Lib.hid hn
        rw [hn] at HA hn61 hpos
        rw [hn]
        have HBG := Lib.hid hBg
        clear HLEN HP HP2 hpl HPOS hBg hn
        go_wp2_with fail
        go_loopg [13] Q.length (fun gk si wr => ∃ (j : Nat) (A : List (Value × List Int)), gk + j = Q.length ∧ si = .int .i64 j ∧ AOwn wr w.heap.size (.slice (some ⟨g, 0, none⟩) n cap) A ∧ A.length = n ∧ wA A = pw 0 ∧ Below w.heap.size w wr)
        case atStart => exact ⟨0, A, by omega, rfl, HA.out, HN.out, HSUM.out, HB.out⟩
        case round =>
          clear HA HN HSUM HB hj hjl
          obtain ⟨j, A, hj, rfl, ho, hn, hsum, hB⟩ := hrel
          have HA := Lib.hid ho
          have HB := Lib.hid hB
          have HN := Lib.hid hn
          have HSUM := Lib.hid hsum
          have hql : (Q.length : Int) ≤ 9223372036854775807 := by have := HQ1.out; unfold maxLen at this; omega
          clear ho hB hsum
          by_cases hjl : j < Q.length
          · obtain ⟨b5, off5, cc5, he, hb5, hc5⟩ := (HQ.out.below HB.out).at (by omega)
            injection he with he1 he2 he3
            subst he1
            have k1 : wr.cell? ⟨b5, off5 + j, none⟩ = some (.int .u8 (Q[j] : Nat)) := by have h := hc5 j hjl 0 _ rfl; rw [Nat.mul_one, Nat.add_zero] at h; exact h
            have hx := HQ2.out _ (List.getElem_mem hjl)
            generalize Q[j] = x at k1 hx
            clear hc5 he2 he3 hb5
            obtain ⟨k, hk⟩ : ∃ k, x % n = k := ⟨_, rfl⟩
            have hkn : k < n := by rw [← hk]; exact Nat.mod_lt _ hpos
            have hk2 : (x : Int) % (n : Int) = (k : Int) := by rw [← hk]; exact (Int.natCast_emod _ _).symm
            have hp0 : 0 < A.length := by omega
            have hkl : k < A.length := by omega
            have HSW := Lib.hid (wA_swap hp0 hkl)
            have HA2 := Lib.hid (HA.out.put hn.symm hp0 (HA.out.good _ (List.getElem_mem hkl)))
            have HP0 := Lib.hid ((HA.out.good _ (List.getElem_mem hp0)).keep (put_keep (i := 0) (x := A[k].1) HA.out.own))
            have HA3 := Lib.hid (HA2.out.put (by simpa using hn.symm) (by simpa using hkl) HP0.out)
            have HBB := Lib.hid ((HB.out.setCell (p := ⟨g, 0, none⟩) HBG.out A[k].1).setCell (p := ⟨g, k, none⟩) HBG.out A[0].1)
            obtain ⟨_, _, he, hcell, hfz, _, _⟩ := HA.out.open hp0
            injection he with he1 he2 he3
            injection he1 with he1
            injection he1 with he1
            subst he1
            have k2 := hcell k hkl
            have k3 := hcell 0 hp0
            have f3 := hfz 0
            clear he2 he3 hcell hfz
            obtain ⟨_, _, he, hc', hf', _, _⟩ := HA2.out.open (by simpa using hp0)
            injection he with he1 he2 he3
            injection he1 with he1
            injection he1 with he1
            subst he1
            have k4 := hc' k (by simpa using hkl)
            have f4 := hf' k
            have s2 := slice_shape (HA.out.good _ (List.getElem_mem hkl))
            have s0 := slice_shape (HA.out.good _ (List.getElem_mem hp0))
            have e4 : (A.set 0 A[k])[k]'(by simpa using hkl) = A[k] := by
              rw [List.getElem_set]
              split
              · rfl
              · rfl
            rw [e4] at k4
            clear hc' hf' he2 he3 hk e4 HA2 HP0 HA
            generalize A[k] = pk at *
            generalize A[0] = p0 at *
            obtain ⟨pv, pl⟩ := pk
            obtain ⟨qv, ql⟩ := p0
            simp only at s2 s0 k2 k3 k4 f4 HBB HA3
            obtain ⟨sk, tk, rfl⟩ := s2
            obtain ⟨sq, tq, rfl⟩ := s0
            go_wp2_with fail
            go_roundg (gk - 1)
            case rel => exact ⟨j + 1, (A.set 0 _).set k _, by omega, by go_num, HA3.out, by simpa using hn, HSW.out.trans HSUM.out, HBB.out⟩
            case measure => omega
          · have HQX := HQ
            clear HQX
            clear HPL HQ HQ2 HQ1
            go_wp2_with fail
            clear hql hj hjl
            go_loopg [16, 17, 18] n (fun gk hv lv si wr => ∃ (j : Nat) (H F : List (Value × List Int)), gk + j = n ∧ si = .int .i64 j ∧ AOwn wr w.heap.size (.slice (some ⟨g, 0, none⟩) n cap) A ∧ AOwn wr w.heap.size hv H ∧ AOwn wr w.heap.size lv F ∧ Apart (.slice (some ⟨g, 0, none⟩) n cap) hv ∧ Apart (.slice (some ⟨g, 0, none⟩) n cap) lv ∧ Apart hv lv ∧ wA H + wA F = wA (A.take j) ∧ H.length ≤ j ∧ F.length ≤ j ∧ Below w.heap.size w wr)
            case atStart => exact ⟨0, [], [], by omega, rfl, HA.out, AOwn.nil _ _, AOwn.nil _ _, Apart.nil.symm, Apart.nil.symm, Apart.nil, by simp [wA], by simp, by simp, HB.out⟩
            case round =>
              clear HA HB
              obtain ⟨j, H, F, hj, rfl, ha, hh, hf, p1, p2, p3, hs, hhl, hfl, hB⟩ := hrel
              have HA := Lib.hid ha
              have HH := Lib.hid hh
              have HF := Lib.hid hf
              have P1 := Lib.hid p1
              have P2 := Lib.hid p2
              have P3 := Lib.hid p3
              have HSS := Lib.hid hs
              have HB := Lib.hid hB
              clear ha hh hf p1 p2 p3 hs hB
              by_cases hjl : j < n
              · have hjA : j < A.length := by omega
                have hp0 : 0 < A.length := by omega
                have hg := HA.out.good _ (List.getElem_mem hjA)
                have HT := Lib.hid (wA_take hjA)
                obtain ⟨_, _, he, hcell, _, _, _⟩ := HA.out.open hp0
                injection he with he1 he2 he3
                injection he1 with he1
                injection he1 with he1
                subst he1
                have k2 := hcell j hjA
                clear hcell he2 he3
                obtain ⟨⟨pv, l⟩, hAk⟩ : ∃ p, A[j] = p := ⟨_, rfl⟩
                rw [hAk] at hg k2 HT
                obtain ⟨sa, sc, hsh⟩ := slice_shape hg
                simp only at hsh
                subst hsh
                have HG := Lib.hid hg
                have HAK := Lib.hid hAk
                clear hg hAk
                by_cases hjU : j < U.length
                · obtain ⟨b5, off5, cc5, he, hb5, hc5⟩ := (HU.out.below HB.out).at (by omega)
                  injection he with he1 he2 he3
                  subst he1
                  have k1 : wr.cell? ⟨b5, off5 + j, none⟩ = some (.bool U[j]) := by have h := hc5 j hjU 0 _ rfl; rw [Nat.mul_one, Nat.add_zero] at h; exact h
                  have hul : (U.length : Int) ≤ 9223372036854775807 := by have := HU1.out; unfold maxLen at this; omega
                  clear hc5 he2 he3 hb5
                  cases hUj : U[j] with
                  | true =>
                    rw [hUj] at k1
                    clear hUj
                    go_wp2_with (at_builtin; refine wpList_append_lies _ rfl _ _ 25 rfl w.heap.size 23 ig (.slice none 0 0) 1 24 Try.underlying25 hig hg0 hg1 hg2 rfl (by decide) _ _ _ rfl (HF.out.own.alloc _) ⟨wr.heap.size, 0, none⟩ 1 1 [.slice sa l.length sc] rfl rfl ?c1 ?c2 (by decide) ?c3 ?c4 ?c5 _ rfl ?_)
                    case c2 => first | exact slice_one | rfl
                    case c3 => unfold maxLen; simp; omega
                    case c4 => omega
                    case c5 => have := HB.out.size; simp; omega
                    intro g2 cap2 w5 hown hgrow hat hlt
                    have hst := stays_of (w := wr) (n := 0) (cap := cap2) (o := .cells #[.slice sa l.length sc] 23) hat (by simp)
                    have HA5 := Lib.hid (HA.out.far HF.out.own P2.out hgrow)
                    have HO5 := Lib.hid (HH.out.far HF.out.own P3.out hgrow)
                    have HN5 := Lib.hid (HF.out.push HG.out hown hgrow)
                    have HG5 := Lib.hid (HG.out.keep (keep_grow HF.out.own hgrow))
                    have HB5 := Lib.hid (own_grown HF.out.own HB.out hgrow)
                    have P2' := Lib.hid (hst.apart P2.out HA.out.lt)
                    have P3' := Lib.hid (hst.apart P3.out HH.out.lt)
                    clear P2 P3 HA HH HF HG HB
                    have P2 := P2'
                    have P3 := P3'
                    have HH := HO5
                    have HF := HN5
                    clear P2' P3' HO5 HN5
                    have HA := HA5
                    have HG := HG5
                    have HB := HB5
                    have HSS := Lib.hid (show wA H + wA (F ++ [(.slice sa l.length sc, l)]) = wA (A.take (j + 1)) by have h1 := HSS.out; have h2 := HT.out; rw [wA_append, wA_one]; simp only at h2 ⊢; omega)
                    clear HA5 HG5 HB5 hown hgrow hat hlt hst HT k2
                    obtain ⟨_, _, he, hcell, _, _, _⟩ := HA.out.open hp0
                    injection he with he1 he2 he3
                    injection he1 with he1
                    injection he1 with he1
                    subst he1
                    have k2 := hcell j hjA
                    clear hcell he2 he3
                    rw [HAK.out] at k2
                    go_wp2_with fail
                    refine (encode_any l _ _ HG.out.1.reads (Nat.le_trans HG.out.len (by decide))).mono ?_
                    rintro e w6 ⟨rfl, hB⟩
                    rw [enc_ok HG.out.2.1]
                    simp only
                    have k2 := (hB.cell (p := ⟨g, j, none⟩) (HA.out.lt g rfl)).trans k2
                    have HA := Lib.hid (HA.out.below hB)
                    have HH := Lib.hid (HH.out.below hB)
                    have HF := Lib.hid (HF.out.below hB)
                    have HG := Lib.hid (HG.out.below hB)
                    have HB := Lib.hid (HB.out.trans (hB.mono HB.out.size))
                    clear hB
                    go_wp2_with fail
                    refine (decode_any (encB l) w6 (by have h : (encB l).length ≤ 100000 := enc_len HG.out.2.1; omega)).mono ?_
                    rintro e w7 ⟨vd, rfl, ho, hB⟩
                    rw [dec_enc HG.out.2.1] at ho ⊢
                    simp only at ho ⊢
                    have HD := Lib.hid (show COwn w7 _ vd l from ho).reads
                    obtain ⟨da, dc, rfl⟩ := HD.out.slice
                    have k2 := (hB.cell (p := ⟨g, j, none⟩) (HA.out.lt g rfl)).trans k2
                    have HA := Lib.hid (HA.out.below hB)
                    have HH := Lib.hid (HH.out.below hB)
                    have HF := Lib.hid (HF.out.below hB)
                    have HG := Lib.hid (HG.out.below hB)
                    have HB := Lib.hid (HB.out.trans (hB.mono HB.out.size))
                    clear hB ho
                    go_wp2_with fail
                    refine (rsame_any l l _ _ w7 HD.out HG.out.1.reads (Nat.le_trans HG.out.len (by decide)) (Nat.le_trans HG.out.len (by decide))).mono ?_
                    rintro e w8 ⟨rfl, hB⟩
                    rw [decide_eq_true rfl]
                    have HA := Lib.hid (HA.out.below hB)
                    have HH := Lib.hid (HH.out.below hB)
                    have HF := Lib.hid (HF.out.below hB)
                    have HB := Lib.hid (HB.out.trans (hB.mono HB.out.size))
                    clear hB
                    go_wp2_with fail
                    go_roundg (gk - 1)
                    case rel => exact ⟨j + 1, H, F ++ [(.slice sa l.length sc, l)], by omega, by go_num, HA.out, HH.out, HF.out, P1.out, P2.out, P3.out, HSS.out, by first | omega | (simp; omega), by first | omega | (simp; omega), HB.out⟩
                    case measure => omega
                  | false =>
                    rw [hUj] at k1
                    clear hUj
                    go_wp2_with (at_builtin; refine wpList_append_lies _ rfl _ _ 25 rfl w.heap.size 23 ig (.slice none 0 0) 1 24 Try.underlying25 hig hg0 hg1 hg2 rfl (by decide) _ _ _ rfl (HH.out.own.alloc _) ⟨wr.heap.size, 0, none⟩ 1 1 [.slice sa l.length sc] rfl rfl ?c1 ?c2 (by decide) ?c3 ?c4 ?c5 _ rfl ?_)
                    case c2 => first | exact slice_one | rfl
                    case c3 => unfold maxLen; simp; omega
                    case c4 => omega
                    case c5 => have := HB.out.size; simp; omega
                    intro g2 cap2 w5 hown hgrow hat hlt
                    have hst := stays_of (w := wr) (n := 0) (cap := cap2) (o := .cells #[.slice sa l.length sc] 23) hat (by simp)
                    have HA5 := Lib.hid (HA.out.far HH.out.own P1.out hgrow)
                    have HO5 := Lib.hid (HF.out.far HH.out.own P3.out.symm hgrow)
                    have HN5 := Lib.hid (HH.out.push HG.out hown hgrow)
                    have HG5 := Lib.hid (HG.out.keep (keep_grow HH.out.own hgrow))
                    have HB5 := Lib.hid (own_grown HH.out.own HB.out hgrow)
                    have P1' := Lib.hid (hst.apart P1.out HA.out.lt)
                    have P3' := Lib.hid (Apart.symm (hst.apart P3.out.symm HF.out.lt))
                    clear P1 P3 HA HH HF HG HB
                    have P1 := P1'
                    have P3 := P3'
                    have HF := HO5
                    have HH := HN5
                    clear P1' P3' HO5 HN5
                    have HA := HA5
                    have HG := HG5
                    have HB := HB5
                    have HSS := Lib.hid (show wA (H ++ [(.slice sa l.length sc, l)]) + wA F = wA (A.take (j + 1)) by have h1 := HSS.out; have h2 := HT.out; rw [wA_append, wA_one]; simp only at h2 ⊢; omega)
                    clear HA5 HG5 HB5 hown hgrow hat hlt hst HT k2
                    obtain ⟨_, _, he, hcell, _, _, _⟩ := HA.out.open hp0
                    injection he with he1 he2 he3
                    injection he1 with he1
                    injection he1 with he1
                    subst he1
                    have k2 := hcell j hjA
                    clear hcell he2 he3
                    rw [HAK.out] at k2
                    go_wp2_with fail
                    refine (encode_any l _ _ HG.out.1.reads (Nat.le_trans HG.out.len (by decide))).mono ?_
                    rintro e w6 ⟨rfl, hB⟩
                    rw [enc_ok HG.out.2.1]
                    simp only
                    have k2 := (hB.cell (p := ⟨g, j, none⟩) (HA.out.lt g rfl)).trans k2
                    have HA := Lib.hid (HA.out.below hB)
                    have HH := Lib.hid (HH.out.below hB)
                    have HF := Lib.hid (HF.out.below hB)
                    have HG := Lib.hid (HG.out.below hB)
                    have HB := Lib.hid (HB.out.trans (hB.mono HB.out.size))
                    clear hB
                    go_wp2_with fail
                    refine (decode_any (encB l) w6 (by have h : (encB l).length ≤ 100000 := enc_len HG.out.2.1; omega)).mono ?_
                    rintro e w7 ⟨vd, rfl, ho, hB⟩
                    rw [dec_enc HG.out.2.1] at ho ⊢
                    simp only at ho ⊢
                    have HD := Lib.hid (show COwn w7 _ vd l from ho).reads
                    obtain ⟨da, dc, rfl⟩ := HD.out.slice
                    have k2 := (hB.cell (p := ⟨g, j, none⟩) (HA.out.lt g rfl)).trans k2
                    have HA := Lib.hid (HA.out.below hB)
                    have HH := Lib.hid (HH.out.below hB)
                    have HF := Lib.hid (HF.out.below hB)
                    have HG := Lib.hid (HG.out.below hB)
                    have HB := Lib.hid (HB.out.trans (hB.mono HB.out.size))
                    clear hB ho
                    go_wp2_with fail
                    refine (rsame_any l l _ _ w7 HD.out HG.out.1.reads (Nat.le_trans HG.out.len (by decide)) (Nat.le_trans HG.out.len (by decide))).mono ?_
                    rintro e w8 ⟨rfl, hB⟩
                    rw [decide_eq_true rfl]
                    have HA := Lib.hid (HA.out.below hB)
                    have HH := Lib.hid (HH.out.below hB)
                    have HF := Lib.hid (HF.out.below hB)
                    have HB := Lib.hid (HB.out.trans (hB.mono HB.out.size))
                    clear hB
                    go_wp2_with fail
                    go_roundg (gk - 1)
                    case rel => exact ⟨j + 1, H ++ [(.slice sa l.length sc, l)], F, by omega, by go_num, HA.out, HH.out, HF.out, P1.out, P2.out, P3.out, HSS.out, by first | omega | (simp; omega), by first | omega | (simp; omega), HB.out⟩
                    case measure => omega
                · have hul : (U.length : Int) ≤ 9223372036854775807 := by have := HU1.out; unfold maxLen at this; omega
                  go_wp2_with (at_builtin; refine wpList_append_lies _ rfl _ _ 25 rfl w.heap.size 23 ig (.slice none 0 0) 1 24 Try.underlying25 hig hg0 hg1 hg2 rfl (by decide) _ _ _ rfl (HH.out.own.alloc _) ⟨wr.heap.size, 0, none⟩ 1 1 [.slice sa l.length sc] rfl rfl ?c1 ?c2 (by decide) ?c3 ?c4 ?c5 _ rfl ?_)
                  case c2 => first | exact slice_one | rfl
                  case c3 => unfold maxLen; simp; omega
                  case c4 => omega
                  case c5 => have := HB.out.size; simp; omega
                  intro g2 cap2 w5 hown hgrow hat hlt
                  have hst := stays_of (w := wr) (n := 0) (cap := cap2) (o := .cells #[.slice sa l.length sc] 23) hat (by simp)
                  have HA5 := Lib.hid (HA.out.far HH.out.own P1.out hgrow)
                  have HO5 := Lib.hid (HF.out.far HH.out.own P3.out.symm hgrow)
                  have HN5 := Lib.hid (HH.out.push HG.out hown hgrow)
                  have HG5 := Lib.hid (HG.out.keep (keep_grow HH.out.own hgrow))
                  have HB5 := Lib.hid (own_grown HH.out.own HB.out hgrow)
                  have P1' := Lib.hid (hst.apart P1.out HA.out.lt)
                  have P3' := Lib.hid (Apart.symm (hst.apart P3.out.symm HF.out.lt))
                  clear P1 P3 HA HH HF HG HB
                  have P1 := P1'
                  have P3 := P3'
                  have HF := HO5
                  have HH := HN5
                  clear P1' P3' HO5 HN5
                  have HA := HA5
                  have HG := HG5
                  have HB := HB5
                  have HSS := Lib.hid (show wA (H ++ [(.slice sa l.length sc, l)]) + wA F = wA (A.take (j + 1)) by have h1 := HSS.out; have h2 := HT.out; rw [wA_append, wA_one]; simp only at h2 ⊢; omega)
                  clear HA5 HG5 HB5 hown hgrow hat hlt hst HT k2
                  obtain ⟨_, _, he, hcell, _, _, _⟩ := HA.out.open hp0
                  injection he with he1 he2 he3
                  injection he1 with he1
                  injection he1 with he1
                  subst he1
                  have k2 := hcell j hjA
                  clear hcell he2 he3
                  rw [HAK.out] at k2
                  go_wp2_with fail
                  refine (encode_any l _ _ HG.out.1.reads (Nat.le_trans HG.out.len (by decide))).mono ?_
                  rintro e w6 ⟨rfl, hB⟩
                  rw [enc_ok HG.out.2.1]
                  simp only
                  have k2 := (hB.cell (p := ⟨g, j, none⟩) (HA.out.lt g rfl)).trans k2
                  have HA := Lib.hid (HA.out.below hB)
                  have HH := Lib.hid (HH.out.below hB)
                  have HF := Lib.hid (HF.out.below hB)
                  have HG := Lib.hid (HG.out.below hB)
                  have HB := Lib.hid (HB.out.trans (hB.mono HB.out.size))
                  clear hB
                  go_wp2_with fail
                  refine (decode_any (encB l) w6 (by have h : (encB l).length ≤ 100000 := enc_len HG.out.2.1; omega)).mono ?_
                  rintro e w7 ⟨vd, rfl, ho, hB⟩
                  rw [dec_enc HG.out.2.1] at ho ⊢
                  simp only at ho ⊢
                  have HD := Lib.hid (show COwn w7 _ vd l from ho).reads
                  obtain ⟨da, dc, rfl⟩ := HD.out.slice
                  have k2 := (hB.cell (p := ⟨g, j, none⟩) (HA.out.lt g rfl)).trans k2
                  have HA := Lib.hid (HA.out.below hB)
                  have HH := Lib.hid (HH.out.below hB)
                  have HF := Lib.hid (HF.out.below hB)
                  have HG := Lib.hid (HG.out.below hB)
                  have HB := Lib.hid (HB.out.trans (hB.mono HB.out.size))
                  clear hB ho
                  go_wp2_with fail
                  refine (rsame_any l l _ _ w7 HD.out HG.out.1.reads (Nat.le_trans HG.out.len (by decide)) (Nat.le_trans HG.out.len (by decide))).mono ?_
                  rintro e w8 ⟨rfl, hB⟩
                  rw [decide_eq_true rfl]
                  have HA := Lib.hid (HA.out.below hB)
                  have HH := Lib.hid (HH.out.below hB)
                  have HF := Lib.hid (HF.out.below hB)
                  have HB := Lib.hid (HB.out.trans (hB.mono HB.out.size))
                  clear hB
                  go_wp2_with fail
                  go_roundg (gk - 1)
                  case rel => exact ⟨j + 1, H ++ [(.slice sa l.length sc, l)], F, by omega, by go_num, HA.out, HH.out, HF.out, P1.out, P2.out, P3.out, HSS.out, by first | omega | (simp; omega), by first | omega | (simp; omega), HB.out⟩
                  case measure => omega
              · have hjA : j = A.length := by omega
                have HE := Lib.hid (back_end HH.out.all HF.out.all (by rw [wA_map, wA_map, HSS.out, hjA, List.take_length, HSUM.out]))
                have hhl2 : H.length ≤ 61 := by omega
                have hfl2 : F.length ≤ 61 := by omega
                clear hhl hfl HSS HA P1 P2 P3 HU HU1 HSUM hjA
                obtain ⟨h, f, e1, e2, e3, e4, e5, e6, e7, e8⟩ := HE.out
                rw [List.length_map] at e8
                have E1 := Lib.hid e1
                have E2 := Lib.hid e2
                have E3 := Lib.hid e3
                have E4 := Lib.hid e4
                have E5 := Lib.hid e5
                have E6 := Lib.hid e6
                have E7 := Lib.hid e7
                have E8 := Lib.hid e8
                clear e1 e2 e3 e4 e5 e6 e7 e8 HE
                go_wp2_with fail
                refine (add_any H _ wr HH.out.reads (by omega) (fun p hp => ⟨(HH.out.good p hp).1.reads, Nat.le_trans (HH.out.good p hp).len (by decide)⟩)).mono ?_
                rintro e w6 ⟨vh, rfl, ho, hB⟩
                rw [E1.out] at ho ⊢
                simp only at ho ⊢
                have RH := Lib.hid (show COwn w6 _ vh h from ho)
                have RH := Lib.hid RH.out.reads
                obtain ⟨avh, cvh, rfl⟩ := RH.out.slice
                have HF := Lib.hid (HF.out.below hB)
                have HB := Lib.hid (HB.out.trans (hB.mono HB.out.size))
                clear hB ho HH
                go_wp2_with fail
                refine (add_any F _ w6 HF.out.reads (by omega) (fun p hp => ⟨(HF.out.good p hp).1.reads, Nat.le_trans (HF.out.good p hp).len (by decide)⟩)).mono ?_
                rintro e w7 ⟨vf, rfl, ho, hB⟩
                rw [E2.out] at ho ⊢
                simp only at ho ⊢
                have RF := Lib.hid (show COwn w7 _ vf f from ho)
                have RF := Lib.hid RF.out.reads
                obtain ⟨avf, cvf, rfl⟩ := RF.out.slice
                have RH := Lib.hid (RH.out.below hB)
                obtain ⟨fa, fc, hfv⟩ := HF.out.reads.slice
                subst hfv
                have HB := Lib.hid (HB.out.trans (hB.mono HB.out.size))
                clear hB ho HF
                go_wp2_with fail
                refine (one_any w7).mono ?_
                rintro e w8 ⟨b8, c8, rfl, ho, hB⟩
                have HO := Lib.hid (show COwn w8 _ _ [0] from ho).reads
                have RH := Lib.hid (RH.out.below hB)
                have RF := Lib.hid (RF.out.below hB)
                have HB := Lib.hid (HB.out.trans (hB.mono HB.out.size))
                clear hB ho
                go_wp2_with fail
                refine (sub_any [0] h _ _ w8 HO.out RH.out (by decide) (Nat.le_trans E3.out (by decide))).mono ?_
                rintro e w9 ⟨vm, rfl, ho, hB⟩
                rw [E5.out] at ho ⊢
                simp only at ho ⊢
                have RM := Lib.hid (show COwn w9 _ vm f from ho).reads
                have RH := Lib.hid (RH.out.below hB)
                have RF := Lib.hid (RF.out.below hB)
                have HB := Lib.hid (HB.out.trans (hB.mono HB.out.size))
                clear hB ho HO
                go_wp2_with fail
                have hA : Below w9.heap.size w9 (w9.alloc (.cells #[.slice avh h.length cvh, .slice avf f.length cvf] 23)) := ((Below.refl _ _).alloc (Nat.le_refl _) _)
                have HVV : Hid (ReadsK encV 1 (w9.alloc (.cells #[.slice avh h.length cvh, .slice avf f.length cvf] 23)) (.slice (some ⟨w9.heap.size, 0, none⟩) 2 2) [(.slice avh h.length cvh, h), (.slice avf f.length cvf, f)]) := lit_v (L := [(.slice avh h.length cvh, h), (.slice avf f.length cvf, f)]) (show (w9.heap.push _)[w9.heap.size]? = _ from by rw [Array.getElem?_push, if_pos rfl]; rfl)
                have RH := Lib.hid (RH.out.below hA)
                have RF := Lib.hid (RF.out.below hA)
                have RM := Lib.hid (RM.out.below hA)
                have HB := Lib.hid (HB.out.trans (hA.mono HB.out.size))
                clear hA
                refine (add_any [(.slice avh h.length cvh, h), (.slice avf f.length cvf, f)] _ _ HVV.out (by simp) (by
                  intro p hp
                  simp only [List.mem_cons, List.not_mem_nil, or_false] at hp
                  rcases hp with rfl | rfl
                  · exact ⟨RH.out, Nat.le_trans E3.out (by decide)⟩
                  · exact ⟨RF.out, Nat.le_trans E4.out (by decide)⟩
                  )).mono ?_
                rintro e w10 ⟨vo, rfl, ho, hB⟩
                simp only [List.map_cons, List.map_nil] at ho ⊢
                rw [E7.out] at ho ⊢
                simp only at ho ⊢
                have RO := Lib.hid (show COwn w10 _ vo [0] from ho).reads
                have RH := Lib.hid (RH.out.below hB)
                have RF := Lib.hid (RF.out.below hB)
                have RM := Lib.hid (RM.out.below hB)
                have HB := Lib.hid (HB.out.trans (hB.mono HB.out.size))
                clear hB ho HVV
                go_wp2_with fail
                refine (rsame_any f f _ _ w10 RM.out RF.out (Nat.le_trans E4.out (by decide)) (Nat.le_trans E4.out (by decide))).mono ?_
                rintro e w11 ⟨rfl, hB⟩
                rw [decide_eq_true rfl]
                have RM := Lib.hid (RM.out.below hB)
                have RF := Lib.hid (RF.out.below hB)
                have RO := Lib.hid (RO.out.below hB)
                have RH := Lib.hid (RH.out.below hB)
                have HB := Lib.hid (HB.out.trans (hB.mono HB.out.size))
                clear hB
                go_wp2_with fail
                refine (ccompare_any f f _ _ w11 RM.out RF.out (Nat.le_trans E4.out (by decide)) (Nat.le_trans E4.out (by decide))).mono ?_
                rintro e w12 ⟨rfl, hB⟩
                rw [E6.out]
                have RO := Lib.hid (RO.out.below hB)
                have RH := Lib.hid (RH.out.below hB)
                have HB := Lib.hid (HB.out.trans (hB.mono HB.out.size))
                clear hB
                go_wp2_with fail
                refine (isone_any [0] _ w12 RO.out (by decide)).mono ?_
                rintro e w13 ⟨rfl, hB⟩
                rw [decide_eq_true rfl]
                have RH := Lib.hid (RH.out.below hB)
                have HB := Lib.hid (HB.out.trans (hB.mono HB.out.size))
                clear hB
                go_wp2_with fail
                refine (isone_any h _ w13 RH.out (Nat.le_trans E3.out (by decide))).mono ?_
                rintro e w14 ⟨rfl, hB⟩
                have HB := Lib.hid (HB.out.trans (hB.mono HB.out.size))
                rw [E8.out]
                clear hB
                by_cases hz : F.length = 0
                · rw [decide_eq_true hz]
                  have hzb : ((F.length : Int) == 0) = true := by simp [hz]
                  go_wp2_with fail
                  refine (alive_any w14).mono ?_
                  rintro e w15 ⟨rfl, hB⟩
                  have HB := Lib.hid (HB.out.trans (hB.mono HB.out.size))
                  clear hB
                  go_wp2_with fail
                  go_ret
                  exact ⟨rfl, HB.out⟩
                · rw [decide_eq_false hz]
                  have hzb : ((F.length : Int) == 0) = false := by simp [hz]
                  go_wp2_with fail
                  refine (alive_any w14).mono ?_
                  rintro e w15 ⟨rfl, hB⟩
                  have HB := Lib.hid (HB.out.trans (hB.mono HB.out.size))
                  clear hB
                  go_wp2_with fail
                  go_ret
                  exact ⟨rfl, HB.out⟩
end Go.Proofs.Ytgjmnmcbinekdaa
