/- CreditOrder, walked. -/
import Derived.Test.YtgjmnmcbinekdaaAlive20
import Derived.Test.YtgjmnmcbinekdaaOrdLaw20
import Derived.Test.YtgjmnmcbinekdaaOpen20
namespace Go.Proofs.Ytgjmnmcbinekdaa
open Go.RowKit Go.Lib

set_option maxHeartbeats 16000000 in
set_option maxRecDepth 100000 in
theorem order_row (v0 v1 v2 : Value) (w : World) (h0 : ∃ l, Cr w v0 l) (h1 : ∃ l, Cr w v1 l) (h2 : ∃ l, Cr w v2 l) :
    Calls Try.prog 6 #[v0, v1, v2] w fun e w' => e = .returned (.bool true) ∧ Below w.heap.size w w' := by
  obtain ⟨a, h0, _, _⟩ := h0
  obtain ⟨b, h1, _, _⟩ := h1
  obtain ⟨c, h2, _, _⟩ := h2
  have HA := Lib.hid h0
  have HBB := Lib.hid h1
  have HC := Lib.hid h2
  obtain ⟨a0, c0, rfl⟩ := h0.slice
  obtain ⟨a1, c1, rfl⟩ := h1.slice
  obtain ⟨a2, c2, rfl⟩ := h2.slice
  clear h0 h1 h2
  have HB := Lib.hid (Below.refl w.heap.size w)
  go_enter Try.func6, Try.ntmps6
  go_wp2_with fail
  have hA : Below w.heap.size w (w.alloc (.cells #[.slice a0 a.length c0, .slice a1 b.length c1, .slice a2 c.length c2] 23)) := ((Below.refl _ _).alloc (Nat.le_refl _) _)
  have HVV : Hid (ReadsK encV 1 (w.alloc (.cells #[.slice a0 a.length c0, .slice a1 b.length c1, .slice a2 c.length c2] 23)) (.slice (some ⟨w.heap.size, 0, none⟩) 3 3) [(.slice a0 a.length c0, a), (.slice a1 b.length c1, b), (.slice a2 c.length c2, c)]) := lit_v (L := [(.slice a0 a.length c0, a), (.slice a1 b.length c1, b), (.slice a2 c.length c2, c)]) (show (w.heap.push _)[w.heap.size]? = _ from by rw [Array.getElem?_push, if_pos rfl]; rfl)
  have HA := Lib.hid (HA.out.below hA)
  have HBB := Lib.hid (HBB.out.below hA)
  have HC := Lib.hid (HC.out.below hA)
  have HB := Lib.hid (HB.out.trans (hA.mono HB.out.size))
  clear hA
  refine (long_any [(.slice a0 a.length c0, a), (.slice a1 b.length c1, b), (.slice a2 c.length c2, c)] _ _ HVV.out (by simp) (by
    intro p hp
    simp only [List.mem_cons, List.not_mem_nil, or_false] at hp
    rcases hp with rfl | rfl | rfl
    · exact ⟨_, _, rfl⟩
    · exact ⟨_, _, rfl⟩
    · exact ⟨_, _, rfl⟩
    )).mono ?_
  rintro e w1 ⟨lg, rfl, hB, hlg⟩
  have HLG := Lib.hid hlg
  clear hlg HVV
  have HA := Lib.hid (HA.out.below hB)
  have HBB := Lib.hid (HBB.out.below hB)
  have HC := Lib.hid (HC.out.below hB)
  have HB := Lib.hid (HB.out.trans (hB.mono HB.out.size))
  clear hB
  cases lg with
  | true =>
    clear HLG
    go_wp2_with fail
    refine (alive_any w1).mono ?_
    rintro e w2 ⟨rfl, hB⟩
    have HB := Lib.hid (HB.out.trans (hB.mono HB.out.size))
    clear hB
    go_wp2_with fail
    go_ret
    exact ⟨rfl, HB.out⟩
  | false =>
    have hl := HLG.out rfl
    have LA : Hid (a.length ≤ 8192) := hl.2 (.slice a0 a.length c0, a) (by simp)
    have LB : Hid (b.length ≤ 8192) := hl.2 (.slice a1 b.length c1, b) (by simp)
    have LC : Hid (c.length ≤ 8192) := hl.2 (.slice a2 c.length c2, c) (by simp)
    clear hl HLG
    go_wp2_with fail
    refine (cmay_any a _ w1 HA.out (by have := LA.out; omega)).mono ?_
    rintro e w3 ⟨rfl, hw⟩
    have hw := hw.symm
    subst hw
    cases ha : mayC a with
    | false =>
      clear ha
      go_wp2_with fail
      refine (alive_any w1).mono ?_
      rintro e w4 ⟨rfl, hB⟩
      have HB := Lib.hid (HB.out.trans (hB.mono HB.out.size))
      clear hB
      go_wp2_with fail
      go_ret
      exact ⟨rfl, HB.out⟩
    | true =>
      have Ma := Lib.hid ha
      clear ha
      go_wp2_with fail
      refine (cmay_any b _ w1 HBB.out (by have := LB.out; omega)).mono ?_
      rintro e w5 ⟨rfl, hw⟩
      have hw := hw.symm
      subst hw
      cases hb : mayC b with
      | false =>
        clear hb
        go_wp2_with fail
        refine (alive_any w1).mono ?_
        rintro e w6 ⟨rfl, hB⟩
        have HB := Lib.hid (HB.out.trans (hB.mono HB.out.size))
        clear hB
        go_wp2_with fail
        go_ret
        exact ⟨rfl, HB.out⟩
      | true =>
        have Mb := Lib.hid hb
        clear hb
        go_wp2_with fail
        refine (cmay_any c _ w1 HC.out (by have := LC.out; omega)).mono ?_
        rintro e w7 ⟨rfl, hw⟩
        have hw := hw.symm
        subst hw
        cases hc : mayC c with
        | false =>
          clear hc
          go_wp2_with fail
          refine (alive_any w1).mono ?_
          rintro e w8 ⟨rfl, hB⟩
          have HB := Lib.hid (HB.out.trans (hB.mono HB.out.size))
          clear hB
          go_wp2_with fail
          go_ret
          exact ⟨rfl, HB.out⟩
        | true =>
          have Mc := Lib.hid hc
          clear hc
          obtain ⟨⟨f, x⟩, hx⟩ : ∃ p, addL [a, b, c] = p := ⟨_, rfl⟩
          have HX := Lib.hid hx
          have HY := Lib.hid ((add_turn Ma.out Mb.out Mc.out).trans hx)
          have LX : Hid (x.length ≤ 4097) := (by have := addL_len [a, b, c]; rw [hx] at this; exact this)
          have HM := Lib.hid (add_step Ma.out Mb.out Mc.out)
          clear hx
          rcases cmpC_swap Ma.out Mb.out with ⟨h, h'⟩ | ⟨h, h'⟩ | ⟨h, h'⟩
          ·
            have HAB := Lib.hid h
            have HBA := Lib.hid h'
            have hq := subA_ge Ma.out Mb.out (by omega)
            have hbk := sub_back Ma.out Mb.out (by omega)
            have hln := (sub_left Ma.out Mb.out (by omega)).2.2.len
            have hz := sub_none Ma.out Mb.out h
            obtain ⟨d, hd⟩ : ∃ d, subL a b = d := ⟨_, rfl⟩
            rw [hd] at hq hbk hln hz
            have HQ := Lib.hid hq
            have HBK := Lib.hid hbk
            have LD := Lib.hid hln
            have HZ := Lib.hid hz
            clear hq hbk hln hz hd h h'
            go_wp2_with fail
            refine (sub_any a b _ _ w1 HA.out HBB.out (by have := LA.out; omega) (by have := LB.out; omega)).mono ?_
            rintro e w9 ⟨vd, rfl, ho, hB⟩
            rw [HQ.out] at ho ⊢
            simp only at ho ⊢
            have HD := Lib.hid ho.reads
            obtain ⟨ad, cd, rfl⟩ := HD.out.slice
            clear ho
            have HA := Lib.hid (HA.out.below hB)
            have HBB := Lib.hid (HBB.out.below hB)
            have HC := Lib.hid (HC.out.below hB)
            have HB := Lib.hid (HB.out.trans (hB.mono HB.out.size))
            clear hB
            go_wp2_with fail
            refine (ccompare_any a b _ _ w9 HA.out HBB.out (by have := LA.out; omega) (by have := LB.out; omega)).mono ?_
            rintro e w10 ⟨rfl, hB⟩
            rw [HAB.out]
            have HA := Lib.hid (HA.out.below hB)
            have HBB := Lib.hid (HBB.out.below hB)
            have HC := Lib.hid (HC.out.below hB)
            have HD := Lib.hid (HD.out.below hB)
            have HB := Lib.hid (HB.out.trans (hB.mono HB.out.size))
            clear hB
            go_wp2_with fail
            refine (iszero_any d _ w10 HD.out).mono ?_
            rintro e w11 ⟨rfl, hw⟩
            have hw := hw.symm
            subst hw
            rw [decide_eq_true HZ.out]
            go_wp2_with fail
            refine (ccompare_any a b _ _ w10 HA.out HBB.out (by have := LA.out; omega) (by have := LB.out; omega)).mono ?_
            rintro e w12 ⟨rfl, hB⟩
            rw [HAB.out]
            have HA := Lib.hid (HA.out.below hB)
            have HBB := Lib.hid (HBB.out.below hB)
            have HC := Lib.hid (HC.out.below hB)
            have HD := Lib.hid (HD.out.below hB)
            have HB := Lib.hid (HB.out.trans (hB.mono HB.out.size))
            clear hB
            go_wp2_with fail
            refine (ccompare_any a b _ _ w12 HA.out HBB.out (by have := LA.out; omega) (by have := LB.out; omega)).mono ?_
            rintro e w13 ⟨rfl, hB⟩
            rw [HAB.out]
            have HA := Lib.hid (HA.out.below hB)
            have HBB := Lib.hid (HBB.out.below hB)
            have HC := Lib.hid (HC.out.below hB)
            have HD := Lib.hid (HD.out.below hB)
            have HB := Lib.hid (HB.out.trans (hB.mono HB.out.size))
            clear hB
            go_wp2_with fail
            refine (ccompare_any b a _ _ w13 HBB.out HA.out (by have := LB.out; omega) (by have := LA.out; omega)).mono ?_
            rintro e w14 ⟨rfl, hB⟩
            rw [HBA.out]
            have HA := Lib.hid (HA.out.below hB)
            have HBB := Lib.hid (HBB.out.below hB)
            have HC := Lib.hid (HC.out.below hB)
            have HD := Lib.hid (HD.out.below hB)
            have HB := Lib.hid (HB.out.trans (hB.mono HB.out.size))
            clear hB
            go_wp2_with fail
            have hA : Below w14.heap.size w14 (w14.alloc (.cells #[.slice a1 b.length c1, .slice ad d.length cd] 23)) := ((Below.refl _ _).alloc (Nat.le_refl _) _)
            have HVV : Hid (ReadsK encV 1 (w14.alloc (.cells #[.slice a1 b.length c1, .slice ad d.length cd] 23)) (.slice (some ⟨w14.heap.size, 0, none⟩) 2 2) [(.slice a1 b.length c1, b), (.slice ad d.length cd, d)]) := lit_v (L := [(.slice a1 b.length c1, b), (.slice ad d.length cd, d)]) (show (w14.heap.push _)[w14.heap.size]? = _ from by rw [Array.getElem?_push, if_pos rfl]; rfl)
            have HA := Lib.hid (HA.out.below hA)
            have HBB := Lib.hid (HBB.out.below hA)
            have HC := Lib.hid (HC.out.below hA)
            have HD := Lib.hid (HD.out.below hA)
            have HB := Lib.hid (HB.out.trans (hA.mono HB.out.size))
            clear hA
            refine (add_any [(.slice a1 b.length c1, b), (.slice ad d.length cd, d)] _ _ HVV.out (by simp) (by
              intro p hp
              simp only [List.mem_cons, List.not_mem_nil, or_false] at hp
              rcases hp with rfl | rfl
              · exact ⟨HBB.out, Nat.le_trans LB.out (by decide)⟩
              · exact ⟨HD.out, Nat.le_trans LD.out (by decide)⟩
              )).mono ?_
            rintro e w15 ⟨vs, rfl, ho, hB⟩
            simp only [List.map_cons, List.map_nil] at ho ⊢
            rw [HBK.out] at ho ⊢
            simp only at ho ⊢
            have HS := Lib.hid (show COwn w15 _ vs _ from ho).reads
            clear ho HVV
            have HA := Lib.hid (HA.out.below hB)
            have HBB := Lib.hid (HBB.out.below hB)
            have HC := Lib.hid (HC.out.below hB)
            have HD := Lib.hid (HD.out.below hB)
            have HB := Lib.hid (HB.out.trans (hB.mono HB.out.size))
            clear hB
            go_wp2_with fail
            refine (rsame_any a a _ _ w15 HS.out HA.out (by have := LA.out; omega) (by have := LA.out; omega)).mono ?_
            rintro e w16 ⟨rfl, hB⟩
            rw [decide_eq_true rfl]
            have HA := Lib.hid (HA.out.below hB)
            have HBB := Lib.hid (HBB.out.below hB)
            have HC := Lib.hid (HC.out.below hB)
            have HD := Lib.hid (HD.out.below hB)
            have HS := Lib.hid (HS.out.below hB)
            have HB := Lib.hid (HB.out.trans (hB.mono HB.out.size))
            clear hB
            clear HS HD
            go_wp2_with fail
            have hA : Below w16.heap.size w16 (w16.alloc (.cells #[.slice a0 a.length c0, .slice a1 b.length c1, .slice a2 c.length c2] 23)) := ((Below.refl _ _).alloc (Nat.le_refl _) _)
            have HVV : Hid (ReadsK encV 1 (w16.alloc (.cells #[.slice a0 a.length c0, .slice a1 b.length c1, .slice a2 c.length c2] 23)) (.slice (some ⟨w16.heap.size, 0, none⟩) 3 3) [(.slice a0 a.length c0, a), (.slice a1 b.length c1, b), (.slice a2 c.length c2, c)]) := lit_v (L := [(.slice a0 a.length c0, a), (.slice a1 b.length c1, b), (.slice a2 c.length c2, c)]) (show (w16.heap.push _)[w16.heap.size]? = _ from by rw [Array.getElem?_push, if_pos rfl]; rfl)
            have HA := Lib.hid (HA.out.below hA)
            have HBB := Lib.hid (HBB.out.below hA)
            have HC := Lib.hid (HC.out.below hA)
            have HB := Lib.hid (HB.out.trans (hA.mono HB.out.size))
            clear hA
            refine (add_any [(.slice a0 a.length c0, a), (.slice a1 b.length c1, b), (.slice a2 c.length c2, c)] _ _ HVV.out (by simp) (by
              intro p hp
              simp only [List.mem_cons, List.not_mem_nil, or_false] at hp
              rcases hp with rfl | rfl | rfl
              · exact ⟨HA.out, Nat.le_trans LA.out (by decide)⟩
              · exact ⟨HBB.out, Nat.le_trans LB.out (by decide)⟩
              · exact ⟨HC.out, Nat.le_trans LC.out (by decide)⟩
              )).mono ?_
            rintro e w17 ⟨vx, rfl, ho, hB⟩
            simp only [List.map_cons, List.map_nil] at ho ⊢
            rw [HX.out] at ho ⊢
            simp only at ho ⊢
            have HXR := Lib.hid (show COwn w17 _ vx _ from ho).reads
            clear ho HVV
            have HA := Lib.hid (HA.out.below hB)
            have HBB := Lib.hid (HBB.out.below hB)
            have HC := Lib.hid (HC.out.below hB)
            have HB := Lib.hid (HB.out.trans (hB.mono HB.out.size))
            clear hB
            go_wp2_with fail
            have hA : Below w17.heap.size w17 (w17.alloc (.cells #[.slice a2 c.length c2, .slice a0 a.length c0, .slice a1 b.length c1] 23)) := ((Below.refl _ _).alloc (Nat.le_refl _) _)
            have HVV : Hid (ReadsK encV 1 (w17.alloc (.cells #[.slice a2 c.length c2, .slice a0 a.length c0, .slice a1 b.length c1] 23)) (.slice (some ⟨w17.heap.size, 0, none⟩) 3 3) [(.slice a2 c.length c2, c), (.slice a0 a.length c0, a), (.slice a1 b.length c1, b)]) := lit_v (L := [(.slice a2 c.length c2, c), (.slice a0 a.length c0, a), (.slice a1 b.length c1, b)]) (show (w17.heap.push _)[w17.heap.size]? = _ from by rw [Array.getElem?_push, if_pos rfl]; rfl)
            have HA := Lib.hid (HA.out.below hA)
            have HBB := Lib.hid (HBB.out.below hA)
            have HC := Lib.hid (HC.out.below hA)
            have HXR := Lib.hid (HXR.out.below hA)
            have HB := Lib.hid (HB.out.trans (hA.mono HB.out.size))
            clear hA
            refine (add_any [(.slice a2 c.length c2, c), (.slice a0 a.length c0, a), (.slice a1 b.length c1, b)] _ _ HVV.out (by simp) (by
              intro p hp
              simp only [List.mem_cons, List.not_mem_nil, or_false] at hp
              rcases hp with rfl | rfl | rfl
              · exact ⟨HC.out, Nat.le_trans LC.out (by decide)⟩
              · exact ⟨HA.out, Nat.le_trans LA.out (by decide)⟩
              · exact ⟨HBB.out, Nat.le_trans LB.out (by decide)⟩
              )).mono ?_
            rintro e w18 ⟨vy, rfl, ho, hB⟩
            simp only [List.map_cons, List.map_nil] at ho ⊢
            rw [HY.out] at ho ⊢
            simp only at ho ⊢
            have HYR := Lib.hid (show COwn w18 _ vy _ from ho).reads
            clear ho HVV
            have HA := Lib.hid (HA.out.below hB)
            have HBB := Lib.hid (HBB.out.below hB)
            have HC := Lib.hid (HC.out.below hB)
            have HXR := Lib.hid (HXR.out.below hB)
            have HB := Lib.hid (HB.out.trans (hB.mono HB.out.size))
            clear hB
            go_wp2_with fail
            refine (rsame_any x x _ _ w18 HXR.out HYR.out (by have := LX.out; omega) (by have := LX.out; omega)).mono ?_
            rintro e w19 ⟨rfl, hB⟩
            rw [decide_eq_true rfl]
            have HA := Lib.hid (HA.out.below hB)
            have HBB := Lib.hid (HBB.out.below hB)
            have HC := Lib.hid (HC.out.below hB)
            have HXR := Lib.hid (HXR.out.below hB)
            have HYR := Lib.hid (HYR.out.below hB)
            have HB := Lib.hid (HB.out.trans (hB.mono HB.out.size))
            clear hB
            clear HYR
            rcases HM.out with ⟨m, hm, hml, hmx⟩ | hm
            ·
              have HM1 := Lib.hid hm
              have LM := Lib.hid hml
              have HM2 := Lib.hid (hmx.trans HX.out)
              clear hm hml hmx HM
              go_wp2_with fail
              have hA : Below w19.heap.size w19 (w19.alloc (.cells #[.slice a0 a.length c0, .slice a1 b.length c1] 23)) := ((Below.refl _ _).alloc (Nat.le_refl _) _)
              have HVV : Hid (ReadsK encV 1 (w19.alloc (.cells #[.slice a0 a.length c0, .slice a1 b.length c1] 23)) (.slice (some ⟨w19.heap.size, 0, none⟩) 2 2) [(.slice a0 a.length c0, a), (.slice a1 b.length c1, b)]) := lit_v (L := [(.slice a0 a.length c0, a), (.slice a1 b.length c1, b)]) (show (w19.heap.push _)[w19.heap.size]? = _ from by rw [Array.getElem?_push, if_pos rfl]; rfl)
              have HA := Lib.hid (HA.out.below hA)
              have HBB := Lib.hid (HBB.out.below hA)
              have HC := Lib.hid (HC.out.below hA)
              have HXR := Lib.hid (HXR.out.below hA)
              have HB := Lib.hid (HB.out.trans (hA.mono HB.out.size))
              clear hA
              refine (add_any [(.slice a0 a.length c0, a), (.slice a1 b.length c1, b)] _ _ HVV.out (by simp) (by
                intro p hp
                simp only [List.mem_cons, List.not_mem_nil, or_false] at hp
                rcases hp with rfl | rfl
                · exact ⟨HA.out, Nat.le_trans LA.out (by decide)⟩
                · exact ⟨HBB.out, Nat.le_trans LB.out (by decide)⟩
                )).mono ?_
              rintro e w20 ⟨vm, rfl, ho, hB⟩
              simp only [List.map_cons, List.map_nil] at ho ⊢
              rw [HM1.out] at ho ⊢
              simp only at ho ⊢
              have HMR := Lib.hid (show COwn w20 _ vm _ from ho).reads
              clear ho HVV
              have HA := Lib.hid (HA.out.below hB)
              have HBB := Lib.hid (HBB.out.below hB)
              have HC := Lib.hid (HC.out.below hB)
              have HXR := Lib.hid (HXR.out.below hB)
              have HB := Lib.hid (HB.out.trans (hB.mono HB.out.size))
              clear hB
              obtain ⟨am, cm, rfl⟩ := HMR.out.slice
              go_wp2_with fail
              have hA : Below w20.heap.size w20 (w20.alloc (.cells #[.slice am m.length cm, .slice a2 c.length c2] 23)) := ((Below.refl _ _).alloc (Nat.le_refl _) _)
              have HVV : Hid (ReadsK encV 1 (w20.alloc (.cells #[.slice am m.length cm, .slice a2 c.length c2] 23)) (.slice (some ⟨w20.heap.size, 0, none⟩) 2 2) [(.slice am m.length cm, m), (.slice a2 c.length c2, c)]) := lit_v (L := [(.slice am m.length cm, m), (.slice a2 c.length c2, c)]) (show (w20.heap.push _)[w20.heap.size]? = _ from by rw [Array.getElem?_push, if_pos rfl]; rfl)
              have HA := Lib.hid (HA.out.below hA)
              have HBB := Lib.hid (HBB.out.below hA)
              have HC := Lib.hid (HC.out.below hA)
              have HXR := Lib.hid (HXR.out.below hA)
              have HMR := Lib.hid (HMR.out.below hA)
              have HB := Lib.hid (HB.out.trans (hA.mono HB.out.size))
              clear hA
              refine (add_any [(.slice am m.length cm, m), (.slice a2 c.length c2, c)] _ _ HVV.out (by simp) (by
                intro p hp
                simp only [List.mem_cons, List.not_mem_nil, or_false] at hp
                rcases hp with rfl | rfl
                · exact ⟨HMR.out, Nat.le_trans LM.out (by decide)⟩
                · exact ⟨HC.out, Nat.le_trans LC.out (by decide)⟩
                )).mono ?_
              rintro e w21 ⟨vz, rfl, ho, hB⟩
              simp only [List.map_cons, List.map_nil] at ho ⊢
              rw [HM2.out] at ho ⊢
              simp only at ho ⊢
              have HZR := Lib.hid (show COwn w21 _ vz _ from ho).reads
              clear ho HVV
              have HA := Lib.hid (HA.out.below hB)
              have HBB := Lib.hid (HBB.out.below hB)
              have HC := Lib.hid (HC.out.below hB)
              have HXR := Lib.hid (HXR.out.below hB)
              have HMR := Lib.hid (HMR.out.below hB)
              have HB := Lib.hid (HB.out.trans (hB.mono HB.out.size))
              clear hB
              go_wp2_with fail
              refine (rsame_any x x _ _ w21 HZR.out HXR.out (by have := LX.out; omega) (by have := LX.out; omega)).mono ?_
              rintro e w22 ⟨rfl, hB⟩
              rw [decide_eq_true rfl]
              have HA := Lib.hid (HA.out.below hB)
              have HBB := Lib.hid (HBB.out.below hB)
              have HC := Lib.hid (HC.out.below hB)
              have HXR := Lib.hid (HXR.out.below hB)
              have HMR := Lib.hid (HMR.out.below hB)
              have HZR := Lib.hid (HZR.out.below hB)
              have HB := Lib.hid (HB.out.trans (hB.mono HB.out.size))
              clear hB
              go_wp2_with fail
              refine (alive_any w22).mono ?_
              rintro e w23 ⟨rfl, hB⟩
              have HB := Lib.hid (HB.out.trans (hB.mono HB.out.size))
              clear hB
              go_wp2_with fail
              go_ret
              exact ⟨rfl, HB.out⟩
            ·
              have HM1 := Lib.hid hm
              clear hm HM
              go_wp2_with fail
              have hA : Below w19.heap.size w19 (w19.alloc (.cells #[.slice a0 a.length c0, .slice a1 b.length c1] 23)) := ((Below.refl _ _).alloc (Nat.le_refl _) _)
              have HVV : Hid (ReadsK encV 1 (w19.alloc (.cells #[.slice a0 a.length c0, .slice a1 b.length c1] 23)) (.slice (some ⟨w19.heap.size, 0, none⟩) 2 2) [(.slice a0 a.length c0, a), (.slice a1 b.length c1, b)]) := lit_v (L := [(.slice a0 a.length c0, a), (.slice a1 b.length c1, b)]) (show (w19.heap.push _)[w19.heap.size]? = _ from by rw [Array.getElem?_push, if_pos rfl]; rfl)
              have HA := Lib.hid (HA.out.below hA)
              have HBB := Lib.hid (HBB.out.below hA)
              have HC := Lib.hid (HC.out.below hA)
              have HXR := Lib.hid (HXR.out.below hA)
              have HB := Lib.hid (HB.out.trans (hA.mono HB.out.size))
              clear hA
              refine (add_any [(.slice a0 a.length c0, a), (.slice a1 b.length c1, b)] _ _ HVV.out (by simp) (by
                intro p hp
                simp only [List.mem_cons, List.not_mem_nil, or_false] at hp
                rcases hp with rfl | rfl
                · exact ⟨HA.out, Nat.le_trans LA.out (by decide)⟩
                · exact ⟨HBB.out, Nat.le_trans LB.out (by decide)⟩
                )).mono ?_
              rintro e w24 ⟨vm, rfl, ho, hB⟩
              simp only [List.map_cons, List.map_nil] at ho ⊢
              rw [HM1.out] at ho ⊢
              simp only at ho ⊢
              clear ho HVV
              have HA := Lib.hid (HA.out.below hB)
              have HBB := Lib.hid (HBB.out.below hB)
              have HC := Lib.hid (HC.out.below hB)
              have HXR := Lib.hid (HXR.out.below hB)
              have HB := Lib.hid (HB.out.trans (hB.mono HB.out.size))
              clear hB
              go_wp2_with fail
              refine (alive_any w24).mono ?_
              rintro e w25 ⟨rfl, hB⟩
              have HB := Lib.hid (HB.out.trans (hB.mono HB.out.size))
              clear hB
              go_wp2_with fail
              go_ret
              exact ⟨rfl, HB.out⟩
          ·
            have HAB := Lib.hid h
            have HBA := Lib.hid h'
            have hq := subA_ge Ma.out Mb.out (by omega)
            have hbk := sub_back Ma.out Mb.out (by omega)
            have hln := (sub_left Ma.out Mb.out (by omega)).2.2.len
            have hz := sub_some Ma.out Mb.out h
            obtain ⟨d, hd⟩ : ∃ d, subL a b = d := ⟨_, rfl⟩
            rw [hd] at hq hbk hln hz
            have HQ := Lib.hid hq
            have HBK := Lib.hid hbk
            have LD := Lib.hid hln
            have HZ := Lib.hid hz
            clear hq hbk hln hz hd h h'
            go_wp2_with fail
            refine (sub_any a b _ _ w1 HA.out HBB.out (by have := LA.out; omega) (by have := LB.out; omega)).mono ?_
            rintro e w26 ⟨vd, rfl, ho, hB⟩
            rw [HQ.out] at ho ⊢
            simp only at ho ⊢
            have HD := Lib.hid ho.reads
            obtain ⟨ad, cd, rfl⟩ := HD.out.slice
            clear ho
            have HA := Lib.hid (HA.out.below hB)
            have HBB := Lib.hid (HBB.out.below hB)
            have HC := Lib.hid (HC.out.below hB)
            have HB := Lib.hid (HB.out.trans (hB.mono HB.out.size))
            clear hB
            go_wp2_with fail
            refine (ccompare_any a b _ _ w26 HA.out HBB.out (by have := LA.out; omega) (by have := LB.out; omega)).mono ?_
            rintro e w27 ⟨rfl, hB⟩
            rw [HAB.out]
            have HA := Lib.hid (HA.out.below hB)
            have HBB := Lib.hid (HBB.out.below hB)
            have HC := Lib.hid (HC.out.below hB)
            have HD := Lib.hid (HD.out.below hB)
            have HB := Lib.hid (HB.out.trans (hB.mono HB.out.size))
            clear hB
            go_wp2_with fail
            refine (iszero_any d _ w27 HD.out).mono ?_
            rintro e w28 ⟨rfl, hw⟩
            have hw := hw.symm
            subst hw
            rw [decide_eq_false HZ.out]
            go_wp2_with fail
            refine (ccompare_any a b _ _ w27 HA.out HBB.out (by have := LA.out; omega) (by have := LB.out; omega)).mono ?_
            rintro e w29 ⟨rfl, hB⟩
            rw [HAB.out]
            have HA := Lib.hid (HA.out.below hB)
            have HBB := Lib.hid (HBB.out.below hB)
            have HC := Lib.hid (HC.out.below hB)
            have HD := Lib.hid (HD.out.below hB)
            have HB := Lib.hid (HB.out.trans (hB.mono HB.out.size))
            clear hB
            go_wp2_with fail
            refine (ccompare_any a b _ _ w29 HA.out HBB.out (by have := LA.out; omega) (by have := LB.out; omega)).mono ?_
            rintro e w30 ⟨rfl, hB⟩
            rw [HAB.out]
            have HA := Lib.hid (HA.out.below hB)
            have HBB := Lib.hid (HBB.out.below hB)
            have HC := Lib.hid (HC.out.below hB)
            have HD := Lib.hid (HD.out.below hB)
            have HB := Lib.hid (HB.out.trans (hB.mono HB.out.size))
            clear hB
            go_wp2_with fail
            refine (ccompare_any b a _ _ w30 HBB.out HA.out (by have := LB.out; omega) (by have := LA.out; omega)).mono ?_
            rintro e w31 ⟨rfl, hB⟩
            rw [HBA.out]
            have HA := Lib.hid (HA.out.below hB)
            have HBB := Lib.hid (HBB.out.below hB)
            have HC := Lib.hid (HC.out.below hB)
            have HD := Lib.hid (HD.out.below hB)
            have HB := Lib.hid (HB.out.trans (hB.mono HB.out.size))
            clear hB
            go_wp2_with fail
            have hA : Below w31.heap.size w31 (w31.alloc (.cells #[.slice a1 b.length c1, .slice ad d.length cd] 23)) := ((Below.refl _ _).alloc (Nat.le_refl _) _)
            have HVV : Hid (ReadsK encV 1 (w31.alloc (.cells #[.slice a1 b.length c1, .slice ad d.length cd] 23)) (.slice (some ⟨w31.heap.size, 0, none⟩) 2 2) [(.slice a1 b.length c1, b), (.slice ad d.length cd, d)]) := lit_v (L := [(.slice a1 b.length c1, b), (.slice ad d.length cd, d)]) (show (w31.heap.push _)[w31.heap.size]? = _ from by rw [Array.getElem?_push, if_pos rfl]; rfl)
            have HA := Lib.hid (HA.out.below hA)
            have HBB := Lib.hid (HBB.out.below hA)
            have HC := Lib.hid (HC.out.below hA)
            have HD := Lib.hid (HD.out.below hA)
            have HB := Lib.hid (HB.out.trans (hA.mono HB.out.size))
            clear hA
            refine (add_any [(.slice a1 b.length c1, b), (.slice ad d.length cd, d)] _ _ HVV.out (by simp) (by
              intro p hp
              simp only [List.mem_cons, List.not_mem_nil, or_false] at hp
              rcases hp with rfl | rfl
              · exact ⟨HBB.out, Nat.le_trans LB.out (by decide)⟩
              · exact ⟨HD.out, Nat.le_trans LD.out (by decide)⟩
              )).mono ?_
            rintro e w32 ⟨vs, rfl, ho, hB⟩
            simp only [List.map_cons, List.map_nil] at ho ⊢
            rw [HBK.out] at ho ⊢
            simp only at ho ⊢
            have HS := Lib.hid (show COwn w32 _ vs _ from ho).reads
            clear ho HVV
            have HA := Lib.hid (HA.out.below hB)
            have HBB := Lib.hid (HBB.out.below hB)
            have HC := Lib.hid (HC.out.below hB)
            have HD := Lib.hid (HD.out.below hB)
            have HB := Lib.hid (HB.out.trans (hB.mono HB.out.size))
            clear hB
            go_wp2_with fail
            refine (rsame_any a a _ _ w32 HS.out HA.out (by have := LA.out; omega) (by have := LA.out; omega)).mono ?_
            rintro e w33 ⟨rfl, hB⟩
            rw [decide_eq_true rfl]
            have HA := Lib.hid (HA.out.below hB)
            have HBB := Lib.hid (HBB.out.below hB)
            have HC := Lib.hid (HC.out.below hB)
            have HD := Lib.hid (HD.out.below hB)
            have HS := Lib.hid (HS.out.below hB)
            have HB := Lib.hid (HB.out.trans (hB.mono HB.out.size))
            clear hB
            clear HS HD
            go_wp2_with fail
            have hA : Below w33.heap.size w33 (w33.alloc (.cells #[.slice a0 a.length c0, .slice a1 b.length c1, .slice a2 c.length c2] 23)) := ((Below.refl _ _).alloc (Nat.le_refl _) _)
            have HVV : Hid (ReadsK encV 1 (w33.alloc (.cells #[.slice a0 a.length c0, .slice a1 b.length c1, .slice a2 c.length c2] 23)) (.slice (some ⟨w33.heap.size, 0, none⟩) 3 3) [(.slice a0 a.length c0, a), (.slice a1 b.length c1, b), (.slice a2 c.length c2, c)]) := lit_v (L := [(.slice a0 a.length c0, a), (.slice a1 b.length c1, b), (.slice a2 c.length c2, c)]) (show (w33.heap.push _)[w33.heap.size]? = _ from by rw [Array.getElem?_push, if_pos rfl]; rfl)
            have HA := Lib.hid (HA.out.below hA)
            have HBB := Lib.hid (HBB.out.below hA)
            have HC := Lib.hid (HC.out.below hA)
            have HB := Lib.hid (HB.out.trans (hA.mono HB.out.size))
            clear hA
            refine (add_any [(.slice a0 a.length c0, a), (.slice a1 b.length c1, b), (.slice a2 c.length c2, c)] _ _ HVV.out (by simp) (by
              intro p hp
              simp only [List.mem_cons, List.not_mem_nil, or_false] at hp
              rcases hp with rfl | rfl | rfl
              · exact ⟨HA.out, Nat.le_trans LA.out (by decide)⟩
              · exact ⟨HBB.out, Nat.le_trans LB.out (by decide)⟩
              · exact ⟨HC.out, Nat.le_trans LC.out (by decide)⟩
              )).mono ?_
            rintro e w34 ⟨vx, rfl, ho, hB⟩
            simp only [List.map_cons, List.map_nil] at ho ⊢
            rw [HX.out] at ho ⊢
            simp only at ho ⊢
            have HXR := Lib.hid (show COwn w34 _ vx _ from ho).reads
            clear ho HVV
            have HA := Lib.hid (HA.out.below hB)
            have HBB := Lib.hid (HBB.out.below hB)
            have HC := Lib.hid (HC.out.below hB)
            have HB := Lib.hid (HB.out.trans (hB.mono HB.out.size))
            clear hB
            go_wp2_with fail
            have hA : Below w34.heap.size w34 (w34.alloc (.cells #[.slice a2 c.length c2, .slice a0 a.length c0, .slice a1 b.length c1] 23)) := ((Below.refl _ _).alloc (Nat.le_refl _) _)
            have HVV : Hid (ReadsK encV 1 (w34.alloc (.cells #[.slice a2 c.length c2, .slice a0 a.length c0, .slice a1 b.length c1] 23)) (.slice (some ⟨w34.heap.size, 0, none⟩) 3 3) [(.slice a2 c.length c2, c), (.slice a0 a.length c0, a), (.slice a1 b.length c1, b)]) := lit_v (L := [(.slice a2 c.length c2, c), (.slice a0 a.length c0, a), (.slice a1 b.length c1, b)]) (show (w34.heap.push _)[w34.heap.size]? = _ from by rw [Array.getElem?_push, if_pos rfl]; rfl)
            have HA := Lib.hid (HA.out.below hA)
            have HBB := Lib.hid (HBB.out.below hA)
            have HC := Lib.hid (HC.out.below hA)
            have HXR := Lib.hid (HXR.out.below hA)
            have HB := Lib.hid (HB.out.trans (hA.mono HB.out.size))
            clear hA
            refine (add_any [(.slice a2 c.length c2, c), (.slice a0 a.length c0, a), (.slice a1 b.length c1, b)] _ _ HVV.out (by simp) (by
              intro p hp
              simp only [List.mem_cons, List.not_mem_nil, or_false] at hp
              rcases hp with rfl | rfl | rfl
              · exact ⟨HC.out, Nat.le_trans LC.out (by decide)⟩
              · exact ⟨HA.out, Nat.le_trans LA.out (by decide)⟩
              · exact ⟨HBB.out, Nat.le_trans LB.out (by decide)⟩
              )).mono ?_
            rintro e w35 ⟨vy, rfl, ho, hB⟩
            simp only [List.map_cons, List.map_nil] at ho ⊢
            rw [HY.out] at ho ⊢
            simp only at ho ⊢
            have HYR := Lib.hid (show COwn w35 _ vy _ from ho).reads
            clear ho HVV
            have HA := Lib.hid (HA.out.below hB)
            have HBB := Lib.hid (HBB.out.below hB)
            have HC := Lib.hid (HC.out.below hB)
            have HXR := Lib.hid (HXR.out.below hB)
            have HB := Lib.hid (HB.out.trans (hB.mono HB.out.size))
            clear hB
            go_wp2_with fail
            refine (rsame_any x x _ _ w35 HXR.out HYR.out (by have := LX.out; omega) (by have := LX.out; omega)).mono ?_
            rintro e w36 ⟨rfl, hB⟩
            rw [decide_eq_true rfl]
            have HA := Lib.hid (HA.out.below hB)
            have HBB := Lib.hid (HBB.out.below hB)
            have HC := Lib.hid (HC.out.below hB)
            have HXR := Lib.hid (HXR.out.below hB)
            have HYR := Lib.hid (HYR.out.below hB)
            have HB := Lib.hid (HB.out.trans (hB.mono HB.out.size))
            clear hB
            clear HYR
            rcases HM.out with ⟨m, hm, hml, hmx⟩ | hm
            ·
              have HM1 := Lib.hid hm
              have LM := Lib.hid hml
              have HM2 := Lib.hid (hmx.trans HX.out)
              clear hm hml hmx HM
              go_wp2_with fail
              have hA : Below w36.heap.size w36 (w36.alloc (.cells #[.slice a0 a.length c0, .slice a1 b.length c1] 23)) := ((Below.refl _ _).alloc (Nat.le_refl _) _)
              have HVV : Hid (ReadsK encV 1 (w36.alloc (.cells #[.slice a0 a.length c0, .slice a1 b.length c1] 23)) (.slice (some ⟨w36.heap.size, 0, none⟩) 2 2) [(.slice a0 a.length c0, a), (.slice a1 b.length c1, b)]) := lit_v (L := [(.slice a0 a.length c0, a), (.slice a1 b.length c1, b)]) (show (w36.heap.push _)[w36.heap.size]? = _ from by rw [Array.getElem?_push, if_pos rfl]; rfl)
              have HA := Lib.hid (HA.out.below hA)
              have HBB := Lib.hid (HBB.out.below hA)
              have HC := Lib.hid (HC.out.below hA)
              have HXR := Lib.hid (HXR.out.below hA)
              have HB := Lib.hid (HB.out.trans (hA.mono HB.out.size))
              clear hA
              refine (add_any [(.slice a0 a.length c0, a), (.slice a1 b.length c1, b)] _ _ HVV.out (by simp) (by
                intro p hp
                simp only [List.mem_cons, List.not_mem_nil, or_false] at hp
                rcases hp with rfl | rfl
                · exact ⟨HA.out, Nat.le_trans LA.out (by decide)⟩
                · exact ⟨HBB.out, Nat.le_trans LB.out (by decide)⟩
                )).mono ?_
              rintro e w37 ⟨vm, rfl, ho, hB⟩
              simp only [List.map_cons, List.map_nil] at ho ⊢
              rw [HM1.out] at ho ⊢
              simp only at ho ⊢
              have HMR := Lib.hid (show COwn w37 _ vm _ from ho).reads
              clear ho HVV
              have HA := Lib.hid (HA.out.below hB)
              have HBB := Lib.hid (HBB.out.below hB)
              have HC := Lib.hid (HC.out.below hB)
              have HXR := Lib.hid (HXR.out.below hB)
              have HB := Lib.hid (HB.out.trans (hB.mono HB.out.size))
              clear hB
              obtain ⟨am, cm, rfl⟩ := HMR.out.slice
              go_wp2_with fail
              have hA : Below w37.heap.size w37 (w37.alloc (.cells #[.slice am m.length cm, .slice a2 c.length c2] 23)) := ((Below.refl _ _).alloc (Nat.le_refl _) _)
              have HVV : Hid (ReadsK encV 1 (w37.alloc (.cells #[.slice am m.length cm, .slice a2 c.length c2] 23)) (.slice (some ⟨w37.heap.size, 0, none⟩) 2 2) [(.slice am m.length cm, m), (.slice a2 c.length c2, c)]) := lit_v (L := [(.slice am m.length cm, m), (.slice a2 c.length c2, c)]) (show (w37.heap.push _)[w37.heap.size]? = _ from by rw [Array.getElem?_push, if_pos rfl]; rfl)
              have HA := Lib.hid (HA.out.below hA)
              have HBB := Lib.hid (HBB.out.below hA)
              have HC := Lib.hid (HC.out.below hA)
              have HXR := Lib.hid (HXR.out.below hA)
              have HMR := Lib.hid (HMR.out.below hA)
              have HB := Lib.hid (HB.out.trans (hA.mono HB.out.size))
              clear hA
              refine (add_any [(.slice am m.length cm, m), (.slice a2 c.length c2, c)] _ _ HVV.out (by simp) (by
                intro p hp
                simp only [List.mem_cons, List.not_mem_nil, or_false] at hp
                rcases hp with rfl | rfl
                · exact ⟨HMR.out, Nat.le_trans LM.out (by decide)⟩
                · exact ⟨HC.out, Nat.le_trans LC.out (by decide)⟩
                )).mono ?_
              rintro e w38 ⟨vz, rfl, ho, hB⟩
              simp only [List.map_cons, List.map_nil] at ho ⊢
              rw [HM2.out] at ho ⊢
              simp only at ho ⊢
              have HZR := Lib.hid (show COwn w38 _ vz _ from ho).reads
              clear ho HVV
              have HA := Lib.hid (HA.out.below hB)
              have HBB := Lib.hid (HBB.out.below hB)
              have HC := Lib.hid (HC.out.below hB)
              have HXR := Lib.hid (HXR.out.below hB)
              have HMR := Lib.hid (HMR.out.below hB)
              have HB := Lib.hid (HB.out.trans (hB.mono HB.out.size))
              clear hB
              go_wp2_with fail
              refine (rsame_any x x _ _ w38 HZR.out HXR.out (by have := LX.out; omega) (by have := LX.out; omega)).mono ?_
              rintro e w39 ⟨rfl, hB⟩
              rw [decide_eq_true rfl]
              have HA := Lib.hid (HA.out.below hB)
              have HBB := Lib.hid (HBB.out.below hB)
              have HC := Lib.hid (HC.out.below hB)
              have HXR := Lib.hid (HXR.out.below hB)
              have HMR := Lib.hid (HMR.out.below hB)
              have HZR := Lib.hid (HZR.out.below hB)
              have HB := Lib.hid (HB.out.trans (hB.mono HB.out.size))
              clear hB
              go_wp2_with fail
              refine (alive_any w39).mono ?_
              rintro e w40 ⟨rfl, hB⟩
              have HB := Lib.hid (HB.out.trans (hB.mono HB.out.size))
              clear hB
              go_wp2_with fail
              go_ret
              exact ⟨rfl, HB.out⟩
            ·
              have HM1 := Lib.hid hm
              clear hm HM
              go_wp2_with fail
              have hA : Below w36.heap.size w36 (w36.alloc (.cells #[.slice a0 a.length c0, .slice a1 b.length c1] 23)) := ((Below.refl _ _).alloc (Nat.le_refl _) _)
              have HVV : Hid (ReadsK encV 1 (w36.alloc (.cells #[.slice a0 a.length c0, .slice a1 b.length c1] 23)) (.slice (some ⟨w36.heap.size, 0, none⟩) 2 2) [(.slice a0 a.length c0, a), (.slice a1 b.length c1, b)]) := lit_v (L := [(.slice a0 a.length c0, a), (.slice a1 b.length c1, b)]) (show (w36.heap.push _)[w36.heap.size]? = _ from by rw [Array.getElem?_push, if_pos rfl]; rfl)
              have HA := Lib.hid (HA.out.below hA)
              have HBB := Lib.hid (HBB.out.below hA)
              have HC := Lib.hid (HC.out.below hA)
              have HXR := Lib.hid (HXR.out.below hA)
              have HB := Lib.hid (HB.out.trans (hA.mono HB.out.size))
              clear hA
              refine (add_any [(.slice a0 a.length c0, a), (.slice a1 b.length c1, b)] _ _ HVV.out (by simp) (by
                intro p hp
                simp only [List.mem_cons, List.not_mem_nil, or_false] at hp
                rcases hp with rfl | rfl
                · exact ⟨HA.out, Nat.le_trans LA.out (by decide)⟩
                · exact ⟨HBB.out, Nat.le_trans LB.out (by decide)⟩
                )).mono ?_
              rintro e w41 ⟨vm, rfl, ho, hB⟩
              simp only [List.map_cons, List.map_nil] at ho ⊢
              rw [HM1.out] at ho ⊢
              simp only at ho ⊢
              clear ho HVV
              have HA := Lib.hid (HA.out.below hB)
              have HBB := Lib.hid (HBB.out.below hB)
              have HC := Lib.hid (HC.out.below hB)
              have HXR := Lib.hid (HXR.out.below hB)
              have HB := Lib.hid (HB.out.trans (hB.mono HB.out.size))
              clear hB
              go_wp2_with fail
              refine (alive_any w41).mono ?_
              rintro e w42 ⟨rfl, hB⟩
              have HB := Lib.hid (HB.out.trans (hB.mono HB.out.size))
              clear hB
              go_wp2_with fail
              go_ret
              exact ⟨rfl, HB.out⟩
          ·
            have HAB := Lib.hid h
            have HBA := Lib.hid h'
            have HQ := Lib.hid (subA_lt Ma.out Mb.out (by omega))
            clear h h'
            go_wp2_with fail
            refine (sub_any a b _ _ w1 HA.out HBB.out (by have := LA.out; omega) (by have := LB.out; omega)).mono ?_
            rintro e w43 ⟨vd, rfl, ho, hB⟩
            rw [HQ.out] at ho ⊢
            simp only at ho ⊢
            clear ho
            have HA := Lib.hid (HA.out.below hB)
            have HBB := Lib.hid (HBB.out.below hB)
            have HC := Lib.hid (HC.out.below hB)
            have HB := Lib.hid (HB.out.trans (hB.mono HB.out.size))
            clear hB
            go_wp2_with fail
            refine (ccompare_any a b _ _ w43 HA.out HBB.out (by have := LA.out; omega) (by have := LB.out; omega)).mono ?_
            rintro e w44 ⟨rfl, hB⟩
            rw [HAB.out]
            have HA := Lib.hid (HA.out.below hB)
            have HBB := Lib.hid (HBB.out.below hB)
            have HC := Lib.hid (HC.out.below hB)
            have HB := Lib.hid (HB.out.trans (hB.mono HB.out.size))
            clear hB
            go_wp2_with fail
            refine (ccompare_any a b _ _ w44 HA.out HBB.out (by have := LA.out; omega) (by have := LB.out; omega)).mono ?_
            rintro e w45 ⟨rfl, hB⟩
            rw [HAB.out]
            have HA := Lib.hid (HA.out.below hB)
            have HBB := Lib.hid (HBB.out.below hB)
            have HC := Lib.hid (HC.out.below hB)
            have HB := Lib.hid (HB.out.trans (hB.mono HB.out.size))
            clear hB
            go_wp2_with fail
            refine (ccompare_any b a _ _ w45 HBB.out HA.out (by have := LB.out; omega) (by have := LA.out; omega)).mono ?_
            rintro e w46 ⟨rfl, hB⟩
            rw [HBA.out]
            have HA := Lib.hid (HA.out.below hB)
            have HBB := Lib.hid (HBB.out.below hB)
            have HC := Lib.hid (HC.out.below hB)
            have HB := Lib.hid (HB.out.trans (hB.mono HB.out.size))
            clear hB
            go_wp2_with fail
            have hA : Below w46.heap.size w46 (w46.alloc (.cells #[.slice a0 a.length c0, .slice a1 b.length c1, .slice a2 c.length c2] 23)) := ((Below.refl _ _).alloc (Nat.le_refl _) _)
            have HVV : Hid (ReadsK encV 1 (w46.alloc (.cells #[.slice a0 a.length c0, .slice a1 b.length c1, .slice a2 c.length c2] 23)) (.slice (some ⟨w46.heap.size, 0, none⟩) 3 3) [(.slice a0 a.length c0, a), (.slice a1 b.length c1, b), (.slice a2 c.length c2, c)]) := lit_v (L := [(.slice a0 a.length c0, a), (.slice a1 b.length c1, b), (.slice a2 c.length c2, c)]) (show (w46.heap.push _)[w46.heap.size]? = _ from by rw [Array.getElem?_push, if_pos rfl]; rfl)
            have HA := Lib.hid (HA.out.below hA)
            have HBB := Lib.hid (HBB.out.below hA)
            have HC := Lib.hid (HC.out.below hA)
            have HB := Lib.hid (HB.out.trans (hA.mono HB.out.size))
            clear hA
            refine (add_any [(.slice a0 a.length c0, a), (.slice a1 b.length c1, b), (.slice a2 c.length c2, c)] _ _ HVV.out (by simp) (by
              intro p hp
              simp only [List.mem_cons, List.not_mem_nil, or_false] at hp
              rcases hp with rfl | rfl | rfl
              · exact ⟨HA.out, Nat.le_trans LA.out (by decide)⟩
              · exact ⟨HBB.out, Nat.le_trans LB.out (by decide)⟩
              · exact ⟨HC.out, Nat.le_trans LC.out (by decide)⟩
              )).mono ?_
            rintro e w47 ⟨vx, rfl, ho, hB⟩
            simp only [List.map_cons, List.map_nil] at ho ⊢
            rw [HX.out] at ho ⊢
            simp only at ho ⊢
            have HXR := Lib.hid (show COwn w47 _ vx _ from ho).reads
            clear ho HVV
            have HA := Lib.hid (HA.out.below hB)
            have HBB := Lib.hid (HBB.out.below hB)
            have HC := Lib.hid (HC.out.below hB)
            have HB := Lib.hid (HB.out.trans (hB.mono HB.out.size))
            clear hB
            go_wp2_with fail
            have hA : Below w47.heap.size w47 (w47.alloc (.cells #[.slice a2 c.length c2, .slice a0 a.length c0, .slice a1 b.length c1] 23)) := ((Below.refl _ _).alloc (Nat.le_refl _) _)
            have HVV : Hid (ReadsK encV 1 (w47.alloc (.cells #[.slice a2 c.length c2, .slice a0 a.length c0, .slice a1 b.length c1] 23)) (.slice (some ⟨w47.heap.size, 0, none⟩) 3 3) [(.slice a2 c.length c2, c), (.slice a0 a.length c0, a), (.slice a1 b.length c1, b)]) := lit_v (L := [(.slice a2 c.length c2, c), (.slice a0 a.length c0, a), (.slice a1 b.length c1, b)]) (show (w47.heap.push _)[w47.heap.size]? = _ from by rw [Array.getElem?_push, if_pos rfl]; rfl)
            have HA := Lib.hid (HA.out.below hA)
            have HBB := Lib.hid (HBB.out.below hA)
            have HC := Lib.hid (HC.out.below hA)
            have HXR := Lib.hid (HXR.out.below hA)
            have HB := Lib.hid (HB.out.trans (hA.mono HB.out.size))
            clear hA
            refine (add_any [(.slice a2 c.length c2, c), (.slice a0 a.length c0, a), (.slice a1 b.length c1, b)] _ _ HVV.out (by simp) (by
              intro p hp
              simp only [List.mem_cons, List.not_mem_nil, or_false] at hp
              rcases hp with rfl | rfl | rfl
              · exact ⟨HC.out, Nat.le_trans LC.out (by decide)⟩
              · exact ⟨HA.out, Nat.le_trans LA.out (by decide)⟩
              · exact ⟨HBB.out, Nat.le_trans LB.out (by decide)⟩
              )).mono ?_
            rintro e w48 ⟨vy, rfl, ho, hB⟩
            simp only [List.map_cons, List.map_nil] at ho ⊢
            rw [HY.out] at ho ⊢
            simp only at ho ⊢
            have HYR := Lib.hid (show COwn w48 _ vy _ from ho).reads
            clear ho HVV
            have HA := Lib.hid (HA.out.below hB)
            have HBB := Lib.hid (HBB.out.below hB)
            have HC := Lib.hid (HC.out.below hB)
            have HXR := Lib.hid (HXR.out.below hB)
            have HB := Lib.hid (HB.out.trans (hB.mono HB.out.size))
            clear hB
            go_wp2_with fail
            refine (rsame_any x x _ _ w48 HXR.out HYR.out (by have := LX.out; omega) (by have := LX.out; omega)).mono ?_
            rintro e w49 ⟨rfl, hB⟩
            rw [decide_eq_true rfl]
            have HA := Lib.hid (HA.out.below hB)
            have HBB := Lib.hid (HBB.out.below hB)
            have HC := Lib.hid (HC.out.below hB)
            have HXR := Lib.hid (HXR.out.below hB)
            have HYR := Lib.hid (HYR.out.below hB)
            have HB := Lib.hid (HB.out.trans (hB.mono HB.out.size))
            clear hB
            clear HYR
            rcases HM.out with ⟨m, hm, hml, hmx⟩ | hm
            ·
              have HM1 := Lib.hid hm
              have LM := Lib.hid hml
              have HM2 := Lib.hid (hmx.trans HX.out)
              clear hm hml hmx HM
              go_wp2_with fail
              have hA : Below w49.heap.size w49 (w49.alloc (.cells #[.slice a0 a.length c0, .slice a1 b.length c1] 23)) := ((Below.refl _ _).alloc (Nat.le_refl _) _)
              have HVV : Hid (ReadsK encV 1 (w49.alloc (.cells #[.slice a0 a.length c0, .slice a1 b.length c1] 23)) (.slice (some ⟨w49.heap.size, 0, none⟩) 2 2) [(.slice a0 a.length c0, a), (.slice a1 b.length c1, b)]) := lit_v (L := [(.slice a0 a.length c0, a), (.slice a1 b.length c1, b)]) (show (w49.heap.push _)[w49.heap.size]? = _ from by rw [Array.getElem?_push, if_pos rfl]; rfl)
              have HA := Lib.hid (HA.out.below hA)
              have HBB := Lib.hid (HBB.out.below hA)
              have HC := Lib.hid (HC.out.below hA)
              have HXR := Lib.hid (HXR.out.below hA)
              have HB := Lib.hid (HB.out.trans (hA.mono HB.out.size))
              clear hA
              refine (add_any [(.slice a0 a.length c0, a), (.slice a1 b.length c1, b)] _ _ HVV.out (by simp) (by
                intro p hp
                simp only [List.mem_cons, List.not_mem_nil, or_false] at hp
                rcases hp with rfl | rfl
                · exact ⟨HA.out, Nat.le_trans LA.out (by decide)⟩
                · exact ⟨HBB.out, Nat.le_trans LB.out (by decide)⟩
                )).mono ?_
              rintro e w50 ⟨vm, rfl, ho, hB⟩
              simp only [List.map_cons, List.map_nil] at ho ⊢
              rw [HM1.out] at ho ⊢
              simp only at ho ⊢
              have HMR := Lib.hid (show COwn w50 _ vm _ from ho).reads
              clear ho HVV
              have HA := Lib.hid (HA.out.below hB)
              have HBB := Lib.hid (HBB.out.below hB)
              have HC := Lib.hid (HC.out.below hB)
              have HXR := Lib.hid (HXR.out.below hB)
              have HB := Lib.hid (HB.out.trans (hB.mono HB.out.size))
              clear hB
              obtain ⟨am, cm, rfl⟩ := HMR.out.slice
              go_wp2_with fail
              have hA : Below w50.heap.size w50 (w50.alloc (.cells #[.slice am m.length cm, .slice a2 c.length c2] 23)) := ((Below.refl _ _).alloc (Nat.le_refl _) _)
              have HVV : Hid (ReadsK encV 1 (w50.alloc (.cells #[.slice am m.length cm, .slice a2 c.length c2] 23)) (.slice (some ⟨w50.heap.size, 0, none⟩) 2 2) [(.slice am m.length cm, m), (.slice a2 c.length c2, c)]) := lit_v (L := [(.slice am m.length cm, m), (.slice a2 c.length c2, c)]) (show (w50.heap.push _)[w50.heap.size]? = _ from by rw [Array.getElem?_push, if_pos rfl]; rfl)
              have HA := Lib.hid (HA.out.below hA)
              have HBB := Lib.hid (HBB.out.below hA)
              have HC := Lib.hid (HC.out.below hA)
              have HXR := Lib.hid (HXR.out.below hA)
              have HMR := Lib.hid (HMR.out.below hA)
              have HB := Lib.hid (HB.out.trans (hA.mono HB.out.size))
              clear hA
              refine (add_any [(.slice am m.length cm, m), (.slice a2 c.length c2, c)] _ _ HVV.out (by simp) (by
                intro p hp
                simp only [List.mem_cons, List.not_mem_nil, or_false] at hp
                rcases hp with rfl | rfl
                · exact ⟨HMR.out, Nat.le_trans LM.out (by decide)⟩
                · exact ⟨HC.out, Nat.le_trans LC.out (by decide)⟩
                )).mono ?_
              rintro e w51 ⟨vz, rfl, ho, hB⟩
              simp only [List.map_cons, List.map_nil] at ho ⊢
              rw [HM2.out] at ho ⊢
              simp only at ho ⊢
              have HZR := Lib.hid (show COwn w51 _ vz _ from ho).reads
              clear ho HVV
              have HA := Lib.hid (HA.out.below hB)
              have HBB := Lib.hid (HBB.out.below hB)
              have HC := Lib.hid (HC.out.below hB)
              have HXR := Lib.hid (HXR.out.below hB)
              have HMR := Lib.hid (HMR.out.below hB)
              have HB := Lib.hid (HB.out.trans (hB.mono HB.out.size))
              clear hB
              go_wp2_with fail
              refine (rsame_any x x _ _ w51 HZR.out HXR.out (by have := LX.out; omega) (by have := LX.out; omega)).mono ?_
              rintro e w52 ⟨rfl, hB⟩
              rw [decide_eq_true rfl]
              have HA := Lib.hid (HA.out.below hB)
              have HBB := Lib.hid (HBB.out.below hB)
              have HC := Lib.hid (HC.out.below hB)
              have HXR := Lib.hid (HXR.out.below hB)
              have HMR := Lib.hid (HMR.out.below hB)
              have HZR := Lib.hid (HZR.out.below hB)
              have HB := Lib.hid (HB.out.trans (hB.mono HB.out.size))
              clear hB
              go_wp2_with fail
              refine (alive_any w52).mono ?_
              rintro e w53 ⟨rfl, hB⟩
              have HB := Lib.hid (HB.out.trans (hB.mono HB.out.size))
              clear hB
              go_wp2_with fail
              go_ret
              exact ⟨rfl, HB.out⟩
            ·
              have HM1 := Lib.hid hm
              clear hm HM
              go_wp2_with fail
              have hA : Below w49.heap.size w49 (w49.alloc (.cells #[.slice a0 a.length c0, .slice a1 b.length c1] 23)) := ((Below.refl _ _).alloc (Nat.le_refl _) _)
              have HVV : Hid (ReadsK encV 1 (w49.alloc (.cells #[.slice a0 a.length c0, .slice a1 b.length c1] 23)) (.slice (some ⟨w49.heap.size, 0, none⟩) 2 2) [(.slice a0 a.length c0, a), (.slice a1 b.length c1, b)]) := lit_v (L := [(.slice a0 a.length c0, a), (.slice a1 b.length c1, b)]) (show (w49.heap.push _)[w49.heap.size]? = _ from by rw [Array.getElem?_push, if_pos rfl]; rfl)
              have HA := Lib.hid (HA.out.below hA)
              have HBB := Lib.hid (HBB.out.below hA)
              have HC := Lib.hid (HC.out.below hA)
              have HXR := Lib.hid (HXR.out.below hA)
              have HB := Lib.hid (HB.out.trans (hA.mono HB.out.size))
              clear hA
              refine (add_any [(.slice a0 a.length c0, a), (.slice a1 b.length c1, b)] _ _ HVV.out (by simp) (by
                intro p hp
                simp only [List.mem_cons, List.not_mem_nil, or_false] at hp
                rcases hp with rfl | rfl
                · exact ⟨HA.out, Nat.le_trans LA.out (by decide)⟩
                · exact ⟨HBB.out, Nat.le_trans LB.out (by decide)⟩
                )).mono ?_
              rintro e w54 ⟨vm, rfl, ho, hB⟩
              simp only [List.map_cons, List.map_nil] at ho ⊢
              rw [HM1.out] at ho ⊢
              simp only at ho ⊢
              clear ho HVV
              have HA := Lib.hid (HA.out.below hB)
              have HBB := Lib.hid (HBB.out.below hB)
              have HC := Lib.hid (HC.out.below hB)
              have HXR := Lib.hid (HXR.out.below hB)
              have HB := Lib.hid (HB.out.trans (hB.mono HB.out.size))
              clear hB
              go_wp2_with fail
              refine (alive_any w54).mono ?_
              rintro e w55 ⟨rfl, hB⟩
              have HB := Lib.hid (HB.out.trans (hB.mono HB.out.size))
              clear hB
              go_wp2_with fail
              go_ret
              exact ⟨rfl, HB.out⟩
end Go.Proofs.Ytgjmnmcbinekdaa
