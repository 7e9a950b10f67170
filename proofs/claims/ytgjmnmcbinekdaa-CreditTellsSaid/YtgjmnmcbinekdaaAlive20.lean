/- alive: some answers that are fixed. -/
import Derived.Test.YtgjmnmcbinekdaaByt10
import Derived.Test.YtgjmnmcbinekdaaLong20
namespace Go.Proofs.Ytgjmnmcbinekdaa
open Go.RowKit Go.Lib

theorem lit_at {l : List Int} {w : World} {b c : Nat} (hb : w.heap[b]? = some (.cells (l.map (Value.int .i64)).toArray 3 (0, 0))) : ReadsK encC 1 w (.slice (some ⟨b, 0, none⟩) l.length c) l := by
  refine .inr ⟨b, 0, c, rfl, (Array.getElem?_eq_some_iff.1 hb).1, ?_⟩
  intro i hi t u hu
  match t with
  | 0 =>
    simp [encC] at hu
    subst hu
    simp [World.cell?, hb, hi]
  | t + 1 => simp [encC] at hu
theorem lit_v {L : List (Value × List Int)} {w : World} {b c : Nat} (hb : w.heap[b]? = some (.cells (L.map (·.1)).toArray 23 (0, 0))) : ReadsK encV 1 w (.slice (some ⟨b, 0, none⟩) L.length c) L := by
  refine .inr ⟨b, 0, c, rfl, (Array.getElem?_eq_some_iff.1 hb).1, ?_⟩
  intro i hi t u hu
  match t with
  | 0 =>
    simp [encV] at hu
    subst hu
    simp [World.cell?, hb, hi]
  | t + 1 => simp [encV] at hu
theorem half_ok {l k g : List Int} {w w' : World} {e : Ending} (h : HalfR l w e w') (h1 : mayC l = true) (h2 : l ≠ []) (h3 : ¬ 4096 < l.getD (l.length - 1) 0 + 1) (h4 : l.take (l.length - 1) ++ [l.getD (l.length - 1) 0 + 1] = k) (h5 : [l.getD (l.length - 1) 0 + 1] = g) :
    ∃ v u, e = .returned (.tuple #[v, u, .int .i64 0]) ∧ COwn w' w.heap.size v k ∧ COwn w' w.heap.size u g ∧ Below w.heap.size w w' := by
  rcases h with ⟨c, _, _, h, _⟩ | ⟨_, _, _, v, u, he, hv, hu, _, hB⟩
  · exact absurd (h h1 h2) h3
  · rw [h4] at hv
    rw [h5] at hu
    subst h5
    exact ⟨v, u, he, hv, hu, hB⟩
theorem own_cap {w : World} {B : Nat} {v : Value} {l : List Int} (h : COwn w B v l) : ∀ a n c, v = .slice a n c → n ≤ c := by
  intro a n c hv
  rcases h.2 with ⟨h2, h0⟩ | ⟨g, cap, cur, h2, _, _, hn, _⟩
  · rw [h2] at hv; injection hv with _ h3 h4; omega
  · rw [h2] at hv; injection hv with _ h3 h4; omega
theorem add1 : addL [[1], [2], [2]] = (0, [0]) := by decide +kernel
theorem add2 : addL [[0], [1]] = (9, []) := by decide +kernel
theorem sub1 : subA [0] [3] = (0, [1, 2, 3]) := by decide +kernel
theorem cmp1 : cmpC [0] [1, 2, 3] = 1 := by decide +kernel
theorem enc1 : encA [1, 2, 3] = ([3, 1, 2, 3], 0) := by
  have h : mayC [1, 2, 3] = true := by decide +kernel
  unfold encA encB allB natC
  rw [if_pos h]
  simp [uBytes_small]
theorem dec1 : decA [3, 1, 2, 3] = ([1, 2, 3], 0) := by decide +kernel
set_option maxHeartbeats 6400000 in
set_option maxRecDepth 100000 in
theorem alive_any (w : World) :
    Calls Try.prog 8 #[] w fun e w' => e = .returned (.bool true) ∧ Below w.heap.size w w' := by
  have HB := Lib.hid (Below.refl w.heap.size w)
  go_enter Try.func8, Try.ntmps8
  go_wp2_with fail
  refine (one_any w).mono ?_
  rintro e w1 ⟨b1, c1, rfl, ho, hB⟩
  have H1 := Lib.hid (show ReadsK encC 1 w1 _ [0] from (show COwn w1 w.heap.size _ [0] from ho).reads)
  have hcp := own_cap (show COwn w1 w.heap.size _ [0] from ho)
  have HCP := Lib.hid hcp
  clear ho hcp
  have HB := Lib.hid (HB.out.trans (hB.mono HB.out.size))
  clear hB
  go_wp2_with fail
  refine (half_any [0] _ w1 H1.out HCP.out (by decide)).mono ?_
  intro e w2 h2
  clear HCP
  obtain ⟨vHK, vHG, rfl, hv1, hv2, hB⟩ := half_ok (k := [1]) (g := [1]) h2 (by decide +kernel) (by decide) (by decide) (by decide) (by decide)
  have HK := Lib.hid hv1.reads
  have HG := Lib.hid hv2.reads
  clear h2 hv1 hv2
  clear H1
  have HB := Lib.hid (HB.out.trans (hB.mono HB.out.size))
  clear hB
  go_wp2_with fail
  have hA : Below w2.heap.size w2 ((((w2.alloc (.cells #[.int .i64 1] 3)).alloc (.cells #[.int .i64 2] 3)).alloc (.cells #[.int .i64 2] 3)).alloc (.cells #[.slice (some ⟨w2.heap.size, 0, none⟩) 1 1, .slice (some ⟨w2.heap.size + 1, 0, none⟩) 1 1, .slice (some ⟨w2.heap.size + 1 + 1, 0, none⟩) 1 1] 23)) := (((((Below.refl _ _).alloc (Nat.le_refl _) _).alloc (by simp; try omega) _).alloc (by simp; try omega) _).alloc (by simp; try omega) _)
  have HL1 : Hid (ReadsK encC 1 ((((w2.alloc (.cells #[.int .i64 1] 3)).alloc (.cells #[.int .i64 2] 3)).alloc (.cells #[.int .i64 2] 3)).alloc (.cells #[.slice (some ⟨w2.heap.size, 0, none⟩) 1 1, .slice (some ⟨w2.heap.size + 1, 0, none⟩) 1 1, .slice (some ⟨w2.heap.size + 1 + 1, 0, none⟩) 1 1] 23)) (.slice (some ⟨w2.heap.size, 0, none⟩) 1 1) [1]) := lit_at (l := [1]) (show ((((w2.heap.push _).push _).push _).push _)[w2.heap.size]? = _ from by rw [Array.getElem?_push, if_neg (by simp only [Array.size_push]; omega), Array.getElem?_push, if_neg (by simp only [Array.size_push]; omega), Array.getElem?_push, if_neg (by simp only [Array.size_push]; omega), Array.getElem?_push, if_pos rfl]; rfl)
  have HL2 : Hid (ReadsK encC 1 ((((w2.alloc (.cells #[.int .i64 1] 3)).alloc (.cells #[.int .i64 2] 3)).alloc (.cells #[.int .i64 2] 3)).alloc (.cells #[.slice (some ⟨w2.heap.size, 0, none⟩) 1 1, .slice (some ⟨w2.heap.size + 1, 0, none⟩) 1 1, .slice (some ⟨w2.heap.size + 1 + 1, 0, none⟩) 1 1] 23)) (.slice (some ⟨w2.heap.size + 1, 0, none⟩) 1 1) [2]) := lit_at (l := [2]) (show ((((w2.heap.push _).push _).push _).push _)[w2.heap.size + 1]? = _ from by rw [Array.getElem?_push, if_neg (by simp only [Array.size_push]; omega), Array.getElem?_push, if_neg (by simp only [Array.size_push]; omega), Array.getElem?_push, if_pos (by simp only [Array.size_push])]; rfl)
  have HL3 : Hid (ReadsK encC 1 ((((w2.alloc (.cells #[.int .i64 1] 3)).alloc (.cells #[.int .i64 2] 3)).alloc (.cells #[.int .i64 2] 3)).alloc (.cells #[.slice (some ⟨w2.heap.size, 0, none⟩) 1 1, .slice (some ⟨w2.heap.size + 1, 0, none⟩) 1 1, .slice (some ⟨w2.heap.size + 1 + 1, 0, none⟩) 1 1] 23)) (.slice (some ⟨w2.heap.size + 2, 0, none⟩) 1 1) [2]) := lit_at (l := [2]) (show ((((w2.heap.push _).push _).push _).push _)[w2.heap.size + 2]? = _ from by rw [Array.getElem?_push, if_neg (by simp only [Array.size_push]; omega), Array.getElem?_push, if_pos (by simp only [Array.size_push])]; rfl)
  have HVV : Hid (ReadsK encV 1 ((((w2.alloc (.cells #[.int .i64 1] 3)).alloc (.cells #[.int .i64 2] 3)).alloc (.cells #[.int .i64 2] 3)).alloc (.cells #[.slice (some ⟨w2.heap.size, 0, none⟩) 1 1, .slice (some ⟨w2.heap.size + 1, 0, none⟩) 1 1, .slice (some ⟨w2.heap.size + 1 + 1, 0, none⟩) 1 1] 23)) (.slice (some ⟨w2.heap.size + 1 + 1 + 1, 0, none⟩) 3 3) [(.slice (some ⟨w2.heap.size, 0, none⟩) 1 1, [1]), (.slice (some ⟨w2.heap.size + 1, 0, none⟩) 1 1, [2]), (.slice (some ⟨w2.heap.size + 1 + 1, 0, none⟩) 1 1, [2])]) := lit_v (L := [(.slice (some ⟨w2.heap.size, 0, none⟩) 1 1, [1]), (.slice (some ⟨w2.heap.size + 1, 0, none⟩) 1 1, [2]), (.slice (some ⟨w2.heap.size + 1 + 1, 0, none⟩) 1 1, [2])]) (show ((((w2.heap.push _).push _).push _).push _)[w2.heap.size + 1 + 1 + 1]? = _ from by rw [Array.getElem?_push, if_pos (by simp only [Array.size_push])]; rfl)
  have HK := Lib.hid (HK.out.below hA)
  have HG := Lib.hid (HG.out.below hA)
  have HB := Lib.hid (HB.out.trans (hA.mono HB.out.size))
  clear hA
  refine (add_any [(.slice (some ⟨w2.heap.size, 0, none⟩) 1 1, [1]), (.slice (some ⟨w2.heap.size + 1, 0, none⟩) 1 1, [2]), (.slice (some ⟨w2.heap.size + 1 + 1, 0, none⟩) 1 1, [2])] _ _ HVV.out (by simp) (by
    intro p hp
    simp only [List.mem_cons, List.not_mem_nil, or_false] at hp
    rcases hp with rfl | rfl | rfl
    · exact ⟨HL1.out, by simp⟩
    · exact ⟨HL2.out, by simp⟩
    · exact ⟨HL3.out, by simp⟩
    )).mono ?_
  rintro e w3 ⟨vHA, rfl, ho, hB⟩
  simp only [List.map_cons, List.map_nil] at ho ⊢
  rw [add1] at ho ⊢
  simp only at ho ⊢
  have HA := Lib.hid (show COwn w3 _ vHA _ from ho).reads
  clear ho HVV
  clear HL1 HL2 HL3
  have HK := Lib.hid (HK.out.below hB)
  have HG := Lib.hid (HG.out.below hB)
  have HB := Lib.hid (HB.out.trans (hB.mono HB.out.size))
  clear hB
  go_wp2_with fail
  refine (one_any w3).mono ?_
  rintro e w4 ⟨b4, c4, rfl, ho, hB⟩
  have H1 := Lib.hid (show ReadsK encC 1 w4 _ [0] from (show COwn w4 w3.heap.size _ [0] from ho).reads)
  have hcp := own_cap (show COwn w4 w3.heap.size _ [0] from ho)
  have HCP := Lib.hid hcp
  clear ho hcp
  have HK := Lib.hid (HK.out.below hB)
  have HG := Lib.hid (HG.out.below hB)
  have HA := Lib.hid (HA.out.below hB)
  have HB := Lib.hid (HB.out.trans (hB.mono HB.out.size))
  clear hB
  clear HCP
  go_wp2_with fail
  have hA : Below w4.heap.size w4 ((w4.alloc (.cells #[.int .i64 1] 3)).alloc (.cells #[.slice (some ⟨b4, 0, none⟩) 1 c4, .slice (some ⟨w4.heap.size, 0, none⟩) 1 1] 23)) := (((Below.refl _ _).alloc (Nat.le_refl _) _).alloc (by simp; try omega) _)
  have HL1 : Hid (ReadsK encC 1 ((w4.alloc (.cells #[.int .i64 1] 3)).alloc (.cells #[.slice (some ⟨b4, 0, none⟩) 1 c4, .slice (some ⟨w4.heap.size, 0, none⟩) 1 1] 23)) (.slice (some ⟨w4.heap.size, 0, none⟩) 1 1) [1]) := lit_at (l := [1]) (show ((w4.heap.push _).push _)[w4.heap.size]? = _ from by rw [Array.getElem?_push, if_neg (by simp only [Array.size_push]; omega), Array.getElem?_push, if_pos rfl]; rfl)
  have HVV : Hid (ReadsK encV 1 ((w4.alloc (.cells #[.int .i64 1] 3)).alloc (.cells #[.slice (some ⟨b4, 0, none⟩) 1 c4, .slice (some ⟨w4.heap.size, 0, none⟩) 1 1] 23)) (.slice (some ⟨w4.heap.size + 1, 0, none⟩) 2 2) [(.slice (some ⟨b4, 0, none⟩) 1 c4, [0]), (.slice (some ⟨w4.heap.size, 0, none⟩) 1 1, [1])]) := lit_v (L := [(.slice (some ⟨b4, 0, none⟩) 1 c4, [0]), (.slice (some ⟨w4.heap.size, 0, none⟩) 1 1, [1])]) (show ((w4.heap.push _).push _)[w4.heap.size + 1]? = _ from by rw [Array.getElem?_push, if_pos (by simp only [Array.size_push])]; rfl)
  have HK := Lib.hid (HK.out.below hA)
  have HG := Lib.hid (HG.out.below hA)
  have HA := Lib.hid (HA.out.below hA)
  have H1 := Lib.hid (H1.out.below hA)
  have HB := Lib.hid (HB.out.trans (hA.mono HB.out.size))
  clear hA
  refine (add_any [(.slice (some ⟨b4, 0, none⟩) 1 c4, [0]), (.slice (some ⟨w4.heap.size, 0, none⟩) 1 1, [1])] _ _ HVV.out (by simp) (by
    intro p hp
    simp only [List.mem_cons, List.not_mem_nil, or_false] at hp
    rcases hp with rfl | rfl
    · exact ⟨H1.out, by simp⟩
    · exact ⟨HL1.out, by simp⟩
    )).mono ?_
  rintro e w5 ⟨vHX9, rfl, ho, hB⟩
  simp only [List.map_cons, List.map_nil] at ho ⊢
  rw [add2] at ho ⊢
  simp only at ho ⊢
  have HX9 := Lib.hid (show COwn w5 _ vHX9 _ from ho).reads
  clear ho HVV
  clear HL1 HX9 H1
  have HK := Lib.hid (HK.out.below hB)
  have HG := Lib.hid (HG.out.below hB)
  have HA := Lib.hid (HA.out.below hB)
  have HB := Lib.hid (HB.out.trans (hB.mono HB.out.size))
  clear hB
  go_wp2_with fail
  refine (one_any w5).mono ?_
  rintro e w6 ⟨b6, c6, rfl, ho, hB⟩
  have H1 := Lib.hid (show ReadsK encC 1 w6 _ [0] from (show COwn w6 w5.heap.size _ [0] from ho).reads)
  have hcp := own_cap (show COwn w6 w5.heap.size _ [0] from ho)
  have HCP := Lib.hid hcp
  clear ho hcp
  have HK := Lib.hid (HK.out.below hB)
  have HG := Lib.hid (HG.out.below hB)
  have HA := Lib.hid (HA.out.below hB)
  have HB := Lib.hid (HB.out.trans (hB.mono HB.out.size))
  clear hB
  clear HCP
  go_wp2_with fail
  have hA : Below w6.heap.size w6 (w6.alloc (.cells #[.int .i64 3] 3)) := ((Below.refl _ _).alloc (Nat.le_refl _) _)
  have HL1 : Hid (ReadsK encC 1 (w6.alloc (.cells #[.int .i64 3] 3)) (.slice (some ⟨w6.heap.size, 0, none⟩) 1 1) [3]) := lit_at (l := [3]) (show (w6.heap.push _)[w6.heap.size]? = _ from by rw [Array.getElem?_push, if_pos rfl]; rfl)
  have HK := Lib.hid (HK.out.below hA)
  have HG := Lib.hid (HG.out.below hA)
  have HA := Lib.hid (HA.out.below hA)
  have H1 := Lib.hid (H1.out.below hA)
  have HB := Lib.hid (HB.out.trans (hA.mono HB.out.size))
  clear hA
  refine (sub_any [0] [3] _ _ _ H1.out HL1.out (by decide) (by decide)).mono ?_
  rintro e w7 ⟨vHS, rfl, ho, hB⟩
  rw [sub1] at ho ⊢
  simp only at ho ⊢
  have HS := Lib.hid ho.reads
  clear ho HL1 H1
  have HK := Lib.hid (HK.out.below hB)
  have HG := Lib.hid (HG.out.below hB)
  have HA := Lib.hid (HA.out.below hB)
  have HB := Lib.hid (HB.out.trans (hB.mono HB.out.size))
  clear hB
  go_wp2_with fail
  have hA : Below w7.heap.size w7 (w7.alloc (.cells #[.int .i64 1, .int .i64 3] 3)) := ((Below.refl _ _).alloc (Nat.le_refl _) _)
  have HL1 : Hid (ReadsK encC 1 (w7.alloc (.cells #[.int .i64 1, .int .i64 3] 3)) (.slice (some ⟨w7.heap.size, 0, none⟩) 2 2) [1, 3]) := lit_at (l := [1, 3]) (show (w7.heap.push _)[w7.heap.size]? = _ from by rw [Array.getElem?_push, if_pos rfl]; rfl)
  have HK := Lib.hid (HK.out.below hA)
  have HG := Lib.hid (HG.out.below hA)
  have HA := Lib.hid (HA.out.below hA)
  have HS := Lib.hid (HS.out.below hA)
  have HB := Lib.hid (HB.out.trans (hA.mono HB.out.size))
  clear hA
  refine (half_any [1, 3] _ _ HL1.out (fun a n c h => by injection h with _ h1 h2; omega) (by decide)).mono ?_
  intro e w8 h2
  obtain ⟨vHX, vHY, rfl, hv1, hv2, hB⟩ := half_ok (k := [1, 4]) (g := [4]) h2 (by decide +kernel) (by decide) (by decide) (by decide) (by decide)
  have HX := Lib.hid hv1.reads
  have HY := Lib.hid hv2.reads
  clear h2 hv1 hv2
  clear HL1
  have HK := Lib.hid (HK.out.below hB)
  have HG := Lib.hid (HG.out.below hB)
  have HA := Lib.hid (HA.out.below hB)
  have HS := Lib.hid (HS.out.below hB)
  have HB := Lib.hid (HB.out.trans (hB.mono HB.out.size))
  clear hB
  go_wp2_with fail
  refine (encode_any [1, 2, 3] vHS _ HS.out (by decide)).mono ?_
  rintro e w9 ⟨rfl, hB⟩
  rw [enc1]
  simp only
  have HK := Lib.hid (HK.out.below hB)
  have HG := Lib.hid (HG.out.below hB)
  have HA := Lib.hid (HA.out.below hB)
  have HS := Lib.hid (HS.out.below hB)
  have HX := Lib.hid (HX.out.below hB)
  have HY := Lib.hid (HY.out.below hB)
  have HB := Lib.hid (HB.out.trans (hB.mono HB.out.size))
  clear hB
  go_wp2_with fail
  refine (decode_any [3, 1, 2, 3] _ (by decide)).mono ?_
  rintro e w10 ⟨vHD, rfl, ho, hB⟩
  rw [dec1] at ho ⊢
  simp only at ho ⊢
  have HD := Lib.hid ho.reads
  clear ho
  have HK := Lib.hid (HK.out.below hB)
  have HG := Lib.hid (HG.out.below hB)
  have HA := Lib.hid (HA.out.below hB)
  have HS := Lib.hid (HS.out.below hB)
  have HX := Lib.hid (HX.out.below hB)
  have HY := Lib.hid (HY.out.below hB)
  have HB := Lib.hid (HB.out.trans (hB.mono HB.out.size))
  clear hB
  go_wp2_with fail
  have hA : Below w10.heap.size w10 (w10.alloc (.cells #[.int .i64 1] 3)) := ((Below.refl _ _).alloc (Nat.le_refl _) _)
  have HL1 : Hid (ReadsK encC 1 (w10.alloc (.cells #[.int .i64 1] 3)) (.slice (some ⟨w10.heap.size, 0, none⟩) 1 1) [1]) := lit_at (l := [1]) (show (w10.heap.push _)[w10.heap.size]? = _ from by rw [Array.getElem?_push, if_pos rfl]; rfl)
  have HK := Lib.hid (HK.out.below hA)
  have HG := Lib.hid (HG.out.below hA)
  have HA := Lib.hid (HA.out.below hA)
  have HS := Lib.hid (HS.out.below hA)
  have HX := Lib.hid (HX.out.below hA)
  have HY := Lib.hid (HY.out.below hA)
  have HD := Lib.hid (HD.out.below hA)
  have HB := Lib.hid (HB.out.trans (hA.mono HB.out.size))
  clear hA
  refine (rsame_any [1] [1] _ _ _ HK.out HL1.out (by decide) (by decide)).mono ?_
  rintro e w11 ⟨rfl, hB⟩
  rw [decide_eq_true rfl]
  clear HL1
  have HK := Lib.hid (HK.out.below hB)
  have HG := Lib.hid (HG.out.below hB)
  have HA := Lib.hid (HA.out.below hB)
  have HS := Lib.hid (HS.out.below hB)
  have HX := Lib.hid (HX.out.below hB)
  have HY := Lib.hid (HY.out.below hB)
  have HD := Lib.hid (HD.out.below hB)
  have HB := Lib.hid (HB.out.trans (hB.mono HB.out.size))
  clear hB
  clear HK
  go_wp2_with fail
  have hA : Below w11.heap.size w11 (w11.alloc (.cells #[.int .i64 1] 3)) := ((Below.refl _ _).alloc (Nat.le_refl _) _)
  have HL1 : Hid (ReadsK encC 1 (w11.alloc (.cells #[.int .i64 1] 3)) (.slice (some ⟨w11.heap.size, 0, none⟩) 1 1) [1]) := lit_at (l := [1]) (show (w11.heap.push _)[w11.heap.size]? = _ from by rw [Array.getElem?_push, if_pos rfl]; rfl)
  have HG := Lib.hid (HG.out.below hA)
  have HA := Lib.hid (HA.out.below hA)
  have HS := Lib.hid (HS.out.below hA)
  have HX := Lib.hid (HX.out.below hA)
  have HY := Lib.hid (HY.out.below hA)
  have HD := Lib.hid (HD.out.below hA)
  have HB := Lib.hid (HB.out.trans (hA.mono HB.out.size))
  clear hA
  refine (rsame_any [1] [1] _ _ _ HG.out HL1.out (by decide) (by decide)).mono ?_
  rintro e w12 ⟨rfl, hB⟩
  rw [decide_eq_true rfl]
  clear HL1
  have HG := Lib.hid (HG.out.below hB)
  have HA := Lib.hid (HA.out.below hB)
  have HS := Lib.hid (HS.out.below hB)
  have HX := Lib.hid (HX.out.below hB)
  have HY := Lib.hid (HY.out.below hB)
  have HD := Lib.hid (HD.out.below hB)
  have HB := Lib.hid (HB.out.trans (hB.mono HB.out.size))
  clear hB
  clear HG
  go_wp2_with fail
  refine (isone_any [0] _ _ HA.out (by decide)).mono ?_
  rintro e w13 ⟨rfl, hB⟩
  rw [decide_eq_true rfl]
  have HA := Lib.hid (HA.out.below hB)
  have HS := Lib.hid (HS.out.below hB)
  have HX := Lib.hid (HX.out.below hB)
  have HY := Lib.hid (HY.out.below hB)
  have HD := Lib.hid (HD.out.below hB)
  have HB := Lib.hid (HB.out.trans (hB.mono HB.out.size))
  clear hB
  go_wp2_with fail
  have hA : Below w13.heap.size w13 (w13.alloc (.cells #[.int .i64 1, .int .i64 2, .int .i64 3] 3)) := ((Below.refl _ _).alloc (Nat.le_refl _) _)
  have HL1 : Hid (ReadsK encC 1 (w13.alloc (.cells #[.int .i64 1, .int .i64 2, .int .i64 3] 3)) (.slice (some ⟨w13.heap.size, 0, none⟩) 3 3) [1, 2, 3]) := lit_at (l := [1, 2, 3]) (show (w13.heap.push _)[w13.heap.size]? = _ from by rw [Array.getElem?_push, if_pos rfl]; rfl)
  have HA := Lib.hid (HA.out.below hA)
  have HS := Lib.hid (HS.out.below hA)
  have HX := Lib.hid (HX.out.below hA)
  have HY := Lib.hid (HY.out.below hA)
  have HD := Lib.hid (HD.out.below hA)
  have HB := Lib.hid (HB.out.trans (hA.mono HB.out.size))
  clear hA
  refine (rsame_any [1, 2, 3] [1, 2, 3] _ _ _ HS.out HL1.out (by decide) (by decide)).mono ?_
  rintro e w14 ⟨rfl, hB⟩
  rw [decide_eq_true rfl]
  clear HL1
  have HA := Lib.hid (HA.out.below hB)
  have HS := Lib.hid (HS.out.below hB)
  have HX := Lib.hid (HX.out.below hB)
  have HY := Lib.hid (HY.out.below hB)
  have HD := Lib.hid (HD.out.below hB)
  have HB := Lib.hid (HB.out.trans (hB.mono HB.out.size))
  clear hB
  go_wp2_with fail
  have hA : Below w14.heap.size w14 (w14.alloc (.cells #[.int .i64 1, .int .i64 4] 3)) := ((Below.refl _ _).alloc (Nat.le_refl _) _)
  have HL1 : Hid (ReadsK encC 1 (w14.alloc (.cells #[.int .i64 1, .int .i64 4] 3)) (.slice (some ⟨w14.heap.size, 0, none⟩) 2 2) [1, 4]) := lit_at (l := [1, 4]) (show (w14.heap.push _)[w14.heap.size]? = _ from by rw [Array.getElem?_push, if_pos rfl]; rfl)
  have HA := Lib.hid (HA.out.below hA)
  have HS := Lib.hid (HS.out.below hA)
  have HX := Lib.hid (HX.out.below hA)
  have HY := Lib.hid (HY.out.below hA)
  have HD := Lib.hid (HD.out.below hA)
  have HB := Lib.hid (HB.out.trans (hA.mono HB.out.size))
  clear hA
  refine (rsame_any [1, 4] [1, 4] _ _ _ HX.out HL1.out (by decide) (by decide)).mono ?_
  rintro e w15 ⟨rfl, hB⟩
  rw [decide_eq_true rfl]
  clear HL1
  have HA := Lib.hid (HA.out.below hB)
  have HS := Lib.hid (HS.out.below hB)
  have HX := Lib.hid (HX.out.below hB)
  have HY := Lib.hid (HY.out.below hB)
  have HD := Lib.hid (HD.out.below hB)
  have HB := Lib.hid (HB.out.trans (hB.mono HB.out.size))
  clear hB
  clear HX
  go_wp2_with fail
  have hA : Below w15.heap.size w15 (w15.alloc (.cells #[.int .i64 4] 3)) := ((Below.refl _ _).alloc (Nat.le_refl _) _)
  have HL1 : Hid (ReadsK encC 1 (w15.alloc (.cells #[.int .i64 4] 3)) (.slice (some ⟨w15.heap.size, 0, none⟩) 1 1) [4]) := lit_at (l := [4]) (show (w15.heap.push _)[w15.heap.size]? = _ from by rw [Array.getElem?_push, if_pos rfl]; rfl)
  have HA := Lib.hid (HA.out.below hA)
  have HS := Lib.hid (HS.out.below hA)
  have HY := Lib.hid (HY.out.below hA)
  have HD := Lib.hid (HD.out.below hA)
  have HB := Lib.hid (HB.out.trans (hA.mono HB.out.size))
  clear hA
  refine (rsame_any [4] [4] _ _ _ HY.out HL1.out (by decide) (by decide)).mono ?_
  rintro e w16 ⟨rfl, hB⟩
  rw [decide_eq_true rfl]
  clear HL1
  have HA := Lib.hid (HA.out.below hB)
  have HS := Lib.hid (HS.out.below hB)
  have HY := Lib.hid (HY.out.below hB)
  have HD := Lib.hid (HD.out.below hB)
  have HB := Lib.hid (HB.out.trans (hB.mono HB.out.size))
  clear hB
  clear HY
  go_wp2_with fail
  refine (rsame_any [1, 2, 3] [1, 2, 3] _ _ _ HS.out HD.out (by decide) (by decide)).mono ?_
  rintro e w17 ⟨rfl, hB⟩
  rw [decide_eq_true rfl]
  have HA := Lib.hid (HA.out.below hB)
  have HS := Lib.hid (HS.out.below hB)
  have HD := Lib.hid (HD.out.below hB)
  have HB := Lib.hid (HB.out.trans (hB.mono HB.out.size))
  clear hB
  clear HD
  go_wp2_with fail
  refine (ccompare_any [0] [1, 2, 3] _ _ _ HA.out HS.out (by decide) (by decide)).mono ?_
  rintro e w18 ⟨rfl, hB⟩
  rw [cmp1]
  have HA := Lib.hid (HA.out.below hB)
  have HS := Lib.hid (HS.out.below hB)
  have HB := Lib.hid (HB.out.trans (hB.mono HB.out.size))
  clear hB
  clear HA HS
  go_wp2_with fail
  refine (iszero_any [] _ _ (.inl ⟨rfl, none, 0, rfl⟩)).mono ?_
  rintro e w19 ⟨rfl, hw⟩
  have hw := hw.symm
  subst hw
  rw [decide_eq_true rfl]
  go_wp2_with fail
  have hA : Below w18.heap.size w18 (w18.alloc (.cells #[.int .i64 0, .int .i64 1] 3)) := ((Below.refl _ _).alloc (Nat.le_refl _) _)
  have HL1 : Hid (ReadsK encC 1 (w18.alloc (.cells #[.int .i64 0, .int .i64 1] 3)) (.slice (some ⟨w18.heap.size, 0, none⟩) 2 2) [0, 1]) := lit_at (l := [0, 1]) (show (w18.heap.push _)[w18.heap.size]? = _ from by rw [Array.getElem?_push, if_pos rfl]; rfl)
  have HB := Lib.hid (HB.out.trans (hA.mono HB.out.size))
  clear hA
  refine (cmay_any [0, 1] _ _ HL1.out (by decide)).mono ?_
  rintro e w20 ⟨rfl, hw⟩
  have hw := hw.symm
  subst hw
  rw [show mayC [0, 1] = false by decide +kernel]
  go_wp2_with fail
  go_ret
  exact ⟨rfl, HB.out⟩
end Go.Proofs.Ytgjmnmcbinekdaa
