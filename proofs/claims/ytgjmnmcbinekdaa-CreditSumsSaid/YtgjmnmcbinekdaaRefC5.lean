/- The document's Half. -/
import Derived.Test.YtgjmnmcbinekdaaRefC3
namespace Go.Proofs.Ytgjmnmcbinekdaa
open Go.RowKit Go.Sort Go.Lib

theorem half_end2 {wz : World} {tmps : Array Value} {a b c : Value} {R : Ending → World → Prop}
    (h2 : tmps.getD 2 undef = a) (h3 : tmps.getD 3 undef = b) (h4 : tmps.getD 4 undef = c) (hR : R (.returned (.tuple #[a, b, c])) wz) :
    bodyPost Try.prog Try.f25 R Exit.ret { tmps := tmps, defers := [] } wz := by
  refine bodyPost_ret (v := .tuple #[a, b, c]) ?_ rfl hR
  have h2' : tmps[2]?.getD undef = a := by simpa using h2
  have h3' : tmps[3]?.getD undef = b := by simpa using h3
  have h4' : tmps[4]?.getD undef = c := by simpa using h4
  simp [results, Try.results25, go_sem, h2', h3', h4']
theorem own_empty (w : World) (B : Nat) (hB : B ≤ w.heap.size) : COwn (w.alloc (.cells #[] 3)) B (.slice (some ⟨w.heap.size, 0, none⟩) 0 0) [] :=
  ⟨rfl, .inr ⟨w.heap.size, 0, #[], rfl, hB, heap_alloc_new w _, Nat.le_refl _, by decide, rfl, rfl⟩⟩
set_option maxHeartbeats 3200000 in
set_option maxRecDepth 100000 in
theorem rhalf_any (l : List Int) (v : Value) (w : World) (h : ReadsK encC 1 w v l) (hcap : ∀ a n c, v = .slice a n c → n ≤ c) (hl : l.length ≤ 1000000) :
    Calls Try.prog 25 #[v] w (HalfQ l w) := by
  obtain ⟨ig, hig, hg0, hg1, hg2⟩ := info_parts info_int
  have HR := Lib.hid h
  obtain ⟨va, vc, rfl⟩ := h.slice
  have hcap2 : l.length ≤ vc := hcap _ _ _ rfl
  clear h hcap
  go_enter Try.func25, Try.ntmps25
  go_wp2_with fail
  refine (rmay_any l _ w HR.out hl).mono ?_
  rintro e w1 ⟨rfl, hB⟩
  have HR := Lib.hid (HR.out.below hB)
  have HB := Lib.hid hB
  clear hB
  cases hm : mayC l
  · have HE : Hid (halfE l = 8) := by show _ = _; unfold halfE; rw [if_neg (by rw [hm]; decide)]
    go_wp2_with fail
    exact half_end2 (a := .slice none 0 0) (b := .slice none 0 0) (c := .int .i64 8) rfl rfl rfl (halfQ_no HB.out HE.out (by decide))
  · by_cases h0 : l = []
    · have HE : Hid (halfE l = 5) := by show _ = _; unfold halfE; rw [if_pos hm, if_pos h0]
      have hb : ((l.length : Int) == 0) = true := by simp [h0]
      clear h0
      go_wp2_with fail
      exact half_end2 (a := .slice none 0 0) (b := .slice none 0 0) (c := .int .i64 5) rfl rfl rfl (halfQ_no HB.out HE.out (by decide))
    · have hpos : 0 < l.length := List.length_pos_iff.2 h0
      have hb : ((l.length : Int) == 0) = false := by simp [h0]
      obtain ⟨b, off, cc, he, hbb, hc⟩ := HR.out.at hpos
      injection he with he1 he2 he3
      subst he1
      have hcc := reads_cell hc (l.length - 1) (by omega)
      have HALL := Lib.hid (fun k hk => reads_cell hc k hk)
      have hgood := (mayC_iff.1 hm) (l.length - 1) (by omega)
      have HMX := Lib.hid hm
      have H0 := Lib.hid h0
      clear hc he2 he3 hbb h0 hm
      obtain ⟨n, hn⟩ : ∃ n, l.length = n + 1 := ⟨l.length - 1, by omega⟩
      obtain ⟨x, hx⟩ : ∃ x, l.getD (l.length - 1) 0 = x := ⟨_, rfl⟩
      have HX := Lib.hid hx
      have HN := Lib.hid hn
      have hx3 : ¬ x < 0 := hx ▸ hgood.1
      have hx4 : ¬ 4096 < x := hx ▸ hgood.2.1
      rw [hx] at hcc
      rw [hn, Nat.add_sub_cancel] at hcc
      rw [hn] at hl hpos hb hcap2 ⊢
      clear hgood hx hn
      have e1 : (((n + 1 : Nat) : Int) - 1) = (n : Int) := by omega
      by_cases hov : x = 4096
      · have HE : Hid (halfE l = 6) := by show _ = _; unfold halfE; rw [if_pos HMX.out, if_neg H0.out, HX.out, if_pos (by omega)]
        have hb6 : (x == 4096) = true := by simp [hov]
        go_wp2_with fail
        exact half_end2 (a := .slice none 0 0) (b := .slice none 0 0) (c := .int .i64 6) rfl rfl rfl (halfQ_no HB.out HE.out (by decide))
      · have HE : Hid (halfE l = 0) := by show _ = _; unfold halfE; rw [if_pos HMX.out, if_neg H0.out, HX.out, if_neg (by omega)]
        have hb6 : (x == 4096) = false := by simp [hov]
        have HE0 := Lib.hid (own_empty w1 w.heap.size HB.out.size)
        have HBA := Lib.hid (HB.out.alloc HB.out.size (.cells #[] 3))
        go_wp2_with (at_builtin; refine wpList_append_own _ rfl _ _ 23 rfl w.heap.size 3 ig (.int .i64 0) 1 8 Try.underlying23 hig hg0 hg1 hg2 rfl (by decide) _ _ _ rfl HE0.out ⟨b, off, none⟩ n _ ((l.take n).map (Value.int .i64)) rfl ?c0 ?c1 ?c2 ?c3 ?c4 ?c5 ?_)
        case c0 => rw [List.length_map, List.length_take, HN.out]; omega
        case c1 =>
          intro j u hj
          rw [List.getElem?_map, List.getElem?_take] at hj
          split at hj
          · rename_i hjn
            have h1 := HALL.out j (by rw [HN.out]; omega)
            rw [List.getElem?_eq_getElem (by rw [HN.out]; omega), Option.map_some] at hj
            injection hj with hj
            subst hj
            rw [Addr.add_lit, cell_keep ((Below.refl _ _).alloc (Nat.le_refl _) _) h1]
            simp [List.getD_eq_getElem?_getD, List.getElem?_eq_getElem (show j < l.length by rw [HN.out]; omega)]
          · cases hj
        case c2 =>
          intro u hu
          obtain ⟨y, _, rfl⟩ := List.mem_map.1 hu
          rfl
        case c3 => unfold maxLen; simp; omega
        case c4 => simp; omega
        case c5 => have := HB.out.size; simp; omega
        intro v' w2 hown hgrow hnn
        have hlt : (l.take n).length = n := by rw [List.length_take, HN.out]; omega
        have HO := Lib.hid (show COwn w2 w.heap.size v' (l.take n) from COwn.of (by rw [hlt, List.map_take]; exact hown))
        have HB2 : Hid (Below w.heap.size w w2) := HBA.out.grown hgrow (by have := HB.out.size; simp; omega) (fun b hb => by simp [Value.ownBlock] at hb; have := HB.out.size; omega)
        clear hown hgrow hnn HE0 HBA
        have wx : IntKind.i64.wrap (x + 1) = x + 1 := by rw [IntKind.wrap_i64]; omega
        go_wp2_with (at_builtin; refine wpList_append_own _ rfl _ _ 23 rfl w.heap.size 3 ig (.int .i64 0) 1 8 Try.underlying23 hig hg0 hg1 hg2 rfl (by decide) _ _ _ rfl (HO.out.alloc _) ⟨w2.heap.size, 0, none⟩ 1 1 [.int .i64 (x + 1)] rfl rfl ?c1 ?c2 ?c3 ?c4 ?c5 ?_)
        case c1 => exact int_cell
        case c2 => first | exact int_one _ | rfl
        case c3 => unfold maxLen; omega
        case c4 => omega
        case c5 => have := HB2.out.size; simp; omega
        intro v3 w3 hown hgrow _
        have HO3 := Lib.hid (COwn.snoc (l := l.take n) (by rw [hlt]; exact hown))
        have HB3 := Lib.hid (own_grown HO.out HB2.out hgrow)
        have HK := Lib.hid (show keepL l = l.take n ++ [x + 1] by unfold keepL; rw [HX.out, HN.out, Nat.add_sub_cancel])
        have HG := Lib.hid (show giveL l = [x + 1] by unfold giveL; rw [HX.out])
        clear hown hgrow HO HB2
        go_wp2_with fail
        refine half_end2 (a := v3) (b := .slice (some ⟨w3.heap.size, 0, none⟩) 1 1) (c := .int .i64 0) rfl rfl rfl (halfQ_yes (HB3.out.alloc HB3.out.size _) HE.out ?_ ?_)
        · rw [HK.out]
          exact cowns HO3.out (below_allocC _ _)
        · rw [HG.out]
          exact ⟨rfl, .inr ⟨_, _, _, rfl, HB3.out.size, heap_alloc_new w3 _, Nat.le_refl _, by decide, rfl, rfl⟩⟩
end Go.Proofs.Ytgjmnmcbinekdaa
