/- The document's tree: Within. -/
import Derived.Test.YtpdnebimkfejoaaDt4
namespace Go.Proofs.Ytpdnebimkfejoaa
open Go.RowKit Go.Sort Go.Lib

def withinD (l m : Al) (n : Nm) : Al := m.filter fun p => withinA l n p.1
theorem withinD_take {l m : Al} {n : Nm} {k : Nat} (hk : k < m.length) : withinD l (m.take (k + 1)) n = withinD l (m.take k) n ++ (if withinA l n m[k].1 = true then [m[k]] else []) := by
  unfold withinD
  rw [List.take_succ_eq_append_getElem hk, List.filter_append]
  congr 1
  by_cases h : withinA l n m[k].1 = true <;> simp [h]
theorem within_no {l : Al} {n : Nm} (h : ∀ p ∈ l, p.1 ≠ n) (m : Al) : withinD l m n = [] := by
  unfold withinD
  rw [List.filter_eq_nil_iff]
  intro p _ hw
  unfold withinA at hw
  have h1 := of_decide_eq_true hw
  obtain ⟨h2, _⟩ := upN_some h1
  obtain ⟨q, hq, e⟩ := hasA_mem.1 h2
  exact h q hq e
set_option maxHeartbeats 12800000 in
set_option maxRecDepth 100000 in
theorem dwithin_any {Z r : Nat} {lv : Value} {l : Al} {w : World} (n : Nm) (h : Dt Z r lv l w) (hm : l.length ≤ 100000) (hml : ∀ p ∈ l, mayS p.1.2 = true) :
    Calls Try.prog 33 #[RP r, nmV n] w fun e w' => ∃ v, e = .returned v ∧ w'.ownsRow w.heap.size RootT 9 v (withinD l l n).length ((withinD l l n).flatMap encT) ∧ Below w.heap.size w w' := by
  have hA := alD w (cellsM n)
  have H0 := Lib.hid (h.below hA)
  have HA := Lib.hid hA
  have HML := Lib.hid hml
  have HM := Lib.hid hm
  have hn0 : (w.alloc (cellsM n)).cell? ⟨w.heap.size, 0, none⟩ = some (.int .u64 n.1) := by simp [go_sem]
  have hn1 : (w.alloc (cellsM n)).cell? ⟨w.heap.size, 1, none⟩ = some (.string n.2) := by simp [go_sem]
  have HN0 := Lib.hid (And.intro hn0 hn1)
  obtain ⟨la, lc, hlv⟩ := own_slice h.own
  have HLV := Lib.hid hlv
  obtain ⟨N, hN⟩ : ∃ N, l.length = N := ⟨_, rfl⟩
  have hN1 : N ≤ 100000 := by omega
  clear h hlv hA hml hm hn0 hn1
  have HN := Lib.hid hN
  go_enter Try.func33, Try.ntmps33
  go_wp2_with fail
  have hnb : w.heap.size < (w.alloc (cellsM n)).heap.size := by simp
  generalize w.alloc (.cells #[.int .u64 n.1, .string n.2] NmT) = wa at *
  obtain ⟨nb, hnbe⟩ : ∃ nb, w.heap.size = nb := ⟨_, rfl⟩
  rw [hnbe] at HN0 ⊢
  have HNE := Lib.hid hnbe
  clear hnb hnbe
  go_loopg [5, 6] N (fun gk t5 t6 wr => ∃ (k : Nat) (va : Option Addr) (vn vc : Nat), gk + k = N ∧ t6 = .int .i64 k ∧ t5 = .slice va vn vc ∧ (withinD l (l.take k) n).length = vn ∧ vn ≤ k ∧ Hid (Below wa.heap.size wa wr ∧ wr.ownsRow wa.heap.size RootT 9 (.slice va vn vc) (withinD l (l.take k) n).length ((withinD l (l.take k) n).flatMap encT)))
  case atStart => exact ⟨0, none, 0, 0, by omega, rfl, rfl, rfl, by omega, Below.refl _ _, World.ownsRow_nil _ _ _ _⟩
  case round =>
    obtain ⟨k, va, vn, vc, hkk, rfl, rfl, hvn, hvk, HR⟩ := hrel
    have y0 := (H0.out.below HR.out.1).cell
    rw [HLV.out, hN] at y0
    have m0 := (HR.out.1.cell (p := ⟨nb, 0, none⟩) (World.block_lt_of_cell? _ _ HN0.out.1)).trans HN0.out.1
    have m1 := (HR.out.1.cell (p := ⟨nb, 1, none⟩) (World.block_lt_of_cell? _ _ HN0.out.2)).trans HN0.out.2
    have HVN := Lib.hid hvn
    clear hvn
    by_cases hlt : k < N
    · have hkl : k < l.length := by omega
      clear hN
      go_wp2_with fail
      refine (dfind_any n (H0.out.below HR.out.1) HM.out).mono ?_
      rintro e w2 ⟨⟨i, rfl, hF⟩, hB⟩
      replace y0 := (hB.cell (p := ⟨r, 0, none⟩) (World.block_lt_of_cell? _ _ y0)).trans y0
      replace m0 := (hB.cell (p := ⟨nb, 0, none⟩) (World.block_lt_of_cell? _ _ m0)).trans m0
      replace m1 := (hB.cell (p := ⟨nb, 1, none⟩) (World.block_lt_of_cell? _ _ m1)).trans m1
      have HR2 := Lib.hid (show Below wa.heap.size wa w2 ∧ w2.ownsRow wa.heap.size RootT 9 (.slice va vn vc) (withinD l (l.take k) n).length ((withinD l (l.take k) n).flatMap encT) from ⟨HR.out.1.trans (hB.mono HR.out.1.size), own_below HR.out.2 hB⟩)
      clear hB HR
      rcases hF with ⟨rfl, hno⟩ | ⟨q, hq, rfl, hqn⟩
      · have HX := Lib.hid (show w2.ownsRow w.heap.size RootT 9 (.slice va vn vc) (withinD l l n).length ((withinD l l n).flatMap encT) ∧ Below w.heap.size w w2 from by
          have ho := HR2.out.2
          rw [within_no hno] at ho
          rw [within_no hno]
          exact ⟨owns_monoG ho HA.out.size, gthenD HA.out HR2.out.1⟩)
        clear hno
        go_wp2_with fail
        go_ret
        exact ⟨_, rfl, HX.out⟩
      · have hq0 : (0 : Int) ≤ q := by omega
        have hq1 : decide ((0 : Int) ≤ (q : Int)) = true := decide_eq_true hq0
        obtain ⟨g, cap, e, hc⟩ := (H0.out.below HR2.out.1).at hkl
        rw [HLV.out] at e
        injection e with e1 _ e3
        subst e1
        have HT := Lib.hid (withinD_take (l := l) (n := n) hkl)
        have hxm := HML.out _ (List.getElem_mem hkl)
        obtain ⟨x, hx⟩ : ∃ x, l[k] = x := ⟨_, rfl⟩
        rw [hx] at hc HT hxm
        have HXS := Lib.hid (may_size hxm)
        clear hxm
        have c0 : w2.cell? ⟨g, k * 9, none⟩ = some (.int .u64 x.1.1) := hc 0 _ rfl
        have c1 : w2.cell? ⟨g, k * 9 + 1, none⟩ = some (.string x.1.2) := hc 1 _ rfl
        have c2 : w2.cell? ⟨g, k * 9 + 2, none⟩ = some (.string x.1.2) := hc 2 _ rfl
        have c3 : w2.cell? ⟨g, k * 9 + 3, none⟩ = some (.int .i64 x.2.fn) := hc 3 _ rfl
        have c4 : w2.cell? ⟨g, k * 9 + 4, none⟩ = some (.slice x.2.aa x.2.args.length x.2.ac) := hc 4 _ rfl
        have c5 : w2.cell? ⟨g, k * 9 + 5, none⟩ = some (.int .i64 x.2.fuel) := hc 5 _ rfl
        have c6 : w2.cell? ⟨g, k * 9 + 6, none⟩ = some (.int .u8 x.2.st) := hc 6 _ rfl
        have c7 : w2.cell? ⟨g, k * 9 + 7, none⟩ = some (.int .i64 x.2.wk) := hc 7 _ rfl
        have c8 : w2.cell? ⟨g, k * 9 + 8, none⟩ = some (.int .u64 x.2.ep) := hc 8 _ rfl
        clear e3 hc hx hqn
        go_wp2_with fail
        refine (dabove_any x.1 (H0.out.below HR2.out.1) HM.out HXS.out HML.out).mono ?_
        rintro e w3 ⟨⟨b, rfl, hb⟩, hB⟩
        replace y0 := (hB.cell (p := ⟨r, 0, none⟩) (World.block_lt_of_cell? _ _ y0)).trans y0
        replace m0 := (hB.cell (p := ⟨nb, 0, none⟩) (World.block_lt_of_cell? _ _ m0)).trans m0
        replace m1 := (hB.cell (p := ⟨nb, 1, none⟩) (World.block_lt_of_cell? _ _ m1)).trans m1
        replace c0 := (hB.cell (p := ⟨g, k * 9, none⟩) (World.block_lt_of_cell? _ _ c0)).trans c0
        replace c1 := (hB.cell (p := ⟨g, k * 9 + 1, none⟩) (World.block_lt_of_cell? _ _ c1)).trans c1
        replace c2 := (hB.cell (p := ⟨g, k * 9 + 2, none⟩) (World.block_lt_of_cell? _ _ c2)).trans c2
        replace c3 := (hB.cell (p := ⟨g, k * 9 + 3, none⟩) (World.block_lt_of_cell? _ _ c3)).trans c3
        replace c4 := (hB.cell (p := ⟨g, k * 9 + 4, none⟩) (World.block_lt_of_cell? _ _ c4)).trans c4
        replace c5 := (hB.cell (p := ⟨g, k * 9 + 5, none⟩) (World.block_lt_of_cell? _ _ c5)).trans c5
        replace c6 := (hB.cell (p := ⟨g, k * 9 + 6, none⟩) (World.block_lt_of_cell? _ _ c6)).trans c6
        replace c7 := (hB.cell (p := ⟨g, k * 9 + 7, none⟩) (World.block_lt_of_cell? _ _ c7)).trans c7
        replace c8 := (hB.cell (p := ⟨g, k * 9 + 8, none⟩) (World.block_lt_of_cell? _ _ c8)).trans c8
        have HR3 := Lib.hid (show Below wa.heap.size wa w3 ∧ w3.ownsRow wa.heap.size RootT 9 (.slice va vn vc) (withinD l (l.take k) n).length ((withinD l (l.take k) n).flatMap encT) from ⟨HR2.out.1.trans (hB.mono HR2.out.1.size), own_below HR2.out.2 hB⟩)
        clear hB HR2
        rcases hb with ⟨rfl, hup⟩ | ⟨j, hj, rfl, hup⟩
        · have HT2 := Lib.hid (show withinD l (l.take (k + 1)) n = withinD l (l.take k) n from by rw [HT.out, if_neg (by unfold withinA; rw [hup]; simp), List.append_nil])
          clear hup
          go_upto_region 6 with fail
          go_quiet (fail)
          have hBq : Below w3.heap.size w3 (w3.drewN nq) := below_drewN (Below.refl _ _) nq
          have HR4 := Lib.hid (show Below wa.heap.size wa (w3.drewN nq) ∧ (w3.drewN nq).ownsRow wa.heap.size RootT 9 (.slice va vn vc) (withinD l (l.take (k + 1)) n).length ((withinD l (l.take (k + 1)) n).flatMap encT) from by rw [HT2.out]; exact ⟨HR3.out.1.trans (hBq.mono HR3.out.1.size), own_below HR3.out.2 hBq⟩)
          clear hBq HR3 y0 m0 m1 c0 c1 c2 c3 c4 c5 c6 c7 c8
          generalize w3.drewN nq = w4 at *
          go_wp2_with fail
          go_roundg (gk - 1)
          case rel => exact ⟨k + 1, va, vn, vc, by omega, by go_num, rfl, by rw [HT2.out]; exact HVN.out, by omega, HR4.out⟩
          case measure => omega
        · obtain ⟨g', cap', e', hc'⟩ := (H0.out.below HR3.out.1).at hj
          rw [HLV.out] at e'
          injection e' with e1' _ e3'
          injection e1' with e1'
          injection e1' with e1' _ _
          subst e1'
          have d0 : w3.cell? ⟨g, j * 9, none⟩ = some (.int .u64 l[j].1.1) := hc' 0 _ rfl
          have d1 : w3.cell? ⟨g, j * 9 + 1, none⟩ = some (.string l[j].1.2) := hc' 1 _ rfl
          have hjj : (0 : Int) ≤ j := by omega
          have hjl : (j : Int) < N := by rw [← HN.out]; omega
          have hjd : decide ((0 : Int) ≤ (j : Int)) = true := decide_eq_true hjj
          clear hc' e3'
          have heq := eqNm l[j].1 n
          cases hd : decide (l[j].1 = n)
          · have HT2 := Lib.hid (show withinD l (l.take (k + 1)) n = withinD l (l.take k) n from by rw [HT.out, if_neg (by unfold withinA; rw [hup]; simpa using hd), List.append_nil])
            rw [hd] at heq
            generalize l[j].1 = u at *
            clear hd hup
            go_upto_region 6 with fail
            go_quiet (fail)
            have hBq : Below w3.heap.size w3 (w3.drewN nq) := below_drewN (Below.refl _ _) nq
            have HR4 := Lib.hid (show Below wa.heap.size wa (w3.drewN nq) ∧ (w3.drewN nq).ownsRow wa.heap.size RootT 9 (.slice va vn vc) (withinD l (l.take (k + 1)) n).length ((withinD l (l.take (k + 1)) n).flatMap encT) from by rw [HT2.out]; exact ⟨HR3.out.1.trans (hBq.mono HR3.out.1.size), own_below HR3.out.2 hBq⟩)
            clear hBq HR3 y0 m0 m1 c0 c1 c2 c3 c4 c5 c6 c7 c8 d0 d1 heq
            generalize w3.drewN nq = w4 at *
            go_wp2_with fail
            go_roundg (gk - 1)
            case rel => exact ⟨k + 1, va, vn, vc, by omega, by go_num, rfl, by rw [HT2.out]; exact HVN.out, by omega, HR4.out⟩
            case measure => omega
          · have HT2 := Lib.hid (show withinD l (l.take (k + 1)) n = withinD l (l.take k) n ++ [x] from by rw [HT.out, if_pos (by unfold withinA; rw [hup]; simpa using hd)])
            rw [hd] at heq
            generalize l[j].1 = u at *
            clear hd hup
            go_upto_region 6 with fail
            go_quiet (fail)
            have hBq : Below w3.heap.size w3 (w3.drewN nq) := below_drewN (Below.refl _ _) nq
            replace y0 := (hBq.cell (p := ⟨r, 0, none⟩) (World.block_lt_of_cell? _ _ y0)).trans y0
            replace c0 := (hBq.cell (p := ⟨g, k * 9, none⟩) (World.block_lt_of_cell? _ _ c0)).trans c0
            replace c1 := (hBq.cell (p := ⟨g, k * 9 + 1, none⟩) (World.block_lt_of_cell? _ _ c1)).trans c1
            replace c2 := (hBq.cell (p := ⟨g, k * 9 + 2, none⟩) (World.block_lt_of_cell? _ _ c2)).trans c2
            replace c3 := (hBq.cell (p := ⟨g, k * 9 + 3, none⟩) (World.block_lt_of_cell? _ _ c3)).trans c3
            replace c4 := (hBq.cell (p := ⟨g, k * 9 + 4, none⟩) (World.block_lt_of_cell? _ _ c4)).trans c4
            replace c5 := (hBq.cell (p := ⟨g, k * 9 + 5, none⟩) (World.block_lt_of_cell? _ _ c5)).trans c5
            replace c6 := (hBq.cell (p := ⟨g, k * 9 + 6, none⟩) (World.block_lt_of_cell? _ _ c6)).trans c6
            replace c7 := (hBq.cell (p := ⟨g, k * 9 + 7, none⟩) (World.block_lt_of_cell? _ _ c7)).trans c7
            replace c8 := (hBq.cell (p := ⟨g, k * 9 + 8, none⟩) (World.block_lt_of_cell? _ _ c8)).trans c8
            have HR4 := Lib.hid (show Below wa.heap.size wa (w3.drewN nq) ∧ (w3.drewN nq).ownsRow wa.heap.size RootT 9 (.slice va vn vc) (withinD l (l.take k) n).length ((withinD l (l.take k) n).flatMap encT) from ⟨HR3.out.1.trans (hBq.mono HR3.out.1.size), own_below HR3.out.2 hBq⟩)
            clear hBq HR3 m0 m1 d0 d1 heq
            obtain ⟨w4, hw4⟩ : ∃ t, w3.drewN nq = t := ⟨_, rfl⟩
            rw [hw4] at HR4 y0 c0 c1 c2 c3 c4 c5 c6 c7 c8 ⊢
            clear hw4
            obtain ⟨g7, cc7, w7, hap, ho7, hF7⟩ := app_root x HR4.out.2 HVN.out (by omega) HR4.out.1.size
            have HN7 := Lib.hid (show Below wa.heap.size wa w7 ∧ w7.ownsRow wa.heap.size RootT 9 (.slice (some ⟨g7, 0, none⟩) (vn + 1) cc7) (withinD l (l.take (k + 1)) n).length ((withinD l (l.take (k + 1)) n).flatMap encT) from
              ⟨HR4.out.1.trans (hF7.below (fun i hi => (HR4.out.2.lt i hi).1) HR4.out.1.size), by rw [HT2.out]; exact ho7⟩)
            have HL7 := Lib.hid (show (withinD l (l.take (k + 1)) n).length = vn + 1 from by rw [HT2.out, List.length_append, HVN.out]; rfl)
            obtain ⟨v7, hv7⟩ : ∃ n, vn + 1 = n := ⟨_, rfl⟩
            rw [hv7] at hap HL7 HN7
            have hv8 : v7 ≤ k + 1 := by omega
            clear ho7 hF7 hv7
            go_wp2_with (at_builtin; refine wpList_arunC rfl _ _ _ _ rfl rfl rfl hap ?_)
            go_roundg (gk - 1)
            case rel => exact ⟨k + 1, _, v7, cc7, by omega, by go_num, rfl, HL7.out, hv8, HN7.out⟩
            case measure => omega
    · have hke : k = l.length := by omega
      subst hke
      have HX := Lib.hid (show wr.ownsRow w.heap.size RootT 9 (.slice va vn vc) (withinD l l n).length ((withinD l l n).flatMap encT) ∧ Below w.heap.size w wr from by
        have := HR.out.2
        rw [List.take_length] at this
        exact ⟨owns_monoG this HA.out.size, gthenD HA.out HR.out.1⟩)
      clear hN
      go_wp2_with fail
      go_ret
      exact ⟨_, rfl, HX.out⟩
end Go.Proofs.Ytpdnebimkfejoaa
