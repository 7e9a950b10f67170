/- Contracts: the document's programs that have their form (thresherref10). (Printed by gen/genev18.py.) -/
import Derived.Test.YtdhbjejejeljoaaEv7
namespace Go.Proofs.Ytdhbjejejeljoaa
open Go.RowKit

theorem rreg_any {b : Bool} (x : Int) (w : World) (h : regP x = b) : Calls Try.prog 74 #[.int .i64 x] w fun e w' => e = .returned (.bool b) ∧ w = w' := by
  unfold regP at h
  by_cases h1 : 0 ≤ x
  · by_cases h2 : x ≤ 16
    · have H := Lib.hid h
      clear h
      go_enter Try.func74, Try.ntmps74
      go_wp2
      go_ret
      exact ⟨ret_bool (by rw [← H.out]; simp [h1, h2]), rfl⟩
    · have H := Lib.hid h
      clear h
      go_enter Try.func74, Try.ntmps74
      go_wp2
      go_ret
      exact ⟨ret_bool (by rw [← H.out]; simp [h1, h2]), rfl⟩
  · have H := Lib.hid h
    clear h
    go_enter Try.func74, Try.ntmps74
    go_wp2
    go_ret
    exact ⟨ret_bool (by rw [← H.out]; simp; intro h9; omega), rfl⟩
theorem has_end {wz : World} {tmps : Array Value} {a b c d : Bool} {R : Ending → World → Prop}
    (h2 : tmps.getD 2 undef = .bool a) (h3 : tmps.getD 3 undef = .bool b) (h4 : tmps.getD 4 undef = .bool c) (h5 : tmps.getD 5 undef = .bool d) (hR : R (.returned (.tuple #[.bool a, .bool b, .bool c, .bool d])) wz) :
    bodyPost Try.prog Try.f76 R Exit.ret { tmps := tmps, defers := [] } wz := by
  refine bodyPost_ret (v := .tuple #[.bool a, .bool b, .bool c, .bool d]) ?_ rfl hR
  have h2' : tmps[2]?.getD undef = .bool a := by simpa using h2
  have h3' : tmps[3]?.getD undef = .bool b := by simpa using h3
  have h4' : tmps[4]?.getD undef = .bool c := by simpa using h4
  have h5' : tmps[5]?.getD undef = .bool d := by simpa using h5
  simp [results, Try.results76, go_sem, h2', h3', h4', h5']
set_option maxHeartbeats 800000 in
theorem rhas_1 (w : World) : Calls Try.prog 76 #[.int .u8 1] w fun e w' => e = .returned (.tuple #[.bool (hasD 1), .bool (hasA 1), .bool (hasB 1), .bool (hasN 1)]) ∧ w = w' := by
  go_enter Try.func76, Try.ntmps76
  go_wp2
  exact has_end rfl rfl rfl rfl ⟨rfl, rfl⟩
set_option maxHeartbeats 800000 in
theorem rhas_2 (w : World) : Calls Try.prog 76 #[.int .u8 2] w fun e w' => e = .returned (.tuple #[.bool (hasD 2), .bool (hasA 2), .bool (hasB 2), .bool (hasN 2)]) ∧ w = w' := by
  go_enter Try.func76, Try.ntmps76
  go_wp2
  exact has_end rfl rfl rfl rfl ⟨rfl, rfl⟩
set_option maxHeartbeats 800000 in
theorem rhas_3 (w : World) : Calls Try.prog 76 #[.int .u8 3] w fun e w' => e = .returned (.tuple #[.bool (hasD 3), .bool (hasA 3), .bool (hasB 3), .bool (hasN 3)]) ∧ w = w' := by
  go_enter Try.func76, Try.ntmps76
  go_wp2
  exact has_end rfl rfl rfl rfl ⟨rfl, rfl⟩
set_option maxHeartbeats 800000 in
theorem rhas_4 (w : World) : Calls Try.prog 76 #[.int .u8 4] w fun e w' => e = .returned (.tuple #[.bool (hasD 4), .bool (hasA 4), .bool (hasB 4), .bool (hasN 4)]) ∧ w = w' := by
  go_enter Try.func76, Try.ntmps76
  go_wp2
  exact has_end rfl rfl rfl rfl ⟨rfl, rfl⟩
set_option maxHeartbeats 800000 in
theorem rhas_5 (w : World) : Calls Try.prog 76 #[.int .u8 5] w fun e w' => e = .returned (.tuple #[.bool (hasD 5), .bool (hasA 5), .bool (hasB 5), .bool (hasN 5)]) ∧ w = w' := by
  go_enter Try.func76, Try.ntmps76
  go_wp2
  exact has_end rfl rfl rfl rfl ⟨rfl, rfl⟩
set_option maxHeartbeats 800000 in
theorem rhas_6 (w : World) : Calls Try.prog 76 #[.int .u8 6] w fun e w' => e = .returned (.tuple #[.bool (hasD 6), .bool (hasA 6), .bool (hasB 6), .bool (hasN 6)]) ∧ w = w' := by
  go_enter Try.func76, Try.ntmps76
  go_wp2
  exact has_end rfl rfl rfl rfl ⟨rfl, rfl⟩
set_option maxHeartbeats 800000 in
theorem rhas_7 (w : World) : Calls Try.prog 76 #[.int .u8 7] w fun e w' => e = .returned (.tuple #[.bool (hasD 7), .bool (hasA 7), .bool (hasB 7), .bool (hasN 7)]) ∧ w = w' := by
  go_enter Try.func76, Try.ntmps76
  go_wp2
  exact has_end rfl rfl rfl rfl ⟨rfl, rfl⟩
set_option maxHeartbeats 800000 in
theorem rhas_8 (w : World) : Calls Try.prog 76 #[.int .u8 8] w fun e w' => e = .returned (.tuple #[.bool (hasD 8), .bool (hasA 8), .bool (hasB 8), .bool (hasN 8)]) ∧ w = w' := by
  go_enter Try.func76, Try.ntmps76
  go_wp2
  exact has_end rfl rfl rfl rfl ⟨rfl, rfl⟩
set_option maxHeartbeats 800000 in
theorem rhas_9 (w : World) : Calls Try.prog 76 #[.int .u8 9] w fun e w' => e = .returned (.tuple #[.bool (hasD 9), .bool (hasA 9), .bool (hasB 9), .bool (hasN 9)]) ∧ w = w' := by
  go_enter Try.func76, Try.ntmps76
  go_wp2
  exact has_end rfl rfl rfl rfl ⟨rfl, rfl⟩
set_option maxHeartbeats 800000 in
theorem rhas_10 (w : World) : Calls Try.prog 76 #[.int .u8 10] w fun e w' => e = .returned (.tuple #[.bool (hasD 10), .bool (hasA 10), .bool (hasB 10), .bool (hasN 10)]) ∧ w = w' := by
  go_enter Try.func76, Try.ntmps76
  go_wp2
  exact has_end rfl rfl rfl rfl ⟨rfl, rfl⟩
set_option maxHeartbeats 800000 in
theorem rhas_11 (w : World) : Calls Try.prog 76 #[.int .u8 11] w fun e w' => e = .returned (.tuple #[.bool (hasD 11), .bool (hasA 11), .bool (hasB 11), .bool (hasN 11)]) ∧ w = w' := by
  go_enter Try.func76, Try.ntmps76
  go_wp2
  exact has_end rfl rfl rfl rfl ⟨rfl, rfl⟩
set_option maxHeartbeats 800000 in
theorem rhas_12 (w : World) : Calls Try.prog 76 #[.int .u8 12] w fun e w' => e = .returned (.tuple #[.bool (hasD 12), .bool (hasA 12), .bool (hasB 12), .bool (hasN 12)]) ∧ w = w' := by
  go_enter Try.func76, Try.ntmps76
  go_wp2
  exact has_end rfl rfl rfl rfl ⟨rfl, rfl⟩
set_option maxHeartbeats 800000 in
theorem rhas_13 (w : World) : Calls Try.prog 76 #[.int .u8 13] w fun e w' => e = .returned (.tuple #[.bool (hasD 13), .bool (hasA 13), .bool (hasB 13), .bool (hasN 13)]) ∧ w = w' := by
  go_enter Try.func76, Try.ntmps76
  go_wp2
  exact has_end rfl rfl rfl rfl ⟨rfl, rfl⟩
set_option maxHeartbeats 800000 in
theorem rhas_14 (w : World) : Calls Try.prog 76 #[.int .u8 14] w fun e w' => e = .returned (.tuple #[.bool (hasD 14), .bool (hasA 14), .bool (hasB 14), .bool (hasN 14)]) ∧ w = w' := by
  go_enter Try.func76, Try.ntmps76
  go_wp2
  exact has_end rfl rfl rfl rfl ⟨rfl, rfl⟩
theorem rhas_any (k : Int) (w : World) (h1 : 1 ≤ k) (h2 : k ≤ 14) : Calls Try.prog 76 #[.int .u8 k] w fun e w' => e = .returned (.tuple #[.bool (hasD k), .bool (hasA k), .bool (hasB k), .bool (hasN k)]) ∧ w = w' := by
  have : k = 1 ∨ k = 2 ∨ k = 3 ∨ k = 4 ∨ k = 5 ∨ k = 6 ∨ k = 7 ∨ k = 8 ∨ k = 9 ∨ k = 10 ∨ k = 11 ∨ k = 12 ∨ k = 13 ∨ k = 14 := by omega
  rcases this with rfl | rfl | rfl | rfl | rfl | rfl | rfl | rfl | rfl | rfl | rfl | rfl | rfl | rfl
  · exact rhas_1 w
  · exact rhas_2 w
  · exact rhas_3 w
  · exact rhas_4 w
  · exact rhas_5 w
  · exact rhas_6 w
  · exact rhas_7 w
  · exact rhas_8 w
  · exact rhas_9 w
  · exact rhas_10 w
  · exact rhas_11 w
  · exact rhas_12 w
  · exact rhas_13 w
  · exact rhas_14 w
set_option maxHeartbeats 3200000 in
set_option maxRecDepth 100000 in
theorem rop_any (o : Opr) (w : World) :
    Calls Try.prog 75 #[.agg #[.int .u8 o.k, .int .i64 o.d, .int .i64 o.a, .int .i64 o.b, .int .i64 o.n]] w fun e w' => e = .returned (.bool (formedP o)) ∧ Below w.heap.size w w' := by
  have hb : BoxAt (w.alloc (.cells (opC o) OpT)) w.heap.size (opC o) OpT := heap_alloc_new w _
  have HF := Lib.hid (show Below w.heap.size w (w.alloc (.cells (opC o) OpT)) from (Below.refl _ _).alloc (Nat.le_refl _) _)
  have e1 : ∀ x : Int, (x == 0) = decide (x = 0) := fun x => by by_cases h : x = 0 <;> simp [h]
  have HE := Lib.hid (show formedP o = (decide (1 ≤ o.k) && decide (o.k ≤ 14) && (regP o.d && regP o.a && regP o.b) && (hasD o.k || (o.d == 0)) && (hasA o.k || (o.a == 0)) && (hasB o.k || (o.b == 0)) && (hasN o.k || (o.n == 0))) from by unfold formedP; simp only [e1])
  clear e1
  obtain ⟨k0, k1, k2, k3, k4⟩ := op_cells hb
  clear hb
  go_enter Try.func75, Try.ntmps75
  go_upto_region 1 with fail
  simp only [opC] at k0 k1 k2 k3 k4 HF
  generalize w.alloc (.cells #[.int .u8 o.k, .int .i64 o.d, .int .i64 o.a, .int .i64 o.b, .int .i64 o.n] OpT) = wb at *
  by_cases h1 : o.k < 1
  · have HK := Lib.hid (show decide (1 ≤ o.k) = false by simp; omega)
    go_wp2_with fail
    go_ret
    exact ⟨ret_bool (by rw [HE.out, HK.out]; rfl), HF.out⟩
  by_cases h2 : 14 < o.k
  · have HK := Lib.hid (show decide (o.k ≤ 14) = false by simp; omega)
    go_wp2_with fail
    go_ret
    exact ⟨ret_bool (by rw [HE.out, HK.out]; simp), HF.out⟩
  have HK1 := Lib.hid (show decide (1 ≤ o.k) = true by simp; omega)
  have HK2 := Lib.hid (show decide (o.k ≤ 14) = true by simp; omega)
  have g1 : 1 ≤ o.k := by omega
  have g2 : o.k ≤ 14 := by omega
  obtain ⟨Rd, hRd⟩ : ∃ R, regP o.d = R := ⟨_, rfl⟩
  have HRd := Lib.hid hRd
  clear hRd
  obtain ⟨Ra, hRa⟩ : ∃ R, regP o.a = R := ⟨_, rfl⟩
  have HRa := Lib.hid hRa
  clear hRa
  obtain ⟨Rb, hRb⟩ : ∃ R, regP o.b = R := ⟨_, rfl⟩
  have HRb := Lib.hid hRb
  clear hRb
  go_wp2_with fail
  refine (rreg_any o.d _ HRd.out).mono ?_
  rintro e w' ⟨rfl, rfl⟩
  cases Rd
  · go_wp2_with fail
    go_ret
    exact ⟨ret_bool (by rw [HE.out, HRd.out]; simp), HF.out⟩
  go_wp2_with fail
  refine (rreg_any o.a _ HRa.out).mono ?_
  rintro e w' ⟨rfl, rfl⟩
  cases Ra
  · go_wp2_with fail
    go_ret
    exact ⟨ret_bool (by rw [HE.out, HRa.out]; simp), HF.out⟩
  go_wp2_with fail
  refine (rreg_any o.b _ HRb.out).mono ?_
  rintro e w' ⟨rfl, rfl⟩
  cases Rb
  · go_wp2_with fail
    go_ret
    exact ⟨ret_bool (by rw [HE.out, HRb.out]; simp), HF.out⟩
  go_wp2_with fail
  refine (rhas_any o.k _ g1 g2).mono ?_
  rintro e w' ⟨rfl, rfl⟩
  cases hp0 : hasD o.k
  · have HP0 := Lib.hid hp0
    clear hp0
    cases hx0 : (o.d == 0)
    · have HX0 := Lib.hid hx0
      go_wp2_with fail
      go_ret
      exact ⟨ret_bool (by rw [HE.out]; simp [HRd.out, HRa.out, HRb.out, HK1.out, HK2.out, HP0.out, HX0.out]), HF.out⟩
    · have HX0 := Lib.hid hx0
      cases hp1 : hasA o.k
      · have HP1 := Lib.hid hp1
        clear hp1
        cases hx1 : (o.a == 0)
        · have HX1 := Lib.hid hx1
          go_wp2_with fail
          go_ret
          exact ⟨ret_bool (by rw [HE.out]; simp [HRd.out, HRa.out, HRb.out, HK1.out, HK2.out, HP0.out, HX0.out, HP1.out, HX1.out]), HF.out⟩
        · have HX1 := Lib.hid hx1
          cases hp2 : hasB o.k
          · have HP2 := Lib.hid hp2
            clear hp2
            cases hx2 : (o.b == 0)
            · have HX2 := Lib.hid hx2
              go_wp2_with fail
              go_ret
              exact ⟨ret_bool (by rw [HE.out]; simp [HRd.out, HRa.out, HRb.out, HK1.out, HK2.out, HP0.out, HX0.out, HP1.out, HX1.out, HP2.out, HX2.out]), HF.out⟩
            · have HX2 := Lib.hid hx2
              cases hp3 : hasN o.k
              · have HP3 := Lib.hid hp3
                clear hp3
                cases hx3 : (o.n == 0)
                · have HX3 := Lib.hid hx3
                  go_wp2_with fail
                  go_ret
                  exact ⟨ret_bool (by rw [HE.out]; simp [HRd.out, HRa.out, HRb.out, HK1.out, HK2.out, HP0.out, HX0.out, HP1.out, HX1.out, HP2.out, HX2.out, HP3.out, HX3.out]), HF.out⟩
                · have HX3 := Lib.hid hx3
                  go_wp2_with fail
                  go_ret
                  exact ⟨ret_bool (by rw [HE.out]; simp [HRd.out, HRa.out, HRb.out, HK1.out, HK2.out, HP0.out, HX0.out, HP1.out, HX1.out, HP2.out, HX2.out, HP3.out, HX3.out]), HF.out⟩
              · have HP3 := Lib.hid hp3
                clear hp3
                go_wp2_with fail
                go_ret
                exact ⟨ret_bool (by rw [HE.out]; simp [HRd.out, HRa.out, HRb.out, HK1.out, HK2.out, HP0.out, HX0.out, HP1.out, HX1.out, HP2.out, HX2.out, HP3.out]), HF.out⟩
          · have HP2 := Lib.hid hp2
            clear hp2
            cases hp3 : hasN o.k
            · have HP3 := Lib.hid hp3
              clear hp3
              cases hx3 : (o.n == 0)
              · have HX3 := Lib.hid hx3
                go_wp2_with fail
                go_ret
                exact ⟨ret_bool (by rw [HE.out]; simp [HRd.out, HRa.out, HRb.out, HK1.out, HK2.out, HP0.out, HX0.out, HP1.out, HX1.out, HP2.out, HP3.out, HX3.out]), HF.out⟩
              · have HX3 := Lib.hid hx3
                go_wp2_with fail
                go_ret
                exact ⟨ret_bool (by rw [HE.out]; simp [HRd.out, HRa.out, HRb.out, HK1.out, HK2.out, HP0.out, HX0.out, HP1.out, HX1.out, HP2.out, HP3.out, HX3.out]), HF.out⟩
            · have HP3 := Lib.hid hp3
              clear hp3
              go_wp2_with fail
              go_ret
              exact ⟨ret_bool (by rw [HE.out]; simp [HRd.out, HRa.out, HRb.out, HK1.out, HK2.out, HP0.out, HX0.out, HP1.out, HX1.out, HP2.out, HP3.out]), HF.out⟩
      · have HP1 := Lib.hid hp1
        clear hp1
        cases hp2 : hasB o.k
        · have HP2 := Lib.hid hp2
          clear hp2
          cases hx2 : (o.b == 0)
          · have HX2 := Lib.hid hx2
            go_wp2_with fail
            go_ret
            exact ⟨ret_bool (by rw [HE.out]; simp [HRd.out, HRa.out, HRb.out, HK1.out, HK2.out, HP0.out, HX0.out, HP1.out, HP2.out, HX2.out]), HF.out⟩
          · have HX2 := Lib.hid hx2
            cases hp3 : hasN o.k
            · have HP3 := Lib.hid hp3
              clear hp3
              cases hx3 : (o.n == 0)
              · have HX3 := Lib.hid hx3
                go_wp2_with fail
                go_ret
                exact ⟨ret_bool (by rw [HE.out]; simp [HRd.out, HRa.out, HRb.out, HK1.out, HK2.out, HP0.out, HX0.out, HP1.out, HP2.out, HX2.out, HP3.out, HX3.out]), HF.out⟩
              · have HX3 := Lib.hid hx3
                go_wp2_with fail
                go_ret
                exact ⟨ret_bool (by rw [HE.out]; simp [HRd.out, HRa.out, HRb.out, HK1.out, HK2.out, HP0.out, HX0.out, HP1.out, HP2.out, HX2.out, HP3.out, HX3.out]), HF.out⟩
            · have HP3 := Lib.hid hp3
              clear hp3
              go_wp2_with fail
              go_ret
              exact ⟨ret_bool (by rw [HE.out]; simp [HRd.out, HRa.out, HRb.out, HK1.out, HK2.out, HP0.out, HX0.out, HP1.out, HP2.out, HX2.out, HP3.out]), HF.out⟩
        · have HP2 := Lib.hid hp2
          clear hp2
          cases hp3 : hasN o.k
          · have HP3 := Lib.hid hp3
            clear hp3
            cases hx3 : (o.n == 0)
            · have HX3 := Lib.hid hx3
              go_wp2_with fail
              go_ret
              exact ⟨ret_bool (by rw [HE.out]; simp [HRd.out, HRa.out, HRb.out, HK1.out, HK2.out, HP0.out, HX0.out, HP1.out, HP2.out, HP3.out, HX3.out]), HF.out⟩
            · have HX3 := Lib.hid hx3
              go_wp2_with fail
              go_ret
              exact ⟨ret_bool (by rw [HE.out]; simp [HRd.out, HRa.out, HRb.out, HK1.out, HK2.out, HP0.out, HX0.out, HP1.out, HP2.out, HP3.out, HX3.out]), HF.out⟩
          · have HP3 := Lib.hid hp3
            clear hp3
            go_wp2_with fail
            go_ret
            exact ⟨ret_bool (by rw [HE.out]; simp [HRd.out, HRa.out, HRb.out, HK1.out, HK2.out, HP0.out, HX0.out, HP1.out, HP2.out, HP3.out]), HF.out⟩
  · have HP0 := Lib.hid hp0
    clear hp0
    cases hp1 : hasA o.k
    · have HP1 := Lib.hid hp1
      clear hp1
      cases hx1 : (o.a == 0)
      · have HX1 := Lib.hid hx1
        go_wp2_with fail
        go_ret
        exact ⟨ret_bool (by rw [HE.out]; simp [HRd.out, HRa.out, HRb.out, HK1.out, HK2.out, HP0.out, HP1.out, HX1.out]), HF.out⟩
      · have HX1 := Lib.hid hx1
        cases hp2 : hasB o.k
        · have HP2 := Lib.hid hp2
          clear hp2
          cases hx2 : (o.b == 0)
          · have HX2 := Lib.hid hx2
            go_wp2_with fail
            go_ret
            exact ⟨ret_bool (by rw [HE.out]; simp [HRd.out, HRa.out, HRb.out, HK1.out, HK2.out, HP0.out, HP1.out, HX1.out, HP2.out, HX2.out]), HF.out⟩
          · have HX2 := Lib.hid hx2
            cases hp3 : hasN o.k
            · have HP3 := Lib.hid hp3
              clear hp3
              cases hx3 : (o.n == 0)
              · have HX3 := Lib.hid hx3
                go_wp2_with fail
                go_ret
                exact ⟨ret_bool (by rw [HE.out]; simp [HRd.out, HRa.out, HRb.out, HK1.out, HK2.out, HP0.out, HP1.out, HX1.out, HP2.out, HX2.out, HP3.out, HX3.out]), HF.out⟩
              · have HX3 := Lib.hid hx3
                go_wp2_with fail
                go_ret
                exact ⟨ret_bool (by rw [HE.out]; simp [HRd.out, HRa.out, HRb.out, HK1.out, HK2.out, HP0.out, HP1.out, HX1.out, HP2.out, HX2.out, HP3.out, HX3.out]), HF.out⟩
            · have HP3 := Lib.hid hp3
              clear hp3
              go_wp2_with fail
              go_ret
              exact ⟨ret_bool (by rw [HE.out]; simp [HRd.out, HRa.out, HRb.out, HK1.out, HK2.out, HP0.out, HP1.out, HX1.out, HP2.out, HX2.out, HP3.out]), HF.out⟩
        · have HP2 := Lib.hid hp2
          clear hp2
          cases hp3 : hasN o.k
          · have HP3 := Lib.hid hp3
            clear hp3
            cases hx3 : (o.n == 0)
            · have HX3 := Lib.hid hx3
              go_wp2_with fail
              go_ret
              exact ⟨ret_bool (by rw [HE.out]; simp [HRd.out, HRa.out, HRb.out, HK1.out, HK2.out, HP0.out, HP1.out, HX1.out, HP2.out, HP3.out, HX3.out]), HF.out⟩
            · have HX3 := Lib.hid hx3
              go_wp2_with fail
              go_ret
              exact ⟨ret_bool (by rw [HE.out]; simp [HRd.out, HRa.out, HRb.out, HK1.out, HK2.out, HP0.out, HP1.out, HX1.out, HP2.out, HP3.out, HX3.out]), HF.out⟩
          · have HP3 := Lib.hid hp3
            clear hp3
            go_wp2_with fail
            go_ret
            exact ⟨ret_bool (by rw [HE.out]; simp [HRd.out, HRa.out, HRb.out, HK1.out, HK2.out, HP0.out, HP1.out, HX1.out, HP2.out, HP3.out]), HF.out⟩
    · have HP1 := Lib.hid hp1
      clear hp1
      cases hp2 : hasB o.k
      · have HP2 := Lib.hid hp2
        clear hp2
        cases hx2 : (o.b == 0)
        · have HX2 := Lib.hid hx2
          go_wp2_with fail
          go_ret
          exact ⟨ret_bool (by rw [HE.out]; simp [HRd.out, HRa.out, HRb.out, HK1.out, HK2.out, HP0.out, HP1.out, HP2.out, HX2.out]), HF.out⟩
        · have HX2 := Lib.hid hx2
          cases hp3 : hasN o.k
          · have HP3 := Lib.hid hp3
            clear hp3
            cases hx3 : (o.n == 0)
            · have HX3 := Lib.hid hx3
              go_wp2_with fail
              go_ret
              exact ⟨ret_bool (by rw [HE.out]; simp [HRd.out, HRa.out, HRb.out, HK1.out, HK2.out, HP0.out, HP1.out, HP2.out, HX2.out, HP3.out, HX3.out]), HF.out⟩
            · have HX3 := Lib.hid hx3
              go_wp2_with fail
              go_ret
              exact ⟨ret_bool (by rw [HE.out]; simp [HRd.out, HRa.out, HRb.out, HK1.out, HK2.out, HP0.out, HP1.out, HP2.out, HX2.out, HP3.out, HX3.out]), HF.out⟩
          · have HP3 := Lib.hid hp3
            clear hp3
            go_wp2_with fail
            go_ret
            exact ⟨ret_bool (by rw [HE.out]; simp [HRd.out, HRa.out, HRb.out, HK1.out, HK2.out, HP0.out, HP1.out, HP2.out, HX2.out, HP3.out]), HF.out⟩
      · have HP2 := Lib.hid hp2
        clear hp2
        cases hp3 : hasN o.k
        · have HP3 := Lib.hid hp3
          clear hp3
          cases hx3 : (o.n == 0)
          · have HX3 := Lib.hid hx3
            go_wp2_with fail
            go_ret
            exact ⟨ret_bool (by rw [HE.out]; simp [HRd.out, HRa.out, HRb.out, HK1.out, HK2.out, HP0.out, HP1.out, HP2.out, HP3.out, HX3.out]), HF.out⟩
          · have HX3 := Lib.hid hx3
            go_wp2_with fail
            go_ret
            exact ⟨ret_bool (by rw [HE.out]; simp [HRd.out, HRa.out, HRb.out, HK1.out, HK2.out, HP0.out, HP1.out, HP2.out, HP3.out, HX3.out]), HF.out⟩
        · have HP3 := Lib.hid hp3
          clear hp3
          go_wp2_with fail
          go_ret
          exact ⟨ret_bool (by rw [HE.out]; simp [HRd.out, HRa.out, HRb.out, HK1.out, HK2.out, HP0.out, HP1.out, HP2.out, HP3.out]), HF.out⟩

theorem mayP_bad {p : List Fnc} {k : Nat} (h : k < p.length) (hb : mayF p[k] = false) : mayP p = false := by
  unfold mayP
  have : p.all mayF = false := by
    rw [List.all_eq_false]
    exact ⟨p[k], List.getElem_mem h, by simp [hb]⟩
  rw [this]; simp
theorem mayF_bad {f : Fnc} {k : Nat} (h : k < f.ops.length) (hb : formedP f.ops[k] = false) : mayF f = false := by
  unfold mayF
  have : f.ops.all formedP = false := by
    rw [List.all_eq_false]
    exact ⟨f.ops[k], List.getElem_mem h, by simp [hb]⟩
  rw [this]; simp
set_option maxHeartbeats 3200000 in
set_option maxRecDepth 100000 in
theorem rmay10_any (pv : Value) (p : List Fnc) (w : World) (hp : ProgAt w pv p) :
    Calls Try.prog 60 #[.agg #[pv]] w fun e w' => e = .returned (.bool (mayP p)) ∧ Below w.heap.size w w' := by
  obtain ⟨pa, pc, rfl⟩ := hp.fns.slice
  have hb : BoxAt (w.alloc (.cells #[.slice pa p.length pc] 24)) w.heap.size #[.slice pa p.length pc] 24 := heap_alloc_new _ _
  have hA : Below w.heap.size w (w.alloc (.cells #[.slice pa p.length pc] 24)) := (Below.refl _ _).alloc (Nat.le_refl _) _
  have H0 := Lib.hid (show Below w.heap.size w (w.alloc (.cells #[.slice pa p.length pc] 24)) ∧ BoxAt (w.alloc (.cells #[.slice pa p.length pc] 24)) w.heap.size #[.slice pa p.length pc] 24 from ⟨hA, hb⟩)
  have HP := Lib.hid hp
  have hpl := hp.len
  clear hp hA hb
  go_enter Try.func60, Try.ntmps60
  go_upto_region 1 with fail
  obtain ⟨pb, hpb⟩ : ∃ pb, w.heap.size = pb := ⟨_, rfl⟩
  generalize w.alloc (.cells #[.slice pa p.length pc] 24) = w1 at *
  have HPB := Lib.hid hpb
  rw [hpb] at H0 ⊢
  clear hpb
  have c0 := H0.out.2.cell 0
  simp only [List.getElem?_toArray, List.getElem?_cons_zero] at c0
  by_cases h16 : 16 < p.length
  · have h1 : 16 < (p.length : Int) := by omega
    have HM := Lib.hid (show mayP p = false by unfold mayP; simp; omega)
    go_wp2_with fail
    go_ret
    exact ⟨ret_bool HM.out.symm, by rw [HPB.out]; exact H0.out.1⟩
  have h1 : ¬ 16 < (p.length : Int) := by omega
  go_wp2_with fail
  clear c0
  go_loopg [3] p.length (fun gk i wr => ∃ k : Nat, gk + k = p.length ∧ i = .int .i64 k ∧ Hid (Below pb w wr ∧ BoxAt wr pb #[.slice pa p.length pc] 24 ∧ ∀ j, (hj : j < p.length) → j < k → mayF p[j] = true))
  case atStart => exact ⟨0, by omega, rfl, H0.out.1, H0.out.2, fun j _ hj => absurd hj (by omega)⟩
  case round =>
    clear H0
    obtain ⟨k, hk, rfl, HW⟩ := hrel
    have c0 := HW.out.2.1.cell 0
    simp only [List.getElem?_toArray, List.getElem?_cons_zero] at c0
    by_cases hlt : k < p.length
    · have HPW := Lib.hid (HP.out.below (show Below w.heap.size w wr from by rw [HPB.out]; exact HW.out.1))
      obtain ⟨b, off, c, he, hb, hc⟩ := HPW.out.fns.at (by omega)
      injection he with he1 he2 he3
      subst he1
      obtain ⟨d0, d1, d2⟩ := fn_at hc hlt
      have HO := Lib.hid (HPW.out.ops _ (List.getElem_mem hlt))
      have HBD := Lib.hid (show mayF p[k] = false → mayP p = false from mayP_bad hlt)
      have HNX := Lib.hid (show mayF p[k] = true → ∀ j, (hj : j < p.length) → j < k + 1 → mayF p[j] = true from fun h j hj hjk => by
        by_cases e : j = k
        · subst e; exact h
        · exact HW.out.2.2 j hj (by omega))
      clear hc hb he2 he3 HPW
      generalize p[k] = f at *
      have hol := HO.out.2
      have hA2 : Below wr.heap.size wr (wr.alloc (.cells (fnC f) FnT)) := (Below.refl _ _).alloc (Nat.le_refl _) _
      have H2 := Lib.hid (show Below pb w (wr.alloc (.cells (fnC f) FnT)) ∧ BoxAt (wr.alloc (.cells (fnC f) FnT)) pb #[.slice (some ⟨b, off, none⟩) p.length pc] 24 ∧ BoxAt (wr.alloc (.cells (fnC f) FnT)) wr.heap.size (fnC f) FnT ∧ OpsAt (wr.alloc (.cells (fnC f) FnT)) f from
        ⟨HW.out.1.trans (hA2.mono (by have := (Array.getElem?_eq_some_iff.1 HW.out.2.1).1; omega)), HW.out.2.1.below hA2, heap_alloc_new _ _, HO.out.below hA2⟩)
      clear hA2 HW HO
      go_upto_region 7 with fail
      simp only [fnC] at H2
      generalize wr.alloc (.cells #[.int .i64 f.args, .int .i64 f.regs, .slice f.oa f.ops.length f.oc] FnT) = w2 at *
      generalize wr.heap.size = fb at *
      have f0 := H2.out.2.2.1.cell 0; have f1 := H2.out.2.2.1.cell 1; have f2 := H2.out.2.2.1.cell 2
      simp only [List.getElem?_toArray, List.getElem?_cons_zero, List.getElem?_cons_succ] at f0 f1 f2
      clear d0 d1 d2 c0
      obtain ⟨R1, hR1⟩ : ∃ R, regP f.args = R := ⟨_, rfl⟩
      obtain ⟨R2, hR2⟩ : ∃ R, regP f.regs = R := ⟨_, rfl⟩
      have HR1 := Lib.hid hR1
      have HR2 := Lib.hid hR2
      have HME := Lib.hid (show mayF f = (R1 && R2 && decide (f.ops.length ≤ 64) && f.ops.all formedP) by unfold mayF; rw [hR1, hR2])
      clear hR1 hR2
      go_wp2_with fail
      refine (rreg_any f.args _ HR1.out).mono ?_
      rintro e w' ⟨rfl, rfl⟩
      cases R1
      · have HB9 := Lib.hid (HBD.out (by rw [HME.out]; rfl))
        go_wp2_with fail
        go_ret
        exact ⟨ret_bool HB9.out.symm, by rw [HPB.out]; exact H2.out.1⟩
      go_wp2_with fail
      refine (rreg_any f.regs _ HR2.out).mono ?_
      rintro e w' ⟨rfl, rfl⟩
      cases R2
      · have HB9 := Lib.hid (HBD.out (by rw [HME.out]; rfl))
        go_wp2_with fail
        go_ret
        exact ⟨ret_bool HB9.out.symm, by rw [HPB.out]; exact H2.out.1⟩
      by_cases h64 : 64 < f.ops.length
      · have g1 : 64 < (f.ops.length : Int) := by omega
        have g2 : decide (64 < (f.ops.length : Int)) = true := decide_eq_true g1
        have HB9 := Lib.hid (HBD.out (by rw [HME.out]; simp; omega))
        go_wp2_with fail
        go_ret
        exact ⟨ret_bool HB9.out.symm, by rw [HPB.out]; exact H2.out.1⟩
      have g1 : ¬ 64 < (f.ops.length : Int) := by omega
      have g2 : decide (64 < (f.ops.length : Int)) = false := decide_eq_false g1
      go_wp2_with fail
      clear f0 f1 f2
      obtain ⟨wo, hwo⟩ : ∃ wo, wo = wr := ⟨_, rfl⟩
      subst hwo
      obtain ⟨gkO, hgkO⟩ : ∃ y, y = gk := ⟨_, rfl⟩
      subst hgkO
      go_loopg [5] f.ops.length (fun gk i wr => ∃ j : Nat, gk + j = f.ops.length ∧ i = .int .i64 j ∧ Hid (Below pb w wr ∧ BoxAt wr pb #[.slice (some ⟨b, off, none⟩) p.length pc] 24 ∧ BoxAt wr fb (fnC f) FnT ∧ OpsAt wr f ∧ ∀ q, (hq : q < f.ops.length) → q < j → formedP f.ops[q] = true))
      case atStart => exact ⟨0, by omega, rfl, H2.out.1, H2.out.2.1, H2.out.2.2.1, H2.out.2.2.2, fun j _ hj => absurd hj (by omega)⟩
      case round =>
        clear H2
        obtain ⟨j, hj, rfl, HI⟩ := hrel
        have f2 := HI.out.2.2.1.cell 2
        simp only [fnC, List.getElem?_toArray, List.getElem?_cons_zero, List.getElem?_cons_succ] at f2
        by_cases hjl : j < f.ops.length
        · obtain ⟨b2, off2, c2', he, hb, hc⟩ := HI.out.2.2.2.1.1.at (by omega)
          injection he with he1 he2 he3
          rw [he1] at f2
          obtain ⟨g0, g1', g2', g3, g4⟩ := op_at hc hjl
          have HBO := Lib.hid (show formedP f.ops[j] = false → mayP p = false from fun h => HBD.out (mayF_bad hjl h))
          have HNO := Lib.hid (show formedP f.ops[j] = true → ∀ q, (hq : q < f.ops.length) → q < j + 1 → formedP f.ops[q] = true from fun h q hq hqj => by
            by_cases e : q = j
            · subst e; exact h
            · exact HI.out.2.2.2.2 q hq (by omega))
          have HHE := Lib.hid he1
          clear hc hb he1 he2 he3
          generalize f.ops[j] = o at *
          go_wp2_with fail
          refine (rop_any o _).mono ?_
          rintro e w5 ⟨rfl, hB⟩
          have hsz : pb ≤ wr.heap.size := by have := (Array.getElem?_eq_some_iff.1 HI.out.2.1).1; omega
          have HI5 := Lib.hid (show Below pb w w5 ∧ BoxAt w5 pb #[.slice (some ⟨b, off, none⟩) p.length pc] 24 ∧ BoxAt w5 fb (fnC f) FnT ∧ OpsAt w5 f from ⟨HI.out.1.trans (hB.mono hsz), HI.out.2.1.below hB, HI.out.2.2.1.below hB, HI.out.2.2.2.1.below hB⟩)
          clear hB hsz g0 g1' g2' g3 g4 f2 HI
          cases hfo : formedP o
          · have HB9 := Lib.hid (HBO.out hfo)
            clear hfo
            go_wp2_with fail
            go_ret
            exact ⟨ret_bool HB9.out.symm, by rw [HPB.out]; exact HI5.out.1⟩
          · have HN9 := Lib.hid (HNO.out hfo)
            clear hfo
            go_wp2_with fail
            go_roundg (gk - 1)
            case rel => exact ⟨j + 1, by omega, by go_num, HI5.out.1, HI5.out.2.1, HI5.out.2.2.1, HI5.out.2.2.2, HN9.out⟩
            case measure => omega
        · have HMF := Lib.hid (show mayF f = true by
            rw [HME.out]
            have h1 : f.ops.all formedP = true := List.all_eq_true.2 fun o ho => by
              obtain ⟨q, hq, rfl⟩ := List.getElem_of_mem ho
              exact HI.out.2.2.2.2 q hq (by omega)
            rw [h1]; simp; omega)
          go_wp2_with fail
          go_roundg (gkO - 1)
          case rel => exact ⟨k + 1, by omega, by go_num, HI.out.1, HI.out.2.1, HNX.out HMF.out⟩
          case measure => omega
    · have HM := Lib.hid (show mayP p = true by
        unfold mayP
        have h1 : p.all mayF = true := List.all_eq_true.2 fun f hf => by
          obtain ⟨q, hq, rfl⟩ := List.getElem_of_mem hf
          exact HW.out.2.2 q hq (by omega)
        rw [h1]; simp; omega)
      go_wp2_with fail
      go_ret
      exact ⟨ret_bool HM.out.symm, by rw [HPB.out]; exact HW.out.1⟩
end Go.Proofs.Ytdhbjejejeljoaa
