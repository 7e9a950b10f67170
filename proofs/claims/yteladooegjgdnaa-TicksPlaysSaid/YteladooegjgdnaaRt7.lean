/- The document's Timers: All. -/
import Derived.Test.YteladooegjgdnaaRt4
import Derived.Test.YteladooegjgdnaaAll1
namespace Go.Proofs.Yteladooegjgdnaa
open Go.RowKit Go.Sort Go.Lib

def lessK (x y : Tm) : Bool := Op.bytesLess x.k.toList y.k.toList
theorem lessK_le {x y : Tm} (h : lessK x y = true) : leK x y = true := by
  rw [leK_iff]; unfold cmpK cmpS; unfold lessK at h; rw [h]; simp
theorem lessK_not {x y : Tm} (h : lessK x y = false) : leK y x = true := by
  rw [leK_iff, cmpK_neg]; unfold cmpK cmpS; unfold lessK at h; rw [h]
  simp only [Bool.false_eq_true, if_false]
  split <;> omega
theorem leK_trans {x y z : Tm} (h : leK x y = true) (k : leK y z = true) : leK x z = true := by rw [leK_iff] at *; exact cmpK_trans h k
theorem ins_sorted {W : List Tm} {x : Tm} {j : Nat} (hs : W.Pairwise (fun a b => leK a b = true)) (hj : j ≤ W.length) (hl : ∀ q (hq : q < W.length), q < j → lessK W[q] x = true) (hst : j = W.length ∨ ∃ hq : j < W.length, lessK W[j] x = false) :
    (W.take j ++ ([x] ++ W.drop j)).Pairwise (fun a b => leK a b = true) := by
  have hs2 := hs
  rw [← List.take_append_drop j W, List.pairwise_append] at hs2
  obtain ⟨h1, h2, h3⟩ := hs2
  have hx : ∀ a ∈ W.take j, leK a x = true := fun a ha => by
    obtain ⟨q, hq, e⟩ := List.mem_iff_getElem.1 ha
    rw [List.length_take] at hq
    rw [List.getElem_take] at e
    rw [← e]
    exact lessK_le (hl q (by omega) (by omega))
  have hy : ∀ b ∈ W.drop j, leK x b = true := fun b hb => by
    rcases hst with e | ⟨hq, e⟩
    · rw [e, List.drop_length] at hb; simp at hb
    · have h4 := lessK_not e
      rw [List.drop_eq_getElem_cons hq] at hb h2
      rcases List.mem_cons.1 hb with e | e
      · rw [e]; exact h4
      · exact leK_trans h4 ((List.pairwise_cons.1 h2).1 b e)
  rw [List.pairwise_append]
  refine ⟨h1, List.pairwise_cons.2 ⟨hy, h2⟩, fun a ha b hb => ?_⟩
  rcases List.mem_cons.1 hb with e | e
  · rw [e]; exact hx a ha
  · exact h3 a ha b e
set_option maxHeartbeats 12800000 in
set_option maxRecDepth 100000 in
theorem rall_any {Z r : Nat} {lv : Value} {L : List Tm} {clock : Int} {w : World} (h : Rms Z r lv L clock w) :
    Calls Try.prog 23 #[TP r] w fun e w' => ∃ v, e = .returned v ∧ w'.ownsRow w.heap.size TmT 2 v (keyL L).length ((keyL L).flatMap encT) ∧ Below w.heap.size w w' := by
  obtain ⟨l, hq, hp, hs, hd, hll⟩ := h
  have HP := Lib.hid hp
  have HND := Lib.hid hd
  have hlen := hp.length_eq
  obtain ⟨N, hN⟩ : ∃ N, l.length = N := ⟨_, rfl⟩
  have hN1 : N ≤ 1024 := by omega
  obtain ⟨la, lc, hlv⟩ := own_slice hq.own
  have H0 := Lib.hid hq
  have HLV := Lib.hid hlv
  clear hq hp hs hd hlen hll hlv
  have HN := Lib.hid hN
  go_enter Try.func23, Try.ntmps23
  go_wp2_with fail
  go_loopg [3, 4] N (fun gk t3 t4 wr => ∃ (k : Nat) (oa : Option Addr) (on oc : Nat) (Wo : List Tm), gk + k = N ∧ t4 = .int .i64 k ∧ t3 = .slice oa on oc ∧ Wo.length = on ∧ Hid (wr.ownsRow w.heap.size TmT 2 (.slice oa on oc) Wo.length (Wo.flatMap encT) ∧ Below w.heap.size w wr ∧ Wo.Perm (l.take k) ∧ Wo.Pairwise (fun a b => leK a b = true)))
  case atStart => exact ⟨0, none, 0, 0, [], by omega, rfl, rfl, rfl, World.ownsRow_nil _ _ _ _, Below.refl _ _, by simp, .nil⟩
  case round =>
    obtain ⟨k, oa, on, oc, Wo, hkk, rfl, rfl, hon, HR⟩ := hrel
    have HON := Lib.hid hon
    clear hon
    have y1 := (H0.out.below HR.out.2.1).cell.2
    rw [HLV.out, hN] at y1
    by_cases hlt : k < N
    · have hkl : k < l.length := by omega
      obtain ⟨g, cap, e, c0, c1⟩ := (H0.out.below HR.out.2.1).at hkl
      rw [HLV.out] at e
      injection e with e1 _ e3
      subst e1
      clear e3
      have hgk : gT l k = l[k] := by unfold gT; rw [List.getD_eq_getElem?_getD, List.getElem?_eq_getElem hkl]; rfl
      obtain ⟨x, hx⟩ : ∃ x, gT l k = x := ⟨_, rfl⟩
      rw [← hgk, hx] at c0 c1
      have HX := Lib.hid hx
      have HKL := Lib.hid hkl
      have hwk : Wo.length = k := by rw [HR.out.2.2.1.length_eq, List.length_take]; omega
      have hok : on = k := by rw [← HON.out]; exact hwk
      have HLO := Lib.hid (show on + 1 ≤ 1024 by omega)
      have hon2 : on ≤ 1024 := by omega
      have y1O := Lib.hid y1
      have c0O := Lib.hid c0
      have c1O := Lib.hid c1
      clear hgk hx hwk hN hok
      go_upto_region 6 with fail
      obtain ⟨wo, rfl⟩ : ∃ t, t = wr := ⟨_, rfl⟩
      obtain ⟨go0, rfl⟩ : ∃ t, t = gk := ⟨_, rfl⟩
      go_loopg [5] on (fun gj t5 wi => ∃ j : Nat, gj + j = on ∧ t5 = .int .i64 j ∧ Hid (Below wo.heap.size wo wi ∧ ∀ q (hq : q < Wo.length), q < j → lessK Wo[q] x = true))
      case atStart => exact ⟨0, by omega, rfl, Below.refl _ _, fun q _ hq => absurd hq (by omega)⟩
      case round =>
        obtain ⟨j, hjj, rfl, HI⟩ := hrel
        obtain ⟨wi, rfl⟩ : ∃ t, t = wr := ⟨_, rfl⟩
        have HLE := Lib.hid HI.out.2
        replace y1 := (HI.out.1.cell (p := ⟨r, 1, none⟩) (World.block_lt_of_cell? _ _ y1O.out)).trans y1O.out
        replace c0 := (HI.out.1.cell (p := ⟨g, k * 2, none⟩) (World.block_lt_of_cell? _ _ c0O.out)).trans c0O.out
        replace c1 := (HI.out.1.cell (p := ⟨g, k * 2 + 1, none⟩) (World.block_lt_of_cell? _ _ c1O.out)).trans c1O.out
        by_cases hjo : j < on
        · have hjw : j < Wo.length := by rw [HON.out]; exact hjo
          have hro := own_far HR.out.1 (w' := wi) (fun q hq => HI.out.1.block q (HR.out.1.lt q hq).2)
          obtain ⟨go, hgo⟩ : ∃ go, oa = some ⟨go, 0, none⟩ := by
            obtain ⟨_, ⟨hv, h0⟩ | ⟨go, c', cur, hv, _⟩⟩ := hro
            · omega
            · injection hv with e1 _ _
              exact ⟨go, e1⟩
          subst hgo
          rw [HON.out] at hro
          obtain ⟨o0, o1⟩ := tm_at hro HON.out hjw
          cases hb : lessK Wo[j] x
          · have HSTP := Lib.hid (show j = Wo.length ∨ ∃ hq : j < Wo.length, lessK Wo[j] x = false from .inr ⟨hjw, hb⟩)
            unfold lessK at hb
            generalize hz : Wo[j] = z at o0 o1 hb
            clear hro hz
            go_upto_region 6 with fail
            go_quiet (fail)
            clear o0 o1 hb
            have hBd : Below wo.heap.size wo (wi.drewN nq) := HI.out.1.trans ((below_drewN (Below.refl _ _) nq).mono HI.out.1.size)
            have HBD := Lib.hid hBd
            have hroD := own_far HR.out.1 (w' := (wi.drewN nq)) (fun q hq => hBd.block q (HR.out.1.lt q hq).2)
            replace y1 := (hBd.cell (p := ⟨r, 1, none⟩) (World.block_lt_of_cell? _ _ y1O.out)).trans y1O.out
            replace c0 := (hBd.cell (p := ⟨g, k * 2, none⟩) (World.block_lt_of_cell? _ _ c0O.out)).trans c0O.out
            replace c1 := (hBd.cell (p := ⟨g, k * 2 + 1, none⟩) (World.block_lt_of_cell? _ _ c1O.out)).trans c1O.out
            clear hBd HI
            obtain ⟨wd, hwd⟩ : ∃ t, (wi.drewN nq) = t := ⟨_, rfl⟩
            rw [hwd] at HBD hroD y1 c0 c1 ⊢
            clear hwd
            have hszd := HBD.out.size
            have hon := own_cap (n := on) (by rw [HON.out] at hroD; exact hroD)
            have hso := run_first (a := (some ⟨go, 0, none⟩)) (N := on) (n := j) (cap := oc) (by omega)
            have hrd : ReadsK encT 2 wd (.slice (some ⟨go, 0, none⟩) on oc) Wo := readsT_own hroD rfl
            have hru := readsT_take hrd j (by rw [HON.out]; omega) oc
            obtain ⟨v1, w1, hap1, ho1, hg1⟩ := run_appK (P := Try.prog) (α := Tm) (enc := encT) (k := 2) (bytes := 24) (E := TmT) (t := 33) (z := .agg #[.string ⟨#[]⟩, .int .i64 0]) Try.underlying33 info_tm rfl (by decide) (fun _ => rfl) (by intro y v hv; simp [encT] at hv; rcases hv with rfl | rfl <;> rfl) (w := wd) (B := wo.heap.size) (v := .slice none 0 0) (xs := []) 33 (World.ownsRow_nil _ _ _ _) hru (by have := HLO.out; simp [HON.out]; omega) (by decide) hszd
            simp only [List.nil_append] at ho1
            have hB1 : Below wd.heap.size wd w1 := ⟨hg1.os, hg1.tape, hg1.output, hg1.size, fun q hq => hg1.block q hq (fun e => by cases e)⟩
            obtain ⟨a1, d1, hv1⟩ := own_slice ho1
            subst hv1
            have hlt : (Wo.take j).length = j := by rw [List.length_take, HON.out]; omega
            rw [hlt] at ho1 hap1
            have hro1 := own_below hroD hB1
            have z1 := (hB1.cell (p := ⟨r, 1, none⟩) (World.block_lt_of_cell? _ _ y1)).trans y1
            have z2 := (hB1.cell (p := ⟨g, k * 2, none⟩) (World.block_lt_of_cell? _ _ c0)).trans c0
            have z3 := (hB1.cell (p := ⟨g, k * 2 + 1, none⟩) (World.block_lt_of_cell? _ _ c1)).trans c1
            obtain ⟨ig, hig, hg0, hg1', hg2⟩ := info_parts info_tm
            have hA3 : Below w1.heap.size w1 (w1.alloc (.cells #[.string x.k, .int .i64 x.a] TmT)) := alT w1 _
            have hsz1 := hB1.size
            obtain ⟨g7, c7, w7, hap, hown7, hgrow, hat, _⟩ := run_append_lies (P := Try.prog) (w1.alloc (.cells #[.string x.k, .int .i64 x.a] TmT)) 33 33 wo.heap.size TmT ig (.agg #[.string ⟨#[]⟩, .int .i64 0]) 2 24 Try.underlying33 hig hg0 hg1' hg2 rfl (by decide) (.slice a1 j d1) j ((Wo.take j).flatMap encT) (own_below ho1 hA3) ⟨w1.heap.size, 0, none⟩ 1 1 (encT x) rfl (one_tm w1 x) (by intro v hv; simp [encT] at hv; rcases hv with rfl | rfl <;> rfl) (by decide) (by have := HLO.out; unfold maxLen; omega) (by have := HLO.out; omega) (by simp; omega) _ rfl
            have hF7 := grow_fr' hA3 hgrow
            have hro7 : w7.ownsRow w.heap.size TmT 2 (.slice (some ⟨go, 0, none⟩) on oc) on (Wo.flatMap encT) := own_fr (by rw [HON.out] at hro1; exact hro1) hF7 (fun q hq hs => by
              have h1 := own_low ho1 q hs
              have h2 := (HR.out.1.lt q hq).2
              omega)
            have hrd7 : ReadsK encT 2 w7 (.slice (some ⟨go, 0, none⟩) on oc) Wo := readsT_own hro7 HON.out
            obtain ⟨lv9, hs9, hr9⟩ := run_last (a := (some ⟨go, 0, none⟩)) (cap := oc) (n := j) (l := Wo) (by rw [HON.out]; exact hrd7) (by rw [HON.out]; omega) (by rw [HON.out]; exact hon)
            rw [HON.out] at hs9
            have hx7 : w7.ownsRow wo.heap.size TmT 2 (.slice (some ⟨g7, 0, none⟩) (j + 1) c7) (Wo.take j ++ [x]).length ((Wo.take j ++ [x]).flatMap encT) := by
              have e : (Wo.take j ++ [x]).length = j + 1 := by rw [List.length_append, hlt]; rfl
              rw [e]; simpa [List.flatMap_append] using hown7
            obtain ⟨v9, w9, hap9, ho9, hg9⟩ := run_appK (P := Try.prog) (α := Tm) (enc := encT) (k := 2) (bytes := 24) (E := TmT) (t := 33) (z := .agg #[.string ⟨#[]⟩, .int .i64 0]) Try.underlying33 info_tm rfl (by decide) (fun _ => rfl) (by intro y v hv; simp [encT] at hv; rcases hv with rfl | rfl <;> rfl) (w := w7) (B := wo.heap.size) (xs := Wo.take j ++ [x]) 33 hx7 hr9 (by have := HLO.out; simp [HON.out]; omega) (by decide) (by have := hF7.size; omega)
            obtain ⟨a9, d9, hv9⟩ := own_slice ho9
            subst hv9
            have hll : (Wo.take j ++ [x] ++ Wo.drop j).length = on + 1 := by simp [HON.out]; omega
            rw [hll] at ho9 hap9
            have hF9 : Fr (fun q => wo.heap.size ≤ q) wd w9 := by
              refine ((Fr.of_below hB1).trans (hF7.mono fun q hq => own_low ho1 q hq)).trans ⟨hg9.os, hg9.tape, hg9.output, hg9.size, fun q hq hs => hg9.block q hq (fun e => hs ?_)⟩
              exact own_low hown7 q e.symm
            have HN9 := Lib.hid (show w9.ownsRow w.heap.size TmT 2 (.slice a9 (on + 1) d9) (Wo.take j ++ [x] ++ Wo.drop j).length ((Wo.take j ++ [x] ++ Wo.drop j).flatMap encT) ∧ Below w.heap.size w w9 from by
              have h1 := HR.out.2.1.size
              refine ⟨owns_monoG (by rw [hll]; exact ho9) h1, HR.out.2.1.trans ?_⟩
              exact (HBD.out.mono h1).trans (hF9.below (fun q hq => by omega) (by omega))
              )
            have HNW := Lib.hid (show (Wo.take j ++ [x] ++ Wo.drop j).Perm (l.take (k + 1)) ∧ (Wo.take j ++ [x] ++ Wo.drop j).Pairwise (fun a b => leK a b = true) from ⟨by
              rw [take_gT HKL.out, HX.out]
              refine List.Perm.trans ?_ (HR.out.2.2.1.append_right [x])
              rw [List.append_assoc]
              refine (List.perm_middle (l₁ := Wo.take j) (a := x) (l₂ := Wo.drop j)).trans ?_
              rw [List.take_append_drop]
              exact List.perm_append_comm (l₁ := [x]), by
              rw [List.append_assoc]
              exact ins_sorted HR.out.2.2.2 (by rw [HON.out]; omega) HLE.out HSTP.out⟩)
            obtain ⟨on9, hon9⟩ : ∃ n, on + 1 = n := ⟨_, rfl⟩
            rw [hon9] at hap9 HN9 hll
            have HL9 := Lib.hid hll
            clear hru ho1 hg1 hB1 hro1 hrd hroD hF7 hro7 hrd7 hr9 hx7 ho9 hg9 hF9 hll hown7 hgrow hat hig hg0 hg1' hg2 hA3 hlt hon9 HBD
            clear hszd hsz1 hon2 HLE
            go_upto_region 10 with (at_builtin; refine wpList_arunC rfl _ _ _ _ rfl rfl rfl hap1 ?_)
            clear hap1 hso
            go_upto_region 11 with (at_builtin; refine wpList_arunC rfl _ _ _ _ rfl rfl rfl hap ?_)
            clear hap z1 z2 z3
            go_wp2_with (at_builtin; refine wpList_arunC rfl _ _ _ _ rfl rfl rfl hap9 ?_)
            go_roundg (go0 - 1)
            case rel => exact ⟨k + 1, a9, on9, d9, _, by omega, by go_num, rfl, HL9.out, HN9.out.1, HN9.out.2, HNW.out.1, HNW.out.2⟩
            case measure => omega
          · have HLE2 := Lib.hid (show ∀ q (hq : q < Wo.length), q < j + 1 → lessK Wo[q] x = true from fun q hq hqj => by
              by_cases e : q = j
              · subst e; exact hb
              · exact HLE.out q hq (by omega))
            unfold lessK at hb
            generalize hz : Wo[j] = z at o0 o1 hb
            clear hro hz
            go_upto_region 6 with fail
            go_quiet (fail)
            have HB2 := Lib.hid (HI.out.1.trans ((below_drewN (Below.refl wi.heap.size wi) nq).mono HI.out.1.size))
            clear HI HLE y1 c0 c1 o0 o1
            go_wp2_with fail
            go_roundg (gk - 1)
            case rel => exact ⟨j + 1, by omega, by go_num, HB2.out, HLE2.out⟩
            case measure => omega
        · have HSTP := Lib.hid (show j = Wo.length ∨ ∃ hq : j < Wo.length, lessK Wo[j] x = false from .inl (by rw [HON.out]; omega))
          go_upto_region 6 with fail
          go_quiet (fail)
          have hBd : Below wo.heap.size wo (wi.drewN nq) := HI.out.1.trans ((below_drewN (Below.refl _ _) nq).mono HI.out.1.size)
          have HBD := Lib.hid hBd
          have hroD := own_far HR.out.1 (w' := (wi.drewN nq)) (fun q hq => hBd.block q (HR.out.1.lt q hq).2)
          replace y1 := (hBd.cell (p := ⟨r, 1, none⟩) (World.block_lt_of_cell? _ _ y1O.out)).trans y1O.out
          replace c0 := (hBd.cell (p := ⟨g, k * 2, none⟩) (World.block_lt_of_cell? _ _ c0O.out)).trans c0O.out
          replace c1 := (hBd.cell (p := ⟨g, k * 2 + 1, none⟩) (World.block_lt_of_cell? _ _ c1O.out)).trans c1O.out
          clear hBd HI
          obtain ⟨wd, hwd⟩ : ∃ t, (wi.drewN nq) = t := ⟨_, rfl⟩
          rw [hwd] at HBD hroD y1 c0 c1 ⊢
          clear hwd
          have hszd := HBD.out.size
          have hon := own_cap (n := on) (by rw [HON.out] at hroD; exact hroD)
          have hso := run_first (a := oa) (N := on) (n := j) (cap := oc) (by omega)
          have hrd : ReadsK encT 2 wd (.slice oa on oc) Wo := readsT_own hroD rfl
          have hru := readsT_take hrd j (by rw [HON.out]; omega) oc
          obtain ⟨v1, w1, hap1, ho1, hg1⟩ := run_appK (P := Try.prog) (α := Tm) (enc := encT) (k := 2) (bytes := 24) (E := TmT) (t := 33) (z := .agg #[.string ⟨#[]⟩, .int .i64 0]) Try.underlying33 info_tm rfl (by decide) (fun _ => rfl) (by intro y v hv; simp [encT] at hv; rcases hv with rfl | rfl <;> rfl) (w := wd) (B := wo.heap.size) (v := .slice none 0 0) (xs := []) 33 (World.ownsRow_nil _ _ _ _) hru (by have := HLO.out; simp [HON.out]; omega) (by decide) hszd
          simp only [List.nil_append] at ho1
          have hB1 : Below wd.heap.size wd w1 := ⟨hg1.os, hg1.tape, hg1.output, hg1.size, fun q hq => hg1.block q hq (fun e => by cases e)⟩
          obtain ⟨a1, d1, hv1⟩ := own_slice ho1
          subst hv1
          have hlt : (Wo.take j).length = j := by rw [List.length_take, HON.out]; omega
          rw [hlt] at ho1 hap1
          have hro1 := own_below hroD hB1
          have z1 := (hB1.cell (p := ⟨r, 1, none⟩) (World.block_lt_of_cell? _ _ y1)).trans y1
          have z2 := (hB1.cell (p := ⟨g, k * 2, none⟩) (World.block_lt_of_cell? _ _ c0)).trans c0
          have z3 := (hB1.cell (p := ⟨g, k * 2 + 1, none⟩) (World.block_lt_of_cell? _ _ c1)).trans c1
          obtain ⟨ig, hig, hg0, hg1', hg2⟩ := info_parts info_tm
          have hA3 : Below w1.heap.size w1 (w1.alloc (.cells #[.string x.k, .int .i64 x.a] TmT)) := alT w1 _
          have hsz1 := hB1.size
          obtain ⟨g7, c7, w7, hap, hown7, hgrow, hat, _⟩ := run_append_lies (P := Try.prog) (w1.alloc (.cells #[.string x.k, .int .i64 x.a] TmT)) 33 33 wo.heap.size TmT ig (.agg #[.string ⟨#[]⟩, .int .i64 0]) 2 24 Try.underlying33 hig hg0 hg1' hg2 rfl (by decide) (.slice a1 j d1) j ((Wo.take j).flatMap encT) (own_below ho1 hA3) ⟨w1.heap.size, 0, none⟩ 1 1 (encT x) rfl (one_tm w1 x) (by intro v hv; simp [encT] at hv; rcases hv with rfl | rfl <;> rfl) (by decide) (by have := HLO.out; unfold maxLen; omega) (by have := HLO.out; omega) (by simp; omega) _ rfl
          have hF7 := grow_fr' hA3 hgrow
          have hro7 : w7.ownsRow w.heap.size TmT 2 (.slice oa on oc) on (Wo.flatMap encT) := own_fr (by rw [HON.out] at hro1; exact hro1) hF7 (fun q hq hs => by
            have h1 := own_low ho1 q hs
            have h2 := (HR.out.1.lt q hq).2
            omega)
          have hrd7 : ReadsK encT 2 w7 (.slice oa on oc) Wo := readsT_own hro7 HON.out
          obtain ⟨lv9, hs9, hr9⟩ := run_last (a := oa) (cap := oc) (n := j) (l := Wo) (by rw [HON.out]; exact hrd7) (by rw [HON.out]; omega) (by rw [HON.out]; exact hon)
          rw [HON.out] at hs9
          have hx7 : w7.ownsRow wo.heap.size TmT 2 (.slice (some ⟨g7, 0, none⟩) (j + 1) c7) (Wo.take j ++ [x]).length ((Wo.take j ++ [x]).flatMap encT) := by
            have e : (Wo.take j ++ [x]).length = j + 1 := by rw [List.length_append, hlt]; rfl
            rw [e]; simpa [List.flatMap_append] using hown7
          obtain ⟨v9, w9, hap9, ho9, hg9⟩ := run_appK (P := Try.prog) (α := Tm) (enc := encT) (k := 2) (bytes := 24) (E := TmT) (t := 33) (z := .agg #[.string ⟨#[]⟩, .int .i64 0]) Try.underlying33 info_tm rfl (by decide) (fun _ => rfl) (by intro y v hv; simp [encT] at hv; rcases hv with rfl | rfl <;> rfl) (w := w7) (B := wo.heap.size) (xs := Wo.take j ++ [x]) 33 hx7 hr9 (by have := HLO.out; simp [HON.out]; omega) (by decide) (by have := hF7.size; omega)
          obtain ⟨a9, d9, hv9⟩ := own_slice ho9
          subst hv9
          have hll : (Wo.take j ++ [x] ++ Wo.drop j).length = on + 1 := by simp [HON.out]; omega
          rw [hll] at ho9 hap9
          have hF9 : Fr (fun q => wo.heap.size ≤ q) wd w9 := by
            refine ((Fr.of_below hB1).trans (hF7.mono fun q hq => own_low ho1 q hq)).trans ⟨hg9.os, hg9.tape, hg9.output, hg9.size, fun q hq hs => hg9.block q hq (fun e => hs ?_)⟩
            exact own_low hown7 q e.symm
          have HN9 := Lib.hid (show w9.ownsRow w.heap.size TmT 2 (.slice a9 (on + 1) d9) (Wo.take j ++ [x] ++ Wo.drop j).length ((Wo.take j ++ [x] ++ Wo.drop j).flatMap encT) ∧ Below w.heap.size w w9 from by
            have h1 := HR.out.2.1.size
            refine ⟨owns_monoG (by rw [hll]; exact ho9) h1, HR.out.2.1.trans ?_⟩
            exact (HBD.out.mono h1).trans (hF9.below (fun q hq => by omega) (by omega))
            )
          have HNW := Lib.hid (show (Wo.take j ++ [x] ++ Wo.drop j).Perm (l.take (k + 1)) ∧ (Wo.take j ++ [x] ++ Wo.drop j).Pairwise (fun a b => leK a b = true) from ⟨by
            rw [take_gT HKL.out, HX.out]
            refine List.Perm.trans ?_ (HR.out.2.2.1.append_right [x])
            rw [List.append_assoc]
            refine (List.perm_middle (l₁ := Wo.take j) (a := x) (l₂ := Wo.drop j)).trans ?_
            rw [List.take_append_drop]
            exact List.perm_append_comm (l₁ := [x]), by
            rw [List.append_assoc]
            exact ins_sorted HR.out.2.2.2 (by rw [HON.out]; omega) HLE.out HSTP.out⟩)
          obtain ⟨on9, hon9⟩ : ∃ n, on + 1 = n := ⟨_, rfl⟩
          rw [hon9] at hap9 HN9 hll
          have HL9 := Lib.hid hll
          clear hru ho1 hg1 hB1 hro1 hrd hroD hF7 hro7 hrd7 hr9 hx7 ho9 hg9 hF9 hll hown7 hgrow hat hig hg0 hg1' hg2 hA3 hlt hon9 HBD
          clear hszd hsz1 hon2 HLE
          go_upto_region 10 with (at_builtin; refine wpList_arunC rfl _ _ _ _ rfl rfl rfl hap1 ?_)
          clear hap1 hso
          go_upto_region 11 with (at_builtin; refine wpList_arunC rfl _ _ _ _ rfl rfl rfl hap ?_)
          clear hap z1 z2 z3
          go_wp2_with (at_builtin; refine wpList_arunC rfl _ _ _ _ rfl rfl rfl hap9 ?_)
          go_roundg (go0 - 1)
          case rel => exact ⟨k + 1, a9, on9, d9, _, by omega, by go_num, rfl, HL9.out, HN9.out.1, HN9.out.2, HNW.out.1, HNW.out.2⟩
          case measure => omega
    · have hke : k = l.length := by omega
      have HF := Lib.hid (show keyL L = Wo from keyL_unique HND.out (by
        have := HR.out.2.2.1
        rw [hke, List.take_length] at this
        exact this.trans HP.out) HR.out.2.2.2)
      clear hN hke
      go_wp2_with fail
      go_ret
      exact ⟨_, rfl, by rw [HF.out]; exact HR.out.1, HR.out.2.1⟩
end Go.Proofs.Yteladooegjgdnaa
