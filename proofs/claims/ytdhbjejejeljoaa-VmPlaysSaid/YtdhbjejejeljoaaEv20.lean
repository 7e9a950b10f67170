/- Contracts: thresherref11.May, thresherref11.Input. -/
import Derived.Test.YtdhbjejejeljoaaEv19
import Derived.Test.YtdhbjejejeljoaaEv8
namespace Go.Proofs.Ytdhbjejejeljoaa
open Go.RowKit

theorem may3_end {wz : World} {tmps : Array Value} {a b c : Int} {R : Ending → World → Prop}
    (h2 : tmps.getD 2 undef = .int .i64 a) (h3 : tmps.getD 3 undef = .int .i64 b) (h4 : tmps.getD 4 undef = .int .i64 c) (hR : R (.returned (.tuple #[.int .i64 a, .int .i64 b, .int .i64 c])) wz) :
    bodyPost Try.prog Try.f39 R Exit.ret { tmps := tmps, defers := [] } wz := by
  refine bodyPost_ret (v := .tuple #[.int .i64 a, .int .i64 b, .int .i64 c]) ?_ rfl hR
  have h2' : tmps[2]?.getD undef = .int .i64 a := by simpa using h2
  have h3' : tmps[3]?.getD undef = .int .i64 b := by simpa using h3
  have h4' : tmps[4]?.getD undef = .int .i64 c := by simpa using h4
  simp [results, Try.results39, go_sem, h2', h3', h4']
def RMayP (w0 : World) (p : List Fnc) (e : Ending) (w' : World) : Prop := ∃ fn op, e = .returned (.tuple #[.int .i64 (progE p), .int .i64 fn, .int .i64 op]) ∧ Below w0.heap.size w0 w'
theorem RMayP.mk {w0 : World} {p : List Fnc} {w' : World} {e fn op : Int} (h : progE p = e) (hB : BelowW w0 w') : RMayP w0 p (.returned (.tuple #[.int .i64 e, .int .i64 fn, .int .i64 op])) w' := ⟨fn, op, by rw [h], hB⟩
set_option maxHeartbeats 6400000 in
set_option maxRecDepth 100000 in
theorem rmay11_any (pv : Value) (p : List Fnc) (w : World) (hp : ProgAt w pv p) :
    Calls Try.prog 39 #[.agg #[pv]] w (RMayP w p) := by
  obtain ⟨pa, pc, rfl⟩ := hp.fns.slice
  have hA1 : Below w.heap.size w (w.alloc (.cells #[.slice pa p.length pc] 24)) := (Below.refl _ _).alloc (Nat.le_refl _) _
  have b1 : BoxAt (w.alloc (.cells #[.slice pa p.length pc] 24)) w.heap.size #[.slice pa p.length pc] 24 := heap_alloc_new _ _
  have H0 := Lib.hid (show BelowW w (w.alloc (.cells #[.slice pa p.length pc] 24)) ∧ BoxAt (w.alloc (.cells #[.slice pa p.length pc] 24)) w.heap.size #[.slice pa p.length pc] 24 from ⟨hA1, b1⟩)
  have HP := Lib.hid hp
  have hpl := hp.len
  clear hp hA1 b1
  go_enter Try.func39, Try.ntmps39
  go_upto_region 1 with fail
  generalize w.alloc (.cells #[.slice pa p.length pc] 24) = w1 at *
  generalize w.heap.size = s at *
  have c0 := H0.out.2.cell 0
  simp only [List.getElem?_toArray, List.getElem?_cons_zero] at c0
  cases hm : mayP p
  · have HM := Lib.hid hm
    go_wp2_with fail
    refine (rmay10_any _ p w1 (HP.out.below H0.out.1)).mono ?_
    rintro e w2 ⟨rfl, hB⟩
    rw [HM.out]
    have H1 := Lib.hid (show BelowW w w2 from gthen H0.out.1 hB)
    clear hB hm c0
    go_wp2_with fail
    exact may3_end rfl rfl rfl (.mk (by unfold progE; rw [HM.out]; rfl) H1.out)
  have HM := Lib.hid hm
  clear hm
  go_wp2_with fail
  refine (rmay10_any _ p w1 (HP.out.below H0.out.1)).mono ?_
  rintro e w2 ⟨rfl, hB⟩
  rw [HM.out]
  have H1 := Lib.hid (show BelowW w w2 ∧ BoxAt w2 s #[.slice pa p.length pc] 24 from ⟨gthen H0.out.1 hB, H0.out.2.below hB⟩)
  clear hB c0 H0
  have c0 := H1.out.2.cell 0
  simp only [List.getElem?_toArray, List.getElem?_cons_zero] at c0
  by_cases h0 : p.length = 0
  · have hl0 : ((p.length : Int) == 0) = true := by simp [h0]
    have H00 := Lib.hid h0
    clear h0
    go_wp2_with fail
    exact may3_end rfl rfl rfl (.mk (by unfold progE; rw [HM.out, if_neg (by simp), if_pos H00.out]) H1.out.1)
  have hl0 : ((p.length : Int) == 0) = false := by simp [h0]
  have H00 := Lib.hid h0
  clear h0
  go_wp2_with fail
  clear c0 hl0
  go_loopg [5] p.length (fun gk i wr => ∃ k : Nat, gk + k = p.length ∧ i = .int .i64 k ∧ Hid (BelowW w wr ∧ BoxAt wr s #[.slice pa p.length pc] 24) ∧ Hid (∀ j, (hj : j < p.length) → j < k → funE p p[j] = 0))
  case atStart => exact ⟨0, by omega, rfl, H1, fun j _ hj => absurd hj (by omega)⟩
  case round =>
    clear H1
    obtain ⟨k, hk, rfl, HW, HZ⟩ := hrel
    have c0 := HW.out.2.cell 0
    simp only [List.getElem?_toArray, List.getElem?_cons_zero] at c0
    by_cases hlt : k < p.length
    · obtain ⟨b, off, c, he, hb, hc⟩ := (HP.out.below HW.out.1).fns.at (by omega)
      injection he with he1 he2 he3
      subst he1
      obtain ⟨d0, d1, d2⟩ := fn_at hc hlt
      have HO := Lib.hid (HP.out.ops _ (List.getElem_mem hlt))
      have HPG := Lib.hid (show funE p p[k] ≠ 0 → progE p = funE p p[k] from progE_stop hlt HM.out HZ.out)
      have HZ2 := Lib.hid (show funE p p[k] = 0 → ∀ j, (hj : j < p.length) → j < k + 1 → funE p p[j] = 0 from fun h j hj hjk => by
        by_cases e : j = k
        · subst e; exact h
        · exact HZ.out j hj (by omega))
      have hof := hf_ops HM.out (List.getElem_mem hlt)
      have HFM := Lib.hid hof.1
      have ho64 := hof.2.1
      have hsm := hof.2.2
      clear hc hb he2 he3 HZ hof
      generalize p[k] = f at *
      have hA : Below wr.heap.size wr (wr.alloc (.cells (fnC f) FnT)) := (Below.refl _ _).alloc (Nat.le_refl _) _
      have H2 := Lib.hid (show BelowW w (wr.alloc (.cells (fnC f) FnT)) ∧ BoxAt (wr.alloc (.cells (fnC f) FnT)) s #[.slice (some ⟨b, off, none⟩) p.length pc] 24 ∧ BoxAt (wr.alloc (.cells (fnC f) FnT)) wr.heap.size (fnC f) FnT from ⟨gthen HW.out.1 hA, HW.out.2.below hA, heap_alloc_new _ _⟩)
      clear hA HW
      go_upto_region 9 with fail
      simp only [fnC] at H2
      generalize wr.alloc (.cells #[.int .i64 f.args, .int .i64 f.regs, .slice f.oa f.ops.length f.oc] FnT) = w2 at *
      generalize wr.heap.size = fb at *
      have f0 := H2.out.2.2.cell 0; have f1 := H2.out.2.2.cell 1; have f2 := H2.out.2.2.cell 2
      simp only [List.getElem?_toArray, List.getElem?_cons_zero, List.getElem?_cons_succ] at f0 f1 f2
      clear d0 d1 d2 c0
      by_cases hra : f.regs < f.args
      · have g2 : decide (f.regs < f.args) = true := decide_eq_true hra
        have HFE := Lib.hid (show funE p f = 110 by unfold funE; rw [if_pos hra])
        clear hra
        go_wp2_with fail
        exact may3_end rfl rfl rfl (.mk ((HPG.out (by rw [HFE.out]; decide)).trans HFE.out) H2.out.1)
      have g2 : decide (f.regs < f.args) = false := decide_eq_false hra
      have HRA := Lib.hid hra
      clear hra
      go_wp2_with fail
      clear f0 f1 f2 g2
      obtain ⟨wo, hwo⟩ : ∃ wo, wo = wr := ⟨_, rfl⟩
      subst hwo
      obtain ⟨gkO, hgkO⟩ : ∃ y, y = gk := ⟨_, rfl⟩
      subst hgkO
      go_loopg [7] f.ops.length (fun gk i wr => ∃ j : Nat, gk + j = f.ops.length ∧ i = .int .i64 j ∧ Hid (BelowW w wr ∧ BoxAt wr s #[.slice (some ⟨b, off, none⟩) p.length pc] 24 ∧ BoxAt wr fb (fnC f) FnT) ∧ Hid (∀ q, (hq : q < f.ops.length) → q < j → opE p f f.ops[q] = 0))
      case atStart => exact ⟨0, by omega, rfl, H2, fun j _ hj => absurd hj (by omega)⟩
      case round =>
        clear H2
        obtain ⟨j, hj, rfl, HI, HZI⟩ := hrel
        have f0 := HI.out.2.2.cell 0; have f1 := HI.out.2.2.cell 1; have f2 := HI.out.2.2.cell 2
        have c0 := HI.out.2.1.cell 0
        simp only [fnC, List.getElem?_toArray, List.getElem?_cons_zero, List.getElem?_cons_succ] at f0 f1 f2 c0
        by_cases hjl : j < f.ops.length
        · obtain ⟨b2, off2, c2', he, hb, hc⟩ := (HO.out.below HI.out.1).1.at (by omega)
          injection he with he1 he2 he3
          rw [he1] at f2
          obtain ⟨g0, g1, g2, g3, g4⟩ := op_at hc hjl
          have HFJ := Lib.hid (HFM.out _ (List.getElem_mem hjl))
          have HST := Lib.hid (show opE p f f.ops[j] ≠ 0 → progE p = opE p f f.ops[j] from fun h => by
            have h1 : errK p f (j + 1) = opE p f f.ops[j] := errK_step hjl (by
              unfold errK
              rw [if_neg (by have := HRA.out; omega)]
              apply firstE_all
              intro e he
              obtain ⟨o, ho, rfl⟩ := List.mem_map.1 he
              obtain ⟨q, hq, rfl⟩ := List.getElem_of_mem ho
              rw [List.length_take] at hq
              rw [List.getElem_take]
              exact HZI.out q (by omega) (by omega))
            have h2 := errK_stop (p := p) (f := f) (k := j + 1) (by rw [h1]; exact h)
            rw [h1] at h2
            rw [← h2] at h ⊢
            exact HPG.out h)
          have HNX := Lib.hid (show opE p f f.ops[j] = 0 → ∀ q, (hq : q < f.ops.length) → q < j + 1 → opE p f f.ops[q] = 0 from fun h q hq hqj => by
            by_cases e : q = j
            · subst e; exact h
            · exact HZI.out q hq (by omega))
          have HHE := Lib.hid he1
          have j0 : (0 : Int) ≤ j := by omega
          have j1 : (j : Int) < f.ops.length := by omega
          clear hc hb he2 he3
          generalize f.ops[j] = o at *
          clear he1
          go_upto_region 14 with fail
          go_still_tail 7, (by kernel_rfl)
          change wpList _ _ _ _ _ wr.drew
          go_wp2_with fail
          rw [← HHE.out]
          have hBd : Below wr.heap.size wr wr.drew := (Below.refl _ _).drew
          refine (rop11_any (p := p) (f := f) (o := o) (HP.out.below (gthen HI.out.1 hBd)) HM.out HFJ.out).mono ?_
          rintro e w5 ⟨rfl, hB⟩
          have HI5 := Lib.hid (show BelowW w w5 ∧ BoxAt w5 s #[.slice (some ⟨b, off, none⟩) p.length pc] 24 ∧ BoxAt w5 fb (fnC f) FnT from ⟨gthen (gthen HI.out.1 hBd) hB, (HI.out.2.1.below hBd).below hB, (HI.out.2.2.below hBd).below hB⟩)
          obtain ⟨ev, hev⟩ : ∃ ev, opE p f o = ev := ⟨_, rfl⟩
          rw [hev]
          have HEV := Lib.hid hev
          clear hB hBd hev g0 g1 g2 g3 g4 f0 f1 f2 c0 HI
          by_cases h0 : ev = 0
          · have hne : (ev != 0) = false := by simp [h0]
            have HN9 := Lib.hid (HNX.out (HEV.out.trans h0))
            clear h0
            go_wp2_with fail
            go_roundg (gk - 1)
            case rel => exact ⟨j + 1, by omega, by go_num, HI5, HN9⟩
            case measure => omega
          · have hne : (ev != 0) = true := by simpa using h0
            have HN9 := Lib.hid ((HST.out (by rw [HEV.out]; exact h0)).trans HEV.out)
            clear h0
            go_wp2_with fail
            exact may3_end rfl rfl rfl (.mk HN9.out HI5.out.1)
        · have hje : j = f.ops.length := by omega
          have HFE := Lib.hid (show funE p f = if endsP f then 0 else 113 from by
            unfold funE
            rw [if_neg (by have := HRA.out; omega), if_neg (show ¬ firstE (f.ops.map (opE p f)) ≠ 0 from fun h => h (firstE_all fun e he => by
              obtain ⟨o, ho, rfl⟩ := List.mem_map.1 he
              obtain ⟨q, hq, rfl⟩ := List.getElem_of_mem ho
              exact HZI.out q hq (by omega)))])
          clear hje
          obtain ⟨n, hn⟩ : ∃ n, f.ops.length = n := ⟨_, rfl⟩
          cases n with
          | zero =>
            have hn0 : ((f.ops.length : Int) == 0) = true := by rw [hn]; rfl
            have HE9 := Lib.hid (show funE p f = 113 by rw [HFE.out, endsP_nil hn]; rfl)
            clear hn
            go_wp2_with fail
            exact may3_end rfl rfl rfl (.mk ((HPG.out (by rw [HE9.out]; decide)).trans HE9.out) HI.out.1)
          | succ n =>
            obtain ⟨b2, off2, c2', he, hb, hc⟩ := (HO.out.below HI.out.1).1.at (by omega)
            injection he with he1 he2 he3
            obtain ⟨g0, _⟩ := op_at hc (show n < f.ops.length by omega)
            rw [endsP_last hn] at HFE
            have hn0 : ((f.ops.length : Int) == 0) = false := by rw [hn]; simp; omega
            rw [he1] at f2
            generalize f.ops[n].k = kk at *
            have hnn : (f.ops.length : Int) - 1 = n := by omega
            have hn1 : (n : Int) < f.ops.length := by omega
            clear hc hb he2 he3
            cases h10 : (kk == 10)
            · have n10 : (kk != 10) = true := by rw [bne, h10]; rfl
              cases h14 : (kk == 14)
              · have HE9 := Lib.hid (show funE p f = 113 by rw [HFE.out, h10, h14]; rfl)
                have n14 : (kk != 14) = true := by rw [bne, h14]; rfl
                go_wp2_with fail
                exact may3_end rfl rfl rfl (.mk ((HPG.out (by rw [HE9.out]; decide)).trans HE9.out) HI.out.1)
              · have HE9 := Lib.hid (show funE p f = 0 by rw [HFE.out, h10, h14]; rfl)
                have n14 : (kk != 14) = false := by rw [bne, h14]; rfl
                go_wp2_with fail
                clear h10 h14 n10 n14 hnn he1
                go_roundg (gkO - 1)
                case rel => exact ⟨k + 1, by omega, by go_num, ⟨HI.out.1, HI.out.2.1⟩, HZ2.out HE9.out⟩
                case measure => omega
            · have HE9 := Lib.hid (show funE p f = 0 by rw [HFE.out, h10]; rfl)
              have n10 : (kk != 10) = false := by rw [bne, h10]; rfl
              go_wp2_with fail
              clear h10 n10 hnn he1
              go_roundg (gkO - 1)
              case rel => exact ⟨k + 1, by omega, by go_num, ⟨HI.out.1, HI.out.2.1⟩, HZ2.out HE9.out⟩
              case measure => omega
    · have HZP := Lib.hid (progE_zero H00.out HM.out (fun j hj => HZ.out j hj (by omega)))
      go_wp2_with fail
      exact may3_end rfl rfl rfl (.mk HZP.out HW.out.1)
end Go.Proofs.Ytdhbjejejeljoaa
