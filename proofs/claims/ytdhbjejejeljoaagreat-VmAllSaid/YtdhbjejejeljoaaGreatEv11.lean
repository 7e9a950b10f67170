/- Contract: eval.task.join. -/
import Derived.Test.YtdhbjejejeljoaaGreatEv10
namespace Go.Proofs.YtdhbjejejeljoaaGreat
open Go.RowKit Go.Sort Go.Lib

theorem setAll_take {r : List Int} {ds : List Int} {xs : List Rs} {k : Nat} (h1 : k < ds.length) (h2 : k < xs.length) : setAll r (ds.take (k + 1)) (xs.take (k + 1)) = (setAll r (ds.take k) (xs.take k)).set ds[k].toNat xs[k].v := by
  induction ds generalizing r xs k with
  | nil => simp at h1
  | cons d ds ih =>
    cases xs with
    | nil => simp at h2
    | cons x xs =>
      cases k with
      | zero => simp [setAll]
      | succ k =>
        simp only [List.take_succ_cons, setAll, List.getElem_cons_succ]
        exact ih (by simpa using h1) (by simpa using h2)
theorem set_box {w : World} {r q : Nat} {rs : List Int} (h : BoxAt w r (rs.map (Value.int .i64)).toArray I64T) (v : Int) : BoxAt (w.setCell ⟨r, q, none⟩ (.int .i64 v)) r ((rs.set q v).map (Value.int .i64)).toArray I64T := by
  have h1 := Go.heap_setCell_same w r q _ _ (.int .i64 v) h
  unfold BoxAt
  rw [h1]
  simp [List.map_set]
theorem regs_cell {w : World} {r q : Nat} {rs : List Int} (h : BoxAt w r (rs.map (Value.int .i64)).toArray I64T) (hq : q < rs.length) : w.cell? ⟨r, q, none⟩ = some (.int .i64 rs[q]) := by
  rw [h.cell q]; simp [hq]
/-- What join leaves. -/
def JoinP (wk w0 : World) (Z W m : Nat) (pv dv0 : Value) (l0 : List DnA) (x r : Nat) (t : Tk) (aa : Option Addr) (ac : Nat) (dv : Value) (nd : List DnA) (s : St) (e : Ending) (w' : World) : Prop :=
  e = .returned (.int .i64 (joinS s).1) ∧ ∃ iv wv, Rn wk w0 Z W m pv dv0 l0 x r t aa ac dv iv wv nd (joinS s).2 w'
theorem firstE_hit {l : List Int} {k : Nat} (hk : k < l.length) (h : ∀ j, (hj : j < l.length) → j < k → l[j] = 0) (h0 : l[k] ≠ 0) : firstE l = l[k] := by
  induction l generalizing k with
  | nil => simp at hk
  | cons e l ih =>
    unfold firstE
    cases k with
    | zero => rw [if_neg (by simpa using h0)]; rfl
    | succ k =>
      rw [if_pos (show e = 0 from h 0 (by simp) (by omega)), ih (by simpa using hk) (fun j hj hjk => h (j + 1) (by simpa using hj) (by omega)) (by simpa using h0)]
      rfl
theorem firstE_none {l : List Int} (h : ∀ j, (hj : j < l.length) → l[j] = 0) : firstE l = 0 :=
  firstE_all fun e he => by obtain ⟨j, hj, rfl⟩ := List.getElem_of_mem he; exact h j hj
abbrev resC (r : Rs) : Array Value := #[.int .i64 r.v, .int .i64 r.e]
set_option maxHeartbeats 3200000 in
set_option maxRecDepth 100000 in
theorem join_any {wk w0 : World} {Z W m : Nat} {pv dv0 : Value} {l0 : List DnA} {x r : Nat} {t : Tk} {aa : Option Addr} {ac : Nat} {dv iv wv : Value} {nd : List DnA} {s : St} {w : World} {p : List Fnc}
    (h : Rn wk w0 Z W m pv dv0 l0 x r t aa ac dv iv wv nd s w) (hi : InvS p t s) :
    Calls Tryz.prog 71 #[.pointer (some ⟨x, 0, none⟩)] w (JoinP wk w0 Z W m pv dv0 l0 x r t aa ac dv nd s) := by
  obtain ⟨wa, wc, rfl⟩ := (own_readsK (enc := encRs) (k := 2) encRs_len (by decide) h.tx.waits).slice
  obtain ⟨ia, ic, rfl⟩ := (own_readsK (enc := encN1) (k := 1) (fun _ => rfl) (by decide) h.tx.into).slice
  have H := Lib.hid h
  have HI := Lib.hid hi
  have hkids : s.waits.length ≤ 16 := by have h1 := hi.il; have h2 := hi.ik; have h3 := hi.k1; omega
  have hx9 := h.tx.box.cell 9
  simp only [txC, List.getElem?_toArray, List.getElem?_cons_zero, List.getElem?_cons_succ] at hx9
  clear h hi
  go_enter Tryz.func71, Tryz.ntmps71
  go_wp2_with fail
  clear hx9
  go_loopg [12] s.waits.length (fun gk i wr => ∃ k : Nat, gk + k = s.waits.length ∧ i = .int .i64 k ∧ Hid (Below w.heap.size w wr ∧ ∀ j, (hj : j < s.waits.length) → j < k → s.waits[j].e = 0))
  case atStart => exact ⟨0, by omega, rfl, ⟨Below.refl _ _, fun j _ hj => absurd hj (by omega)⟩⟩
  case round =>
    obtain ⟨k, hk, rfl, HB⟩ := hrel
    by_cases hlt : k < s.waits.length
    · obtain ⟨b, off, c, he, hb, hc⟩ := (own_readsK (enc := encRs) (k := 2) encRs_len (by decide) (own_below H.out.tx.waits HB.out.1)).at (by omega)
      injection he with he1 he2 he3
      subst he1
      have c0 : wr.cell? ⟨b, off + k * 2, none⟩ = some (.int .i64 s.waits[k].v) := hc k hlt 0 _ rfl
      have c1 : wr.cell? ⟨b, off + k * 2 + 1, none⟩ = some (.int .i64 s.waits[k].e) := hc k hlt 1 _ rfl
      have HFE := Lib.hid (show s.waits[k].e ≠ 0 → joinS s = (s.waits[k].e, s) from fun hne => by
        have h1 := firstE_hit (l := s.waits.map (·.e)) (k := k) (by simpa using hlt) (fun j hj hjk => by simpa using HB.out.2 j (by simpa using hj) hjk) (by simpa using hne)
        unfold joinS
        rw [h1]
        simp only [List.getElem_map]
        rw [if_pos hne])
      have HB2 := Lib.hid (show s.waits[k].e = 0 → ∀ j, (hj : j < s.waits.length) → j < k + 1 → s.waits[j].e = 0 from fun hz j hj hjk => by
        by_cases e : j = k
        · subst e; exact hz
        · exact HB.out.2 j hj (by omega))
      clear hc hb he2 he3
      generalize s.waits[k] = q at *
      have hA : Below wr.heap.size wr (wr.alloc (.cells (resC q) ResT)) := (Below.refl _ _).alloc (Nat.le_refl _) _
      have HA := Lib.hid (gthen HB.out.1 hA)
      have hbx : BoxAt (wr.alloc (.cells (resC q) ResT)) wr.heap.size (resC q) ResT := heap_alloc_new _ _
      clear hA hbx
      by_cases h0 : q.e = 0
      · have h1 : (q.e != 0) = false := by simp [h0]
        have HZ := Lib.hid h0
        clear h0
        go_wp2_with fail
        go_roundg (gk - 1)
        case rel => exact ⟨k + 1, by omega, by go_num, ⟨HA.out, HB2.out HZ.out⟩⟩
        case measure => omega
      · have h1 : (q.e != 0) = true := by simpa using h0
        have HZ := Lib.hid h0
        clear h0
        go_wp2_with fail
        go_ret
        refine ⟨ret_int (by rw [HFE.out HZ.out]), ?_⟩
        rw [HFE.out HZ.out]
        exact ⟨_, _, H.out.below HA.out⟩
    · have HJ := Lib.hid (show joinS s = (0, { s with regs := setAll s.regs s.into s.waits, into := [], waits := [] }) by
        unfold joinS
        have h1 : firstE (s.waits.map (·.e)) = 0 := firstE_none fun j hj => by
          have hj2 : j < s.waits.length := by simpa using hj
          simpa using HB.out.2 j hj2 (by omega)
        rw [if_neg (fun h => h h1)])
      have H2 := Lib.hid (H.out.below HB.out.1)
      have hx9 := H2.out.tx.box.cell 9
      simp only [txC, List.getElem?_toArray, List.getElem?_cons_zero, List.getElem?_cons_succ] at hx9
      clear HB
      go_wp2_with fail
      clear hx9
      go_loopg [27] s.waits.length (fun gk i wr => ∃ k : Nat, gk + k = s.waits.length ∧ i = .int .i64 k ∧ Hid (Rn wk w0 Z W m pv dv0 l0 x r t aa ac dv (.slice ia s.into.length ic) (.slice wa s.waits.length wc) nd { s with regs := setAll s.regs (s.into.take k) (s.waits.take k) } wr))
      case atStart => exact ⟨0, by omega, rfl, by rw [List.take_zero, List.take_zero]; unfold setAll; exact H2⟩
      case round =>
        clear H2
        obtain ⟨k, hk, rfl, HR⟩ := hrel
        have HL := Lib.hid (show (setAll s.regs (s.into.take k) (s.waits.take k)).length = s.regs.length from setAll_length _ _ _)
        by_cases hlt : k < s.waits.length
        · have hil : k < s.into.length := by rw [HI.out.il]; exact hlt
          obtain ⟨b, off, c, he, hb, hc⟩ := (own_readsK (enc := encRs) (k := 2) encRs_len (by decide) HR.out.tx.waits).at (by simp only []; omega)
          injection he with he1 he2 he3
          subst he1
          obtain ⟨b2, off2, c2, he, hb2, hc2⟩ := (own_readsK (enc := encN1) (k := 1) (fun _ => rfl) (by decide) HR.out.tx.into).at (by simp only []; omega)
          injection he with he1 he4 he5
          subst he1
          have c0 : wr.cell? ⟨b, off + k * 2, none⟩ = some (.int .i64 s.waits[k].v) := hc k hlt 0 _ rfl
          have c1 : wr.cell? ⟨b, off + k * 2 + 1, none⟩ = some (.int .i64 s.waits[k].e) := hc k hlt 1 _ rfl
          have d0 : wr.cell? ⟨b2, off2 + k, none⟩ = some (.int .i64 s.into[k]) := by have h := hc2 k hil 0 _ rfl; simpa using h
          have hd := HI.out.ir _ (List.getElem_mem hil)
          have hrl := HI.out.rl
          have HST := Lib.hid (setAll_take (r := s.regs) hil hlt)
          obtain ⟨q, hq⟩ : ∃ q : Nat, s.into[k] = q := ⟨s.into[k].toNat, by omega⟩
          rw [hq] at d0
          have hqr : q < s.regs.length := by omega
          have HST2 := Lib.hid (show setAll s.regs (s.into.take (k + 1)) (s.waits.take (k + 1)) = (setAll s.regs (s.into.take k) (s.waits.take k)).set q s.waits[k].v by rw [HST.out, hq]; simp)
          clear hc hb he2 he3 hc2 hb2 he4 he5 HST hq hd hrl
          generalize s.waits[k] = z at *
          have hA : Below wr.heap.size wr (wr.alloc (.cells (resC z) ResT)) := (Below.refl _ _).alloc (Nat.le_refl _) _
          have HRA := Lib.hid (HR.out.below hA)
          have hbx : BoxAt (wr.alloc (.cells (resC z) ResT)) wr.heap.size (resC z) ResT := heap_alloc_new _ _
          have z0 := hbx.cell 0
          have y0 := HRA.out.tx.box.cell 2; have y5 := HRA.out.tx.box.cell 8
          have x2 := HRA.out.tx.box.cell 5
          have e0 := cell_of hA d0
          have g0 := regs_cell HRA.out.tx.regs (q := q) (by simp only []; rw [HL.out]; exact hqr)
          have g1 := HRA.out.tx.regs.frozen q
          simp only [resC, txC, List.getElem?_toArray, List.getElem?_cons_zero, List.getElem?_cons_succ] at z0 x2 y5 HRA
          rw [HL.out] at x2
          have q1 : (q : Int) < s.regs.length := by omega
          have q0 : (0 : Int) ≤ q := by omega
          have k1 : (k : Int) < s.into.length := by omega
          have k0 : (0 : Int) ≤ k := by omega
          clear hA hbx HR y0
          go_upto_region 10 with fail
          generalize wr.alloc (.cells #[.int .i64 z.v, .int .i64 z.e] ResT) = wz at *
          generalize wr.heap.size = zb at *
          go_still_tail 14, (by kernel_rfl)
          change wpList _ _ _ _ _ wz.drew
          go_wp2_with fail
          have HN := Lib.hid (show Rn wk w0 Z W m pv dv0 l0 x r t aa ac dv (.slice (some ⟨b2, off2, none⟩) s.into.length ic) (.slice (some ⟨b, off, none⟩) s.waits.length wc) nd { s with regs := setAll s.regs (s.into.take (k + 1)) (s.waits.take (k + 1)) } (wz.setCell ⟨r, q, none⟩ (.int .i64 z.v)).drew from by
            have hF : Fr (fun i => i = r) wz (wz.setCell ⟨r, q, none⟩ (.int .i64 z.v)) := (Fr.refl (fun i => i = r) wz).setCell (p := ⟨r, q, none⟩) rfl _
            have h1 := HRA.out.regs hF (set_box HRA.out.tx.regs z.v) (by simp)
            rw [HST2.out]
            exact h1.below (Below.refl _ _).drew)
          clear HRA z0 y5 x2 e0 g0 g1
          go_roundg (gk - 1)
          case rel => exact ⟨k + 1, by omega, by go_num, HN⟩
          case measure => omega
        · have hx9 := HR.out.tx.box.cell 9
          have hkl : k = s.waits.length := by omega
          have HF := Lib.hid (show Rn wk w0 Z W m pv dv0 l0 x r t aa ac dv (.slice ia s.into.length ic) (.slice wa s.waits.length wc) nd { s with regs := setAll s.regs s.into s.waits } wr from by
            have h1 := HR.out
            rw [List.take_of_length_le (by rw [HI.out.il]; omega), List.take_of_length_le (by omega)] at h1
            exact h1)
          clear hkl HR HL hx9
          have x8 := HF.out.tx.box.cell 8; have x9 := HF.out.tx.box.cell 9
          have z8 := HF.out.tx.box.frozen 8; have z9 := HF.out.tx.box.frozen 9
          simp only [txC, List.getElem?_toArray, List.getElem?_cons_zero, List.getElem?_cons_succ] at x8 x9
          go_wp2_with fail
          go_ret
          refine ⟨ret_int (by rw [HJ.out]), ?_⟩
          rw [HJ.out]
          exact ⟨_, _, HF.out.clear⟩
end Go.Proofs.YtdhbjejejeljoaaGreat
