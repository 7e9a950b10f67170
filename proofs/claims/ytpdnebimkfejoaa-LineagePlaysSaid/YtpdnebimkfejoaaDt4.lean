/- The document's tree: Over, Hold. -/
import Derived.Test.YtpdnebimkfejoaaDt3
namespace Go.Proofs.Ytpdnebimkfejoaa
open Go.RowKit Go.Sort Go.Lib

theorem own_setD {w : World} {Z k n g cap j : Nat} {E : TypeId} {xs : List Value} {v : Value} (h : w.ownsRow Z E k (.slice (some ⟨g, 0, none⟩) n cap) n xs) : (w.setCell ⟨g, j, none⟩ v).ownsRow Z E k (.slice (some ⟨g, 0, none⟩) n cap) n (xs.set j v) := by
  obtain ⟨h0, ⟨hv, _⟩ | ⟨g', cap', cur, hv, h1, h2, h3, h4, h5, h6⟩⟩ := h
  · cases hv
  injection hv with e1 _ e3
  injection e1 with e1
  injection e1 with e1
  subst e1; subst e3
  refine ⟨by simp [h0], .inr ⟨g, cap, cur.setIfInBounds j v, rfl, h1, Go.heap_setCell_same w g j cur E v h2, h3, h4, by simp [h5], ?_⟩⟩
  rw [Array.toList_setIfInBounds, ← h6, List.take_set]
/-- A root is written over another one. -/
def wrt9 (w : World) (g o : Nat) (x : Rl) : World := (((((((((w.setCell ⟨g, o, none⟩ (.int .u64 x.1.1)).setCell ⟨g, o + 1, none⟩ (.string x.1.2)).setCell ⟨g, o + 2, none⟩ (.string x.1.2)).setCell ⟨g, o + 3, none⟩ (.int .i64 x.2.fn)).setCell ⟨g, o + 4, none⟩ (.slice x.2.aa x.2.args.length x.2.ac)).setCell ⟨g, o + 5, none⟩ (.int .i64 x.2.fuel)).setCell ⟨g, o + 6, none⟩ (.int .u8 x.2.st)).setCell ⟨g, o + 7, none⟩ (.int .i64 x.2.wk)).setCell ⟨g, o + 8, none⟩ (.int .u64 x.2.ep))
def wrts9 (xs : List Value) (o : Nat) (x : Rl) : List Value := (((((((((xs.set (o) (.int .u64 x.1.1)).set (o + 1) (.string x.1.2)).set (o + 2) (.string x.1.2)).set (o + 3) (.int .i64 x.2.fn)).set (o + 4) (.slice x.2.aa x.2.args.length x.2.ac)).set (o + 5) (.int .i64 x.2.fuel)).set (o + 6) (.int .u8 x.2.st)).set (o + 7) (.int .i64 x.2.wk)).set (o + 8) (.int .u64 x.2.ep))
theorem set_cons9 (p : List Value) (hp : p.length = 9) (xs : List Value) (o : Nat) (v : Value) : (p ++ xs).set (o + 9) v = p ++ xs.set o v := by
  rw [List.set_append_right _ _ (by omega), hp, Nat.add_sub_cancel]
theorem flat_wrt9 (x : Rl) : ∀ (l : Al) (j : Nat), j < l.length → wrts9 (l.flatMap encT) (j * 9) x = (l.set j x).flatMap encT
  | [], _, h => absurd h (by simp)
  | y :: l, 0, _ => by simp [wrts9, encT]
  | y :: l, j + 1, h => by
    have ih := flat_wrt9 x l j (by simpa using h)
    have e : ∀ i, (j + 1) * 9 + i = j * 9 + i + 9 := by intro i; omega
    have e0 : (j + 1) * 9 = j * 9 + 9 := by omega
    rw [List.set_cons_succ, List.flatMap_cons, List.flatMap_cons, ← ih]
    unfold wrts9
    simp only [e0, set_cons9 _ (encT_len y), Nat.add_right_comm _ 9 _]
theorem wrt9_own {Z n g cap o : Nat} {xs : List Value} {w : World} {x : Rl} (h : w.ownsRow Z RootT 9 (.slice (some ⟨g, 0, none⟩) n cap) n xs) : (wrt9 w g o x).ownsRow Z RootT 9 (.slice (some ⟨g, 0, none⟩) n cap) n (wrts9 xs o x) := by
  unfold wrt9 wrts9
  exact own_setD (own_setD (own_setD (own_setD (own_setD (own_setD (own_setD (own_setD (own_setD h))))))))
theorem wrt9_fr (w : World) (g o : Nat) (x : Rl) : Fr (fun i => i = g) w (wrt9 w g o x) := by
  unfold wrt9
  exact (((((((((Fr.refl (fun i => i = g) w).setCell (p := ⟨g, _, none⟩) rfl _).setCell (p := ⟨g, _, none⟩) rfl _).setCell (p := ⟨g, _, none⟩) rfl _).setCell (p := ⟨g, _, none⟩) rfl _).setCell (p := ⟨g, _, none⟩) rfl _).setCell (p := ⟨g, _, none⟩) rfl _).setCell (p := ⟨g, _, none⟩) rfl _).setCell (p := ⟨g, _, none⟩) rfl _).setCell (p := ⟨g, _, none⟩) rfl _
theorem Dt.set {Z r g cap j : Nat} {lv : Value} {l : Al} {w : World} {x : Rl} (h : Dt Z r lv l w) (hlv : lv = .slice (some ⟨g, 0, none⟩) l.length cap) (hj : j < l.length) (h1 : x.2.aa = l[j].2.aa) (h2 : x.2.ac = l[j].2.ac) (h3 : x.2.args = l[j].2.args) :
    Dt Z r lv (l.set j x) (wrt9 w g (j * 9) x).drew ∧ DL r lv w lv (wrt9 w g (j * 9) x).drew := by
  have hF := wrt9_fr w g (j * 9) x
  have ho := h.own
  rw [hlv] at ho
  have hgb : lv.ownBlock = some g := by rw [hlv]; rfl
  have hgr := own_not_box h.own h.box (by decide)
  have hz : Z ≤ w.heap.size := by
    have h1 : r < w.heap.size := (Array.getElem?_eq_some_iff.1 h.box).1
    have h2 := h.zr
    omega
  have hBZ : Below Z w (wrt9 w g (j * 9) x) := hF.below (fun i e => by subst e; exact (h.own.lt _ hgb).1) hz
  have ho2 := wrt9_own (o := j * 9) (x := x) ho
  rw [flat_wrt9 x l j hj] at ho2
  have hD : Dt Z r lv (l.set j x) (wrt9 w g (j * 9) x) := by
    refine ⟨h.box.fr hF (fun e => hgr (by rw [hgb, e])), by rw [hlv, List.length_set]; exact ho2, h.zr, fun p hp => ?_⟩
    rcases List.mem_or_eq_of_mem_set hp with e | e
    · exact (h.args p e).keep hBZ
    · subst e
      obtain ⟨ha, hb⟩ := (h.args _ (List.getElem_mem hj)).keep hBZ
      refine ⟨?_, fun a ha hne => hb a (h1 ▸ ha) (fun e => hne (by first | (rw [← h2]; exact e) | (rw [← h3]; exact e) | (rw [h2]; exact e) | (rw [h3]; exact e)))⟩
      unfold ArgsR at ha ⊢
      rw [h1, h2, h3]; exact ha
  exact ⟨hD.below (Below.refl _ _).drew, ⟨(hF.mono fun i e => .inr (by rw [e]; exact hgb)).then (Below.refl _ _).drew, .inl rfl⟩⟩
theorem set_upd {l : Al} {n : Nm} {c : Rw} {j : Nat} (hn : (l.map (·.1)).Nodup) (hj : j < l.length) (he : l[j].1 = n) : l.set j (n, c) = updA l n c := by
  unfold updA
  apply List.ext_getElem
  · simp
  · intro i h1 h2
    rw [List.length_set] at h1
    rw [List.getElem_set, List.getElem_map]
    by_cases hi : j = i
    · subst hi; rw [if_pos rfl, if_pos he, he]
    · rw [if_neg hi, if_neg]
      intro e
      exact hi (idx_only hn hj h1 he e)
theorem get_at {l : Al} {n : Nm} {j : Nat} (hn : (l.map (·.1)).Nodup) (hj : j < l.length) (he : l[j].1 = n) : getL l n = some l[j].2 := (getL_memV hn _ _).2 (by rw [← he]; exact List.getElem_mem hj)
theorem get_no {l : Al} {n : Nm} (h : ∀ p ∈ l, p.1 ≠ n) : getL l n = none := getL_noneV h
def OverDP (Z r : Nat) (lv : Value) (l : Al) (n : Nm) (w : World) (e : Ending) (w' : World) : Prop := e = .returned (.int .i64 (overEA l n)) ∧ Dt Z r lv (overA l n) w' ∧ DL r lv w lv w'
def HoldDP (Z r : Nat) (lv : Value) (l : Al) (n : Nm) (k ep : Int) (w : World) (e : Ending) (w' : World) : Prop := e = .returned (.int .i64 (holdEA l n k ep)) ∧ Dt Z r lv (holdA l n k ep) w' ∧ DL r lv w lv w'
theorem OverDP.bad {Z r : Nat} {lv : Value} {l : Al} {n : Nm} {c : Int} {w w' : World} (h : Dt Z r lv l w) (hB : Below w.heap.size w w') (hc : overEA l n = c) (hl : overA l n = l) : OverDP Z r lv l n w (.returned (.int .i64 c)) w' := ⟨by rw [hc], by rw [hl]; exact h.below hB, DL.below hB⟩
theorem HoldDP.bad {Z r : Nat} {lv : Value} {l : Al} {n : Nm} {k ep c : Int} {w w' : World} (h : Dt Z r lv l w) (hB : Below w.heap.size w w') (hc : holdEA l n k ep = c) (hl : holdA l n k ep = l) : HoldDP Z r lv l n k ep w (.returned (.int .i64 c)) w' := ⟨by rw [hc], by rw [hl]; exact h.below hB, DL.below hB⟩
set_option maxHeartbeats 6400000 in
set_option maxRecDepth 100000 in
theorem dover_any {Z r : Nat} {lv : Value} {l : Al} {w : World} (n : Nm) (h : Dt Z r lv l w) (hm : l.length ≤ 100000) (hnd : (l.map (·.1)).Nodup) :
    Calls Try.prog 26 #[RP r, nmV n] w (OverDP Z r lv l n w) := by
  have hA := alD w (cellsM n)
  have HT := Lib.hid h
  have H0 := Lib.hid (h.below hA)
  have HA := Lib.hid hA
  have HND := Lib.hid hnd
  have hn0 : (w.alloc (cellsM n)).cell? ⟨w.heap.size, 0, none⟩ = some (.int .u64 n.1) := by simp [go_sem]
  have hn1 : (w.alloc (cellsM n)).cell? ⟨w.heap.size, 1, none⟩ = some (.string n.2) := by simp [go_sem]
  clear h hA hnd
  go_enter Try.func26, Try.ntmps26
  go_wp2_with fail
  refine (dfind_any n H0.out hm).mono ?_
  rintro e w2 ⟨⟨i, rfl, hF⟩, hB⟩
  have H2 := Lib.hid (H0.out.below hB)
  have HB := Lib.hid (gthenD HA.out hB)
  clear hB HA H0 hn0 hn1
  rcases hF with ⟨rfl, hno⟩ | ⟨j, hj, rfl, hjn⟩
  · have hg := get_no hno
    have HE := Lib.hid (show overEA l n = 5 ∧ overA l n = l from by unfold overEA overA; rw [hg]; exact ⟨rfl, rfl⟩)
    clear hno hg
    go_wp2_with fail
    go_ret
    exact OverDP.bad HT.out HB.out HE.out.1 HE.out.2
  · have hg := get_at HND.out hj hjn
    obtain ⟨g, cap, e, hc⟩ := H2.out.at hj
    have y0 := H2.out.cell
    rw [e] at y0
    have HLVG := Lib.hid e
    obtain ⟨N, hN⟩ : ∃ N, l.length = N := ⟨_, rfl⟩
    rw [hN] at y0
    obtain ⟨x, hx⟩ : ∃ x, l[j] = x := ⟨_, rfl⟩
    rw [hx] at hc hg hjn
    have c0 : w2.cell? ⟨g, j * 9, none⟩ = some (.int .u64 x.1.1) := hc 0 _ rfl
    have c1 : w2.cell? ⟨g, j * 9 + 1, none⟩ = some (.string x.1.2) := hc 1 _ rfl
    have c2 : w2.cell? ⟨g, j * 9 + 2, none⟩ = some (.string x.1.2) := hc 2 _ rfl
    have c3 : w2.cell? ⟨g, j * 9 + 3, none⟩ = some (.int .i64 x.2.fn) := hc 3 _ rfl
    have c4 : w2.cell? ⟨g, j * 9 + 4, none⟩ = some (.slice x.2.aa x.2.args.length x.2.ac) := hc 4 _ rfl
    have c5 : w2.cell? ⟨g, j * 9 + 5, none⟩ = some (.int .i64 x.2.fuel) := hc 5 _ rfl
    have c6 : w2.cell? ⟨g, j * 9 + 6, none⟩ = some (.int .u8 x.2.st) := hc 6 _ rfl
    have c7 : w2.cell? ⟨g, j * 9 + 7, none⟩ = some (.int .i64 x.2.wk) := hc 7 _ rfl
    have c8 : w2.cell? ⟨g, j * 9 + 8, none⟩ = some (.int .u64 x.2.ep) := hc 8 _ rfl
    have hj0 : ¬ (j : Int) < 0 := by omega
    have hj1 : (0 : Int) ≤ j := by omega
    have hj2 : (j : Int) < N := by omega
    have HJ := Lib.hid hj
    have HXE := Lib.hid (show ∀ h : j < l.length, l[j] = x from fun _ => hx)
    have HJN := Lib.hid hjn
    have HG := Lib.hid hg
    clear hc e hx hj hjn hg hN
    by_cases hst : x.2.st = 3
    · have hsb : (x.2.st == 3) = true := by simp [hst]
      have HE := Lib.hid (show overEA l n = 3 ∧ overA l n = l from by unfold overEA overA; rw [HG.out]; simp [hst])
      have hA2 := alD w2 (cellsR x)
      have HB2 := Lib.hid (gthenD HB.out hA2)
      clear hst hA2
      go_wp2_with fail
      go_ret
      exact OverDP.bad HT.out HB2.out HE.out.1 HE.out.2
    · have hsb : (x.2.st == 3) = false := by simp [hst]
      have HE := Lib.hid (show overEA l n = 0 from by unfold overEA; rw [HG.out]; simp [hst])
      have HO := Lib.hid (show overA l n = updA l n { x.2 with st := 3, wk := 0, ep := 0 } from by unfold overA; rw [HG.out]; simp [hst])
      clear hst
      have hA2 := alD w2 (cellsR ((x.1, { x.2 with st := 3, wk := 0, ep := 0 }) : Rl))
      have HD := Lib.hid (H2.out.below hA2)
      have HB2 := Lib.hid (gthenD HB.out hA2)
      go_wp2_with fail
      have hbx : (w2.alloc (cellsR ((x.1, { x.2 with st := 3, wk := 0, ep := 0 }) : Rl))).heap[w2.heap.size]? = some (cellsR ((x.1, { x.2 with st := 3, wk := 0, ep := 0 }) : Rl)) := heap_alloc_new _ _
      simp only at hbx hA2 HD HB2
      replace y0 := (hA2.cell (p := ⟨r, 0, none⟩) (World.block_lt_of_cell? _ _ y0)).trans y0
      replace c0 := (hA2.cell (p := ⟨g, j * 9, none⟩) (World.block_lt_of_cell? _ _ c0)).trans c0
      replace c1 := (hA2.cell (p := ⟨g, j * 9 + 1, none⟩) (World.block_lt_of_cell? _ _ c1)).trans c1
      replace c2 := (hA2.cell (p := ⟨g, j * 9 + 2, none⟩) (World.block_lt_of_cell? _ _ c2)).trans c2
      replace c3 := (hA2.cell (p := ⟨g, j * 9 + 3, none⟩) (World.block_lt_of_cell? _ _ c3)).trans c3
      replace c4 := (hA2.cell (p := ⟨g, j * 9 + 4, none⟩) (World.block_lt_of_cell? _ _ c4)).trans c4
      replace c5 := (hA2.cell (p := ⟨g, j * 9 + 5, none⟩) (World.block_lt_of_cell? _ _ c5)).trans c5
      replace c6 := (hA2.cell (p := ⟨g, j * 9 + 6, none⟩) (World.block_lt_of_cell? _ _ c6)).trans c6
      replace c7 := (hA2.cell (p := ⟨g, j * 9 + 7, none⟩) (World.block_lt_of_cell? _ _ c7)).trans c7
      replace c8 := (hA2.cell (p := ⟨g, j * 9 + 8, none⟩) (World.block_lt_of_cell? _ _ c8)).trans c8
      generalize w2.alloc (Obj.cells #[.int .u64 x.1.1, .string x.1.2, .string x.1.2, .int .i64 x.2.fn, .slice x.2.aa x.2.args.length x.2.ac, .int .i64 x.2.fuel, .int .u8 3, .int .i64 0, .int .u64 0] RootT) = wq at *
      generalize w2.heap.size = xb at *
      have b0 : wq.cell? ⟨xb, 0, none⟩ = some (.int .u64 x.1.1) := by simp [World.cell?, hbx]
      have b1 : wq.cell? ⟨xb, 1, none⟩ = some (.string x.1.2) := by simp [World.cell?, hbx]
      have b2 : wq.cell? ⟨xb, 2, none⟩ = some (.string x.1.2) := by simp [World.cell?, hbx]
      have b3 : wq.cell? ⟨xb, 3, none⟩ = some (.int .i64 x.2.fn) := by simp [World.cell?, hbx]
      have b4 : wq.cell? ⟨xb, 4, none⟩ = some (.slice x.2.aa x.2.args.length x.2.ac) := by simp [World.cell?, hbx]
      have b5 : wq.cell? ⟨xb, 5, none⟩ = some (.int .i64 x.2.fuel) := by simp [World.cell?, hbx]
      have b6 : wq.cell? ⟨xb, 6, none⟩ = some (.int .u8 3) := by simp [World.cell?, hbx]
      have b7 : wq.cell? ⟨xb, 7, none⟩ = some (.int .i64 0) := by simp [World.cell?, hbx]
      have b8 : wq.cell? ⟨xb, 8, none⟩ = some (.int .u64 0) := by simp [World.cell?, hbx]
      have hfz : ∀ i, wq.frozen? ⟨g, i, none⟩ = false := fun i => by
        have ho := HD.out.own
        have hlvg := HLVG.out
        obtain ⟨_, ⟨hv, h0⟩ | ⟨g', cap', cur, hv, _, hh, _⟩⟩ := ho
        · exfalso; rw [hv] at hlvg; cases hlvg
        · have e1 : g' = g := by rw [hv] at hlvg; injection hlvg with e1 _ _; injection e1 with e1; injection e1
          subst e1
          simp [World.frozen?, hh]
      have HX := Lib.hid (show Dt Z r lv (overA l n) (wrt9 wq g (j * 9) ((x.1, { x.2 with st := 3, wk := 0, ep := 0 }) : Rl)).drew ∧ DL r lv w lv (wrt9 wq g (j * 9) ((x.1, { x.2 with st := 3, wk := 0, ep := 0 }) : Rl)).drew from by
        obtain ⟨h1, h2⟩ := HD.out.set (x := ((x.1, { x.2 with st := 3, wk := 0, ep := 0 }) : Rl)) HLVG.out HJ.out (by rw [HXE.out HJ.out]) (by rw [HXE.out HJ.out]) (by rw [HXE.out HJ.out])
        refine ⟨?_, h2.from HB2.out⟩
        have e2 : l.set j ((x.1, { x.2 with st := 3, wk := 0, ep := 0 }) : Rl) = overA l n := by
          rw [show ((x.1, { x.2 with st := 3, wk := 0, ep := 0 }) : Rl) = (n, ((x.1, { x.2 with st := 3, wk := 0, ep := 0 }) : Rl).2) from Prod.ext HJN.out rfl, set_upd HND.out HJ.out (by rw [HXE.out HJ.out]; exact HJN.out)]
          exact HO.out.symm
        rw [← e2]; exact h1)
      clear hbx hA2
      go_still_tail 7, (by kernel_rfl)
      change wpList _ _ _ _ _ wq.drew
      go_wp2_with fail
      go_ret
      exact ⟨by rw [HE.out]; rfl, HX.out⟩
set_option maxHeartbeats 6400000 in
set_option maxRecDepth 100000 in
theorem dhold_any {Z r : Nat} {lv : Value} {l : Al} {w : World} (n : Nm) (k ep : Int) (h : Dt Z r lv l w) (hm : l.length ≤ 100000) (hnd : (l.map (·.1)).Nodup) :
    Calls Try.prog 25 #[RP r, nmV n, .int .i64 k, .int .u64 ep] w (HoldDP Z r lv l n k ep w) := by
  have hA := alD w (cellsM n)
  have HT := Lib.hid h
  have H0 := Lib.hid (h.below hA)
  have HA := Lib.hid hA
  have HND := Lib.hid hnd
  have hn0 : (w.alloc (cellsM n)).cell? ⟨w.heap.size, 0, none⟩ = some (.int .u64 n.1) := by simp [go_sem]
  have hn1 : (w.alloc (cellsM n)).cell? ⟨w.heap.size, 1, none⟩ = some (.string n.2) := by simp [go_sem]
  clear h hA hnd
  go_enter Try.func25, Try.ntmps25
  go_wp2_with fail
  refine (dfind_any n H0.out hm).mono ?_
  rintro e w2 ⟨⟨i, rfl, hF⟩, hB⟩
  have H2 := Lib.hid (H0.out.below hB)
  have HB := Lib.hid (gthenD HA.out hB)
  clear hB HA H0 hn0 hn1
  rcases hF with ⟨rfl, hno⟩ | ⟨j, hj, rfl, hjn⟩
  · have hg := get_no hno
    have HE := Lib.hid (show holdEA l n k ep = 5 ∧ holdA l n k ep = l from by unfold holdEA holdA; rw [hg]; exact ⟨rfl, rfl⟩)
    clear hno hg
    go_wp2_with fail
    go_ret
    exact HoldDP.bad HT.out HB.out HE.out.1 HE.out.2
  · have hg := get_at HND.out hj hjn
    obtain ⟨g, cap, e, hc⟩ := H2.out.at hj
    have y0 := H2.out.cell
    rw [e] at y0
    have HLVG := Lib.hid e
    obtain ⟨N, hN⟩ : ∃ N, l.length = N := ⟨_, rfl⟩
    rw [hN] at y0
    obtain ⟨x, hx⟩ : ∃ x, l[j] = x := ⟨_, rfl⟩
    rw [hx] at hc hg hjn
    have c0 : w2.cell? ⟨g, j * 9, none⟩ = some (.int .u64 x.1.1) := hc 0 _ rfl
    have c1 : w2.cell? ⟨g, j * 9 + 1, none⟩ = some (.string x.1.2) := hc 1 _ rfl
    have c2 : w2.cell? ⟨g, j * 9 + 2, none⟩ = some (.string x.1.2) := hc 2 _ rfl
    have c3 : w2.cell? ⟨g, j * 9 + 3, none⟩ = some (.int .i64 x.2.fn) := hc 3 _ rfl
    have c4 : w2.cell? ⟨g, j * 9 + 4, none⟩ = some (.slice x.2.aa x.2.args.length x.2.ac) := hc 4 _ rfl
    have c5 : w2.cell? ⟨g, j * 9 + 5, none⟩ = some (.int .i64 x.2.fuel) := hc 5 _ rfl
    have c6 : w2.cell? ⟨g, j * 9 + 6, none⟩ = some (.int .u8 x.2.st) := hc 6 _ rfl
    have c7 : w2.cell? ⟨g, j * 9 + 7, none⟩ = some (.int .i64 x.2.wk) := hc 7 _ rfl
    have c8 : w2.cell? ⟨g, j * 9 + 8, none⟩ = some (.int .u64 x.2.ep) := hc 8 _ rfl
    have hj0 : ¬ (j : Int) < 0 := by omega
    have hj1 : (0 : Int) ≤ j := by omega
    have hj2 : (j : Int) < N := by omega
    have HJ := Lib.hid hj
    have HXE := Lib.hid (show ∀ h : j < l.length, l[j] = x from fun _ => hx)
    have HJN := Lib.hid hjn
    have HG := Lib.hid hg
    clear hc e hx hj hjn hg hN
    by_cases hbad : k < 1 ∨ 32 < k ∨ ep < 1 ∨ 281474976710656 < ep
    · have HE := Lib.hid (show holdEA l n k ep = 2 ∧ holdA l n k ep = l from by
        have h1 : holdEA l n k ep = 2 := by unfold holdEA; rw [HG.out]; simp only [if_pos hbad]
        refine ⟨h1, ?_⟩
        unfold holdA; rw [HG.out]; simp only [h1]; rfl)
      have hcs : k < 1 ∨ (¬ k < 1 ∧ 32 < k) ∨ (¬ k < 1 ∧ ¬ 32 < k ∧ ep < 1) ∨ (¬ k < 1 ∧ ¬ 32 < k ∧ ¬ ep < 1 ∧ 281474976710656 < ep) := by omega
      clear hbad c0 c1 c2 c3 c4 c5 c6 c7 c8
      rcases hcs with h1 | ⟨h1, h2⟩ | ⟨h1, h2, h3⟩ | ⟨h1, h2, h3, h4⟩
      all_goals
        go_wp2_with fail
        go_ret
        exact HoldDP.bad HT.out HB.out HE.out.1 HE.out.2
    have h1 : ¬ k < 1 := by omega
    have h2 : ¬ 32 < k := by omega
    have h3 : ¬ ep < 1 := by omega
    have h4 : ¬ 281474976710656 < ep := by omega
    have HBD := Lib.hid hbad
    clear hbad
    by_cases hst : x.2.st = 1
    · have hsb : (x.2.st != 1) = false := by simp [hst]
      have HE := Lib.hid (show holdEA l n k ep = 0 from by unfold holdEA; rw [HG.out]; simp only [if_neg HBD.out, hst]; rfl)
      have HO := Lib.hid (show holdA l n k ep = updA l n { x.2 with st := 2, wk := k, ep := ep } from by unfold holdA; rw [HG.out]; simp only [HE.out, if_true])
      clear hst
      have hA2 := alD w2 (cellsR ((x.1, { x.2 with st := 2, wk := k, ep := ep }) : Rl))
      have HD := Lib.hid (H2.out.below hA2)
      have HB2 := Lib.hid (gthenD HB.out hA2)
      go_wp2_with fail
      have hbx : (w2.alloc (cellsR ((x.1, { x.2 with st := 2, wk := k, ep := ep }) : Rl))).heap[w2.heap.size]? = some (cellsR ((x.1, { x.2 with st := 2, wk := k, ep := ep }) : Rl)) := heap_alloc_new _ _
      simp only at hbx hA2 HD HB2
      replace y0 := (hA2.cell (p := ⟨r, 0, none⟩) (World.block_lt_of_cell? _ _ y0)).trans y0
      replace c0 := (hA2.cell (p := ⟨g, j * 9, none⟩) (World.block_lt_of_cell? _ _ c0)).trans c0
      replace c1 := (hA2.cell (p := ⟨g, j * 9 + 1, none⟩) (World.block_lt_of_cell? _ _ c1)).trans c1
      replace c2 := (hA2.cell (p := ⟨g, j * 9 + 2, none⟩) (World.block_lt_of_cell? _ _ c2)).trans c2
      replace c3 := (hA2.cell (p := ⟨g, j * 9 + 3, none⟩) (World.block_lt_of_cell? _ _ c3)).trans c3
      replace c4 := (hA2.cell (p := ⟨g, j * 9 + 4, none⟩) (World.block_lt_of_cell? _ _ c4)).trans c4
      replace c5 := (hA2.cell (p := ⟨g, j * 9 + 5, none⟩) (World.block_lt_of_cell? _ _ c5)).trans c5
      replace c6 := (hA2.cell (p := ⟨g, j * 9 + 6, none⟩) (World.block_lt_of_cell? _ _ c6)).trans c6
      replace c7 := (hA2.cell (p := ⟨g, j * 9 + 7, none⟩) (World.block_lt_of_cell? _ _ c7)).trans c7
      replace c8 := (hA2.cell (p := ⟨g, j * 9 + 8, none⟩) (World.block_lt_of_cell? _ _ c8)).trans c8
      generalize w2.alloc (Obj.cells #[.int .u64 x.1.1, .string x.1.2, .string x.1.2, .int .i64 x.2.fn, .slice x.2.aa x.2.args.length x.2.ac, .int .i64 x.2.fuel, .int .u8 2, .int .i64 k, .int .u64 ep] RootT) = wq at *
      generalize w2.heap.size = xb at *
      have b0 : wq.cell? ⟨xb, 0, none⟩ = some (.int .u64 x.1.1) := by simp [World.cell?, hbx]
      have b1 : wq.cell? ⟨xb, 1, none⟩ = some (.string x.1.2) := by simp [World.cell?, hbx]
      have b2 : wq.cell? ⟨xb, 2, none⟩ = some (.string x.1.2) := by simp [World.cell?, hbx]
      have b3 : wq.cell? ⟨xb, 3, none⟩ = some (.int .i64 x.2.fn) := by simp [World.cell?, hbx]
      have b4 : wq.cell? ⟨xb, 4, none⟩ = some (.slice x.2.aa x.2.args.length x.2.ac) := by simp [World.cell?, hbx]
      have b5 : wq.cell? ⟨xb, 5, none⟩ = some (.int .i64 x.2.fuel) := by simp [World.cell?, hbx]
      have b6 : wq.cell? ⟨xb, 6, none⟩ = some (.int .u8 2) := by simp [World.cell?, hbx]
      have b7 : wq.cell? ⟨xb, 7, none⟩ = some (.int .i64 k) := by simp [World.cell?, hbx]
      have b8 : wq.cell? ⟨xb, 8, none⟩ = some (.int .u64 ep) := by simp [World.cell?, hbx]
      have hfz : ∀ i, wq.frozen? ⟨g, i, none⟩ = false := fun i => by
        have ho := HD.out.own
        have hlvg := HLVG.out
        obtain ⟨_, ⟨hv, h0⟩ | ⟨g', cap', cur, hv, _, hh, _⟩⟩ := ho
        · exfalso; rw [hv] at hlvg; cases hlvg
        · have e1 : g' = g := by rw [hv] at hlvg; injection hlvg with e1 _ _; injection e1 with e1; injection e1
          subst e1
          simp [World.frozen?, hh]
      have HX := Lib.hid (show Dt Z r lv (holdA l n k ep) (wrt9 wq g (j * 9) ((x.1, { x.2 with st := 2, wk := k, ep := ep }) : Rl)).drew ∧ DL r lv w lv (wrt9 wq g (j * 9) ((x.1, { x.2 with st := 2, wk := k, ep := ep }) : Rl)).drew from by
        obtain ⟨h1, h2⟩ := HD.out.set (x := ((x.1, { x.2 with st := 2, wk := k, ep := ep }) : Rl)) HLVG.out HJ.out (by rw [HXE.out HJ.out]) (by rw [HXE.out HJ.out]) (by rw [HXE.out HJ.out])
        refine ⟨?_, h2.from HB2.out⟩
        have e2 : l.set j ((x.1, { x.2 with st := 2, wk := k, ep := ep }) : Rl) = holdA l n k ep := by
          rw [show ((x.1, { x.2 with st := 2, wk := k, ep := ep }) : Rl) = (n, ((x.1, { x.2 with st := 2, wk := k, ep := ep }) : Rl).2) from Prod.ext HJN.out rfl, set_upd HND.out HJ.out (by rw [HXE.out HJ.out]; exact HJN.out)]
          exact HO.out.symm
        rw [← e2]; exact h1)
      clear hbx hA2
      go_still_tail 7, (by kernel_rfl)
      change wpList _ _ _ _ _ wq.drew
      go_wp2_with fail
      go_ret
      exact ⟨by rw [HE.out]; rfl, HX.out⟩
    · have hsb : (x.2.st != 1) = true := by simp [hst]
      have HE := Lib.hid (show holdEA l n k ep = 3 ∧ holdA l n k ep = l from by
        have h1 : holdEA l n k ep = 3 := by unfold holdEA; rw [HG.out]; simp only [if_neg HBD.out, ne_eq, hst, not_false_eq_true, if_true]
        refine ⟨h1, ?_⟩
        unfold holdA; rw [HG.out]; simp only [h1]; rfl)
      have hA2 := alD w2 (cellsR x)
      have HB2 := Lib.hid (gthenD HB.out hA2)
      clear hst hA2
      go_wp2_with fail
      go_ret
      exact HoldDP.bad HT.out HB2.out HE.out.1 HE.out.2
end Go.Proofs.Ytpdnebimkfejoaa
