/- The document's table: Fork. -/
import Derived.Test.YthbkbmkcgpdedaaJd7
namespace Go.Proofs.Ythbkbmkcgpdedaa
open Go.RowKit Go.Sort Go.Lib

theorem nm_cells {w : World} {b : Nat} {n : Nm} (h : BoxAt w b #[.int .u64 n.1, .string n.2] NmT) : w.cell? ⟨b, 0, none⟩ = some (.int .u64 n.1) ∧ w.cell? ⟨b, 1, none⟩ = some (.string n.2) := ⟨h.cell 0, h.cell 1⟩
theorem task_cells {w : World} {b : Nat} {p v u q : Value} (h : BoxAt w b #[p, v, u, q] TaskT) : w.cell? ⟨b, 0, none⟩ = some p ∧ w.cell? ⟨b, 1, none⟩ = some v ∧ w.cell? ⟨b, 2, none⟩ = some u ∧ w.cell? ⟨b, 3, none⟩ = some q := ⟨h.cell 0, h.cell 1, h.cell 2, h.cell 3⟩
def dforkE (l : List Rl) (mo : Int) (pn : Nm) (p : ByteArray) : Int := if ofE l pn [2] ≠ 0 then ofE l pn [2] else if mayS p && parB p && decide (parS p = pn.2) then freshE l mo (pn.1, p) else 2
def ForkDP (Z r : Nat) (mo : Int) (lv : Value) (l : List Rl) (pn : Nm) (p : ByteArray) (c : Rw) (w : World) (e : Ending) (w' : World) : Prop := e = .returned (.int .i64 (dforkE l mo pn p)) ∧
  ((dforkE l mo pn p ≠ 0 ∧ Dt Z r mo lv l w' ∧ DL r lv w lv w') ∨ (dforkE l mo pn p = 0 ∧ ∃ q lv' k, getL l pn = some q ∧ InsN (updA l pn { q with op := q.op + 1 }) (pn.1, p) k ∧ Dt Z r mo lv' ((updA l pn { q with op := q.op + 1 }).take k ++ [((pn.1, p), c)] ++ (updA l pn { q with op := q.op + 1 }).drop k) w' ∧ DL r lv w lv' w'))
theorem ForkDP.bad {Z r : Nat} {mo : Int} {lv : Value} {l : List Rl} {pn : Nm} {p : ByteArray} {c : Rw} {q : Int} {w w' : World} (h : Dt Z r mo lv l w) (hB : Below w.heap.size w w') (hc : dforkE l mo pn p = q) (h0 : q ≠ 0) : ForkDP Z r mo lv l pn p c w (.returned (.int .i64 q)) w' := ⟨by rw [hc], .inl ⟨by rw [hc]; exact h0, h.below hB, DL.below hB⟩⟩
theorem DL.trans {r : Nat} {lv lv' : Value} {w w2 w' : World} (h : DL r lv w lv w2) (k : DL r lv w2 lv' w') : DL r lv w lv' w' := ⟨h.fr.trans k.fr, k.own.imp id (fun f g hg => Nat.le_trans h.fr.size (f g hg))⟩
theorem upd_sizes {l : List Rl} {n : Nm} {c : Rw} (h : ∀ q ∈ l, q.1.2.size ≤ 9223372036854775807) : ∀ q ∈ updA l n c, q.1.2.size ≤ 9223372036854775807 := fun q hq => by
  unfold updA at hq
  obtain ⟨p, hp, rfl⟩ := List.mem_map.1 hq
  have := h p hp
  split <;> exact this
theorem ofE_one {l : List Rl} {n : Nm} {c : Rw} {a : Int} (h : getL l n = some c) (hs : c.st = a) : ofE l n [a] = 0 := by unfold ofE; rw [h]; simp [hs]
theorem ofE_not {l : List Rl} {n : Nm} {c : Rw} {a : Int} (h : getL l n = some c) (hs : ¬ c.st = a) : ofE l n [a] = 3 := by unfold ofE; rw [h]; simp [hs]
set_option maxHeartbeats 16000000 in
set_option maxRecDepth 100000 in
theorem dfork_any {Z r : Nat} {mo : Int} {lv : Value} {l : List Rl} {w : World} (pn : Nm) (p : ByteArray) (fn fuel : Int) (aa : Option Addr) (ac : Nat) (args : List Int) (h : Dt Z r mo lv l w) (hm : l.length ≤ 100000) (hnd : (l.map (·.1)).Nodup) (hps : p.size ≤ 9223372036854775807) (hml : ∀ q ∈ l, q.1.2.size ≤ 9223372036854775807) (hop : ∀ q ∈ l, 0 ≤ q.2.op ∧ q.2.op ≤ 1000000) (ha : ArgsZ Z w ⟨fn, aa, ac, args, fuel, 1, 0, 0, 0, true⟩) :
    Calls Try.prog 13 #[RP r, nmA pn, .agg #[.string p, .int .i64 fn, .slice aa args.length ac, .int .i64 fuel]] w (ForkDP Z r mo lv l pn p ⟨fn, aa, ac, args, fuel, 1, 0, 0, 0, true⟩ w) := by
  have HT := Lib.hid h
  have HML := Lib.hid hml
  have HPS := Lib.hid hps
  have HAZ := Lib.hid ha
  have HND := Lib.hid hnd
  have HOP := Lib.hid hop
  have hA1 := alD w (cellsM pn)
  have hA2 := alD (w.alloc (cellsM pn)) (.cells #[.string p, .int .i64 fn, .slice aa args.length ac, .int .i64 fuel] TaskT)
  have HA := Lib.hid (gthenD hA1 hA2)
  have H0 := Lib.hid ((h.below hA1).below hA2)
  have HBN := Lib.hid ((show BoxAt (w.alloc (cellsM pn)) w.heap.size #[.int .u64 pn.1, .string pn.2] NmT from heap_alloc_new _ _).below hA2)
  have hbt : BoxAt ((w.alloc (cellsM pn)).alloc (.cells #[.string p, .int .i64 fn, .slice aa args.length ac, .int .i64 fuel] TaskT)) (w.heap.size + 1) #[.string p, .int .i64 fn, .slice aa args.length ac, .int .i64 fuel] TaskT := by
    have := heap_alloc_new (w.alloc (cellsM pn)) (.cells #[.string p, .int .i64 fn, .slice aa args.length ac, .int .i64 fuel] TaskT)
    rwa [show (w.alloc (cellsM pn)).heap.size = w.heap.size + 1 by simp] at this
  have HBT := Lib.hid hbt
  have hz : Z ≤ w.heap.size := by
    have h1 : r < w.heap.size := (Array.getElem?_eq_some_iff.1 h.box).1
    have h2 := h.zr
    omega
  have HZ := Lib.hid hz
  clear h hml ha hnd hop hA1 hA2 hbt hz hps
  go_enter Try.func13, Try.ntmps13
  go_upto_region 1 with fail
  simp only [cellsM] at HBT HBN HA H0
  generalize (w.alloc (.cells #[.int .u64 pn.1, .string pn.2] NmT)).alloc (.cells #[.string p, .int .i64 fn, .slice aa args.length ac, .int .i64 fuel] TaskT) = wa at *
  obtain ⟨tb, htb⟩ : ∃ t, w.heap.size + 1 = t := ⟨_, rfl⟩
  obtain ⟨nb, hnb⟩ : ∃ t, w.heap.size = t := ⟨_, rfl⟩
  rw [htb] at HBT ⊢
  rw [hnb] at HBN ⊢
  clear htb hnb
  obtain ⟨s0, s1⟩ := nm_cells HBN.out
  go_wp2_with fail
  refine (dfind_any pn H0.out hm).mono ?_
  rintro e w2 ⟨⟨i, rfl, hF⟩, hB⟩
  have H2 := Lib.hid (H0.out.below hB)
  replace HBN := Lib.hid (HBN.out.below hB)
  replace HBT := Lib.hid (HBT.out.below hB)
  have HB := Lib.hid (show Below w.heap.size w w2 from gthenD HA.out hB)
  clear hB HA H0 s0 s1
  rcases hF with ⟨rfl, hno⟩ | ⟨j, hj, rfl, hjn⟩
  · have HE := Lib.hid (show dforkE l mo pn p = 5 from by unfold dforkE ofE; rw [getL_noneV hno]; rfl)
    clear hno
    go_wp2_with fail
    go_ret
    exact ForkDP.bad HT.out HB.out HE.out (by decide)
  · have hg := getL_here HND.out hj hjn
    obtain ⟨g, cap, e, hc⟩ := H2.out.at hj
    have y0 := H2.out.cell
    rw [e] at y0
    have HLVG := Lib.hid e
    obtain ⟨N, hN⟩ : ∃ N, l.length = N := ⟨_, rfl⟩
    rw [hN] at y0
    have HOX := Lib.hid (HOP.out _ (List.getElem_mem hj))
    obtain ⟨x, hx⟩ : ∃ x, l[j] = x := ⟨_, rfl⟩
    rw [hx] at hc hg hjn HOX
    have c6 : w2.cell? ⟨g, j * 11 + 6, none⟩ = some (.int .u8 x.2.st) := hc 6 _ rfl
    have hj0 : ¬ (j : Int) < 0 := by omega
    have hj1 : (0 : Int) ≤ j := by omega
    have hj2 : (j : Int) < N := by omega
    have HN := Lib.hid hN
    have HJ := Lib.hid hj
    have HXE := Lib.hid (show ∀ h : j < l.length, l[j] = x from fun _ => hx)
    have HJN := Lib.hid hjn
    have HG := Lib.hid hg
    clear hc e hx hj hjn hg hN
    by_cases hst : x.2.st = 2
    · have hsb : (x.2.st != 2) = false := by simp [hst]
      have HOF := Lib.hid (ofE_one HG.out hst)
      have HST := Lib.hid hst
      clear hst
      cases hmy : mayS p
      · have HE := Lib.hid (show dforkE l mo pn p = 2 from by unfold dforkE; rw [HOF.out, hmy]; rfl)
        go_upto_region 6 with fail
        clear c6 y0
        refine wp_region_held_drew (S := fun y => Below w2.heap.size w2 y) (by kernel_rfl) ((Below.refl _ _).drew) (fun hHeld => ?_)
        refine wpAnyH_take (i := 0) (oi := _) (v := ?_) (by rw [List.getElem?_toArray]; exact rfl) (by kernel_rfl) (by kernel_rfl) (by kernel_rfl) (by exact fun _ _ _ h => h) (Or.inl ⟨by rfl, ?_⟩) hHeld ?_
        rotate_left
        · (intro wX hSw; clear hSw; go_simp; try with_reducible rfl)
        try simp only [Act.put, List.setIfInBounds_toArray, List.set_cons_zero, List.set_cons_succ]
        refine wpAnyH_take (i := 1) (oi := _) (v := ?_) (by rw [List.getElem?_toArray]; exact rfl) (by kernel_rfl) (by kernel_rfl) (by kernel_rfl) (by exact fun _ _ _ h => h) (Or.inl ⟨by rfl, ?_⟩) hHeld ?_
        rotate_left
        · (intro wX hSw; obtain ⟨s0, s1⟩ := nm_cells (HBN.out.below hSw); obtain ⟨t0, t1, t2, t3⟩ := task_cells (HBT.out.below hSw); clear hSw; go_simp; try with_reducible rfl)
        try simp only [Act.put, List.setIfInBounds_toArray, List.set_cons_zero, List.set_cons_succ]
        refine wpAnyH_ready (rs := [2]) (by kernel_rfl) (by simp) ?_
        refine AllReadyH.cons (o := _) (by rw [List.getElem?_toArray]; exact rfl) (fun K hK => ?_) AllReadyH.nil
        go_simp
        refine (rmay_any p _ HPS.out).mono ?_; rintro e w6 ⟨rfl, hw6⟩; subst hw6; rw [hmy]
        go_wp2_with fail
        refine hK.out _ _ (hHeld) (fun hHeld => ?_)
        clear hK K
        try simp only [Act.put, List.setIfInBounds_toArray, List.set_cons_zero, List.set_cons_succ]
        refine wpAnyH_take (i := 3) (oi := _) (v := ?_) (by rw [List.getElem?_toArray]; exact rfl) (by kernel_rfl) (by kernel_rfl) (by kernel_rfl) (by exact fun _ _ _ h => h) (Or.inl ⟨by rfl, ?_⟩) hHeld ?_
        rotate_left
        · (intro wX hSw; clear hSw; go_simp; try with_reducible rfl)
        try simp only [Act.put, List.setIfInBounds_toArray, List.set_cons_zero, List.set_cons_succ]
        refine wpAnyH_take (i := 4) (oi := _) (v := ?_) (by rw [List.getElem?_toArray]; exact rfl) (by kernel_rfl) (by kernel_rfl) (by kernel_rfl) (by exact fun _ _ _ h => h) (Or.inl ⟨by rfl, ?_⟩) hHeld ?_
        rotate_left
        · (intro wX hSw; clear hSw; go_simp; try with_reducible rfl)
        try simp only [Act.put, List.setIfInBounds_toArray, List.set_cons_zero, List.set_cons_succ]
        refine wpAnyH_take (i := 5) (oi := _) (v := undef) (by rw [List.getElem?_toArray]; exact rfl) (by kernel_rfl) (by kernel_rfl) (by kernel_rfl) (by exact fun _ _ _ h => h) (Or.inr ⟨by rfl, rfl⟩) hHeld ?_
        try simp only [Act.put, List.setIfInBounds_toArray, List.set_cons_zero, List.set_cons_succ]
        refine wpAnyH_take (i := 6) (oi := _) (v := undef) (by rw [List.getElem?_toArray]; exact rfl) (by kernel_rfl) (by kernel_rfl) (by kernel_rfl) (by exact fun _ _ _ h => h) (Or.inr ⟨by rfl, rfl⟩) hHeld ?_
        try simp only [Act.put, List.setIfInBounds_toArray, List.set_cons_zero, List.set_cons_succ]
        refine wpAnyH_take (i := 7) (oi := _) (v := undef) (by rw [List.getElem?_toArray]; exact rfl) (by kernel_rfl) (by kernel_rfl) (by kernel_rfl) (by exact fun _ _ _ h => h) (Or.inr ⟨by rfl, rfl⟩) hHeld ?_
        try simp only [Act.put, List.setIfInBounds_toArray, List.set_cons_zero, List.set_cons_succ]
        refine wpAnyH_take (i := 8) (oi := _) (v := ?_) (by rw [List.getElem?_toArray]; exact rfl) (by kernel_rfl) (by kernel_rfl) (by kernel_rfl) (by exact fun _ _ _ h => h) (Or.inl ⟨by rfl, ?_⟩) hHeld ?_
        rotate_left
        · (intro wX hSw; clear hSw; go_simp; try with_reducible rfl)
        try simp only [Act.put, List.setIfInBounds_toArray, List.set_cons_zero, List.set_cons_succ]
        refine wpAnyH_take (i := 9) (oi := _) (v := ?_) (by rw [List.getElem?_toArray]; exact rfl) (by kernel_rfl) (by kernel_rfl) (by kernel_rfl) (by exact fun _ _ _ h => h) (Or.inl ⟨by rfl, ?_⟩) hHeld ?_
        rotate_left
        · (intro wX hSw; clear hSw; go_simp; try with_reducible rfl)
        try simp only [Act.put, List.setIfInBounds_toArray, List.set_cons_zero, List.set_cons_succ]
        refine wpAnyH_take (i := 10) (oi := _) (v := undef) (by rw [List.getElem?_toArray]; exact rfl) (by kernel_rfl) (by kernel_rfl) (by kernel_rfl) (by exact fun _ _ _ h => h) (Or.inr ⟨by rfl, rfl⟩) hHeld ?_
        try simp only [Act.put, List.setIfInBounds_toArray, List.set_cons_zero, List.set_cons_succ]
        refine wpAnyH_take (i := 11) (oi := _) (v := undef) (by rw [List.getElem?_toArray]; exact rfl) (by kernel_rfl) (by kernel_rfl) (by kernel_rfl) (by exact fun _ _ _ h => h) (Or.inr ⟨by rfl, rfl⟩) hHeld ?_
        try simp only [Act.put, List.setIfInBounds_toArray, List.set_cons_zero, List.set_cons_succ]
        refine wpAnyH_take (i := 12) (oi := _) (v := undef) (by rw [List.getElem?_toArray]; exact rfl) (by kernel_rfl) (by kernel_rfl) (by kernel_rfl) (by exact fun _ _ _ h => h) (Or.inr ⟨by rfl, rfl⟩) hHeld ?_
        try simp only [Act.put, List.setIfInBounds_toArray, List.set_cons_zero, List.set_cons_succ]
        refine wpAnyH_take (i := 13) (oi := _) (v := undef) (by rw [List.getElem?_toArray]; exact rfl) (by kernel_rfl) (by kernel_rfl) (by kernel_rfl) (by exact fun _ _ _ h => h) (Or.inr ⟨by rfl, rfl⟩) hHeld ?_
        try simp only [Act.put, List.setIfInBounds_toArray, List.set_cons_zero, List.set_cons_succ]
        refine wpAnyH_take (i := 14) (oi := _) (v := undef) (by rw [List.getElem?_toArray]; exact rfl) (by kernel_rfl) (by kernel_rfl) (by kernel_rfl) (by exact fun _ _ _ h => h) (Or.inr ⟨by rfl, rfl⟩) hHeld ?_
        try simp only [Act.put, List.setIfInBounds_toArray, List.set_cons_zero, List.set_cons_succ]
        refine wpAnyH_take (i := 15) (oi := _) (v := undef) (by rw [List.getElem?_toArray]; exact rfl) (by kernel_rfl) (by kernel_rfl) (by kernel_rfl) (by exact fun _ _ _ h => h) (Or.inr ⟨by rfl, rfl⟩) hHeld ?_
        try simp only [Act.put, List.setIfInBounds_toArray, List.set_cons_zero, List.set_cons_succ]
        refine wpAnyH_take (i := 16) (oi := _) (v := undef) (by rw [List.getElem?_toArray]; exact rfl) (by kernel_rfl) (by kernel_rfl) (by kernel_rfl) (by exact fun _ _ _ h => h) (Or.inr ⟨by rfl, rfl⟩) hHeld ?_
        try simp only [Act.put, List.setIfInBounds_toArray, List.set_cons_zero, List.set_cons_succ]
        refine wpAnyH_take (i := 17) (oi := _) (v := undef) (by rw [List.getElem?_toArray]; exact rfl) (by kernel_rfl) (by kernel_rfl) (by kernel_rfl) (by exact fun _ _ _ h => h) (Or.inr ⟨by rfl, rfl⟩) hHeld ?_
        try simp only [Act.put, List.setIfInBounds_toArray, List.set_cons_zero, List.set_cons_succ]
        refine wpAnyH_take (i := 18) (oi := _) (v := undef) (by rw [List.getElem?_toArray]; exact rfl) (by kernel_rfl) (by kernel_rfl) (by kernel_rfl) (by exact fun _ _ _ h => h) (Or.inr ⟨by rfl, rfl⟩) hHeld ?_
        try simp only [Act.put, List.setIfInBounds_toArray, List.set_cons_zero, List.set_cons_succ]
        refine wpAnyH_take (i := 19) (oi := _) (v := undef) (by rw [List.getElem?_toArray]; exact rfl) (by kernel_rfl) (by kernel_rfl) (by kernel_rfl) (by exact fun _ _ _ h => h) (Or.inr ⟨by rfl, rfl⟩) hHeld ?_
        try simp only [Act.put, List.setIfInBounds_toArray, List.set_cons_zero, List.set_cons_succ]
        refine wpAnyH_take (i := 20) (oi := _) (v := ?_) (by rw [List.getElem?_toArray]; exact rfl) (by kernel_rfl) (by kernel_rfl) (by kernel_rfl) (by exact fun _ _ _ h => h) (Or.inl ⟨by rfl, ?_⟩) hHeld ?_
        rotate_left
        · (intro wX hSw; clear hSw; go_simp; try with_reducible rfl)
        try simp only [Act.put, List.setIfInBounds_toArray, List.set_cons_zero, List.set_cons_succ]
        refine wpAnyH_done (by kernel_rfl) ?_ _
        have HB3 := Lib.hid (gthenD HB.out hHeld)
        clear hHeld
        go_wp2_with fail
        go_ret
        exact ForkDP.bad HT.out HB3.out HE.out (by decide)
      · by_cases hpe : p.toList = []
        · have hpb : (p.toList == ([] : List UInt8)) = true := by rw [hpe]; rfl
          have hpb2 : (p.toList != ([] : List UInt8)) = false := by rw [hpe]; rfl
          have HE := Lib.hid (show dforkE l mo pn p = 2 from by unfold dforkE parB; rw [HOF.out, hmy, hpe]; rfl)
          clear hpe
          go_upto_region 6 with fail
          clear c6 y0
          refine wp_region_held_drew (S := fun y => Below w2.heap.size w2 y) (by kernel_rfl) ((Below.refl _ _).drew) (fun hHeld => ?_)
          refine wpAnyH_take (i := 0) (oi := _) (v := ?_) (by rw [List.getElem?_toArray]; exact rfl) (by kernel_rfl) (by kernel_rfl) (by kernel_rfl) (by exact fun _ _ _ h => h) (Or.inl ⟨by rfl, ?_⟩) hHeld ?_
          rotate_left
          · (intro wX hSw; clear hSw; go_simp; try with_reducible rfl)
          try simp only [Act.put, List.setIfInBounds_toArray, List.set_cons_zero, List.set_cons_succ]
          refine wpAnyH_take (i := 1) (oi := _) (v := ?_) (by rw [List.getElem?_toArray]; exact rfl) (by kernel_rfl) (by kernel_rfl) (by kernel_rfl) (by exact fun _ _ _ h => h) (Or.inl ⟨by rfl, ?_⟩) hHeld ?_
          rotate_left
          · (intro wX hSw; obtain ⟨s0, s1⟩ := nm_cells (HBN.out.below hSw); obtain ⟨t0, t1, t2, t3⟩ := task_cells (HBT.out.below hSw); clear hSw; go_simp; try with_reducible rfl)
          try simp only [Act.put, List.setIfInBounds_toArray, List.set_cons_zero, List.set_cons_succ]
          refine wpAnyH_ready (rs := [2]) (by kernel_rfl) (by simp) ?_
          refine AllReadyH.cons (o := _) (by rw [List.getElem?_toArray]; exact rfl) (fun K hK => ?_) AllReadyH.nil
          go_simp
          refine (rmay_any p _ HPS.out).mono ?_; rintro e w6 ⟨rfl, hw6⟩; subst hw6; rw [hmy]
          go_wp2_with fail
          refine hK.out _ _ (hHeld) (fun hHeld => ?_)
          clear hK K
          try simp only [Act.put, List.setIfInBounds_toArray, List.set_cons_zero, List.set_cons_succ]
          refine wpAnyH_take (i := 3) (oi := _) (v := ?_) (by rw [List.getElem?_toArray]; exact rfl) (by kernel_rfl) (by kernel_rfl) (by kernel_rfl) (by exact fun _ _ _ h => h) (Or.inl ⟨by rfl, ?_⟩) hHeld ?_
          rotate_left
          · (intro wX hSw; clear hSw; go_simp; try with_reducible rfl)
          try simp only [Act.put, List.setIfInBounds_toArray, List.set_cons_zero, List.set_cons_succ]
          refine wpAnyH_take (i := 4) (oi := _) (v := ?_) (by rw [List.getElem?_toArray]; exact rfl) (by kernel_rfl) (by kernel_rfl) (by kernel_rfl) (by exact fun _ _ _ h => h) (Or.inl ⟨by rfl, ?_⟩) hHeld ?_
          rotate_left
          · (intro wX hSw; clear hSw; go_simp; try with_reducible rfl)
          try simp only [Act.put, List.setIfInBounds_toArray, List.set_cons_zero, List.set_cons_succ]
          refine wpAnyH_take (i := 5) (oi := _) (v := ?_) (by rw [List.getElem?_toArray]; exact rfl) (by kernel_rfl) (by kernel_rfl) (by kernel_rfl) (by exact fun _ _ _ h => h) (Or.inl ⟨by rfl, ?_⟩) hHeld ?_
          rotate_left
          · (intro wX hSw; clear hSw; go_simp; try with_reducible rfl)
          try simp only [Act.put, List.setIfInBounds_toArray, List.set_cons_zero, List.set_cons_succ]
          refine wpAnyH_take (i := 6) (oi := _) (v := ?_) (by rw [List.getElem?_toArray]; exact rfl) (by kernel_rfl) (by kernel_rfl) (by kernel_rfl) (by exact fun _ _ _ h => h) (Or.inl ⟨by rfl, ?_⟩) hHeld ?_
          rotate_left
          · (intro wX hSw; obtain ⟨s0, s1⟩ := nm_cells (HBN.out.below hSw); obtain ⟨t0, t1, t2, t3⟩ := task_cells (HBT.out.below hSw); clear hSw; go_simp; try with_reducible rfl)
          try simp only [Act.put, List.setIfInBounds_toArray, List.set_cons_zero, List.set_cons_succ]
          refine wpAnyH_take (i := 7) (oi := _) (v := ?_) (by rw [List.getElem?_toArray]; exact rfl) (by kernel_rfl) (by kernel_rfl) (by kernel_rfl) (by exact fun _ _ _ h => h) (Or.inl ⟨by rfl, ?_⟩) hHeld ?_
          rotate_left
          · (intro wX hSw; clear hSw; go_simp; try with_reducible rfl)
          try simp only [Act.put, List.setIfInBounds_toArray, List.set_cons_zero, List.set_cons_succ]
          refine wpAnyH_take (i := 8) (oi := _) (v := ?_) (by rw [List.getElem?_toArray]; exact rfl) (by kernel_rfl) (by kernel_rfl) (by kernel_rfl) (by exact fun _ _ _ h => h) (Or.inl ⟨by rfl, ?_⟩) hHeld ?_
          rotate_left
          · (intro wX hSw; clear hSw; go_simp; try with_reducible rfl)
          try simp only [Act.put, List.setIfInBounds_toArray, List.set_cons_zero, List.set_cons_succ]
          refine wpAnyH_take (i := 9) (oi := _) (v := ?_) (by rw [List.getElem?_toArray]; exact rfl) (by kernel_rfl) (by kernel_rfl) (by kernel_rfl) (by exact fun _ _ _ h => h) (Or.inl ⟨by rfl, ?_⟩) hHeld ?_
          rotate_left
          · (intro wX hSw; clear hSw; go_simp; try with_reducible rfl)
          try simp only [Act.put, List.setIfInBounds_toArray, List.set_cons_zero, List.set_cons_succ]
          refine wpAnyH_take (i := 10) (oi := _) (v := undef) (by rw [List.getElem?_toArray]; exact rfl) (by kernel_rfl) (by kernel_rfl) (by kernel_rfl) (by exact fun _ _ _ h => h) (Or.inr ⟨by rfl, rfl⟩) hHeld ?_
          try simp only [Act.put, List.setIfInBounds_toArray, List.set_cons_zero, List.set_cons_succ]
          refine wpAnyH_take (i := 11) (oi := _) (v := undef) (by rw [List.getElem?_toArray]; exact rfl) (by kernel_rfl) (by kernel_rfl) (by kernel_rfl) (by exact fun _ _ _ h => h) (Or.inr ⟨by rfl, rfl⟩) hHeld ?_
          try simp only [Act.put, List.setIfInBounds_toArray, List.set_cons_zero, List.set_cons_succ]
          refine wpAnyH_take (i := 12) (oi := _) (v := undef) (by rw [List.getElem?_toArray]; exact rfl) (by kernel_rfl) (by kernel_rfl) (by kernel_rfl) (by exact fun _ _ _ h => h) (Or.inr ⟨by rfl, rfl⟩) hHeld ?_
          try simp only [Act.put, List.setIfInBounds_toArray, List.set_cons_zero, List.set_cons_succ]
          refine wpAnyH_take (i := 13) (oi := _) (v := undef) (by rw [List.getElem?_toArray]; exact rfl) (by kernel_rfl) (by kernel_rfl) (by kernel_rfl) (by exact fun _ _ _ h => h) (Or.inr ⟨by rfl, rfl⟩) hHeld ?_
          try simp only [Act.put, List.setIfInBounds_toArray, List.set_cons_zero, List.set_cons_succ]
          refine wpAnyH_take (i := 14) (oi := _) (v := undef) (by rw [List.getElem?_toArray]; exact rfl) (by kernel_rfl) (by kernel_rfl) (by kernel_rfl) (by exact fun _ _ _ h => h) (Or.inr ⟨by rfl, rfl⟩) hHeld ?_
          try simp only [Act.put, List.setIfInBounds_toArray, List.set_cons_zero, List.set_cons_succ]
          refine wpAnyH_take (i := 15) (oi := _) (v := undef) (by rw [List.getElem?_toArray]; exact rfl) (by kernel_rfl) (by kernel_rfl) (by kernel_rfl) (by exact fun _ _ _ h => h) (Or.inr ⟨by rfl, rfl⟩) hHeld ?_
          try simp only [Act.put, List.setIfInBounds_toArray, List.set_cons_zero, List.set_cons_succ]
          refine wpAnyH_take (i := 16) (oi := _) (v := undef) (by rw [List.getElem?_toArray]; exact rfl) (by kernel_rfl) (by kernel_rfl) (by kernel_rfl) (by exact fun _ _ _ h => h) (Or.inr ⟨by rfl, rfl⟩) hHeld ?_
          try simp only [Act.put, List.setIfInBounds_toArray, List.set_cons_zero, List.set_cons_succ]
          refine wpAnyH_take (i := 17) (oi := _) (v := undef) (by rw [List.getElem?_toArray]; exact rfl) (by kernel_rfl) (by kernel_rfl) (by kernel_rfl) (by exact fun _ _ _ h => h) (Or.inr ⟨by rfl, rfl⟩) hHeld ?_
          try simp only [Act.put, List.setIfInBounds_toArray, List.set_cons_zero, List.set_cons_succ]
          refine wpAnyH_take (i := 18) (oi := _) (v := undef) (by rw [List.getElem?_toArray]; exact rfl) (by kernel_rfl) (by kernel_rfl) (by kernel_rfl) (by exact fun _ _ _ h => h) (Or.inr ⟨by rfl, rfl⟩) hHeld ?_
          try simp only [Act.put, List.setIfInBounds_toArray, List.set_cons_zero, List.set_cons_succ]
          refine wpAnyH_take (i := 19) (oi := _) (v := undef) (by rw [List.getElem?_toArray]; exact rfl) (by kernel_rfl) (by kernel_rfl) (by kernel_rfl) (by exact fun _ _ _ h => h) (Or.inr ⟨by rfl, rfl⟩) hHeld ?_
          try simp only [Act.put, List.setIfInBounds_toArray, List.set_cons_zero, List.set_cons_succ]
          refine wpAnyH_take (i := 20) (oi := _) (v := ?_) (by rw [List.getElem?_toArray]; exact rfl) (by kernel_rfl) (by kernel_rfl) (by kernel_rfl) (by exact fun _ _ _ h => h) (Or.inl ⟨by rfl, ?_⟩) hHeld ?_
          rotate_left
          · (intro wX hSw; clear hSw; go_simp; try with_reducible rfl)
          try simp only [Act.put, List.setIfInBounds_toArray, List.set_cons_zero, List.set_cons_succ]
          refine wpAnyH_done (by kernel_rfl) ?_ _
          have HB3 := Lib.hid (gthenD HB.out hHeld)
          clear hHeld
          go_wp2_with fail
          go_ret
          exact ForkDP.bad HT.out HB3.out HE.out (by decide)
        · have hpb : (p.toList == ([] : List UInt8)) = false := by rw [beq_eq_false_iff_ne]; exact hpe
          have hpb2 : (p.toList != ([] : List UInt8)) = true := by simpa using hpe
          have hpB : parB p = true := by
            unfold parB
            rw [hmy, Bool.and_true]
            cases h0 : p.toList with
            | nil => exact absurd h0 hpe
            | cons _ _ => rfl
          have hsz := parB_size hpB
          obtain ⟨k, hk⟩ : ∃ k, p.size - 1 = k := ⟨_, rfl⟩
          have hwr : IntKind.i64.wrap ((p.size : Int) - 1) = (k : Int) := by
            rw [show ((p.size : Int) - 1) = (k : Int) by omega]
            exact IntWalk.i64_in _ (by have := HPS.out; omega)
          have hk1 : (0 : Int) ≤ (k : Int) := by omega
          have hk2 : (k : Int) ≤ (p.size : Int) := by omega
          have hpk : p.extract 0 k = parS p := by rw [← hk]; exact parS_yes hpB
          have HPB := Lib.hid hpB
          clear hpe hpB hk
          by_cases hq : parS p = pn.2
          · have hq1 : ((parS p).toList == pn.2.toList) = true := by rw [hq]; simp
            have hq2 : ((parS p).toList != pn.2.toList) = false := by rw [hq]; simp
            have HE := Lib.hid (show dforkE l mo pn p = freshE l mo (pn.1, p) from by
              unfold dforkE
              rw [HOF.out, hmy, HPB.out, decide_eq_true hq]
              rfl)
            clear hq
            go_upto_region 6 with fail
            clear c6 y0
            refine wp_region_held_drew (S := fun y => Below w2.heap.size w2 y) (by kernel_rfl) ((Below.refl _ _).drew) (fun hHeld => ?_)
            refine wpAnyH_take (i := 0) (oi := _) (v := ?_) (by rw [List.getElem?_toArray]; exact rfl) (by kernel_rfl) (by kernel_rfl) (by kernel_rfl) (by exact fun _ _ _ h => h) (Or.inl ⟨by rfl, ?_⟩) hHeld ?_
            rotate_left
            · (intro wX hSw; clear hSw; go_simp; try with_reducible rfl)
            try simp only [Act.put, List.setIfInBounds_toArray, List.set_cons_zero, List.set_cons_succ]
            refine wpAnyH_take (i := 1) (oi := _) (v := ?_) (by rw [List.getElem?_toArray]; exact rfl) (by kernel_rfl) (by kernel_rfl) (by kernel_rfl) (by exact fun _ _ _ h => h) (Or.inl ⟨by rfl, ?_⟩) hHeld ?_
            rotate_left
            · (intro wX hSw; obtain ⟨s0, s1⟩ := nm_cells (HBN.out.below hSw); obtain ⟨t0, t1, t2, t3⟩ := task_cells (HBT.out.below hSw); clear hSw; go_simp; try with_reducible rfl)
            try simp only [Act.put, List.setIfInBounds_toArray, List.set_cons_zero, List.set_cons_succ]
            refine wpAnyH_ready (rs := [2]) (by kernel_rfl) (by simp) ?_
            refine AllReadyH.cons (o := _) (by rw [List.getElem?_toArray]; exact rfl) (fun K hK => ?_) AllReadyH.nil
            go_simp
            refine (rmay_any p _ HPS.out).mono ?_; rintro e w6 ⟨rfl, hw6⟩; subst hw6; rw [hmy]
            go_wp2_with fail
            refine hK.out _ _ (hHeld) (fun hHeld => ?_)
            clear hK K
            try simp only [Act.put, List.setIfInBounds_toArray, List.set_cons_zero, List.set_cons_succ]
            refine wpAnyH_take (i := 3) (oi := _) (v := ?_) (by rw [List.getElem?_toArray]; exact rfl) (by kernel_rfl) (by kernel_rfl) (by kernel_rfl) (by exact fun _ _ _ h => h) (Or.inl ⟨by rfl, ?_⟩) hHeld ?_
            rotate_left
            · (intro wX hSw; clear hSw; go_simp; try with_reducible rfl)
            try simp only [Act.put, List.setIfInBounds_toArray, List.set_cons_zero, List.set_cons_succ]
            refine wpAnyH_take (i := 4) (oi := _) (v := ?_) (by rw [List.getElem?_toArray]; exact rfl) (by kernel_rfl) (by kernel_rfl) (by kernel_rfl) (by exact fun _ _ _ h => h) (Or.inl ⟨by rfl, ?_⟩) hHeld ?_
            rotate_left
            · (intro wX hSw; clear hSw; go_simp; try with_reducible rfl)
            try simp only [Act.put, List.setIfInBounds_toArray, List.set_cons_zero, List.set_cons_succ]
            refine wpAnyH_take (i := 5) (oi := _) (v := ?_) (by rw [List.getElem?_toArray]; exact rfl) (by kernel_rfl) (by kernel_rfl) (by kernel_rfl) (by exact fun _ _ _ h => h) (Or.inl ⟨by rfl, ?_⟩) hHeld ?_
            rotate_left
            · (intro wX hSw; clear hSw; go_simp; try with_reducible rfl)
            try simp only [Act.put, List.setIfInBounds_toArray, List.set_cons_zero, List.set_cons_succ]
            refine wpAnyH_take (i := 6) (oi := _) (v := ?_) (by rw [List.getElem?_toArray]; exact rfl) (by kernel_rfl) (by kernel_rfl) (by kernel_rfl) (by exact fun _ _ _ h => h) (Or.inl ⟨by rfl, ?_⟩) hHeld ?_
            rotate_left
            · (intro wX hSw; obtain ⟨s0, s1⟩ := nm_cells (HBN.out.below hSw); obtain ⟨t0, t1, t2, t3⟩ := task_cells (HBT.out.below hSw); clear hSw; go_simp; try with_reducible rfl)
            try simp only [Act.put, List.setIfInBounds_toArray, List.set_cons_zero, List.set_cons_succ]
            refine wpAnyH_take (i := 7) (oi := _) (v := ?_) (by rw [List.getElem?_toArray]; exact rfl) (by kernel_rfl) (by kernel_rfl) (by kernel_rfl) (by exact fun _ _ _ h => h) (Or.inl ⟨by rfl, ?_⟩) hHeld ?_
            rotate_left
            · (intro wX hSw; clear hSw; go_simp; try with_reducible rfl)
            try simp only [Act.put, List.setIfInBounds_toArray, List.set_cons_zero, List.set_cons_succ]
            refine wpAnyH_take (i := 8) (oi := _) (v := ?_) (by rw [List.getElem?_toArray]; exact rfl) (by kernel_rfl) (by kernel_rfl) (by kernel_rfl) (by exact fun _ _ _ h => h) (Or.inl ⟨by rfl, ?_⟩) hHeld ?_
            rotate_left
            · (intro wX hSw; clear hSw; go_simp; try with_reducible rfl)
            try simp only [Act.put, List.setIfInBounds_toArray, List.set_cons_zero, List.set_cons_succ]
            refine wpAnyH_take (i := 9) (oi := _) (v := ?_) (by rw [List.getElem?_toArray]; exact rfl) (by kernel_rfl) (by kernel_rfl) (by kernel_rfl) (by exact fun _ _ _ h => h) (Or.inl ⟨by rfl, ?_⟩) hHeld ?_
            rotate_left
            · (intro wX hSw; clear hSw; go_simp; try with_reducible rfl)
            try simp only [Act.put, List.setIfInBounds_toArray, List.set_cons_zero, List.set_cons_succ]
            refine wpAnyH_take (i := 10) (oi := _) (v := ?_) (by rw [List.getElem?_toArray]; exact rfl) (by kernel_rfl) (by kernel_rfl) (by kernel_rfl) (by exact fun _ _ _ h => h) (Or.inl ⟨by rfl, ?_⟩) hHeld ?_
            rotate_left
            · (intro wX hSw; clear hSw; go_simp; try with_reducible rfl)
            try simp only [Act.put, List.setIfInBounds_toArray, List.set_cons_zero, List.set_cons_succ]
            refine wpAnyH_take (i := 11) (oi := _) (v := ?_) (by rw [List.getElem?_toArray]; exact rfl) (by kernel_rfl) (by kernel_rfl) (by kernel_rfl) (by exact fun _ _ _ h => h) (Or.inl ⟨by rfl, ?_⟩) hHeld ?_
            rotate_left
            · (intro wX hSw; obtain ⟨s0, s1⟩ := nm_cells (HBN.out.below hSw); obtain ⟨t0, t1, t2, t3⟩ := task_cells (HBT.out.below hSw); clear hSw; go_simp; try with_reducible rfl)
            try simp only [Act.put, List.setIfInBounds_toArray, List.set_cons_zero, List.set_cons_succ]
            refine wpAnyH_take (i := 12) (oi := _) (v := ?_) (by rw [List.getElem?_toArray]; exact rfl) (by kernel_rfl) (by kernel_rfl) (by kernel_rfl) (by exact fun _ _ _ h => h) (Or.inl ⟨by rfl, ?_⟩) hHeld ?_
            rotate_left
            · (intro wX hSw; clear hSw; go_simp; try with_reducible rfl)
            try simp only [Act.put, List.setIfInBounds_toArray, List.set_cons_zero, List.set_cons_succ]
            refine wpAnyH_take (i := 13) (oi := _) (v := ?_) (by rw [List.getElem?_toArray]; exact rfl) (by kernel_rfl) (by kernel_rfl) (by kernel_rfl) (by exact fun _ _ _ h => h) (Or.inl ⟨by rfl, ?_⟩) hHeld ?_
            rotate_left
            · (intro wX hSw; obtain ⟨s0, s1⟩ := nm_cells (HBN.out.below hSw); obtain ⟨t0, t1, t2, t3⟩ := task_cells (HBT.out.below hSw); clear hSw; go_simp; try with_reducible rfl)
            try simp only [Act.put, List.setIfInBounds_toArray, List.set_cons_zero, List.set_cons_succ]
            refine wpAnyH_take (i := 14) (oi := _) (v := ?_) (by rw [List.getElem?_toArray]; exact rfl) (by kernel_rfl) (by kernel_rfl) (by kernel_rfl) (by exact fun _ _ _ h => h) (Or.inl ⟨by rfl, ?_⟩) hHeld ?_
            rotate_left
            · (intro wX hSw; clear hSw; go_simp; try with_reducible rfl)
            try simp only [Act.put, List.setIfInBounds_toArray, List.set_cons_zero, List.set_cons_succ]
            refine wpAnyH_take (i := 15) (oi := _) (v := ?_) (by rw [List.getElem?_toArray]; exact rfl) (by kernel_rfl) (by kernel_rfl) (by kernel_rfl) (by exact fun _ _ _ h => h) (Or.inl ⟨by rfl, ?_⟩) hHeld ?_
            rotate_left
            · (intro wX hSw; clear hSw; go_simp; try with_reducible rfl)
            try simp only [Act.put, List.setIfInBounds_toArray, List.set_cons_zero, List.set_cons_succ]
            refine wpAnyH_take (i := 16) (oi := _) (v := ?_) (by rw [List.getElem?_toArray]; exact rfl) (by kernel_rfl) (by kernel_rfl) (by kernel_rfl) (by exact fun _ _ _ h => h) (Or.inl ⟨by rfl, ?_⟩) hHeld ?_
            rotate_left
            · (intro wX hSw; clear hSw; go_simp; try with_reducible rfl)
            try simp only [Act.put, List.setIfInBounds_toArray, List.set_cons_zero, List.set_cons_succ]
            refine wpAnyH_take (i := 17) (oi := _) (v := ?_) (by rw [List.getElem?_toArray]; exact rfl) (by kernel_rfl) (by kernel_rfl) (by kernel_rfl) (by exact fun _ _ _ h => h) (Or.inl ⟨by rfl, ?_⟩) hHeld ?_
            rotate_left
            · (intro wX hSw; clear hSw; go_simp; try with_reducible rfl)
            try simp only [Act.put, List.setIfInBounds_toArray, List.set_cons_zero, List.set_cons_succ]
            refine wpAnyH_take (i := 18) (oi := _) (v := ?_) (by rw [List.getElem?_toArray]; exact rfl) (by kernel_rfl) (by kernel_rfl) (by kernel_rfl) (by exact fun _ _ _ h => h) (Or.inl ⟨by rfl, ?_⟩) hHeld ?_
            rotate_left
            · (intro wX hSw; obtain ⟨s0, s1⟩ := nm_cells (HBN.out.below hSw); obtain ⟨t0, t1, t2, t3⟩ := task_cells (HBT.out.below hSw); clear hSw; go_simp; try with_reducible rfl)
            try simp only [Act.put, List.setIfInBounds_toArray, List.set_cons_zero, List.set_cons_succ]
            refine wpAnyH_take (i := 19) (oi := _) (v := ?_) (by rw [List.getElem?_toArray]; exact rfl) (by kernel_rfl) (by kernel_rfl) (by kernel_rfl) (by exact fun _ _ _ h => h) (Or.inl ⟨by rfl, ?_⟩) hHeld ?_
            rotate_left
            · (intro wX hSw; clear hSw; go_simp; try with_reducible rfl)
            try simp only [Act.put, List.setIfInBounds_toArray, List.set_cons_zero, List.set_cons_succ]
            refine wpAnyH_take (i := 20) (oi := _) (v := ?_) (by rw [List.getElem?_toArray]; exact rfl) (by kernel_rfl) (by kernel_rfl) (by kernel_rfl) (by exact fun _ _ _ h => h) (Or.inl ⟨by rfl, ?_⟩) hHeld ?_
            rotate_left
            · (intro wX hSw; clear hSw; go_simp; try with_reducible rfl)
            try simp only [Act.put, List.setIfInBounds_toArray, List.set_cons_zero, List.set_cons_succ]
            refine wpAnyH_done (by kernel_rfl) ?_ _
            clear hHeld
            clear hwr hk1 hk2 hpk hq1 hq2 hpb hpb2 hsb hsz
            have HB3 := Lib.hid (show Below w.heap.size w w2.drew from gthenD HB.out (Below.refl _ _).drew)
            have H3 := Lib.hid (H2.out.below (Below.refl _ _).drew)
            replace HBN := Lib.hid (HBN.out.below (Below.refl _ _).drew)
            replace HBT := Lib.hid (HBT.out.below (Below.refl _ _).drew)
            generalize w2.drew = w3 at *
            obtain ⟨s0, s1⟩ := nm_cells HBN.out
            obtain ⟨t0, t1, t2, t3⟩ := task_cells HBT.out
            have hA4 := alD w3 (cellsM (pn.1, p))
            have HB4 := Lib.hid (gthenD HB3.out hA4)
            have H4 := Lib.hid (H3.out.below hA4)
            replace HBT := Lib.hid (HBT.out.below hA4)
            have HBQ := Lib.hid (show BoxAt (w3.alloc (cellsM (pn.1, p))) w3.heap.size #[.int .u64 (pn.1, p).1, .string (pn.1, p).2] NmT from heap_alloc_new _ _)
            clear hA4
            go_upto_region 9 with fail
            simp only [cellsM] at HB4 H4 HBT HBQ
            clear s0 s1 t0 t1 t2 t3
            generalize w3.alloc (.cells #[.int .u64 pn.1, .string p] NmT) = w4 at *
            generalize w3.heap.size = qb at *
            have q0 : w4.cell? ⟨qb, 0, none⟩ = some (.int .u64 pn.1) := HBQ.out.cell 0
            have q1 : w4.cell? ⟨qb, 1, none⟩ = some (.string p) := HBQ.out.cell 1
            go_wp2_with fail
            refine (dfresh_any (pn.1, p) H4.out hm).mono ?_
            rintro e w5 ⟨rfl, hB⟩
            have HB5 := Lib.hid (gthenD HB4.out hB)
            have H5 := Lib.hid (H4.out.below hB)
            replace HBT := Lib.hid (HBT.out.below hB)
            replace HBQ := Lib.hid (HBQ.out.below hB)
            clear hB q0 q1 HB HB3 HB4 H2 H3 H4 HBN
            obtain ⟨fe, hfe⟩ : ∃ z, freshE l mo (pn.1, p) = z := ⟨_, rfl⟩
            rw [hfe] at HE ⊢
            clear hfe
            by_cases hz : fe = 0
            · subst hz
              obtain ⟨g2, cap2, e, hc⟩ := H5.out.at HJ.out
              rw [HLVG.out] at e
              injection e with e1 _ e3
              injection e1 with e1
              injection e1 with e1
              subst e1
              rw [HXE.out HJ.out] at hc
              have y0 := H5.out.cell
              rw [HLVG.out, HN.out] at y0
              have c0 : w5.cell? ⟨g, j * 11, none⟩ = some (.int .u64 x.1.1) := hc 0 _ rfl
              have c1 : w5.cell? ⟨g, j * 11 + 1, none⟩ = some (.string x.1.2) := hc 1 _ rfl
              have c2 : w5.cell? ⟨g, j * 11 + 2, none⟩ = some (.string x.1.2) := hc 2 _ rfl
              have c3 : w5.cell? ⟨g, j * 11 + 3, none⟩ = some (.int .i64 x.2.fn) := hc 3 _ rfl
              have c4 : w5.cell? ⟨g, j * 11 + 4, none⟩ = some (.slice x.2.aa x.2.args.length x.2.ac) := hc 4 _ rfl
              have c5 : w5.cell? ⟨g, j * 11 + 5, none⟩ = some (.int .i64 x.2.fuel) := hc 5 _ rfl
              have c6 : w5.cell? ⟨g, j * 11 + 6, none⟩ = some (.int .u8 x.2.st) := hc 6 _ rfl
              have c7 : w5.cell? ⟨g, j * 11 + 7, none⟩ = some (.int .i64 x.2.op) := hc 7 _ rfl
              have c8 : w5.cell? ⟨g, j * 11 + 8, none⟩ = some (.int .i64 x.2.val) := hc 8 _ rfl
              have c9 : w5.cell? ⟨g, j * 11 + 9, none⟩ = some (.int .i64 x.2.err) := hc 9 _ rfl
              have c10 : w5.cell? ⟨g, j * 11 + 10, none⟩ = some (.bool x.2.fk) := hc 10 _ rfl
              have hopw : IntKind.i64.wrap (x.2.op + 1) = x.2.op + 1 := IntWalk.i64_in _ (by have := HOX.out; omega)
              have hA2 := alD w5 (cellsR ((x.1, ({ x.2 with op := x.2.op + 1 } : Rw)) : Rl))
              have HD := Lib.hid (H5.out.below hA2)
              have HB6 := Lib.hid (gthenD HB5.out hA2)
              replace HBT := Lib.hid (HBT.out.below hA2)
              replace HBQ := Lib.hid (HBQ.out.below hA2)
              clear hc e3
              go_upto_region 14 with fail
              have hbx : (w5.alloc (cellsR ((x.1, ({ x.2 with op := x.2.op + 1 } : Rw)) : Rl))).heap[w5.heap.size]? = some (cellsR ((x.1, ({ x.2 with op := x.2.op + 1 } : Rw)) : Rl)) := heap_alloc_new _ _
              simp only at hbx hA2 HD HB6 HBT HBQ
              replace y0 := (hA2.cell (p := ⟨r, 1, none⟩) (World.block_lt_of_cell? _ _ y0)).trans y0
              replace c0 := (hA2.cell (p := ⟨g, j * 11, none⟩) (World.block_lt_of_cell? _ _ c0)).trans c0
              replace c1 := (hA2.cell (p := ⟨g, j * 11 + 1, none⟩) (World.block_lt_of_cell? _ _ c1)).trans c1
              replace c2 := (hA2.cell (p := ⟨g, j * 11 + 2, none⟩) (World.block_lt_of_cell? _ _ c2)).trans c2
              replace c3 := (hA2.cell (p := ⟨g, j * 11 + 3, none⟩) (World.block_lt_of_cell? _ _ c3)).trans c3
              replace c4 := (hA2.cell (p := ⟨g, j * 11 + 4, none⟩) (World.block_lt_of_cell? _ _ c4)).trans c4
              replace c5 := (hA2.cell (p := ⟨g, j * 11 + 5, none⟩) (World.block_lt_of_cell? _ _ c5)).trans c5
              replace c6 := (hA2.cell (p := ⟨g, j * 11 + 6, none⟩) (World.block_lt_of_cell? _ _ c6)).trans c6
              replace c7 := (hA2.cell (p := ⟨g, j * 11 + 7, none⟩) (World.block_lt_of_cell? _ _ c7)).trans c7
              replace c8 := (hA2.cell (p := ⟨g, j * 11 + 8, none⟩) (World.block_lt_of_cell? _ _ c8)).trans c8
              replace c9 := (hA2.cell (p := ⟨g, j * 11 + 9, none⟩) (World.block_lt_of_cell? _ _ c9)).trans c9
              replace c10 := (hA2.cell (p := ⟨g, j * 11 + 10, none⟩) (World.block_lt_of_cell? _ _ c10)).trans c10
              generalize w5.alloc (Obj.cells #[.int .u64 x.1.1, .string x.1.2, .string x.1.2, .int .i64 x.2.fn, .slice x.2.aa x.2.args.length x.2.ac, .int .i64 x.2.fuel, .int .u8 x.2.st, .int .i64 (x.2.op + 1), .int .i64 x.2.val, .int .i64 x.2.err, .bool x.2.fk] RowT) = wq at *
              generalize w5.heap.size = xb at *
              have b0 : wq.cell? ⟨xb, 0, none⟩ = some (.int .u64 x.1.1) := by simp [World.cell?, hbx]
              have b1 : wq.cell? ⟨xb, 1, none⟩ = some (.string x.1.2) := by simp [World.cell?, hbx]
              have b2 : wq.cell? ⟨xb, 2, none⟩ = some (.string x.1.2) := by simp [World.cell?, hbx]
              have b3 : wq.cell? ⟨xb, 3, none⟩ = some (.int .i64 x.2.fn) := by simp [World.cell?, hbx]
              have b4 : wq.cell? ⟨xb, 4, none⟩ = some (.slice x.2.aa x.2.args.length x.2.ac) := by simp [World.cell?, hbx]
              have b5 : wq.cell? ⟨xb, 5, none⟩ = some (.int .i64 x.2.fuel) := by simp [World.cell?, hbx]
              have b6 : wq.cell? ⟨xb, 6, none⟩ = some (.int .u8 x.2.st) := by simp [World.cell?, hbx]
              have b7 : wq.cell? ⟨xb, 7, none⟩ = some (.int .i64 (x.2.op + 1)) := by simp [World.cell?, hbx]
              have b8 : wq.cell? ⟨xb, 8, none⟩ = some (.int .i64 x.2.val) := by simp [World.cell?, hbx]
              have b9 : wq.cell? ⟨xb, 9, none⟩ = some (.int .i64 x.2.err) := by simp [World.cell?, hbx]
              have b10 : wq.cell? ⟨xb, 10, none⟩ = some (.bool x.2.fk) := by simp [World.cell?, hbx]
              have hfz : ∀ i, wq.frozen? ⟨g, i, none⟩ = false := fun i => by
                have ho := HD.out.own
                have hlvg := HLVG.out
                obtain ⟨_, ⟨hv, h0⟩ | ⟨g', cap', cur, hv, _, hh, _⟩⟩ := ho
                · exfalso; rw [hv] at hlvg; cases hlvg
                · have e1 : g' = g := by rw [hv] at hlvg; injection hlvg with e1 _ _; injection e1 with e1; injection e1
                  subst e1
                  simp [World.frozen?, hh]
              have hFW := wrt11_fr wq g (j * 11) ((x.1, ({ x.2 with op := x.2.op + 1 } : Rw)) : Rl)
              have hgo : lv.ownBlock = some g := by rw [HLVG.out]; rfl
              have HX := Lib.hid (show Dt Z r mo lv (updA l pn ({ x.2 with op := x.2.op + 1 } : Rw)) (wrt11 wq g (j * 11) ((x.1, ({ x.2 with op := x.2.op + 1 } : Rw)) : Rl)).drew ∧ DL r lv w lv (wrt11 wq g (j * 11) ((x.1, ({ x.2 with op := x.2.op + 1 } : Rw)) : Rl)).drew from by
                obtain ⟨h1, h2⟩ := HD.out.set (x := ((x.1, ({ x.2 with op := x.2.op + 1 } : Rw)) : Rl)) HLVG.out HJ.out (by rw [HXE.out HJ.out]) (by rw [HXE.out HJ.out]) (by rw [HXE.out HJ.out])
                refine ⟨?_, h2.from HB6.out⟩
                have e2 : l.set j ((x.1, ({ x.2 with op := x.2.op + 1 } : Rw)) : Rl) = updA l pn ({ x.2 with op := x.2.op + 1 } : Rw) := by
                  rw [show ((x.1, ({ x.2 with op := x.2.op + 1 } : Rw)) : Rl) = (pn, ((x.1, ({ x.2 with op := x.2.op + 1 } : Rw)) : Rl).2) from Prod.ext HJN.out rfl, set_upd HND.out HJ.out (by rw [HXE.out HJ.out]; exact HJN.out)]
                rw [← e2]
                exact h1)
              have HBZ := Lib.hid (show Below Z w (wrt11 wq g (j * 11) ((x.1, ({ x.2 with op := x.2.op + 1 } : Rw)) : Rl)).drew from ((HB6.out.mono HZ.out).trans (hFW.below (fun i e => by subst e; exact (HD.out.own.lt _ hgo).1) (Nat.le_trans HZ.out HB6.out.size))).drew)
              replace HBT := Lib.hid (BoxAt.below (HBT.out.fr hFW (fun e => own_not_box HD.out.own HBT.out (by decide) (by rw [hgo, e]))) (Below.refl _ _).drew)
              replace HBQ := Lib.hid (BoxAt.below (HBQ.out.fr hFW (fun e => own_not_box HD.out.own HBQ.out (by decide) (by rw [hgo, e]))) (Below.refl _ _).drew)
              clear hbx hA2 hFW hgo
              go_still_tail 7, (by kernel_rfl)
              change wpList _ _ _ _ _ wq.drew
              go_upto_region 15 with fail
              clear c0 c1 c2 c3 c4 c5 c6 c7 c8 c9 c10 b0 b1 b2 b3 b4 b5 b6 b7 b8 b9 b10 y0 hfz hopw
              generalize hwd : (wrt11 wq g (j * 11) ((x.1, ({ x.2 with op := x.2.op + 1 } : Rw)) : Rl)).drew = wd at *
              unfold wrt11 at hwd
              first | rw [hwd] | (simp only at hwd; rw [hwd])
              clear hwd
              have q0 : wd.cell? ⟨qb, 0, none⟩ = some (.int .u64 pn.1) := HBQ.out.cell 0
              have q1 : wd.cell? ⟨qb, 1, none⟩ = some (.string p) := HBQ.out.cell 1
              obtain ⟨t0, t1, t2, t3⟩ := task_cells HBT.out
              go_wp2_with fail
              refine (dadd_any (((pn.1, p), ⟨fn, aa, ac, args, fuel, 1, 0, 0, 0, true⟩) : Rl) HX.out.1 (by unfold updA; rw [List.length_map]; exact hm) HPS.out (upd_sizes HML.out) (HAZ.out.keep HBZ.out)).mono ?_
              rintro e w7 ⟨rfl, lv', k, hk, hd, hl⟩
              have HY := Lib.hid (show ForkDP Z r mo lv l pn p ⟨fn, aa, ac, args, fuel, 1, 0, 0, 0, true⟩ w (.returned (.int .i64 0)) w7 from ⟨by rw [HE.out], .inr ⟨HE.out, x.2, lv', k, HG.out, hk, hd, HX.out.2.trans hl⟩⟩)
              clear hk hd hl q0 q1 t0 t1 t2 t3
              go_wp2_with fail
              go_ret
              exact HY.out
            · have hzb : (fe == 0) = false := by rw [beq_eq_false_iff_ne]; exact hz
              have hzc : (fe != 0) = true := by simpa using hz
              have HZE := Lib.hid hz
              clear hz
              go_wp2_with fail
              go_ret
              exact ForkDP.bad HT.out HB5.out HE.out HZE.out
          · have hq1 : ((parS p).toList == pn.2.toList) = false := by rw [beq_eq_false_iff_ne]; exact fun e => hq (str_eq.1 e)
            have hq2 : ((parS p).toList != pn.2.toList) = true := by simpa using fun e => hq (str_eq.1 e)
            have HE := Lib.hid (show dforkE l mo pn p = 2 from by
              unfold dforkE
              rw [HOF.out, hmy, HPB.out, decide_eq_false hq]
              rfl)
            clear hq
            go_upto_region 6 with fail
            clear c6 y0
            refine wp_region_held_drew (S := fun y => Below w2.heap.size w2 y) (by kernel_rfl) ((Below.refl _ _).drew) (fun hHeld => ?_)
            refine wpAnyH_take (i := 0) (oi := _) (v := ?_) (by rw [List.getElem?_toArray]; exact rfl) (by kernel_rfl) (by kernel_rfl) (by kernel_rfl) (by exact fun _ _ _ h => h) (Or.inl ⟨by rfl, ?_⟩) hHeld ?_
            rotate_left
            · (intro wX hSw; clear hSw; go_simp; try with_reducible rfl)
            try simp only [Act.put, List.setIfInBounds_toArray, List.set_cons_zero, List.set_cons_succ]
            refine wpAnyH_take (i := 1) (oi := _) (v := ?_) (by rw [List.getElem?_toArray]; exact rfl) (by kernel_rfl) (by kernel_rfl) (by kernel_rfl) (by exact fun _ _ _ h => h) (Or.inl ⟨by rfl, ?_⟩) hHeld ?_
            rotate_left
            · (intro wX hSw; obtain ⟨s0, s1⟩ := nm_cells (HBN.out.below hSw); obtain ⟨t0, t1, t2, t3⟩ := task_cells (HBT.out.below hSw); clear hSw; go_simp; try with_reducible rfl)
            try simp only [Act.put, List.setIfInBounds_toArray, List.set_cons_zero, List.set_cons_succ]
            refine wpAnyH_ready (rs := [2]) (by kernel_rfl) (by simp) ?_
            refine AllReadyH.cons (o := _) (by rw [List.getElem?_toArray]; exact rfl) (fun K hK => ?_) AllReadyH.nil
            go_simp
            refine (rmay_any p _ HPS.out).mono ?_; rintro e w6 ⟨rfl, hw6⟩; subst hw6; rw [hmy]
            go_wp2_with fail
            refine hK.out _ _ (hHeld) (fun hHeld => ?_)
            clear hK K
            try simp only [Act.put, List.setIfInBounds_toArray, List.set_cons_zero, List.set_cons_succ]
            refine wpAnyH_take (i := 3) (oi := _) (v := ?_) (by rw [List.getElem?_toArray]; exact rfl) (by kernel_rfl) (by kernel_rfl) (by kernel_rfl) (by exact fun _ _ _ h => h) (Or.inl ⟨by rfl, ?_⟩) hHeld ?_
            rotate_left
            · (intro wX hSw; clear hSw; go_simp; try with_reducible rfl)
            try simp only [Act.put, List.setIfInBounds_toArray, List.set_cons_zero, List.set_cons_succ]
            refine wpAnyH_take (i := 4) (oi := _) (v := ?_) (by rw [List.getElem?_toArray]; exact rfl) (by kernel_rfl) (by kernel_rfl) (by kernel_rfl) (by exact fun _ _ _ h => h) (Or.inl ⟨by rfl, ?_⟩) hHeld ?_
            rotate_left
            · (intro wX hSw; clear hSw; go_simp; try with_reducible rfl)
            try simp only [Act.put, List.setIfInBounds_toArray, List.set_cons_zero, List.set_cons_succ]
            refine wpAnyH_take (i := 5) (oi := _) (v := ?_) (by rw [List.getElem?_toArray]; exact rfl) (by kernel_rfl) (by kernel_rfl) (by kernel_rfl) (by exact fun _ _ _ h => h) (Or.inl ⟨by rfl, ?_⟩) hHeld ?_
            rotate_left
            · (intro wX hSw; clear hSw; go_simp; try with_reducible rfl)
            try simp only [Act.put, List.setIfInBounds_toArray, List.set_cons_zero, List.set_cons_succ]
            refine wpAnyH_take (i := 6) (oi := _) (v := ?_) (by rw [List.getElem?_toArray]; exact rfl) (by kernel_rfl) (by kernel_rfl) (by kernel_rfl) (by exact fun _ _ _ h => h) (Or.inl ⟨by rfl, ?_⟩) hHeld ?_
            rotate_left
            · (intro wX hSw; obtain ⟨s0, s1⟩ := nm_cells (HBN.out.below hSw); obtain ⟨t0, t1, t2, t3⟩ := task_cells (HBT.out.below hSw); clear hSw; go_simp; try with_reducible rfl)
            try simp only [Act.put, List.setIfInBounds_toArray, List.set_cons_zero, List.set_cons_succ]
            refine wpAnyH_take (i := 7) (oi := _) (v := ?_) (by rw [List.getElem?_toArray]; exact rfl) (by kernel_rfl) (by kernel_rfl) (by kernel_rfl) (by exact fun _ _ _ h => h) (Or.inl ⟨by rfl, ?_⟩) hHeld ?_
            rotate_left
            · (intro wX hSw; clear hSw; go_simp; try with_reducible rfl)
            try simp only [Act.put, List.setIfInBounds_toArray, List.set_cons_zero, List.set_cons_succ]
            refine wpAnyH_take (i := 8) (oi := _) (v := ?_) (by rw [List.getElem?_toArray]; exact rfl) (by kernel_rfl) (by kernel_rfl) (by kernel_rfl) (by exact fun _ _ _ h => h) (Or.inl ⟨by rfl, ?_⟩) hHeld ?_
            rotate_left
            · (intro wX hSw; clear hSw; go_simp; try with_reducible rfl)
            try simp only [Act.put, List.setIfInBounds_toArray, List.set_cons_zero, List.set_cons_succ]
            refine wpAnyH_take (i := 9) (oi := _) (v := ?_) (by rw [List.getElem?_toArray]; exact rfl) (by kernel_rfl) (by kernel_rfl) (by kernel_rfl) (by exact fun _ _ _ h => h) (Or.inl ⟨by rfl, ?_⟩) hHeld ?_
            rotate_left
            · (intro wX hSw; clear hSw; go_simp; try with_reducible rfl)
            try simp only [Act.put, List.setIfInBounds_toArray, List.set_cons_zero, List.set_cons_succ]
            refine wpAnyH_take (i := 10) (oi := _) (v := ?_) (by rw [List.getElem?_toArray]; exact rfl) (by kernel_rfl) (by kernel_rfl) (by kernel_rfl) (by exact fun _ _ _ h => h) (Or.inl ⟨by rfl, ?_⟩) hHeld ?_
            rotate_left
            · (intro wX hSw; clear hSw; go_simp; try with_reducible rfl)
            try simp only [Act.put, List.setIfInBounds_toArray, List.set_cons_zero, List.set_cons_succ]
            refine wpAnyH_take (i := 11) (oi := _) (v := ?_) (by rw [List.getElem?_toArray]; exact rfl) (by kernel_rfl) (by kernel_rfl) (by kernel_rfl) (by exact fun _ _ _ h => h) (Or.inl ⟨by rfl, ?_⟩) hHeld ?_
            rotate_left
            · (intro wX hSw; obtain ⟨s0, s1⟩ := nm_cells (HBN.out.below hSw); obtain ⟨t0, t1, t2, t3⟩ := task_cells (HBT.out.below hSw); clear hSw; go_simp; try with_reducible rfl)
            try simp only [Act.put, List.setIfInBounds_toArray, List.set_cons_zero, List.set_cons_succ]
            refine wpAnyH_take (i := 12) (oi := _) (v := ?_) (by rw [List.getElem?_toArray]; exact rfl) (by kernel_rfl) (by kernel_rfl) (by kernel_rfl) (by exact fun _ _ _ h => h) (Or.inl ⟨by rfl, ?_⟩) hHeld ?_
            rotate_left
            · (intro wX hSw; clear hSw; go_simp; try with_reducible rfl)
            try simp only [Act.put, List.setIfInBounds_toArray, List.set_cons_zero, List.set_cons_succ]
            refine wpAnyH_take (i := 13) (oi := _) (v := ?_) (by rw [List.getElem?_toArray]; exact rfl) (by kernel_rfl) (by kernel_rfl) (by kernel_rfl) (by exact fun _ _ _ h => h) (Or.inl ⟨by rfl, ?_⟩) hHeld ?_
            rotate_left
            · (intro wX hSw; obtain ⟨s0, s1⟩ := nm_cells (HBN.out.below hSw); obtain ⟨t0, t1, t2, t3⟩ := task_cells (HBT.out.below hSw); clear hSw; go_simp; try with_reducible rfl)
            try simp only [Act.put, List.setIfInBounds_toArray, List.set_cons_zero, List.set_cons_succ]
            refine wpAnyH_take (i := 14) (oi := _) (v := ?_) (by rw [List.getElem?_toArray]; exact rfl) (by kernel_rfl) (by kernel_rfl) (by kernel_rfl) (by exact fun _ _ _ h => h) (Or.inl ⟨by rfl, ?_⟩) hHeld ?_
            rotate_left
            · (intro wX hSw; clear hSw; go_simp; try with_reducible rfl)
            try simp only [Act.put, List.setIfInBounds_toArray, List.set_cons_zero, List.set_cons_succ]
            refine wpAnyH_take (i := 15) (oi := _) (v := ?_) (by rw [List.getElem?_toArray]; exact rfl) (by kernel_rfl) (by kernel_rfl) (by kernel_rfl) (by exact fun _ _ _ h => h) (Or.inl ⟨by rfl, ?_⟩) hHeld ?_
            rotate_left
            · (intro wX hSw; clear hSw; go_simp; try with_reducible rfl)
            try simp only [Act.put, List.setIfInBounds_toArray, List.set_cons_zero, List.set_cons_succ]
            refine wpAnyH_take (i := 16) (oi := _) (v := ?_) (by rw [List.getElem?_toArray]; exact rfl) (by kernel_rfl) (by kernel_rfl) (by kernel_rfl) (by exact fun _ _ _ h => h) (Or.inl ⟨by rfl, ?_⟩) hHeld ?_
            rotate_left
            · (intro wX hSw; clear hSw; go_simp; try with_reducible rfl)
            try simp only [Act.put, List.setIfInBounds_toArray, List.set_cons_zero, List.set_cons_succ]
            refine wpAnyH_take (i := 17) (oi := _) (v := ?_) (by rw [List.getElem?_toArray]; exact rfl) (by kernel_rfl) (by kernel_rfl) (by kernel_rfl) (by exact fun _ _ _ h => h) (Or.inl ⟨by rfl, ?_⟩) hHeld ?_
            rotate_left
            · (intro wX hSw; clear hSw; go_simp; try with_reducible rfl)
            try simp only [Act.put, List.setIfInBounds_toArray, List.set_cons_zero, List.set_cons_succ]
            refine wpAnyH_take (i := 18) (oi := _) (v := ?_) (by rw [List.getElem?_toArray]; exact rfl) (by kernel_rfl) (by kernel_rfl) (by kernel_rfl) (by exact fun _ _ _ h => h) (Or.inl ⟨by rfl, ?_⟩) hHeld ?_
            rotate_left
            · (intro wX hSw; obtain ⟨s0, s1⟩ := nm_cells (HBN.out.below hSw); obtain ⟨t0, t1, t2, t3⟩ := task_cells (HBT.out.below hSw); clear hSw; go_simp; try with_reducible rfl)
            try simp only [Act.put, List.setIfInBounds_toArray, List.set_cons_zero, List.set_cons_succ]
            refine wpAnyH_take (i := 19) (oi := _) (v := ?_) (by rw [List.getElem?_toArray]; exact rfl) (by kernel_rfl) (by kernel_rfl) (by kernel_rfl) (by exact fun _ _ _ h => h) (Or.inl ⟨by rfl, ?_⟩) hHeld ?_
            rotate_left
            · (intro wX hSw; clear hSw; go_simp; try with_reducible rfl)
            try simp only [Act.put, List.setIfInBounds_toArray, List.set_cons_zero, List.set_cons_succ]
            refine wpAnyH_take (i := 20) (oi := _) (v := ?_) (by rw [List.getElem?_toArray]; exact rfl) (by kernel_rfl) (by kernel_rfl) (by kernel_rfl) (by exact fun _ _ _ h => h) (Or.inl ⟨by rfl, ?_⟩) hHeld ?_
            rotate_left
            · (intro wX hSw; clear hSw; go_simp; try with_reducible rfl)
            try simp only [Act.put, List.setIfInBounds_toArray, List.set_cons_zero, List.set_cons_succ]
            refine wpAnyH_done (by kernel_rfl) ?_ _
            have HB3 := Lib.hid (gthenD HB.out hHeld)
            clear hHeld
            go_wp2_with fail
            go_ret
            exact ForkDP.bad HT.out HB3.out HE.out (by decide)
    · have hsb : (x.2.st != 2) = true := by simp [hst]
      have HE := Lib.hid (show dforkE l mo pn p = 3 from by unfold dforkE; rw [ofE_not HG.out hst]; rfl)
      clear hst
      go_wp2_with fail
      go_ret
      exact ForkDP.bad HT.out HB.out HE.out (by decide)
end Go.Proofs.Ythbkbmkcgpdedaa
