/- Rounds in plain lists; Begin. -/
import Derived.Test.YtenebamecmblaaaRnd2
import Derived.Test.YtenebamecmblaaaCredV
namespace Go.Proofs.Ytenebamecmblaaa
open Go.RowKit Go.Sort Go.Lib

abbrev AO := List Int × List (Nm × List Int)
abbrev AB := List (Int × AO)
def abO (x : On) : AO := (x.held.l, x.out.map fun q => (q.1, q.2.l))
def absR (L : Rd) : AB := L.map fun p => (p.1, abO p.2)
def Nxt (r m : Nat) (L : Rd) (w : World) (A : AB) (w' : World) : Prop := ∃ L', absR L' = A ∧ Rds w' r m L' ∧ Mv m L w L' w'
theorem absR_len (L : Rd) : (absR L).length = L.length := by unfold absR; simp
theorem getL_absR (L : Rd) (n : Int) : U.getL (absR L) n = (U.getL L n).map abO := by
  unfold U.getL absR
  rw [List.find?_map, Option.map_map, Option.map_map]
  rfl
theorem Nxt.same {r m : Nat} {L : Rd} {w w' : World} (h : Rds w' r m L) (hB : Below w.heap.size w w') : Nxt r m L w (absR L) w' := ⟨L, rfl, h, .below m L hB⟩
def beginE (A : AB) (n : Int) : Int := if (U.getL A n).isSome then 7 else if 256 ≤ A.length then 6 else 0
def beginA (A : AB) (n : Int) : AB := if beginE A n = 0 then A ++ [(n, ([0], []))] else A
theorem heldn {n : Nat} {w y : World} (h : Below n w.drew y) : Below n w y := ⟨h.os, h.tape, h.output, h.size, h.block⟩
theorem CrOk.below {w w' : World} {y : Cr} (h : CrOk w y) (hB : Below w.heap.size w w') : CrOk w' y := h.keep fun i hi => hB.block i hi.lt
theorem OnOk.made {W : World} {o : Nat} {y : Cr} (hm : MapL evC W o []) (hc : CrOk W y) : OnOk (W.alloc (onO ⟨W.heap.size, o, y, []⟩)) ⟨W.heap.size, o, y, []⟩ :=
  ⟨heap_alloc_new _ _, hm.block ((below_allocC W _).block _ hm.lt), hc.below (below_allocC W _), (by intro p hp; cases hp), (by intro p hp; cases hp)⟩
theorem CrOk.one {w : World} {B b c : Nat} (h : w.ownsRow B 3 1 (.slice (some ⟨b, 0, none⟩) 1 c) 1 ([(0 : Int)].flatMap encC)) : CrOk w ⟨some ⟨b, 0, none⟩, c, [0]⟩ := owns_low h (Nat.zero_le _)
theorem rheld {w y : World} (h : Below w.drew.heap.size w.drew y) : Below w.heap.size w y := ⟨h.os, h.tape, h.output, h.size, h.block⟩
theorem rheld2 {w y : World} (h : Below (w.drew.alloc (.map #[] 0)).heap.size (w.drew.alloc (.map #[] 0)) y) : Below w.heap.size w y ∧ MapL evC y w.heap.size [] :=
  ⟨rheld (((Below.refl _ _).alloc (Nat.le_refl _) _).trans (h.mono (by simp))), (MapL.made evC w.drew).block (h.block _ (by simp))⟩
set_option maxHeartbeats 3200000 in
set_option maxRecDepth 100000 in
theorem begin_rnd (r m : Nat) (L : Rd) (n : Int) (w : World) (h : Rds w r m L) (hL : L.length ≤ 1000000) : Calls Try.prog 8 #[.pointer (some ⟨r, 0, none⟩), .int .u64 n] w fun e w' => e = .returned (.int .i64 (beginE (absR L) n)) ∧ Nxt r m L w (beginA (absR L) n) w' := by
  have hl1 := h.look_at rfl n
  have c0 := h.c0
  have hmn := mapNilR w (some m)
  have hlen := fun ty => h.map.len (P := Try.prog) (k := 26) Try.underlying60 ty
  have hll : ((mapR L).length : Int) = L.length := by unfold mapR; simp
  rw [hll] at hlen
  clear hll
  have H := Lib.hid h
  unfold ptrR at hl1
  clear h
  cases hg : U.getL L n with
  | some x =>
    rw [hg] at hl1
    simp only [Option.map_some] at hl1
    have he := Lib.hid (show beginE (absR L) n = 7 by unfold beginE; rw [getL_absR, hg]; rfl)
    clear hg
    go_enter Try.func8, Try.ntmps8
    go_wp2_with fail
    go_ret
    refine ⟨ret_intE he.out.symm, ?_⟩
    have := Nxt.same H.out (Below.refl w.heap.size w)
    unfold beginA; rw [he.out]; exact this
  | none =>
    rw [hg] at hl1
    simp only [Option.map_none] at hl1
    have HG := Lib.hid hg
    clear hg
    by_cases hf : 256 ≤ L.length
    · have he := Lib.hid (show beginE (absR L) n = 6 by unfold beginE; rw [getL_absR, HG.out, absR_len]; simp [hf])
      go_enter Try.func8, Try.ntmps8
      go_wp2_with fail
      go_ret
      refine ⟨ret_intE he.out.symm, ?_⟩
      have := Nxt.same H.out (Below.refl w.heap.size w)
      unfold beginA; rw [he.out]; exact this
    · have he := Lib.hid (show beginE (absR L) n = 0 by unfold beginE; rw [getL_absR, HG.out, absR_len]; simp [hf])
      go_enter Try.func8, Try.ntmps8
      go_upto_region 7 with fail
      have hmk := @Go.RowKit.run_makeMap Try.prog
      have hr1 : r < w.heap.size := H.out.lt.1
      have hr2 : ¬ r = m := fun e => H.out.map.no_cells (e ▸ H.out.box)
      refine wp_region_held_drew (S := fun y => Fr (fun i => i = m) w y) (by kernel_rfl) ((Fr.refl _ _).drew) (fun hHeld => ?_)
      refine wpAnyH_take (i := 0) (oi := _) (v := ?_) (by rw [List.getElem?_toArray]; exact rfl) (by kernel_rfl) (by kernel_rfl) (by kernel_rfl) (by exact fun _ _ _ h => h) (Or.inl ⟨by rfl, ?_⟩) hHeld ?_
      rotate_left
      · (intro wX hSw; have q0 := (hSw.cell (p := ⟨r, 0, none⟩) hr1 hr2).trans c0; clear hSw; go_simp; try with_reducible rfl)
      try simp only [Act.put, List.setIfInBounds_toArray, List.set_cons_zero, List.set_cons_succ]
      refine wpAnyH_take (i := 1) (oi := _) (v := ?_) (by rw [List.getElem?_toArray]; exact rfl) (by kernel_rfl) (by kernel_rfl) (by kernel_rfl) (by exact fun _ _ _ h => h) (Or.inl ⟨by rfl, ?_⟩) hHeld ?_
      rotate_left
      · (intro wX hSw; have q0 := (hSw.cell (p := ⟨r, 0, none⟩) hr1 hr2).trans c0; clear hSw; go_simp; try with_reducible rfl)
      try simp only [Act.put, List.setIfInBounds_toArray, List.set_cons_zero, List.set_cons_succ]
      refine wpAnyH_take (i := 2) (oi := _) (v := ?_) (by rw [List.getElem?_toArray]; exact rfl) (by kernel_rfl) (by kernel_rfl) (by kernel_rfl) (by exact fun _ _ _ h => h) (Or.inl ⟨by rfl, ?_⟩) hHeld ?_
      rotate_left
      · (intro wX hSw; have q0 := (hSw.cell (p := ⟨r, 0, none⟩) hr1 hr2).trans c0; clear hSw; go_simp; try with_reducible rfl)
      try simp only [Act.put, List.setIfInBounds_toArray, List.set_cons_zero, List.set_cons_succ]
      refine wpAnyH_take (i := 3) (oi := _) (v := ?_) (by rw [List.getElem?_toArray]; exact rfl) (by kernel_rfl) (by kernel_rfl) (by kernel_rfl) (by exact fun _ _ _ h => h) (Or.inl ⟨by rfl, ?_⟩) hHeld ?_
      rotate_left
      · (intro wX hSw; have q0 := (hSw.cell (p := ⟨r, 0, none⟩) hr1 hr2).trans c0; clear hSw; go_simp; try with_reducible rfl)
      try simp only [Act.put, List.setIfInBounds_toArray, List.set_cons_zero, List.set_cons_succ]
      refine wpAnyH_take (i := 4) (oi := _) (v := ?_) (by rw [List.getElem?_toArray]; exact rfl) (by kernel_rfl) (by kernel_rfl) (by kernel_rfl) (by exact fun _ _ _ h => h) (Or.inl ⟨by rfl, ?_⟩) hHeld ?_
      rotate_left
      · (intro wX hSw; have q0 := (hSw.cell (p := ⟨r, 0, none⟩) hr1 hr2).trans c0; clear hSw; go_simp; try with_reducible rfl)
      try simp only [Act.put, List.setIfInBounds_toArray, List.set_cons_zero, List.set_cons_succ]
      refine wpAnyH_ready (rs := [5, 6]) (by kernel_rfl) (by simp) ?_
      refine AllReadyH.cons (o := _) (by rw [List.getElem?_toArray]; exact rfl) (fun K hK => ?_) ?_
      · go_simp
        refine (one_any _).mono ?_; rintro e wc ⟨b, c, rfl, ho, hB⟩; have HO := Lib.hid (CrOk.one ho); have HBC := Lib.hid (rheld hB); clear ho
        go_wp2_with fail
        refine hK.out _ _ (hHeld.then hB) (fun hHeld => ?_)
        clear hK K
        try simp only [Act.put, List.setIfInBounds_toArray, List.set_cons_zero, List.set_cons_succ]
        refine wpAnyH_ready (rs := [6]) (by kernel_rfl) (by simp) ?_
        refine AllReadyH.cons (o := _) (by rw [List.getElem?_toArray]; exact rfl) (fun K hK => ?_) ?_
        · go_simp
          refine hK.out _ _ (hHeld.alloc _) (fun hHeld => ?_)
          clear hK K
          try simp only [Act.put, List.setIfInBounds_toArray, List.set_cons_zero, List.set_cons_succ]
          refine wpAnyH_take (i := 7) (oi := _) (v := ?_) (by rw [List.getElem?_toArray]; exact rfl) (by kernel_rfl) (by kernel_rfl) (by kernel_rfl) (by exact fun _ _ _ h => h) (Or.inl ⟨by rfl, ?_⟩) hHeld ?_
          rotate_left
          · (intro wX hSw; have q0 := (hSw.cell (p := ⟨r, 0, none⟩) hr1 hr2).trans c0; clear hSw; go_simp; try with_reducible rfl)
          try simp only [Act.put, List.setIfInBounds_toArray, List.set_cons_zero, List.set_cons_succ]
          refine wpAnyH_ready (rs := [8]) (by kernel_rfl) (by simp) ?_
          refine AllReadyH.cons (o := _) (by rw [List.getElem?_toArray]; exact rfl) (fun K hK => ?_) ?_
          · go_simp
            refine hK.out _ _ (hHeld.alloc _) (fun hHeld => ?_)
            clear hK K
            try simp only [Act.put, List.setIfInBounds_toArray, List.set_cons_zero, List.set_cons_succ]
            refine wpAnyH_ready (rs := [9]) (by kernel_rfl) (by simp) ?_
            refine AllReadyH.cons (o := _) (by rw [List.getElem?_toArray]; exact rfl) (fun K hK => ?_) ?_
            · have hWB := HBC.out.alloc HBC.out.size (.map #[] 0)
              have HM := (MapL.made evC wc)
              have HC := HO.out.below (below_allocC wc (.map #[] 0))
              have hlo := HBC.out.size
              have hYY := OnOk.made HM HC
              have hWW := hWB.alloc hWB.size (onO ⟨(wc.alloc (.map #[] 0)).heap.size, wc.heap.size, ⟨some ⟨b, 0, none⟩, c, [0]⟩, []⟩)
              obtain ⟨w9, hrun, hM, hO⟩ := (H.out.below hWW).map.update (P := Try.prog) U.nameTy Try.underlying60 n (wc.alloc (.map #[] 0)).heap.size
              have hrun' : (Instr.mapUpdate 60 (.map (some m)) (.int .u64 n) (.pointer (some ⟨wc.heap.size + 1, 0, none⟩))).run Try.prog ((wc.alloc (.map #[] 0)).alloc (.cells #[.slice (some ⟨b, 0, none⟩) 1 c, .map (some (wc.heap.size))] 65 (0, 0))) = .ok () w9 := by simpa [evP, U.encN, onO, evC] using hrun
              clear hrun
              go_simp
              refine hK.out _ _ (hHeld.only hO rfl) (fun hHeld => ?_)
              clear hK K
              try simp only [Act.put, List.setIfInBounds_toArray, List.set_cons_zero, List.set_cons_succ]
              refine wpAnyH_done (by kernel_rfl) ?_ _
              have HT := H.out.more HG.out hWW hYY hWB.size hlo hO hM
              clear hHeld hM hO hrun' hYY hWW HC HM HBC HO
              go_wp2_with fail
              go_ret
              refine ⟨ret_intE he.out.symm, _, ?_, HT.1, HT.2⟩
              unfold beginA; rw [if_pos he.out]; unfold absR; rw [List.map_append]; rfl
            exact AllReadyH.nil
          exact AllReadyH.nil
        exact AllReadyH.nil
      refine AllReadyH.cons (o := _) (by rw [List.getElem?_toArray]; exact rfl) (fun K hK => ?_) ?_
      · go_simp
        refine hK.out _ _ (hHeld.alloc _) (fun hHeld => ?_)
        clear hK K
        try simp only [Act.put, List.setIfInBounds_toArray, List.set_cons_zero, List.set_cons_succ]
        refine wpAnyH_ready (rs := [5]) (by kernel_rfl) (by simp) ?_
        refine AllReadyH.cons (o := _) (by rw [List.getElem?_toArray]; exact rfl) (fun K hK => ?_) ?_
        · go_simp
          refine (one_any _).mono ?_; rintro e wc ⟨b, c, rfl, ho, hB⟩; have HO := Lib.hid (CrOk.one ho); have HBC := Lib.hid (rheld2 hB); clear ho
          go_wp2_with fail
          refine hK.out _ _ (hHeld.then hB) (fun hHeld => ?_)
          clear hK K
          try simp only [Act.put, List.setIfInBounds_toArray, List.set_cons_zero, List.set_cons_succ]
          refine wpAnyH_take (i := 7) (oi := _) (v := ?_) (by rw [List.getElem?_toArray]; exact rfl) (by kernel_rfl) (by kernel_rfl) (by kernel_rfl) (by exact fun _ _ _ h => h) (Or.inl ⟨by rfl, ?_⟩) hHeld ?_
          rotate_left
          · (intro wX hSw; have q0 := (hSw.cell (p := ⟨r, 0, none⟩) hr1 hr2).trans c0; clear hSw; go_simp; try with_reducible rfl)
          try simp only [Act.put, List.setIfInBounds_toArray, List.set_cons_zero, List.set_cons_succ]
          refine wpAnyH_ready (rs := [8]) (by kernel_rfl) (by simp) ?_
          refine AllReadyH.cons (o := _) (by rw [List.getElem?_toArray]; exact rfl) (fun K hK => ?_) ?_
          · go_simp
            refine hK.out _ _ (hHeld.alloc _) (fun hHeld => ?_)
            clear hK K
            try simp only [Act.put, List.setIfInBounds_toArray, List.set_cons_zero, List.set_cons_succ]
            refine wpAnyH_ready (rs := [9]) (by kernel_rfl) (by simp) ?_
            refine AllReadyH.cons (o := _) (by rw [List.getElem?_toArray]; exact rfl) (fun K hK => ?_) ?_
            · have hWB := HBC.out.1
              have HM := HBC.out.2
              have HC := HO.out
              have hlo := Nat.le_refl w.heap.size
              have hYY := OnOk.made HM HC
              have hWW := hWB.alloc hWB.size (onO ⟨wc.heap.size, w.heap.size, ⟨some ⟨b, 0, none⟩, c, [0]⟩, []⟩)
              obtain ⟨w9, hrun, hM, hO⟩ := (H.out.below hWW).map.update (P := Try.prog) U.nameTy Try.underlying60 n wc.heap.size
              have hrun' : (Instr.mapUpdate 60 (.map (some m)) (.int .u64 n) (.pointer (some ⟨wc.heap.size, 0, none⟩))).run Try.prog (wc.alloc (.cells #[.slice (some ⟨b, 0, none⟩) 1 c, .map (some (w.heap.size))] 65 (0, 0))) = .ok () w9 := by simpa [evP, U.encN, onO, evC] using hrun
              clear hrun
              go_simp
              refine hK.out _ _ (hHeld.only hO rfl) (fun hHeld => ?_)
              clear hK K
              try simp only [Act.put, List.setIfInBounds_toArray, List.set_cons_zero, List.set_cons_succ]
              refine wpAnyH_done (by kernel_rfl) ?_ _
              have HT := H.out.more HG.out hWW hYY hWB.size hlo hO hM
              clear hHeld hM hO hrun' hYY hWW HC HM HBC HO
              go_wp2_with fail
              go_ret
              refine ⟨ret_intE he.out.symm, _, ?_, HT.1, HT.2⟩
              unfold beginA; rw [if_pos he.out]; unfold absR; rw [List.map_append]; rfl
            exact AllReadyH.nil
          exact AllReadyH.nil
        exact AllReadyH.nil
      exact AllReadyH.nil
end Go.Proofs.Ytenebamecmblaaa
