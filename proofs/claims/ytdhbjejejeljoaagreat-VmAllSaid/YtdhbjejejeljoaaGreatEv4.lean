/- Contracts: code.formed, code.May. (Printed by gen/genev4.py.) -/
import Derived.Test.YtdhbjejejeljoaaGreatEv3
import Derived.Deep.QuietTactic
import Derived.BigQuiet
import Derived.StillTailTactics
import Derived.Deep.RegionHeld3
import Derived.Deep.DeepCutAuto
namespace Go.Proofs.YtdhbjejejeljoaaGreat
open Go.RowKit

theorem reg_of {b : Bool} (v : Value) (l : List Int) (w : World) (hv : ReadsK encN1 1 w v l) (hm : l.length ≤ 1000) (h : l.all regP = b) :
    Calls Tryz.prog 73 #[v] w fun e w' => e = .returned (.bool b) ∧ w = w' := h ▸ reg_any v l w hv (by omega)
def BoxAt (w : World) (s : Nat) (cur : Array Value) (E : TypeId) : Prop := w.heap[s]? = some (.cells cur E (0, 0))
theorem BoxAt.cell {w : World} {s : Nat} {cur : Array Value} {E : TypeId} (h : BoxAt w s cur E) (i : Nat) : w.cell? ⟨s, i, none⟩ = cur[i]? := by unfold BoxAt at h; simp [World.cell?, h]
theorem BoxAt.frozen {w : World} {s : Nat} {cur : Array Value} {E : TypeId} (h : BoxAt w s cur E) (i : Nat) : w.frozen? ⟨s, i, none⟩ = false := by unfold BoxAt at h; simp [World.frozen?, h]
theorem BoxAt.below {w w' : World} {s : Nat} {cur : Array Value} {E : TypeId} (h : BoxAt w s cur E) (hB : Below w.heap.size w w') : BoxAt w' s cur E := (hB.block s (Array.getElem?_eq_some_iff.1 h).1).trans h
abbrev opC (o : Opr) : Array Value := #[.int .u8 o.k, .int .i64 o.d, .int .i64 o.a, .int .i64 o.b, .int .i64 o.n]
abbrev OpT : TypeId := 93
theorem op_cells {w : World} {s : Nat} {o : Opr} (h : BoxAt w s (opC o) OpT) : w.cell? ⟨s, 0, none⟩ = some (.int .u8 o.k) ∧ w.cell? ⟨s, 1, none⟩ = some (.int .i64 o.d) ∧ w.cell? ⟨s, 2, none⟩ = some (.int .i64 o.a) ∧ w.cell? ⟨s, 3, none⟩ = some (.int .i64 o.b) ∧ w.cell? ⟨s, 4, none⟩ = some (.int .i64 o.n) :=
  ⟨h.cell 0, h.cell 1, h.cell 2, h.cell 3, h.cell 4⟩
def ptOf (k : Int) : Pt := ((B.getL hasL k).getD ⟨false, false, false, false⟩)
def PartsAt (w0 : World) (s : Nat) (o : Opr) (wc : World) (q : Nat) : Prop := Below w0.heap.size w0 wc ∧ BoxAt wc s (opC o) OpT ∧ BoxAt wc q #[.bool (ptOf o.k).d, .bool (ptOf o.k).a, .bool (ptOf o.k).b, .bool (ptOf o.k).n] 164
theorem set4 {w1 : World} {r : Nat} {x y z u : Value} {T : TypeId} (h : w1.heap[r]? = some (.cells #[x, y, z, u] T (0, 0))) (a b c d : Value) :
    ((((w1.setCell ⟨r, 0, none⟩ a).setCell ⟨r, 1, none⟩ b).setCell ⟨r, 2, none⟩ c).setCell ⟨r, 3, none⟩ d).heap[r]? = some (.cells #[a, b, c, d] T (0, 0)) := by
  have h1 := Go.heap_setCell_same w1 r 0 _ _ a h
  have h2 := Go.heap_setCell_same _ r 1 _ _ b h1
  have h3 := Go.heap_setCell_same _ r 2 _ _ c h2
  exact Go.heap_setCell_same _ r 3 _ _ d h3
theorem formed_eq (o : Opr) : formedP o = ((B.getL hasL o.k).isSome && [o.d, o.a, o.b].all regP && ((ptOf o.k).d || (o.d == 0)) && ((ptOf o.k).a || (o.a == 0)) && ((ptOf o.k).b || (o.b == 0)) && ((ptOf o.k).n || (o.n == 0))) := by
  unfold formedP ptOf
  rw [hasL_get]
  have e : ∀ x : Int, (x == 0) = decide (x = 0) := fun x => by by_cases h : x = 0 <;> simp [h]
  simp only [e, List.all_cons, List.all_nil, Bool.and_true, Bool.and_assoc]
  by_cases h : 1 ≤ o.k ∧ o.k ≤ 14
  · rw [if_pos h]; simp [h.1, h.2]
  · rw [if_neg h]
    have : (decide (1 ≤ o.k) && decide (o.k ≤ 14)) = false := by simp; omega
    rw [← Bool.and_assoc, this]; rfl
theorem cell_of {w w' : World} {b o : Nat} {v : Value} (hB : Below w.heap.size w w') (h : w.cell? ⟨b, o, none⟩ = some v) : w'.cell? ⟨b, o, none⟩ = some v := (hB.cell (p := ⟨b, o, none⟩) (World.block_lt_of_cell? w _ h)).trans h
theorem pt_get (k : Int) : ((B.getL hasL k).map evPt).getD (.agg #[.bool false, .bool false, .bool false, .bool false]) = .agg #[.bool (ptOf k).d, .bool (ptOf k).a, .bool (ptOf k).b, .bool (ptOf k).n] := by
  unfold ptOf
  cases B.getL hasL k <;> rfl
theorem look_pt {w : World} {m : Nat} (h : B.MapL evPt w m hasL) (k : Int) : (Instr.lookup 166 (.map (some m)) (.int .u8 k) true).run Tryz.prog w = .ok (.tuple #[.agg #[.bool (ptOf k).d, .bool (ptOf k).a, .bool (ptOf k).b, .bool (ptOf k).n], .bool (B.getL hasL k).isSome]) w := by
  have h1 := h.lookupOk (P := Tryz.prog) B.nameTy Tryz.underlying166 (show (zeroValue 164).run Tryz.prog w = .ok (.agg #[.bool false, .bool false, .bool false, .bool false]) w by kernel_rfl) k
  rw [pt_get] at h1
  exact h1
set_option maxHeartbeats 3200000 in
set_option maxRecDepth 100000 in
theorem formed_any (o : Opr) (w : World) :
    Calls Tryz.prog 76 #[.agg #[.int .u8 o.k, .int .i64 o.d, .int .i64 o.a, .int .i64 o.b, .int .i64 o.n]] w fun e w' => e = .returned (.bool (formedP o)) ∧ Below w.heap.size w w' := by
  have hb : BoxAt (w.alloc (.cells (opC o) OpT)) w.heap.size (opC o) OpT := heap_alloc_new w (.cells (opC o) OpT)
  have hA : Below w.heap.size w (w.alloc (.cells (opC o) OpT)) := (Below.refl _ _).alloc (Nat.le_refl _) _
  go_enter Tryz.func76, Tryz.ntmps76
  go_upto_region 1 with fail
  generalize w.alloc (.cells #[.int .u8 o.k, .int .i64 o.d, .int .i64 o.a, .int .i64 o.b, .int .i64 o.n] 93) = wb at *
  go_cut [3, 4] (fun t3 t4 wc => ∃ q, t3 = .pointer (some ⟨q, 0, none⟩) ∧ t4 = .bool (B.getL hasL o.k).isSome ∧ PartsAt w w.heap.size o wc q)
  case first =>
    refine wp_region_held_drew (S := fun y => Below wb.heap.size wb y) (by kernel_rfl) ((Below.refl _ _).drew) (fun hHeld => ?_)
    refine wpAnyH_take (i := 1) (oi := _) (v := ?_) (by rw [List.getElem?_toArray]; exact rfl) (by kernel_rfl) (by kernel_rfl) (by kernel_rfl) (by exact fun _ _ _ h => h) (Or.inl ⟨by rfl, ?_⟩) hHeld ?_
    rotate_left
    · (intro wX hSw; clear hSw; go_simp; try with_reducible rfl)
    try simp only [Act.put, List.setIfInBounds_toArray, List.set_cons_zero, List.set_cons_succ]
    refine wpAnyH_take (i := 2) (oi := _) (v := ?_) (by rw [List.getElem?_toArray]; exact rfl) (by kernel_rfl) (by kernel_rfl) (by kernel_rfl) (by exact fun _ _ _ h => h) (Or.inl ⟨by rfl, ?_⟩) hHeld ?_
    rotate_left
    · (intro wX hSw; have z0 := (op_cells (hb.below hSw)).1; clear hSw; go_simp; try with_reducible rfl)
    try simp only [Act.put, List.setIfInBounds_toArray, List.set_cons_zero, List.set_cons_succ]
    refine wpAnyH_ready (rs := [0, 7]) (by kernel_rfl) (by simp) ?_
    refine AllReadyH.cons (o := _) (by rw [List.getElem?_toArray]; exact rfl) (fun K hK => ?_) ?_
    · go_simp
      refine (has_any _).mono ?_; rintro e wh ⟨m, rfl, hM, hBh⟩; have HM := Lib.hid hM; have HBH := Lib.hid hBh; clear hM hBh
      go_wp2_with fail
      refine hK.out _ _ (gthen hHeld HBH.out) (fun hHeld => ?_)
      clear hK K
      try simp only [Act.put, List.setIfInBounds_toArray, List.set_cons_zero, List.set_cons_succ]
      refine wpAnyH_ready (rs := [3, 7]) (by kernel_rfl) (by simp) ?_
      refine AllReadyH.cons (o := _) (by rw [List.getElem?_toArray]; exact rfl) (fun K hK => ?_) ?_
      · have hlk := look_pt HM.out o.k
        go_simp
        refine hK.out _ _ (hHeld) (fun hHeld => ?_)
        clear hK K
        try simp only [Act.put, List.setIfInBounds_toArray, List.set_cons_zero, List.set_cons_succ]
        refine wpAnyH_take (i := 4) (oi := _) (v := ?_) (by rw [List.getElem?_toArray]; exact rfl) (by kernel_rfl) (by kernel_rfl) (by kernel_rfl) (by exact fun _ _ _ h => h) (Or.inl ⟨by rfl, ?_⟩) hHeld ?_
        rotate_left
        · (intro wX hSw; clear hSw; go_simp; try with_reducible rfl)
        try simp only [Act.put, List.setIfInBounds_toArray, List.set_cons_zero, List.set_cons_succ]
        refine wpAnyH_take (i := 5) (oi := _) (v := ?_) (by rw [List.getElem?_toArray]; exact rfl) (by kernel_rfl) (by kernel_rfl) (by kernel_rfl) (by exact fun _ _ _ h => h) (Or.inl ⟨by rfl, ?_⟩) hHeld ?_
        rotate_left
        · (intro wX hSw; clear hSw; go_simp; try with_reducible rfl)
        try simp only [Act.put, List.setIfInBounds_toArray, List.set_cons_zero, List.set_cons_succ]
        refine wpAnyH_take (i := 6) (oi := _) (v := ?_) (by rw [List.getElem?_toArray]; exact rfl) (by kernel_rfl) (by kernel_rfl) (by kernel_rfl) (by exact fun _ _ _ h => h) (Or.inl ⟨by rfl, ?_⟩) hHeld ?_
        rotate_left
        · (intro wX hSw; clear hSw; go_simp; try with_reducible rfl)
        try simp only [Act.put, List.setIfInBounds_toArray, List.set_cons_zero, List.set_cons_succ]
        refine wpAnyH_ready (rs := [7]) (by kernel_rfl) (by simp) ?_
        refine AllReadyH.cons (o := _) (by rw [List.getElem?_toArray]; exact rfl) (fun K hK => ?_) ?_
        · go_simp
          have HC := Lib.hid hHeld
          refine hK.out _ _ (hHeld.alloc hHeld.size _) (fun hHeld => ?_)
          clear hK K
          try simp only [Act.put, List.setIfInBounds_toArray, List.set_cons_zero, List.set_cons_succ]
          refine wpAnyH_ready (rs := [8]) (by kernel_rfl) (by simp) ?_
          refine AllReadyH.cons (o := _) (by rw [List.getElem?_toArray]; exact rfl) (fun K hK => ?_) ?_
          · skip
            go_simp
            refine hK.out _ _ (HC.out.alloc HC.out.size _) (fun hHeld => ?_)
            clear hK K
            try simp only [Act.put, List.setIfInBounds_toArray, List.set_cons_zero, List.set_cons_succ]
            refine wpAnyH_take (i := 9) (oi := _) (v := ?_) (by rw [List.getElem?_toArray]; exact rfl) (by kernel_rfl) (by kernel_rfl) (by kernel_rfl) (by exact fun _ _ _ h => h) (Or.inl ⟨by rfl, ?_⟩) hHeld ?_
            rotate_left
            · (intro wX hSw; clear hSw; go_simp; try with_reducible rfl)
            try simp only [Act.put, List.setIfInBounds_toArray, List.set_cons_zero, List.set_cons_succ]
            refine wpAnyH_done (by kernel_rfl) ?_ _
            go_wp2_with fail
            go_meet
            exact ⟨_, rfl, rfl, hA.trans (hHeld.mono hA.size), hb.below hHeld, heap_alloc_new _ _⟩
          exact AllReadyH.nil
        exact AllReadyH.nil
      refine AllReadyH.cons (o := _) (by rw [List.getElem?_toArray]; exact rfl) (fun K hK => ?_) ?_
      · go_simp
        have HC := Lib.hid hHeld
        refine hK.out _ _ (hHeld.alloc hHeld.size _) (fun hHeld => ?_)
        clear hK K
        try simp only [Act.put, List.setIfInBounds_toArray, List.set_cons_zero, List.set_cons_succ]
        refine wpAnyH_ready (rs := [3]) (by kernel_rfl) (by simp) ?_
        refine AllReadyH.cons (o := _) (by rw [List.getElem?_toArray]; exact rfl) (fun K hK => ?_) ?_
        · have HM := Lib.hid (HM.out.block (Below.heap_alloc _ (.cells #[.bool false, .bool false, .bool false, .bool false] 164) _ HM.out.lt))
          have hlk := look_pt HM.out o.k
          go_simp
          refine hK.out _ _ (hHeld) (fun hHeld => ?_)
          clear hK K
          try simp only [Act.put, List.setIfInBounds_toArray, List.set_cons_zero, List.set_cons_succ]
          refine wpAnyH_take (i := 4) (oi := _) (v := ?_) (by rw [List.getElem?_toArray]; exact rfl) (by kernel_rfl) (by kernel_rfl) (by kernel_rfl) (by exact fun _ _ _ h => h) (Or.inl ⟨by rfl, ?_⟩) hHeld ?_
          rotate_left
          · (intro wX hSw; clear hSw; go_simp; try with_reducible rfl)
          try simp only [Act.put, List.setIfInBounds_toArray, List.set_cons_zero, List.set_cons_succ]
          refine wpAnyH_take (i := 5) (oi := _) (v := ?_) (by rw [List.getElem?_toArray]; exact rfl) (by kernel_rfl) (by kernel_rfl) (by kernel_rfl) (by exact fun _ _ _ h => h) (Or.inl ⟨by rfl, ?_⟩) hHeld ?_
          rotate_left
          · (intro wX hSw; clear hSw; go_simp; try with_reducible rfl)
          try simp only [Act.put, List.setIfInBounds_toArray, List.set_cons_zero, List.set_cons_succ]
          refine wpAnyH_take (i := 6) (oi := _) (v := ?_) (by rw [List.getElem?_toArray]; exact rfl) (by kernel_rfl) (by kernel_rfl) (by kernel_rfl) (by exact fun _ _ _ h => h) (Or.inl ⟨by rfl, ?_⟩) hHeld ?_
          rotate_left
          · (intro wX hSw; clear hSw; go_simp; try with_reducible rfl)
          try simp only [Act.put, List.setIfInBounds_toArray, List.set_cons_zero, List.set_cons_succ]
          refine wpAnyH_ready (rs := [8]) (by kernel_rfl) (by simp) ?_
          refine AllReadyH.cons (o := _) (by rw [List.getElem?_toArray]; exact rfl) (fun K hK => ?_) ?_
          · skip
            go_simp
            refine hK.out _ _ (HC.out.alloc HC.out.size _) (fun hHeld => ?_)
            clear hK K
            try simp only [Act.put, List.setIfInBounds_toArray, List.set_cons_zero, List.set_cons_succ]
            refine wpAnyH_take (i := 9) (oi := _) (v := ?_) (by rw [List.getElem?_toArray]; exact rfl) (by kernel_rfl) (by kernel_rfl) (by kernel_rfl) (by exact fun _ _ _ h => h) (Or.inl ⟨by rfl, ?_⟩) hHeld ?_
            rotate_left
            · (intro wX hSw; clear hSw; go_simp; try with_reducible rfl)
            try simp only [Act.put, List.setIfInBounds_toArray, List.set_cons_zero, List.set_cons_succ]
            refine wpAnyH_done (by kernel_rfl) ?_ _
            go_wp2_with fail
            go_meet
            exact ⟨_, rfl, rfl, hA.trans (hHeld.mono hA.size), hb.below hHeld, heap_alloc_new _ _⟩
          exact AllReadyH.nil
        exact AllReadyH.nil
      exact AllReadyH.nil
    refine AllReadyH.cons (o := _) (by rw [List.getElem?_toArray]; exact rfl) (fun K hK => ?_) ?_
    · go_simp
      have HC := Lib.hid hHeld
      refine hK.out _ _ (hHeld.alloc hHeld.size _) (fun hHeld => ?_)
      clear hK K
      try simp only [Act.put, List.setIfInBounds_toArray, List.set_cons_zero, List.set_cons_succ]
      refine wpAnyH_ready (rs := [0]) (by kernel_rfl) (by simp) ?_
      refine AllReadyH.cons (o := _) (by rw [List.getElem?_toArray]; exact rfl) (fun K hK => ?_) ?_
      · go_simp
        refine (has_any _).mono ?_; rintro e wh ⟨m, rfl, hM, hBh⟩; have HM := Lib.hid hM; have HBH := Lib.hid hBh; clear hM hBh
        go_wp2_with fail
        refine hK.out _ _ (gthen hHeld HBH.out) (fun hHeld => ?_)
        clear hK K
        try simp only [Act.put, List.setIfInBounds_toArray, List.set_cons_zero, List.set_cons_succ]
        refine wpAnyH_ready (rs := [3]) (by kernel_rfl) (by simp) ?_
        refine AllReadyH.cons (o := _) (by rw [List.getElem?_toArray]; exact rfl) (fun K hK => ?_) ?_
        · have hlk := look_pt HM.out o.k
          go_simp
          refine hK.out _ _ (hHeld) (fun hHeld => ?_)
          clear hK K
          try simp only [Act.put, List.setIfInBounds_toArray, List.set_cons_zero, List.set_cons_succ]
          refine wpAnyH_take (i := 4) (oi := _) (v := ?_) (by rw [List.getElem?_toArray]; exact rfl) (by kernel_rfl) (by kernel_rfl) (by kernel_rfl) (by exact fun _ _ _ h => h) (Or.inl ⟨by rfl, ?_⟩) hHeld ?_
          rotate_left
          · (intro wX hSw; clear hSw; go_simp; try with_reducible rfl)
          try simp only [Act.put, List.setIfInBounds_toArray, List.set_cons_zero, List.set_cons_succ]
          refine wpAnyH_take (i := 5) (oi := _) (v := ?_) (by rw [List.getElem?_toArray]; exact rfl) (by kernel_rfl) (by kernel_rfl) (by kernel_rfl) (by exact fun _ _ _ h => h) (Or.inl ⟨by rfl, ?_⟩) hHeld ?_
          rotate_left
          · (intro wX hSw; clear hSw; go_simp; try with_reducible rfl)
          try simp only [Act.put, List.setIfInBounds_toArray, List.set_cons_zero, List.set_cons_succ]
          refine wpAnyH_take (i := 6) (oi := _) (v := ?_) (by rw [List.getElem?_toArray]; exact rfl) (by kernel_rfl) (by kernel_rfl) (by kernel_rfl) (by exact fun _ _ _ h => h) (Or.inl ⟨by rfl, ?_⟩) hHeld ?_
          rotate_left
          · (intro wX hSw; clear hSw; go_simp; try with_reducible rfl)
          try simp only [Act.put, List.setIfInBounds_toArray, List.set_cons_zero, List.set_cons_succ]
          refine wpAnyH_ready (rs := [8]) (by kernel_rfl) (by simp) ?_
          refine AllReadyH.cons (o := _) (by rw [List.getElem?_toArray]; exact rfl) (fun K hK => ?_) ?_
          · have HQ := Lib.hid ((show BoxAt (wb.drew.alloc (.cells #[.bool false, .bool false, .bool false, .bool false] 164)) wb.heap.size #[.bool false, .bool false, .bool false, .bool false] 164 from heap_alloc_new _ _).below HBH.out)
            have q0 := HQ.out.cell 0; have q1 := HQ.out.cell 1; have q2 := HQ.out.cell 2; have q3 := HQ.out.cell 3
            have f0 := HQ.out.frozen 0; have f1 := HQ.out.frozen 1; have f2 := HQ.out.frozen 2; have f3 := HQ.out.frozen 3
            simp only [List.getElem?_toArray, List.getElem?_cons_zero, List.getElem?_cons_succ] at q0 q1 q2 q3
            go_simp
            refine hK.out _ _ (((((hHeld.setCell (p := ⟨wb.heap.size, 0, none⟩) (Nat.le_refl _) _).setCell (p := ⟨wb.heap.size, 1, none⟩) (Nat.le_refl _) _).setCell (p := ⟨wb.heap.size, 2, none⟩) (Nat.le_refl _) _).setCell (p := ⟨wb.heap.size, 3, none⟩) (Nat.le_refl _) _)) (fun hHeld => ?_)
            clear hK K
            try simp only [Act.put, List.setIfInBounds_toArray, List.set_cons_zero, List.set_cons_succ]
            refine wpAnyH_take (i := 9) (oi := _) (v := ?_) (by rw [List.getElem?_toArray]; exact rfl) (by kernel_rfl) (by kernel_rfl) (by kernel_rfl) (by exact fun _ _ _ h => h) (Or.inl ⟨by rfl, ?_⟩) hHeld ?_
            rotate_left
            · (intro wX hSw; clear hSw; go_simp; try with_reducible rfl)
            try simp only [Act.put, List.setIfInBounds_toArray, List.set_cons_zero, List.set_cons_succ]
            refine wpAnyH_done (by kernel_rfl) ?_ _
            go_wp2_with fail
            go_meet
            exact ⟨_, rfl, rfl, hA.trans (hHeld.mono hA.size), hb.below hHeld, set4 HQ.out _ _ _ _⟩
          exact AllReadyH.nil
        exact AllReadyH.nil
      exact AllReadyH.nil
    exact AllReadyH.nil
  case rest =>
    obtain ⟨q, rfl, rfl, hP⟩ := hcut
    have HF := Lib.hid hP.1
    obtain ⟨k0, k1, k2, k3, k4⟩ := op_cells hP.2.1
    have p0 := hP.2.2.cell 0; have p1 := hP.2.2.cell 1; have p2 := hP.2.2.cell 2; have p3 := hP.2.2.cell 3
    simp only [List.getElem?_toArray, List.getElem?_cons_zero, List.getElem?_cons_succ] at p0 p1 p2 p3
    have HE := Lib.hid (show formedP o = ((B.getL hasL o.k).isSome && [o.d, o.a, o.b].all regP && ((ptOf o.k).d || (o.d == 0)) && ((ptOf o.k).a || (o.a == 0)) && ((ptOf o.k).b || (o.b == 0)) && ((ptOf o.k).n || (o.n == 0))) from formed_eq o)
    clear hP hb hA
    obtain ⟨is, his⟩ : ∃ is, (B.getL hasL o.k).isSome = is := ⟨_, rfl⟩
    rw [his]
    have HIS := Lib.hid his
    clear his
    cases is
    · go_wp2_with fail
      go_ret
      exact ⟨ret_bool (by rw [HE.out, HIS.out]; rfl), HF.out⟩
    have HL := Lib.hid (show ReadsK encN1 1 (wc.alloc (.cells #[.int .i64 o.d, .int .i64 o.a, .int .i64 o.b] 3)) (.slice (some ⟨wc.heap.size, 0, none⟩) 3 3) [o.d, o.a, o.b] from reads_lit (heap_alloc_new _ _) rfl)
    have HF2 := Lib.hid (HF.out.alloc HF.out.size (.cells #[.int .i64 o.d, .int .i64 o.a, .int .i64 o.b] 3))
    have hAL : Below wc.heap.size wc (wc.alloc (.cells #[.int .i64 o.d, .int .i64 o.a, .int .i64 o.b] 3)) := (Below.refl _ _).alloc (Nat.le_refl _) _
    have l0 := cell_of hAL k0; have l1 := cell_of hAL k1; have l2 := cell_of hAL k2; have l3 := cell_of hAL k3; have l4 := cell_of hAL k4
    have r0 := cell_of hAL p0; have r1 := cell_of hAL p1; have r2 := cell_of hAL p2; have r3 := cell_of hAL p3
    clear HF hAL p0 p1 p2 p3
    obtain ⟨R, hR⟩ : ∃ R, [o.d, o.a, o.b].all regP = R := ⟨_, rfl⟩
    have HR := Lib.hid hR
    clear hR
    cases R
    · skip
      go_wp2_with (go_at_call 73; refine (reg_of _ _ _ HL.out (by simp) HR.out).mono ?_; rintro e w' ⟨rfl, rfl⟩)
      go_ret
      exact ⟨ret_bool (by rw [HE.out, HIS.out, HR.out]; simp []), HF2.out⟩
    cases hp0 : (ptOf o.k).d
    · rw [hp0] at r0
      have HP0 := Lib.hid hp0
      clear hp0
      cases hx0 : (o.d == 0)
      · have HX0 := Lib.hid hx0
        go_wp2_with (go_at_call 73; refine (reg_of _ _ _ HL.out (by simp) HR.out).mono ?_; rintro e w' ⟨rfl, rfl⟩)
        go_ret
        exact ⟨ret_bool (by rw [HE.out, HIS.out, HR.out]; simp [HP0.out, HX0.out]), HF2.out⟩
      · have HX0 := Lib.hid hx0
        cases hp1 : (ptOf o.k).a
        · rw [hp1] at r1
          have HP1 := Lib.hid hp1
          clear hp1
          cases hx1 : (o.a == 0)
          · have HX1 := Lib.hid hx1
            go_wp2_with (go_at_call 73; refine (reg_of _ _ _ HL.out (by simp) HR.out).mono ?_; rintro e w' ⟨rfl, rfl⟩)
            go_ret
            exact ⟨ret_bool (by rw [HE.out, HIS.out, HR.out]; simp [HP0.out, HX0.out, HP1.out, HX1.out]), HF2.out⟩
          · have HX1 := Lib.hid hx1
            cases hp2 : (ptOf o.k).b
            · rw [hp2] at r2
              have HP2 := Lib.hid hp2
              clear hp2
              cases hx2 : (o.b == 0)
              · have HX2 := Lib.hid hx2
                go_wp2_with (go_at_call 73; refine (reg_of _ _ _ HL.out (by simp) HR.out).mono ?_; rintro e w' ⟨rfl, rfl⟩)
                go_ret
                exact ⟨ret_bool (by rw [HE.out, HIS.out, HR.out]; simp [HP0.out, HX0.out, HP1.out, HX1.out, HP2.out, HX2.out]), HF2.out⟩
              · have HX2 := Lib.hid hx2
                cases hp3 : (ptOf o.k).n
                · rw [hp3] at r3
                  have HP3 := Lib.hid hp3
                  clear hp3
                  cases hx3 : (o.n == 0)
                  · have HX3 := Lib.hid hx3
                    go_wp2_with (go_at_call 73; refine (reg_of _ _ _ HL.out (by simp) HR.out).mono ?_; rintro e w' ⟨rfl, rfl⟩)
                    go_ret
                    exact ⟨ret_bool (by rw [HE.out, HIS.out, HR.out]; simp [HP0.out, HX0.out, HP1.out, HX1.out, HP2.out, HX2.out, HP3.out, HX3.out]), HF2.out⟩
                  · have HX3 := Lib.hid hx3
                    go_wp2_with (go_at_call 73; refine (reg_of _ _ _ HL.out (by simp) HR.out).mono ?_; rintro e w' ⟨rfl, rfl⟩)
                    go_ret
                    exact ⟨ret_bool (by rw [HE.out, HIS.out, HR.out]; simp [HP0.out, HX0.out, HP1.out, HX1.out, HP2.out, HX2.out, HP3.out, HX3.out]), HF2.out⟩
                · rw [hp3] at r3
                  have HP3 := Lib.hid hp3
                  clear hp3
                  go_wp2_with (go_at_call 73; refine (reg_of _ _ _ HL.out (by simp) HR.out).mono ?_; rintro e w' ⟨rfl, rfl⟩)
                  go_ret
                  exact ⟨ret_bool (by rw [HE.out, HIS.out, HR.out]; simp [HP0.out, HX0.out, HP1.out, HX1.out, HP2.out, HX2.out, HP3.out]), HF2.out⟩
            · rw [hp2] at r2
              have HP2 := Lib.hid hp2
              clear hp2
              cases hp3 : (ptOf o.k).n
              · rw [hp3] at r3
                have HP3 := Lib.hid hp3
                clear hp3
                cases hx3 : (o.n == 0)
                · have HX3 := Lib.hid hx3
                  go_wp2_with (go_at_call 73; refine (reg_of _ _ _ HL.out (by simp) HR.out).mono ?_; rintro e w' ⟨rfl, rfl⟩)
                  go_ret
                  exact ⟨ret_bool (by rw [HE.out, HIS.out, HR.out]; simp [HP0.out, HX0.out, HP1.out, HX1.out, HP2.out, HP3.out, HX3.out]), HF2.out⟩
                · have HX3 := Lib.hid hx3
                  go_wp2_with (go_at_call 73; refine (reg_of _ _ _ HL.out (by simp) HR.out).mono ?_; rintro e w' ⟨rfl, rfl⟩)
                  go_ret
                  exact ⟨ret_bool (by rw [HE.out, HIS.out, HR.out]; simp [HP0.out, HX0.out, HP1.out, HX1.out, HP2.out, HP3.out, HX3.out]), HF2.out⟩
              · rw [hp3] at r3
                have HP3 := Lib.hid hp3
                clear hp3
                go_wp2_with (go_at_call 73; refine (reg_of _ _ _ HL.out (by simp) HR.out).mono ?_; rintro e w' ⟨rfl, rfl⟩)
                go_ret
                exact ⟨ret_bool (by rw [HE.out, HIS.out, HR.out]; simp [HP0.out, HX0.out, HP1.out, HX1.out, HP2.out, HP3.out]), HF2.out⟩
        · rw [hp1] at r1
          have HP1 := Lib.hid hp1
          clear hp1
          cases hp2 : (ptOf o.k).b
          · rw [hp2] at r2
            have HP2 := Lib.hid hp2
            clear hp2
            cases hx2 : (o.b == 0)
            · have HX2 := Lib.hid hx2
              go_wp2_with (go_at_call 73; refine (reg_of _ _ _ HL.out (by simp) HR.out).mono ?_; rintro e w' ⟨rfl, rfl⟩)
              go_ret
              exact ⟨ret_bool (by rw [HE.out, HIS.out, HR.out]; simp [HP0.out, HX0.out, HP1.out, HP2.out, HX2.out]), HF2.out⟩
            · have HX2 := Lib.hid hx2
              cases hp3 : (ptOf o.k).n
              · rw [hp3] at r3
                have HP3 := Lib.hid hp3
                clear hp3
                cases hx3 : (o.n == 0)
                · have HX3 := Lib.hid hx3
                  go_wp2_with (go_at_call 73; refine (reg_of _ _ _ HL.out (by simp) HR.out).mono ?_; rintro e w' ⟨rfl, rfl⟩)
                  go_ret
                  exact ⟨ret_bool (by rw [HE.out, HIS.out, HR.out]; simp [HP0.out, HX0.out, HP1.out, HP2.out, HX2.out, HP3.out, HX3.out]), HF2.out⟩
                · have HX3 := Lib.hid hx3
                  go_wp2_with (go_at_call 73; refine (reg_of _ _ _ HL.out (by simp) HR.out).mono ?_; rintro e w' ⟨rfl, rfl⟩)
                  go_ret
                  exact ⟨ret_bool (by rw [HE.out, HIS.out, HR.out]; simp [HP0.out, HX0.out, HP1.out, HP2.out, HX2.out, HP3.out, HX3.out]), HF2.out⟩
              · rw [hp3] at r3
                have HP3 := Lib.hid hp3
                clear hp3
                go_wp2_with (go_at_call 73; refine (reg_of _ _ _ HL.out (by simp) HR.out).mono ?_; rintro e w' ⟨rfl, rfl⟩)
                go_ret
                exact ⟨ret_bool (by rw [HE.out, HIS.out, HR.out]; simp [HP0.out, HX0.out, HP1.out, HP2.out, HX2.out, HP3.out]), HF2.out⟩
          · rw [hp2] at r2
            have HP2 := Lib.hid hp2
            clear hp2
            cases hp3 : (ptOf o.k).n
            · rw [hp3] at r3
              have HP3 := Lib.hid hp3
              clear hp3
              cases hx3 : (o.n == 0)
              · have HX3 := Lib.hid hx3
                go_wp2_with (go_at_call 73; refine (reg_of _ _ _ HL.out (by simp) HR.out).mono ?_; rintro e w' ⟨rfl, rfl⟩)
                go_ret
                exact ⟨ret_bool (by rw [HE.out, HIS.out, HR.out]; simp [HP0.out, HX0.out, HP1.out, HP2.out, HP3.out, HX3.out]), HF2.out⟩
              · have HX3 := Lib.hid hx3
                go_wp2_with (go_at_call 73; refine (reg_of _ _ _ HL.out (by simp) HR.out).mono ?_; rintro e w' ⟨rfl, rfl⟩)
                go_ret
                exact ⟨ret_bool (by rw [HE.out, HIS.out, HR.out]; simp [HP0.out, HX0.out, HP1.out, HP2.out, HP3.out, HX3.out]), HF2.out⟩
            · rw [hp3] at r3
              have HP3 := Lib.hid hp3
              clear hp3
              go_wp2_with (go_at_call 73; refine (reg_of _ _ _ HL.out (by simp) HR.out).mono ?_; rintro e w' ⟨rfl, rfl⟩)
              go_ret
              exact ⟨ret_bool (by rw [HE.out, HIS.out, HR.out]; simp [HP0.out, HX0.out, HP1.out, HP2.out, HP3.out]), HF2.out⟩
    · rw [hp0] at r0
      have HP0 := Lib.hid hp0
      clear hp0
      cases hp1 : (ptOf o.k).a
      · rw [hp1] at r1
        have HP1 := Lib.hid hp1
        clear hp1
        cases hx1 : (o.a == 0)
        · have HX1 := Lib.hid hx1
          go_wp2_with (go_at_call 73; refine (reg_of _ _ _ HL.out (by simp) HR.out).mono ?_; rintro e w' ⟨rfl, rfl⟩)
          go_ret
          exact ⟨ret_bool (by rw [HE.out, HIS.out, HR.out]; simp [HP0.out, HP1.out, HX1.out]), HF2.out⟩
        · have HX1 := Lib.hid hx1
          cases hp2 : (ptOf o.k).b
          · rw [hp2] at r2
            have HP2 := Lib.hid hp2
            clear hp2
            cases hx2 : (o.b == 0)
            · have HX2 := Lib.hid hx2
              go_wp2_with (go_at_call 73; refine (reg_of _ _ _ HL.out (by simp) HR.out).mono ?_; rintro e w' ⟨rfl, rfl⟩)
              go_ret
              exact ⟨ret_bool (by rw [HE.out, HIS.out, HR.out]; simp [HP0.out, HP1.out, HX1.out, HP2.out, HX2.out]), HF2.out⟩
            · have HX2 := Lib.hid hx2
              cases hp3 : (ptOf o.k).n
              · rw [hp3] at r3
                have HP3 := Lib.hid hp3
                clear hp3
                cases hx3 : (o.n == 0)
                · have HX3 := Lib.hid hx3
                  go_wp2_with (go_at_call 73; refine (reg_of _ _ _ HL.out (by simp) HR.out).mono ?_; rintro e w' ⟨rfl, rfl⟩)
                  go_ret
                  exact ⟨ret_bool (by rw [HE.out, HIS.out, HR.out]; simp [HP0.out, HP1.out, HX1.out, HP2.out, HX2.out, HP3.out, HX3.out]), HF2.out⟩
                · have HX3 := Lib.hid hx3
                  go_wp2_with (go_at_call 73; refine (reg_of _ _ _ HL.out (by simp) HR.out).mono ?_; rintro e w' ⟨rfl, rfl⟩)
                  go_ret
                  exact ⟨ret_bool (by rw [HE.out, HIS.out, HR.out]; simp [HP0.out, HP1.out, HX1.out, HP2.out, HX2.out, HP3.out, HX3.out]), HF2.out⟩
              · rw [hp3] at r3
                have HP3 := Lib.hid hp3
                clear hp3
                go_wp2_with (go_at_call 73; refine (reg_of _ _ _ HL.out (by simp) HR.out).mono ?_; rintro e w' ⟨rfl, rfl⟩)
                go_ret
                exact ⟨ret_bool (by rw [HE.out, HIS.out, HR.out]; simp [HP0.out, HP1.out, HX1.out, HP2.out, HX2.out, HP3.out]), HF2.out⟩
          · rw [hp2] at r2
            have HP2 := Lib.hid hp2
            clear hp2
            cases hp3 : (ptOf o.k).n
            · rw [hp3] at r3
              have HP3 := Lib.hid hp3
              clear hp3
              cases hx3 : (o.n == 0)
              · have HX3 := Lib.hid hx3
                go_wp2_with (go_at_call 73; refine (reg_of _ _ _ HL.out (by simp) HR.out).mono ?_; rintro e w' ⟨rfl, rfl⟩)
                go_ret
                exact ⟨ret_bool (by rw [HE.out, HIS.out, HR.out]; simp [HP0.out, HP1.out, HX1.out, HP2.out, HP3.out, HX3.out]), HF2.out⟩
              · have HX3 := Lib.hid hx3
                go_wp2_with (go_at_call 73; refine (reg_of _ _ _ HL.out (by simp) HR.out).mono ?_; rintro e w' ⟨rfl, rfl⟩)
                go_ret
                exact ⟨ret_bool (by rw [HE.out, HIS.out, HR.out]; simp [HP0.out, HP1.out, HX1.out, HP2.out, HP3.out, HX3.out]), HF2.out⟩
            · rw [hp3] at r3
              have HP3 := Lib.hid hp3
              clear hp3
              go_wp2_with (go_at_call 73; refine (reg_of _ _ _ HL.out (by simp) HR.out).mono ?_; rintro e w' ⟨rfl, rfl⟩)
              go_ret
              exact ⟨ret_bool (by rw [HE.out, HIS.out, HR.out]; simp [HP0.out, HP1.out, HX1.out, HP2.out, HP3.out]), HF2.out⟩
      · rw [hp1] at r1
        have HP1 := Lib.hid hp1
        clear hp1
        cases hp2 : (ptOf o.k).b
        · rw [hp2] at r2
          have HP2 := Lib.hid hp2
          clear hp2
          cases hx2 : (o.b == 0)
          · have HX2 := Lib.hid hx2
            go_wp2_with (go_at_call 73; refine (reg_of _ _ _ HL.out (by simp) HR.out).mono ?_; rintro e w' ⟨rfl, rfl⟩)
            go_ret
            exact ⟨ret_bool (by rw [HE.out, HIS.out, HR.out]; simp [HP0.out, HP1.out, HP2.out, HX2.out]), HF2.out⟩
          · have HX2 := Lib.hid hx2
            cases hp3 : (ptOf o.k).n
            · rw [hp3] at r3
              have HP3 := Lib.hid hp3
              clear hp3
              cases hx3 : (o.n == 0)
              · have HX3 := Lib.hid hx3
                go_wp2_with (go_at_call 73; refine (reg_of _ _ _ HL.out (by simp) HR.out).mono ?_; rintro e w' ⟨rfl, rfl⟩)
                go_ret
                exact ⟨ret_bool (by rw [HE.out, HIS.out, HR.out]; simp [HP0.out, HP1.out, HP2.out, HX2.out, HP3.out, HX3.out]), HF2.out⟩
              · have HX3 := Lib.hid hx3
                go_wp2_with (go_at_call 73; refine (reg_of _ _ _ HL.out (by simp) HR.out).mono ?_; rintro e w' ⟨rfl, rfl⟩)
                go_ret
                exact ⟨ret_bool (by rw [HE.out, HIS.out, HR.out]; simp [HP0.out, HP1.out, HP2.out, HX2.out, HP3.out, HX3.out]), HF2.out⟩
            · rw [hp3] at r3
              have HP3 := Lib.hid hp3
              clear hp3
              go_wp2_with (go_at_call 73; refine (reg_of _ _ _ HL.out (by simp) HR.out).mono ?_; rintro e w' ⟨rfl, rfl⟩)
              go_ret
              exact ⟨ret_bool (by rw [HE.out, HIS.out, HR.out]; simp [HP0.out, HP1.out, HP2.out, HX2.out, HP3.out]), HF2.out⟩
        · rw [hp2] at r2
          have HP2 := Lib.hid hp2
          clear hp2
          cases hp3 : (ptOf o.k).n
          · rw [hp3] at r3
            have HP3 := Lib.hid hp3
            clear hp3
            cases hx3 : (o.n == 0)
            · have HX3 := Lib.hid hx3
              go_wp2_with (go_at_call 73; refine (reg_of _ _ _ HL.out (by simp) HR.out).mono ?_; rintro e w' ⟨rfl, rfl⟩)
              go_ret
              exact ⟨ret_bool (by rw [HE.out, HIS.out, HR.out]; simp [HP0.out, HP1.out, HP2.out, HP3.out, HX3.out]), HF2.out⟩
            · have HX3 := Lib.hid hx3
              go_wp2_with (go_at_call 73; refine (reg_of _ _ _ HL.out (by simp) HR.out).mono ?_; rintro e w' ⟨rfl, rfl⟩)
              go_ret
              exact ⟨ret_bool (by rw [HE.out, HIS.out, HR.out]; simp [HP0.out, HP1.out, HP2.out, HP3.out, HX3.out]), HF2.out⟩
          · rw [hp3] at r3
            have HP3 := Lib.hid hp3
            clear hp3
            go_wp2_with (go_at_call 73; refine (reg_of _ _ _ HL.out (by simp) HR.out).mono ?_; rintro e w' ⟨rfl, rfl⟩)
            go_ret
            exact ⟨ret_bool (by rw [HE.out, HIS.out, HR.out]; simp [HP0.out, HP1.out, HP2.out, HP3.out]), HF2.out⟩
end Go.Proofs.YtdhbjejejeljoaaGreat
