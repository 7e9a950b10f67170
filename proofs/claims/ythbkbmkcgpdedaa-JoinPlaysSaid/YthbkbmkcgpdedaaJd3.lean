/- The document's table: add. -/
import Derived.Test.YthbkbmkcgpdedaaJd2
import Derived.Test.YthbkbmkcgpdedaaCmpR17
import Derived.Deep.DeepCutAuto
namespace Go.Proofs.Ythbkbmkcgpdedaa
open Go.RowKit Go.Sort Go.Lib

abbrev rowA (x : Rl) : Value := .agg #[.int .u64 x.1.1, .string x.1.2, .string x.1.2, .int .i64 x.2.fn, .slice x.2.aa x.2.args.length x.2.ac, .int .i64 x.2.fuel, .int .u8 x.2.st, .int .i64 x.2.op, .int .i64 x.2.val, .int .i64 x.2.err, .bool x.2.fk]
theorem encD_cells {w : World} {b : Nat} {q : Rl} (h : BoxAt w b (encD q).toArray RowT) :
    w.cell? ⟨b, 0, none⟩ = some (.int .u64 q.1.1) ∧ w.cell? ⟨b, 1, none⟩ = some (.string q.1.2) ∧ w.cell? ⟨b, 2, none⟩ = some (.string q.1.2) ∧ w.cell? ⟨b, 3, none⟩ = some (.int .i64 q.2.fn) ∧ w.cell? ⟨b, 4, none⟩ = some (.slice q.2.aa q.2.args.length q.2.ac) ∧ w.cell? ⟨b, 5, none⟩ = some (.int .i64 q.2.fuel) ∧ w.cell? ⟨b, 6, none⟩ = some (.int .u8 q.2.st) ∧ w.cell? ⟨b, 7, none⟩ = some (.int .i64 q.2.op) ∧ w.cell? ⟨b, 8, none⟩ = some (.int .i64 q.2.val) ∧ w.cell? ⟨b, 9, none⟩ = some (.int .i64 q.2.err) ∧ w.cell? ⟨b, 10, none⟩ = some (.bool q.2.fk) :=
  ⟨h.cell 0, h.cell 1, h.cell 2, h.cell 3, h.cell 4, h.cell 5, h.cell 6, h.cell 7, h.cell 8, h.cell 9, h.cell 10⟩
def AddP (Z r : Nat) (mo : Int) (lv : Value) (l : List Rl) (x : Rl) (w : World) (e : Ending) (w' : World) : Prop := e = .returned (.tuple #[]) ∧ ∃ lv' k, InsN l x.1 k ∧ Dt Z r mo lv' (l.take k ++ [x] ++ l.drop k) w' ∧ DL r lv w lv' w'
set_option maxHeartbeats 16000000 in
set_option maxRecDepth 100000 in
theorem dadd_any {Z r : Nat} {mo : Int} {lv : Value} {l : List Rl} {w : World} (x : Rl) (h : Dt Z r mo lv l w) (hm : l.length ≤ 100000) (hps : x.1.2.size ≤ 9223372036854775807) (hml : ∀ q ∈ l, q.1.2.size ≤ 9223372036854775807) (ha : ArgsZ Z w x.2) :
    Calls Try.prog 39 #[RP r, rowA x] w (AddP Z r mo lv l x w) := by
  have HT := Lib.hid h
  have HML := Lib.hid hml
  have HPS := Lib.hid hps
  have HAZ := Lib.hid ha
  have hA := alD w (cellsR x)
  have HA := Lib.hid hA
  have H0 := Lib.hid (h.below hA)
  have hbx : BoxAt (w.alloc (cellsR x)) w.heap.size (encD x).toArray RowT := heap_alloc_new _ _
  have HBX := Lib.hid hbx
  obtain ⟨la, lc, hlv⟩ := own_slice h.own
  have HLV := Lib.hid hlv
  obtain ⟨N, hN⟩ : ∃ N, l.length = N := ⟨_, rfl⟩
  have HN := Lib.hid hN
  have hN1 : N ≤ 100000 := by omega
  clear h hml ha hbx hA hlv hps
  go_enter Try.func39, Try.ntmps39
  go_wp2_with fail
  generalize w.alloc (.cells #[.int .u64 x.1.1, .string x.1.2, .string x.1.2, .int .i64 x.2.fn, .slice x.2.aa x.2.args.length x.2.ac, .int .i64 x.2.fuel, .int .u8 x.2.st, .int .i64 x.2.op, .int .i64 x.2.val, .int .i64 x.2.err, .bool x.2.fk] RowT) = wa at *
  obtain ⟨xb, hxb⟩ : ∃ nb, w.heap.size = nb := ⟨_, rfl⟩
  rw [hxb] at HBX ⊢
  clear hxb
  go_loopg [4] N (fun gk t4 wr => ∃ k : Nat, gk + k = N ∧ t4 = .int .i64 k ∧ Hid (Below wa.heap.size wa wr) ∧ Hid (∀ j (hj : j < l.length), j < k → cmpN l[j].1 x.1 < 0))
  case atStart => exact ⟨0, by omega, rfl, Below.refl _ _, fun j _ hj => absurd hj (by omega)⟩
  case round =>
    obtain ⟨k, hkk, rfl, HB, HL⟩ := hrel
    have y0 := (H0.out.below HB.out).cell
    rw [HLV.out, hN] at y0
    obtain ⟨m0, m1, _, _, _, _, _, _, _, _, _⟩ := encD_cells (HBX.out.below HB.out)
    by_cases hlt : k < N
    · have hkl : k < l.length := by omega
      obtain ⟨g, cap, e, hc⟩ := (H0.out.below HB.out).at hkl
      rw [HLV.out] at e
      injection e with e1 _ e3
      subst e1
      have hxm := HML.out _ (List.getElem_mem hkl)
      obtain ⟨y, hy⟩ : ∃ y, l[k] = y := ⟨_, rfl⟩
      rw [hy] at hc hxm
      have HXS := Lib.hid hxm
      have c0 : wr.cell? ⟨g, k * 11, none⟩ = some (.int .u64 y.1.1) := hc 0 _ rfl
      have c1 : wr.cell? ⟨g, k * 11 + 1, none⟩ = some (.string y.1.2) := hc 1 _ rfl
      have hkn : (k : Int) < N := by omega
      clear hc e3 hxm hN
      by_cases hcm : cmpN y.1 x.1 < 0
      · have HL2 := Lib.hid (show ∀ j (hj : j < l.length), j < k + 1 → cmpN l[j].1 x.1 < 0 from fun j hj hjk => by
          by_cases e : j = k
          · subst e; rw [hy]; exact hcm
          · exact HL.out j hj (by omega))
        clear hy
        go_upto_region 2 with fail
        refine wp_region_held_drew (S := fun y => Below wr.heap.size wr y) (by kernel_rfl) ((Below.refl _ _).drew) (fun hHeld => ?_)
        refine wpAnyH_take (i := 0) (oi := _) (v := ?_) (by rw [List.getElem?_toArray]; exact rfl) (by kernel_rfl) (by kernel_rfl) (by kernel_rfl) (by exact fun _ _ _ h => h) (Or.inl ⟨by rfl, ?_⟩) hHeld ?_
        rotate_left
        · (intro wX hSw; clear hSw; go_simp; try with_reducible rfl)
        try simp only [Act.put, List.setIfInBounds_toArray, List.set_cons_zero, List.set_cons_succ]
        refine wpAnyH_take (i := 1) (oi := _) (v := ?_) (by rw [List.getElem?_toArray]; exact rfl) (by kernel_rfl) (by kernel_rfl) (by kernel_rfl) (by exact fun _ _ _ h => h) (Or.inl ⟨by rfl, ?_⟩) hHeld ?_
        rotate_left
        · (intro wX hSw; clear hSw; go_simp; try with_reducible rfl)
        try simp only [Act.put, List.setIfInBounds_toArray, List.set_cons_zero, List.set_cons_succ]
        refine wpAnyH_take (i := 2) (oi := _) (v := ?_) (by rw [List.getElem?_toArray]; exact rfl) (by kernel_rfl) (by kernel_rfl) (by kernel_rfl) (by exact fun _ _ _ h => h) (Or.inl ⟨by rfl, ?_⟩) hHeld ?_
        rotate_left
        · (intro wX hSw; clear hSw; go_simp; try with_reducible rfl)
        try simp only [Act.put, List.setIfInBounds_toArray, List.set_cons_zero, List.set_cons_succ]
        refine wpAnyH_take (i := 3) (oi := _) (v := ?_) (by rw [List.getElem?_toArray]; exact rfl) (by kernel_rfl) (by kernel_rfl) (by kernel_rfl) (by exact fun _ _ _ h => h) (Or.inl ⟨by rfl, ?_⟩) hHeld ?_
        rotate_left
        · (intro wX hSw; clear hSw; go_simp; try with_reducible rfl)
        try simp only [Act.put, List.setIfInBounds_toArray, List.set_cons_zero, List.set_cons_succ]
        refine wpAnyH_take (i := 4) (oi := _) (v := ?_) (by rw [List.getElem?_toArray]; exact rfl) (by kernel_rfl) (by kernel_rfl) (by kernel_rfl) (by exact fun _ _ _ h => h) (Or.inl ⟨by rfl, ?_⟩) hHeld ?_
        rotate_left
        · (intro wX hSw; have z0 := (hSw.cell (p := ⟨r, 1, none⟩) (World.block_lt_of_cell? _ _ y0)).trans y0; have z1 := (hSw.cell (p := ⟨xb, 0, none⟩) (World.block_lt_of_cell? _ _ m0)).trans m0; have z2 := (hSw.cell (p := ⟨xb, 1, none⟩) (World.block_lt_of_cell? _ _ m1)).trans m1; have z3 := (hSw.cell (p := ⟨g, k * 11, none⟩) (World.block_lt_of_cell? _ _ c0)).trans c0; have z4 := (hSw.cell (p := ⟨g, k * 11 + 1, none⟩) (World.block_lt_of_cell? _ _ c1)).trans c1; clear hSw; go_simp; try with_reducible rfl)
        try simp only [Act.put, List.setIfInBounds_toArray, List.set_cons_zero, List.set_cons_succ]
        refine wpAnyH_take (i := 5) (oi := _) (v := ?_) (by rw [List.getElem?_toArray]; exact rfl) (by kernel_rfl) (by kernel_rfl) (by kernel_rfl) (by exact fun _ _ _ h => h) (Or.inl ⟨by rfl, ?_⟩) hHeld ?_
        rotate_left
        · (intro wX hSw; clear hSw; go_simp; try with_reducible rfl)
        try simp only [Act.put, List.setIfInBounds_toArray, List.set_cons_zero, List.set_cons_succ]
        refine wpAnyH_take (i := 6) (oi := _) (v := ?_) (by rw [List.getElem?_toArray]; exact rfl) (by kernel_rfl) (by kernel_rfl) (by kernel_rfl) (by exact fun _ _ _ h => h) (Or.inl ⟨by rfl, ?_⟩) hHeld ?_
        rotate_left
        · (intro wX hSw; clear hSw; go_simp; try with_reducible rfl)
        try simp only [Act.put, List.setIfInBounds_toArray, List.set_cons_zero, List.set_cons_succ]
        refine wpAnyH_take (i := 7) (oi := _) (v := ?_) (by rw [List.getElem?_toArray]; exact rfl) (by kernel_rfl) (by kernel_rfl) (by kernel_rfl) (by exact fun _ _ _ h => h) (Or.inl ⟨by rfl, ?_⟩) hHeld ?_
        rotate_left
        · (intro wX hSw; clear hSw; go_simp; try with_reducible rfl)
        try simp only [Act.put, List.setIfInBounds_toArray, List.set_cons_zero, List.set_cons_succ]
        refine wpAnyH_take (i := 8) (oi := _) (v := ?_) (by rw [List.getElem?_toArray]; exact rfl) (by kernel_rfl) (by kernel_rfl) (by kernel_rfl) (by exact fun _ _ _ h => h) (Or.inl ⟨by rfl, ?_⟩) hHeld ?_
        rotate_left
        · (intro wX hSw; clear hSw; go_simp; try with_reducible rfl)
        try simp only [Act.put, List.setIfInBounds_toArray, List.set_cons_zero, List.set_cons_succ]
        refine wpAnyH_take (i := 9) (oi := _) (v := ?_) (by rw [List.getElem?_toArray]; exact rfl) (by kernel_rfl) (by kernel_rfl) (by kernel_rfl) (by exact fun _ _ _ h => h) (Or.inl ⟨by rfl, ?_⟩) hHeld ?_
        rotate_left
        · (intro wX hSw; clear hSw; go_simp; try with_reducible rfl)
        try simp only [Act.put, List.setIfInBounds_toArray, List.set_cons_zero, List.set_cons_succ]
        refine wpAnyH_take (i := 10) (oi := _) (v := ?_) (by rw [List.getElem?_toArray]; exact rfl) (by kernel_rfl) (by kernel_rfl) (by kernel_rfl) (by exact fun _ _ _ h => h) (Or.inl ⟨by rfl, ?_⟩) hHeld ?_
        rotate_left
        · (intro wX hSw; clear hSw; go_simp; try with_reducible rfl)
        try simp only [Act.put, List.setIfInBounds_toArray, List.set_cons_zero, List.set_cons_succ]
        refine wpAnyH_take (i := 11) (oi := _) (v := ?_) (by rw [List.getElem?_toArray]; exact rfl) (by kernel_rfl) (by kernel_rfl) (by kernel_rfl) (by exact fun _ _ _ h => h) (Or.inl ⟨by rfl, ?_⟩) hHeld ?_
        rotate_left
        · (intro wX hSw; have z0 := (hSw.cell (p := ⟨r, 1, none⟩) (World.block_lt_of_cell? _ _ y0)).trans y0; have z1 := (hSw.cell (p := ⟨xb, 0, none⟩) (World.block_lt_of_cell? _ _ m0)).trans m0; have z2 := (hSw.cell (p := ⟨xb, 1, none⟩) (World.block_lt_of_cell? _ _ m1)).trans m1; have z3 := (hSw.cell (p := ⟨g, k * 11, none⟩) (World.block_lt_of_cell? _ _ c0)).trans c0; have z4 := (hSw.cell (p := ⟨g, k * 11 + 1, none⟩) (World.block_lt_of_cell? _ _ c1)).trans c1; clear hSw; go_simp; try with_reducible rfl)
        try simp only [Act.put, List.setIfInBounds_toArray, List.set_cons_zero, List.set_cons_succ]
        refine wpAnyH_take (i := 12) (oi := _) (v := ?_) (by rw [List.getElem?_toArray]; exact rfl) (by kernel_rfl) (by kernel_rfl) (by kernel_rfl) (by exact fun _ _ _ h => h) (Or.inl ⟨by rfl, ?_⟩) hHeld ?_
        rotate_left
        · (intro wX hSw; clear hSw; go_simp; try with_reducible rfl)
        try simp only [Act.put, List.setIfInBounds_toArray, List.set_cons_zero, List.set_cons_succ]
        refine wpAnyH_take (i := 13) (oi := _) (v := ?_) (by rw [List.getElem?_toArray]; exact rfl) (by kernel_rfl) (by kernel_rfl) (by kernel_rfl) (by exact fun _ _ _ h => h) (Or.inl ⟨by rfl, ?_⟩) hHeld ?_
        rotate_left
        · (intro wX hSw; clear hSw; go_simp; try with_reducible rfl)
        try simp only [Act.put, List.setIfInBounds_toArray, List.set_cons_zero, List.set_cons_succ]
        refine wpAnyH_take (i := 14) (oi := _) (v := ?_) (by rw [List.getElem?_toArray]; exact rfl) (by kernel_rfl) (by kernel_rfl) (by kernel_rfl) (by exact fun _ _ _ h => h) (Or.inl ⟨by rfl, ?_⟩) hHeld ?_
        rotate_left
        · (intro wX hSw; clear hSw; go_simp; try with_reducible rfl)
        try simp only [Act.put, List.setIfInBounds_toArray, List.set_cons_zero, List.set_cons_succ]
        refine wpAnyH_take (i := 15) (oi := _) (v := ?_) (by rw [List.getElem?_toArray]; exact rfl) (by kernel_rfl) (by kernel_rfl) (by kernel_rfl) (by exact fun _ _ _ h => h) (Or.inl ⟨by rfl, ?_⟩) hHeld ?_
        rotate_left
        · (intro wX hSw; clear hSw; go_simp; try with_reducible rfl)
        try simp only [Act.put, List.setIfInBounds_toArray, List.set_cons_zero, List.set_cons_succ]
        refine wpAnyH_take (i := 16) (oi := _) (v := ?_) (by rw [List.getElem?_toArray]; exact rfl) (by kernel_rfl) (by kernel_rfl) (by kernel_rfl) (by exact fun _ _ _ h => h) (Or.inl ⟨by rfl, ?_⟩) hHeld ?_
        rotate_left
        · (intro wX hSw; have z0 := (hSw.cell (p := ⟨r, 1, none⟩) (World.block_lt_of_cell? _ _ y0)).trans y0; have z1 := (hSw.cell (p := ⟨xb, 0, none⟩) (World.block_lt_of_cell? _ _ m0)).trans m0; have z2 := (hSw.cell (p := ⟨xb, 1, none⟩) (World.block_lt_of_cell? _ _ m1)).trans m1; have z3 := (hSw.cell (p := ⟨g, k * 11, none⟩) (World.block_lt_of_cell? _ _ c0)).trans c0; have z4 := (hSw.cell (p := ⟨g, k * 11 + 1, none⟩) (World.block_lt_of_cell? _ _ c1)).trans c1; clear hSw; go_simp; try with_reducible rfl)
        try simp only [Act.put, List.setIfInBounds_toArray, List.set_cons_zero, List.set_cons_succ]
        refine wpAnyH_take (i := 17) (oi := _) (v := ?_) (by rw [List.getElem?_toArray]; exact rfl) (by kernel_rfl) (by kernel_rfl) (by kernel_rfl) (by exact fun _ _ _ h => h) (Or.inl ⟨by rfl, ?_⟩) hHeld ?_
        rotate_left
        · (intro wX hSw; clear hSw; go_simp; try with_reducible rfl)
        try simp only [Act.put, List.setIfInBounds_toArray, List.set_cons_zero, List.set_cons_succ]
        refine wpAnyH_take (i := 18) (oi := _) (v := ?_) (by rw [List.getElem?_toArray]; exact rfl) (by kernel_rfl) (by kernel_rfl) (by kernel_rfl) (by exact fun _ _ _ h => h) (Or.inl ⟨by rfl, ?_⟩) hHeld ?_
        rotate_left
        · (intro wX hSw; clear hSw; go_simp; try with_reducible rfl)
        try simp only [Act.put, List.setIfInBounds_toArray, List.set_cons_zero, List.set_cons_succ]
        refine wpAnyH_take (i := 19) (oi := _) (v := ?_) (by rw [List.getElem?_toArray]; exact rfl) (by kernel_rfl) (by kernel_rfl) (by kernel_rfl) (by exact fun _ _ _ h => h) (Or.inl ⟨by rfl, ?_⟩) hHeld ?_
        rotate_left
        · (intro wX hSw; have z0 := (hSw.cell (p := ⟨r, 1, none⟩) (World.block_lt_of_cell? _ _ y0)).trans y0; have z1 := (hSw.cell (p := ⟨xb, 0, none⟩) (World.block_lt_of_cell? _ _ m0)).trans m0; have z2 := (hSw.cell (p := ⟨xb, 1, none⟩) (World.block_lt_of_cell? _ _ m1)).trans m1; have z3 := (hSw.cell (p := ⟨g, k * 11, none⟩) (World.block_lt_of_cell? _ _ c0)).trans c0; have z4 := (hSw.cell (p := ⟨g, k * 11 + 1, none⟩) (World.block_lt_of_cell? _ _ c1)).trans c1; clear hSw; go_simp; try with_reducible rfl)
        try simp only [Act.put, List.setIfInBounds_toArray, List.set_cons_zero, List.set_cons_succ]
        refine wpAnyH_ready (rs := [20]) (by kernel_rfl) (by simp) ?_
        refine AllReadyH.cons (o := _) (by rw [List.getElem?_toArray]; exact rfl) (fun K hK => ?_) AllReadyH.nil
        go_simp
        refine (rcompareN_any y.1 x.1 _ HXS.out HPS.out).mono ?_; rintro e w6 ⟨rfl, hB6⟩; have hB7 := hHeld.trans (hB6.mono hHeld.size); clear hB6
        go_wp2_with fail
        refine hK.out _ _ (hB7) (fun hHeld => ?_)
        clear hK K
        try simp only [Act.put, List.setIfInBounds_toArray, List.set_cons_zero, List.set_cons_succ]
        refine wpAnyH_take (i := 21) (oi := _) (v := ?_) (by rw [List.getElem?_toArray]; exact rfl) (by kernel_rfl) (by kernel_rfl) (by kernel_rfl) (by exact fun _ _ _ h => h) (Or.inl ⟨by rfl, ?_⟩) hHeld ?_
        rotate_left
        · (intro wX hSw; clear hSw; go_simp; try with_reducible rfl)
        try simp only [Act.put, List.setIfInBounds_toArray, List.set_cons_zero, List.set_cons_succ]
        refine wpAnyH_take (i := 22) (oi := _) (v := ?_) (by rw [List.getElem?_toArray]; exact rfl) (by kernel_rfl) (by kernel_rfl) (by kernel_rfl) (by exact fun _ _ _ h => h) (Or.inl ⟨by rfl, ?_⟩) hHeld ?_
        rotate_left
        · (intro wX hSw; clear hSw; go_simp; try with_reducible rfl)
        try simp only [Act.put, List.setIfInBounds_toArray, List.set_cons_zero, List.set_cons_succ]
        refine wpAnyH_done (by kernel_rfl) ?_ _
        have HB2 := Lib.hid (HB.out.trans (hHeld.mono HB.out.size))
        clear hHeld y0 m0 m1 c0 c1 HB
        go_wp2_with fail
        go_roundg (gk - 1)
        case rel => exact ⟨k + 1, by omega, by go_num, HB2.out, HL2.out⟩
        case measure => omega
      · have HS := Lib.hid (show InsN l x.1 k from ⟨by omega, HL.out, .inr ⟨hkl, by rw [hy]; exact hcm⟩⟩)
        have hkN : k ≤ N := by omega
        have hcd : decide (cmpN y.1 x.1 < 0) = false := decide_eq_false hcm
        have hkd : decide (k < N) = true := decide_eq_true hlt
        have hkd2 : decide ((k : Int) < (N : Int)) = true := decide_eq_true hkn
        clear hy
        go_upto_region 2 with fail
        refine wp_region_held_drew (S := fun y => Below wr.heap.size wr y) (by kernel_rfl) ((Below.refl _ _).drew) (fun hHeld => ?_)
        refine wpAnyH_take (i := 0) (oi := _) (v := ?_) (by rw [List.getElem?_toArray]; exact rfl) (by kernel_rfl) (by kernel_rfl) (by kernel_rfl) (by exact fun _ _ _ h => h) (Or.inl ⟨by rfl, ?_⟩) hHeld ?_
        rotate_left
        · (intro wX hSw; clear hSw; go_simp; try with_reducible rfl)
        try simp only [Act.put, List.setIfInBounds_toArray, List.set_cons_zero, List.set_cons_succ]
        refine wpAnyH_take (i := 1) (oi := _) (v := ?_) (by rw [List.getElem?_toArray]; exact rfl) (by kernel_rfl) (by kernel_rfl) (by kernel_rfl) (by exact fun _ _ _ h => h) (Or.inl ⟨by rfl, ?_⟩) hHeld ?_
        rotate_left
        · (intro wX hSw; clear hSw; go_simp; try with_reducible rfl)
        try simp only [Act.put, List.setIfInBounds_toArray, List.set_cons_zero, List.set_cons_succ]
        refine wpAnyH_take (i := 2) (oi := _) (v := ?_) (by rw [List.getElem?_toArray]; exact rfl) (by kernel_rfl) (by kernel_rfl) (by kernel_rfl) (by exact fun _ _ _ h => h) (Or.inl ⟨by rfl, ?_⟩) hHeld ?_
        rotate_left
        · (intro wX hSw; clear hSw; go_simp; try with_reducible rfl)
        try simp only [Act.put, List.setIfInBounds_toArray, List.set_cons_zero, List.set_cons_succ]
        refine wpAnyH_take (i := 3) (oi := _) (v := ?_) (by rw [List.getElem?_toArray]; exact rfl) (by kernel_rfl) (by kernel_rfl) (by kernel_rfl) (by exact fun _ _ _ h => h) (Or.inl ⟨by rfl, ?_⟩) hHeld ?_
        rotate_left
        · (intro wX hSw; clear hSw; go_simp; try with_reducible rfl)
        try simp only [Act.put, List.setIfInBounds_toArray, List.set_cons_zero, List.set_cons_succ]
        refine wpAnyH_take (i := 4) (oi := _) (v := ?_) (by rw [List.getElem?_toArray]; exact rfl) (by kernel_rfl) (by kernel_rfl) (by kernel_rfl) (by exact fun _ _ _ h => h) (Or.inl ⟨by rfl, ?_⟩) hHeld ?_
        rotate_left
        · (intro wX hSw; have z0 := (hSw.cell (p := ⟨r, 1, none⟩) (World.block_lt_of_cell? _ _ y0)).trans y0; have z1 := (hSw.cell (p := ⟨xb, 0, none⟩) (World.block_lt_of_cell? _ _ m0)).trans m0; have z2 := (hSw.cell (p := ⟨xb, 1, none⟩) (World.block_lt_of_cell? _ _ m1)).trans m1; have z3 := (hSw.cell (p := ⟨g, k * 11, none⟩) (World.block_lt_of_cell? _ _ c0)).trans c0; have z4 := (hSw.cell (p := ⟨g, k * 11 + 1, none⟩) (World.block_lt_of_cell? _ _ c1)).trans c1; clear hSw; go_simp; try with_reducible rfl)
        try simp only [Act.put, List.setIfInBounds_toArray, List.set_cons_zero, List.set_cons_succ]
        refine wpAnyH_take (i := 5) (oi := _) (v := ?_) (by rw [List.getElem?_toArray]; exact rfl) (by kernel_rfl) (by kernel_rfl) (by kernel_rfl) (by exact fun _ _ _ h => h) (Or.inl ⟨by rfl, ?_⟩) hHeld ?_
        rotate_left
        · (intro wX hSw; clear hSw; go_simp; try with_reducible rfl)
        try simp only [Act.put, List.setIfInBounds_toArray, List.set_cons_zero, List.set_cons_succ]
        refine wpAnyH_take (i := 6) (oi := _) (v := ?_) (by rw [List.getElem?_toArray]; exact rfl) (by kernel_rfl) (by kernel_rfl) (by kernel_rfl) (by exact fun _ _ _ h => h) (Or.inl ⟨by rfl, ?_⟩) hHeld ?_
        rotate_left
        · (intro wX hSw; clear hSw; go_simp; try with_reducible rfl)
        try simp only [Act.put, List.setIfInBounds_toArray, List.set_cons_zero, List.set_cons_succ]
        refine wpAnyH_take (i := 7) (oi := _) (v := ?_) (by rw [List.getElem?_toArray]; exact rfl) (by kernel_rfl) (by kernel_rfl) (by kernel_rfl) (by exact fun _ _ _ h => h) (Or.inl ⟨by rfl, ?_⟩) hHeld ?_
        rotate_left
        · (intro wX hSw; clear hSw; go_simp; try with_reducible rfl)
        try simp only [Act.put, List.setIfInBounds_toArray, List.set_cons_zero, List.set_cons_succ]
        refine wpAnyH_take (i := 8) (oi := _) (v := ?_) (by rw [List.getElem?_toArray]; exact rfl) (by kernel_rfl) (by kernel_rfl) (by kernel_rfl) (by exact fun _ _ _ h => h) (Or.inl ⟨by rfl, ?_⟩) hHeld ?_
        rotate_left
        · (intro wX hSw; clear hSw; go_simp; try with_reducible rfl)
        try simp only [Act.put, List.setIfInBounds_toArray, List.set_cons_zero, List.set_cons_succ]
        refine wpAnyH_take (i := 9) (oi := _) (v := ?_) (by rw [List.getElem?_toArray]; exact rfl) (by kernel_rfl) (by kernel_rfl) (by kernel_rfl) (by exact fun _ _ _ h => h) (Or.inl ⟨by rfl, ?_⟩) hHeld ?_
        rotate_left
        · (intro wX hSw; clear hSw; go_simp; try with_reducible rfl)
        try simp only [Act.put, List.setIfInBounds_toArray, List.set_cons_zero, List.set_cons_succ]
        refine wpAnyH_take (i := 10) (oi := _) (v := ?_) (by rw [List.getElem?_toArray]; exact rfl) (by kernel_rfl) (by kernel_rfl) (by kernel_rfl) (by exact fun _ _ _ h => h) (Or.inl ⟨by rfl, ?_⟩) hHeld ?_
        rotate_left
        · (intro wX hSw; clear hSw; go_simp; try with_reducible rfl)
        try simp only [Act.put, List.setIfInBounds_toArray, List.set_cons_zero, List.set_cons_succ]
        refine wpAnyH_take (i := 11) (oi := _) (v := ?_) (by rw [List.getElem?_toArray]; exact rfl) (by kernel_rfl) (by kernel_rfl) (by kernel_rfl) (by exact fun _ _ _ h => h) (Or.inl ⟨by rfl, ?_⟩) hHeld ?_
        rotate_left
        · (intro wX hSw; have z0 := (hSw.cell (p := ⟨r, 1, none⟩) (World.block_lt_of_cell? _ _ y0)).trans y0; have z1 := (hSw.cell (p := ⟨xb, 0, none⟩) (World.block_lt_of_cell? _ _ m0)).trans m0; have z2 := (hSw.cell (p := ⟨xb, 1, none⟩) (World.block_lt_of_cell? _ _ m1)).trans m1; have z3 := (hSw.cell (p := ⟨g, k * 11, none⟩) (World.block_lt_of_cell? _ _ c0)).trans c0; have z4 := (hSw.cell (p := ⟨g, k * 11 + 1, none⟩) (World.block_lt_of_cell? _ _ c1)).trans c1; clear hSw; go_simp; try with_reducible rfl)
        try simp only [Act.put, List.setIfInBounds_toArray, List.set_cons_zero, List.set_cons_succ]
        refine wpAnyH_take (i := 12) (oi := _) (v := ?_) (by rw [List.getElem?_toArray]; exact rfl) (by kernel_rfl) (by kernel_rfl) (by kernel_rfl) (by exact fun _ _ _ h => h) (Or.inl ⟨by rfl, ?_⟩) hHeld ?_
        rotate_left
        · (intro wX hSw; clear hSw; go_simp; try with_reducible rfl)
        try simp only [Act.put, List.setIfInBounds_toArray, List.set_cons_zero, List.set_cons_succ]
        refine wpAnyH_take (i := 13) (oi := _) (v := ?_) (by rw [List.getElem?_toArray]; exact rfl) (by kernel_rfl) (by kernel_rfl) (by kernel_rfl) (by exact fun _ _ _ h => h) (Or.inl ⟨by rfl, ?_⟩) hHeld ?_
        rotate_left
        · (intro wX hSw; clear hSw; go_simp; try with_reducible rfl)
        try simp only [Act.put, List.setIfInBounds_toArray, List.set_cons_zero, List.set_cons_succ]
        refine wpAnyH_take (i := 14) (oi := _) (v := ?_) (by rw [List.getElem?_toArray]; exact rfl) (by kernel_rfl) (by kernel_rfl) (by kernel_rfl) (by exact fun _ _ _ h => h) (Or.inl ⟨by rfl, ?_⟩) hHeld ?_
        rotate_left
        · (intro wX hSw; clear hSw; go_simp; try with_reducible rfl)
        try simp only [Act.put, List.setIfInBounds_toArray, List.set_cons_zero, List.set_cons_succ]
        refine wpAnyH_take (i := 15) (oi := _) (v := ?_) (by rw [List.getElem?_toArray]; exact rfl) (by kernel_rfl) (by kernel_rfl) (by kernel_rfl) (by exact fun _ _ _ h => h) (Or.inl ⟨by rfl, ?_⟩) hHeld ?_
        rotate_left
        · (intro wX hSw; clear hSw; go_simp; try with_reducible rfl)
        try simp only [Act.put, List.setIfInBounds_toArray, List.set_cons_zero, List.set_cons_succ]
        refine wpAnyH_take (i := 16) (oi := _) (v := ?_) (by rw [List.getElem?_toArray]; exact rfl) (by kernel_rfl) (by kernel_rfl) (by kernel_rfl) (by exact fun _ _ _ h => h) (Or.inl ⟨by rfl, ?_⟩) hHeld ?_
        rotate_left
        · (intro wX hSw; have z0 := (hSw.cell (p := ⟨r, 1, none⟩) (World.block_lt_of_cell? _ _ y0)).trans y0; have z1 := (hSw.cell (p := ⟨xb, 0, none⟩) (World.block_lt_of_cell? _ _ m0)).trans m0; have z2 := (hSw.cell (p := ⟨xb, 1, none⟩) (World.block_lt_of_cell? _ _ m1)).trans m1; have z3 := (hSw.cell (p := ⟨g, k * 11, none⟩) (World.block_lt_of_cell? _ _ c0)).trans c0; have z4 := (hSw.cell (p := ⟨g, k * 11 + 1, none⟩) (World.block_lt_of_cell? _ _ c1)).trans c1; clear hSw; go_simp; try with_reducible rfl)
        try simp only [Act.put, List.setIfInBounds_toArray, List.set_cons_zero, List.set_cons_succ]
        refine wpAnyH_take (i := 17) (oi := _) (v := ?_) (by rw [List.getElem?_toArray]; exact rfl) (by kernel_rfl) (by kernel_rfl) (by kernel_rfl) (by exact fun _ _ _ h => h) (Or.inl ⟨by rfl, ?_⟩) hHeld ?_
        rotate_left
        · (intro wX hSw; clear hSw; go_simp; try with_reducible rfl)
        try simp only [Act.put, List.setIfInBounds_toArray, List.set_cons_zero, List.set_cons_succ]
        refine wpAnyH_take (i := 18) (oi := _) (v := ?_) (by rw [List.getElem?_toArray]; exact rfl) (by kernel_rfl) (by kernel_rfl) (by kernel_rfl) (by exact fun _ _ _ h => h) (Or.inl ⟨by rfl, ?_⟩) hHeld ?_
        rotate_left
        · (intro wX hSw; clear hSw; go_simp; try with_reducible rfl)
        try simp only [Act.put, List.setIfInBounds_toArray, List.set_cons_zero, List.set_cons_succ]
        refine wpAnyH_take (i := 19) (oi := _) (v := ?_) (by rw [List.getElem?_toArray]; exact rfl) (by kernel_rfl) (by kernel_rfl) (by kernel_rfl) (by exact fun _ _ _ h => h) (Or.inl ⟨by rfl, ?_⟩) hHeld ?_
        rotate_left
        · (intro wX hSw; have z0 := (hSw.cell (p := ⟨r, 1, none⟩) (World.block_lt_of_cell? _ _ y0)).trans y0; have z1 := (hSw.cell (p := ⟨xb, 0, none⟩) (World.block_lt_of_cell? _ _ m0)).trans m0; have z2 := (hSw.cell (p := ⟨xb, 1, none⟩) (World.block_lt_of_cell? _ _ m1)).trans m1; have z3 := (hSw.cell (p := ⟨g, k * 11, none⟩) (World.block_lt_of_cell? _ _ c0)).trans c0; have z4 := (hSw.cell (p := ⟨g, k * 11 + 1, none⟩) (World.block_lt_of_cell? _ _ c1)).trans c1; clear hSw; go_simp; try with_reducible rfl)
        try simp only [Act.put, List.setIfInBounds_toArray, List.set_cons_zero, List.set_cons_succ]
        refine wpAnyH_ready (rs := [20]) (by kernel_rfl) (by simp) ?_
        refine AllReadyH.cons (o := _) (by rw [List.getElem?_toArray]; exact rfl) (fun K hK => ?_) AllReadyH.nil
        go_simp
        refine (rcompareN_any y.1 x.1 _ HXS.out HPS.out).mono ?_; rintro e w6 ⟨rfl, hB6⟩; have hB7 := hHeld.trans (hB6.mono hHeld.size); clear hB6
        go_wp2_with fail
        refine hK.out _ _ (hB7) (fun hHeld => ?_)
        clear hK K
        try simp only [Act.put, List.setIfInBounds_toArray, List.set_cons_zero, List.set_cons_succ]
        refine wpAnyH_take (i := 21) (oi := _) (v := ?_) (by rw [List.getElem?_toArray]; exact rfl) (by kernel_rfl) (by kernel_rfl) (by kernel_rfl) (by exact fun _ _ _ h => h) (Or.inl ⟨by rfl, ?_⟩) hHeld ?_
        rotate_left
        · (intro wX hSw; clear hSw; go_simp; try with_reducible rfl)
        try simp only [Act.put, List.setIfInBounds_toArray, List.set_cons_zero, List.set_cons_succ]
        refine wpAnyH_take (i := 22) (oi := _) (v := ?_) (by rw [List.getElem?_toArray]; exact rfl) (by kernel_rfl) (by kernel_rfl) (by kernel_rfl) (by exact fun _ _ _ h => h) (Or.inl ⟨by rfl, ?_⟩) hHeld ?_
        rotate_left
        · (intro wX hSw; clear hSw; go_simp; try with_reducible rfl)
        try simp only [Act.put, List.setIfInBounds_toArray, List.set_cons_zero, List.set_cons_succ]
        refine wpAnyH_done (by kernel_rfl) ?_ _
        have HB2 := Lib.hid (HB.out.trans (hHeld.mono HB.out.size))
        have hBq := hHeld
        clear hHeld m0 m1 c0 c1
        obtain ⟨wz, hwz⟩ : ∃ t, w6 = t := ⟨_, rfl⟩
        rw [hwz] at HB2 hBq ⊢
        clear hwz hBq y0 HL
        have HDZ := Lib.hid (H0.out.below HB2.out)
        have y0 := HDZ.out.cell
        rw [HLV.out, HN.out] at y0
        obtain ⟨t0, t1, t2, t3, t4, t5, t6, t7, t8, t9, t10⟩ := encD_cells (HBX.out.below HB2.out)
        have hroD := HDZ.out.own
        rw [HLV.out, HN.out] at hroD
        have hcapN := own_capD hroD
        have hso := runR_first (a := (some ⟨g, 0, none⟩)) (N := N) (n := k) (cap := lc) (by omega)
        have hrd : ReadsK encD 11 wz (.slice (some ⟨g, 0, none⟩) N lc) l := readsK_own encD_len (by decide) hroD HN.out
        have hru := readsK_take hrd k (by rw [HN.out]; exact hkN) lc
        obtain ⟨v1, w1, hap1, ho1, hg1⟩ := run_appK (P := Try.prog) (α := Rl) (enc := encD) (k := 11) (bytes := 120) (E := RowT) (t := 30) (z := zRow) Try.underlying30 info_rowD rfl (by decide) encD_len (by intro y v hv; simp [encD] at hv; rcases hv with rfl | rfl | rfl | rfl | rfl | rfl | rfl | rfl | rfl | rfl <;> rfl) (w := wz) (B := wz.heap.size) (v := .slice none 0 0) (xs := []) 30 (World.ownsRow_nil _ _ _ _) hru (by rw [List.length_take]; simp; omega) (by decide) (Nat.le_refl _)
        simp only [List.nil_append] at ho1
        have hB1 : Below wz.heap.size wz w1 := ⟨hg1.os, hg1.tape, hg1.output, hg1.size, fun q hq => hg1.block q hq (fun e => by cases e)⟩
        obtain ⟨a1, d1, hv1⟩ := own_slice ho1
        subst hv1
        have hlt2 : (l.take k).length = k := by rw [List.length_take, HN.out]; omega
        rw [hlt2] at ho1 hap1
        have z0 := (hB1.cell (p := ⟨xb, 0, none⟩) (World.block_lt_of_cell? _ _ t0)).trans t0
        have z1 := (hB1.cell (p := ⟨xb, 1, none⟩) (World.block_lt_of_cell? _ _ t1)).trans t1
        have z2 := (hB1.cell (p := ⟨xb, 2, none⟩) (World.block_lt_of_cell? _ _ t2)).trans t2
        have z3 := (hB1.cell (p := ⟨xb, 3, none⟩) (World.block_lt_of_cell? _ _ t3)).trans t3
        have z4 := (hB1.cell (p := ⟨xb, 4, none⟩) (World.block_lt_of_cell? _ _ t4)).trans t4
        have z5 := (hB1.cell (p := ⟨xb, 5, none⟩) (World.block_lt_of_cell? _ _ t5)).trans t5
        have z6 := (hB1.cell (p := ⟨xb, 6, none⟩) (World.block_lt_of_cell? _ _ t6)).trans t6
        have z7 := (hB1.cell (p := ⟨xb, 7, none⟩) (World.block_lt_of_cell? _ _ t7)).trans t7
        have z8 := (hB1.cell (p := ⟨xb, 8, none⟩) (World.block_lt_of_cell? _ _ t8)).trans t8
        have z9 := (hB1.cell (p := ⟨xb, 9, none⟩) (World.block_lt_of_cell? _ _ t9)).trans t9
        have z10 := (hB1.cell (p := ⟨xb, 10, none⟩) (World.block_lt_of_cell? _ _ t10)).trans t10
        obtain ⟨g7, c7, w7, hap, ho7, hF7⟩ := app_rowD (Z := wz.heap.size) (D := l.take k) (w := w1) x (by rw [hlt2]; exact ho1) hlt2 (by omega) hB1.size
        have hB7 : Below wz.heap.size wz w7 := hB1.trans (hF7.below (fun i hi => (ho1.lt i hi).1) hB1.size)
        have hro7 := own_below hroD hB7
        have hrd7 : ReadsK encD 11 w7 (.slice (some ⟨g, 0, none⟩) N lc) l := readsK_own encD_len (by decide) hro7 HN.out
        obtain ⟨lv9, hs9, hr9⟩ := runR_last (a := (some ⟨g, 0, none⟩)) (cap := lc) (n := k) (l := l) (by rw [HN.out]; exact hrd7) (by rw [HN.out]; exact hkN) (by rw [HN.out]; exact hcapN)
        rw [HN.out] at hs9
        have hl7 : (l.take k ++ [x]).length = k + 1 := by rw [List.length_append, hlt2]; rfl
        obtain ⟨v9, w9, hap9, ho9, hg9⟩ := run_appK (P := Try.prog) (α := Rl) (enc := encD) (k := 11) (bytes := 120) (E := RowT) (t := 30) (z := zRow) Try.underlying30 info_rowD rfl (by decide) encD_len (by intro y v hv; simp [encD] at hv; rcases hv with rfl | rfl | rfl | rfl | rfl | rfl | rfl | rfl | rfl | rfl <;> rfl) (w := w7) (B := wz.heap.size) (v := .slice (some ⟨g7, 0, none⟩) (k + 1) c7) (xs := l.take k ++ [x]) 30 ho7 hr9 (by rw [hl7, List.length_drop]; omega) (by decide) hB7.size
        obtain ⟨a9, d9, hv9⟩ := own_slice ho9
        subst hv9
        have ho7b := ho7
        rw [hl7] at ho7b
        have hB9 : Below wz.heap.size wz w9 := hB7.trans ((show Fr (fun i => (Value.slice (some ⟨g7, 0, none⟩) (k + 1) c7).ownBlock = some i) w7 w9 from ⟨hg9.os, hg9.tape, hg9.output, hg9.size, fun q hq hs => hg9.block q hq (fun e => hs e.symm)⟩).below (fun i hi => (ho7b.lt i hi).1) hB7.size)
        have hz : Z ≤ w.heap.size := by
          have h1 : r < w.heap.size := (Array.getElem?_eq_some_iff.1 HT.out.box).1
          have h2 := HT.out.zr
          omega
        have HX := Lib.hid (HDZ.out.put2 hB9 ho9 (fun q hq => by
          rcases List.mem_append.1 hq with hq | hq
          · rcases List.mem_append.1 hq with hq | hq
            · exact HDZ.out.args q (List.mem_of_mem_take hq)
            · rw [List.mem_singleton] at hq
              subst hq
              exact HAZ.out.keep ((gthenD HA.out HB2.out).mono hz)
          · exact HDZ.out.args q (List.mem_of_mem_drop hq)))
        have y9 : w9.cell? ⟨r, 1, none⟩ = some (.slice (some ⟨g, 0, none⟩) N lc) := (hB9.cell (p := ⟨r, 1, none⟩) (World.block_lt_of_cell? _ _ y0)).trans y0
        have y7 : w7.cell? ⟨r, 1, none⟩ = some (.slice (some ⟨g, 0, none⟩) N lc) := (hB7.cell (p := ⟨r, 1, none⟩) (World.block_lt_of_cell? _ _ y0)).trans y0
        have f9 := (HDZ.out.below hB9).box.frozen 1
        have hll : (l.take k ++ [x] ++ l.drop k).length = N + 1 := by rw [List.length_append, hl7, List.length_drop, HN.out]; omega
        rw [hll] at hap9 HX
        obtain ⟨N9, hN9⟩ : ∃ n, N + 1 = n := ⟨_, rfl⟩
        rw [hN9] at hap9 HX
        obtain ⟨k9, hk9⟩ : ∃ n, k + 1 = n := ⟨_, rfl⟩
        rw [hk9] at hap hap9
        clear hru ho1 hg1 hB1 hroD hrd hro7 hrd7 hr9 ho7 hF7 ho7b ho9 hg9 hB7 hB9 hl7 hll hN9 hk9 hz hlt2
        have HHP := Lib.hid (And.intro hap (And.intro hap9 (And.intro hs9 (And.intro y9 (And.intro y7 f9)))))
        have HZZ := Lib.hid (And.intro z0 (And.intro z1 (And.intro z2 (And.intro z3 (And.intro z4 (And.intro z5 (And.intro z6 (And.intro z7 (And.intro z8 (And.intro z9 z10))))))))))
        clear hap hap9 hs9 y9 y7 f9 z0 z1 z2 z3 z4 z5 z6 z7 z8 z9 z10 t0 t1 t2 t3 t4 t5 t6 t7 t8 t9 t10
        go_upto_region 6 with (at_builtin; refine wpList_arunC rfl _ _ _ _ rfl rfl rfl hap1 ?_)
        clear hap1 hso y0
        have hap := HHP.out.1
        obtain ⟨z0, z1, z2, z3, z4, z5, z6, z7, z8, z9, z10⟩ := HZZ.out
        go_upto_region 7 with (at_builtin; refine wpList_arunC rfl _ _ _ _ rfl rfl rfl hap ?_)
        clear hap z0 z1 z2 z3 z4 z5 z6 z7 z8 z9 z10
        obtain ⟨_, hap9, hs9, y9, y7, f9⟩ := HHP.out
        go_wp2_with (at_builtin; refine wpList_arunC rfl _ _ _ _ rfl rfl rfl hap9 ?_)
        go_end0
        exact ⟨rfl, _, k, HS.out, HX.out.1, HX.out.2.from (gthenD HA.out HB2.out)⟩
    · have hke : k = N := by omega
      have HS := Lib.hid (show InsN l x.1 k from ⟨by omega, HL.out, .inl (by omega)⟩)
      have hkN : k ≤ N := by omega
      have hkd : decide (k < N) = false := decide_eq_false hlt
      have hkd0 : ¬ (k : Int) < (N : Int) := by omega
      have hkd2 : decide ((k : Int) < (N : Int)) = false := decide_eq_false hkd0
      have HKE := Lib.hid hke
      clear hN hke
      go_upto_region 2 with fail
      refine wp_region_held_drew (S := fun y => Below wr.heap.size wr y) (by kernel_rfl) ((Below.refl _ _).drew) (fun hHeld => ?_)
      refine wpAnyH_take (i := 0) (oi := _) (v := ?_) (by rw [List.getElem?_toArray]; exact rfl) (by kernel_rfl) (by kernel_rfl) (by kernel_rfl) (by exact fun _ _ _ h => h) (Or.inl ⟨by rfl, ?_⟩) hHeld ?_
      rotate_left
      · (intro wX hSw; clear hSw; go_simp; try with_reducible rfl)
      try simp only [Act.put, List.setIfInBounds_toArray, List.set_cons_zero, List.set_cons_succ]
      refine wpAnyH_take (i := 1) (oi := _) (v := ?_) (by rw [List.getElem?_toArray]; exact rfl) (by kernel_rfl) (by kernel_rfl) (by kernel_rfl) (by exact fun _ _ _ h => h) (Or.inl ⟨by rfl, ?_⟩) hHeld ?_
      rotate_left
      · (intro wX hSw; clear hSw; go_simp; try with_reducible rfl)
      try simp only [Act.put, List.setIfInBounds_toArray, List.set_cons_zero, List.set_cons_succ]
      refine wpAnyH_take (i := 2) (oi := _) (v := ?_) (by rw [List.getElem?_toArray]; exact rfl) (by kernel_rfl) (by kernel_rfl) (by kernel_rfl) (by exact fun _ _ _ h => h) (Or.inl ⟨by rfl, ?_⟩) hHeld ?_
      rotate_left
      · (intro wX hSw; clear hSw; go_simp; try with_reducible rfl)
      try simp only [Act.put, List.setIfInBounds_toArray, List.set_cons_zero, List.set_cons_succ]
      refine wpAnyH_take (i := 3) (oi := _) (v := ?_) (by rw [List.getElem?_toArray]; exact rfl) (by kernel_rfl) (by kernel_rfl) (by kernel_rfl) (by exact fun _ _ _ h => h) (Or.inl ⟨by rfl, ?_⟩) hHeld ?_
      rotate_left
      · (intro wX hSw; clear hSw; go_simp; try with_reducible rfl)
      try simp only [Act.put, List.setIfInBounds_toArray, List.set_cons_zero, List.set_cons_succ]
      refine wpAnyH_take (i := 4) (oi := _) (v := ?_) (by rw [List.getElem?_toArray]; exact rfl) (by kernel_rfl) (by kernel_rfl) (by kernel_rfl) (by exact fun _ _ _ h => h) (Or.inl ⟨by rfl, ?_⟩) hHeld ?_
      rotate_left
      · (intro wX hSw; have z0 := (hSw.cell (p := ⟨r, 1, none⟩) (World.block_lt_of_cell? _ _ y0)).trans y0; clear hSw; go_simp; try with_reducible rfl)
      try simp only [Act.put, List.setIfInBounds_toArray, List.set_cons_zero, List.set_cons_succ]
      refine wpAnyH_take (i := 5) (oi := _) (v := ?_) (by rw [List.getElem?_toArray]; exact rfl) (by kernel_rfl) (by kernel_rfl) (by kernel_rfl) (by exact fun _ _ _ h => h) (Or.inl ⟨by rfl, ?_⟩) hHeld ?_
      rotate_left
      · (intro wX hSw; clear hSw; go_simp; try with_reducible rfl)
      try simp only [Act.put, List.setIfInBounds_toArray, List.set_cons_zero, List.set_cons_succ]
      refine wpAnyH_take (i := 6) (oi := _) (v := ?_) (by rw [List.getElem?_toArray]; exact rfl) (by kernel_rfl) (by kernel_rfl) (by kernel_rfl) (by exact fun _ _ _ h => h) (Or.inl ⟨by rfl, ?_⟩) hHeld ?_
      rotate_left
      · (intro wX hSw; clear hSw; go_simp; try with_reducible rfl)
      try simp only [Act.put, List.setIfInBounds_toArray, List.set_cons_zero, List.set_cons_succ]
      refine wpAnyH_take (i := 7) (oi := _) (v := ?_) (by rw [List.getElem?_toArray]; exact rfl) (by kernel_rfl) (by kernel_rfl) (by kernel_rfl) (by exact fun _ _ _ h => h) (Or.inl ⟨by rfl, ?_⟩) hHeld ?_
      rotate_left
      · (intro wX hSw; clear hSw; go_simp; try with_reducible rfl)
      try simp only [Act.put, List.setIfInBounds_toArray, List.set_cons_zero, List.set_cons_succ]
      refine wpAnyH_take (i := 8) (oi := _) (v := undef) (by rw [List.getElem?_toArray]; exact rfl) (by kernel_rfl) (by kernel_rfl) (by kernel_rfl) (by exact fun _ _ _ h => h) (Or.inr ⟨by rfl, rfl⟩) hHeld ?_
      try simp only [Act.put, List.setIfInBounds_toArray, List.set_cons_zero, List.set_cons_succ]
      refine wpAnyH_take (i := 9) (oi := _) (v := undef) (by rw [List.getElem?_toArray]; exact rfl) (by kernel_rfl) (by kernel_rfl) (by kernel_rfl) (by exact fun _ _ _ h => h) (Or.inr ⟨by rfl, rfl⟩) hHeld ?_
      try simp only [Act.put, List.setIfInBounds_toArray, List.set_cons_zero, List.set_cons_succ]
      refine wpAnyH_take (i := 10) (oi := _) (v := undef) (by rw [List.getElem?_toArray]; exact rfl) (by kernel_rfl) (by kernel_rfl) (by kernel_rfl) (by exact fun _ _ _ h => h) (Or.inr ⟨by rfl, rfl⟩) hHeld ?_
      try simp only [Act.put, List.setIfInBounds_toArray, List.set_cons_zero, List.set_cons_succ]
      refine wpAnyH_take (i := 11) (oi := _) (v := undef) (by rw [List.getElem?_toArray]; exact rfl) (by kernel_rfl) (by kernel_rfl) (by kernel_rfl) (by exact fun _ _ _ h => h) (Or.inr ⟨by rfl, rfl⟩) hHeld ?_
      try simp only [Act.put, List.setIfInBounds_toArray, List.set_cons_zero, List.set_cons_succ]
      refine wpAnyH_take (i := 12) (oi := _) (v := undef) (by rw [List.getElem?_toArray]; exact rfl) (by kernel_rfl) (by kernel_rfl) (by kernel_rfl) (by exact fun _ _ _ h => h) (Or.inr ⟨by rfl, rfl⟩) hHeld ?_
      try simp only [Act.put, List.setIfInBounds_toArray, List.set_cons_zero, List.set_cons_succ]
      refine wpAnyH_take (i := 13) (oi := _) (v := undef) (by rw [List.getElem?_toArray]; exact rfl) (by kernel_rfl) (by kernel_rfl) (by kernel_rfl) (by exact fun _ _ _ h => h) (Or.inr ⟨by rfl, rfl⟩) hHeld ?_
      try simp only [Act.put, List.setIfInBounds_toArray, List.set_cons_zero, List.set_cons_succ]
      refine wpAnyH_take (i := 14) (oi := _) (v := undef) (by rw [List.getElem?_toArray]; exact rfl) (by kernel_rfl) (by kernel_rfl) (by kernel_rfl) (by exact fun _ _ _ h => h) (Or.inr ⟨by rfl, rfl⟩) hHeld ?_
      try simp only [Act.put, List.setIfInBounds_toArray, List.set_cons_zero, List.set_cons_succ]
      refine wpAnyH_take (i := 15) (oi := _) (v := undef) (by rw [List.getElem?_toArray]; exact rfl) (by kernel_rfl) (by kernel_rfl) (by kernel_rfl) (by exact fun _ _ _ h => h) (Or.inr ⟨by rfl, rfl⟩) hHeld ?_
      try simp only [Act.put, List.setIfInBounds_toArray, List.set_cons_zero, List.set_cons_succ]
      refine wpAnyH_take (i := 16) (oi := _) (v := undef) (by rw [List.getElem?_toArray]; exact rfl) (by kernel_rfl) (by kernel_rfl) (by kernel_rfl) (by exact fun _ _ _ h => h) (Or.inr ⟨by rfl, rfl⟩) hHeld ?_
      try simp only [Act.put, List.setIfInBounds_toArray, List.set_cons_zero, List.set_cons_succ]
      refine wpAnyH_take (i := 17) (oi := _) (v := undef) (by rw [List.getElem?_toArray]; exact rfl) (by kernel_rfl) (by kernel_rfl) (by kernel_rfl) (by exact fun _ _ _ h => h) (Or.inr ⟨by rfl, rfl⟩) hHeld ?_
      try simp only [Act.put, List.setIfInBounds_toArray, List.set_cons_zero, List.set_cons_succ]
      refine wpAnyH_take (i := 18) (oi := _) (v := undef) (by rw [List.getElem?_toArray]; exact rfl) (by kernel_rfl) (by kernel_rfl) (by kernel_rfl) (by exact fun _ _ _ h => h) (Or.inr ⟨by rfl, rfl⟩) hHeld ?_
      try simp only [Act.put, List.setIfInBounds_toArray, List.set_cons_zero, List.set_cons_succ]
      refine wpAnyH_take (i := 19) (oi := _) (v := undef) (by rw [List.getElem?_toArray]; exact rfl) (by kernel_rfl) (by kernel_rfl) (by kernel_rfl) (by exact fun _ _ _ h => h) (Or.inr ⟨by rfl, rfl⟩) hHeld ?_
      try simp only [Act.put, List.setIfInBounds_toArray, List.set_cons_zero, List.set_cons_succ]
      refine wpAnyH_take (i := 20) (oi := _) (v := undef) (by rw [List.getElem?_toArray]; exact rfl) (by kernel_rfl) (by kernel_rfl) (by kernel_rfl) (by exact fun _ _ _ h => h) (Or.inr ⟨by rfl, rfl⟩) hHeld ?_
      try simp only [Act.put, List.setIfInBounds_toArray, List.set_cons_zero, List.set_cons_succ]
      refine wpAnyH_take (i := 21) (oi := _) (v := undef) (by rw [List.getElem?_toArray]; exact rfl) (by kernel_rfl) (by kernel_rfl) (by kernel_rfl) (by exact fun _ _ _ h => h) (Or.inr ⟨by rfl, rfl⟩) hHeld ?_
      try simp only [Act.put, List.setIfInBounds_toArray, List.set_cons_zero, List.set_cons_succ]
      refine wpAnyH_take (i := 22) (oi := _) (v := ?_) (by rw [List.getElem?_toArray]; exact rfl) (by kernel_rfl) (by kernel_rfl) (by kernel_rfl) (by exact fun _ _ _ h => h) (Or.inl ⟨by rfl, ?_⟩) hHeld ?_
      rotate_left
      · (intro wX hSw; clear hSw; go_simp; try with_reducible rfl)
      try simp only [Act.put, List.setIfInBounds_toArray, List.set_cons_zero, List.set_cons_succ]
      refine wpAnyH_done (by kernel_rfl) ?_ _
      have HB2 := Lib.hid (HB.out.trans (hHeld.mono HB.out.size))
      have hBq := hHeld
      clear hHeld m0 m1
      obtain ⟨wz, hwz⟩ : ∃ t, wr.drew = t := ⟨_, rfl⟩
      rw [hwz] at HB2 hBq ⊢
      clear hwz hBq y0 HL
      have HDZ := Lib.hid (H0.out.below HB2.out)
      have y0 := HDZ.out.cell
      rw [HLV.out, HN.out] at y0
      obtain ⟨t0, t1, t2, t3, t4, t5, t6, t7, t8, t9, t10⟩ := encD_cells (HBX.out.below HB2.out)
      have hroD := HDZ.out.own
      rw [HLV.out, HN.out] at hroD
      have hcapN := own_capD hroD
      have hso := runR_first (a := la) (N := N) (n := k) (cap := lc) (by omega)
      have hrd : ReadsK encD 11 wz (.slice la N lc) l := readsK_own encD_len (by decide) hroD HN.out
      have hru := readsK_take hrd k (by rw [HN.out]; exact hkN) lc
      obtain ⟨v1, w1, hap1, ho1, hg1⟩ := run_appK (P := Try.prog) (α := Rl) (enc := encD) (k := 11) (bytes := 120) (E := RowT) (t := 30) (z := zRow) Try.underlying30 info_rowD rfl (by decide) encD_len (by intro y v hv; simp [encD] at hv; rcases hv with rfl | rfl | rfl | rfl | rfl | rfl | rfl | rfl | rfl | rfl <;> rfl) (w := wz) (B := wz.heap.size) (v := .slice none 0 0) (xs := []) 30 (World.ownsRow_nil _ _ _ _) hru (by rw [List.length_take]; simp; omega) (by decide) (Nat.le_refl _)
      simp only [List.nil_append] at ho1
      have hB1 : Below wz.heap.size wz w1 := ⟨hg1.os, hg1.tape, hg1.output, hg1.size, fun q hq => hg1.block q hq (fun e => by cases e)⟩
      obtain ⟨a1, d1, hv1⟩ := own_slice ho1
      subst hv1
      have hlt2 : (l.take k).length = k := by rw [List.length_take, HN.out]; omega
      rw [hlt2] at ho1 hap1
      have z0 := (hB1.cell (p := ⟨xb, 0, none⟩) (World.block_lt_of_cell? _ _ t0)).trans t0
      have z1 := (hB1.cell (p := ⟨xb, 1, none⟩) (World.block_lt_of_cell? _ _ t1)).trans t1
      have z2 := (hB1.cell (p := ⟨xb, 2, none⟩) (World.block_lt_of_cell? _ _ t2)).trans t2
      have z3 := (hB1.cell (p := ⟨xb, 3, none⟩) (World.block_lt_of_cell? _ _ t3)).trans t3
      have z4 := (hB1.cell (p := ⟨xb, 4, none⟩) (World.block_lt_of_cell? _ _ t4)).trans t4
      have z5 := (hB1.cell (p := ⟨xb, 5, none⟩) (World.block_lt_of_cell? _ _ t5)).trans t5
      have z6 := (hB1.cell (p := ⟨xb, 6, none⟩) (World.block_lt_of_cell? _ _ t6)).trans t6
      have z7 := (hB1.cell (p := ⟨xb, 7, none⟩) (World.block_lt_of_cell? _ _ t7)).trans t7
      have z8 := (hB1.cell (p := ⟨xb, 8, none⟩) (World.block_lt_of_cell? _ _ t8)).trans t8
      have z9 := (hB1.cell (p := ⟨xb, 9, none⟩) (World.block_lt_of_cell? _ _ t9)).trans t9
      have z10 := (hB1.cell (p := ⟨xb, 10, none⟩) (World.block_lt_of_cell? _ _ t10)).trans t10
      obtain ⟨g7, c7, w7, hap, ho7, hF7⟩ := app_rowD (Z := wz.heap.size) (D := l.take k) (w := w1) x (by rw [hlt2]; exact ho1) hlt2 (by omega) hB1.size
      have hB7 : Below wz.heap.size wz w7 := hB1.trans (hF7.below (fun i hi => (ho1.lt i hi).1) hB1.size)
      have hro7 := own_below hroD hB7
      have hrd7 : ReadsK encD 11 w7 (.slice la N lc) l := readsK_own encD_len (by decide) hro7 HN.out
      obtain ⟨lv9, hs9, hr9⟩ := runR_last (a := la) (cap := lc) (n := k) (l := l) (by rw [HN.out]; exact hrd7) (by rw [HN.out]; exact hkN) (by rw [HN.out]; exact hcapN)
      rw [HN.out] at hs9
      have hl7 : (l.take k ++ [x]).length = k + 1 := by rw [List.length_append, hlt2]; rfl
      obtain ⟨v9, w9, hap9, ho9, hg9⟩ := run_appK (P := Try.prog) (α := Rl) (enc := encD) (k := 11) (bytes := 120) (E := RowT) (t := 30) (z := zRow) Try.underlying30 info_rowD rfl (by decide) encD_len (by intro y v hv; simp [encD] at hv; rcases hv with rfl | rfl | rfl | rfl | rfl | rfl | rfl | rfl | rfl | rfl <;> rfl) (w := w7) (B := wz.heap.size) (v := .slice (some ⟨g7, 0, none⟩) (k + 1) c7) (xs := l.take k ++ [x]) 30 ho7 hr9 (by rw [hl7, List.length_drop]; omega) (by decide) hB7.size
      obtain ⟨a9, d9, hv9⟩ := own_slice ho9
      subst hv9
      have ho7b := ho7
      rw [hl7] at ho7b
      have hB9 : Below wz.heap.size wz w9 := hB7.trans ((show Fr (fun i => (Value.slice (some ⟨g7, 0, none⟩) (k + 1) c7).ownBlock = some i) w7 w9 from ⟨hg9.os, hg9.tape, hg9.output, hg9.size, fun q hq hs => hg9.block q hq (fun e => hs e.symm)⟩).below (fun i hi => (ho7b.lt i hi).1) hB7.size)
      have hz : Z ≤ w.heap.size := by
        have h1 : r < w.heap.size := (Array.getElem?_eq_some_iff.1 HT.out.box).1
        have h2 := HT.out.zr
        omega
      have HX := Lib.hid (HDZ.out.put2 hB9 ho9 (fun q hq => by
        rcases List.mem_append.1 hq with hq | hq
        · rcases List.mem_append.1 hq with hq | hq
          · exact HDZ.out.args q (List.mem_of_mem_take hq)
          · rw [List.mem_singleton] at hq
            subst hq
            exact HAZ.out.keep ((gthenD HA.out HB2.out).mono hz)
        · exact HDZ.out.args q (List.mem_of_mem_drop hq)))
      have y9 : w9.cell? ⟨r, 1, none⟩ = some (.slice la N lc) := (hB9.cell (p := ⟨r, 1, none⟩) (World.block_lt_of_cell? _ _ y0)).trans y0
      have y7 : w7.cell? ⟨r, 1, none⟩ = some (.slice la N lc) := (hB7.cell (p := ⟨r, 1, none⟩) (World.block_lt_of_cell? _ _ y0)).trans y0
      have f9 := (HDZ.out.below hB9).box.frozen 1
      have hll : (l.take k ++ [x] ++ l.drop k).length = N + 1 := by rw [List.length_append, hl7, List.length_drop, HN.out]; omega
      rw [hll] at hap9 HX
      obtain ⟨N9, hN9⟩ : ∃ n, N + 1 = n := ⟨_, rfl⟩
      rw [hN9] at hap9 HX
      obtain ⟨k9, hk9⟩ : ∃ n, k + 1 = n := ⟨_, rfl⟩
      rw [hk9] at hap hap9
      clear hru ho1 hg1 hB1 hroD hrd hro7 hrd7 hr9 ho7 hF7 ho7b ho9 hg9 hB7 hB9 hl7 hll hN9 hk9 hz hlt2
      have HHP := Lib.hid (And.intro hap (And.intro hap9 (And.intro hs9 (And.intro y9 (And.intro y7 f9)))))
      have HZZ := Lib.hid (And.intro z0 (And.intro z1 (And.intro z2 (And.intro z3 (And.intro z4 (And.intro z5 (And.intro z6 (And.intro z7 (And.intro z8 (And.intro z9 z10))))))))))
      clear hap hap9 hs9 y9 y7 f9 z0 z1 z2 z3 z4 z5 z6 z7 z8 z9 z10 t0 t1 t2 t3 t4 t5 t6 t7 t8 t9 t10
      go_upto_region 6 with (at_builtin; refine wpList_arunC rfl _ _ _ _ rfl rfl rfl hap1 ?_)
      clear hap1 hso y0
      have hap := HHP.out.1
      obtain ⟨z0, z1, z2, z3, z4, z5, z6, z7, z8, z9, z10⟩ := HZZ.out
      go_upto_region 7 with (at_builtin; refine wpList_arunC rfl _ _ _ _ rfl rfl rfl hap ?_)
      clear hap z0 z1 z2 z3 z4 z5 z6 z7 z8 z9 z10
      obtain ⟨_, hap9, hs9, y9, y7, f9⟩ := HHP.out
      go_wp2_with (at_builtin; refine wpList_arunC rfl _ _ _ _ rfl rfl rfl hap9 ?_)
      go_end0
      exact ⟨rfl, _, k, HS.out, HX.out.1, HX.out.2.from (gthenD HA.out HB2.out)⟩
end Go.Proofs.Ythbkbmkcgpdedaa
