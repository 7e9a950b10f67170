/- CommitNone: its walk. -/
import Derived.Test.YtibfcoaiodmimaaWant4
import Derived.Test.YtibfcoaiodmimaaOpen24
namespace Go.Proofs.Ytibfcoaiodmimaa
open Go.RowKit Go.Sort Go.Lib Go.Shelf

set_option maxHeartbeats 16000000 in
set_option maxRecDepth 100000 in
theorem none_any (x : Ent) (w : World) (_hs : x.1.2.size ≤ 9223372036854775807) : Calls Try.prog 5 #[.agg #[.int .u64 x.1.1, .string x.1.2, .int .i64 x.2.1, .int .i64 x.2.2.1, .int .i64 x.2.2.2]] w fun e w' => e = .returned (.bool true) ∧ Below w.heap.size w w' := by
  have hB0 : Below w.heap.size w (w.alloc (.cells #[.int .u64 x.1.1, .string x.1.2, .int .i64 x.2.1, .int .i64 x.2.2.1, .int .i64 x.2.2.2] 38)) := (Below.refl _ _).alloc (Nat.le_refl _) _
  go_enter Try.func5, Try.ntmps5
  by_cases hg : (x.1.2.size : Int) > 1024
  · go_wp2_with fail
    refine (works_any _).mono ?_
    rintro e w1 ⟨rfl, hB⟩
    go_wp2_with fail
    go_ret
    exact ⟨ret_boolE rfl, gthen hB0 hB⟩
  · have n0 : (w.alloc (.cells #[.int .u64 x.1.1, .string x.1.2, .int .i64 x.2.1, .int .i64 x.2.2.1, .int .i64 x.2.2.2] 38)).cell? ⟨w.heap.size, 0, none⟩ = some (.int .u64 x.1.1) := by simp
    have n1 : (w.alloc (.cells #[.int .u64 x.1.1, .string x.1.2, .int .i64 x.2.1, .int .i64 x.2.2.1, .int .i64 x.2.2.2] 38)).cell? ⟨w.heap.size, 1, none⟩ = some (.string x.1.2) := by simp
    have n2 : (w.alloc (.cells #[.int .u64 x.1.1, .string x.1.2, .int .i64 x.2.1, .int .i64 x.2.2.1, .int .i64 x.2.2.2] 38)).cell? ⟨w.heap.size, 2, none⟩ = some (.int .i64 x.2.1) := by simp
    have n3 : (w.alloc (.cells #[.int .u64 x.1.1, .string x.1.2, .int .i64 x.2.1, .int .i64 x.2.2.1, .int .i64 x.2.2.2] 38)).cell? ⟨w.heap.size, 3, none⟩ = some (.int .i64 x.2.2.1) := by simp
    have n4 : (w.alloc (.cells #[.int .u64 x.1.1, .string x.1.2, .int .i64 x.2.1, .int .i64 x.2.2.1, .int .i64 x.2.2.2] 38)).cell? ⟨w.heap.size, 4, none⟩ = some (.int .i64 x.2.2.2) := by simp
    go_wp2_with fail
    refine (nil_commit x _).mono ?_
    rintro e w1 ⟨rfl, hB⟩
    replace n0 := cell_keep hB n0; replace n1 := cell_keep hB n1
    have HB := Lib.hid (gthen hB0 hB)
    clear hB hB0 n2 n3 n4
    go_wp2_with fail
    refine (nil_of x.1 _).mono ?_
    rintro e w2 ⟨rfl, hB⟩
    replace n0 := cell_keep hB n0; replace n1 := cell_keep hB n1
    replace HB := Lib.hid (gthen HB.out hB)
    clear hB
    unfold evE zE
    go_upto_region 6 with fail
    have hB3 : Below w2.heap.size w2 (w2.alloc (.cells #[.int .u64 0, .string ⟨#[]⟩, .int .i64 0, .int .i64 0, .int .i64 0] 38)) := (Below.refl _ _).alloc (Nat.le_refl _) _
    have e0 : (w2.alloc (.cells #[.int .u64 0, .string ⟨#[]⟩, .int .i64 0, .int .i64 0, .int .i64 0] 38)).cell? ⟨w2.heap.size, 0, none⟩ = some (.int .u64 0) := by simp
    have e1 : (w2.alloc (.cells #[.int .u64 0, .string ⟨#[]⟩, .int .i64 0, .int .i64 0, .int .i64 0] 38)).cell? ⟨w2.heap.size, 1, none⟩ = some (.string ⟨#[]⟩) := by simp
    have e2 : (w2.alloc (.cells #[.int .u64 0, .string ⟨#[]⟩, .int .i64 0, .int .i64 0, .int .i64 0] 38)).cell? ⟨w2.heap.size, 2, none⟩ = some (.int .i64 0) := by simp
    have e3 : (w2.alloc (.cells #[.int .u64 0, .string ⟨#[]⟩, .int .i64 0, .int .i64 0, .int .i64 0] 38)).cell? ⟨w2.heap.size, 3, none⟩ = some (.int .i64 0) := by simp
    have e4 : (w2.alloc (.cells #[.int .u64 0, .string ⟨#[]⟩, .int .i64 0, .int .i64 0, .int .i64 0] 38)).cell? ⟨w2.heap.size, 4, none⟩ = some (.int .i64 0) := by simp
    replace n0 := cell_keep hB3 n0
    replace n1 := cell_keep hB3 n1
    have HB3 := Lib.hid (gthen HB.out hB3)
    generalize w2.alloc (.cells #[.int .u64 0, .string ⟨#[]⟩, .int .i64 0, .int .i64 0, .int .i64 0] 38) = wq at *
    have hl0 : w.heap.size < wq.heap.size := World.block_lt_of_cell? _ _ n0
    have hl2 : w2.heap.size < wq.heap.size := World.block_lt_of_cell? _ _ e0
    clear HB hB3
    refine wp_region_held_drew (S := fun y => Below wq.heap.size wq y) (by kernel_rfl) ((Below.refl _ _).drew) (fun hHeld => ?_)
    refine wpAnyH_take (i := 0) (oi := _) (v := ?_) (by rw [List.getElem?_toArray]; exact rfl) (by kernel_rfl) (by kernel_rfl) (by kernel_rfl) (by exact fun _ _ _ h => h) (Or.inl ⟨by rfl, ?_⟩) hHeld ?_
    rotate_left
    · (intro w hSw; have q0 := cell_low hSw hl0 n0; have q1 := cell_low hSw hl0 n1; have p0 := cell_low hSw hl2 e0; have p1 := cell_low hSw hl2 e1; have p2 := cell_low hSw hl2 e2; have p3 := cell_low hSw hl2 e3; have p4 := cell_low hSw hl2 e4; clear hSw; go_simp; try with_reducible rfl)
    try simp only [Act.put, List.setIfInBounds_toArray, List.set_cons_zero, List.set_cons_succ]
    refine wpAnyH_take (i := 1) (oi := _) (v := ?_) (by rw [List.getElem?_toArray]; exact rfl) (by kernel_rfl) (by kernel_rfl) (by kernel_rfl) (by exact fun _ _ _ h => h) (Or.inl ⟨by rfl, ?_⟩) hHeld ?_
    rotate_left
    · (intro w hSw; have q0 := cell_low hSw hl0 n0; have q1 := cell_low hSw hl0 n1; have p0 := cell_low hSw hl2 e0; have p1 := cell_low hSw hl2 e1; have p2 := cell_low hSw hl2 e2; have p3 := cell_low hSw hl2 e3; have p4 := cell_low hSw hl2 e4; clear hSw; go_simp; try with_reducible rfl)
    try simp only [Act.put, List.setIfInBounds_toArray, List.set_cons_zero, List.set_cons_succ]
    refine wpAnyH_take (i := 2) (oi := _) (v := ?_) (by rw [List.getElem?_toArray]; exact rfl) (by kernel_rfl) (by kernel_rfl) (by kernel_rfl) (by exact fun _ _ _ h => h) (Or.inl ⟨by rfl, ?_⟩) hHeld ?_
    rotate_left
    · (intro w hSw; have q0 := cell_low hSw hl0 n0; have q1 := cell_low hSw hl0 n1; have p0 := cell_low hSw hl2 e0; have p1 := cell_low hSw hl2 e1; have p2 := cell_low hSw hl2 e2; have p3 := cell_low hSw hl2 e3; have p4 := cell_low hSw hl2 e4; clear hSw; go_simp; try with_reducible rfl)
    try simp only [Act.put, List.setIfInBounds_toArray, List.set_cons_zero, List.set_cons_succ]
    refine wpAnyH_take (i := 3) (oi := _) (v := ?_) (by rw [List.getElem?_toArray]; exact rfl) (by kernel_rfl) (by kernel_rfl) (by kernel_rfl) (by exact fun _ _ _ h => h) (Or.inl ⟨by rfl, ?_⟩) hHeld ?_
    rotate_left
    · (intro w hSw; have q0 := cell_low hSw hl0 n0; have q1 := cell_low hSw hl0 n1; have p0 := cell_low hSw hl2 e0; have p1 := cell_low hSw hl2 e1; have p2 := cell_low hSw hl2 e2; have p3 := cell_low hSw hl2 e3; have p4 := cell_low hSw hl2 e4; clear hSw; go_simp; try with_reducible rfl)
    try simp only [Act.put, List.setIfInBounds_toArray, List.set_cons_zero, List.set_cons_succ]
    refine wpAnyH_take (i := 4) (oi := _) (v := ?_) (by rw [List.getElem?_toArray]; exact rfl) (by kernel_rfl) (by kernel_rfl) (by kernel_rfl) (by exact fun _ _ _ h => h) (Or.inl ⟨by rfl, ?_⟩) hHeld ?_
    rotate_left
    · (intro w hSw; have q0 := cell_low hSw hl0 n0; have q1 := cell_low hSw hl0 n1; have p0 := cell_low hSw hl2 e0; have p1 := cell_low hSw hl2 e1; have p2 := cell_low hSw hl2 e2; have p3 := cell_low hSw hl2 e3; have p4 := cell_low hSw hl2 e4; clear hSw; go_simp; try with_reducible rfl)
    try simp only [Act.put, List.setIfInBounds_toArray, List.set_cons_zero, List.set_cons_succ]
    refine wpAnyH_take (i := 5) (oi := _) (v := ?_) (by rw [List.getElem?_toArray]; exact rfl) (by kernel_rfl) (by kernel_rfl) (by kernel_rfl) (by exact fun _ _ _ h => h) (Or.inl ⟨by rfl, ?_⟩) hHeld ?_
    rotate_left
    · (intro w hSw; have q0 := cell_low hSw hl0 n0; have q1 := cell_low hSw hl0 n1; have p0 := cell_low hSw hl2 e0; have p1 := cell_low hSw hl2 e1; have p2 := cell_low hSw hl2 e2; have p3 := cell_low hSw hl2 e3; have p4 := cell_low hSw hl2 e4; clear hSw; go_simp; try with_reducible rfl)
    try simp only [Act.put, List.setIfInBounds_toArray, List.set_cons_zero, List.set_cons_succ]
    refine wpAnyH_take (i := 6) (oi := _) (v := ?_) (by rw [List.getElem?_toArray]; exact rfl) (by kernel_rfl) (by kernel_rfl) (by kernel_rfl) (by exact fun _ _ _ h => h) (Or.inl ⟨by rfl, ?_⟩) hHeld ?_
    rotate_left
    · (intro w hSw; have q0 := cell_low hSw hl0 n0; have q1 := cell_low hSw hl0 n1; have p0 := cell_low hSw hl2 e0; have p1 := cell_low hSw hl2 e1; have p2 := cell_low hSw hl2 e2; have p3 := cell_low hSw hl2 e3; have p4 := cell_low hSw hl2 e4; clear hSw; go_simp; try with_reducible rfl)
    try simp only [Act.put, List.setIfInBounds_toArray, List.set_cons_zero, List.set_cons_succ]
    refine wpAnyH_take (i := 7) (oi := _) (v := ?_) (by rw [List.getElem?_toArray]; exact rfl) (by kernel_rfl) (by kernel_rfl) (by kernel_rfl) (by exact fun _ _ _ h => h) (Or.inl ⟨by rfl, ?_⟩) hHeld ?_
    rotate_left
    · (intro w hSw; have q0 := cell_low hSw hl0 n0; have q1 := cell_low hSw hl0 n1; have p0 := cell_low hSw hl2 e0; have p1 := cell_low hSw hl2 e1; have p2 := cell_low hSw hl2 e2; have p3 := cell_low hSw hl2 e3; have p4 := cell_low hSw hl2 e4; clear hSw; go_simp; try with_reducible rfl)
    try simp only [Act.put, List.setIfInBounds_toArray, List.set_cons_zero, List.set_cons_succ]
    refine wpAnyH_take (i := 8) (oi := _) (v := ?_) (by rw [List.getElem?_toArray]; exact rfl) (by kernel_rfl) (by kernel_rfl) (by kernel_rfl) (by exact fun _ _ _ h => h) (Or.inl ⟨by rfl, ?_⟩) hHeld ?_
    rotate_left
    · (intro w hSw; have q0 := cell_low hSw hl0 n0; have q1 := cell_low hSw hl0 n1; have p0 := cell_low hSw hl2 e0; have p1 := cell_low hSw hl2 e1; have p2 := cell_low hSw hl2 e2; have p3 := cell_low hSw hl2 e3; have p4 := cell_low hSw hl2 e4; clear hSw; go_simp; try with_reducible rfl)
    try simp only [Act.put, List.setIfInBounds_toArray, List.set_cons_zero, List.set_cons_succ]
    refine wpAnyH_take (i := 9) (oi := _) (v := ?_) (by rw [List.getElem?_toArray]; exact rfl) (by kernel_rfl) (by kernel_rfl) (by kernel_rfl) (by exact fun _ _ _ h => h) (Or.inl ⟨by rfl, ?_⟩) hHeld ?_
    rotate_left
    · (intro w hSw; have q0 := cell_low hSw hl0 n0; have q1 := cell_low hSw hl0 n1; have p0 := cell_low hSw hl2 e0; have p1 := cell_low hSw hl2 e1; have p2 := cell_low hSw hl2 e2; have p3 := cell_low hSw hl2 e3; have p4 := cell_low hSw hl2 e4; clear hSw; go_simp; try with_reducible rfl)
    try simp only [Act.put, List.setIfInBounds_toArray, List.set_cons_zero, List.set_cons_succ]
    refine wpAnyH_take (i := 10) (oi := _) (v := ?_) (by rw [List.getElem?_toArray]; exact rfl) (by kernel_rfl) (by kernel_rfl) (by kernel_rfl) (by exact fun _ _ _ h => h) (Or.inl ⟨by rfl, ?_⟩) hHeld ?_
    rotate_left
    · (intro w hSw; have q0 := cell_low hSw hl0 n0; have q1 := cell_low hSw hl0 n1; have p0 := cell_low hSw hl2 e0; have p1 := cell_low hSw hl2 e1; have p2 := cell_low hSw hl2 e2; have p3 := cell_low hSw hl2 e3; have p4 := cell_low hSw hl2 e4; clear hSw; go_simp; try with_reducible rfl)
    try simp only [Act.put, List.setIfInBounds_toArray, List.set_cons_zero, List.set_cons_succ]
    refine wpAnyH_take (i := 11) (oi := _) (v := ?_) (by rw [List.getElem?_toArray]; exact rfl) (by kernel_rfl) (by kernel_rfl) (by kernel_rfl) (by exact fun _ _ _ h => h) (Or.inl ⟨by rfl, ?_⟩) hHeld ?_
    rotate_left
    · (intro w hSw; have q0 := cell_low hSw hl0 n0; have q1 := cell_low hSw hl0 n1; have p0 := cell_low hSw hl2 e0; have p1 := cell_low hSw hl2 e1; have p2 := cell_low hSw hl2 e2; have p3 := cell_low hSw hl2 e3; have p4 := cell_low hSw hl2 e4; clear hSw; go_simp; try with_reducible rfl)
    try simp only [Act.put, List.setIfInBounds_toArray, List.set_cons_zero, List.set_cons_succ]
    refine wpAnyH_take (i := 12) (oi := _) (v := ?_) (by rw [List.getElem?_toArray]; exact rfl) (by kernel_rfl) (by kernel_rfl) (by kernel_rfl) (by exact fun _ _ _ h => h) (Or.inl ⟨by rfl, ?_⟩) hHeld ?_
    rotate_left
    · (intro w hSw; have q0 := cell_low hSw hl0 n0; have q1 := cell_low hSw hl0 n1; have p0 := cell_low hSw hl2 e0; have p1 := cell_low hSw hl2 e1; have p2 := cell_low hSw hl2 e2; have p3 := cell_low hSw hl2 e3; have p4 := cell_low hSw hl2 e4; clear hSw; go_simp; try with_reducible rfl)
    try simp only [Act.put, List.setIfInBounds_toArray, List.set_cons_zero, List.set_cons_succ]
    refine wpAnyH_take (i := 13) (oi := _) (v := ?_) (by rw [List.getElem?_toArray]; exact rfl) (by kernel_rfl) (by kernel_rfl) (by kernel_rfl) (by exact fun _ _ _ h => h) (Or.inl ⟨by rfl, ?_⟩) hHeld ?_
    rotate_left
    · (intro w hSw; have q0 := cell_low hSw hl0 n0; have q1 := cell_low hSw hl0 n1; have p0 := cell_low hSw hl2 e0; have p1 := cell_low hSw hl2 e1; have p2 := cell_low hSw hl2 e2; have p3 := cell_low hSw hl2 e3; have p4 := cell_low hSw hl2 e4; clear hSw; go_simp; try with_reducible rfl)
    try simp only [Act.put, List.setIfInBounds_toArray, List.set_cons_zero, List.set_cons_succ]
    refine wpAnyH_take (i := 14) (oi := _) (v := ?_) (by rw [List.getElem?_toArray]; exact rfl) (by kernel_rfl) (by kernel_rfl) (by kernel_rfl) (by exact fun _ _ _ h => h) (Or.inl ⟨by rfl, ?_⟩) hHeld ?_
    rotate_left
    · (intro w hSw; have q0 := cell_low hSw hl0 n0; have q1 := cell_low hSw hl0 n1; have p0 := cell_low hSw hl2 e0; have p1 := cell_low hSw hl2 e1; have p2 := cell_low hSw hl2 e2; have p3 := cell_low hSw hl2 e3; have p4 := cell_low hSw hl2 e4; clear hSw; go_simp; try with_reducible rfl)
    try simp only [Act.put, List.setIfInBounds_toArray, List.set_cons_zero, List.set_cons_succ]
    refine wpAnyH_take (i := 15) (oi := _) (v := ?_) (by rw [List.getElem?_toArray]; exact rfl) (by kernel_rfl) (by kernel_rfl) (by kernel_rfl) (by exact fun _ _ _ h => h) (Or.inl ⟨by rfl, ?_⟩) hHeld ?_
    rotate_left
    · (intro w hSw; have q0 := cell_low hSw hl0 n0; have q1 := cell_low hSw hl0 n1; have p0 := cell_low hSw hl2 e0; have p1 := cell_low hSw hl2 e1; have p2 := cell_low hSw hl2 e2; have p3 := cell_low hSw hl2 e3; have p4 := cell_low hSw hl2 e4; clear hSw; go_simp; try with_reducible rfl)
    try simp only [Act.put, List.setIfInBounds_toArray, List.set_cons_zero, List.set_cons_succ]
    refine wpAnyH_take (i := 16) (oi := _) (v := ?_) (by rw [List.getElem?_toArray]; exact rfl) (by kernel_rfl) (by kernel_rfl) (by kernel_rfl) (by exact fun _ _ _ h => h) (Or.inl ⟨by rfl, ?_⟩) hHeld ?_
    rotate_left
    · (intro w hSw; have q0 := cell_low hSw hl0 n0; have q1 := cell_low hSw hl0 n1; have p0 := cell_low hSw hl2 e0; have p1 := cell_low hSw hl2 e1; have p2 := cell_low hSw hl2 e2; have p3 := cell_low hSw hl2 e3; have p4 := cell_low hSw hl2 e4; clear hSw; go_simp; try with_reducible rfl)
    try simp only [Act.put, List.setIfInBounds_toArray, List.set_cons_zero, List.set_cons_succ]
    refine wpAnyH_take (i := 17) (oi := _) (v := ?_) (by rw [List.getElem?_toArray]; exact rfl) (by kernel_rfl) (by kernel_rfl) (by kernel_rfl) (by exact fun _ _ _ h => h) (Or.inl ⟨by rfl, ?_⟩) hHeld ?_
    rotate_left
    · (intro w hSw; have q0 := cell_low hSw hl0 n0; have q1 := cell_low hSw hl0 n1; have p0 := cell_low hSw hl2 e0; have p1 := cell_low hSw hl2 e1; have p2 := cell_low hSw hl2 e2; have p3 := cell_low hSw hl2 e3; have p4 := cell_low hSw hl2 e4; clear hSw; go_simp; try with_reducible rfl)
    try simp only [Act.put, List.setIfInBounds_toArray, List.set_cons_zero, List.set_cons_succ]
    refine wpAnyH_take (i := 18) (oi := _) (v := ?_) (by rw [List.getElem?_toArray]; exact rfl) (by kernel_rfl) (by kernel_rfl) (by kernel_rfl) (by exact fun _ _ _ h => h) (Or.inl ⟨by rfl, ?_⟩) hHeld ?_
    rotate_left
    · (intro w hSw; have q0 := cell_low hSw hl0 n0; have q1 := cell_low hSw hl0 n1; have p0 := cell_low hSw hl2 e0; have p1 := cell_low hSw hl2 e1; have p2 := cell_low hSw hl2 e2; have p3 := cell_low hSw hl2 e3; have p4 := cell_low hSw hl2 e4; clear hSw; go_simp; try with_reducible rfl)
    try simp only [Act.put, List.setIfInBounds_toArray, List.set_cons_zero, List.set_cons_succ]
    refine wpAnyH_ready (rs := [19]) (by kernel_rfl) (by simp) ?_
    refine AllReadyH.cons (o := _) (by rw [List.getElem?_toArray]; exact rfl) (fun K hK => ?_) ?_
    · go_simp
      refine (nil_whole x.1 _).mono ?_; rintro e wc ⟨rfl, hB⟩
      go_wp2_with fail
      refine hK.out _ _ (hHeld.trans (hB.mono hHeld.size)) (fun hHeld => ?_)
      clear hK K
      try simp only [Act.put, List.setIfInBounds_toArray, List.set_cons_zero, List.set_cons_succ]
      refine wpAnyH_take (i := 20) (oi := _) (v := ?_) (by rw [List.getElem?_toArray]; exact rfl) (by kernel_rfl) (by kernel_rfl) (by kernel_rfl) (by exact fun _ _ _ h => h) (Or.inl ⟨by rfl, ?_⟩) hHeld ?_
      rotate_left
      · (intro w hSw; have q0 := cell_low hSw hl0 n0; have q1 := cell_low hSw hl0 n1; have p0 := cell_low hSw hl2 e0; have p1 := cell_low hSw hl2 e1; have p2 := cell_low hSw hl2 e2; have p3 := cell_low hSw hl2 e3; have p4 := cell_low hSw hl2 e4; clear hSw; go_simp; try with_reducible rfl)
      try simp only [Act.put, List.setIfInBounds_toArray, List.set_cons_zero, List.set_cons_succ]
      refine wpAnyH_take (i := 21) (oi := _) (v := ?_) (by rw [List.getElem?_toArray]; exact rfl) (by kernel_rfl) (by kernel_rfl) (by kernel_rfl) (by exact fun _ _ _ h => h) (Or.inl ⟨by rfl, ?_⟩) hHeld ?_
      rotate_left
      · (intro w hSw; have q0 := cell_low hSw hl0 n0; have q1 := cell_low hSw hl0 n1; have p0 := cell_low hSw hl2 e0; have p1 := cell_low hSw hl2 e1; have p2 := cell_low hSw hl2 e2; have p3 := cell_low hSw hl2 e3; have p4 := cell_low hSw hl2 e4; clear hSw; go_simp; try with_reducible rfl)
      try simp only [Act.put, List.setIfInBounds_toArray, List.set_cons_zero, List.set_cons_succ]
      refine wpAnyH_take (i := 22) (oi := _) (v := ?_) (by rw [List.getElem?_toArray]; exact rfl) (by kernel_rfl) (by kernel_rfl) (by kernel_rfl) (by exact fun _ _ _ h => h) (Or.inl ⟨by rfl, ?_⟩) hHeld ?_
      rotate_left
      · (intro w hSw; have q0 := cell_low hSw hl0 n0; have q1 := cell_low hSw hl0 n1; have p0 := cell_low hSw hl2 e0; have p1 := cell_low hSw hl2 e1; have p2 := cell_low hSw hl2 e2; have p3 := cell_low hSw hl2 e3; have p4 := cell_low hSw hl2 e4; clear hSw; go_simp; try with_reducible rfl)
      try simp only [Act.put, List.setIfInBounds_toArray, List.set_cons_zero, List.set_cons_succ]
      refine wpAnyH_take (i := 23) (oi := _) (v := ?_) (by rw [List.getElem?_toArray]; exact rfl) (by kernel_rfl) (by kernel_rfl) (by kernel_rfl) (by exact fun _ _ _ h => h) (Or.inl ⟨by rfl, ?_⟩) hHeld ?_
      rotate_left
      · (intro w hSw; have q0 := cell_low hSw hl0 n0; have q1 := cell_low hSw hl0 n1; have p0 := cell_low hSw hl2 e0; have p1 := cell_low hSw hl2 e1; have p2 := cell_low hSw hl2 e2; have p3 := cell_low hSw hl2 e3; have p4 := cell_low hSw hl2 e4; clear hSw; go_simp; try with_reducible rfl)
      try simp only [Act.put, List.setIfInBounds_toArray, List.set_cons_zero, List.set_cons_succ]
      refine wpAnyH_take (i := 24) (oi := _) (v := ?_) (by rw [List.getElem?_toArray]; exact rfl) (by kernel_rfl) (by kernel_rfl) (by kernel_rfl) (by exact fun _ _ _ h => h) (Or.inl ⟨by rfl, ?_⟩) hHeld ?_
      rotate_left
      · (intro w hSw; have q0 := cell_low hSw hl0 n0; have q1 := cell_low hSw hl0 n1; have p0 := cell_low hSw hl2 e0; have p1 := cell_low hSw hl2 e1; have p2 := cell_low hSw hl2 e2; have p3 := cell_low hSw hl2 e3; have p4 := cell_low hSw hl2 e4; clear hSw; go_simp; try with_reducible rfl)
      try simp only [Act.put, List.setIfInBounds_toArray, List.set_cons_zero, List.set_cons_succ]
      refine wpAnyH_take (i := 25) (oi := _) (v := ?_) (by rw [List.getElem?_toArray]; exact rfl) (by kernel_rfl) (by kernel_rfl) (by kernel_rfl) (by exact fun _ _ _ h => h) (Or.inl ⟨by rfl, ?_⟩) hHeld ?_
      rotate_left
      · (intro w hSw; have q0 := cell_low hSw hl0 n0; have q1 := cell_low hSw hl0 n1; have p0 := cell_low hSw hl2 e0; have p1 := cell_low hSw hl2 e1; have p2 := cell_low hSw hl2 e2; have p3 := cell_low hSw hl2 e3; have p4 := cell_low hSw hl2 e4; clear hSw; go_simp; try with_reducible rfl)
      try simp only [Act.put, List.setIfInBounds_toArray, List.set_cons_zero, List.set_cons_succ]
      refine wpAnyH_take (i := 28) (oi := _) (v := ?_) (by rw [List.getElem?_toArray]; exact rfl) (by kernel_rfl) (by kernel_rfl) (by kernel_rfl) (by exact fun _ _ _ h => h) (Or.inl ⟨by rfl, ?_⟩) hHeld ?_
      rotate_left
      · (intro w hSw; have q0 := cell_low hSw hl0 n0; have q1 := cell_low hSw hl0 n1; have p0 := cell_low hSw hl2 e0; have p1 := cell_low hSw hl2 e1; have p2 := cell_low hSw hl2 e2; have p3 := cell_low hSw hl2 e3; have p4 := cell_low hSw hl2 e4; clear hSw; go_simp; try with_reducible rfl)
      try simp only [Act.put, List.setIfInBounds_toArray, List.set_cons_zero, List.set_cons_succ]
      refine wpAnyH_take (i := 29) (oi := _) (v := ?_) (by rw [List.getElem?_toArray]; exact rfl) (by kernel_rfl) (by kernel_rfl) (by kernel_rfl) (by exact fun _ _ _ h => h) (Or.inl ⟨by rfl, ?_⟩) hHeld ?_
      rotate_left
      · (intro w hSw; have q0 := cell_low hSw hl0 n0; have q1 := cell_low hSw hl0 n1; have p0 := cell_low hSw hl2 e0; have p1 := cell_low hSw hl2 e1; have p2 := cell_low hSw hl2 e2; have p3 := cell_low hSw hl2 e3; have p4 := cell_low hSw hl2 e4; clear hSw; go_simp; try with_reducible rfl)
      try simp only [Act.put, List.setIfInBounds_toArray, List.set_cons_zero, List.set_cons_succ]
      refine wpAnyH_take (i := 30) (oi := _) (v := ?_) (by rw [List.getElem?_toArray]; exact rfl) (by kernel_rfl) (by kernel_rfl) (by kernel_rfl) (by exact fun _ _ _ h => h) (Or.inl ⟨by rfl, ?_⟩) hHeld ?_
      rotate_left
      · (intro w hSw; have q0 := cell_low hSw hl0 n0; have q1 := cell_low hSw hl0 n1; have p0 := cell_low hSw hl2 e0; have p1 := cell_low hSw hl2 e1; have p2 := cell_low hSw hl2 e2; have p3 := cell_low hSw hl2 e3; have p4 := cell_low hSw hl2 e4; clear hSw; go_simp; try with_reducible rfl)
      try simp only [Act.put, List.setIfInBounds_toArray, List.set_cons_zero, List.set_cons_succ]
      refine wpAnyH_take (i := 34) (oi := _) (v := ?_) (by rw [List.getElem?_toArray]; exact rfl) (by kernel_rfl) (by kernel_rfl) (by kernel_rfl) (by exact fun _ _ _ h => h) (Or.inl ⟨by rfl, ?_⟩) hHeld ?_
      rotate_left
      · (intro w hSw; have q0 := cell_low hSw hl0 n0; have q1 := cell_low hSw hl0 n1; have p0 := cell_low hSw hl2 e0; have p1 := cell_low hSw hl2 e1; have p2 := cell_low hSw hl2 e2; have p3 := cell_low hSw hl2 e3; have p4 := cell_low hSw hl2 e4; clear hSw; go_simp; try with_reducible rfl)
      try simp only [Act.put, List.setIfInBounds_toArray, List.set_cons_zero, List.set_cons_succ]
      refine wpAnyH_take (i := 38) (oi := _) (v := ?_) (by rw [List.getElem?_toArray]; exact rfl) (by kernel_rfl) (by kernel_rfl) (by kernel_rfl) (by exact fun _ _ _ h => h) (Or.inl ⟨by rfl, ?_⟩) hHeld ?_
      rotate_left
      · (intro w hSw; have q0 := cell_low hSw hl0 n0; have q1 := cell_low hSw hl0 n1; have p0 := cell_low hSw hl2 e0; have p1 := cell_low hSw hl2 e1; have p2 := cell_low hSw hl2 e2; have p3 := cell_low hSw hl2 e3; have p4 := cell_low hSw hl2 e4; clear hSw; go_simp; try with_reducible rfl)
      try simp only [Act.put, List.setIfInBounds_toArray, List.set_cons_zero, List.set_cons_succ]
      refine wpAnyH_ready (rs := [26, 35]) (by kernel_rfl) (by simp) ?_
      refine AllReadyH.cons (o := _) (by rw [List.getElem?_toArray]; exact rfl) (fun K hK => ?_) ?_
      · go_simp
        refine (nil_under x.1 _).mono ?_; rintro e wc ⟨rfl, hB⟩
        go_wp2_with fail
        refine hK.out _ _ (hHeld.trans (hB.mono hHeld.size)) (fun hHeld => ?_)
        clear hK K
        try simp only [Act.put, List.setIfInBounds_toArray, List.set_cons_zero, List.set_cons_succ]
        refine wpAnyH_take (i := 27) (oi := _) (v := ?_) (by rw [List.getElem?_toArray]; exact rfl) (by kernel_rfl) (by kernel_rfl) (by kernel_rfl) (by exact fun _ _ _ h => h) (Or.inl ⟨by rfl, ?_⟩) hHeld ?_
        rotate_left
        · (intro w hSw; have q0 := cell_low hSw hl0 n0; have q1 := cell_low hSw hl0 n1; have p0 := cell_low hSw hl2 e0; have p1 := cell_low hSw hl2 e1; have p2 := cell_low hSw hl2 e2; have p3 := cell_low hSw hl2 e3; have p4 := cell_low hSw hl2 e4; clear hSw; go_simp; try with_reducible rfl)
        try simp only [Act.put, List.setIfInBounds_toArray, List.set_cons_zero, List.set_cons_succ]
        refine wpAnyH_ready (rs := [31, 35]) (by kernel_rfl) (by simp) ?_
        refine AllReadyH.cons (o := _) (by rw [List.getElem?_toArray]; exact rfl) (fun K hK => ?_) ?_
        · go_simp
          refine (nil_wants x.1 _).mono ?_; rintro e wc ⟨rfl, hB⟩
          go_wp2_with fail
          refine hK.out _ _ (hHeld.trans (hB.mono hHeld.size)) (fun hHeld => ?_)
          clear hK K
          try simp only [Act.put, List.setIfInBounds_toArray, List.set_cons_zero, List.set_cons_succ]
          refine wpAnyH_take (i := 32) (oi := _) (v := ?_) (by rw [List.getElem?_toArray]; exact rfl) (by kernel_rfl) (by kernel_rfl) (by kernel_rfl) (by exact fun _ _ _ h => h) (Or.inl ⟨by rfl, ?_⟩) hHeld ?_
          rotate_left
          · (intro w hSw; have q0 := cell_low hSw hl0 n0; have q1 := cell_low hSw hl0 n1; have p0 := cell_low hSw hl2 e0; have p1 := cell_low hSw hl2 e1; have p2 := cell_low hSw hl2 e2; have p3 := cell_low hSw hl2 e3; have p4 := cell_low hSw hl2 e4; clear hSw; go_simp; try with_reducible rfl)
          try simp only [Act.put, List.setIfInBounds_toArray, List.set_cons_zero, List.set_cons_succ]
          refine wpAnyH_take (i := 33) (oi := _) (v := ?_) (by rw [List.getElem?_toArray]; exact rfl) (by kernel_rfl) (by kernel_rfl) (by kernel_rfl) (by exact fun _ _ _ h => h) (Or.inl ⟨by rfl, ?_⟩) hHeld ?_
          rotate_left
          · (intro w hSw; have q0 := cell_low hSw hl0 n0; have q1 := cell_low hSw hl0 n1; have p0 := cell_low hSw hl2 e0; have p1 := cell_low hSw hl2 e1; have p2 := cell_low hSw hl2 e2; have p3 := cell_low hSw hl2 e3; have p4 := cell_low hSw hl2 e4; clear hSw; go_simp; try with_reducible rfl)
          try simp only [Act.put, List.setIfInBounds_toArray, List.set_cons_zero, List.set_cons_succ]
          refine wpAnyH_ready (rs := [35]) (by kernel_rfl) (by simp) ?_
          refine AllReadyH.cons (o := _) (by rw [List.getElem?_toArray]; exact rfl) (fun K hK => ?_) ?_
          · go_simp
            refine hK.out _ _ (hHeld.alloc hHeld.size _) (fun hHeld => ?_)
            clear hK K
            try simp only [Act.put, List.setIfInBounds_toArray, List.set_cons_zero, List.set_cons_succ]
            refine wpAnyH_ready (rs := [36]) (by kernel_rfl) (by simp) ?_
            refine AllReadyH.cons (o := _) (by rw [List.getElem?_toArray]; exact rfl) (fun K hK => ?_) ?_
            · go_simp
              refine (nil_drop _ _ ⟨_, _, _, rfl⟩).mono ?_; rintro e wc ⟨rfl, hB⟩
              go_wp2_with fail
              refine hK.out _ _ (hHeld.trans (hB.mono hHeld.size)) (fun hHeld => ?_)
              clear hK K
              try simp only [Act.put, List.setIfInBounds_toArray, List.set_cons_zero, List.set_cons_succ]
              refine wpAnyH_take (i := 37) (oi := _) (v := ?_) (by rw [List.getElem?_toArray]; exact rfl) (by kernel_rfl) (by kernel_rfl) (by kernel_rfl) (by exact fun _ _ _ h => h) (Or.inl ⟨by rfl, ?_⟩) hHeld ?_
              rotate_left
              · (intro w hSw; have q0 := cell_low hSw hl0 n0; have q1 := cell_low hSw hl0 n1; have p0 := cell_low hSw hl2 e0; have p1 := cell_low hSw hl2 e1; have p2 := cell_low hSw hl2 e2; have p3 := cell_low hSw hl2 e3; have p4 := cell_low hSw hl2 e4; clear hSw; go_simp; try with_reducible rfl)
              try simp only [Act.put, List.setIfInBounds_toArray, List.set_cons_zero, List.set_cons_succ]
              refine wpAnyH_ready (rs := [39]) (by kernel_rfl) (by simp) ?_
              refine AllReadyH.cons (o := _) (by rw [List.getElem?_toArray]; exact rfl) (fun K hK => ?_) ?_
              · go_simp
                refine (nil_len _).mono ?_; rintro e wc ⟨rfl, rfl⟩
                go_wp2_with fail
                refine hK.out _ _ (hHeld) (fun hHeld => ?_)
                clear hK K
                try simp only [Act.put, List.setIfInBounds_toArray, List.set_cons_zero, List.set_cons_succ]
                refine wpAnyH_take (i := 40) (oi := _) (v := ?_) (by rw [List.getElem?_toArray]; exact rfl) (by kernel_rfl) (by kernel_rfl) (by kernel_rfl) (by exact fun _ _ _ h => h) (Or.inl ⟨by rfl, ?_⟩) hHeld ?_
                rotate_left
                · (intro w hSw; have q0 := cell_low hSw hl0 n0; have q1 := cell_low hSw hl0 n1; have p0 := cell_low hSw hl2 e0; have p1 := cell_low hSw hl2 e1; have p2 := cell_low hSw hl2 e2; have p3 := cell_low hSw hl2 e3; have p4 := cell_low hSw hl2 e4; clear hSw; go_simp; try with_reducible rfl)
                try simp only [Act.put, List.setIfInBounds_toArray, List.set_cons_zero, List.set_cons_succ]
                refine wpAnyH_take (i := 41) (oi := _) (v := ?_) (by rw [List.getElem?_toArray]; exact rfl) (by kernel_rfl) (by kernel_rfl) (by kernel_rfl) (by exact fun _ _ _ h => h) (Or.inl ⟨by rfl, ?_⟩) hHeld ?_
                rotate_left
                · (intro w hSw; have q0 := cell_low hSw hl0 n0; have q1 := cell_low hSw hl0 n1; have p0 := cell_low hSw hl2 e0; have p1 := cell_low hSw hl2 e1; have p2 := cell_low hSw hl2 e2; have p3 := cell_low hSw hl2 e3; have p4 := cell_low hSw hl2 e4; clear hSw; go_simp; try with_reducible rfl)
                try simp only [Act.put, List.setIfInBounds_toArray, List.set_cons_zero, List.set_cons_succ]
                refine wpAnyH_take (i := 42) (oi := _) (v := ?_) (by rw [List.getElem?_toArray]; exact rfl) (by kernel_rfl) (by kernel_rfl) (by kernel_rfl) (by exact fun _ _ _ h => h) (Or.inl ⟨by rfl, ?_⟩) hHeld ?_
                rotate_left
                · (intro w hSw; have q0 := cell_low hSw hl0 n0; have q1 := cell_low hSw hl0 n1; have p0 := cell_low hSw hl2 e0; have p1 := cell_low hSw hl2 e1; have p2 := cell_low hSw hl2 e2; have p3 := cell_low hSw hl2 e3; have p4 := cell_low hSw hl2 e4; clear hSw; go_simp; try with_reducible rfl)
                try simp only [Act.put, List.setIfInBounds_toArray, List.set_cons_zero, List.set_cons_succ]
                refine wpAnyH_take (i := 43) (oi := _) (v := ?_) (by rw [List.getElem?_toArray]; exact rfl) (by kernel_rfl) (by kernel_rfl) (by kernel_rfl) (by exact fun _ _ _ h => h) (Or.inl ⟨by rfl, ?_⟩) hHeld ?_
                rotate_left
                · (intro w hSw; have q0 := cell_low hSw hl0 n0; have q1 := cell_low hSw hl0 n1; have p0 := cell_low hSw hl2 e0; have p1 := cell_low hSw hl2 e1; have p2 := cell_low hSw hl2 e2; have p3 := cell_low hSw hl2 e3; have p4 := cell_low hSw hl2 e4; clear hSw; go_simp; try with_reducible rfl)
                try simp only [Act.put, List.setIfInBounds_toArray, List.set_cons_zero, List.set_cons_succ]
                refine wpAnyH_ready (rs := [44]) (by kernel_rfl) (by simp) ?_
                refine AllReadyH.cons (o := _) (by rw [List.getElem?_toArray]; exact rfl) (fun K hK => ?_) ?_
                · go_simp
                  refine (works_any _).mono ?_; rintro e wc ⟨rfl, hB⟩
                  go_wp2_with fail
                  refine hK.out _ _ (hHeld.trans (hB.mono hHeld.size)) (fun hHeld => ?_)
                  clear hK K
                  try simp only [Act.put, List.setIfInBounds_toArray, List.set_cons_zero, List.set_cons_succ]
                  refine wpAnyH_take (i := 45) (oi := _) (v := ?_) (by rw [List.getElem?_toArray]; exact rfl) (by kernel_rfl) (by kernel_rfl) (by kernel_rfl) (by exact fun _ _ _ h => h) (Or.inl ⟨by rfl, ?_⟩) hHeld ?_
                  rotate_left
                  · (intro w hSw; have q0 := cell_low hSw hl0 n0; have q1 := cell_low hSw hl0 n1; have p0 := cell_low hSw hl2 e0; have p1 := cell_low hSw hl2 e1; have p2 := cell_low hSw hl2 e2; have p3 := cell_low hSw hl2 e3; have p4 := cell_low hSw hl2 e4; clear hSw; go_simp; try with_reducible rfl)
                  try simp only [Act.put, List.setIfInBounds_toArray, List.set_cons_zero, List.set_cons_succ]
                  refine wpAnyH_take (i := 46) (oi := _) (v := ?_) (by rw [List.getElem?_toArray]; exact rfl) (by kernel_rfl) (by kernel_rfl) (by kernel_rfl) (by exact fun _ _ _ h => h) (Or.inl ⟨by rfl, ?_⟩) hHeld ?_
                  rotate_left
                  · (intro w hSw; have q0 := cell_low hSw hl0 n0; have q1 := cell_low hSw hl0 n1; have p0 := cell_low hSw hl2 e0; have p1 := cell_low hSw hl2 e1; have p2 := cell_low hSw hl2 e2; have p3 := cell_low hSw hl2 e3; have p4 := cell_low hSw hl2 e4; clear hSw; go_simp; try with_reducible rfl)
                  try simp only [Act.put, List.setIfInBounds_toArray, List.set_cons_zero, List.set_cons_succ]
                  refine wpAnyH_done (by kernel_rfl) ?_ _
                  have HE := Lib.hid (HB3.out.trans (hHeld.mono HB3.out.size))
                  clear hHeld
                  go_wp2_with fail
                  go_ret
                  exact ⟨ret_boolE rfl, HE.out⟩
                exact AllReadyH.nil
              exact AllReadyH.nil
            exact AllReadyH.nil
          exact AllReadyH.nil
        refine AllReadyH.cons (o := _) (by rw [List.getElem?_toArray]; exact rfl) (fun K hK => ?_) ?_
        · go_simp
          refine hK.out _ _ (hHeld.alloc hHeld.size _) (fun hHeld => ?_)
          clear hK K
          try simp only [Act.put, List.setIfInBounds_toArray, List.set_cons_zero, List.set_cons_succ]
          refine wpAnyH_ready (rs := [31]) (by kernel_rfl) (by simp) ?_
          refine AllReadyH.cons (o := _) (by rw [List.getElem?_toArray]; exact rfl) (fun K hK => ?_) ?_
          · go_simp
            refine (nil_wants x.1 _).mono ?_; rintro e wc ⟨rfl, hB⟩
            go_wp2_with fail
            refine hK.out _ _ (hHeld.trans (hB.mono hHeld.size)) (fun hHeld => ?_)
            clear hK K
            try simp only [Act.put, List.setIfInBounds_toArray, List.set_cons_zero, List.set_cons_succ]
            refine wpAnyH_take (i := 32) (oi := _) (v := ?_) (by rw [List.getElem?_toArray]; exact rfl) (by kernel_rfl) (by kernel_rfl) (by kernel_rfl) (by exact fun _ _ _ h => h) (Or.inl ⟨by rfl, ?_⟩) hHeld ?_
            rotate_left
            · (intro w hSw; have q0 := cell_low hSw hl0 n0; have q1 := cell_low hSw hl0 n1; have p0 := cell_low hSw hl2 e0; have p1 := cell_low hSw hl2 e1; have p2 := cell_low hSw hl2 e2; have p3 := cell_low hSw hl2 e3; have p4 := cell_low hSw hl2 e4; clear hSw; go_simp; try with_reducible rfl)
            try simp only [Act.put, List.setIfInBounds_toArray, List.set_cons_zero, List.set_cons_succ]
            refine wpAnyH_take (i := 33) (oi := _) (v := ?_) (by rw [List.getElem?_toArray]; exact rfl) (by kernel_rfl) (by kernel_rfl) (by kernel_rfl) (by exact fun _ _ _ h => h) (Or.inl ⟨by rfl, ?_⟩) hHeld ?_
            rotate_left
            · (intro w hSw; have q0 := cell_low hSw hl0 n0; have q1 := cell_low hSw hl0 n1; have p0 := cell_low hSw hl2 e0; have p1 := cell_low hSw hl2 e1; have p2 := cell_low hSw hl2 e2; have p3 := cell_low hSw hl2 e3; have p4 := cell_low hSw hl2 e4; clear hSw; go_simp; try with_reducible rfl)
            try simp only [Act.put, List.setIfInBounds_toArray, List.set_cons_zero, List.set_cons_succ]
            refine wpAnyH_ready (rs := [36]) (by kernel_rfl) (by simp) ?_
            refine AllReadyH.cons (o := _) (by rw [List.getElem?_toArray]; exact rfl) (fun K hK => ?_) ?_
            · go_simp
              refine (nil_drop _ _ ⟨_, _, _, rfl⟩).mono ?_; rintro e wc ⟨rfl, hB⟩
              go_wp2_with fail
              refine hK.out _ _ (hHeld.trans (hB.mono hHeld.size)) (fun hHeld => ?_)
              clear hK K
              try simp only [Act.put, List.setIfInBounds_toArray, List.set_cons_zero, List.set_cons_succ]
              refine wpAnyH_take (i := 37) (oi := _) (v := ?_) (by rw [List.getElem?_toArray]; exact rfl) (by kernel_rfl) (by kernel_rfl) (by kernel_rfl) (by exact fun _ _ _ h => h) (Or.inl ⟨by rfl, ?_⟩) hHeld ?_
              rotate_left
              · (intro w hSw; have q0 := cell_low hSw hl0 n0; have q1 := cell_low hSw hl0 n1; have p0 := cell_low hSw hl2 e0; have p1 := cell_low hSw hl2 e1; have p2 := cell_low hSw hl2 e2; have p3 := cell_low hSw hl2 e3; have p4 := cell_low hSw hl2 e4; clear hSw; go_simp; try with_reducible rfl)
              try simp only [Act.put, List.setIfInBounds_toArray, List.set_cons_zero, List.set_cons_succ]
              refine wpAnyH_ready (rs := [39]) (by kernel_rfl) (by simp) ?_
              refine AllReadyH.cons (o := _) (by rw [List.getElem?_toArray]; exact rfl) (fun K hK => ?_) ?_
              · go_simp
                refine (nil_len _).mono ?_; rintro e wc ⟨rfl, rfl⟩
                go_wp2_with fail
                refine hK.out _ _ (hHeld) (fun hHeld => ?_)
                clear hK K
                try simp only [Act.put, List.setIfInBounds_toArray, List.set_cons_zero, List.set_cons_succ]
                refine wpAnyH_take (i := 40) (oi := _) (v := ?_) (by rw [List.getElem?_toArray]; exact rfl) (by kernel_rfl) (by kernel_rfl) (by kernel_rfl) (by exact fun _ _ _ h => h) (Or.inl ⟨by rfl, ?_⟩) hHeld ?_
                rotate_left
                · (intro w hSw; have q0 := cell_low hSw hl0 n0; have q1 := cell_low hSw hl0 n1; have p0 := cell_low hSw hl2 e0; have p1 := cell_low hSw hl2 e1; have p2 := cell_low hSw hl2 e2; have p3 := cell_low hSw hl2 e3; have p4 := cell_low hSw hl2 e4; clear hSw; go_simp; try with_reducible rfl)
                try simp only [Act.put, List.setIfInBounds_toArray, List.set_cons_zero, List.set_cons_succ]
                refine wpAnyH_take (i := 41) (oi := _) (v := ?_) (by rw [List.getElem?_toArray]; exact rfl) (by kernel_rfl) (by kernel_rfl) (by kernel_rfl) (by exact fun _ _ _ h => h) (Or.inl ⟨by rfl, ?_⟩) hHeld ?_
                rotate_left
                · (intro w hSw; have q0 := cell_low hSw hl0 n0; have q1 := cell_low hSw hl0 n1; have p0 := cell_low hSw hl2 e0; have p1 := cell_low hSw hl2 e1; have p2 := cell_low hSw hl2 e2; have p3 := cell_low hSw hl2 e3; have p4 := cell_low hSw hl2 e4; clear hSw; go_simp; try with_reducible rfl)
                try simp only [Act.put, List.setIfInBounds_toArray, List.set_cons_zero, List.set_cons_succ]
                refine wpAnyH_take (i := 42) (oi := _) (v := ?_) (by rw [List.getElem?_toArray]; exact rfl) (by kernel_rfl) (by kernel_rfl) (by kernel_rfl) (by exact fun _ _ _ h => h) (Or.inl ⟨by rfl, ?_⟩) hHeld ?_
                rotate_left
                · (intro w hSw; have q0 := cell_low hSw hl0 n0; have q1 := cell_low hSw hl0 n1; have p0 := cell_low hSw hl2 e0; have p1 := cell_low hSw hl2 e1; have p2 := cell_low hSw hl2 e2; have p3 := cell_low hSw hl2 e3; have p4 := cell_low hSw hl2 e4; clear hSw; go_simp; try with_reducible rfl)
                try simp only [Act.put, List.setIfInBounds_toArray, List.set_cons_zero, List.set_cons_succ]
                refine wpAnyH_take (i := 43) (oi := _) (v := ?_) (by rw [List.getElem?_toArray]; exact rfl) (by kernel_rfl) (by kernel_rfl) (by kernel_rfl) (by exact fun _ _ _ h => h) (Or.inl ⟨by rfl, ?_⟩) hHeld ?_
                rotate_left
                · (intro w hSw; have q0 := cell_low hSw hl0 n0; have q1 := cell_low hSw hl0 n1; have p0 := cell_low hSw hl2 e0; have p1 := cell_low hSw hl2 e1; have p2 := cell_low hSw hl2 e2; have p3 := cell_low hSw hl2 e3; have p4 := cell_low hSw hl2 e4; clear hSw; go_simp; try with_reducible rfl)
                try simp only [Act.put, List.setIfInBounds_toArray, List.set_cons_zero, List.set_cons_succ]
                refine wpAnyH_ready (rs := [44]) (by kernel_rfl) (by simp) ?_
                refine AllReadyH.cons (o := _) (by rw [List.getElem?_toArray]; exact rfl) (fun K hK => ?_) ?_
                · go_simp
                  refine (works_any _).mono ?_; rintro e wc ⟨rfl, hB⟩
                  go_wp2_with fail
                  refine hK.out _ _ (hHeld.trans (hB.mono hHeld.size)) (fun hHeld => ?_)
                  clear hK K
                  try simp only [Act.put, List.setIfInBounds_toArray, List.set_cons_zero, List.set_cons_succ]
                  refine wpAnyH_take (i := 45) (oi := _) (v := ?_) (by rw [List.getElem?_toArray]; exact rfl) (by kernel_rfl) (by kernel_rfl) (by kernel_rfl) (by exact fun _ _ _ h => h) (Or.inl ⟨by rfl, ?_⟩) hHeld ?_
                  rotate_left
                  · (intro w hSw; have q0 := cell_low hSw hl0 n0; have q1 := cell_low hSw hl0 n1; have p0 := cell_low hSw hl2 e0; have p1 := cell_low hSw hl2 e1; have p2 := cell_low hSw hl2 e2; have p3 := cell_low hSw hl2 e3; have p4 := cell_low hSw hl2 e4; clear hSw; go_simp; try with_reducible rfl)
                  try simp only [Act.put, List.setIfInBounds_toArray, List.set_cons_zero, List.set_cons_succ]
                  refine wpAnyH_take (i := 46) (oi := _) (v := ?_) (by rw [List.getElem?_toArray]; exact rfl) (by kernel_rfl) (by kernel_rfl) (by kernel_rfl) (by exact fun _ _ _ h => h) (Or.inl ⟨by rfl, ?_⟩) hHeld ?_
                  rotate_left
                  · (intro w hSw; have q0 := cell_low hSw hl0 n0; have q1 := cell_low hSw hl0 n1; have p0 := cell_low hSw hl2 e0; have p1 := cell_low hSw hl2 e1; have p2 := cell_low hSw hl2 e2; have p3 := cell_low hSw hl2 e3; have p4 := cell_low hSw hl2 e4; clear hSw; go_simp; try with_reducible rfl)
                  try simp only [Act.put, List.setIfInBounds_toArray, List.set_cons_zero, List.set_cons_succ]
                  refine wpAnyH_done (by kernel_rfl) ?_ _
                  have HE := Lib.hid (HB3.out.trans (hHeld.mono HB3.out.size))
                  clear hHeld
                  go_wp2_with fail
                  go_ret
                  exact ⟨ret_boolE rfl, HE.out⟩
                exact AllReadyH.nil
              exact AllReadyH.nil
            exact AllReadyH.nil
          exact AllReadyH.nil
        exact AllReadyH.nil
      refine AllReadyH.cons (o := _) (by rw [List.getElem?_toArray]; exact rfl) (fun K hK => ?_) ?_
      · go_simp
        refine hK.out _ _ (hHeld.alloc hHeld.size _) (fun hHeld => ?_)
        clear hK K
        try simp only [Act.put, List.setIfInBounds_toArray, List.set_cons_zero, List.set_cons_succ]
        refine wpAnyH_ready (rs := [26]) (by kernel_rfl) (by simp) ?_
        refine AllReadyH.cons (o := _) (by rw [List.getElem?_toArray]; exact rfl) (fun K hK => ?_) ?_
        · go_simp
          refine (nil_under x.1 _).mono ?_; rintro e wc ⟨rfl, hB⟩
          go_wp2_with fail
          refine hK.out _ _ (hHeld.trans (hB.mono hHeld.size)) (fun hHeld => ?_)
          clear hK K
          try simp only [Act.put, List.setIfInBounds_toArray, List.set_cons_zero, List.set_cons_succ]
          refine wpAnyH_take (i := 27) (oi := _) (v := ?_) (by rw [List.getElem?_toArray]; exact rfl) (by kernel_rfl) (by kernel_rfl) (by kernel_rfl) (by exact fun _ _ _ h => h) (Or.inl ⟨by rfl, ?_⟩) hHeld ?_
          rotate_left
          · (intro w hSw; have q0 := cell_low hSw hl0 n0; have q1 := cell_low hSw hl0 n1; have p0 := cell_low hSw hl2 e0; have p1 := cell_low hSw hl2 e1; have p2 := cell_low hSw hl2 e2; have p3 := cell_low hSw hl2 e3; have p4 := cell_low hSw hl2 e4; clear hSw; go_simp; try with_reducible rfl)
          try simp only [Act.put, List.setIfInBounds_toArray, List.set_cons_zero, List.set_cons_succ]
          refine wpAnyH_ready (rs := [31]) (by kernel_rfl) (by simp) ?_
          refine AllReadyH.cons (o := _) (by rw [List.getElem?_toArray]; exact rfl) (fun K hK => ?_) ?_
          · go_simp
            refine (nil_wants x.1 _).mono ?_; rintro e wc ⟨rfl, hB⟩
            go_wp2_with fail
            refine hK.out _ _ (hHeld.trans (hB.mono hHeld.size)) (fun hHeld => ?_)
            clear hK K
            try simp only [Act.put, List.setIfInBounds_toArray, List.set_cons_zero, List.set_cons_succ]
            refine wpAnyH_take (i := 32) (oi := _) (v := ?_) (by rw [List.getElem?_toArray]; exact rfl) (by kernel_rfl) (by kernel_rfl) (by kernel_rfl) (by exact fun _ _ _ h => h) (Or.inl ⟨by rfl, ?_⟩) hHeld ?_
            rotate_left
            · (intro w hSw; have q0 := cell_low hSw hl0 n0; have q1 := cell_low hSw hl0 n1; have p0 := cell_low hSw hl2 e0; have p1 := cell_low hSw hl2 e1; have p2 := cell_low hSw hl2 e2; have p3 := cell_low hSw hl2 e3; have p4 := cell_low hSw hl2 e4; clear hSw; go_simp; try with_reducible rfl)
            try simp only [Act.put, List.setIfInBounds_toArray, List.set_cons_zero, List.set_cons_succ]
            refine wpAnyH_take (i := 33) (oi := _) (v := ?_) (by rw [List.getElem?_toArray]; exact rfl) (by kernel_rfl) (by kernel_rfl) (by kernel_rfl) (by exact fun _ _ _ h => h) (Or.inl ⟨by rfl, ?_⟩) hHeld ?_
            rotate_left
            · (intro w hSw; have q0 := cell_low hSw hl0 n0; have q1 := cell_low hSw hl0 n1; have p0 := cell_low hSw hl2 e0; have p1 := cell_low hSw hl2 e1; have p2 := cell_low hSw hl2 e2; have p3 := cell_low hSw hl2 e3; have p4 := cell_low hSw hl2 e4; clear hSw; go_simp; try with_reducible rfl)
            try simp only [Act.put, List.setIfInBounds_toArray, List.set_cons_zero, List.set_cons_succ]
            refine wpAnyH_ready (rs := [36]) (by kernel_rfl) (by simp) ?_
            refine AllReadyH.cons (o := _) (by rw [List.getElem?_toArray]; exact rfl) (fun K hK => ?_) ?_
            · go_simp
              refine (nil_drop _ _ ⟨_, _, _, rfl⟩).mono ?_; rintro e wc ⟨rfl, hB⟩
              go_wp2_with fail
              refine hK.out _ _ (hHeld.trans (hB.mono hHeld.size)) (fun hHeld => ?_)
              clear hK K
              try simp only [Act.put, List.setIfInBounds_toArray, List.set_cons_zero, List.set_cons_succ]
              refine wpAnyH_take (i := 37) (oi := _) (v := ?_) (by rw [List.getElem?_toArray]; exact rfl) (by kernel_rfl) (by kernel_rfl) (by kernel_rfl) (by exact fun _ _ _ h => h) (Or.inl ⟨by rfl, ?_⟩) hHeld ?_
              rotate_left
              · (intro w hSw; have q0 := cell_low hSw hl0 n0; have q1 := cell_low hSw hl0 n1; have p0 := cell_low hSw hl2 e0; have p1 := cell_low hSw hl2 e1; have p2 := cell_low hSw hl2 e2; have p3 := cell_low hSw hl2 e3; have p4 := cell_low hSw hl2 e4; clear hSw; go_simp; try with_reducible rfl)
              try simp only [Act.put, List.setIfInBounds_toArray, List.set_cons_zero, List.set_cons_succ]
              refine wpAnyH_ready (rs := [39]) (by kernel_rfl) (by simp) ?_
              refine AllReadyH.cons (o := _) (by rw [List.getElem?_toArray]; exact rfl) (fun K hK => ?_) ?_
              · go_simp
                refine (nil_len _).mono ?_; rintro e wc ⟨rfl, rfl⟩
                go_wp2_with fail
                refine hK.out _ _ (hHeld) (fun hHeld => ?_)
                clear hK K
                try simp only [Act.put, List.setIfInBounds_toArray, List.set_cons_zero, List.set_cons_succ]
                refine wpAnyH_take (i := 40) (oi := _) (v := ?_) (by rw [List.getElem?_toArray]; exact rfl) (by kernel_rfl) (by kernel_rfl) (by kernel_rfl) (by exact fun _ _ _ h => h) (Or.inl ⟨by rfl, ?_⟩) hHeld ?_
                rotate_left
                · (intro w hSw; have q0 := cell_low hSw hl0 n0; have q1 := cell_low hSw hl0 n1; have p0 := cell_low hSw hl2 e0; have p1 := cell_low hSw hl2 e1; have p2 := cell_low hSw hl2 e2; have p3 := cell_low hSw hl2 e3; have p4 := cell_low hSw hl2 e4; clear hSw; go_simp; try with_reducible rfl)
                try simp only [Act.put, List.setIfInBounds_toArray, List.set_cons_zero, List.set_cons_succ]
                refine wpAnyH_take (i := 41) (oi := _) (v := ?_) (by rw [List.getElem?_toArray]; exact rfl) (by kernel_rfl) (by kernel_rfl) (by kernel_rfl) (by exact fun _ _ _ h => h) (Or.inl ⟨by rfl, ?_⟩) hHeld ?_
                rotate_left
                · (intro w hSw; have q0 := cell_low hSw hl0 n0; have q1 := cell_low hSw hl0 n1; have p0 := cell_low hSw hl2 e0; have p1 := cell_low hSw hl2 e1; have p2 := cell_low hSw hl2 e2; have p3 := cell_low hSw hl2 e3; have p4 := cell_low hSw hl2 e4; clear hSw; go_simp; try with_reducible rfl)
                try simp only [Act.put, List.setIfInBounds_toArray, List.set_cons_zero, List.set_cons_succ]
                refine wpAnyH_take (i := 42) (oi := _) (v := ?_) (by rw [List.getElem?_toArray]; exact rfl) (by kernel_rfl) (by kernel_rfl) (by kernel_rfl) (by exact fun _ _ _ h => h) (Or.inl ⟨by rfl, ?_⟩) hHeld ?_
                rotate_left
                · (intro w hSw; have q0 := cell_low hSw hl0 n0; have q1 := cell_low hSw hl0 n1; have p0 := cell_low hSw hl2 e0; have p1 := cell_low hSw hl2 e1; have p2 := cell_low hSw hl2 e2; have p3 := cell_low hSw hl2 e3; have p4 := cell_low hSw hl2 e4; clear hSw; go_simp; try with_reducible rfl)
                try simp only [Act.put, List.setIfInBounds_toArray, List.set_cons_zero, List.set_cons_succ]
                refine wpAnyH_take (i := 43) (oi := _) (v := ?_) (by rw [List.getElem?_toArray]; exact rfl) (by kernel_rfl) (by kernel_rfl) (by kernel_rfl) (by exact fun _ _ _ h => h) (Or.inl ⟨by rfl, ?_⟩) hHeld ?_
                rotate_left
                · (intro w hSw; have q0 := cell_low hSw hl0 n0; have q1 := cell_low hSw hl0 n1; have p0 := cell_low hSw hl2 e0; have p1 := cell_low hSw hl2 e1; have p2 := cell_low hSw hl2 e2; have p3 := cell_low hSw hl2 e3; have p4 := cell_low hSw hl2 e4; clear hSw; go_simp; try with_reducible rfl)
                try simp only [Act.put, List.setIfInBounds_toArray, List.set_cons_zero, List.set_cons_succ]
                refine wpAnyH_ready (rs := [44]) (by kernel_rfl) (by simp) ?_
                refine AllReadyH.cons (o := _) (by rw [List.getElem?_toArray]; exact rfl) (fun K hK => ?_) ?_
                · go_simp
                  refine (works_any _).mono ?_; rintro e wc ⟨rfl, hB⟩
                  go_wp2_with fail
                  refine hK.out _ _ (hHeld.trans (hB.mono hHeld.size)) (fun hHeld => ?_)
                  clear hK K
                  try simp only [Act.put, List.setIfInBounds_toArray, List.set_cons_zero, List.set_cons_succ]
                  refine wpAnyH_take (i := 45) (oi := _) (v := ?_) (by rw [List.getElem?_toArray]; exact rfl) (by kernel_rfl) (by kernel_rfl) (by kernel_rfl) (by exact fun _ _ _ h => h) (Or.inl ⟨by rfl, ?_⟩) hHeld ?_
                  rotate_left
                  · (intro w hSw; have q0 := cell_low hSw hl0 n0; have q1 := cell_low hSw hl0 n1; have p0 := cell_low hSw hl2 e0; have p1 := cell_low hSw hl2 e1; have p2 := cell_low hSw hl2 e2; have p3 := cell_low hSw hl2 e3; have p4 := cell_low hSw hl2 e4; clear hSw; go_simp; try with_reducible rfl)
                  try simp only [Act.put, List.setIfInBounds_toArray, List.set_cons_zero, List.set_cons_succ]
                  refine wpAnyH_take (i := 46) (oi := _) (v := ?_) (by rw [List.getElem?_toArray]; exact rfl) (by kernel_rfl) (by kernel_rfl) (by kernel_rfl) (by exact fun _ _ _ h => h) (Or.inl ⟨by rfl, ?_⟩) hHeld ?_
                  rotate_left
                  · (intro w hSw; have q0 := cell_low hSw hl0 n0; have q1 := cell_low hSw hl0 n1; have p0 := cell_low hSw hl2 e0; have p1 := cell_low hSw hl2 e1; have p2 := cell_low hSw hl2 e2; have p3 := cell_low hSw hl2 e3; have p4 := cell_low hSw hl2 e4; clear hSw; go_simp; try with_reducible rfl)
                  try simp only [Act.put, List.setIfInBounds_toArray, List.set_cons_zero, List.set_cons_succ]
                  refine wpAnyH_done (by kernel_rfl) ?_ _
                  have HE := Lib.hid (HB3.out.trans (hHeld.mono HB3.out.size))
                  clear hHeld
                  go_wp2_with fail
                  go_ret
                  exact ⟨ret_boolE rfl, HE.out⟩
                exact AllReadyH.nil
              exact AllReadyH.nil
            exact AllReadyH.nil
          exact AllReadyH.nil
        exact AllReadyH.nil
      exact AllReadyH.nil
    exact AllReadyH.nil

/-- For the row. -/
theorem none_row (v : Value) (W : World) (h : ∃ x : Ent, v = evE x ∧ x.1.2.size ≤ maxLen) :
    Calls Try.prog 5 #[v] W fun e W' => e = .returned (.bool true) ∧ Below W.heap.size W W' := by
  obtain ⟨x, rfl, hs⟩ := h
  exact none_any x W (by unfold maxLen at hs; omega)
end Go.Proofs.Ytibfcoaiodmimaa
