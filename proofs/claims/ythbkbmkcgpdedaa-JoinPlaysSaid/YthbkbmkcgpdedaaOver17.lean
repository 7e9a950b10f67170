/- Contract: Over where no row may be over. -/
import Derived.Test.YthbkbmkcgpdedaaOwn17
namespace Go.Proofs.Ythbkbmkcgpdedaa
open Go.RowKit Go.Sort Go.Lib
set_option maxHeartbeats 3200000 in
set_option maxRecDepth 100000 in
theorem over_bad (f m : Nat) (most : Int) (T : Tb) (n : Nm) (val err : Int) (w : World) (h : Tab w f m most T) (hg : (ofV T n [2, 5]).2 ≠ 0) :
    Calls Try.prog 23 #[.pointer (some ⟨f, 0, none⟩), .agg #[.int .u64 n.1, .string n.2], .agg #[.int .i64 val, .int .i64 err]] w fun e w' =>
      e = .returned (.tuple #[.agg #[.int .u64 0, .string ⟨#[]⟩], .bool false, .int .i64 (ofV T n [2, 5]).2]) ∧ Tab w' f m most T ∧ Below w.heap.size w w' := by
  have hA : Below w.heap.size w (((w.alloc (.cells #[.int .u64 n.1, .string n.2] 35)).alloc (.cells #[.int .i64 val, .int .i64 err] 40)).alloc (.cells #[.int .u64 0, .string ⟨#[]⟩] 35)) := (((Below.refl _ _).alloc (Nat.le_refl _) _).alloc (by simp) _).alloc (by simp; omega) _
  have n1 : (((w.alloc (.cells #[.int .u64 n.1, .string n.2] 35)).alloc (.cells #[.int .i64 val, .int .i64 err] 40)).alloc (.cells #[.int .u64 0, .string ⟨#[]⟩] 35)).cell? ⟨w.heap.size, 0, none⟩ = some (.int .u64 n.1) := cell_keep ((Below.refl _ _).alloc (Nat.le_refl _) _) (cell_keep ((Below.refl _ _).alloc (Nat.le_refl _) _) (show (w.alloc (.cells #[.int .u64 n.1, .string n.2] 35)).cell? ⟨w.heap.size, 0, none⟩ = some (.int .u64 n.1) by simp))
  have n2 : (((w.alloc (.cells #[.int .u64 n.1, .string n.2] 35)).alloc (.cells #[.int .i64 val, .int .i64 err] 40)).alloc (.cells #[.int .u64 0, .string ⟨#[]⟩] 35)).cell? ⟨w.heap.size, 1, none⟩ = some (.string n.2) := cell_keep ((Below.refl _ _).alloc (Nat.le_refl _) _) (cell_keep ((Below.refl _ _).alloc (Nat.le_refl _) _) (show (w.alloc (.cells #[.int .u64 n.1, .string n.2] 35)).cell? ⟨w.heap.size, 1, none⟩ = some (.string n.2) by simp))
  have hres := heap_alloc_new ((w.alloc (.cells #[.int .u64 n.1, .string n.2] 35)).alloc (.cells #[.int .i64 val, .int .i64 err] 40)) (.cells #[.int .u64 0, .string ⟨#[]⟩] 35)
  rw [show ((w.alloc (.cells #[.int .u64 n.1, .string n.2] 35)).alloc (.cells #[.int .i64 val, .int .i64 err] 40)).heap.size = w.heap.size + 2 by simp] at hres
  have HH := Lib.hid (h.below hA)
  have HA := Lib.hid hA
  have HRES := Lib.hid hres
  have hv : (ofV T n [2, 5]).1 = .pointer none := by
    rcases ofV_cases T n [2, 5] with ⟨_, h2⟩ | ⟨b, r, _, _, ho⟩
    · exact h2
    · rw [ho] at hg; exact absurd rfl hg
  clear h hA hres
  go_enter Try.func23, Try.ntmps23
  generalize hwa : ((w.alloc (.cells #[.int .u64 n.1, .string n.2] 35)).alloc (.cells #[.int .i64 val, .int .i64 err] 40)).alloc (.cells #[.int .u64 0, .string ⟨#[]⟩] 35) = wa at *
  go_upto_region 1 with fail
  clear hwa
  have hB1 : Below wa.heap.size wa (wa.alloc (.cells #[.int .u8 2, .int .u8 5] 5)) := (Below.refl _ _).alloc (Nat.le_refl _) _
  go_wp2_with fail
  refine (of_tab f m most T n [2, 5] _ _ (HH.out.below hB1) (reads_two wa 2 5 5) (by decide)).mono ?_
  rintro e w2 ⟨rfl, hB⟩
  have hBB := gthen hB1 hB
  replace HH := Lib.hid (HH.out.below hBB)
  replace HA := Lib.hid (gthen HA.out hBB)
  replace HRES := Lib.hid ((hBB.block _ (Array.getElem?_eq_some_iff.1 HRES.out).1).trans HRES.out)
  rw [hv]
  obtain ⟨c, hc⟩ : ∃ c, (ofV T n [2, 5]).2 = c := ⟨_, rfl⟩
  rw [hc]
  rw [hc] at hg
  have HC := Lib.hid hc
  clear hc
  clear hB hB1 hBB n1 n2 hv
  have hc2 : ∀ o, w2.cell? ⟨w.heap.size + 2, o, none⟩ = #[Value.int .u64 0, .string ⟨#[]⟩][o]? := fun o => by simp [World.cell?, HRES.out]
  have hz2 : ∀ o, w2.frozen? ⟨w.heap.size + 2, o, none⟩ = false := fun o => by simp [World.frozen?, HRES.out]
  have y0 := hc2 0; have y1 := hc2 1
  have q0 := hz2 0; have q1 := hz2 1
  simp only [List.getElem?_toArray, List.getElem?_cons_zero, List.getElem?_cons_succ] at y0 y1
  clear hc2 hz2
  go_wp2_with fail
  have hk : ∀ i, i ≠ w.heap.size + 2 → ((w2.setCell ⟨w.heap.size + 2, 0, none⟩ (.int .u64 0)).setCell ⟨w.heap.size + 2, 1, none⟩ (.string ⟨#[]⟩)).heap[i]? = w2.heap[i]? := fun i hi => by
    rw [Go.heap_setCell_other _ ⟨w.heap.size + 2, 1, none⟩ i _ hi, Go.heap_setCell_other _ ⟨w.heap.size + 2, 0, none⟩ i _ hi]
  exact over_end (set2 HRES.out (.int .u64 0) (.string ⟨#[]⟩)) rfl rfl rfl ⟨by rw [HC.out], HH.out.other2 HRES.out _ _ (by decide) (by decide) (by decide), (HA.out.setCell (p := ⟨w.heap.size + 2, 0, none⟩) (Nat.le_add_right _ _) _).setCell (p := ⟨w.heap.size + 2, 1, none⟩) (Nat.le_add_right _ _) _⟩
end Go.Proofs.Ythbkbmkcgpdedaa
