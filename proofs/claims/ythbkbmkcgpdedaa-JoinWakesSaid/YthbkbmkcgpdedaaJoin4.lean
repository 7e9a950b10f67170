/- add: a row more. -/
import Derived.Test.YthbkbmkcgpdedaaJoin3
namespace Go.Proofs.Ythbkbmkcgpdedaa
open Go.RowKit Go.Sort Go.Lib

def addE (T : Tb) (most : Int) (n : Nm) : Int := if (getL T n).isSome then 7 else if most ≤ T.length then 6 else 0
theorem Tab.notMap {w : World} {f m : Nat} {most : Int} {T : Tb} (h : Tab w f m most T) {i : Nat} {c : Array Value} {t : TypeId} {fr : Nat × Nat} (hi : w.heap[i]? = some (Obj.cells c t fr)) : i ≠ m := by
  rintro rfl
  obtain ⟨es, c, hb, _⟩ := h.map
  rw [hb] at hi; cases hi
theorem Tab.more {wc w9 : World} {f m : Nat} {most : Int} {T : Tb} {n : Nm} {r : Rw} (h : Tab wc f m most T) (hg : getL T n = none) (ho : Args wc r) (hM : MapL evP w9 m (putL (mapT T) n wc.heap.size)) (hO : OnlyAt (wc.alloc (rowO n r)) w9 m) :
    Tab w9 f m most (T ++ [(n, wc.heap.size, r)]) := by
  have hk : ∀ (i : Nat) (c : Array Value) (t : TypeId) (fr : Nat × Nat), wc.heap[i]? = some (Obj.cells c t fr) → w9.heap[i]? = some (Obj.cells c t fr) := fun i c t fr hi =>
    (hO.2.2.2.2.1 i (h.notMap hi)).trans ((Below.heap_alloc _ _ _ (Array.getElem?_eq_some_iff.1 hi).1).trans hi)
  have ha : ∀ r, Args wc r → Args w9 r := fun r hr => Args.far hr (fun i cur hi => (hk i _ _ _ hi).trans hi.symm)
  have hnew : w9.heap[wc.heap.size]? = some (rowO n r) := (hO.2.2.2.2.1 _ (by have := h.lt.2.1; omega)).trans (heap_alloc_new _ _)
  refine ⟨hk f _ _ _ h.box, ?_, ?_, ?_⟩
  · rw [putL_newV (by rw [getL_mapT, hg]; rfl)] at hM
    rw [show mapT (T ++ [(n, wc.heap.size, r)]) = mapT T ++ [(n, wc.heap.size)] by unfold mapT; simp]
    exact hM
  · intro p hp
    rcases List.mem_append.1 hp with hp | hp
    · exact ⟨hk _ _ _ _ (h.row p hp).1, ha _ (h.row p hp).2⟩
    · rw [List.mem_singleton] at hp
      rw [hp]
      exact ⟨hnew, ha _ ho⟩
  · rw [List.map_append, List.nodup_append]
    refine ⟨h.nd, by simp, fun a ha b hb e => ?_⟩
    obtain ⟨p, hp, rfl⟩ := List.mem_map.1 ha
    simp at hb
    have := (Array.getElem?_eq_some_iff.1 (h.row p hp).1).1
    omega
theorem gdrew {n : Nat} {w y : World} (h : Below n w.drew y) : Below n w y := ⟨h.os, h.tape, h.output, h.size, h.block⟩
set_option maxHeartbeats 3200000 in
set_option maxRecDepth 100000 in
theorem add_tab (f m : Nat) (most : Int) (T : Tb) (job : Int) (p : ByteArray) (fn fuel : Int) (v : Value) (l : List Int) (fk : Bool) (w : World) (h : Tab w f m most T) (hv : ReadsK encI 1 w v l) (hl : l.length ≤ 1000000) (_hT : T.length ≤ 1000000) :
    Calls Try.prog 37 #[.pointer (some ⟨f, 0, none⟩), .int .u64 job, .agg #[.string p, .int .i64 fn, v, .int .i64 fuel], .bool fk] w fun e w' => e = .returned (.int .i64 (addE T most (job, p))) ∧
      ((addE T most (job, p) ≠ 0 ∧ Tab w' f m most T ∧ Below w.heap.size w w') ∨ (addE T most (job, p) = 0 ∧ ∃ b aa ac, w.heap.size ≤ b ∧ Tab w' f m most (T ++ [((job, p), b, ⟨fn, aa, ac, l, fuel, 1, 0, 0, 0, fk⟩)]) ∧ Fr (fun i => i = m) w w')) := by
  obtain ⟨va, vc, rfl⟩ := hv.slice
  have hA : Below w.heap.size w ((w.alloc (.cells #[.string p, .int .i64 fn, .slice va l.length vc, .int .i64 fuel] 38)).alloc (.cells #[.int .u64 job, .string p] 35)) := ((Below.refl _ _).alloc (Nat.le_refl _) _).alloc (by simp) _
  have h1 := h.below hA
  have hl1 := fun q => (h1.drewN q).look_at rfl (job, p)
  have c0 := h1.c0
  have c1 := h1.c1
  have hlt := h.lt
  have HH := Lib.hid h1
  have HV := Lib.hid (hv.below hA)
  have HA := Lib.hid hA
  clear h h1 hv hA
  unfold ptrT at hl1
  cases hg : getL T (job, p) with
  | some br =>
    obtain ⟨b, r⟩ := br
    rw [hg] at hl1
    simp only [Option.map_some] at hl1
    have he := Lib.hid (show addE T most (job, p) = 7 by unfold addE; rw [hg]; rfl)
    clear hg
    go_enter Try.func37, Try.ntmps37
    go_wp2_with fail
    go_quiet (fail)
    go_wp2_with fail
    go_ret
    exact ⟨ret_intE he.out.symm, .inl ⟨by rw [he.out]; decide, HH.out.drewN _, below_drewN HA.out _⟩⟩
  | none =>
    rw [hg] at hl1
    simp only [Option.map_none] at hl1
    have HG := Lib.hid hg
    clear hg
    go_enter Try.func37, Try.ntmps37
    go_wp2_with fail
    go_quiet (fail)
    have HH2 := Lib.hid (HH.out.drewN nq)
    have HV2 := Lib.hid (HV.out.below (below_drewN (Below.refl _ _) nq))
    have HA2 := Lib.hid (below_drewN HA.out nq)
    have k0 : (((w.alloc (.cells #[.string p, .int .i64 fn, .slice va l.length vc, .int .i64 fuel] 38)).alloc (.cells #[.int .u64 job, .string p] 35)).drewN nq).heap[w.heap.size]? = some (.cells #[.string p, .int .i64 fn, .slice va l.length vc, .int .i64 fuel] 38 (0, 0)) :=
      (((Below.refl (w.alloc (.cells #[.string p, .int .i64 fn, .slice va l.length vc, .int .i64 fuel] 38)).heap.size _).alloc (Nat.le_refl _) _).block _ (by simp)).trans (heap_alloc_new _ _)
    have k1 : (((w.alloc (.cells #[.string p, .int .i64 fn, .slice va l.length vc, .int .i64 fuel] 38)).alloc (.cells #[.int .u64 job, .string p] 35)).drewN nq).heap[w.heap.size + 1]? = some (.cells #[.int .u64 job, .string p] 35 (0, 0)) := by
      have h2 := heap_alloc_new (w.alloc (.cells #[.string p, .int .i64 fn, .slice va l.length vc, .int .i64 fuel] 38)) (.cells #[.int .u64 job, .string p] 35)
      rw [show (w.alloc (.cells #[.string p, .int .i64 fn, .slice va l.length vc, .int .i64 fuel] 38)).heap.size = w.heap.size + 1 by simp] at h2
      exact h2
    generalize ((w.alloc (.cells #[.string p, .int .i64 fn, .slice va l.length vc, .int .i64 fuel] 38)).alloc (.cells #[.int .u64 job, .string p] 35)).drewN nq = wq at *
    clear hl1 c0 c1 HH HV HA
    have hln := fun q ty => (HH2.out.drewN q).map.len (P := Try.prog) (k := 35) Try.underlying74 ty
    have hll : ((mapT T).length : Int) = T.length := by unfold mapT; simp
    rw [hll] at hln
    have c0 := HH2.out.c0
    have c1 := HH2.out.c1
    by_cases hf : most ≤ T.length
    · have he := Lib.hid (show addE T most (job, p) = 6 by unfold addE; rw [HG.out]; simp [hf])
      go_wp2_with fail
      go_quiet (fail)
      go_wp2_with fail
      go_ret
      exact ⟨ret_intE he.out.symm, .inl ⟨by rw [he.out]; decide, HH2.out.drewN _, below_drewN HA2.out _⟩⟩
    · have he := Lib.hid (show addE T most (job, p) = 0 by unfold addE; rw [HG.out]; simp [hf])
      go_wp2_with fail
      go_quiet (fail)
      have HH3 := Lib.hid (HH2.out.drewN nq)
      have HV3 := Lib.hid (HV2.out.below (below_drewN (Below.refl _ _) nq))
      have HA3 := Lib.hid (below_drewN HA2.out nq)
      have j0 : (wq.drewN nq).heap[w.heap.size]? = some (.cells #[.string p, .int .i64 fn, .slice va l.length vc, .int .i64 fuel] 38 (0, 0)) := k0
      have j1 : (wq.drewN nq).heap[w.heap.size + 1]? = some (.cells #[.int .u64 job, .string p] 35 (0, 0)) := k1
      generalize wq.drewN nq = wr at *
      clear hln c0 c1 HH2 HV2 HA2 k0 k1
      go_upto_region 6 with fail
      have d1 := HH3.out.c1
      have hlf : f < wr.heap.size ∧ ¬ f = m := ⟨HH3.out.lt.1, HH3.out.lt.2.2⟩
      have hl0 : w.heap.size < wr.heap.size ∧ ¬ w.heap.size = m := ⟨(Array.getElem?_eq_some_iff.1 j0).1, by omega⟩
      have hl1 : w.heap.size + 1 < wr.heap.size ∧ ¬ w.heap.size + 1 = m := ⟨(Array.getElem?_eq_some_iff.1 j1).1, by omega⟩
      have a0 : wr.cell? ⟨w.heap.size, 0, none⟩ = some (.string p) := by simp [World.cell?, j0]
      have a1 : wr.cell? ⟨w.heap.size, 1, none⟩ = some (.int .i64 fn) := by simp [World.cell?, j0]
      have a2 : wr.cell? ⟨w.heap.size, 2, none⟩ = some (.slice va l.length vc) := by simp [World.cell?, j0]
      have a3 : wr.cell? ⟨w.heap.size, 3, none⟩ = some (.int .i64 fuel) := by simp [World.cell?, j0]
      have b0 : wr.cell? ⟨w.heap.size + 1, 0, none⟩ = some (.int .u64 job) := by simp [World.cell?, j1]
      have b1 : wr.cell? ⟨w.heap.size + 1, 1, none⟩ = some (.string p) := by simp [World.cell?, j1]
      clear j0 j1
      refine wp_region_held_drew (S := fun y => Fr (fun i => i = m) wr y) (by kernel_rfl) ((Fr.refl _ _).drew) (fun hHeld => ?_)
      refine wpAnyH_take (i := 0) (oi := _) (v := ?_) (by rw [List.getElem?_toArray]; exact rfl) (by kernel_rfl) (by kernel_rfl) (by kernel_rfl) (by exact fun _ _ _ h => h) (Or.inl ⟨by rfl, ?_⟩) hHeld ?_
      rotate_left
      · (intro wX hSw; have q0 := (hSw.cell (p := ⟨f, 1, none⟩) hlf.1 hlf.2).trans d1; have q1 := (hSw.cell (p := ⟨w.heap.size, 0, none⟩) hl0.1 hl0.2).trans a0; have q2 := (hSw.cell (p := ⟨w.heap.size, 1, none⟩) hl0.1 hl0.2).trans a1; have q3 := (hSw.cell (p := ⟨w.heap.size, 2, none⟩) hl0.1 hl0.2).trans a2; have q4 := (hSw.cell (p := ⟨w.heap.size, 3, none⟩) hl0.1 hl0.2).trans a3; have q5 := (hSw.cell (p := ⟨w.heap.size + 1, 0, none⟩) hl1.1 hl1.2).trans b0; have q6 := (hSw.cell (p := ⟨w.heap.size + 1, 1, none⟩) hl1.1 hl1.2).trans b1; clear hSw; go_simp; try with_reducible rfl)
      try simp only [Act.put, List.setIfInBounds_toArray, List.set_cons_zero, List.set_cons_succ]
      refine wpAnyH_take (i := 1) (oi := _) (v := ?_) (by rw [List.getElem?_toArray]; exact rfl) (by kernel_rfl) (by kernel_rfl) (by kernel_rfl) (by exact fun _ _ _ h => h) (Or.inl ⟨by rfl, ?_⟩) hHeld ?_
      rotate_left
      · (intro wX hSw; have q0 := (hSw.cell (p := ⟨f, 1, none⟩) hlf.1 hlf.2).trans d1; have q1 := (hSw.cell (p := ⟨w.heap.size, 0, none⟩) hl0.1 hl0.2).trans a0; have q2 := (hSw.cell (p := ⟨w.heap.size, 1, none⟩) hl0.1 hl0.2).trans a1; have q3 := (hSw.cell (p := ⟨w.heap.size, 2, none⟩) hl0.1 hl0.2).trans a2; have q4 := (hSw.cell (p := ⟨w.heap.size, 3, none⟩) hl0.1 hl0.2).trans a3; have q5 := (hSw.cell (p := ⟨w.heap.size + 1, 0, none⟩) hl1.1 hl1.2).trans b0; have q6 := (hSw.cell (p := ⟨w.heap.size + 1, 1, none⟩) hl1.1 hl1.2).trans b1; clear hSw; go_simp; try with_reducible rfl)
      try simp only [Act.put, List.setIfInBounds_toArray, List.set_cons_zero, List.set_cons_succ]
      refine wpAnyH_take (i := 2) (oi := _) (v := ?_) (by rw [List.getElem?_toArray]; exact rfl) (by kernel_rfl) (by kernel_rfl) (by kernel_rfl) (by exact fun _ _ _ h => h) (Or.inl ⟨by rfl, ?_⟩) hHeld ?_
      rotate_left
      · (intro wX hSw; have q0 := (hSw.cell (p := ⟨f, 1, none⟩) hlf.1 hlf.2).trans d1; have q1 := (hSw.cell (p := ⟨w.heap.size, 0, none⟩) hl0.1 hl0.2).trans a0; have q2 := (hSw.cell (p := ⟨w.heap.size, 1, none⟩) hl0.1 hl0.2).trans a1; have q3 := (hSw.cell (p := ⟨w.heap.size, 2, none⟩) hl0.1 hl0.2).trans a2; have q4 := (hSw.cell (p := ⟨w.heap.size, 3, none⟩) hl0.1 hl0.2).trans a3; have q5 := (hSw.cell (p := ⟨w.heap.size + 1, 0, none⟩) hl1.1 hl1.2).trans b0; have q6 := (hSw.cell (p := ⟨w.heap.size + 1, 1, none⟩) hl1.1 hl1.2).trans b1; clear hSw; go_simp; try with_reducible rfl)
      try simp only [Act.put, List.setIfInBounds_toArray, List.set_cons_zero, List.set_cons_succ]
      refine wpAnyH_take (i := 3) (oi := _) (v := ?_) (by rw [List.getElem?_toArray]; exact rfl) (by kernel_rfl) (by kernel_rfl) (by kernel_rfl) (by exact fun _ _ _ h => h) (Or.inl ⟨by rfl, ?_⟩) hHeld ?_
      rotate_left
      · (intro wX hSw; have q0 := (hSw.cell (p := ⟨f, 1, none⟩) hlf.1 hlf.2).trans d1; have q1 := (hSw.cell (p := ⟨w.heap.size, 0, none⟩) hl0.1 hl0.2).trans a0; have q2 := (hSw.cell (p := ⟨w.heap.size, 1, none⟩) hl0.1 hl0.2).trans a1; have q3 := (hSw.cell (p := ⟨w.heap.size, 2, none⟩) hl0.1 hl0.2).trans a2; have q4 := (hSw.cell (p := ⟨w.heap.size, 3, none⟩) hl0.1 hl0.2).trans a3; have q5 := (hSw.cell (p := ⟨w.heap.size + 1, 0, none⟩) hl1.1 hl1.2).trans b0; have q6 := (hSw.cell (p := ⟨w.heap.size + 1, 1, none⟩) hl1.1 hl1.2).trans b1; clear hSw; go_simp; try with_reducible rfl)
      try simp only [Act.put, List.setIfInBounds_toArray, List.set_cons_zero, List.set_cons_succ]
      refine wpAnyH_take (i := 4) (oi := _) (v := ?_) (by rw [List.getElem?_toArray]; exact rfl) (by kernel_rfl) (by kernel_rfl) (by kernel_rfl) (by exact fun _ _ _ h => h) (Or.inl ⟨by rfl, ?_⟩) hHeld ?_
      rotate_left
      · (intro wX hSw; have q0 := (hSw.cell (p := ⟨f, 1, none⟩) hlf.1 hlf.2).trans d1; have q1 := (hSw.cell (p := ⟨w.heap.size, 0, none⟩) hl0.1 hl0.2).trans a0; have q2 := (hSw.cell (p := ⟨w.heap.size, 1, none⟩) hl0.1 hl0.2).trans a1; have q3 := (hSw.cell (p := ⟨w.heap.size, 2, none⟩) hl0.1 hl0.2).trans a2; have q4 := (hSw.cell (p := ⟨w.heap.size, 3, none⟩) hl0.1 hl0.2).trans a3; have q5 := (hSw.cell (p := ⟨w.heap.size + 1, 0, none⟩) hl1.1 hl1.2).trans b0; have q6 := (hSw.cell (p := ⟨w.heap.size + 1, 1, none⟩) hl1.1 hl1.2).trans b1; clear hSw; go_simp; try with_reducible rfl)
      try simp only [Act.put, List.setIfInBounds_toArray, List.set_cons_zero, List.set_cons_succ]
      refine wpAnyH_take (i := 5) (oi := _) (v := ?_) (by rw [List.getElem?_toArray]; exact rfl) (by kernel_rfl) (by kernel_rfl) (by kernel_rfl) (by exact fun _ _ _ h => h) (Or.inl ⟨by rfl, ?_⟩) hHeld ?_
      rotate_left
      · (intro wX hSw; have q0 := (hSw.cell (p := ⟨f, 1, none⟩) hlf.1 hlf.2).trans d1; have q1 := (hSw.cell (p := ⟨w.heap.size, 0, none⟩) hl0.1 hl0.2).trans a0; have q2 := (hSw.cell (p := ⟨w.heap.size, 1, none⟩) hl0.1 hl0.2).trans a1; have q3 := (hSw.cell (p := ⟨w.heap.size, 2, none⟩) hl0.1 hl0.2).trans a2; have q4 := (hSw.cell (p := ⟨w.heap.size, 3, none⟩) hl0.1 hl0.2).trans a3; have q5 := (hSw.cell (p := ⟨w.heap.size + 1, 0, none⟩) hl1.1 hl1.2).trans b0; have q6 := (hSw.cell (p := ⟨w.heap.size + 1, 1, none⟩) hl1.1 hl1.2).trans b1; clear hSw; go_simp; try with_reducible rfl)
      try simp only [Act.put, List.setIfInBounds_toArray, List.set_cons_zero, List.set_cons_succ]
      refine wpAnyH_take (i := 6) (oi := _) (v := ?_) (by rw [List.getElem?_toArray]; exact rfl) (by kernel_rfl) (by kernel_rfl) (by kernel_rfl) (by exact fun _ _ _ h => h) (Or.inl ⟨by rfl, ?_⟩) hHeld ?_
      rotate_left
      · (intro wX hSw; have q0 := (hSw.cell (p := ⟨f, 1, none⟩) hlf.1 hlf.2).trans d1; have q1 := (hSw.cell (p := ⟨w.heap.size, 0, none⟩) hl0.1 hl0.2).trans a0; have q2 := (hSw.cell (p := ⟨w.heap.size, 1, none⟩) hl0.1 hl0.2).trans a1; have q3 := (hSw.cell (p := ⟨w.heap.size, 2, none⟩) hl0.1 hl0.2).trans a2; have q4 := (hSw.cell (p := ⟨w.heap.size, 3, none⟩) hl0.1 hl0.2).trans a3; have q5 := (hSw.cell (p := ⟨w.heap.size + 1, 0, none⟩) hl1.1 hl1.2).trans b0; have q6 := (hSw.cell (p := ⟨w.heap.size + 1, 1, none⟩) hl1.1 hl1.2).trans b1; clear hSw; go_simp; try with_reducible rfl)
      try simp only [Act.put, List.setIfInBounds_toArray, List.set_cons_zero, List.set_cons_succ]
      refine wpAnyH_take (i := 9) (oi := _) (v := ?_) (by rw [List.getElem?_toArray]; exact rfl) (by kernel_rfl) (by kernel_rfl) (by kernel_rfl) (by exact fun _ _ _ h => h) (Or.inl ⟨by rfl, ?_⟩) hHeld ?_
      rotate_left
      · (intro wX hSw; have q0 := (hSw.cell (p := ⟨f, 1, none⟩) hlf.1 hlf.2).trans d1; have q1 := (hSw.cell (p := ⟨w.heap.size, 0, none⟩) hl0.1 hl0.2).trans a0; have q2 := (hSw.cell (p := ⟨w.heap.size, 1, none⟩) hl0.1 hl0.2).trans a1; have q3 := (hSw.cell (p := ⟨w.heap.size, 2, none⟩) hl0.1 hl0.2).trans a2; have q4 := (hSw.cell (p := ⟨w.heap.size, 3, none⟩) hl0.1 hl0.2).trans a3; have q5 := (hSw.cell (p := ⟨w.heap.size + 1, 0, none⟩) hl1.1 hl1.2).trans b0; have q6 := (hSw.cell (p := ⟨w.heap.size + 1, 1, none⟩) hl1.1 hl1.2).trans b1; clear hSw; go_simp; try with_reducible rfl)
      try simp only [Act.put, List.setIfInBounds_toArray, List.set_cons_zero, List.set_cons_succ]
      refine wpAnyH_ready (rs := [7]) (by kernel_rfl) (by simp) ?_
      refine AllReadyH.cons (o := _) (by rw [List.getElem?_toArray]; exact rfl) (fun K hK => ?_) ?_
      · go_simp
        refine (own_any p fn fuel _ l _ (HV3.out.below ((Below.refl _ _).drew)) hl).mono ?_; rintro e wc ⟨aa, ac, rfl, ho, hB⟩; have HO := Lib.hid (owns_base ho (Nat.zero_le _)); have HHC := Lib.hid (HH3.out.below (gdrew hB)); clear ho
        go_wp2_with fail
        refine hK.out _ _ (hHeld.then hB) (fun hHeld => ?_)
        clear hK K
        try simp only [Act.put, List.setIfInBounds_toArray, List.set_cons_zero, List.set_cons_succ]
        refine wpAnyH_take (i := 8) (oi := _) (v := ?_) (by rw [List.getElem?_toArray]; exact rfl) (by kernel_rfl) (by kernel_rfl) (by kernel_rfl) (by exact fun _ _ _ h => h) (Or.inl ⟨by rfl, ?_⟩) hHeld ?_
        rotate_left
        · (intro wX hSw; have q0 := (hSw.cell (p := ⟨f, 1, none⟩) hlf.1 hlf.2).trans d1; have q1 := (hSw.cell (p := ⟨w.heap.size, 0, none⟩) hl0.1 hl0.2).trans a0; have q2 := (hSw.cell (p := ⟨w.heap.size, 1, none⟩) hl0.1 hl0.2).trans a1; have q3 := (hSw.cell (p := ⟨w.heap.size, 2, none⟩) hl0.1 hl0.2).trans a2; have q4 := (hSw.cell (p := ⟨w.heap.size, 3, none⟩) hl0.1 hl0.2).trans a3; have q5 := (hSw.cell (p := ⟨w.heap.size + 1, 0, none⟩) hl1.1 hl1.2).trans b0; have q6 := (hSw.cell (p := ⟨w.heap.size + 1, 1, none⟩) hl1.1 hl1.2).trans b1; clear hSw; go_simp; try with_reducible rfl)
        try simp only [Act.put, List.setIfInBounds_toArray, List.set_cons_zero, List.set_cons_succ]
        refine wpAnyH_take (i := 10) (oi := _) (v := ?_) (by rw [List.getElem?_toArray]; exact rfl) (by kernel_rfl) (by kernel_rfl) (by kernel_rfl) (by exact fun _ _ _ h => h) (Or.inl ⟨by rfl, ?_⟩) hHeld ?_
        rotate_left
        · (intro wX hSw; have q0 := (hSw.cell (p := ⟨f, 1, none⟩) hlf.1 hlf.2).trans d1; have q1 := (hSw.cell (p := ⟨w.heap.size, 0, none⟩) hl0.1 hl0.2).trans a0; have q2 := (hSw.cell (p := ⟨w.heap.size, 1, none⟩) hl0.1 hl0.2).trans a1; have q3 := (hSw.cell (p := ⟨w.heap.size, 2, none⟩) hl0.1 hl0.2).trans a2; have q4 := (hSw.cell (p := ⟨w.heap.size, 3, none⟩) hl0.1 hl0.2).trans a3; have q5 := (hSw.cell (p := ⟨w.heap.size + 1, 0, none⟩) hl1.1 hl1.2).trans b0; have q6 := (hSw.cell (p := ⟨w.heap.size + 1, 1, none⟩) hl1.1 hl1.2).trans b1; clear hSw; go_simp; try with_reducible rfl)
        try simp only [Act.put, List.setIfInBounds_toArray, List.set_cons_zero, List.set_cons_succ]
        refine wpAnyH_ready (rs := [11]) (by kernel_rfl) (by simp) ?_
        refine AllReadyH.cons (o := _) (by rw [List.getElem?_toArray]; exact rfl) (fun K hK => ?_) ?_
        · go_simp
          refine hK.out _ _ (hHeld.alloc _) (fun hHeld => ?_)
          clear hK K
          try simp only [Act.put, List.setIfInBounds_toArray, List.set_cons_zero, List.set_cons_succ]
          refine wpAnyH_ready (rs := [12]) (by kernel_rfl) (by simp) ?_
          refine AllReadyH.cons (o := _) (by rw [List.getElem?_toArray]; exact rfl) (fun K hK => ?_) ?_
          · obtain ⟨w9, hrun, hM, hO⟩ := (HHC.out.map.block (Below.heap_alloc wc (rowO (job, p) ⟨fn, aa, ac, l, fuel, 1, 0, 0, 0, fk⟩) _ HHC.out.lt.2.1)).update (P := Try.prog) nameTy Try.underlying74 (job, p) wc.heap.size
            unfold rowO encN evP at hrun
            go_simp
            refine hK.out _ _ (hHeld.only hO rfl) (fun hHeld => ?_)
            clear hK K
            try simp only [Act.put, List.setIfInBounds_toArray, List.set_cons_zero, List.set_cons_succ]
            refine wpAnyH_done (by kernel_rfl) ?_ _
            have HT := Lib.hid (HHC.out.more (r := ⟨fn, aa, ac, l, fuel, 1, 0, 0, 0, fk⟩) HG.out HO.out hM hO)
            have HF := Lib.hid ((Fr.of_below HA3.out).trans hHeld)
            have hbs : w.heap.size ≤ wc.heap.size := Nat.le_trans HA3.out.size (by have := hB.size; simpa using this)
            clear hHeld hM hO hrun HHC HO HH3 HV3 HA3 HG
            go_wp2_with fail
            go_ret
            exact ⟨ret_intE he.out.symm, .inr ⟨he.out, wc.heap.size, aa, ac, hbs, HT.out, HF.out⟩⟩
          exact AllReadyH.nil
        exact AllReadyH.nil
      exact AllReadyH.nil
end Go.Proofs.Ythbkbmkcgpdedaa
