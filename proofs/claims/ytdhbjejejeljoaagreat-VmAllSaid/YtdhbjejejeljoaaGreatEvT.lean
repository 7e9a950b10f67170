/- Contracts: thresherref13.Tasks, Trees, at tasks and trees that are the same. -/
import Derived.Test.YtdhbjejejeljoaaGreatEv15
namespace Go.Proofs.YtdhbjejejeljoaaGreat
open Go.RowKit Go.Sort Go.Lib

set_option maxHeartbeats 1600000 in
set_option maxRecDepth 100000 in
theorem tasks_same (s : ByteArray) (fn fuel : Int) (v u : Value) (l : List Int) (w : World) (hv : ReadsK encN1 1 w v l) (hu : ReadsK encN1 1 w u l) (hl : l.length ≤ 1000000) :
    Calls Tryz.prog 29 #[.agg #[.string s, .int .i64 fn, v, .int .i64 fuel], .agg #[.string s, .int .i64 fn, u, .int .i64 fuel]] w fun e w' => e = .returned (.bool true) ∧ Below w.heap.size w w' := by
  obtain ⟨va, vc, rfl⟩ := hv.slice
  obtain ⟨ua, uc, rfl⟩ := hu.slice
  have hA1 : Below w.heap.size w (w.alloc (.cells (taC s fn (.slice va l.length vc) fuel) TaskT)) := (Below.refl _ _).alloc (Nat.le_refl _) _
  have hA2 : Below (w.alloc (.cells (taC s fn (.slice va l.length vc) fuel) TaskT)).heap.size _ ((w.alloc (.cells (taC s fn (.slice va l.length vc) fuel) TaskT)).alloc (.cells (taC s fn (.slice ua l.length uc) fuel) TaskT)) := (Below.refl _ _).alloc (Nat.le_refl _) _
  have b1 : BoxAt ((w.alloc (.cells (taC s fn (.slice va l.length vc) fuel) TaskT)).alloc (.cells (taC s fn (.slice ua l.length uc) fuel) TaskT)) w.heap.size (taC s fn (.slice va l.length vc) fuel) TaskT := BoxAt.below (heap_alloc_new _ _) hA2
  have b2 : BoxAt ((w.alloc (.cells (taC s fn (.slice va l.length vc) fuel) TaskT)).alloc (.cells (taC s fn (.slice ua l.length uc) fuel) TaskT)) (w.heap.size + 1) (taC s fn (.slice ua l.length uc) fuel) TaskT := by
    have h1 := heap_alloc_new (w.alloc (.cells (taC s fn (.slice va l.length vc) fuel) TaskT)) (.cells (taC s fn (.slice ua l.length uc) fuel) TaskT)
    rwa [World.size_alloc] at h1
  have hB := gthen hA1 hA2
  have HB := Lib.hid hB
  have HV := Lib.hid (hv.below hB)
  have HU := Lib.hid (hu.below hB)
  have c0 := b1.cell 0; have c1 := b1.cell 1; have c2 := b1.cell 2; have c3 := b1.cell 3
  have d0 := b2.cell 0; have d1 := b2.cell 1; have d2 := b2.cell 2; have d3 := b2.cell 3
  simp only [taC, List.getElem?_toArray, List.getElem?_cons_zero, List.getElem?_cons_succ] at c0 c1 c2 c3 d0 d1 d2 d3
  clear hv hu hA1 hA2 b1 b2 hB
  go_enter Tryz.func29, Tryz.ntmps29
  go_upto_region 1 with fail
  simp only [taC] at HB HV HU
  generalize (w.alloc (.cells #[.string s, .int .i64 fn, .slice va l.length vc, .int .i64 fuel] TaskT)).alloc (.cells #[.string s, .int .i64 fn, .slice ua l.length uc, .int .i64 fuel] TaskT) = w1 at *
  go_wp2_with fail
  go_loopg [5] l.length (fun gk i wr => ∃ k : Nat, gk + k = l.length ∧ i = .int .i64 k ∧ Hid (Below w1.heap.size w1 wr))
  case atStart => exact ⟨0, by omega, rfl, Below.refl _ _⟩
  case round =>
    obtain ⟨k, hk, rfl, HR⟩ := hrel
    have e2 : wr.cell? ⟨w.heap.size, 2, none⟩ = some (.slice va l.length vc) := (HR.out.cell (p := ⟨w.heap.size, 2, none⟩) (World.block_lt_of_cell? _ _ c2)).trans c2
    have g2 : wr.cell? ⟨w.heap.size + 1, 2, none⟩ = some (.slice ua l.length uc) := (HR.out.cell (p := ⟨w.heap.size + 1, 2, none⟩) (World.block_lt_of_cell? _ _ d2)).trans d2
    by_cases hlt : k < l.length
    · obtain ⟨b, off, c, he, hb, hc⟩ := (HV.out.below HR.out).at (by omega)
      obtain ⟨b', off', c', he', hb', hc'⟩ := (HU.out.below HR.out).at (by omega)
      injection he with he1 he2 he3
      injection he' with he1' he2' he3'
      rw [he1] at e2
      rw [he1'] at g2
      have m1 : wr.cell? ⟨b, off + k, none⟩ = some (.int .i64 l[k]) := by have h := hc k hlt 0 _ rfl; simpa using h
      have m2 : wr.cell? ⟨b', off' + k, none⟩ = some (.int .i64 l[k]) := by have h := hc' k hlt 0 _ rfl; simpa using h
      have q1 : (k : Int) < l.length := by omega
      have q0 : (0 : Int) ≤ k := by omega
      clear hc hc' hb hb' he1 he2 he3 he1' he2' he3' c0 c1 c2 c3 d0 d1 d2 d3
      generalize l[k] = x at *
      go_upto_region 6 with fail
      go_quiet (fail)
      have HN := Lib.hid (show Below w1.heap.size w1 (wr.drewN nq) from below_drewN HR.out nq)
      generalize wr.drewN nq = w5 at *
      clear e2 g2 m1 m2
      go_wp2_with fail
      go_roundg (gk - 1)
      case rel => exact ⟨k + 1, by omega, by go_num, HN⟩
      case measure => omega
    · clear c0 c1 c2 c3 d0 d1 d2 d3
      go_wp2_with fail
      go_ret
      exact ⟨ret_bool rfl, gthen HB.out HR.out⟩
theorem cell_of' {w w' : World} {a : Addr} {v : Value} (hB : Below w.heap.size w w') (h : w.cell? a = some v) : w'.cell? a = some v := (hB.cell (World.block_lt_of_cell? _ _ h)).trans h
theorem done_at {w : World} {b off : Nat} {l : List DnA} (hc : ∀ i (h : i < l.length) t u, (encDn l[i])[t]? = some u → w.cell? ⟨b, off + (i * 7 + t), none⟩ = some u) {k : Nat} (h : k < l.length) :
    w.cell? ⟨b, off + k * 7, none⟩ = some (.string l[k].1.t.p) ∧ w.cell? ⟨b, off + k * 7 + 1, none⟩ = some (.int .i64 l[k].1.t.fn) ∧ w.cell? ⟨b, off + k * 7 + 2, none⟩ = some (argV l[k]) ∧ w.cell? ⟨b, off + k * 7 + 3, none⟩ = some (.int .i64 l[k].1.t.fuel) ∧ w.cell? ⟨b, off + k * 7 + 4, none⟩ = some (.int .i64 l[k].1.r.v) ∧ w.cell? ⟨b, off + k * 7 + 5, none⟩ = some (.int .i64 l[k].1.r.e) ∧ w.cell? ⟨b, off + k * 7 + 6, none⟩ = some (.int .i64 l[k].1.kids) :=
  ⟨hc k h 0 _ rfl, hc k h 1 _ rfl, hc k h 2 _ rfl, hc k h 3 _ rfl, hc k h 4 _ rfl, hc k h 5 _ rfl, hc k h 6 _ rfl⟩
/-- A tree that reads as this list. -/
def TreeR (w : World) (v : Value) (L : List Dn) : Prop := ∃ l : List DnA, l.map (·.1) = L ∧ ReadsK encDn 7 w v l ∧ ∀ d ∈ l, ReadsK encN1 1 w (argV d) d.1.t.args
theorem TreeR.below {w w' : World} {v : Value} {L : List Dn} (h : TreeR w v L) (hB : Below w.heap.size w w') : TreeR w' v L := by
  obtain ⟨l, h1, h2, h3⟩ := h
  exact ⟨l, h1, h2.below hB, fun d hd => (h3 d hd).below hB⟩
set_option maxHeartbeats 3200000 in
set_option maxRecDepth 100000 in
theorem trees_same (v u : Value) (L : List Dn) (w : World) (hv : TreeR w v L) (hu : TreeR w u L) (hL : L.length ≤ 1000000) (hA : ∀ d ∈ L, d.t.args.length ≤ 1000000) :
    Calls Tryz.prog 11 #[v, u] w fun e w' => e = .returned (.bool true) ∧ Below w.heap.size w w' := by
  obtain ⟨l, hm, hv1, hv2⟩ := hv
  obtain ⟨l', hm', hu1, hu2⟩ := hu
  obtain ⟨va, vc, rfl⟩ := hv1.slice
  obtain ⟨ua, uc, rfl⟩ := hu1.slice
  have hll : l'.length = l.length := by have h1 := congrArg List.length hm; have h2 := congrArg List.length hm'; simp at h1 h2; omega
  have hlL : l.length ≤ 1000000 := by have h1 := congrArg List.length hm; simp at h1; omega
  have HV := Lib.hid (And.intro hv1 hv2)
  have HU := Lib.hid (And.intro hu1 hu2)
  have HEQ := Lib.hid (show ∀ k (h : k < l.length) (h' : k < l'.length), l'[k].1 = l[k].1 ∧ l[k].1.t.args.length ≤ 1000000 from fun k h h' => by
    have h1 : (l.map (·.1))[k]? = (l'.map (·.1))[k]? := by rw [hm, hm']
    rw [List.getElem?_map, List.getElem?_map, List.getElem?_eq_getElem h, List.getElem?_eq_getElem h'] at h1
    simp only [Option.map_some, Option.some.injEq] at h1
    exact ⟨h1.symm, hA _ (by rw [← hm]; exact List.mem_map.2 ⟨_, List.getElem_mem h, rfl⟩)⟩)
  rw [hll] at hu1 ⊢
  clear hv1 hv2 hu1 hu2 hm hm' hA hL
  go_enter Tryz.func11, Tryz.ntmps11
  go_wp2_with fail
  go_loopg [5] l.length (fun gk i wr => ∃ k : Nat, gk + k = l.length ∧ i = .int .i64 k ∧ Hid (Below w.heap.size w wr))
  case atStart => exact ⟨0, by omega, rfl, Below.refl _ _⟩
  case round =>
    obtain ⟨k, hk, rfl, HR⟩ := hrel
    by_cases hlt : k < l.length
    · have hlt' : k < l'.length := by omega
      obtain ⟨b, off, c, he, hb, hc⟩ := (HV.out.1.below HR.out).at (by omega)
      obtain ⟨b', off', c', he', hb', hc'⟩ := (HU.out.1.below HR.out).at (by omega)
      injection he with he1 he2 he3
      injection he' with he1' he2' he3'
      subst he1; subst he1'
      have HC := Lib.hid hc
      have HC' := Lib.hid hc'
      obtain ⟨e1, e2⟩ := HEQ.out k hlt hlt'
      have HS := Lib.hid (show ∀ y, Below wr.heap.size wr y → Calls Tryz.prog 29 #[.agg #[.string l[k].1.t.p, .int .i64 l[k].1.t.fn, argV l[k], .int .i64 l[k].1.t.fuel], .agg #[.string l[k].1.t.p, .int .i64 l[k].1.t.fn, argV l'[k], .int .i64 l[k].1.t.fuel]] y fun e w' => e = .returned (.bool true) ∧ Below y.heap.size y w' from fun y hy =>
        tasks_same _ _ _ _ _ l[k].1.t.args y ((HV.out.2 _ (List.getElem_mem hlt)).below (gthen HR.out hy)) (e1 ▸ (HU.out.2 _ (List.getElem_mem hlt')).below (gthen HR.out hy)) e2)
      obtain ⟨m0, m1, m2, m3, m4, m5, m6⟩ := done_at hc hlt
      obtain ⟨n0, n1, n2, n3, n4, n5, n6⟩ := done_at hc' hlt'
      rw [e1] at n0 n1 n3 n4 n5 n6
      have q1 : (k : Int) < l.length := by omega
      have q0 : (0 : Int) ≤ k := by omega
      clear hc hc' he2 he3 he2' he3' e1 e2 HC HC' HEQ
      generalize argV l[k] = av at *
      generalize argV l'[k] = av' at *
      generalize l[k].1 = d at *
      go_upto_region 6 with fail
      refine wp_region_held_drew (S := fun y => Below wr.heap.size wr y) (by kernel_rfl) ((Below.refl _ _).drew) (fun hHeld => ?_)
      refine wpAnyH_take (i := 0) (oi := _) (v := ?_) (by rw [List.getElem?_toArray]; exact rfl) (by kernel_rfl) (by kernel_rfl) (by kernel_rfl) (by exact fun _ _ _ h => h) (Or.inl ⟨by rfl, ?_⟩) hHeld ?_
      rotate_left
      · (intro wX hSw; clear hSw; go_simp; try with_reducible rfl)
      try simp only [Act.put, List.setIfInBounds_toArray, List.set_cons_zero, List.set_cons_succ]
      refine wpAnyH_take (i := 1) (oi := _) (v := ?_) (by rw [List.getElem?_toArray]; exact rfl) (by kernel_rfl) (by kernel_rfl) (by kernel_rfl) (by exact fun _ _ _ h => h) (Or.inl ⟨by rfl, ?_⟩) hHeld ?_
      rotate_left
      · (intro wX hSw; clear hSw; go_simp; try with_reducible rfl)
      try simp only [Act.put, List.setIfInBounds_toArray, List.set_cons_zero, List.set_cons_succ]
      refine wpAnyH_take (i := 2) (oi := _) (v := ?_) (by rw [List.getElem?_toArray]; exact rfl) (by kernel_rfl) (by kernel_rfl) (by kernel_rfl) (by exact fun _ _ _ h => h) (Or.inl ⟨by rfl, ?_⟩) hHeld ?_
      rotate_left
      · (intro wX hSw; clear hSw; go_simp; try with_reducible rfl)
      try simp only [Act.put, List.setIfInBounds_toArray, List.set_cons_zero, List.set_cons_succ]
      refine wpAnyH_take (i := 3) (oi := _) (v := ?_) (by rw [List.getElem?_toArray]; exact rfl) (by kernel_rfl) (by kernel_rfl) (by kernel_rfl) (by exact fun _ _ _ h => h) (Or.inl ⟨by rfl, ?_⟩) hHeld ?_
      rotate_left
      · (intro wX hSw; clear hSw; go_simp; try with_reducible rfl)
      try simp only [Act.put, List.setIfInBounds_toArray, List.set_cons_zero, List.set_cons_succ]
      refine wpAnyH_take (i := 4) (oi := _) (v := ?_) (by rw [List.getElem?_toArray]; exact rfl) (by kernel_rfl) (by kernel_rfl) (by kernel_rfl) (by exact fun _ _ _ h => h) (Or.inl ⟨by rfl, ?_⟩) hHeld ?_
      rotate_left
      · (intro wX hSw; have z0 := cell_of' hSw m0; have z1 := cell_of' hSw m1; have z2 := cell_of' hSw m2; have z3 := cell_of' hSw m3; clear hSw; go_simp; try with_reducible rfl)
      try simp only [Act.put, List.setIfInBounds_toArray, List.set_cons_zero, List.set_cons_succ]
      refine wpAnyH_take (i := 5) (oi := _) (v := ?_) (by rw [List.getElem?_toArray]; exact rfl) (by kernel_rfl) (by kernel_rfl) (by kernel_rfl) (by exact fun _ _ _ h => h) (Or.inl ⟨by rfl, ?_⟩) hHeld ?_
      rotate_left
      · (intro wX hSw; clear hSw; go_simp; try with_reducible rfl)
      try simp only [Act.put, List.setIfInBounds_toArray, List.set_cons_zero, List.set_cons_succ]
      refine wpAnyH_take (i := 6) (oi := _) (v := ?_) (by rw [List.getElem?_toArray]; exact rfl) (by kernel_rfl) (by kernel_rfl) (by kernel_rfl) (by exact fun _ _ _ h => h) (Or.inl ⟨by rfl, ?_⟩) hHeld ?_
      rotate_left
      · (intro wX hSw; clear hSw; go_simp; try with_reducible rfl)
      try simp only [Act.put, List.setIfInBounds_toArray, List.set_cons_zero, List.set_cons_succ]
      refine wpAnyH_take (i := 7) (oi := _) (v := ?_) (by rw [List.getElem?_toArray]; exact rfl) (by kernel_rfl) (by kernel_rfl) (by kernel_rfl) (by exact fun _ _ _ h => h) (Or.inl ⟨by rfl, ?_⟩) hHeld ?_
      rotate_left
      · (intro wX hSw; clear hSw; go_simp; try with_reducible rfl)
      try simp only [Act.put, List.setIfInBounds_toArray, List.set_cons_zero, List.set_cons_succ]
      refine wpAnyH_take (i := 8) (oi := _) (v := ?_) (by rw [List.getElem?_toArray]; exact rfl) (by kernel_rfl) (by kernel_rfl) (by kernel_rfl) (by exact fun _ _ _ h => h) (Or.inl ⟨by rfl, ?_⟩) hHeld ?_
      rotate_left
      · (intro wX hSw; clear hSw; go_simp; try with_reducible rfl)
      try simp only [Act.put, List.setIfInBounds_toArray, List.set_cons_zero, List.set_cons_succ]
      refine wpAnyH_take (i := 9) (oi := _) (v := ?_) (by rw [List.getElem?_toArray]; exact rfl) (by kernel_rfl) (by kernel_rfl) (by kernel_rfl) (by exact fun _ _ _ h => h) (Or.inl ⟨by rfl, ?_⟩) hHeld ?_
      rotate_left
      · (intro wX hSw; have z0 := cell_of' hSw n0; have z1 := cell_of' hSw n1; have z2 := cell_of' hSw n2; have z3 := cell_of' hSw n3; clear hSw; go_simp; try with_reducible rfl)
      try simp only [Act.put, List.setIfInBounds_toArray, List.set_cons_zero, List.set_cons_succ]
      refine wpAnyH_ready (rs := [10]) (by kernel_rfl) (by simp) ?_
      refine AllReadyH.cons (o := _) (by rw [List.getElem?_toArray]; exact rfl) (fun K hK => ?_) ?_
      · go_simp
        refine (HS.out _ hHeld).mono ?_; rintro e w5 ⟨rfl, hB⟩
        go_wp2_with fail
        refine hK.out _ _ (gthen hHeld hB) (fun hHeld => ?_)
        clear hK K
        try simp only [Act.put, List.setIfInBounds_toArray, List.set_cons_zero, List.set_cons_succ]
        refine wpAnyH_take (i := 11) (oi := _) (v := ?_) (by rw [List.getElem?_toArray]; exact rfl) (by kernel_rfl) (by kernel_rfl) (by kernel_rfl) (by exact fun _ _ _ h => h) (Or.inl ⟨by rfl, ?_⟩) hHeld ?_
        rotate_left
        · (intro wX hSw; clear hSw; go_simp; try with_reducible rfl)
        try simp only [Act.put, List.setIfInBounds_toArray, List.set_cons_zero, List.set_cons_succ]
        refine wpAnyH_take (i := 12) (oi := _) (v := ?_) (by rw [List.getElem?_toArray]; exact rfl) (by kernel_rfl) (by kernel_rfl) (by kernel_rfl) (by exact fun _ _ _ h => h) (Or.inl ⟨by rfl, ?_⟩) hHeld ?_
        rotate_left
        · (intro wX hSw; clear hSw; go_simp; try with_reducible rfl)
        try simp only [Act.put, List.setIfInBounds_toArray, List.set_cons_zero, List.set_cons_succ]
        refine wpAnyH_take (i := 13) (oi := _) (v := ?_) (by rw [List.getElem?_toArray]; exact rfl) (by kernel_rfl) (by kernel_rfl) (by kernel_rfl) (by exact fun _ _ _ h => h) (Or.inl ⟨by rfl, ?_⟩) hHeld ?_
        rotate_left
        · (intro wX hSw; clear hSw; go_simp; try with_reducible rfl)
        try simp only [Act.put, List.setIfInBounds_toArray, List.set_cons_zero, List.set_cons_succ]
        refine wpAnyH_take (i := 14) (oi := _) (v := ?_) (by rw [List.getElem?_toArray]; exact rfl) (by kernel_rfl) (by kernel_rfl) (by kernel_rfl) (by exact fun _ _ _ h => h) (Or.inl ⟨by rfl, ?_⟩) hHeld ?_
        rotate_left
        · (intro wX hSw; clear hSw; go_simp; try with_reducible rfl)
        try simp only [Act.put, List.setIfInBounds_toArray, List.set_cons_zero, List.set_cons_succ]
        refine wpAnyH_take (i := 15) (oi := _) (v := ?_) (by rw [List.getElem?_toArray]; exact rfl) (by kernel_rfl) (by kernel_rfl) (by kernel_rfl) (by exact fun _ _ _ h => h) (Or.inl ⟨by rfl, ?_⟩) hHeld ?_
        rotate_left
        · (intro wX hSw; clear hSw; go_simp; try with_reducible rfl)
        try simp only [Act.put, List.setIfInBounds_toArray, List.set_cons_zero, List.set_cons_succ]
        refine wpAnyH_take (i := 16) (oi := _) (v := ?_) (by rw [List.getElem?_toArray]; exact rfl) (by kernel_rfl) (by kernel_rfl) (by kernel_rfl) (by exact fun _ _ _ h => h) (Or.inl ⟨by rfl, ?_⟩) hHeld ?_
        rotate_left
        · (intro wX hSw; clear hSw; go_simp; try with_reducible rfl)
        try simp only [Act.put, List.setIfInBounds_toArray, List.set_cons_zero, List.set_cons_succ]
        refine wpAnyH_take (i := 17) (oi := _) (v := ?_) (by rw [List.getElem?_toArray]; exact rfl) (by kernel_rfl) (by kernel_rfl) (by kernel_rfl) (by exact fun _ _ _ h => h) (Or.inl ⟨by rfl, ?_⟩) hHeld ?_
        rotate_left
        · (intro wX hSw; have z0 := cell_of' hSw m4; have z1 := cell_of' hSw m5; clear hSw; go_simp; try with_reducible rfl)
        try simp only [Act.put, List.setIfInBounds_toArray, List.set_cons_zero, List.set_cons_succ]
        refine wpAnyH_take (i := 18) (oi := _) (v := ?_) (by rw [List.getElem?_toArray]; exact rfl) (by kernel_rfl) (by kernel_rfl) (by kernel_rfl) (by exact fun _ _ _ h => h) (Or.inl ⟨by rfl, ?_⟩) hHeld ?_
        rotate_left
        · (intro wX hSw; clear hSw; go_simp; try with_reducible rfl)
        try simp only [Act.put, List.setIfInBounds_toArray, List.set_cons_zero, List.set_cons_succ]
        refine wpAnyH_take (i := 19) (oi := _) (v := ?_) (by rw [List.getElem?_toArray]; exact rfl) (by kernel_rfl) (by kernel_rfl) (by kernel_rfl) (by exact fun _ _ _ h => h) (Or.inl ⟨by rfl, ?_⟩) hHeld ?_
        rotate_left
        · (intro wX hSw; clear hSw; go_simp; try with_reducible rfl)
        try simp only [Act.put, List.setIfInBounds_toArray, List.set_cons_zero, List.set_cons_succ]
        refine wpAnyH_take (i := 20) (oi := _) (v := ?_) (by rw [List.getElem?_toArray]; exact rfl) (by kernel_rfl) (by kernel_rfl) (by kernel_rfl) (by exact fun _ _ _ h => h) (Or.inl ⟨by rfl, ?_⟩) hHeld ?_
        rotate_left
        · (intro wX hSw; clear hSw; go_simp; try with_reducible rfl)
        try simp only [Act.put, List.setIfInBounds_toArray, List.set_cons_zero, List.set_cons_succ]
        refine wpAnyH_take (i := 21) (oi := _) (v := ?_) (by rw [List.getElem?_toArray]; exact rfl) (by kernel_rfl) (by kernel_rfl) (by kernel_rfl) (by exact fun _ _ _ h => h) (Or.inl ⟨by rfl, ?_⟩) hHeld ?_
        rotate_left
        · (intro wX hSw; clear hSw; go_simp; try with_reducible rfl)
        try simp only [Act.put, List.setIfInBounds_toArray, List.set_cons_zero, List.set_cons_succ]
        refine wpAnyH_take (i := 22) (oi := _) (v := ?_) (by rw [List.getElem?_toArray]; exact rfl) (by kernel_rfl) (by kernel_rfl) (by kernel_rfl) (by exact fun _ _ _ h => h) (Or.inl ⟨by rfl, ?_⟩) hHeld ?_
        rotate_left
        · (intro wX hSw; have z0 := cell_of' hSw n4; have z1 := cell_of' hSw n5; clear hSw; go_simp; try with_reducible rfl)
        try simp only [Act.put, List.setIfInBounds_toArray, List.set_cons_zero, List.set_cons_succ]
        refine wpAnyH_take (i := 23) (oi := _) (v := ?_) (by rw [List.getElem?_toArray]; exact rfl) (by kernel_rfl) (by kernel_rfl) (by kernel_rfl) (by exact fun _ _ _ h => h) (Or.inl ⟨by rfl, ?_⟩) hHeld ?_
        rotate_left
        · (intro wX hSw; clear hSw; go_simp; try with_reducible rfl)
        try simp only [Act.put, List.setIfInBounds_toArray, List.set_cons_zero, List.set_cons_succ]
        refine wpAnyH_take (i := 24) (oi := _) (v := ?_) (by rw [List.getElem?_toArray]; exact rfl) (by kernel_rfl) (by kernel_rfl) (by kernel_rfl) (by exact fun _ _ _ h => h) (Or.inl ⟨by rfl, ?_⟩) hHeld ?_
        rotate_left
        · (intro wX hSw; clear hSw; go_simp; try with_reducible rfl)
        try simp only [Act.put, List.setIfInBounds_toArray, List.set_cons_zero, List.set_cons_succ]
        refine wpAnyH_take (i := 25) (oi := _) (v := ?_) (by rw [List.getElem?_toArray]; exact rfl) (by kernel_rfl) (by kernel_rfl) (by kernel_rfl) (by exact fun _ _ _ h => h) (Or.inl ⟨by rfl, ?_⟩) hHeld ?_
        rotate_left
        · (intro wX hSw; clear hSw; go_simp; try with_reducible rfl)
        try simp only [Act.put, List.setIfInBounds_toArray, List.set_cons_zero, List.set_cons_succ]
        refine wpAnyH_take (i := 26) (oi := _) (v := ?_) (by rw [List.getElem?_toArray]; exact rfl) (by kernel_rfl) (by kernel_rfl) (by kernel_rfl) (by exact fun _ _ _ h => h) (Or.inl ⟨by rfl, ?_⟩) hHeld ?_
        rotate_left
        · (intro wX hSw; clear hSw; go_simp; try with_reducible rfl)
        try simp only [Act.put, List.setIfInBounds_toArray, List.set_cons_zero, List.set_cons_succ]
        refine wpAnyH_take (i := 27) (oi := _) (v := ?_) (by rw [List.getElem?_toArray]; exact rfl) (by kernel_rfl) (by kernel_rfl) (by kernel_rfl) (by exact fun _ _ _ h => h) (Or.inl ⟨by rfl, ?_⟩) hHeld ?_
        rotate_left
        · (intro wX hSw; clear hSw; go_simp; try with_reducible rfl)
        try simp only [Act.put, List.setIfInBounds_toArray, List.set_cons_zero, List.set_cons_succ]
        refine wpAnyH_take (i := 28) (oi := _) (v := ?_) (by rw [List.getElem?_toArray]; exact rfl) (by kernel_rfl) (by kernel_rfl) (by kernel_rfl) (by exact fun _ _ _ h => h) (Or.inl ⟨by rfl, ?_⟩) hHeld ?_
        rotate_left
        · (intro wX hSw; clear hSw; go_simp; try with_reducible rfl)
        try simp only [Act.put, List.setIfInBounds_toArray, List.set_cons_zero, List.set_cons_succ]
        refine wpAnyH_take (i := 29) (oi := _) (v := ?_) (by rw [List.getElem?_toArray]; exact rfl) (by kernel_rfl) (by kernel_rfl) (by kernel_rfl) (by exact fun _ _ _ h => h) (Or.inl ⟨by rfl, ?_⟩) hHeld ?_
        rotate_left
        · (intro wX hSw; clear hSw; go_simp; try with_reducible rfl)
        try simp only [Act.put, List.setIfInBounds_toArray, List.set_cons_zero, List.set_cons_succ]
        refine wpAnyH_take (i := 30) (oi := _) (v := ?_) (by rw [List.getElem?_toArray]; exact rfl) (by kernel_rfl) (by kernel_rfl) (by kernel_rfl) (by exact fun _ _ _ h => h) (Or.inl ⟨by rfl, ?_⟩) hHeld ?_
        rotate_left
        · (intro wX hSw; have z0 := cell_of' hSw m6; clear hSw; go_simp; try with_reducible rfl)
        try simp only [Act.put, List.setIfInBounds_toArray, List.set_cons_zero, List.set_cons_succ]
        refine wpAnyH_take (i := 31) (oi := _) (v := ?_) (by rw [List.getElem?_toArray]; exact rfl) (by kernel_rfl) (by kernel_rfl) (by kernel_rfl) (by exact fun _ _ _ h => h) (Or.inl ⟨by rfl, ?_⟩) hHeld ?_
        rotate_left
        · (intro wX hSw; clear hSw; go_simp; try with_reducible rfl)
        try simp only [Act.put, List.setIfInBounds_toArray, List.set_cons_zero, List.set_cons_succ]
        refine wpAnyH_take (i := 32) (oi := _) (v := ?_) (by rw [List.getElem?_toArray]; exact rfl) (by kernel_rfl) (by kernel_rfl) (by kernel_rfl) (by exact fun _ _ _ h => h) (Or.inl ⟨by rfl, ?_⟩) hHeld ?_
        rotate_left
        · (intro wX hSw; clear hSw; go_simp; try with_reducible rfl)
        try simp only [Act.put, List.setIfInBounds_toArray, List.set_cons_zero, List.set_cons_succ]
        refine wpAnyH_take (i := 33) (oi := _) (v := ?_) (by rw [List.getElem?_toArray]; exact rfl) (by kernel_rfl) (by kernel_rfl) (by kernel_rfl) (by exact fun _ _ _ h => h) (Or.inl ⟨by rfl, ?_⟩) hHeld ?_
        rotate_left
        · (intro wX hSw; clear hSw; go_simp; try with_reducible rfl)
        try simp only [Act.put, List.setIfInBounds_toArray, List.set_cons_zero, List.set_cons_succ]
        refine wpAnyH_take (i := 34) (oi := _) (v := ?_) (by rw [List.getElem?_toArray]; exact rfl) (by kernel_rfl) (by kernel_rfl) (by kernel_rfl) (by exact fun _ _ _ h => h) (Or.inl ⟨by rfl, ?_⟩) hHeld ?_
        rotate_left
        · (intro wX hSw; clear hSw; go_simp; try with_reducible rfl)
        try simp only [Act.put, List.setIfInBounds_toArray, List.set_cons_zero, List.set_cons_succ]
        refine wpAnyH_take (i := 35) (oi := _) (v := ?_) (by rw [List.getElem?_toArray]; exact rfl) (by kernel_rfl) (by kernel_rfl) (by kernel_rfl) (by exact fun _ _ _ h => h) (Or.inl ⟨by rfl, ?_⟩) hHeld ?_
        rotate_left
        · (intro wX hSw; have z0 := cell_of' hSw n6; clear hSw; go_simp; try with_reducible rfl)
        try simp only [Act.put, List.setIfInBounds_toArray, List.set_cons_zero, List.set_cons_succ]
        refine wpAnyH_take (i := 36) (oi := _) (v := ?_) (by rw [List.getElem?_toArray]; exact rfl) (by kernel_rfl) (by kernel_rfl) (by kernel_rfl) (by exact fun _ _ _ h => h) (Or.inl ⟨by rfl, ?_⟩) hHeld ?_
        rotate_left
        · (intro wX hSw; clear hSw; go_simp; try with_reducible rfl)
        try simp only [Act.put, List.setIfInBounds_toArray, List.set_cons_zero, List.set_cons_succ]
        refine wpAnyH_take (i := 37) (oi := _) (v := ?_) (by rw [List.getElem?_toArray]; exact rfl) (by kernel_rfl) (by kernel_rfl) (by kernel_rfl) (by exact fun _ _ _ h => h) (Or.inl ⟨by rfl, ?_⟩) hHeld ?_
        rotate_left
        · (intro wX hSw; clear hSw; go_simp; try with_reducible rfl)
        try simp only [Act.put, List.setIfInBounds_toArray, List.set_cons_zero, List.set_cons_succ]
        refine wpAnyH_done (by kernel_rfl) ?_ _
        have HN := Lib.hid (gthen HR.out hHeld)
        clear hHeld m0 m1 m2 m3 m4 m5 m6 n0 n1 n2 n3 n4 n5 n6
        go_wp2_with fail
        go_roundg (gk - 1)
        case rel => exact ⟨k + 1, by omega, by go_num, HN⟩
        case measure => omega
      exact AllReadyH.nil
    · go_wp2_with fail
      go_ret
      exact ⟨ret_bool rfl, HR.out⟩
end Go.Proofs.YtdhbjejejeljoaaGreat
