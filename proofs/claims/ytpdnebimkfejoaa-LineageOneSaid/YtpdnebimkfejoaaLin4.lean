/- Add. -/
import Derived.Test.YtpdnebimkfejoaaLin3
namespace Go.Proofs.Ytpdnebimkfejoaa
open Go.RowKit Go.Sort Go.Lib

def addE (T : Tb) (n : Nm) : Int := if mayS n.2 = false then 2 else if (getL T n).isSome then 7 else if n.2.toList ≠ [] ∧ upN (hasT T) n = none then 5 else if 1024 ≤ T.length then 6 else 0
theorem Tab.notMap {w : World} {f m : Nat} {T : Tb} (h : Tab w f m T) {i : Nat} {c : Array Value} {t : TypeId} {fr : Nat × Nat} (hi : w.heap[i]? = some (Obj.cells c t fr)) : i ≠ m := by
  rintro rfl
  obtain ⟨es, c, hb, _⟩ := h.map
  rw [hb] at hi; cases hi
theorem Tab.more {wc w9 : World} {f m : Nat} {T : Tb} {n : Nm} {r : Rw} (h : Tab wc f m T) (hg : getL T n = none) (ho : Args wc r) (hM : MapL evP w9 m (putL (mapT T) n wc.heap.size)) (hO : OnlyAt (wc.alloc (rowO n r)) w9 m) :
    Tab w9 f m (T ++ [(n, wc.heap.size, r)]) := by
  have hk : ∀ (i : Nat) (c : Array Value) (t : TypeId) (fr : Nat × Nat), wc.heap[i]? = some (Obj.cells c t fr) → w9.heap[i]? = some (Obj.cells c t fr) := fun i c t fr hi =>
    (hO.2.2.2.2.1 i (h.notMap hi)).trans ((Below.heap_alloc _ _ _ (Array.getElem?_eq_some_iff.1 hi).1).trans hi)
  have ha : ∀ r, Args wc r → Args w9 r := fun r hr => Args.far hr (fun i cur hi => (hk i _ _ _ hi).trans hi.symm)
  have hnew : w9.heap[wc.heap.size]? = some (rowO n r) := (hO.2.2.2.2.1 _ (by have := h.lt.2.1; omega)).trans (heap_alloc_new _ _)
  refine ⟨hk f _ _ _ h.box, ?_, ?_, ?_⟩
  · rw [putL_newV (by rw [getL_mapT, hg]; rfl)] at hM
    rw [show mapT (T ++ [(n, wc.heap.size, r)]) = mapT T ++ [(n, wc.heap.size)] by unfold mapT; simp]
    exact hM
  · intro p hp
    rcases List.mem_append.1 hp with hp | hp
    · exact ⟨hk _ _ _ _ (h.row p hp).1, ha _ (h.row p hp).2⟩
    · rw [List.mem_singleton] at hp
      rw [hp]
      exact ⟨hnew, ha _ ho⟩
  · rw [List.map_append, List.nodup_append]
    refine ⟨h.nd, by simp, fun a ha b hb e => ?_⟩
    obtain ⟨p, hp, rfl⟩ := List.mem_map.1 ha
    simp at hb
    have := (Array.getElem?_eq_some_iff.1 (h.row p hp).1).1
    omega
theorem gdrew {n : Nat} {w y : World} (h : Below n w.drew y) : Below n w y := ⟨h.os, h.tape, h.output, h.size, h.block⟩
theorem aboveP_cases (T : Tb) (n : Nm) : (upN (hasT T) n = none ∧ aboveP T n = .pointer none) ∨ ∃ u b r, upN (hasT T) n = some u ∧ getL T u = some (b, r) ∧ aboveP T n = .pointer (some ⟨b, 0, none⟩) := by
  have key : ∀ (k : Nat) (p : ByteArray) (u : Nm), upF (hasT T) n.1 k p = some u → hasT T u = true := by
    intro k
    induction k with
    | zero => intro p u h; cases h
    | succ k ih =>
      intro p u h
      unfold upF at h
      split at h
      · split at h
        · rename_i h1
          injection h with h; subst h; exact h1
        · exact ih _ _ h
      · cases h
  cases hu : upN (hasT T) n with
  | none => exact .inl ⟨rfl, by unfold aboveP; rw [hu]⟩
  | some u =>
    have h1 : hasT T u = true := by
      unfold upN at hu
      split at hu
      · exact key _ _ _ hu
      · cases hu
    obtain ⟨⟨b, r⟩, hg⟩ := Option.isSome_iff_exists.1 (show (getL T u).isSome = true from h1)
    exact .inr ⟨u, b, r, rfl, hg, by unfold aboveP; rw [hu]; simp only; unfold ptrT; rw [hg]; rfl⟩
theorem own_sets {w1 : World} {E : TypeId} {v : Value} {n : Nat} {xs : List Value} {B r : Nat} (h : w1.ownsRow B E 1 v n xs) (hr : r < B) {a : Addr} (ha : a.block = r) (u : Value) : (w1.setCell a u).ownsRow B E 1 v n xs := by
  refine ⟨h.1, h.2.imp id ?_⟩
  rintro ⟨g, cap, cur, hv, h1, h2, h3⟩
  exact ⟨g, cap, cur, hv, h1, (Go.heap_setCell_other w1 a g u (by omega)).trans h2, h3⟩
set_option maxHeartbeats 3200000 in
set_option maxRecDepth 100000 in
theorem add_tab (f m : Nat) (T : Tb) (job : Int) (p : ByteArray) (fn fuel : Int) (v : Value) (l : List Int) (w : World) (h : Tab w f m T) (hv : ReadsK encI 1 w v l) (hl : l.length ≤ 1000000) (hT : T.length ≤ 1000000) (hp : p.size ≤ 9223372036854775807) :
    Calls Try.prog 10 #[.pointer (some ⟨f, 0, none⟩), .int .u64 job, .agg #[.string p, .int .i64 fn, v, .int .i64 fuel]] w fun e w' => e = .returned (.int .i64 (addE T (job, p))) ∧
      ((addE T (job, p) ≠ 0 ∧ Tab w' f m T ∧ Below w.heap.size w w') ∨ (addE T (job, p) = 0 ∧ ∃ b aa ac, w.heap.size ≤ b ∧ Tab w' f m (T ++ [((job, p), b, ⟨fn, aa, ac, l, fuel, 1, 0, 0⟩)]) ∧ Fr (fun i => i = m) w w')) := by
  obtain ⟨va, vc, rfl⟩ := hv.slice
  have hA : Below w.heap.size w ((w.alloc (.cells #[.string p, .int .i64 fn, .slice va l.length vc, .int .i64 fuel] 32)).alloc (.cells #[.int .u64 job, .string p] 29)) := ((Below.refl _ _).alloc (Nat.le_refl _) _).alloc (by simp) _
  have k0 : ((w.alloc (.cells #[.string p, .int .i64 fn, .slice va l.length vc, .int .i64 fuel] 32)).alloc (.cells #[.int .u64 job, .string p] 29)).heap[w.heap.size]? = some (.cells #[.string p, .int .i64 fn, .slice va l.length vc, .int .i64 fuel] 32 (0, 0)) :=
    (((Below.refl (w.alloc (.cells #[.string p, .int .i64 fn, .slice va l.length vc, .int .i64 fuel] 32)).heap.size _).alloc (Nat.le_refl _) _).block _ (by simp)).trans (heap_alloc_new _ _)
  have k1 : ((w.alloc (.cells #[.string p, .int .i64 fn, .slice va l.length vc, .int .i64 fuel] 32)).alloc (.cells #[.int .u64 job, .string p] 29)).heap[w.heap.size + 1]? = some (.cells #[.int .u64 job, .string p] 29 (0, 0)) := by
    have h2 := heap_alloc_new (w.alloc (.cells #[.string p, .int .i64 fn, .slice va l.length vc, .int .i64 fuel] 32)) (.cells #[.int .u64 job, .string p] 29)
    rw [show (w.alloc (.cells #[.string p, .int .i64 fn, .slice va l.length vc, .int .i64 fuel] 32)).heap.size = w.heap.size + 1 by simp] at h2
    exact h2
  have HT0 := Lib.hid h
  have HH := Lib.hid (h.below hA)
  have HV := Lib.hid (hv.below hA)
  have HA := Lib.hid hA
  have c0 := HH.out.c0
  have hmn := mapNilT
  have HK0 := Lib.hid k0
  have HK1 := Lib.hid k1
  clear h hv hA k0 k1
  go_enter Try.func10, Try.ntmps10
  go_wp2_with fail
  refine (may_any p _ hp).mono ?_
  rintro e w1 ⟨rfl, hB⟩
  have hlt0 := (Array.getElem?_eq_some_iff.1 HK0.out).1
  have hlt1 := (Array.getElem?_eq_some_iff.1 HK1.out).1
  have HH1 := Lib.hid (HH.out.below hB)
  have HV1 := Lib.hid (HV.out.below hB)
  have HA1 := Lib.hid (gthen HA.out hB)
  have k0 := (hB.block _ hlt0).trans HK0.out
  have k1 := (hB.block _ hlt1).trans HK1.out
  clear hB HH HV HA c0 HK0 HK1 hlt0 hlt1
  cases hm : mayS p
  · have he := Lib.hid (show addE T (job, p) = 2 by unfold addE; rw [if_pos hm])
    clear hm k0 k1
    go_wp2_with fail
    go_ret
    exact ⟨ret_intE he.out.symm, .inl ⟨by rw [he.out]; decide, HH1.out, HA1.out⟩⟩
  · have hl1 := fun q => (HH1.out.drewN q).look_at rfl (job, p)
    have c0 := HH1.out.c0
    have HM := Lib.hid hm
    have b0 : w1.cell? ⟨w.heap.size + 1, 0, none⟩ = some (.int .u64 job) := by simp [World.cell?, k1]
    have b1 : w1.cell? ⟨w.heap.size + 1, 1, none⟩ = some (.string p) := by simp [World.cell?, k1]
    have HK0 := Lib.hid k0
    have HK1 := Lib.hid k1
    unfold ptrT at hl1
    clear hm k0 k1
    cases hg : getL T (job, p) with
    | some br =>
      obtain ⟨b, r⟩ := br
      rw [hg] at hl1
      simp only [Option.map_some] at hl1
      have he := Lib.hid (show addE T (job, p) = 7 by unfold addE; rw [if_neg (by show ¬ mayS p = false; rw [HM.out]; decide), hg]; rfl)
      clear hg
      go_wp2_with fail
      go_quiet (fail)
      go_wp2_with fail
      go_ret
      exact ⟨ret_intE he.out.symm, .inl ⟨by rw [he.out]; decide, HH1.out.drewN _, below_drewN HA1.out _⟩⟩
    | none =>
      rw [hg] at hl1
      simp only [Option.map_none] at hl1
      have HG := Lib.hid hg
      clear hg
      go_wp2_with fail
      go_quiet (fail)
      have HH2 := Lib.hid (HH1.out.drewN nq)
      have HV2 := Lib.hid (HV1.out.below (below_drewN (Below.refl _ _) nq))
      have HA2 := Lib.hid (below_drewN HA1.out nq)
      have HK02 := Lib.hid (show (w1.drewN nq).heap[w.heap.size]? = some (.cells #[.string p, .int .i64 fn, .slice va l.length vc, .int .i64 fuel] 32 (0, 0)) from HK0.out)
      have HK12 := Lib.hid (show (w1.drewN nq).heap[w.heap.size + 1]? = some (.cells #[.int .u64 job, .string p] 29 (0, 0)) from HK1.out)
      generalize w1.drewN nq = w2 at *
      clear hl1 c0 HH1 HV1 HA1 HK0 HK1 b0 b1
      have hlt0 := (Array.getElem?_eq_some_iff.1 HK02.out).1
      have hlt1 := (Array.getElem?_eq_some_iff.1 HK12.out).1
      have a1 : w2.cell? ⟨w.heap.size, 0, none⟩ = some (.string p) := by have := HK02.out; simp [World.cell?, this]
      have b0 : w2.cell? ⟨w.heap.size + 1, 0, none⟩ = some (.int .u64 job) := by have := HK12.out; simp [World.cell?, this]
      have b1 : w2.cell? ⟨w.heap.size + 1, 1, none⟩ = some (.string p) := by have := HK12.out; simp [World.cell?, this]
      by_cases hpe : p.toList = []
      · have hpe2 : (!p.toList.isEmpty) = false := by simp [hpe]
        have HU := Lib.hid (show ¬ (((job, p) : Nm).2.toList ≠ [] ∧ upN (hasT T) (job, p) = none) from fun h => h.1 hpe)
        clear b0 b1
        go_upto_region 10 with fail
        clear hpe hpe2 a1 hlt0 hlt1
        have HH3 := HH2; have HV3 := HV2; have HA3 := HA2; have HK03 := HK02; have HK13 := HK12
        clear HH2 HV2 HA2 HK02 HK12
        generalize w2 = w3 at *
        have hln := fun ty => HH3.out.map.len (P := Try.prog) (k := 29) Try.underlying65 ty
        have hll : ((mapT T).length : Int) = T.length := by unfold mapT; simp
        rw [hll] at hln
        have c0 := HH3.out.c0
        by_cases hf : 1024 ≤ T.length
        · have he := Lib.hid (show addE T (job, p) = 6 by unfold addE; rw [if_neg (by show ¬ mayS p = false; rw [HM.out]; decide), HG.out, if_neg (by decide), if_neg HU.out, if_pos hf])
          go_wp2_with fail
          go_ret
          exact ⟨ret_intE he.out.symm, .inl ⟨by rw [he.out]; decide, HH3.out, HA3.out⟩⟩
        · have he := Lib.hid (show addE T (job, p) = 0 by unfold addE; rw [if_neg (by show ¬ mayS p = false; rw [HM.out]; decide), HG.out, if_neg (by decide), if_neg HU.out, if_neg hf])
          have j0 := HK03.out
          have hlt0 := (Array.getElem?_eq_some_iff.1 j0).1
          have hlt1 := (Array.getElem?_eq_some_iff.1 HK13.out).1
          have a2 : w3.cell? ⟨w.heap.size, 2, none⟩ = some (.slice va l.length vc) := by simp [World.cell?, j0]
          clear j0
          go_wp2_with fail
          refine (clone_any _ l _ HV3.out hl).mono ?_
          rintro e w4 ⟨aa, ac, rfl, ho, hB⟩
          have hsz := hB.size
          have HB4 := Lib.hid (gthen HA3.out hB)
          have HO4 := Lib.hid ho
          have HK04 := Lib.hid ((hB.block _ hlt0).trans HK03.out)
          have HK14 := Lib.hid ((hB.block _ hlt1).trans HK13.out)
          have y2 : w4.cell? ⟨w.heap.size, 2, none⟩ = some (.slice va l.length vc) := by have := HK04.out; simp [World.cell?, this]
          have z2 : w4.frozen? ⟨w.heap.size, 2, none⟩ = false := by have := HK04.out; simp [World.frozen?, this]
          clear ho hB HV3 HK03 HK13 hln hll c0 a2 HH3 HA3
          go_upto_region 13 with fail
          have HA5 := Lib.hid (HB4.out.setCell (p := ⟨w.heap.size, 2, none⟩) (Nat.le_refl _) (.slice aa l.length ac))
          have HT5 := Lib.hid (HT0.out.below HA5.out)
          have HO5 : Hid (Args (w4.setCell ⟨w.heap.size, 2, none⟩ (.slice aa l.length ac)) ⟨fn, aa, ac, l, fuel, 1, 0, 0⟩) := owns_base (own_sets HO4.out (r := w.heap.size) (a := ⟨w.heap.size, 2, none⟩) hlt0 rfl (.slice aa l.length ac)) (Nat.zero_le _)
          have j0 := Go.heap_setCell_same w4 w.heap.size 2 _ _ (.slice aa l.length ac) HK04.out
          have j1 : (w4.setCell ⟨w.heap.size, 2, none⟩ (.slice aa l.length ac)).heap[w.heap.size + 1]? = _ := (Go.heap_setCell_other w4 ⟨w.heap.size, 2, none⟩ (w.heap.size + 1) (.slice aa l.length ac) (by show w.heap.size + 1 ≠ w.heap.size; omega)).trans HK14.out
          generalize w4.setCell ⟨w.heap.size, 2, none⟩ (.slice aa l.length ac) = w5 at *
          have d0 := HT5.out.c0
          have hlf : f < w5.heap.size ∧ ¬ f = m := ⟨HT5.out.lt.1, HT5.out.lt.2.2⟩
          have hmw := HT0.out.lt.2.1
          have hl0 : w.heap.size < w5.heap.size ∧ ¬ w.heap.size = m := ⟨(Array.getElem?_eq_some_iff.1 j0).1, by omega⟩
          have hl1 : w.heap.size + 1 < w5.heap.size ∧ ¬ w.heap.size + 1 = m := ⟨(Array.getElem?_eq_some_iff.1 j1).1, by omega⟩
          have a0 : w5.cell? ⟨w.heap.size, 0, none⟩ = some (.string p) := by simp [World.cell?, j0]
          have a1 : w5.cell? ⟨w.heap.size, 1, none⟩ = some (.int .i64 fn) := by simp [World.cell?, j0]
          have a2 : w5.cell? ⟨w.heap.size, 2, none⟩ = some (.slice aa l.length ac) := by simp [World.cell?, j0]
          have a3 : w5.cell? ⟨w.heap.size, 3, none⟩ = some (.int .i64 fuel) := by simp [World.cell?, j0]
          have b0 : w5.cell? ⟨w.heap.size + 1, 0, none⟩ = some (.int .u64 job) := by simp [World.cell?, j1]
          have b1 : w5.cell? ⟨w.heap.size + 1, 1, none⟩ = some (.string p) := by simp [World.cell?, j1]
          clear j0 j1 y2 z2 HK04 HK14 HO4 HB4 hsz hlt0 hlt1
          refine wp_region_held_drew (S := fun y => Fr (fun i => i = m) w5 y) (by kernel_rfl) ((Fr.refl _ _).drew) (fun hHeld => ?_)
          have HTD := Lib.hid (HT5.out.below ((Below.refl _ _).drew))
          have HOD := Lib.hid (Args.far HO5.out (w' := w5.drew) (fun i cur hi => rfl))
          have HAD := Lib.hid (gthen HA5.out ((Below.refl _ _).drew))
          clear HT5 HO5
          generalize w5.drew = wd at *
          refine wpAnyH_take (i := 0) (oi := _) (v := ?_) (by rw [List.getElem?_toArray]; exact rfl) (by kernel_rfl) (by kernel_rfl) (by kernel_rfl) (by exact fun _ _ _ h => h) (Or.inl ⟨by rfl, ?_⟩) hHeld ?_
          rotate_left
          · (intro wX hSw; have q0 := (hSw.cell (p := ⟨f, 0, none⟩) hlf.1 hlf.2).trans d0; have q1 := (hSw.cell (p := ⟨w.heap.size, 0, none⟩) hl0.1 hl0.2).trans a0; have q2 := (hSw.cell (p := ⟨w.heap.size, 1, none⟩) hl0.1 hl0.2).trans a1; have q3 := (hSw.cell (p := ⟨w.heap.size, 2, none⟩) hl0.1 hl0.2).trans a2; have q4 := (hSw.cell (p := ⟨w.heap.size, 3, none⟩) hl0.1 hl0.2).trans a3; have q5 := (hSw.cell (p := ⟨w.heap.size + 1, 0, none⟩) hl1.1 hl1.2).trans b0; have q6 := (hSw.cell (p := ⟨w.heap.size + 1, 1, none⟩) hl1.1 hl1.2).trans b1; clear hSw; go_simp; try with_reducible rfl)
          try simp only [Act.put, List.setIfInBounds_toArray, List.set_cons_zero, List.set_cons_succ]
          refine wpAnyH_take (i := 1) (oi := _) (v := ?_) (by rw [List.getElem?_toArray]; exact rfl) (by kernel_rfl) (by kernel_rfl) (by kernel_rfl) (by exact fun _ _ _ h => h) (Or.inl ⟨by rfl, ?_⟩) hHeld ?_
          rotate_left
          · (intro wX hSw; have q0 := (hSw.cell (p := ⟨f, 0, none⟩) hlf.1 hlf.2).trans d0; have q1 := (hSw.cell (p := ⟨w.heap.size, 0, none⟩) hl0.1 hl0.2).trans a0; have q2 := (hSw.cell (p := ⟨w.heap.size, 1, none⟩) hl0.1 hl0.2).trans a1; have q3 := (hSw.cell (p := ⟨w.heap.size, 2, none⟩) hl0.1 hl0.2).trans a2; have q4 := (hSw.cell (p := ⟨w.heap.size, 3, none⟩) hl0.1 hl0.2).trans a3; have q5 := (hSw.cell (p := ⟨w.heap.size + 1, 0, none⟩) hl1.1 hl1.2).trans b0; have q6 := (hSw.cell (p := ⟨w.heap.size + 1, 1, none⟩) hl1.1 hl1.2).trans b1; clear hSw; go_simp; try with_reducible rfl)
          try simp only [Act.put, List.setIfInBounds_toArray, List.set_cons_zero, List.set_cons_succ]
          refine wpAnyH_take (i := 2) (oi := _) (v := ?_) (by rw [List.getElem?_toArray]; exact rfl) (by kernel_rfl) (by kernel_rfl) (by kernel_rfl) (by exact fun _ _ _ h => h) (Or.inl ⟨by rfl, ?_⟩) hHeld ?_
          rotate_left
          · (intro wX hSw; have q0 := (hSw.cell (p := ⟨f, 0, none⟩) hlf.1 hlf.2).trans d0; have q1 := (hSw.cell (p := ⟨w.heap.size, 0, none⟩) hl0.1 hl0.2).trans a0; have q2 := (hSw.cell (p := ⟨w.heap.size, 1, none⟩) hl0.1 hl0.2).trans a1; have q3 := (hSw.cell (p := ⟨w.heap.size, 2, none⟩) hl0.1 hl0.2).trans a2; have q4 := (hSw.cell (p := ⟨w.heap.size, 3, none⟩) hl0.1 hl0.2).trans a3; have q5 := (hSw.cell (p := ⟨w.heap.size + 1, 0, none⟩) hl1.1 hl1.2).trans b0; have q6 := (hSw.cell (p := ⟨w.heap.size + 1, 1, none⟩) hl1.1 hl1.2).trans b1; clear hSw; go_simp; try with_reducible rfl)
          try simp only [Act.put, List.setIfInBounds_toArray, List.set_cons_zero, List.set_cons_succ]
          refine wpAnyH_take (i := 3) (oi := _) (v := ?_) (by rw [List.getElem?_toArray]; exact rfl) (by kernel_rfl) (by kernel_rfl) (by kernel_rfl) (by exact fun _ _ _ h => h) (Or.inl ⟨by rfl, ?_⟩) hHeld ?_
          rotate_left
          · (intro wX hSw; have q0 := (hSw.cell (p := ⟨f, 0, none⟩) hlf.1 hlf.2).trans d0; have q1 := (hSw.cell (p := ⟨w.heap.size, 0, none⟩) hl0.1 hl0.2).trans a0; have q2 := (hSw.cell (p := ⟨w.heap.size, 1, none⟩) hl0.1 hl0.2).trans a1; have q3 := (hSw.cell (p := ⟨w.heap.size, 2, none⟩) hl0.1 hl0.2).trans a2; have q4 := (hSw.cell (p := ⟨w.heap.size, 3, none⟩) hl0.1 hl0.2).trans a3; have q5 := (hSw.cell (p := ⟨w.heap.size + 1, 0, none⟩) hl1.1 hl1.2).trans b0; have q6 := (hSw.cell (p := ⟨w.heap.size + 1, 1, none⟩) hl1.1 hl1.2).trans b1; clear hSw; go_simp; try with_reducible rfl)
          try simp only [Act.put, List.setIfInBounds_toArray, List.set_cons_zero, List.set_cons_succ]
          refine wpAnyH_take (i := 4) (oi := _) (v := ?_) (by rw [List.getElem?_toArray]; exact rfl) (by kernel_rfl) (by kernel_rfl) (by kernel_rfl) (by exact fun _ _ _ h => h) (Or.inl ⟨by rfl, ?_⟩) hHeld ?_
          rotate_left
          · (intro wX hSw; have q0 := (hSw.cell (p := ⟨f, 0, none⟩) hlf.1 hlf.2).trans d0; have q1 := (hSw.cell (p := ⟨w.heap.size, 0, none⟩) hl0.1 hl0.2).trans a0; have q2 := (hSw.cell (p := ⟨w.heap.size, 1, none⟩) hl0.1 hl0.2).trans a1; have q3 := (hSw.cell (p := ⟨w.heap.size, 2, none⟩) hl0.1 hl0.2).trans a2; have q4 := (hSw.cell (p := ⟨w.heap.size, 3, none⟩) hl0.1 hl0.2).trans a3; have q5 := (hSw.cell (p := ⟨w.heap.size + 1, 0, none⟩) hl1.1 hl1.2).trans b0; have q6 := (hSw.cell (p := ⟨w.heap.size + 1, 1, none⟩) hl1.1 hl1.2).trans b1; clear hSw; go_simp; try with_reducible rfl)
          try simp only [Act.put, List.setIfInBounds_toArray, List.set_cons_zero, List.set_cons_succ]
          refine wpAnyH_take (i := 5) (oi := _) (v := ?_) (by rw [List.getElem?_toArray]; exact rfl) (by kernel_rfl) (by kernel_rfl) (by kernel_rfl) (by exact fun _ _ _ h => h) (Or.inl ⟨by rfl, ?_⟩) hHeld ?_
          rotate_left
          · (intro wX hSw; have q0 := (hSw.cell (p := ⟨f, 0, none⟩) hlf.1 hlf.2).trans d0; have q1 := (hSw.cell (p := ⟨w.heap.size, 0, none⟩) hl0.1 hl0.2).trans a0; have q2 := (hSw.cell (p := ⟨w.heap.size, 1, none⟩) hl0.1 hl0.2).trans a1; have q3 := (hSw.cell (p := ⟨w.heap.size, 2, none⟩) hl0.1 hl0.2).trans a2; have q4 := (hSw.cell (p := ⟨w.heap.size, 3, none⟩) hl0.1 hl0.2).trans a3; have q5 := (hSw.cell (p := ⟨w.heap.size + 1, 0, none⟩) hl1.1 hl1.2).trans b0; have q6 := (hSw.cell (p := ⟨w.heap.size + 1, 1, none⟩) hl1.1 hl1.2).trans b1; clear hSw; go_simp; try with_reducible rfl)
          try simp only [Act.put, List.setIfInBounds_toArray, List.set_cons_zero, List.set_cons_succ]
          refine wpAnyH_take (i := 6) (oi := _) (v := ?_) (by rw [List.getElem?_toArray]; exact rfl) (by kernel_rfl) (by kernel_rfl) (by kernel_rfl) (by exact fun _ _ _ h => h) (Or.inl ⟨by rfl, ?_⟩) hHeld ?_
          rotate_left
          · (intro wX hSw; have q0 := (hSw.cell (p := ⟨f, 0, none⟩) hlf.1 hlf.2).trans d0; have q1 := (hSw.cell (p := ⟨w.heap.size, 0, none⟩) hl0.1 hl0.2).trans a0; have q2 := (hSw.cell (p := ⟨w.heap.size, 1, none⟩) hl0.1 hl0.2).trans a1; have q3 := (hSw.cell (p := ⟨w.heap.size, 2, none⟩) hl0.1 hl0.2).trans a2; have q4 := (hSw.cell (p := ⟨w.heap.size, 3, none⟩) hl0.1 hl0.2).trans a3; have q5 := (hSw.cell (p := ⟨w.heap.size + 1, 0, none⟩) hl1.1 hl1.2).trans b0; have q6 := (hSw.cell (p := ⟨w.heap.size + 1, 1, none⟩) hl1.1 hl1.2).trans b1; clear hSw; go_simp; try with_reducible rfl)
          try simp only [Act.put, List.setIfInBounds_toArray, List.set_cons_zero, List.set_cons_succ]
          refine wpAnyH_take (i := 7) (oi := _) (v := ?_) (by rw [List.getElem?_toArray]; exact rfl) (by kernel_rfl) (by kernel_rfl) (by kernel_rfl) (by exact fun _ _ _ h => h) (Or.inl ⟨by rfl, ?_⟩) hHeld ?_
          rotate_left
          · (intro wX hSw; have q0 := (hSw.cell (p := ⟨f, 0, none⟩) hlf.1 hlf.2).trans d0; have q1 := (hSw.cell (p := ⟨w.heap.size, 0, none⟩) hl0.1 hl0.2).trans a0; have q2 := (hSw.cell (p := ⟨w.heap.size, 1, none⟩) hl0.1 hl0.2).trans a1; have q3 := (hSw.cell (p := ⟨w.heap.size, 2, none⟩) hl0.1 hl0.2).trans a2; have q4 := (hSw.cell (p := ⟨w.heap.size, 3, none⟩) hl0.1 hl0.2).trans a3; have q5 := (hSw.cell (p := ⟨w.heap.size + 1, 0, none⟩) hl1.1 hl1.2).trans b0; have q6 := (hSw.cell (p := ⟨w.heap.size + 1, 1, none⟩) hl1.1 hl1.2).trans b1; clear hSw; go_simp; try with_reducible rfl)
          try simp only [Act.put, List.setIfInBounds_toArray, List.set_cons_zero, List.set_cons_succ]
          refine wpAnyH_take (i := 8) (oi := _) (v := ?_) (by rw [List.getElem?_toArray]; exact rfl) (by kernel_rfl) (by kernel_rfl) (by kernel_rfl) (by exact fun _ _ _ h => h) (Or.inl ⟨by rfl, ?_⟩) hHeld ?_
          rotate_left
          · (intro wX hSw; have q0 := (hSw.cell (p := ⟨f, 0, none⟩) hlf.1 hlf.2).trans d0; have q1 := (hSw.cell (p := ⟨w.heap.size, 0, none⟩) hl0.1 hl0.2).trans a0; have q2 := (hSw.cell (p := ⟨w.heap.size, 1, none⟩) hl0.1 hl0.2).trans a1; have q3 := (hSw.cell (p := ⟨w.heap.size, 2, none⟩) hl0.1 hl0.2).trans a2; have q4 := (hSw.cell (p := ⟨w.heap.size, 3, none⟩) hl0.1 hl0.2).trans a3; have q5 := (hSw.cell (p := ⟨w.heap.size + 1, 0, none⟩) hl1.1 hl1.2).trans b0; have q6 := (hSw.cell (p := ⟨w.heap.size + 1, 1, none⟩) hl1.1 hl1.2).trans b1; clear hSw; go_simp; try with_reducible rfl)
          try simp only [Act.put, List.setIfInBounds_toArray, List.set_cons_zero, List.set_cons_succ]
          refine wpAnyH_ready (rs := [9]) (by kernel_rfl) (by simp) ?_
          refine AllReadyH.cons (o := _) (by rw [List.getElem?_toArray]; exact rfl) (fun K hK => ?_) ?_
          · go_simp
            refine hK.out _ _ (hHeld.alloc _) (fun hHeld => ?_)
            clear hK K
            try simp only [Act.put, List.setIfInBounds_toArray, List.set_cons_zero, List.set_cons_succ]
            refine wpAnyH_ready (rs := [10]) (by kernel_rfl) (by simp) ?_
            refine AllReadyH.cons (o := _) (by rw [List.getElem?_toArray]; exact rfl) (fun K hK => ?_) ?_
            · obtain ⟨w9, hrun, hM, hO⟩ := (HTD.out.map.block (Below.heap_alloc wd (rowO (job, p) ⟨fn, aa, ac, l, fuel, 1, 0, 0⟩) _ HTD.out.lt.2.1)).update (P := Try.prog) nameTy Try.underlying65 (job, p) wd.heap.size
              unfold rowO encN evP at hrun
              go_simp
              refine hK.out _ _ (hHeld.only hO rfl) (fun hHeld => ?_)
              clear hK K
              try simp only [Act.put, List.setIfInBounds_toArray, List.set_cons_zero, List.set_cons_succ]
              refine wpAnyH_done (by kernel_rfl) ?_ _
              have HT := Lib.hid (HTD.out.more (r := ⟨fn, aa, ac, l, fuel, 1, 0, 0⟩) HG.out HOD.out hM hO)
              have HF := Lib.hid ((Fr.of_below HA5.out).trans hHeld)
              have hbs : w.heap.size ≤ wd.heap.size := HAD.out.size
              clear hHeld hM hO hrun HTD HOD HAD HA5 HG
              go_wp2_with fail
              go_ret
              exact ⟨ret_intE he.out.symm, .inr ⟨he.out, wd.heap.size, aa, ac, hbs, HT.out, HF.out⟩⟩
            exact AllReadyH.nil
          exact AllReadyH.nil
      · have hpe2 : (!p.toList.isEmpty) = true := by simpa using hpe
        have HPE := Lib.hid hpe
        clear hpe
        go_wp2_with fail
        refine (above_tab f m T (job, p) w2 HH2.out hp).mono ?_
        rintro e w3 ⟨rfl, hB⟩
        have HH3 := Lib.hid (HH2.out.below hB)
        have HV3 := Lib.hid (HV2.out.below hB)
        have HA3 := Lib.hid (gthen HA2.out hB)
        have HK03 := Lib.hid ((hB.block _ hlt0).trans HK02.out)
        have HK13 := Lib.hid ((hB.block _ hlt1).trans HK12.out)
        clear hB HH2 HV2 HA2 HK02 HK12 a1 b0 b1 hlt0 hlt1
        rcases aboveP_cases T (job, p) with ⟨hu, ha⟩ | ⟨u, ub, ur, hu, _, ha⟩
        · have he := Lib.hid (show addE T (job, p) = 5 by unfold addE; rw [if_neg (by show ¬ mayS p = false; rw [HM.out]; decide), HG.out, if_neg (by decide), if_pos ⟨HPE.out, hu⟩])
          rw [ha]
          clear ha hu
          go_wp2_with fail
          go_ret
          exact ⟨ret_intE he.out.symm, .inl ⟨by rw [he.out]; decide, HH3.out, HA3.out⟩⟩
        · have HU := Lib.hid (show ¬ (((job, p) : Nm).2.toList ≠ [] ∧ upN (hasT T) (job, p) = none) from fun h => by rw [hu] at h; cases h.2)
          rw [ha]
          clear ha hu hpe2
          go_upto_region 10 with fail
          have hln := fun ty => HH3.out.map.len (P := Try.prog) (k := 29) Try.underlying65 ty
          have hll : ((mapT T).length : Int) = T.length := by unfold mapT; simp
          rw [hll] at hln
          have c0 := HH3.out.c0
          by_cases hf : 1024 ≤ T.length
          · have he := Lib.hid (show addE T (job, p) = 6 by unfold addE; rw [if_neg (by show ¬ mayS p = false; rw [HM.out]; decide), HG.out, if_neg (by decide), if_neg HU.out, if_pos hf])
            go_wp2_with fail
            go_ret
            exact ⟨ret_intE he.out.symm, .inl ⟨by rw [he.out]; decide, HH3.out, HA3.out⟩⟩
          · have he := Lib.hid (show addE T (job, p) = 0 by unfold addE; rw [if_neg (by show ¬ mayS p = false; rw [HM.out]; decide), HG.out, if_neg (by decide), if_neg HU.out, if_neg hf])
            have j0 := HK03.out
            have hlt0 := (Array.getElem?_eq_some_iff.1 j0).1
            have hlt1 := (Array.getElem?_eq_some_iff.1 HK13.out).1
            have a2 : w3.cell? ⟨w.heap.size, 2, none⟩ = some (.slice va l.length vc) := by simp [World.cell?, j0]
            clear j0
            go_wp2_with fail
            refine (clone_any _ l _ HV3.out hl).mono ?_
            rintro e w4 ⟨aa, ac, rfl, ho, hB⟩
            have hsz := hB.size
            have HB4 := Lib.hid (gthen HA3.out hB)
            have HO4 := Lib.hid ho
            have HK04 := Lib.hid ((hB.block _ hlt0).trans HK03.out)
            have HK14 := Lib.hid ((hB.block _ hlt1).trans HK13.out)
            have y2 : w4.cell? ⟨w.heap.size, 2, none⟩ = some (.slice va l.length vc) := by have := HK04.out; simp [World.cell?, this]
            have z2 : w4.frozen? ⟨w.heap.size, 2, none⟩ = false := by have := HK04.out; simp [World.frozen?, this]
            clear ho hB HV3 HK03 HK13 hln hll c0 a2 HH3 HA3
            go_upto_region 13 with fail
            have HA5 := Lib.hid (HB4.out.setCell (p := ⟨w.heap.size, 2, none⟩) (Nat.le_refl _) (.slice aa l.length ac))
            have HT5 := Lib.hid (HT0.out.below HA5.out)
            have HO5 : Hid (Args (w4.setCell ⟨w.heap.size, 2, none⟩ (.slice aa l.length ac)) ⟨fn, aa, ac, l, fuel, 1, 0, 0⟩) := owns_base (own_sets HO4.out (r := w.heap.size) (a := ⟨w.heap.size, 2, none⟩) hlt0 rfl (.slice aa l.length ac)) (Nat.zero_le _)
            have j0 := Go.heap_setCell_same w4 w.heap.size 2 _ _ (.slice aa l.length ac) HK04.out
            have j1 : (w4.setCell ⟨w.heap.size, 2, none⟩ (.slice aa l.length ac)).heap[w.heap.size + 1]? = _ := (Go.heap_setCell_other w4 ⟨w.heap.size, 2, none⟩ (w.heap.size + 1) (.slice aa l.length ac) (by show w.heap.size + 1 ≠ w.heap.size; omega)).trans HK14.out
            generalize w4.setCell ⟨w.heap.size, 2, none⟩ (.slice aa l.length ac) = w5 at *
            have d0 := HT5.out.c0
            have hlf : f < w5.heap.size ∧ ¬ f = m := ⟨HT5.out.lt.1, HT5.out.lt.2.2⟩
            have hmw := HT0.out.lt.2.1
            have hl0 : w.heap.size < w5.heap.size ∧ ¬ w.heap.size = m := ⟨(Array.getElem?_eq_some_iff.1 j0).1, by omega⟩
            have hl1 : w.heap.size + 1 < w5.heap.size ∧ ¬ w.heap.size + 1 = m := ⟨(Array.getElem?_eq_some_iff.1 j1).1, by omega⟩
            have a0 : w5.cell? ⟨w.heap.size, 0, none⟩ = some (.string p) := by simp [World.cell?, j0]
            have a1 : w5.cell? ⟨w.heap.size, 1, none⟩ = some (.int .i64 fn) := by simp [World.cell?, j0]
            have a2 : w5.cell? ⟨w.heap.size, 2, none⟩ = some (.slice aa l.length ac) := by simp [World.cell?, j0]
            have a3 : w5.cell? ⟨w.heap.size, 3, none⟩ = some (.int .i64 fuel) := by simp [World.cell?, j0]
            have b0 : w5.cell? ⟨w.heap.size + 1, 0, none⟩ = some (.int .u64 job) := by simp [World.cell?, j1]
            have b1 : w5.cell? ⟨w.heap.size + 1, 1, none⟩ = some (.string p) := by simp [World.cell?, j1]
            clear j0 j1 y2 z2 HK04 HK14 HO4 HB4 hsz hlt0 hlt1
            refine wp_region_held_drew (S := fun y => Fr (fun i => i = m) w5 y) (by kernel_rfl) ((Fr.refl _ _).drew) (fun hHeld => ?_)
            have HTD := Lib.hid (HT5.out.below ((Below.refl _ _).drew))
            have HOD := Lib.hid (Args.far HO5.out (w' := w5.drew) (fun i cur hi => rfl))
            have HAD := Lib.hid (gthen HA5.out ((Below.refl _ _).drew))
            clear HT5 HO5
            generalize w5.drew = wd at *
            refine wpAnyH_take (i := 0) (oi := _) (v := ?_) (by rw [List.getElem?_toArray]; exact rfl) (by kernel_rfl) (by kernel_rfl) (by kernel_rfl) (by exact fun _ _ _ h => h) (Or.inl ⟨by rfl, ?_⟩) hHeld ?_
            rotate_left
            · (intro wX hSw; have q0 := (hSw.cell (p := ⟨f, 0, none⟩) hlf.1 hlf.2).trans d0; have q1 := (hSw.cell (p := ⟨w.heap.size, 0, none⟩) hl0.1 hl0.2).trans a0; have q2 := (hSw.cell (p := ⟨w.heap.size, 1, none⟩) hl0.1 hl0.2).trans a1; have q3 := (hSw.cell (p := ⟨w.heap.size, 2, none⟩) hl0.1 hl0.2).trans a2; have q4 := (hSw.cell (p := ⟨w.heap.size, 3, none⟩) hl0.1 hl0.2).trans a3; have q5 := (hSw.cell (p := ⟨w.heap.size + 1, 0, none⟩) hl1.1 hl1.2).trans b0; have q6 := (hSw.cell (p := ⟨w.heap.size + 1, 1, none⟩) hl1.1 hl1.2).trans b1; clear hSw; go_simp; try with_reducible rfl)
            try simp only [Act.put, List.setIfInBounds_toArray, List.set_cons_zero, List.set_cons_succ]
            refine wpAnyH_take (i := 1) (oi := _) (v := ?_) (by rw [List.getElem?_toArray]; exact rfl) (by kernel_rfl) (by kernel_rfl) (by kernel_rfl) (by exact fun _ _ _ h => h) (Or.inl ⟨by rfl, ?_⟩) hHeld ?_
            rotate_left
            · (intro wX hSw; have q0 := (hSw.cell (p := ⟨f, 0, none⟩) hlf.1 hlf.2).trans d0; have q1 := (hSw.cell (p := ⟨w.heap.size, 0, none⟩) hl0.1 hl0.2).trans a0; have q2 := (hSw.cell (p := ⟨w.heap.size, 1, none⟩) hl0.1 hl0.2).trans a1; have q3 := (hSw.cell (p := ⟨w.heap.size, 2, none⟩) hl0.1 hl0.2).trans a2; have q4 := (hSw.cell (p := ⟨w.heap.size, 3, none⟩) hl0.1 hl0.2).trans a3; have q5 := (hSw.cell (p := ⟨w.heap.size + 1, 0, none⟩) hl1.1 hl1.2).trans b0; have q6 := (hSw.cell (p := ⟨w.heap.size + 1, 1, none⟩) hl1.1 hl1.2).trans b1; clear hSw; go_simp; try with_reducible rfl)
            try simp only [Act.put, List.setIfInBounds_toArray, List.set_cons_zero, List.set_cons_succ]
            refine wpAnyH_take (i := 2) (oi := _) (v := ?_) (by rw [List.getElem?_toArray]; exact rfl) (by kernel_rfl) (by kernel_rfl) (by kernel_rfl) (by exact fun _ _ _ h => h) (Or.inl ⟨by rfl, ?_⟩) hHeld ?_
            rotate_left
            · (intro wX hSw; have q0 := (hSw.cell (p := ⟨f, 0, none⟩) hlf.1 hlf.2).trans d0; have q1 := (hSw.cell (p := ⟨w.heap.size, 0, none⟩) hl0.1 hl0.2).trans a0; have q2 := (hSw.cell (p := ⟨w.heap.size, 1, none⟩) hl0.1 hl0.2).trans a1; have q3 := (hSw.cell (p := ⟨w.heap.size, 2, none⟩) hl0.1 hl0.2).trans a2; have q4 := (hSw.cell (p := ⟨w.heap.size, 3, none⟩) hl0.1 hl0.2).trans a3; have q5 := (hSw.cell (p := ⟨w.heap.size + 1, 0, none⟩) hl1.1 hl1.2).trans b0; have q6 := (hSw.cell (p := ⟨w.heap.size + 1, 1, none⟩) hl1.1 hl1.2).trans b1; clear hSw; go_simp; try with_reducible rfl)
            try simp only [Act.put, List.setIfInBounds_toArray, List.set_cons_zero, List.set_cons_succ]
            refine wpAnyH_take (i := 3) (oi := _) (v := ?_) (by rw [List.getElem?_toArray]; exact rfl) (by kernel_rfl) (by kernel_rfl) (by kernel_rfl) (by exact fun _ _ _ h => h) (Or.inl ⟨by rfl, ?_⟩) hHeld ?_
            rotate_left
            · (intro wX hSw; have q0 := (hSw.cell (p := ⟨f, 0, none⟩) hlf.1 hlf.2).trans d0; have q1 := (hSw.cell (p := ⟨w.heap.size, 0, none⟩) hl0.1 hl0.2).trans a0; have q2 := (hSw.cell (p := ⟨w.heap.size, 1, none⟩) hl0.1 hl0.2).trans a1; have q3 := (hSw.cell (p := ⟨w.heap.size, 2, none⟩) hl0.1 hl0.2).trans a2; have q4 := (hSw.cell (p := ⟨w.heap.size, 3, none⟩) hl0.1 hl0.2).trans a3; have q5 := (hSw.cell (p := ⟨w.heap.size + 1, 0, none⟩) hl1.1 hl1.2).trans b0; have q6 := (hSw.cell (p := ⟨w.heap.size + 1, 1, none⟩) hl1.1 hl1.2).trans b1; clear hSw; go_simp; try with_reducible rfl)
            try simp only [Act.put, List.setIfInBounds_toArray, List.set_cons_zero, List.set_cons_succ]
            refine wpAnyH_take (i := 4) (oi := _) (v := ?_) (by rw [List.getElem?_toArray]; exact rfl) (by kernel_rfl) (by kernel_rfl) (by kernel_rfl) (by exact fun _ _ _ h => h) (Or.inl ⟨by rfl, ?_⟩) hHeld ?_
            rotate_left
            · (intro wX hSw; have q0 := (hSw.cell (p := ⟨f, 0, none⟩) hlf.1 hlf.2).trans d0; have q1 := (hSw.cell (p := ⟨w.heap.size, 0, none⟩) hl0.1 hl0.2).trans a0; have q2 := (hSw.cell (p := ⟨w.heap.size, 1, none⟩) hl0.1 hl0.2).trans a1; have q3 := (hSw.cell (p := ⟨w.heap.size, 2, none⟩) hl0.1 hl0.2).trans a2; have q4 := (hSw.cell (p := ⟨w.heap.size, 3, none⟩) hl0.1 hl0.2).trans a3; have q5 := (hSw.cell (p := ⟨w.heap.size + 1, 0, none⟩) hl1.1 hl1.2).trans b0; have q6 := (hSw.cell (p := ⟨w.heap.size + 1, 1, none⟩) hl1.1 hl1.2).trans b1; clear hSw; go_simp; try with_reducible rfl)
            try simp only [Act.put, List.setIfInBounds_toArray, List.set_cons_zero, List.set_cons_succ]
            refine wpAnyH_take (i := 5) (oi := _) (v := ?_) (by rw [List.getElem?_toArray]; exact rfl) (by kernel_rfl) (by kernel_rfl) (by kernel_rfl) (by exact fun _ _ _ h => h) (Or.inl ⟨by rfl, ?_⟩) hHeld ?_
            rotate_left
            · (intro wX hSw; have q0 := (hSw.cell (p := ⟨f, 0, none⟩) hlf.1 hlf.2).trans d0; have q1 := (hSw.cell (p := ⟨w.heap.size, 0, none⟩) hl0.1 hl0.2).trans a0; have q2 := (hSw.cell (p := ⟨w.heap.size, 1, none⟩) hl0.1 hl0.2).trans a1; have q3 := (hSw.cell (p := ⟨w.heap.size, 2, none⟩) hl0.1 hl0.2).trans a2; have q4 := (hSw.cell (p := ⟨w.heap.size, 3, none⟩) hl0.1 hl0.2).trans a3; have q5 := (hSw.cell (p := ⟨w.heap.size + 1, 0, none⟩) hl1.1 hl1.2).trans b0; have q6 := (hSw.cell (p := ⟨w.heap.size + 1, 1, none⟩) hl1.1 hl1.2).trans b1; clear hSw; go_simp; try with_reducible rfl)
            try simp only [Act.put, List.setIfInBounds_toArray, List.set_cons_zero, List.set_cons_succ]
            refine wpAnyH_take (i := 6) (oi := _) (v := ?_) (by rw [List.getElem?_toArray]; exact rfl) (by kernel_rfl) (by kernel_rfl) (by kernel_rfl) (by exact fun _ _ _ h => h) (Or.inl ⟨by rfl, ?_⟩) hHeld ?_
            rotate_left
            · (intro wX hSw; have q0 := (hSw.cell (p := ⟨f, 0, none⟩) hlf.1 hlf.2).trans d0; have q1 := (hSw.cell (p := ⟨w.heap.size, 0, none⟩) hl0.1 hl0.2).trans a0; have q2 := (hSw.cell (p := ⟨w.heap.size, 1, none⟩) hl0.1 hl0.2).trans a1; have q3 := (hSw.cell (p := ⟨w.heap.size, 2, none⟩) hl0.1 hl0.2).trans a2; have q4 := (hSw.cell (p := ⟨w.heap.size, 3, none⟩) hl0.1 hl0.2).trans a3; have q5 := (hSw.cell (p := ⟨w.heap.size + 1, 0, none⟩) hl1.1 hl1.2).trans b0; have q6 := (hSw.cell (p := ⟨w.heap.size + 1, 1, none⟩) hl1.1 hl1.2).trans b1; clear hSw; go_simp; try with_reducible rfl)
            try simp only [Act.put, List.setIfInBounds_toArray, List.set_cons_zero, List.set_cons_succ]
            refine wpAnyH_take (i := 7) (oi := _) (v := ?_) (by rw [List.getElem?_toArray]; exact rfl) (by kernel_rfl) (by kernel_rfl) (by kernel_rfl) (by exact fun _ _ _ h => h) (Or.inl ⟨by rfl, ?_⟩) hHeld ?_
            rotate_left
            · (intro wX hSw; have q0 := (hSw.cell (p := ⟨f, 0, none⟩) hlf.1 hlf.2).trans d0; have q1 := (hSw.cell (p := ⟨w.heap.size, 0, none⟩) hl0.1 hl0.2).trans a0; have q2 := (hSw.cell (p := ⟨w.heap.size, 1, none⟩) hl0.1 hl0.2).trans a1; have q3 := (hSw.cell (p := ⟨w.heap.size, 2, none⟩) hl0.1 hl0.2).trans a2; have q4 := (hSw.cell (p := ⟨w.heap.size, 3, none⟩) hl0.1 hl0.2).trans a3; have q5 := (hSw.cell (p := ⟨w.heap.size + 1, 0, none⟩) hl1.1 hl1.2).trans b0; have q6 := (hSw.cell (p := ⟨w.heap.size + 1, 1, none⟩) hl1.1 hl1.2).trans b1; clear hSw; go_simp; try with_reducible rfl)
            try simp only [Act.put, List.setIfInBounds_toArray, List.set_cons_zero, List.set_cons_succ]
            refine wpAnyH_take (i := 8) (oi := _) (v := ?_) (by rw [List.getElem?_toArray]; exact rfl) (by kernel_rfl) (by kernel_rfl) (by kernel_rfl) (by exact fun _ _ _ h => h) (Or.inl ⟨by rfl, ?_⟩) hHeld ?_
            rotate_left
            · (intro wX hSw; have q0 := (hSw.cell (p := ⟨f, 0, none⟩) hlf.1 hlf.2).trans d0; have q1 := (hSw.cell (p := ⟨w.heap.size, 0, none⟩) hl0.1 hl0.2).trans a0; have q2 := (hSw.cell (p := ⟨w.heap.size, 1, none⟩) hl0.1 hl0.2).trans a1; have q3 := (hSw.cell (p := ⟨w.heap.size, 2, none⟩) hl0.1 hl0.2).trans a2; have q4 := (hSw.cell (p := ⟨w.heap.size, 3, none⟩) hl0.1 hl0.2).trans a3; have q5 := (hSw.cell (p := ⟨w.heap.size + 1, 0, none⟩) hl1.1 hl1.2).trans b0; have q6 := (hSw.cell (p := ⟨w.heap.size + 1, 1, none⟩) hl1.1 hl1.2).trans b1; clear hSw; go_simp; try with_reducible rfl)
            try simp only [Act.put, List.setIfInBounds_toArray, List.set_cons_zero, List.set_cons_succ]
            refine wpAnyH_ready (rs := [9]) (by kernel_rfl) (by simp) ?_
            refine AllReadyH.cons (o := _) (by rw [List.getElem?_toArray]; exact rfl) (fun K hK => ?_) ?_
            · go_simp
              refine hK.out _ _ (hHeld.alloc _) (fun hHeld => ?_)
              clear hK K
              try simp only [Act.put, List.setIfInBounds_toArray, List.set_cons_zero, List.set_cons_succ]
              refine wpAnyH_ready (rs := [10]) (by kernel_rfl) (by simp) ?_
              refine AllReadyH.cons (o := _) (by rw [List.getElem?_toArray]; exact rfl) (fun K hK => ?_) ?_
              · obtain ⟨w9, hrun, hM, hO⟩ := (HTD.out.map.block (Below.heap_alloc wd (rowO (job, p) ⟨fn, aa, ac, l, fuel, 1, 0, 0⟩) _ HTD.out.lt.2.1)).update (P := Try.prog) nameTy Try.underlying65 (job, p) wd.heap.size
                unfold rowO encN evP at hrun
                go_simp
                refine hK.out _ _ (hHeld.only hO rfl) (fun hHeld => ?_)
                clear hK K
                try simp only [Act.put, List.setIfInBounds_toArray, List.set_cons_zero, List.set_cons_succ]
                refine wpAnyH_done (by kernel_rfl) ?_ _
                have HT := Lib.hid (HTD.out.more (r := ⟨fn, aa, ac, l, fuel, 1, 0, 0⟩) HG.out HOD.out hM hO)
                have HF := Lib.hid ((Fr.of_below HA5.out).trans hHeld)
                have hbs : w.heap.size ≤ wd.heap.size := HAD.out.size
                clear hHeld hM hO hrun HTD HOD HAD HA5 HG
                go_wp2_with fail
                go_ret
                exact ⟨ret_intE he.out.symm, .inr ⟨he.out, wd.heap.size, aa, ac, hbs, HT.out, HF.out⟩⟩
              exact AllReadyH.nil
            exact AllReadyH.nil
end Go.Proofs.Ytpdnebimkfejoaa
