/- Put; Fork. -/
import Derived.Test.YthbkbmkcgpdedaaJoin6
namespace Go.Proofs.Ythbkbmkcgpdedaa
open Go.RowKit Go.Sort Go.Lib

def putE (T : Tb) (most : Int) (n : Nm) : Int := if mayS n.2 then addE T most n else 2
set_option maxHeartbeats 1600000 in
set_option maxRecDepth 100000 in
theorem put_tab (f m : Nat) (most : Int) (T : Tb) (job : Int) (p : ByteArray) (fn fuel : Int) (v : Value) (l : List Int) (w : World) (h : Tab w f m most T) (hv : ReadsK encI 1 w v l) (hl : l.length ≤ 1000000) (hT : T.length ≤ 1000000) (hp : p.size ≤ 9223372036854775807) :
    Calls Try.prog 9 #[.pointer (some ⟨f, 0, none⟩), .int .u64 job, .agg #[.string p, .int .i64 fn, v, .int .i64 fuel]] w fun e w' => e = .returned (.int .i64 (putE T most (job, p))) ∧
      ((putE T most (job, p) ≠ 0 ∧ Tab w' f m most T ∧ Below w.heap.size w w') ∨ (putE T most (job, p) = 0 ∧ ∃ b aa ac, w.heap.size ≤ b ∧ Tab w' f m most (T ++ [((job, p), b, ⟨fn, aa, ac, l, fuel, 1, 0, 0, 0, false⟩)]) ∧ Fr (fun i => i = m) w w')) := by
  obtain ⟨va, vc, rfl⟩ := hv.slice
  have hA : Below w.heap.size w (w.alloc (.cells #[.string p, .int .i64 fn, .slice va l.length vc, .int .i64 fuel] 38)) := (Below.refl _ _).alloc (Nat.le_refl _) _
  have j0 := heap_alloc_new w (.cells #[.string p, .int .i64 fn, .slice va l.length vc, .int .i64 fuel] 38)
  have HH := Lib.hid (h.below hA)
  have HV := Lib.hid (hv.below hA)
  have HA := Lib.hid hA
  have J0 := Lib.hid j0
  have c1 := HH.out.c1
  have hmn := mapNilT
  clear h hv hA j0
  go_enter Try.func9, Try.ntmps9
  go_wp2_with fail
  refine (may_any p _ hp).mono ?_
  rintro e wb ⟨rfl, hB⟩
  have HH2 := Lib.hid (HH.out.below hB)
  have HV2 := Lib.hid (HV.out.below hB)
  have HA2 := Lib.hid (gthen HA.out hB)
  have j2 := (hB.block _ (Array.getElem?_eq_some_iff.1 J0.out).1).trans J0.out
  clear hB HH HV HA J0 c1
  cases hm : mayS p
  · have he := Lib.hid (show putE T most (job, p) = 2 by unfold putE; simp [hm])
    clear hm
    go_wp2_with fail
    go_ret
    exact ⟨ret_intE he.out.symm, .inl ⟨by rw [he.out]; decide, HH2.out, HA2.out⟩⟩
  · have he := Lib.hid (show putE T most (job, p) = addE T most (job, p) by unfold putE; simp [hm])
    have a0 : wb.cell? ⟨w.heap.size, 0, none⟩ = some (.string p) := by simp [World.cell?, j2]
    have a1 : wb.cell? ⟨w.heap.size, 1, none⟩ = some (.int .i64 fn) := by simp [World.cell?, j2]
    have a2 : wb.cell? ⟨w.heap.size, 2, none⟩ = some (.slice va l.length vc) := by simp [World.cell?, j2]
    have a3 : wb.cell? ⟨w.heap.size, 3, none⟩ = some (.int .i64 fuel) := by simp [World.cell?, j2]
    clear hm j2
    go_wp2_with fail
    refine (add_tab f m most T job p fn fuel _ l false wb HH2.out HV2.out hl hT).mono ?_
    rintro e w2 ⟨rfl, hR⟩
    have HR := Lib.hid hR
    have HX := Lib.hid HA2.out.size
    clear hR a0 a1 a2 a3
    go_wp2_with fail
    go_ret
    refine ⟨ret_intE he.out.symm, ?_⟩
    rw [he.out]
    rcases HR.out with ⟨h1, h2, h3⟩ | ⟨h1, b, aa, ac, h2, h3, h4⟩
    · exact .inl ⟨h1, h2, gthen HA2.out h3⟩
    · exact .inr ⟨h1, b, aa, ac, Nat.le_trans HX.out h2, h3, (Fr.of_below HA2.out).trans h4⟩

def forkE (T : Tb) (most : Int) (pn : Nm) (p : ByteArray) : Int := if (ofV T pn [2]).2 ≠ 0 then (ofV T pn [2]).2 else if mayS p && parB p && decide (parS p = pn.2) then addE T most (pn.1, p) else 2
theorem getL_app {V : Type} {l : List (Nm × V)} {n : Nm} {v : V} (h : getL l n = some v) (m : List (Nm × V)) : getL (l ++ m) n = some v := by
  unfold getL at h ⊢
  rw [List.find?_append]
  cases hf : l.find? (fun p => decide (p.1 = n)) with
  | none => rw [hf] at h; cases h
  | some p => rw [hf] at h; exact h
theorem row_open7 {w : World} {b : Nat} {n : Nm} {r : Rw} (h : w.heap[b]? = some (rowO n r)) (s : Int) : (w.setCell ⟨b, 7, none⟩ (.int .i64 s)).heap[b]? = some (rowO n { r with op := s }) := by
  unfold rowO at h ⊢; exact Go.heap_setCell_same w b 7 _ _ _ h
set_option maxHeartbeats 3200000 in
set_option maxRecDepth 100000 in
theorem fork_tab (f m : Nat) (most : Int) (T : Tb) (pn : Nm) (p : ByteArray) (fn fuel : Int) (v : Value) (l : List Int) (w : World) (h : Tab w f m most T) (hv : ReadsK encI 1 w v l) (hl : l.length ≤ 1000000) (hT : T.length ≤ 1000000) (hp : p.size ≤ 9223372036854775807)
    (hop : ∀ q ∈ T, 0 ≤ q.2.2.op ∧ q.2.2.op ≤ 1000000) :
    Calls Try.prog 12 #[.pointer (some ⟨f, 0, none⟩), .agg #[.int .u64 pn.1, .string pn.2], .agg #[.string p, .int .i64 fn, v, .int .i64 fuel]] w fun e w' => e = .returned (.int .i64 (forkE T most pn p)) ∧
      ((forkE T most pn p ≠ 0 ∧ Tab w' f m most T ∧ Below w.heap.size w w') ∨ (forkE T most pn p = 0 ∧ ∃ b r b2 aa ac, getL T pn = some (b, r) ∧ r.st ∈ [(2 : Int)] ∧ w.heap.size ≤ b2 ∧
        Tab w' f m most (updT (T ++ [((pn.1, p), b2, ⟨fn, aa, ac, l, fuel, 1, 0, 0, 0, true⟩)]) pn { r with op := r.op + 1 }) ∧ Fr (fun i => i = m ∨ i = b) w w')) := by
  obtain ⟨va, vc, rfl⟩ := hv.slice
  have hA : Below w.heap.size w ((w.alloc (.cells #[.int .u64 pn.1, .string pn.2] 35)).alloc (.cells #[.string p, .int .i64 fn, .slice va l.length vc, .int .i64 fuel] 38)) := ((Below.refl _ _).alloc (Nat.le_refl _) _).alloc (by simp) _
  have j1 := heap_alloc_new (w.alloc (.cells #[.int .u64 pn.1, .string pn.2] 35)) (.cells #[.string p, .int .i64 fn, .slice va l.length vc, .int .i64 fuel] 38)
  rw [show (w.alloc (.cells #[.int .u64 pn.1, .string pn.2] 35)).heap.size = w.heap.size + 1 by simp] at j1
  have n1 : ((w.alloc (.cells #[.int .u64 pn.1, .string pn.2] 35)).alloc (.cells #[.string p, .int .i64 fn, .slice va l.length vc, .int .i64 fuel] 38)).cell? ⟨w.heap.size, 0, none⟩ = some (.int .u64 pn.1) := by simp
  have n2 : ((w.alloc (.cells #[.int .u64 pn.1, .string pn.2] 35)).alloc (.cells #[.string p, .int .i64 fn, .slice va l.length vc, .int .i64 fuel] 38)).cell? ⟨w.heap.size, 1, none⟩ = some (.string pn.2) := by simp
  have HH := Lib.hid (h.below hA)
  have HV := Lib.hid (hv.below hA)
  have HA := Lib.hid hA
  have J1 := Lib.hid j1
  have HOP := Lib.hid hop
  clear h hv hA j1 hop
  go_enter Try.func12, Try.ntmps12
  generalize hwa : (w.alloc (.cells #[.int .u64 pn.1, .string pn.2] 35)).alloc (.cells #[.string p, .int .i64 fn, .slice va l.length vc, .int .i64 fuel] 38) = wa at *
  go_upto_region 1 with fail
  clear hwa
  have hB1 : Below wa.heap.size wa (wa.alloc (.cells #[.int .u8 2] 5)) := (Below.refl _ _).alloc (Nat.le_refl _) _
  go_wp2_with fail
  refine (of_tab f m most T pn [2] _ _ (HH.out.below hB1) (reads_one wa 2 5) (by decide)).mono ?_
  rintro e w2 ⟨rfl, hB⟩
  have hBB := gthen hB1 hB
  replace HH := Lib.hid (HH.out.below hBB)
  replace HV := Lib.hid (HV.out.below hBB)
  replace HA := Lib.hid (gthen HA.out hBB)
  have j2 := (hBB.block _ (Array.getElem?_eq_some_iff.1 J1.out).1).trans J1.out
  replace n1 := cell_keep hBB n1
  replace n2 := cell_keep hBB n2
  clear hB hB1 hBB J1
  rcases ofV_cases T pn [2] with ⟨h1, h2⟩ | ⟨b, r, hg, hs, ho⟩
  · have he := Lib.hid (show forkE T most pn p = (ofV T pn [2]).2 by unfold forkE; rw [if_pos h1])
    have H1 := Lib.hid h1
    rw [h2]
    clear h2 n1 n2 j2
    generalize hcc : (ofV T pn [2]).2 = c at *
    clear hcc
    go_wp2_with fail
    go_ret
    exact ⟨ret_intE he.out.symm, .inl ⟨by rw [he.out]; exact H1.out, HH.out, HA.out⟩⟩
  · have hE0 : Hid (forkE T most pn p = if mayS p && parB p && decide (parS p = pn.2) then addE T most (pn.1, p) else 2) := by show _ = _; unfold forkE; rw [ho]; rfl
    have HG := Lib.hid hg
    have HS := Lib.hid hs
    rw [ho]
    clear ho hg hs
    have a0 : w2.cell? ⟨w.heap.size + 1, 0, none⟩ = some (.string p) := by simp [World.cell?, j2]
    have a1 : w2.cell? ⟨w.heap.size + 1, 1, none⟩ = some (.int .i64 fn) := by simp [World.cell?, j2]
    have a2 : w2.cell? ⟨w.heap.size + 1, 2, none⟩ = some (.slice va l.length vc) := by simp [World.cell?, j2]
    have a3 : w2.cell? ⟨w.heap.size + 1, 3, none⟩ = some (.int .i64 fuel) := by simp [World.cell?, j2]
    clear j2
    go_wp2_with fail
    refine (parent_any p _ hp).mono ?_
    rintro e w3 ⟨rfl, hB⟩
    replace HH := Lib.hid (HH.out.below hB)
    replace HV := Lib.hid (HV.out.below hB)
    replace HA := Lib.hid (gthen HA.out hB)
    replace n1 := cell_keep hB n1; replace n2 := cell_keep hB n2; replace a0 := cell_keep hB a0; replace a1 := cell_keep hB a1; replace a2 := cell_keep hB a2; replace a3 := cell_keep hB a3
    clear hB
    go_wp2_with fail
    refine (may_any p _ hp).mono ?_
    rintro e w4 ⟨rfl, hB⟩
    replace HH := Lib.hid (HH.out.below hB)
    replace HV := Lib.hid (HV.out.below hB)
    replace HA := Lib.hid (gthen HA.out hB)
    replace n1 := cell_keep hB n1; replace n2 := cell_keep hB n2; replace a0 := cell_keep hB a0; replace a1 := cell_keep hB a1; replace a2 := cell_keep hB a2; replace a3 := cell_keep hB a3
    clear hB
    by_cases hall : (mayS p && parB p && decide (parS p = pn.2)) = true
    · have he := Lib.hid (hE0.out.trans (if_pos hall))
      simp only [Bool.and_eq_true, decide_eq_true_eq] at hall
      obtain ⟨⟨hm, hpb⟩, hps⟩ := hall
      have hbs : (parS p).toList = pn.2.toList := by rw [hps]
      rw [hm, hpb]
      clear hE0
      have HPS := Lib.hid hps
      clear hm hpb hps
      go_wp2_with fail
      refine (add_tab f m most T pn.1 p fn fuel _ l true w4 HH.out HV.out hl hT).mono ?_
      rintro e w5 ⟨rfl, hR⟩
      clear n1 n2 a0 a1 a2 a3 hbs
      rcases hR with ⟨h1, h2, h3⟩ | ⟨h1, b2, aa, ac, h2, h3, h4⟩
      · have H1 := Lib.hid h1
        have H2 := Lib.hid h2
        have H3 := Lib.hid (gthen HA.out h3)
        clear h2 h3
        generalize addE T most (pn.1, p) = c at *
        go_wp2_with fail
        go_ret
        exact ⟨ret_intE he.out.symm, .inl ⟨by rw [he.out]; exact H1.out, H2.out, H3.out⟩⟩
      · have hg2 := getL_app HG.out [((pn.1, p), b2, (⟨fn, aa, ac, l, fuel, 1, 0, 0, 0, true⟩ : Rw))]
        have hrow := (h3.at hg2).1
        have hopb := HOP.out _ (getL_mem' HG.out)
        have k7 : w5.cell? ⟨b, 7, none⟩ = some (.int .i64 r.op) := row_cells hrow 7
        have z7 : w5.frozen? ⟨b, 7, none⟩ = false := row_open hrow 7
        have H3 := Lib.hid (h3.set (r' := { r with op := r.op + 1 }) hg2 (fr_set w5 b 7 (.int .i64 (r.op + 1))) (row_open7 hrow (r.op + 1)) ⟨rfl, rfl, rfl⟩)
        have H4 := Lib.hid ((((Fr.of_below HA.out).trans h4).mono (T := fun i => i = m ∨ i = b) (fun i hi => .inl hi)).trans ((fr_set w5 b 7 (.int .i64 (r.op + 1))).mono (fun i hi => .inr hi)))
        have H5 := Lib.hid (Nat.le_trans HA.out.size h2)
        have H1 := Lib.hid h1
        rw [h1]
        clear h1 h2 h3 h4 hg2 hrow
        obtain ⟨ov, hov⟩ : ∃ ov, r.op = ov := ⟨_, rfl⟩
        rw [hov] at k7 hopb
        go_wp2_with fail
        subst hov
        go_ret
        exact ⟨ret_intE (he.out.trans H1.out).symm, .inr ⟨he.out.trans H1.out, b, r, b2, aa, ac, HG.out, HS.out, H5.out, H3.out, H4.out⟩⟩
    · have he := Lib.hid (hE0.out.trans (if_neg hall))
      clear hE0 a0 a1 a2 a3
      cases hm : mayS p
      · clear hall
        go_wp2_with fail
        go_ret
        exact ⟨ret_intE he.out.symm, .inl ⟨by rw [he.out]; decide, HH.out, HA.out⟩⟩
      · cases hpb : parB p
        · clear hall
          go_wp2_with fail
          go_ret
          exact ⟨ret_intE he.out.symm, .inl ⟨by rw [he.out]; decide, HH.out, HA.out⟩⟩
        · rw [hm, hpb] at hall
          have hps : ¬ parS p = pn.2 := by simpa using hall
          have hbs : ((parS p).toList == pn.2.toList) = false := beq_eq_false_iff_ne.2 fun e => hps (by
            rw [ByteArray.toList_eq, ByteArray.toList_eq] at e
            exact ByteArray.ext (Array.toList_inj.1 e))
          clear hall hps
          go_wp2_with fail
          go_ret
          exact ⟨ret_intE he.out.symm, .inl ⟨by rw [he.out]; decide, HH.out, HA.out⟩⟩
end Go.Proofs.Ythbkbmkcgpdedaa
