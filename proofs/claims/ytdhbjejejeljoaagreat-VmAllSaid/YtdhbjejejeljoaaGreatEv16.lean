/- Contracts: eval.Tree, eval.Eval. -/
import Derived.Test.YtdhbjejejeljoaaGreatEv15
namespace Go.Proofs.YtdhbjejejeljoaaGreat
open Go.RowKit Go.Sort Go.Lib

theorem do_all {Z W m : Nat} {pv : Value} {p : List Fnc} (hp : WfP p) (hpl : ProgLow Z pv p) : ∀ n : Nat, DoC Z W m pv p (doP p n) n
  | 0 => fun t _ _ _ _ _ ht h _ _ _ _ _ _ => by have := ht.u0; omega
  | n + 1 => do_step hp hpl (do_all hp hpl n)
/-- A tree that the call made. -/
def TreeAt (B : Nat) (w : World) (v : Value) (L : List Dn) : Prop := ∃ l : List DnA, l.map (·.1) = L ∧ w.ownsRow B DoneT 7 v l.length (l.flatMap encDn) ∧ ∀ d ∈ l, ArgsAt B w d
theorem TreeAt.below {B : Nat} {w w' : World} {v : Value} {L : List Dn} (h : TreeAt B w v L) (hB : Below w.heap.size w w') : TreeAt B w' v L := by
  obtain ⟨l, h1, h2, h3⟩ := h
  exact ⟨l, h1, own_below h2 hB, fun d hd => own_below (h3 d hd) hB⟩
/-- The task of the document's Root. -/
def rootT (l : List Int) (fuel : Int) : Tk := ⟨⟨#[]⟩, 0, l, fuel⟩
/-- What Tree answers. -/
def treeE (p : List Fnc) (l : List Int) (fuel most : Int) : Int :=
  if rootE p l.length fuel ≠ 0 then rootE p l.length fuel else if most < (doP p (fuel.toNat + 1) (rootT l fuel)).2.length then 134 else 0
def treeL (p : List Fnc) (l : List Int) (fuel most : Int) : List Dn := if treeE p l fuel most = 0 then (doP p (fuel.toNat + 1) (rootT l fuel)).2 else []
def TreeP (B : Nat) (w0 : World) (p : List Fnc) (l : List Int) (fuel most : Int) (e : Ending) (w' : World) : Prop :=
  Below w0.heap.size w0 w' ∧ ∃ v, e = .returned (.tuple #[v, .int .i64 (treeE p l fuel most)]) ∧ TreeAt B w' v (treeL p l fuel most)
theorem rootT_ok {p : List Fnc} {l : List Int} {fuel : Int} (h : rootE p l.length fuel = 0) : WfP p ∧ TkOk p (rootT l fuel) := by
  unfold rootE at h
  split at h
  · rename_i h1; exact absurd h h1
  rename_i h1
  split at h
  · rename_i h2
    have h3 : inputE p l.length = 0 := by simpa using h1
    unfold inputE at h3
    split at h3
    · rename_i h4; exact absurd h3 h4
    rename_i h4
    split at h3
    · rename_i h5
      have h6 := progE_ok (p := p) (by simpa using h4)
      exact ⟨h6.1, ⟨by show (0 : Int) ≤ 0; omega, by show (0 : Int) < p.length; omega, h5, h2.1, h2.2, by show (0 : Nat) ≤ 100; omega⟩⟩
    · cases h3
  · cases h
set_option maxHeartbeats 3200000 in
set_option maxRecDepth 100000 in
theorem tree_any (pv : Value) (p : List Fnc) (v : Value) (l : List Int) (fuel most : Int) (w : World) (hp : ProgAt w pv p) (hv : ReadsK encN1 1 w v l) (hn : l.length ≤ 1000) :
    Calls Tryz.prog 6 #[.agg #[pv], v, .int .i64 fuel, .int .i64 most] w (TreeP w.heap.size w p l fuel most) := by
  obtain ⟨pa, pc, rfl⟩ := hp.fns.slice
  obtain ⟨va, vc, rfl⟩ := hv.slice
  have hA : Below w.heap.size w (w.alloc (.cells #[.slice pa p.length pc] 24)) := (Below.refl _ _).alloc (Nat.le_refl _) _
  have hb : BoxAt (w.alloc (.cells #[.slice pa p.length pc] 24)) w.heap.size #[.slice pa p.length pc] 24 := heap_alloc_new _ _
  have HA := Lib.hid hA
  have HB := Lib.hid hb
  have HP := Lib.hid hp
  have HV := Lib.hid hv
  obtain ⟨re, hre⟩ : ∃ re, rootE p l.length fuel = re := ⟨_, rfl⟩
  have HRE := Lib.hid hre
  clear hp hv hA hb hre
  go_enter Tryz.func6, Tryz.ntmps6
  go_wp2_with fail
  refine (root_any (err := re) _ p _ l fuel _ (HP.out.below HA.out) (HV.out.below HA.out) hn HRE.out).mono ?_
  rintro e w1 ⟨hB1, hr⟩
  have HB1 := Lib.hid (gthen HA.out hB1)
  have HPB := Lib.hid (HB.out.below hB1)
  by_cases h0 : re = 0
  · rw [if_pos h0] at hr
    obtain ⟨aa, ac, rfl, hown⟩ := hr
    have hne : (re != 0) = false := by simp [h0]
    have HR0 := Lib.hid (HRE.out.trans h0)
    have HOWN := Lib.hid (owns_base hown HA.out.size)
    clear hown hB1 h0
    have HT2 := Lib.hid (show BoxAt (w1.alloc (.cells (taC ⟨#[]⟩ 0 (.slice aa l.length ac) fuel) TaskT)) w1.heap.size (taC ⟨#[]⟩ 0 (.slice aa l.length ac) fuel) TaskT from heap_alloc_new _ _)
    have HB2 := Lib.hid (show Below w1.heap.size w1 (w1.alloc (.cells (taC ⟨#[]⟩ 0 (.slice aa l.length ac) fuel) TaskT)) from (Below.refl _ _).alloc (Nat.le_refl _) _)
    go_wp2_with fail
    go_upto_region 4 with fail
    simp only [taC] at HT2 HB2
    obtain ⟨w2, hw2⟩ : ∃ w2, w1.alloc (.cells #[.string ⟨#[]⟩, .int .i64 0, .slice aa l.length ac, .int .i64 fuel] TaskT) = w2 := ⟨_, rfl⟩
    rw [hw2] at HT2 HB2 ⊢
    clear hw2
    have HF2 := Lib.hid (gthen HB1.out HB2.out)
    have HPB2 := Lib.hid (HPB.out.below HB2.out)
    have HOWN2 := Lib.hid (own_below HOWN.out HB2.out)
    obtain ⟨kb, hkb⟩ : ∃ kb, w1.heap.size = kb := ⟨_, rfl⟩
    rw [hkb] at HT2 ⊢
    clear hkb
    refine wp_region_held_drew (S := fun y => Below w2.heap.size w2 y) (by kernel_rfl) ((Below.refl _ _).drew) (fun hHeld => ?_)
    refine wpAnyH_take (i := 0) (oi := _) (v := ?_) (by rw [List.getElem?_toArray]; exact rfl) (by kernel_rfl) (by kernel_rfl) (by kernel_rfl) (by exact fun _ _ _ h => h) (Or.inl ⟨by rfl, ?_⟩) hHeld ?_
    rotate_left
    · (intro wX hSw; have z0 := (HPB2.out.below hSw).cell 0; simp only [List.getElem?_toArray, List.getElem?_cons_zero] at z0; clear hSw; go_simp; try with_reducible rfl)
    try simp only [Act.put, List.setIfInBounds_toArray, List.set_cons_zero, List.set_cons_succ]
    refine wpAnyH_ready (rs := [1]) (by kernel_rfl) (by simp) ?_
    refine AllReadyH.cons (o := _) (by rw [List.getElem?_toArray]; exact rfl) (fun K hK => ?_) ?_
    · go_simp
      refine (calcs_any _).mono ?_; rintro e wm ⟨m, rfl, hM, hBm, hml⟩
      have HM := Lib.hid hM
      have HML := Lib.hid hml
      have HBM := Lib.hid (show Below w2.heap.size w2 wm from gthen (show Below w2.heap.size w2 w2.drew from (Below.refl _ _).drew) hBm)
      clear hM
      go_wp2_with fail
      refine hK.out _ _ (gthen hHeld hBm) (fun hHeld => ?_)
      clear hK K
      try simp only [Act.put, List.setIfInBounds_toArray, List.set_cons_zero, List.set_cons_succ]
      refine wpAnyH_take (i := 2) (oi := _) (v := ?_) (by rw [List.getElem?_toArray]; exact rfl) (by kernel_rfl) (by kernel_rfl) (by kernel_rfl) (by exact fun _ _ _ h => h) (Or.inl ⟨by rfl, ?_⟩) hHeld ?_
      rotate_left
      · (intro wX hSw; clear hSw; go_simp; try with_reducible rfl)
      try simp only [Act.put, List.setIfInBounds_toArray, List.set_cons_zero, List.set_cons_succ]
      refine wpAnyH_ready (rs := [3]) (by kernel_rfl) (by simp) ?_
      refine AllReadyH.cons (o := _) (by rw [List.getElem?_toArray]; exact rfl) (fun K hK => ?_) ?_
      · go_simp
        refine hK.out _ _ (hHeld.alloc hHeld.size _) (fun hHeld => ?_)
        clear hK K
        try simp only [Act.put, List.setIfInBounds_toArray, List.set_cons_zero, List.set_cons_succ]
        refine wpAnyH_take (i := 4) (oi := _) (v := ?_) (by rw [List.getElem?_toArray]; exact rfl) (by kernel_rfl) (by kernel_rfl) (by kernel_rfl) (by exact fun _ _ _ h => h) (Or.inl ⟨by rfl, ?_⟩) hHeld ?_
        rotate_left
        · (intro wX hSw; clear hSw; go_simp; try with_reducible rfl)
        try simp only [Act.put, List.setIfInBounds_toArray, List.set_cons_zero, List.set_cons_succ]
        refine wpAnyH_done (by kernel_rfl) ?_ _
        have HW3 := Lib.hid (show BoxAt (wm.alloc (.cells #[.slice pa p.length pc, .map (some m), .slice none 0 0] WorldT)) wm.heap.size #[.slice pa p.length pc, .map (some m), .slice none 0 0] WorldT from heap_alloc_new _ _)
        have HA3 := Lib.hid (show Below wm.heap.size wm (wm.alloc (.cells #[.slice pa p.length pc, .map (some m), .slice none 0 0] WorldT)) from (Below.refl _ _).alloc (Nat.le_refl _) _)
        have HLE := Lib.hid (show w.heap.size ≤ wm.heap.size from (gthen HF2.out HBM.out).size)
        have HM3 := Lib.hid (HM.out.block (HA3.out.block _ HM.out.lt))
        have HK3 := Lib.hid ((HT2.out.below HBM.out).below HA3.out)
        have HO3 := Lib.hid (own_below (own_below HOWN2.out HBM.out) HA3.out)
        have HF3 := Lib.hid (gthen (gthen HF2.out HBM.out) HA3.out)
        have HLT := Lib.hid (show wm.heap.size < (wm.alloc (.cells #[.slice pa p.length pc, .map (some m), .slice none 0 0] WorldT)).heap.size by simp)
        clear hHeld hBm hml HT2 HB2 HF2 HPB2 HOWN2 HM HML HBM HA3
        generalize wm.alloc (.cells #[.slice pa p.length pc, .map (some m), .slice none 0 0] WorldT) = w3 at *
        generalize wm.heap.size = Wb at *
        have t0 := HK3.out.cell 0; have t1 := HK3.out.cell 1; have t2 := HK3.out.cell 2; have t3 := HK3.out.cell 3
        simp only [List.getElem?_toArray, List.getElem?_cons_zero, List.getElem?_cons_succ] at t0 t1 t2 t3
        obtain ⟨hwf, htk⟩ := rootT_ok HR0.out
        have HDO := Lib.hid (show Calls Tryz.prog 21 #[.pointer (some ⟨Wb, 0, none⟩), .agg #[.string ⟨#[]⟩, .int .i64 0, .slice aa l.length ac, .int .i64 fuel]] w3 (DoP w.heap.size Wb m (.slice pa p.length pc) (.slice none 0 0) [] (doP p (fuel.toNat + 1)) (rootT l fuel) aa ac w3) from by
          have hf0 := htk.u0
          have hf1 := htk.u1
          have hfe : (rootT l fuel).fuel = fuel := rfl
          rw [hfe] at hf0 hf1
          exact do_all hwf HP.out.low (fuel.toNat + 1) (rootT l fuel) aa ac (.slice none 0 0) [] w3 htk (by rw [hfe]; omega) ⟨HW3.out, World.ownsRow_nil _ _ _ _, HM3.out, by simp, HLE.out⟩ (HP.out.below HF3.out) HLT.out HF3.out.size HO3.out (by rw [hfe]; simp; omega))
        clear hwf htk
        go_wp2_with fail
        refine HDO.out.mono ?_
        rintro e w4 ⟨rfl, dv', k, nd, hg, hF, _, hdn, hkt, _⟩
        have HB4 := Lib.hid (HF3.out.trans ((hF.below (B := w.heap.size) (fun i hi => by
          rcases hi with hi | hi
          · have := HLE.out; omega
          · cases hi) HF3.out.size)))
        have HG4 := Lib.hid hg
        obtain ⟨ga, gc, hdv⟩ := own_slice hg.own
        subst hdv
        have w2c := hg.box.cell 2
        simp only [List.getElem?_toArray, List.getElem?_cons_zero, List.getElem?_cons_succ] at w2c
        obtain ⟨N, hN⟩ : ∃ N, ([] ++ (k, aa, ac) :: nd : List DnA).length = N := ⟨_, rfl⟩
        rw [hN] at w2c HG4
        have HNN := Lib.hid hN
        have HDN := Lib.hid hdn
        have HLN := Lib.hid (show ((doP p (fuel.toNat + 1) (rootT l fuel)).2.length : Int) = N from by rw [hdn, ← hN]; simp)
        clear hg hF hdn hkt hN t0 t1 t2 t3
        have h9 : (0 : Int) ≤ N := by omega
        by_cases hm : most < (N : Int)
        · have HT := Lib.hid (show treeE p l fuel most = 134 ∧ treeL p l fuel most = [] from by
            have h1 : treeE p l fuel most = 134 := by unfold treeE; rw [if_neg (fun h => h HR0.out), HLN.out, if_pos hm]
            exact ⟨h1, by unfold treeL; rw [h1, if_neg (by decide)]⟩)
          go_wp2_with fail
          go_ret2
          refine ⟨HB4.out, _, ret_two rfl (vi HT.out.1.symm), ?_⟩
          rw [HT.out.2]
          exact ⟨[], rfl, World.ownsRow_nil _ _ _ _, by simp⟩
        · have HT := Lib.hid (show treeE p l fuel most = 0 ∧ treeL p l fuel most = (doP p (fuel.toNat + 1) (rootT l fuel)).2 from by
            have h1 : treeE p l fuel most = 0 := by unfold treeE; rw [if_neg (fun h => h HR0.out), HLN.out, if_neg hm]
            exact ⟨h1, by unfold treeL; rw [h1, if_pos rfl]⟩)
          go_wp2_with fail
          go_ret2
          refine ⟨HB4.out, _, ret_two rfl (vi HT.out.1.symm), ?_⟩
          rw [HT.out.2]
          exact ⟨(k, aa, ac) :: nd, HDN.out.symm, by have h1 := HG4.out.own; exact h1, HG4.out.args⟩
      exact AllReadyH.nil
    exact AllReadyH.nil
  · rw [if_neg h0] at hr
    subst hr
    have hne : (re != 0) = true := by simpa using h0
    have HT := Lib.hid (show treeE p l fuel most = re ∧ treeL p l fuel most = [] from by
      have h1 : treeE p l fuel most = re := by unfold treeE; rw [HRE.out, if_pos h0]
      exact ⟨h1, by unfold treeL; rw [h1, if_neg h0]⟩)
    unfold noTask
    clear hB1 h0
    go_wp2_with fail
    go_ret2
    refine ⟨HB1.out.alloc HB1.out.size _, _, ret_two rfl (vi HT.out.1.symm), ?_⟩
    rw [HT.out.2]
    exact ⟨[], rfl, World.ownsRow_nil _ _ _ _, by simp⟩
end Go.Proofs.YtdhbjejejeljoaaGreat
