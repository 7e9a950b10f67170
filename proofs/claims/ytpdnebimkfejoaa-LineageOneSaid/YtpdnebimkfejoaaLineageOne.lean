/- LineageOne: its walk. -/
import Derived.Test.YtpdnebimkfejoaaFrame25
import Derived.Test.YtpdnebimkfejoaaMapE
import Derived.Test.YtpdnebimkfejoaaRef12b
namespace Go.Proofs.Ytpdnebimkfejoaa
open Go.RowKit Go.Sort Go.Lib
set_option linter.unusedVariables false
set_option linter.unusedSimpArgs false

abbrev stepC (x : Stp) (ta : Option Addr) (tc : Nat) : Array Value := #[.int .i64 x.op, .int .u64 x.n.1, .string x.n.2, .string x.t.p, .int .i64 x.t.fn, .slice ta x.t.args.length tc, .int .i64 x.t.fuel, .int .i64 x.wk, .int .i64 x.vk, .int .u64 x.ep]
abbrev StepT : TypeId := 34
theorem step_cells {w : World} {s : Nat} {x : Stp} {ta : Option Addr} {tc : Nat} (h : Box s (stepC x ta tc) StepT w) :
    w.cell? ⟨s, 0, none⟩ = some (.int .i64 x.op) ∧ w.cell? ⟨s, 1, none⟩ = some (.int .u64 x.n.1) ∧ w.cell? ⟨s, 2, none⟩ = some (.string x.n.2) ∧ w.cell? ⟨s, 3, none⟩ = some (.string x.t.p) ∧ w.cell? ⟨s, 4, none⟩ = some (.int .i64 x.t.fn) ∧ w.cell? ⟨s, 5, none⟩ = some (.slice ta x.t.args.length tc) ∧ w.cell? ⟨s, 6, none⟩ = some (.int .i64 x.t.fuel) ∧ w.cell? ⟨s, 7, none⟩ = some (.int .i64 x.wk) ∧ w.cell? ⟨s, 8, none⟩ = some (.int .i64 x.vk) ∧ w.cell? ⟨s, 9, none⟩ = some (.int .u64 x.ep) :=
  ⟨h.cell 0, h.cell 1, h.cell 2, h.cell 3, h.cell 4, h.cell 5, h.cell 6, h.cell 7, h.cell 8, h.cell 9⟩
theorem step_keep {w w' : World} {s : Nat} {x : Stp} {ta : Option Addr} {tc : Nat} (h : Box s (stepC x ta tc) StepT w) (hk : Kept w w') : Box s (stepC x ta tc) StepT w' := hk _ _ _ (by decide) h
theorem okU_hold {A : Al} {n : Nm} {k e : Int} (h : OkU A) : OkU (holdA A n k e) := okU_keys h (by
  unfold holdA
  split
  · rfl
  · split
    · unfold updA; rw [List.map_map]
      apply List.map_congr_left
      intro p _; simp only [Function.comp]; split <;> rfl
    · rfl)
theorem okU_over {A : Al} {n : Nm} (h : OkU A) : OkU (overA A n) := okU_keys h (by
  unfold overA
  split
  · rfl
  · split
    · rfl
    · unfold updA; rw [List.map_map]
      apply List.map_congr_left
      intro p _; simp only [Function.comp]; split <;> rfl)
theorem okU_lost {A : Al} {ks : List Int} (h : OkU A) : OkU (lostA A ks) := okU_keys h (lostA_keys A ks).symm
def FrO (sv : Value) (f : Nat) (k : Int) (a : Act) : Prop := a.defers = [] ∧ a.tmps.size = 256 ∧ sl a.tmps 0 = sv ∧ sl a.tmps 3 = .pointer (some ⟨f, 0, none⟩) ∧ sl a.tmps 4 = .int .i64 k
def OnI (w : World) (f m : Nat) (wr : World) : Prop := ∃ A, Lt w f m A wr ∧ OkU A
def PlO (w : World) (sv : Value) (L f m gk : Nat) (a : Act) (wr : World) : Prop := ∃ k : Nat, gk + k = L ∧ OnI w f m wr ∧ FrO sv f k a
def evI (x : Int) : Value := .int .i64 x
def cntM (D : List Nm) : List (Nm × Int) := D.map fun a => (a, 1)
theorem cnt_none {D : List Nm} {a : Nm} (h : a ∉ D) : getL (cntM D) a = none := getL_none_iffV.2 (fun p hp e => by
  unfold cntM at hp
  obtain ⟨q, hq, rfl⟩ := List.mem_map.1 hp
  exact h (e ▸ hq))
theorem cnt_snoc {D : List Nm} {a : Nm} (h : a ∉ D) : putL (cntM D) a 1 = cntM (D ++ [a]) := by
  rw [putL_newV (cnt_none h)]; unfold cntM; simp
theorem cnt_get {D : List Nm} {a : Nm} (h : a ∈ D) : getL (cntM D) a = some 1 := by
  cases hg : getL (cntM D) a with
  | none => exact absurd rfl (getL_none_iffV.1 hg (a, 1) (List.mem_map.2 ⟨a, h, rfl⟩))
  | some x =>
    have := getL_mem' hg
    unfold cntM at this
    obtain ⟨q, _, he⟩ := List.mem_map.1 this
    injection he with _ he
    rw [he]
section
variable {w0 w w' : World} {f m km : Nat} {A : Al}
theorem Lt.only (h : Lt w0 f m A w) (ho : OnlyAt w w' km) (hk : km ≠ m) (hmap : ∃ es c, w.heap[km]? = some (.map es c)) (hb : w0.heap.size ≤ km) : Lt w0 f m A w' := by
  obtain ⟨T, e, h⟩ := h
  obtain ⟨es, c, hm⟩ := hmap
  have far : ∀ (i : Nat) (c : Array Value) (E : TypeId) (fr : Nat × Nat), w.heap[i]? = some (.cells c E fr) → w'.heap[i]? = w.heap[i]? := fun i c E fr hi => ho.2.2.2.2.1 i (fun e => by rw [e, hm] at hi; cases hi)
  refine ⟨T, e, h.hf, h.hm, h.hr, ⟨(far _ _ _ _ h.tab.box).trans h.tab.box, h.tab.map.block (ho.2.2.2.2.1 m (fun e => hk e.symm)), fun p hp => ?_, h.tab.nd⟩, ?_, h.ok, h.sz⟩
  · have hr := h.tab.row p hp
    exact ⟨(far _ _ _ _ hr.1).trans hr.1, Args.far hr.2 (fun i cur hi => far i _ _ _ hi)⟩
  · exact ⟨ho.1.trans h.low.os, ho.2.1.trans h.low.tape, ho.2.2.1.trans h.low.output, by rw [ho.2.2.2.1]; exact h.low.size, fun i hi => (ho.2.2.2.2.1 i (by omega)).trans (h.low.block i hi)⟩
theorem Kept.only (ho : OnlyAt w w' km) (hmap : ∃ es c, w.heap[km]? = some (.map es c)) : Kept w w' := by
  obtain ⟨es, c, hm⟩ := hmap
  intro r x E _ hb
  exact (ho.2.2.2.2.1 r (fun e => by unfold Box at hb; rw [e, hm] at hb; cases hb)).trans hb
end
def RwO (w : World) (sv : Value) (L f m km : Nat) (A : Al) (w4 : World) (gk : Nat) (a : Act) (wr : World) : Prop := ∃ k : Nat, gk + k = L ∧ Lt w f m A wr ∧ Kept w4 wr ∧ MapL evI wr km (cntM (met A (sortV A) k)) ∧ a.defers = [] ∧ a.tmps.size = 256 ∧ sl a.tmps 3 = .pointer (some ⟨f, 0, none⟩) ∧ sl a.tmps 11 = sv ∧ sl a.tmps 12 = .map (some km) ∧ sl a.tmps 13 = .int .i64 k
def LsO (w wc : World) (sv v1 ug v2 : Value) (L f m k s : Nat) (wk : Int) (A : Al) (gk : Nat) (a : Act) (wr : World) : Prop := ∃ j : Nat, gk + j = L ∧ Lt w f m (lostA A [wk]) wr ∧ Kept wc wr ∧ a.defers = [] ∧ a.tmps.size = 256 ∧ sl a.tmps 0 = sv ∧ sl a.tmps 3 = .pointer (some ⟨f, 0, none⟩) ∧ sl a.tmps 4 = .int .i64 k ∧ sl a.tmps 5 = .pointer (some ⟨s, 0, none⟩) ∧ sl a.tmps 6 = v1 ∧ sl a.tmps 7 = ug ∧ sl a.tmps 8 = v2 ∧ sl a.tmps 9 = .int .i64 ((pickA ((sortV A).take j) (fun _ r => lostB [wk] r)).length) ∧ sl a.tmps 10 = .int .i64 j
def FiO (w : World) (sv : Value) (L f m km : Nat) (A : Al) (w4 : World) (D : List Nm) (gk : Nat) (a : Act) (wr : World) : Prop := ∃ k : Nat, gk + k = L ∧ Lt w f m A wr ∧ Kept w4 wr ∧ MapL evI wr km (cntM D) ∧ a.defers = [] ∧ a.tmps.size = 256 ∧ sl a.tmps 11 = sv ∧ sl a.tmps 12 = .map (some km) ∧ sl a.tmps 18 = .int .i64 k
def ItO (w : World) (sv u : Value) (L f m km k : Nat) (A : Al) (D N : List Nm) (w4 w5 : World) (gj : Nat) (a : Act) (wr : World) : Prop := ∃ j : Nat, gj + j = L ∧ Lt w f m A wr ∧ Kept w4 wr ∧ Kept w5 wr ∧ MapL evI wr km (cntM (D ++ N.take j)) ∧ a.defers = [] ∧ a.tmps.size = 256 ∧ sl a.tmps 3 = .pointer (some ⟨f, 0, none⟩) ∧ sl a.tmps 11 = sv ∧ sl a.tmps 12 = .map (some km) ∧ sl a.tmps 13 = .int .i64 k ∧ sl a.tmps 14 = u ∧ sl a.tmps 15 = .int .i64 j
set_option maxHeartbeats 16000000 in
set_option maxRecDepth 100000 in
theorem one_any (v : Value) (l : List Stp) (w0 : World) (hv : ReadsK encS 10 w0 v l) (hz : ∀ s ∈ l, StpZ s) (ht : ∀ s ∈ l, TskOk w0 s.t) (hl : (l.length : Int) ≤ 9223372036854775807) :
    Calls Try.prog 4 #[v] w0 fun e w' => e = .returned (.bool true) ∧ Below w0.heap.size w0 w' := by
  obtain ⟨a, cap, rfl⟩ := hv.slice
  have HV := Lib.hid hv
  have HZ := Lib.hid hz
  have HT := Lib.hid ht
  clear hv hz ht
  go_enter Try.func4, Try.ntmps4
  have hmk := @Go.RowKit.run_makeMap Try.prog
  go_wp2_with fail
  refine (heavy_any _ l w0 HV.out hl HZ.out HT.out).mono ?_
  rintro e w ⟨b, rfl, hB0, hb⟩
  cases b
  · obtain ⟨hl2, hz2⟩ := hb rfl
    have HV1 := Lib.hid (HV.out.below hB0)
    have HT1 := Lib.hid (fun s hs => (show TskOk w s.t from ⟨(HT.out s hs).1.below hB0, (HT.out s hs).2⟩))
    have HZ2 := Lib.hid hz2
    have HB0 := Lib.hid hB0
    clear hb hB0 HV HT HZ hl hz2
    go_wp2_with fail
    refine (lt_new w).mono ?_
    rintro e w1 ⟨f, m, rfl, hL1, hB1⟩
    have HL1 : Hid (OnI w f m w1) := ⟨[], hL1, by intro p hp; cases hp⟩
    clear hL1 hB1
    go_wp2_with fail
    refine wp_loop_ghost_k (PlO w (.slice a l.length cap) l.length f m) l.length ?atStart ?round
    case atStart => exact ⟨0, by omega, HL1.out, rfl, rfl, rfl, rfl, rfl⟩
    case round =>
      clear HL1
      rintro go0 ⟨ts, ds⟩ wr ⟨k, hk, ⟨A, hL, hU⟩, hd, hts, f0, f3, f4⟩ J K9 hJ9 hK9
      have HL := Lib.hid hL
      have HU := Lib.hid hU
      clear hL hU
      simp only at hd hts f0 f3 f4
      subst hd
      rw [frame_lit256 hts, f0, f3, f4]
      clear f0 f3 f4
      by_cases hlt : k < l.length
      · clear hmk
        obtain ⟨b, off, c, he, hb, hc⟩ := (HV1.out.below HL.out.low).at (by omega)
        injection he with he1 he2 he3
        subst he1
        have HX := Lib.hid (HZ2.out _ (List.getElem_mem hlt))
        have HXT := Lib.hid (HT1.out _ (List.getElem_mem hlt))
        have hcc := hc k hlt
        clear hc he2 he3
        generalize l[k] = x at hcc HX HXT
        obtain ⟨ta, tc, hs4⟩ := HXT.out.1.slice
        have c0 : wr.cell? ⟨b, off + k * 10, none⟩ = some (.int .i64 x.op) := hcc 0 _ rfl
        have c1 : wr.cell? ⟨b, off + k * 10 + 1, none⟩ = some (.int .u64 x.n.1) := hcc 1 _ rfl
        have c2 : wr.cell? ⟨b, off + k * 10 + 2, none⟩ = some (.string x.n.2) := hcc 2 _ rfl
        have c3 : wr.cell? ⟨b, off + k * 10 + 3, none⟩ = some (.string x.t.p) := hcc 3 _ rfl
        have c4 : wr.cell? ⟨b, off + k * 10 + 4, none⟩ = some (.int .i64 x.t.fn) := hcc 4 _ rfl
        have c5 : wr.cell? ⟨b, off + k * 10 + 5, none⟩ = some (.slice ta x.t.args.length tc) := hs4 ▸ hcc 5 _ rfl
        have c6 : wr.cell? ⟨b, off + k * 10 + 6, none⟩ = some (.int .i64 x.t.fuel) := hcc 6 _ rfl
        have c7 : wr.cell? ⟨b, off + k * 10 + 7, none⟩ = some (.int .i64 x.wk) := hcc 7 _ rfl
        have c8 : wr.cell? ⟨b, off + k * 10 + 8, none⟩ = some (.int .i64 x.vk) := hcc 8 _ rfl
        have c9 : wr.cell? ⟨b, off + k * 10 + 9, none⟩ = some (.int .u64 x.ep) := hcc 9 _ rfl
        have hA : Below wr.heap.size wr (wr.alloc (.cells (stepC x ta tc) StepT)) := (Below.refl _ _).alloc (Nat.le_refl _) _
        have HLS := Lib.hid (HL.out.below hA)
        have HXR := Lib.hid (show ReadsK encI 1 (wr.alloc (.cells (stepC x ta tc) StepT)) (.slice ta x.t.args.length tc) x.t.args from ((hs4 ▸ HXT.out.1 : ReadsK encI 1 w (.slice ta x.t.args.length tc) x.t.args).below HL.out.low).below hA)
        have hxt : x.t.args.length ≤ 8192 := by have := HX.out; unfold totS at this; omega
        have hxp : x.t.p.size ≤ 8192 := by have := HX.out; unfold totS at this; omega
        clear hcc hb hA HX HXT
        go_upto_block 2 with fail
        have HS : Box wr.heap.size (stepC x ta tc) StepT (wr.alloc (.cells (stepC x ta tc) StepT)) := heap_alloc_new _ _
        simp only [stepC] at HS HLS HXR
        generalize wr.alloc (.cells #[.int .i64 x.op, .int .u64 x.n.1, .string x.n.2, .string x.t.p, .int .i64 x.t.fn, .slice ta x.t.args.length tc, .int .i64 x.t.fuel, .int .i64 x.wk, .int .i64 x.vk, .int .u64 x.ep] StepT) = ws at *
        clear HL c0 c1 c2 c3 c4 c5 c6 c7 c8 c9
        generalize wr.heap.size = s at *
        have HSS : Hid (Box s (stepC x ta tc) StepT ws) := HS
        obtain ⟨s0, s1, s2, s3, s4, s5, s6, s7, s8, s9⟩ := step_cells HS
        clear HS hs4
        by_cases h0 : x.op = 0
        · have b0 : (x.op == 0) = true := by simp [h0]
          clear h0
          go_upto_region 12 with fail
          have HRD := Lib.hid (HXR.out.below ((Below.refl _ _).drew))
          have hstart := Kept.below ((Below.refl ws.heap.size ws).drew) _ _ _ (by decide) HSS.out
          clear s0 s1 s2 s3 s4 s5 s6 s7 s8 s9
          refine wp_region_held_drew (S := fun y => Box s (stepC x ta tc) StepT y) (by kernel_rfl) (hstart) (fun hHeld => ?_)
          refine wpAnyH_take (i := 0) (oi := _) (v := ?_) (by rw [List.getElem?_toArray]; exact rfl) (by kernel_rfl) (by kernel_rfl) (by kernel_rfl) (by exact fun _ _ _ h => h) (Or.inl ⟨by rfl, ?_⟩) hHeld ?_
          rotate_left
          · (intro wX hSw; clear hSw; go_simp; try with_reducible rfl)
          try simp only [Act.put, List.setIfInBounds_toArray, List.set_cons_zero, List.set_cons_succ]
          refine wpAnyH_take (i := 1) (oi := _) (v := ?_) (by rw [List.getElem?_toArray]; exact rfl) (by kernel_rfl) (by kernel_rfl) (by kernel_rfl) (by exact fun _ _ _ h => h) (Or.inl ⟨by rfl, ?_⟩) hHeld ?_
          rotate_left
          · (intro wX hSw; clear hSw; go_simp; try with_reducible rfl)
          try simp only [Act.put, List.setIfInBounds_toArray, List.set_cons_zero, List.set_cons_succ]
          refine wpAnyH_take (i := 2) (oi := _) (v := ?_) (by rw [List.getElem?_toArray]; exact rfl) (by kernel_rfl) (by kernel_rfl) (by kernel_rfl) (by exact fun _ _ _ h => h) (Or.inl ⟨by rfl, ?_⟩) hHeld ?_
          rotate_left
          · (intro wX hSw; clear hSw; go_simp; try with_reducible rfl)
          try simp only [Act.put, List.setIfInBounds_toArray, List.set_cons_zero, List.set_cons_succ]
          refine wpAnyH_take (i := 3) (oi := _) (v := ?_) (by rw [List.getElem?_toArray]; exact rfl) (by kernel_rfl) (by kernel_rfl) (by kernel_rfl) (by exact fun _ _ _ h => h) (Or.inl ⟨by rfl, ?_⟩) hHeld ?_
          rotate_left
          · (intro wX hSw; obtain ⟨z0, z1, z2, z3, z4, z5, z6, z7, z8, z9⟩ := step_cells hSw; clear hSw; go_simp; try with_reducible rfl)
          try simp only [Act.put, List.setIfInBounds_toArray, List.set_cons_zero, List.set_cons_succ]
          refine wpAnyH_take (i := 4) (oi := _) (v := ?_) (by rw [List.getElem?_toArray]; exact rfl) (by kernel_rfl) (by kernel_rfl) (by kernel_rfl) (by exact fun _ _ _ h => h) (Or.inl ⟨by rfl, ?_⟩) hHeld ?_
          rotate_left
          · (intro wX hSw; clear hSw; go_simp; try with_reducible rfl)
          try simp only [Act.put, List.setIfInBounds_toArray, List.set_cons_zero, List.set_cons_succ]
          refine wpAnyH_take (i := 5) (oi := _) (v := ?_) (by rw [List.getElem?_toArray]; exact rfl) (by kernel_rfl) (by kernel_rfl) (by kernel_rfl) (by exact fun _ _ _ h => h) (Or.inl ⟨by rfl, ?_⟩) hHeld ?_
          rotate_left
          · (intro wX hSw; obtain ⟨z0, z1, z2, z3, z4, z5, z6, z7, z8, z9⟩ := step_cells hSw; clear hSw; go_simp; try with_reducible rfl)
          try simp only [Act.put, List.setIfInBounds_toArray, List.set_cons_zero, List.set_cons_succ]
          refine wpAnyH_ready (rs := [6]) (by kernel_rfl) (by simp) ?_
          refine AllReadyH.cons (o := _) (by rw [List.getElem?_toArray]; exact rfl) (fun K hK => ?_) ?_
          · go_simp
            refine (ownL_any x.t.p x.t.fn x.t.fuel _ x.t.args _ HRD.out (by omega)).mono ?_; rintro e wc ⟨oa, oc, rfl, ho, hB⟩; have HO := Lib.hid (show ReadsK encI 1 wc (.slice oa x.t.args.length oc) x.t.args from own_readsK (enc := encI) (k := 1) (fun _ => rfl) (by decide) ho); have HLC := Lib.hid (HLS.out.below (gdrew hB)); clear ho
            go_wp2_with fail
            refine hK.out _ _ (step_keep hHeld (.below hB)) (fun hHeld => ?_)
            clear hK K
            try simp only [Act.put, List.setIfInBounds_toArray, List.set_cons_zero, List.set_cons_succ]
            refine wpAnyH_ready (rs := [7]) (by kernel_rfl) (by simp) ?_
            refine AllReadyH.cons (o := _) (by rw [List.getElem?_toArray]; exact rfl) (fun K hK => ?_) ?_
            · go_simp
              refine (lt_add HLC.out x.n.1 x.t.p x.t.fn x.t.fuel _ x.t.args HO.out hxt (by omega)).mono ?_; rintro e w3 ⟨rfl, hL3, hKK⟩; have HL3 : Hid (OnI w f m w3) := ⟨_, hL3, okU_add HU.out⟩; clear hL3
              go_wp2_with fail
              refine hK.out _ _ (step_keep hHeld hKK) (fun hHeld => ?_)
              clear hK K
              try simp only [Act.put, List.setIfInBounds_toArray, List.set_cons_zero, List.set_cons_succ]
              refine wpAnyH_done (by kernel_rfl) ?_ _
              clear hHeld
              go_wp2_with fail
              refine Handed.intro (go0 - 1) (by omega) (hJ9 _ _ _ ?_)
              exact ⟨k + 1, by omega, HL3.out, rfl, rfl, rfl, rfl, by go_num⟩
            exact AllReadyH.nil
          exact AllReadyH.nil
        by_cases h1 : x.op = 1
        · have b0 : (x.op == 0) = false := by simp [h1]
          have b1 : (x.op == 1) = true := by simp [h1]
          clear h0 h1
          go_wp2_with fail
          refine (lt_hold HLS.out x.n x.wk x.ep).mono ?_
          rintro e w3 ⟨rfl, hL3, _⟩
          have HL3 : Hid (OnI w f m w3) := ⟨_, hL3, okU_hold HU.out⟩
          clear hL3 HLS HSS HXR s0 s1 s2 s3 s4 s5 s6 s7 s8 s9
          go_wp2_with fail
          refine Handed.intro (go0 - 1) (by omega) (hJ9 _ _ _ ?_)
          exact ⟨k + 1, by omega, HL3.out, rfl, rfl, rfl, rfl, by go_num⟩
        by_cases h2 : x.op = 2
        · have b0 : (x.op == 0) = false := by simp [h2]
          have b1 : (x.op == 1) = false := by simp [h2]
          have b2 : (x.op == 2) = true := by simp [h2]
          clear h0 h1 h2
          go_wp2_with fail
          refine (lt_over HLS.out x.n).mono ?_
          rintro e w3 ⟨rfl, hL3, _⟩
          have HL3 : Hid (OnI w f m w3) := ⟨_, hL3, okU_over HU.out⟩
          clear hL3 HLS HSS HXR s0 s1 s2 s3 s4 s5 s6 s7 s8 s9
          go_wp2_with fail
          refine Handed.intro (go0 - 1) (by omega) (hJ9 _ _ _ ?_)
          exact ⟨k + 1, by omega, HL3.out, rfl, rfl, rfl, rfl, by go_num⟩
        by_cases h3 : x.op = 3
        · have b0 : (x.op == 0) = false := by simp [h3]
          have b1 : (x.op == 1) = false := by simp [h3]
          have b2 : (x.op == 2) = false := by simp [h3]
          have b3 : (x.op == 3) = true := by simp [h3]
          clear h0 h1 h2 h3
          have HND := Lib.hid HLS.out.nd
          have HL0K := Lib.hid HLS.out.ok
          have HSP := Lib.hid (sortV_perm A)
          have hszA := HLS.out.len
          have hslen := (sortV_perm A).length_eq
          go_wp2_with fail
          refine (lt_rows HLS.out).mono ?_
          rintro e wa ⟨v1, S1, rfl, ho1, hS1, ha1, hB⟩
          have hS1l : S1.length = (sortV A).length := by have := congrArg List.length hS1; simpa using this
          have HS1 := Lib.hid hS1
          have HSL1 := Lib.hid hS1l
          have HLa := Lib.hid (HLS.out.below hB)
          have HSa := Lib.hid (step_keep HSS.out (.below hB))
          have HO1 := Lib.hid ho1
          have HA1 := Lib.hid ha1
          obtain ⟨va1, vc1, rfl⟩ := (own_readsK (enc := encT) (k := 9) encT_len (by decide) ho1).slice
          have hs10 : S1.length ≤ 1024 := by omega
          clear ho1 hS1 ha1 hB hS1l HLS HSS HXR s0 s1 s2 s3 s4 s5 s6 s7 s8 s9
          have s7 : wa.cell? ⟨s, 7, none⟩ = some (.int .i64 x.wk) := (step_cells HSa.out).2.2.2.2.2.2.2.1
          go_wp2_with fail
          have hA : Below wa.heap.size wa (wa.alloc (.cells #[.int .i64 x.wk] 3)) := (Below.refl _ _).alloc (Nat.le_refl _) _
          refine (lt_lost (HLa.out.below hA) _ [x.wk] (reads_i1 wa x.wk 3) (by simp)).mono ?_
          rintro e wb ⟨⟨u, rfl, hou⟩, hLb, hKb⟩
          have HKb := Lib.hid ((Kept.below hA).trans hKb)
          obtain ⟨GN, hGN⟩ : ∃ GN : List Nm, GN = (sortV (pickA A (fun _ r => lostB [x.wk] r))).map (·.1) := ⟨_, rfl⟩
          rw [← hGN] at hou
          have HGN := Lib.hid (show GN = (pickA (sortV A) (fun _ r => lostB [x.wk] r)).map (·.1) by rw [hGN, pick_sort HND.out])
          have HLb := Lib.hid hLb
          have HOU := Lib.hid hou
          obtain ⟨ua, uc, rfl⟩ := (own_readsK (enc := encM) (k := 2) (fun _ => rfl) (by decide) hou).slice
          clear hou hLb hKb hA hGN HLa s7
          go_wp2_with fail
          refine (lt_rows HLb.out).mono ?_
          rintro e wc ⟨v2, S2, rfl, ho2, hS2, ha2, hB⟩
          rw [sort_lost HND.out] at hS2
          have hS2l : S2.length = S1.length := by have := congrArg List.length hS2; have h2 := HSL1.out; simp [lostA] at this; omega
          have HS2 := Lib.hid hS2
          have HLc := Lib.hid (HLb.out.below hB)
          have HSc := Lib.hid (step_keep (step_keep HSa.out HKb.out) (.below hB))
          have HO2 := Lib.hid ho2
          have HA2 := Lib.hid ha2
          have HO1c := Lib.hid (own_kept (own_kept HO1.out (by decide) HKb.out) (by decide) (.below hB))
          have HA1c : Hid (∀ p ∈ S1, ArgsB ws.heap.size wc p.2) := fun p hp => args_kept (args_kept (HA1.out p hp) HKb.out) (.below hB)
          have HOUc := Lib.hid (own_kept HOU.out (by decide) (.below hB))
          obtain ⟨va2, vc2, hv2⟩ := (own_readsK (enc := encT) (k := 9) encT_len (by decide) ho2).slice
          subst hv2
          rw [hS2l]
          have HSL2 := Lib.hid hS2l
          have hll : (S1.length != S1.length) = false := by simp
          clear ho2 hS2 ha2 hB hS2l HLb HSa HO1 HA1 HKb HOU
          go_wp2_with fail
          refine wp_loop_ghost_k (LsO w wc (.slice (some ⟨b, off, none⟩) l.length cap) (.slice va1 S1.length vc1) (.slice ua GN.length uc) (.slice va2 S1.length vc2) S1.length f m k s x.wk A) S1.length ?atStart2 ?round2
          case atStart2 => exact ⟨0, by omega, HLc.out, Kept.refl _, rfl, rfl, rfl, rfl, rfl, rfl, rfl, rfl, rfl, rfl, rfl⟩
          case round2 =>
            clear HLc
            rintro go1 ⟨ts1, ds1⟩ wr ⟨j, hj, hL, hK, hd, hts1, f0, f3, f4, f5, f6, f7, f8, f9, f10⟩ J K3 hJ3 hK3
            have HL := Lib.hid hL
            have HK := Lib.hid hK
            clear hL hK
            simp only at hd hts1 f0 f3 f4 f5 f6 f7 f8 f9 f10
            subst hd
            rw [frame_lit256 hts1, f0, f3, f4, f5, f6, f7, f8, f9, f10]
            clear f0 f3 f4 f5 f6 f7 f8 f9 f10
            by_cases hjl : j < S1.length
            · have hj1 : j < (sortV A).length := by rw [← HSL1.out]; exact hjl
              have hj2 : j < S2.length := by rw [HSL2.out]; exact hjl
              obtain ⟨bb, ob, cb, he, hbb, hcb⟩ := (own_readsK (enc := encT) (k := 9) encT_len (by decide) (own_kept HO1c.out (by decide) HK.out)).at (by omega)
              injection he with he1 he2 he3
              subst he1
              have ho2' := own_readsK (enc := encT) (k := 9) encT_len (by decide) (own_kept HO2.out (by decide) HK.out)
              rw [HSL2.out] at ho2'
              obtain ⟨ba, oa, ca, he, hba, hca⟩ := ho2'.at (by rw [HSL2.out]; omega)
              injection he with he1 he4 he5
              subst he1
              have hc1 := hcb j hjl
              have hc2 := hca j hj2
              have HX1 := Lib.hid (argsB_reads (args_kept (HA1c.out _ (List.getElem_mem hjl)) HK.out))
              have HX2 := Lib.hid (argsB_reads (args_kept (HA2.out _ (List.getElem_mem hj2)) HK.out))
              have hq1 : coreP S1[j] = (sortV A)[j] := by
                have h1 : (S1.map coreP)[j]? = (sortV A)[j]? := by rw [HS1.out]
                rw [List.getElem?_map, List.getElem?_eq_getElem hjl, List.getElem?_eq_getElem hj1] at h1
                simpa using h1
              have hq2 : coreP S2[j] = if lostB [x.wk] (sortV A)[j].2 then ((sortV A)[j].1, freeR (sortV A)[j].2) else (sortV A)[j] := by
                have h1 : (S2.map coreP)[j]? = (lostA (sortV A) [x.wk])[j]? := by rw [HS2.out]
                unfold lostA at h1
                rw [List.getElem?_map, List.getElem?_eq_getElem hj2, List.getElem?_map, List.getElem?_eq_getElem hj1] at h1
                simpa using h1
              have hal : (sortV A)[j].2.args.length ≤ 1000000 := Nat.le_trans ((HL0K.out _ (HSP.out.mem_iff.1 (List.getElem_mem hj1))).2) (by decide)
              have hpk := pick_take (P := fun _ r => lostB [x.wk] r) hj1
              have hpn := pick_next (P := fun _ r => lostB [x.wk] r) hj1
              generalize (sortV A)[j] = q0 at *
              generalize S1[j] = q1 at *
              generalize S2[j] = q2 at *
              have hsw : wr.cell? ⟨s, 7, none⟩ = some (.int .i64 x.wk) := (step_cells (step_keep HSc.out HK.out)).2.2.2.2.2.2.2.1
              have k6 : wr.cell? ⟨bb, ob + j * 9 + 6, none⟩ = some (.int .u8 q1.2.st) := hc1 6 _ rfl
              have k7 : wr.cell? ⟨bb, ob + j * 9 + 7, none⟩ = some (.int .i64 q1.2.wk) := hc1 7 _ rfl
              cases hlb : lostB [x.wk] q0.2
              · rw [hlb] at hpk hq2
                simp only [Bool.false_eq_true, if_false] at hpk hq2
                have HNX := Lib.hid (show (pickA ((sortV A).take (j + 1)) (fun _ r => lostB [x.wk] r)).length = (pickA ((sortV A).take j) (fun _ r => lostB [x.wk] r)).length by rw [hpk, List.append_nil])
                have HCE := Lib.hid (hq1.trans hq2.symm)
                have est : q1.2.st = q0.2.st := by rw [← hq1]; rfl
                have ewk : q1.2.wk = q0.2.wk := by rw [← hq1]; rfl
                have earg : q1.2.args.length ≤ 1000000 := by rw [← hq1] at hal; exact hal
                have hns : (q1.2.st == 2) = false ∨ ((q1.2.st == 2) = true ∧ (q1.2.wk == x.wk) = false) := by
                  unfold lostB at hlb
                  by_cases e2 : q1.2.st = 2
                  · refine .inr ⟨by simp [e2], ?_⟩
                    rw [← est, ← ewk, decide_eq_true e2] at hlb
                    simpa using hlb
                  · exact .inl (by simpa using e2)
                have k0 : wr.cell? ⟨bb, ob + j * 9, none⟩ = some (.int .u64 q1.1.1) := hc1 0 _ rfl
                have k1 : wr.cell? ⟨bb, ob + j * 9 + 1, none⟩ = some (.string q1.1.2) := hc1 1 _ rfl
                have k2 : wr.cell? ⟨bb, ob + j * 9 + 2, none⟩ = some (.string q1.1.2) := hc1 2 _ rfl
                have k3 : wr.cell? ⟨bb, ob + j * 9 + 3, none⟩ = some (.int .i64 q1.2.fn) := hc1 3 _ rfl
                have k4 : wr.cell? ⟨bb, ob + j * 9 + 4, none⟩ = some (.slice q1.2.aa q1.2.args.length q1.2.ac) := hc1 4 _ rfl
                have k5 : wr.cell? ⟨bb, ob + j * 9 + 5, none⟩ = some (.int .i64 q1.2.fuel) := hc1 5 _ rfl
                have k8 : wr.cell? ⟨bb, ob + j * 9 + 8, none⟩ = some (.int .u64 q1.2.ep) := hc1 8 _ rfl
                have j0 : wr.cell? ⟨ba, oa + j * 9, none⟩ = some (.int .u64 q2.1.1) := hc2 0 _ rfl
                have j1 : wr.cell? ⟨ba, oa + j * 9 + 1, none⟩ = some (.string q2.1.2) := hc2 1 _ rfl
                have j2 : wr.cell? ⟨ba, oa + j * 9 + 2, none⟩ = some (.string q2.1.2) := hc2 2 _ rfl
                have j3 : wr.cell? ⟨ba, oa + j * 9 + 3, none⟩ = some (.int .i64 q2.2.fn) := hc2 3 _ rfl
                have j4 : wr.cell? ⟨ba, oa + j * 9 + 4, none⟩ = some (.slice q2.2.aa q2.2.args.length q2.2.ac) := hc2 4 _ rfl
                have j5 : wr.cell? ⟨ba, oa + j * 9 + 5, none⟩ = some (.int .i64 q2.2.fuel) := hc2 5 _ rfl
                have j6 : wr.cell? ⟨ba, oa + j * 9 + 6, none⟩ = some (.int .u8 q2.2.st) := hc2 6 _ rfl
                have j7 : wr.cell? ⟨ba, oa + j * 9 + 7, none⟩ = some (.int .i64 q2.2.wk) := hc2 7 _ rfl
                have j8 : wr.cell? ⟨ba, oa + j * 9 + 8, none⟩ = some (.int .u64 q2.2.ep) := hc2 8 _ rfl
                clear hc1 hc2 he2 he3 he4 he5 hbb hba hq1 hq2 hal hpk hpn ho2' est ewk hlb
                rcases hns with hn1 | ⟨hn1, hn2⟩
                all_goals
                  go_wp2_with fail
                  go_quiet (fail)
                  have hcq : ∀ a, (wr.drewN nq).cell? a = wr.cell? a := fun _ => rfl
                  rw [← hcq] at k0 k1 k2 k3 k4 k5 k6 k7 k8 j0 j1 j2 j3 j4 j5 j6 j7 j8
                  have hBd : Below wr.heap.size wr (wr.drewN nq).drew := (below_drewN (Below.refl _ _) nq).drew
                  clear hcq
                  generalize wr.drewN nq = wq at *
                  go_wp2_with fail
                  go_still_tail 8, (by kernel_rfl)
                  change wpList _ _ _ _ _ wq.drew
                  go_wp2_with fail
                  have hsame := same_any q1 q2 wq.drew (HX1.out.below hBd) (HX2.out.below hBd) earg
                  rw [(sameR_iff q1 q2).2 HCE.out] at hsame
                  unfold encT at hsame
                  refine hsame.mono ?_
                  rintro e w9 ⟨rfl, hB⟩
                  have HL9 := Lib.hid ((HL.out.below hBd).below hB)
                  have HK9 := Lib.hid ((HK.out.trans (.below hBd)).trans (.below hB))
                  clear hB hBd hsame k0 k1 k2 k3 k4 k5 k6 k7 k8 j0 j1 j2 j3 j4 j5 j6 j7 j8 hsw
                  go_wp2_with fail
                  refine Handed.intro (go1 - 1) (by omega) (hJ3 _ _ _ ?_)
                  exact ⟨j + 1, by omega, HL9.out, HK9.out, rfl, rfl, rfl, rfl, rfl, rfl, rfl, rfl, rfl, by rw [HNX.out]; rfl, by go_num⟩
              · rw [hlb] at hpk hq2
                simp only [if_true] at hpk hq2
                have HNX := Lib.hid (show (pickA ((sortV A).take (j + 1)) (fun _ r => lostB [x.wk] r)).length = (pickA ((sortV A).take j) (fun _ r => lostB [x.wk] r)).length + 1 by rw [hpk, List.length_append]; rfl)
                have hpn2 := hpn hlb
                obtain ⟨nn, hnn⟩ : ∃ nn, (pickA ((sortV A).take j) (fun _ r => lostB [x.wk] r)).length = nn := ⟨_, rfl⟩
                rw [hnn] at hpn2 HNX
                rw [hnn]
                have hgn : GN[nn]? = some q0.1 := by rw [HGN.out, List.getElem?_map, hpn2]; rfl
                obtain ⟨hnl, hgq⟩ := List.getElem?_eq_some_iff.1 hgn
                have hst : q1.2.st = 2 ∧ q1.2.wk = x.wk := by
                  have est : q1.2.st = q0.2.st := by rw [← hq1]; rfl
                  have ewk : q1.2.wk = q0.2.wk := by rw [← hq1]; rfl
                  unfold lostB at hlb
                  rw [Bool.and_eq_true, decide_eq_true_eq, decide_eq_true_eq, List.mem_singleton] at hlb
                  exact ⟨est.trans hlb.1, ewk.trans hlb.2⟩
                rw [hst.1] at k6
                rw [hst.2] at k7
                have e20 : q2.1 = q0.1 := (show (coreP q2).1 = q0.1 by rw [hq2])
                have e2s : q2.2.st = 1 ∧ q2.2.wk = 0 ∧ q2.2.ep = 0 := ⟨congrArg (fun p => p.2.st) hq2, congrArg (fun p => p.2.wk) hq2, congrArg (fun p => p.2.ep) hq2⟩
                obtain ⟨gb, go', gc, he, hgb, hgc⟩ := (own_readsK (enc := encM) (k := 2) (fun _ => rfl) (by decide) (own_kept HOUc.out (by decide) HK.out)).at (by omega)
                injection he with he1 he6 he7
                subst he1
                have g0 : wr.cell? ⟨gb, go' + nn * 2, none⟩ = some (.int .u64 q0.1.1) := by have h := hgc nn hnl 0 _ rfl; rw [hgq] at h; exact h
                have g1 : wr.cell? ⟨gb, go' + nn * 2 + 1, none⟩ = some (.string q0.1.2) := by have h := hgc nn hnl 1 _ rfl; rw [hgq] at h; exact h
                have j0 : wr.cell? ⟨ba, oa + j * 9, none⟩ = some (.int .u64 q0.1.1) := by have h := hc2 0 _ rfl; rw [e20] at h; exact h
                have j1 : wr.cell? ⟨ba, oa + j * 9 + 1, none⟩ = some (.string q0.1.2) := by have h := hc2 1 _ rfl; rw [e20] at h; exact h
                have j6 : wr.cell? ⟨ba, oa + j * 9 + 6, none⟩ = some (.int .u8 1) := by have h := hc2 6 _ rfl; rw [e2s.1] at h; exact h
                have j7 : wr.cell? ⟨ba, oa + j * 9 + 7, none⟩ = some (.int .i64 0) := by have h := hc2 7 _ rfl; rw [e2s.2.1] at h; exact h
                have j8 : wr.cell? ⟨ba, oa + j * 9 + 8, none⟩ = some (.int .u64 0) := by have h := hc2 8 _ rfl; rw [e2s.2.2] at h; exact h
                have hne := neqSame q0.1
                have hnb : nn ≤ 1024 := by
                  rw [← hnn]
                  unfold pickA
                  refine Nat.le_trans (List.length_filter_le _ _) (Nat.le_trans (List.length_take_le _ _) ?_)
                  omega
                have hwk : (x.wk == x.wk) = true := by simp
                have hgl : ¬ (GN.length : Int) ≤ (nn : Int) := by omega
                clear hc1 hc2 he2 he3 he4 he5 he6 he7 hbb hba hgb hgc hq1 hq2 hal hpk hpn hpn2 ho2' hlb hst e20 e2s hgn hgq
                go_wp2_with fail
                go_quiet (fail)
                have hcq : ∀ a, (wr.drewN nq).cell? a = wr.cell? a := fun _ => rfl
                rw [← hcq] at g0 g1 j0 j1 j6 j7 j8
                have hBd : Below wr.heap.size wr (wr.drewN nq) := below_drewN (Below.refl _ _) nq
                clear hcq k6 k7 hsw
                generalize wr.drewN nq = wq at *
                go_wp2_with fail
                go_quiet (fail)
                have HL9 := Lib.hid ((HL.out.below hBd).below (below_drewN (Below.refl wq.heap.size wq) nq))
                have HK9 := Lib.hid ((HK.out.trans (.below hBd)).trans (.below (below_drewN (Below.refl wq.heap.size wq) nq)))
                clear g0 g1 j0 j1 j6 j7 j8 hBd
                go_wp2_with fail
                refine Handed.intro (go1 - 1) (by omega) (hJ3 _ _ _ ?_)
                exact ⟨j + 1, by omega, HL9.out, HK9.out, rfl, rfl, rfl, rfl, rfl, rfl, rfl, rfl, rfl, by rw [HNX.out]; go_num, by go_num⟩
            · have hjS : (sortV A).length ≤ j := by rw [← HSL1.out]; omega
              have hGL := Lib.hid (show (pickA ((sortV A).take j) (fun _ r => lostB [x.wk] r)).length = GN.length by
                rw [List.take_of_length_le hjS, HGN.out, List.length_map])
              rw [hGL.out]
              have hgg : ((GN.length : Int) != (GN.length : Int)) = false := by simp
              have HL3 : Hid (OnI w f m wr) := ⟨_, HL.out, okU_lost HU.out⟩
              clear HL hjS
              go_wp2_with fail
              refine Handed.intro (go0 - 1) (by omega) (hJ9 _ _ _ ?_)
              exact ⟨k + 1, by omega, HL3.out, rfl, rfl, rfl, rfl, by go_num⟩
        by_cases h4 : x.op = 4
        · have b0 : (x.op == 0) = false := by simp [h4]
          have b1 : (x.op == 1) = false := by simp [h4]
          have b2 : (x.op == 2) = false := by simp [h4]
          have b3 : (x.op == 3) = false := by simp [h4]
          have b4 : (x.op == 4) = true := by simp [h4]
          clear h0 h1 h2 h3 h4
          go_wp2_with fail
          have hA2 : Below ws.heap.size ws (ws.alloc (.cells #[.int .u64 x.n.1] 27)) := (Below.refl _ _).alloc (Nat.le_refl _) _
          refine (lt_drop (HLS.out.below hA2) _ [x.n.1] (reads_u1 ws x.n.1 27) (by simp)).mono ?_
          rintro e w3 ⟨rfl, hL3, _⟩
          have HL3 : Hid (OnI w f m w3) := ⟨_, hL3, okU_drop HU.out⟩
          clear hL3 HLS HSS HXR hA2 s0 s1 s2 s3 s4 s5 s6 s7 s8 s9
          go_wp2_with fail
          refine Handed.intro (go0 - 1) (by omega) (hJ9 _ _ _ ?_)
          exact ⟨k + 1, by omega, HL3.out, rfl, rfl, rfl, rfl, by go_num⟩
        · have b0 : (x.op == 0) = false := by simpa using h0
          have b1 : (x.op == 1) = false := by simpa using h1
          have b2 : (x.op == 2) = false := by simpa using h2
          have b3 : (x.op == 3) = false := by simpa using h3
          have b4 : (x.op == 4) = false := by simpa using h4
          have HL3 : Hid (OnI w f m ws) := ⟨_, HLS.out, HU.out⟩
          clear h0 h1 h2 h3 h4 HLS HSS HXR s1 s2 s3 s4 s5 s6 s7 s8 s9
          go_wp2_with fail
          refine Handed.intro (go0 - 1) (by omega) (hJ9 _ _ _ ?_)
          exact ⟨k + 1, by omega, HL3.out, rfl, rfl, rfl, rfl, by go_num⟩
      · have hnd := HL.out.nd
        have hsp := sortV_perm A
        have HND := Lib.hid hnd
        have HOKA := Lib.hid HL.out.ok
        have HSP := Lib.hid hsp
        have HNS := Lib.hid (show ((sortV A).map (·.1)).Nodup from (hsp.map (·.1)).nodup_iff.2 hnd)
        have hszA := HL.out.len
        have hslen := hsp.length_eq
        clear hnd hsp
        go_wp2_with fail
        refine (lt_rows HL.out).mono ?_
        rintro e w3 ⟨v, S, rfl, ho, hS, _, hB⟩
        have hSl : S.length = (sortV A).length := by have := congrArg List.length hS; simpa using this
        have hS10 : S.length ≤ 1024 := by omega
        have HS := Lib.hid hS
        have HSL := Lib.hid hSl
        have hA : Below w3.heap.size w3 (w3.alloc (.map #[] 0)) := (Below.refl _ _).alloc (Nat.le_refl _) _
        have HL4 := Lib.hid ((HL.out.below hB).below hA)
        have HO := Lib.hid (own_kept ho (by decide) (.below hA))
        have HM := Lib.hid (show MapL evI (w3.alloc (.map #[] 0)) w3.heap.size (cntM (met A (sortV A) 0)) by
          have h1 := MapL.made evI w3
          unfold met; rw [List.take_zero]; exact h1)
        have hkb : w.heap.size ≤ w3.heap.size := (HL.out.below hB).low.size
        have HMM := Lib.hid (show m < w3.heap.size by obtain ⟨T, _, h⟩ := HL.out.below hB; exact h.tab.lt.2.1)
        obtain ⟨va, vc, rfl⟩ := (own_readsK (enc := encT) (k := 9) encT_len (by decide) ho).slice
        clear ho hS hSl hB HL hslen hszA
        go_wp2_with fail
        generalize w3.alloc (.map #[] 0) = w4 at *
        have hkm : w3.heap.size ≠ m := by have := HMM.out; omega
        clear hA HMM
        generalize w3.heap.size = km at *
        refine wp_loop_ghost_k (RwO w (.slice va S.length vc) S.length f m km A w4) S.length ?atStart3 ?round3
        case atStart3 => exact ⟨0, by omega, HL4.out, Kept.refl _, HM.out, rfl, rfl, rfl, rfl, rfl, rfl⟩
        case round3 =>
          clear HL4 HM
          rintro go1 ⟨ts1, ds1⟩ wr ⟨k, hk, hL, hK, hM, hd, hts1, f3, f11, f12, f13⟩ J K3 hJ3 hK3
          have HL := Lib.hid hL
          have HK := Lib.hid hK
          have HM := Lib.hid hM
          clear hL hK hM
          simp only at hd hts1 f3 f11 f12 f13
          subst hd
          rw [frame_lit256 hts1, f3, f11, f12, f13]
          clear f3 f11 f12 f13
          by_cases hlt : k < S.length
          · obtain ⟨b, off, c, he, hb, hc⟩ := (own_readsK (enc := encT) (k := 9) encT_len (by decide) (own_kept HO.out (by decide) HK.out)).at (by omega)
            injection he with he1 he2 he3
            subst he1
            have hlt2 : k < (sortV A).length := by rw [← HSL.out]; exact hlt
            have hcq := hc k hlt
            have hq : S[k].1 = (sortV A)[k].1 := by
              have h1 : (S.map coreP)[k]? = (sortV A)[k]? := by rw [HS.out]
              rw [List.getElem?_map, List.getElem?_eq_getElem hlt, List.getElem?_eq_getElem hlt2] at h1
              simp at h1; rw [← h1]; rfl
            have HQ := Lib.hid hq
            clear hq
            have k0 : wr.cell? ⟨b, off + k * 9, none⟩ = some (.int .u64 S[k].1.1) := hcq 0 _ rfl
            have k1 : wr.cell? ⟨b, off + k * 9 + 1, none⟩ = some (.string S[k].1.2) := hcq 1 _ rfl
            obtain ⟨n, hn⟩ : ∃ n, S[k].1 = n := ⟨_, rfl⟩
            rw [hn] at k0 k1
            have HN := Lib.hid (show (sortV A)[k].1 = n from HQ.out.symm.trans hn)
            have HROWS := Lib.hid (show ∀ w', Kept w4 w' → w'.cell? ⟨b, off + k * 9, none⟩ = some (.int .u64 n.1) ∧ w'.cell? ⟨b, off + k * 9 + 1, none⟩ = some (.string n.2) from fun w' hk' => by
              obtain ⟨b', off', c', he', _, hc'⟩ := (own_readsK (enc := encT) (k := 9) encT_len (by decide) (own_kept HO.out (by decide) hk')).at (by omega)
              injection he' with he1' _ _
              injection he1' with he1'
              injection he1' with e1 e2 _
              subst e1; subst e2
              have h0 := hc' k hlt 0 _ rfl
              have h1 := hc' k hlt 1 _ rfl
              rw [hn] at h0 h1
              exact ⟨h0, h1⟩)
            clear hc hb he2 he3 hcq hn HQ
            go_wp2_with fail
            refine (lt_within HL.out n).mono ?_
            rintro e w5 ⟨u, SW, rfl, ho, hSW, _, hB⟩
            have HWN := Lib.hid (show SW.map (·.1) = wN A n by
              unfold wN; rw [← hSW, List.map_map]; rfl)
            have HL5 := Lib.hid (HL.out.below hB)
            have HK5 := Lib.hid (HK.out.trans (.below hB))
            have HM5 := Lib.hid (HM.out.block (hB.block _ HM.out.lt))
            have HOW := Lib.hid ho
            have hswl : SW.length ≤ 1024 := by
              have h1 := wlen (n := 1024) (S := SW) (by
                rw [(sortV_perm _).length_eq]
                exact Nat.le_trans (List.length_filter_le _ _) HL.out.len) hSW
              exact h1
            obtain ⟨ua, uc, rfl⟩ := (own_readsK (enc := encT) (k := 9) encT_len (by decide) ho).slice
            clear ho hSW hB HL HK HM k0 k1
            go_wp2_with fail
            refine wp_loop_ghost_k (ItO w (.slice (some ⟨b, off, none⟩) S.length vc) (.slice ua SW.length uc) SW.length f m km k A (met A (sortV A) k) (wN A n) w4 w5) SW.length ?atStart4 ?round4
            case atStart4 => exact ⟨0, by omega, HL5.out, HK5.out, Kept.refl _, by rw [List.take_zero, List.append_nil]; exact HM5.out, rfl, rfl, rfl, rfl, rfl, rfl, rfl, rfl⟩
            case round4 =>
              clear HL5 HK5 HM5
              rintro go2 ⟨ts2, ds2⟩ wr ⟨j, hj, hL, hK, hK2, hM, hd, hts2, f3, f11, f12, f13, f14, f15⟩ J4 K4 hJ4 hK4
              have HL := Lib.hid hL
              have HK := Lib.hid hK
              have HKW := Lib.hid hK2
              have HM := Lib.hid hM
              clear hL hK hK2 hM
              simp only at hd hts2 f3 f11 f12 f13 f14 f15
              subst hd
              rw [frame_lit256 hts2, f3, f11, f12, f13, f14, f15]
              clear f3 f11 f12 f13 f14 f15
              by_cases hjl : j < SW.length
              · obtain ⟨b4, off4, c4, he, hb4, hc4⟩ := (own_readsK (enc := encT) (k := 9) encT_len (by decide) (own_kept HOW.out (by decide) HKW.out)).at (by omega)
                injection he with he1 he2 he3
                subst he1
                have hwl : j < (wN A n).length := by rw [← HWN.out, List.length_map]; exact hjl
                have hcj := hc4 j hjl
                obtain ⟨an, han⟩ : ∃ an, SW[j].1 = an := ⟨_, rfl⟩
                have HAN := Lib.hid (show (wN A n)[j] = an by
                  have h1 : (SW.map (·.1))[j]? = (wN A n)[j]? := by rw [HWN.out]
                  rw [List.getElem?_map, List.getElem?_eq_getElem hjl, List.getElem?_eq_getElem hwl] at h1
                  simp at h1; rw [← h1]; exact han)
                have j0 : wr.cell? ⟨b4, off4 + j * 9, none⟩ = some (.int .u64 an.1) := by have h := hcj 0 _ rfl; rw [han] at h; exact h
                have j1 : wr.cell? ⟨b4, off4 + j * 9 + 1, none⟩ = some (.string an.2) := by have h := hcj 1 _ rfl; rw [han] at h; exact h
                have hmem := (wN_mem (A := A)).1 (List.getElem_mem hwl)
                rw [HAN.out] at hmem
                have HANZ := Lib.hid (show an.2.size ≤ 9223372036854775807 from may_size (upN_some hmem.2).2.2.2)
                have HNZ := Lib.hid (show n.2.size ≤ 9223372036854775807 from may_size (upN_lt hmem.2).2.2.1)
                have HUN := Lib.hid (show underS an.2 n.2 = true by
                  obtain ⟨_, h2, h3, h4⟩ := upN_lt hmem.2
                  unfold underS
                  rw [h4, h3, (prefS_iff _ _).2 h2]; rfl)
                have hgn : ∃ r, aboveA A an = some (n, r) := by
                  obtain ⟨r, hr⟩ := Option.isSome_iff_exists.1 (show (getL A n).isSome = true from (upN_some hmem.2).1)
                  exact ⟨r, by unfold aboveA; rw [hmem.2]; simp only [Option.bind_some]; rw [hr]; rfl⟩
                obtain ⟨ar, har⟩ := hgn
                have HAB := Lib.hid har
                clear hmem har
                have hbk : b4 < wr.heap.size ∧ ¬ b4 = km := ⟨hb4, map_cell HM.out j0⟩
                clear hc4 he2 he3 hcj han hb4
                go_upto_region 46 with fail
                have HNEW := Lib.hid (show an ∉ met A (sortV A) k ++ (wN A n).take j by
                  have h1 := met_newN HNS.out HND.out hlt2 HN.out hwl
                  rwa [HAN.out] at h1)
                have HTK := Lib.hid (show met A (sortV A) k ++ (wN A n).take (j + 1) = (met A (sortV A) k ++ (wN A n).take j) ++ [an] by
                  rw [List.take_succ_eq_append_getElem hwl, HAN.out, List.append_assoc])
                have hkd : Kept wr wr.drew := Kept.below ((Below.refl _ _).drew)
                have HLD := Lib.hid (HL.out.below ((Below.refl _ _).drew))
                have HMD := Lib.hid (HM.out.block (w' := wr.drew) rfl)
                have hstart : Fr (fun i => i = km) wr wr.drew := (Fr.refl _ _).drew
                refine wp_region_held_drew (S := fun y => Fr (fun i => i = km) wr y) (by kernel_rfl) hstart (fun hHeld => ?_)
                generalize wr.drew = wd at *
                have hmapd : ∃ es c, wd.heap[km]? = some (.map es c) := by obtain ⟨es, c, hb, _⟩ := HMD.out; exact ⟨es, c, hb⟩
                have hzi : ∀ w : World, (zeroValue 3).run Try.prog w = .ok (.int .i64 0) w := fun w => by kernel_rfl
                obtain ⟨st, w1, hrun, ho1, hM1, hst⟩ := HMD.out.entryZ (P := Try.prog) (v0 := (0 : Int)) nameTy Try.underlying54 (hzi wd) (n := an) (cnt_none HNEW.out) rfl
                have hmap1 : ∃ es c, w1.heap[km]? = some (.map es c) := by obtain ⟨es, c, hb, _⟩ := hM1; exact ⟨es, c, hb⟩
                have hlk0 := HMD.out.lookup (P := Try.prog) nameTy Try.underlying54 (hzi wd) an
                have hlk1 := hM1.lookup (P := Try.prog) nameTy Try.underlying54 (hzi w1) an
                rw [cnt_none HNEW.out] at hlk0
                rw [getL_putV, if_pos rfl] at hlk1
                simp only [Option.map_none, Option.getD_none, Option.map_some, Option.getD_some, evI] at hlk0 hlk1
                unfold encN at hlk0 hlk1 hrun
                unfold goInt at hrun
                have hw1 : IntKind.i64.wrap 1 = 1 := by rw [IntKind.wrap_i64]; omega
                clear hzi HM
                refine wpAnyH_take (i := 0) (oi := _) (v := ?_) (by rw [List.getElem?_toArray]; exact rfl) (by kernel_rfl) (by kernel_rfl) (by kernel_rfl) (by exact fun _ _ _ h => h) (Or.inl ⟨by rfl, ?_⟩) hHeld ?_
                rotate_left
                · (intro wX hSw; clear hSw; go_simp; try with_reducible rfl)
                try simp only [Act.put, List.setIfInBounds_toArray, List.set_cons_zero, List.set_cons_succ]
                refine wpAnyH_take (i := 1) (oi := _) (v := ?_) (by rw [List.getElem?_toArray]; exact rfl) (by kernel_rfl) (by kernel_rfl) (by kernel_rfl) (by exact fun _ _ _ h => h) (Or.inl ⟨by rfl, ?_⟩) hHeld ?_
                rotate_left
                · (intro wX hSw; clear hSw; go_simp; try with_reducible rfl)
                try simp only [Act.put, List.setIfInBounds_toArray, List.set_cons_zero, List.set_cons_succ]
                refine wpAnyH_take (i := 2) (oi := _) (v := ?_) (by rw [List.getElem?_toArray]; exact rfl) (by kernel_rfl) (by kernel_rfl) (by kernel_rfl) (by exact fun _ _ _ h => h) (Or.inl ⟨by rfl, ?_⟩) hHeld ?_
                rotate_left
                · (intro wX hSw; clear hSw; go_simp; try with_reducible rfl)
                try simp only [Act.put, List.setIfInBounds_toArray, List.set_cons_zero, List.set_cons_succ]
                refine wpAnyH_take (i := 3) (oi := _) (v := ?_) (by rw [List.getElem?_toArray]; exact rfl) (by kernel_rfl) (by kernel_rfl) (by kernel_rfl) (by exact fun _ _ _ h => h) (Or.inl ⟨by rfl, ?_⟩) hHeld ?_
                rotate_left
                · (intro wX hSw; clear hSw; go_simp; try with_reducible rfl)
                try simp only [Act.put, List.setIfInBounds_toArray, List.set_cons_zero, List.set_cons_succ]
                refine wpAnyH_take (i := 4) (oi := _) (v := ?_) (by rw [List.getElem?_toArray]; exact rfl) (by kernel_rfl) (by kernel_rfl) (by kernel_rfl) (by exact fun _ _ _ h => h) (Or.inl ⟨by rfl, ?_⟩) hHeld ?_
                rotate_left
                · (intro wX hSw; clear hSw; go_simp; try with_reducible rfl)
                try simp only [Act.put, List.setIfInBounds_toArray, List.set_cons_zero, List.set_cons_succ]
                refine wpAnyH_take (i := 5) (oi := _) (v := ?_) (by rw [List.getElem?_toArray]; exact rfl) (by kernel_rfl) (by kernel_rfl) (by kernel_rfl) (by exact fun _ _ _ h => h) (Or.inl ⟨by rfl, ?_⟩) hHeld ?_
                rotate_left
                · (intro wX hSw; have z0 := (hSw.cell (p := ⟨b4, off4 + j * 9, none⟩) hbk.1 hbk.2).trans j0; have z1 := (hSw.cell (p := ⟨b4, off4 + j * 9 + 1, none⟩) hbk.1 hbk.2).trans j1; clear hSw; go_simp; try with_reducible rfl)
                try simp only [Act.put, List.setIfInBounds_toArray, List.set_cons_zero, List.set_cons_succ]
                refine wpAnyH_ready (rs := [6, 8]) (by kernel_rfl) (by simp) ?_
                refine AllReadyH.cons (o := _) (by rw [List.getElem?_toArray]; exact rfl) (fun K hK => ?_) ?_
                · go_simp
                  refine hK.out _ _ (hHeld) (fun hHeld => ?_)
                  clear hK K
                  try simp only [Act.put, List.setIfInBounds_toArray, List.set_cons_zero, List.set_cons_succ]
                  refine wpAnyH_take (i := 7) (oi := _) (v := ?_) (by rw [List.getElem?_toArray]; exact rfl) (by kernel_rfl) (by kernel_rfl) (by kernel_rfl) (by exact fun _ _ _ h => h) (Or.inl ⟨by rfl, ?_⟩) hHeld ?_
                  rotate_left
                  · (intro wX hSw; clear hSw; go_simp; try with_reducible rfl)
                  try simp only [Act.put, List.setIfInBounds_toArray, List.set_cons_zero, List.set_cons_succ]
                  refine wpAnyH_ready (rs := [8]) (by kernel_rfl) (by simp) ?_
                  refine AllReadyH.cons (o := _) (by rw [List.getElem?_toArray]; exact rfl) (fun K hK => ?_) ?_
                  · go_simp
                    refine hK.out _ _ (hHeld.only ho1 rfl) (fun hHeld => ?_)
                    clear hK K
                    try simp only [Act.put, List.setIfInBounds_toArray, List.set_cons_zero, List.set_cons_succ]
                    refine wpAnyH_take (i := 9) (oi := _) (v := ?_) (by rw [List.getElem?_toArray]; exact rfl) (by kernel_rfl) (by kernel_rfl) (by kernel_rfl) (by exact fun _ _ _ h => h) (Or.inl ⟨by rfl, ?_⟩) hHeld ?_
                    rotate_left
                    · (intro wX hSw; clear hSw; go_simp; try with_reducible rfl)
                    try simp only [Act.put, List.setIfInBounds_toArray, List.set_cons_zero, List.set_cons_succ]
                    refine wpAnyH_ready (rs := [10]) (by kernel_rfl) (by simp) ?_
                    refine AllReadyH.cons (o := _) (by rw [List.getElem?_toArray]; exact rfl) (fun K hK => ?_) ?_
                    · obtain ⟨w9, hrun9, hM9, ho9⟩ := hst w1 1 rfl
                      have hr9 : (Instr.entryStore 54 (.map (some km)) (.int .i64 st) (.int .i64 1)).run Try.prog w1 = .ok () w9 := hrun9
                      go_simp
                      refine hK.out _ _ (hHeld.only ho9 rfl) (fun hHeld => ?_)
                      clear hK K
                      try simp only [Act.put, List.setIfInBounds_toArray, List.set_cons_zero, List.set_cons_succ]
                      refine wpAnyH_done (by kernel_rfl) ?_ _
                      have HR := Lib.hid (show MapL evI w9 km (cntM (met A (sortV A) k ++ (wN A n).take (j + 1))) ∧ Lt w f m A w9 ∧ Kept w4 w9 ∧ Kept w5 w9 ∧ Kept wd w9 from ⟨by rw [HTK.out, ← cnt_snoc HNEW.out]; exact hM9, (HLD.out.only ho1 hkm hmapd hkb).only ho9 hkm hmap1 hkb, ((HK.out.trans hkd).trans (Kept.only ho1 hmapd)).trans (Kept.only ho9 hmap1), ((HKW.out.trans hkd).trans (Kept.only ho1 hmapd)).trans (Kept.only ho9 hmap1), (Kept.only ho1 hmapd).trans (Kept.only ho9 hmap1)⟩)
                      have k0 := (hHeld.cell (p := ⟨b4, off4 + j * 9, none⟩) hbk.1 hbk.2).trans j0
                      have k1 := (hHeld.cell (p := ⟨b4, off4 + j * 9 + 1, none⟩) hbk.1 hbk.2).trans j1
                      have hb49 : b4 < w9.heap.size := Nat.lt_of_lt_of_le hbk.1 hHeld.size
                      clear hHeld hM9 ho9 hrun9 hr9 hw1 hrun hst hlk0 hlk1 ho1 hM1 j0 j1
                      clear hmap1 hmapd hkd HLD HMD HK HKW HL HTK HNEW
                      go_wp2_with fail
                      refine (lt_above HR.out.2.1 an HANZ.out).mono ?_
                      rintro e w10 ⟨⟨h0, _⟩ | ⟨q, hq, rfl, _⟩, hB⟩
                      · rw [HAB.out] at h0; cases h0
                      rw [HAB.out] at hq
                      injection hq with hq
                      obtain ⟨qn, qr⟩ := q
                      obtain rfl : n = qn := congrArg Prod.fst hq
                      have HL10 := Lib.hid (HR.out.2.1.below hB)
                      have HK10 := Lib.hid (HR.out.2.2.1.trans (.below hB))
                      have HW10 := Lib.hid (HR.out.2.2.2.1.trans (.below hB))
                      have HM10 := Lib.hid (HR.out.1.block (hB.block _ HR.out.1.lt))
                      have m0 := cell_keep hB k0
                      have m1 := cell_keep hB k1
                      clear hB hq k0 k1 HR hb49
                      unfold encT
                      go_upto_region 48 with fail
                      have hA : Below w10.heap.size w10 (w10.alloc (.cells [.int .u64 n.1, .string n.2, .string n.2, .int .i64 qr.fn, .slice qr.aa qr.args.length qr.ac, .int .i64 qr.fuel, .int .u8 qr.st, .int .i64 qr.wk, .int .u64 qr.ep].toArray 42)) := (Below.refl _ _).alloc (Nat.le_refl _) _
                      have hx : Box w10.heap.size [.int .u64 n.1, .string n.2, .string n.2, .int .i64 qr.fn, .slice qr.aa qr.args.length qr.ac, .int .i64 qr.fuel, .int .u8 qr.st, .int .i64 qr.wk, .int .u64 qr.ep].toArray 42 (w10.alloc (.cells [.int .u64 n.1, .string n.2, .string n.2, .int .i64 qr.fn, .slice qr.aa qr.args.length qr.ac, .int .i64 qr.fuel, .int .u8 qr.st, .int .i64 qr.wk, .int .u64 qr.ep].toArray 42)) := heap_alloc_new _ _
                      have HL11 := Lib.hid (HL10.out.below hA)
                      have HK11 := Lib.hid (HK10.out.trans (.below hA))
                      have HW11 := Lib.hid (HW10.out.trans (.below hA))
                      have HM11 := Lib.hid (HM10.out.block (hA.block _ HM10.out.lt))
                      have p0 := cell_keep hA m0
                      have p1 := cell_keep hA m1
                      clear HL10 HK10 HW10 HM10 m0 m1 hA
                      generalize w10.heap.size = ub at *
                      generalize w10.alloc (.cells [.int .u64 n.1, .string n.2, .string n.2, .int .i64 qr.fn, .slice qr.aa qr.args.length qr.ac, .int .i64 qr.fuel, .int .u8 qr.st, .int .i64 qr.wk, .int .u64 qr.ep].toArray 42) = w11 at *
                      have u0 : w11.cell? ⟨ub, 0, none⟩ = some (.int .u64 n.1) := hx.cell 0
                      have u1 : w11.cell? ⟨ub, 1, none⟩ = some (.string n.2) := hx.cell 1
                      obtain ⟨h70, h71⟩ := HROWS.out w11 HK11.out
                      have hne := neqSame n
                      clear hx
                      go_wp2_with fail
                      go_still_tail 22, (by kernel_rfl)
                      change wpList _ _ _ _ _ w11.drew
                      go_wp2_with fail
                      have hun := runder_any an.2 n.2 w11.drew HANZ.out HNZ.out
                      rw [HUN.out] at hun
                      refine hun.mono ?_
                      rintro e w12 ⟨rfl, rfl⟩
                      have HL12 := Lib.hid (HL11.out.below ((Below.refl _ _).drew))
                      have HK12 := Lib.hid (HK11.out.trans (.below ((Below.refl _ _).drew)))
                      have HW12 := Lib.hid (HW11.out.trans (.below ((Below.refl _ _).drew)))
                      have HM12 := Lib.hid (HM11.out.block (w' := w11.drew) rfl)
                      clear hun HL11 HK11 HW11 HM11 p0 p1 u0 u1 h70 h71 hne
                      go_wp2_with fail
                      refine Handed.intro (go2 - 1) (by omega) (hJ4 _ _ _ ?_)
                      exact ⟨j + 1, by omega, HL12.out, HK12.out, HW12.out, HM12.out, rfl, rfl, rfl, rfl, rfl, rfl, rfl, by go_num⟩
                    exact AllReadyH.nil
                  exact AllReadyH.nil
                refine AllReadyH.cons (o := _) (by rw [List.getElem?_toArray]; exact rfl) (fun K hK => ?_) ?_
                · go_simp
                  refine hK.out _ _ (hHeld.only ho1 rfl) (fun hHeld => ?_)
                  clear hK K
                  try simp only [Act.put, List.setIfInBounds_toArray, List.set_cons_zero, List.set_cons_succ]
                  refine wpAnyH_take (i := 9) (oi := _) (v := ?_) (by rw [List.getElem?_toArray]; exact rfl) (by kernel_rfl) (by kernel_rfl) (by kernel_rfl) (by exact fun _ _ _ h => h) (Or.inl ⟨by rfl, ?_⟩) hHeld ?_
                  rotate_left
                  · (intro wX hSw; clear hSw; go_simp; try with_reducible rfl)
                  try simp only [Act.put, List.setIfInBounds_toArray, List.set_cons_zero, List.set_cons_succ]
                  refine wpAnyH_ready (rs := [6]) (by kernel_rfl) (by simp) ?_
                  refine AllReadyH.cons (o := _) (by rw [List.getElem?_toArray]; exact rfl) (fun K hK => ?_) ?_
                  · go_simp
                    refine hK.out _ _ (hHeld) (fun hHeld => ?_)
                    clear hK K
                    try simp only [Act.put, List.setIfInBounds_toArray, List.set_cons_zero, List.set_cons_succ]
                    refine wpAnyH_take (i := 7) (oi := _) (v := ?_) (by rw [List.getElem?_toArray]; exact rfl) (by kernel_rfl) (by kernel_rfl) (by kernel_rfl) (by exact fun _ _ _ h => h) (Or.inl ⟨by rfl, ?_⟩) hHeld ?_
                    rotate_left
                    · (intro wX hSw; clear hSw; go_simp; try with_reducible rfl)
                    try simp only [Act.put, List.setIfInBounds_toArray, List.set_cons_zero, List.set_cons_succ]
                    refine wpAnyH_ready (rs := [10]) (by kernel_rfl) (by simp) ?_
                    refine AllReadyH.cons (o := _) (by rw [List.getElem?_toArray]; exact rfl) (fun K hK => ?_) ?_
                    · obtain ⟨w9, hrun9, hM9, ho9⟩ := hst w1 1 rfl
                      have hr9 : (Instr.entryStore 54 (.map (some km)) (.int .i64 st) (.int .i64 1)).run Try.prog w1 = .ok () w9 := hrun9
                      go_simp
                      refine hK.out _ _ (hHeld.only ho9 rfl) (fun hHeld => ?_)
                      clear hK K
                      try simp only [Act.put, List.setIfInBounds_toArray, List.set_cons_zero, List.set_cons_succ]
                      refine wpAnyH_done (by kernel_rfl) ?_ _
                      have HR := Lib.hid (show MapL evI w9 km (cntM (met A (sortV A) k ++ (wN A n).take (j + 1))) ∧ Lt w f m A w9 ∧ Kept w4 w9 ∧ Kept w5 w9 ∧ Kept wd w9 from ⟨by rw [HTK.out, ← cnt_snoc HNEW.out]; exact hM9, (HLD.out.only ho1 hkm hmapd hkb).only ho9 hkm hmap1 hkb, ((HK.out.trans hkd).trans (Kept.only ho1 hmapd)).trans (Kept.only ho9 hmap1), ((HKW.out.trans hkd).trans (Kept.only ho1 hmapd)).trans (Kept.only ho9 hmap1), (Kept.only ho1 hmapd).trans (Kept.only ho9 hmap1)⟩)
                      have k0 := (hHeld.cell (p := ⟨b4, off4 + j * 9, none⟩) hbk.1 hbk.2).trans j0
                      have k1 := (hHeld.cell (p := ⟨b4, off4 + j * 9 + 1, none⟩) hbk.1 hbk.2).trans j1
                      have hb49 : b4 < w9.heap.size := Nat.lt_of_lt_of_le hbk.1 hHeld.size
                      clear hHeld hM9 ho9 hrun9 hr9 hw1 hrun hst hlk0 hlk1 ho1 hM1 j0 j1
                      clear hmap1 hmapd hkd HLD HMD HK HKW HL HTK HNEW
                      go_wp2_with fail
                      refine (lt_above HR.out.2.1 an HANZ.out).mono ?_
                      rintro e w10 ⟨⟨h0, _⟩ | ⟨q, hq, rfl, _⟩, hB⟩
                      · rw [HAB.out] at h0; cases h0
                      rw [HAB.out] at hq
                      injection hq with hq
                      obtain ⟨qn, qr⟩ := q
                      obtain rfl : n = qn := congrArg Prod.fst hq
                      have HL10 := Lib.hid (HR.out.2.1.below hB)
                      have HK10 := Lib.hid (HR.out.2.2.1.trans (.below hB))
                      have HW10 := Lib.hid (HR.out.2.2.2.1.trans (.below hB))
                      have HM10 := Lib.hid (HR.out.1.block (hB.block _ HR.out.1.lt))
                      have m0 := cell_keep hB k0
                      have m1 := cell_keep hB k1
                      clear hB hq k0 k1 HR hb49
                      unfold encT
                      go_upto_region 48 with fail
                      have hA : Below w10.heap.size w10 (w10.alloc (.cells [.int .u64 n.1, .string n.2, .string n.2, .int .i64 qr.fn, .slice qr.aa qr.args.length qr.ac, .int .i64 qr.fuel, .int .u8 qr.st, .int .i64 qr.wk, .int .u64 qr.ep].toArray 42)) := (Below.refl _ _).alloc (Nat.le_refl _) _
                      have hx : Box w10.heap.size [.int .u64 n.1, .string n.2, .string n.2, .int .i64 qr.fn, .slice qr.aa qr.args.length qr.ac, .int .i64 qr.fuel, .int .u8 qr.st, .int .i64 qr.wk, .int .u64 qr.ep].toArray 42 (w10.alloc (.cells [.int .u64 n.1, .string n.2, .string n.2, .int .i64 qr.fn, .slice qr.aa qr.args.length qr.ac, .int .i64 qr.fuel, .int .u8 qr.st, .int .i64 qr.wk, .int .u64 qr.ep].toArray 42)) := heap_alloc_new _ _
                      have HL11 := Lib.hid (HL10.out.below hA)
                      have HK11 := Lib.hid (HK10.out.trans (.below hA))
                      have HW11 := Lib.hid (HW10.out.trans (.below hA))
                      have HM11 := Lib.hid (HM10.out.block (hA.block _ HM10.out.lt))
                      have p0 := cell_keep hA m0
                      have p1 := cell_keep hA m1
                      clear HL10 HK10 HW10 HM10 m0 m1 hA
                      generalize w10.heap.size = ub at *
                      generalize w10.alloc (.cells [.int .u64 n.1, .string n.2, .string n.2, .int .i64 qr.fn, .slice qr.aa qr.args.length qr.ac, .int .i64 qr.fuel, .int .u8 qr.st, .int .i64 qr.wk, .int .u64 qr.ep].toArray 42) = w11 at *
                      have u0 : w11.cell? ⟨ub, 0, none⟩ = some (.int .u64 n.1) := hx.cell 0
                      have u1 : w11.cell? ⟨ub, 1, none⟩ = some (.string n.2) := hx.cell 1
                      obtain ⟨h70, h71⟩ := HROWS.out w11 HK11.out
                      have hne := neqSame n
                      clear hx
                      go_wp2_with fail
                      go_still_tail 22, (by kernel_rfl)
                      change wpList _ _ _ _ _ w11.drew
                      go_wp2_with fail
                      have hun := runder_any an.2 n.2 w11.drew HANZ.out HNZ.out
                      rw [HUN.out] at hun
                      refine hun.mono ?_
                      rintro e w12 ⟨rfl, rfl⟩
                      have HL12 := Lib.hid (HL11.out.below ((Below.refl _ _).drew))
                      have HK12 := Lib.hid (HK11.out.trans (.below ((Below.refl _ _).drew)))
                      have HW12 := Lib.hid (HW11.out.trans (.below ((Below.refl _ _).drew)))
                      have HM12 := Lib.hid (HM11.out.block (w' := w11.drew) rfl)
                      clear hun HL11 HK11 HW11 HM11 p0 p1 u0 u1 h70 h71 hne
                      go_wp2_with fail
                      refine Handed.intro (go2 - 1) (by omega) (hJ4 _ _ _ ?_)
                      exact ⟨j + 1, by omega, HL12.out, HK12.out, HW12.out, HM12.out, rfl, rfl, rfl, rfl, rfl, rfl, rfl, by go_num⟩
                    exact AllReadyH.nil
                  exact AllReadyH.nil
                exact AllReadyH.nil
              · have hjw : (wN A n).length ≤ j := by rw [← HWN.out, List.length_map]; omega
                have HM2 := Lib.hid (show MapL evI wr km (cntM (met A (sortV A) (k + 1))) by
                  rw [met_succ hlt2, HN.out]
                  have h1 := HM.out
                  rwa [List.take_of_length_le hjw] at h1)
                clear HM hjw
                go_wp2_with fail
                refine Handed.intro (go1 - 1) (by omega) (hJ3 _ _ _ ?_)
                exact ⟨k + 1, by omega, HL.out, HK.out, HM2.out, rfl, rfl, rfl, rfl, rfl, by go_num⟩
          · have hkS : k = S.length := by omega
            have HMF := Lib.hid (show MapL evI wr km (cntM (met A (sortV A) (sortV A).length)) by
              have h1 := HM.out
              rwa [hkS, HSL.out] at h1)
            clear HM hkS
            go_wp2_with fail
            refine wp_loop_ghost_k (FiO w (.slice va S.length vc) S.length f m km A w4 (met A (sortV A) (sortV A).length)) S.length ?atStart5 ?round5
            case atStart5 => exact ⟨0, by omega, HL.out, HK.out, HMF.out, rfl, rfl, rfl, rfl, rfl⟩
            case round5 =>
              clear HL HK HMF
              rintro go3 ⟨ts3, ds3⟩ wr ⟨i, hi, hL, hK, hM, hd, hts3, f11, f12, f18⟩ J5 K5 hJ5 hK5
              have HL := Lib.hid hL
              have HK := Lib.hid hK
              have HM := Lib.hid hM
              clear hL hK hM
              simp only at hd hts3 f11 f12 f18
              subst hd
              rw [frame_lit256 hts3, f11, f12, f18]
              clear f11 f12 f18
              by_cases hlt5 : i < S.length
              · obtain ⟨b, off, c, he, hb, hc⟩ := (own_readsK (enc := encT) (k := 9) encT_len (by decide) (own_kept HO.out (by decide) HK.out)).at (by omega)
                injection he with he1 he2 he3
                subst he1
                have hlt2 : i < (sortV A).length := by rw [← HSL.out]; exact hlt5
                have hcq := hc i hlt5
                have hq : S[i].1 = (sortV A)[i].1 := by
                  have h1 : (S.map coreP)[i]? = (sortV A)[i]? := by rw [HS.out]
                  rw [List.getElem?_map, List.getElem?_eq_getElem hlt5, List.getElem?_eq_getElem hlt2] at h1
                  simp at h1; rw [← h1]; rfl
                have HIF := Lib.hid (show S[i].1 ∈ met A (sortV A) (sortV A).length ↔ S[i].1.2.toList ≠ [] by
                  rw [hq]
                  exact met_iff HSP.out HU.out (HSP.out.mem_iff.1 (List.getElem_mem hlt2)))
                have k0 : wr.cell? ⟨b, off + i * 9, none⟩ = some (.int .u64 S[i].1.1) := hcq 0 _ rfl
                have k1 : wr.cell? ⟨b, off + i * 9 + 1, none⟩ = some (.string S[i].1.2) := hcq 1 _ rfl
                clear hq
                generalize S[i].1 = n at *
                have hlk := HM.out.lookup (P := Try.prog) nameTy Try.underlying54 (show (zeroValue 3).run Try.prog wr = .ok (.int .i64 0) wr by kernel_rfl) n
                clear hc hb he2 he3 hcq
                by_cases hne : n.2.toList = []
                · have hnm : n ∉ met A (sortV A) (sortV A).length := fun h => HIF.out.1 h hne
                  rw [cnt_none hnm] at hlk
                  simp only [Option.map_none, Option.getD_none] at hlk
                  unfold encN at hlk
                  have hne2 : (!n.2.toList.isEmpty) = false := by simp [hne]
                  clear hnm
                  go_wp2_with fail
                  refine Handed.intro (go3 - 1) (by omega) (hJ5 _ _ _ ?_)
                  exact ⟨i + 1, by omega, HL.out, HK.out, HM.out, rfl, rfl, rfl, rfl, by go_num⟩
                · have hnm : n ∈ met A (sortV A) (sortV A).length := HIF.out.2 hne
                  rw [cnt_get hnm] at hlk
                  simp only [Option.map_some, Option.getD_some, evI] at hlk
                  unfold encN at hlk
                  have hne2 : (!n.2.toList.isEmpty) = true := by simpa using hne
                  have hne3 : n.2.toList.isEmpty = false := by simpa using hne
                  clear hnm hne
                  go_wp2_with fail
                  refine Handed.intro (go3 - 1) (by omega) (hJ5 _ _ _ ?_)
                  exact ⟨i + 1, by omega, HL.out, HK.out, HM.out, rfl, rfl, rfl, rfl, by go_num⟩
              · go_wp2_with fail
                refine (works_any _).mono ?_
                rintro e w9 ⟨rfl, hB⟩
                have HF9 := Lib.hid (HB0.out.trans (((HL.out.below hB).low).mono HB0.out.size))
                clear hB
                go_wp2_with fail
                go_ret
                exact ⟨ret_boolE rfl, HF9.out⟩
  · clear hb
    have HB0 := Lib.hid hB0
    clear hB0
    go_wp2_with fail
    refine (works_any _).mono ?_
    rintro e w1 ⟨rfl, hB⟩
    have HF := Lib.hid (gthen HB0.out hB)
    clear hB
    go_wp2_with fail
    go_ret
    exact ⟨ret_boolE rfl, HF.out⟩
theorem one_row (v : Value) (W : World) (h : ∃ l, ReadsK encS 10 W v l ∧ l.length ≤ maxLen ∧ ∀ s ∈ l, TskOk W s.t ∧ StpZ s) :
    Calls Try.prog 4 #[v] W fun e w' => e = .returned (.bool true) ∧ Below W.heap.size W w' := by
  obtain ⟨l, h1, h2, h3⟩ := h
  exact one_any v l W h1 (fun s hs => (h3 s hs).2) (fun s hs => (h3 s hs).1) (by unfold maxLen at h2; omega)
end Go.Proofs.Ytpdnebimkfejoaa
