/- JoinWakes: its walk. -/
import Derived.Test.YthbkbmkcgpdedaaFrame17
import Derived.Test.YthbkbmkcgpdedaaJoin12
namespace Go.Proofs.Ythbkbmkcgpdedaa
open Go.RowKit Go.Sort Go.Lib
set_option linter.unusedVariables false
set_option linter.unusedSimpArgs false

abbrev stepC (x : Stp) (ta : Option Addr) (tc : Nat) : Array Value := #[.int .i64 x.op, .int .u64 x.job, .int .u64 x.n.1, .string x.n.2, .int .u64 x.m.1, .string x.m.2, .string x.t.p, .int .i64 x.t.fn, .slice ta x.t.args.length tc, .int .i64 x.t.fuel, .int .i64 x.val, .int .i64 x.err]
abbrev StepT : TypeId := 42
theorem step_cells {w : World} {s : Nat} {x : Stp} {ta : Option Addr} {tc : Nat} (h : Box s (stepC x ta tc) StepT w) :
    w.cell? ⟨s, 0, none⟩ = some (.int .i64 x.op) ∧ w.cell? ⟨s, 1, none⟩ = some (.int .u64 x.job) ∧ w.cell? ⟨s, 2, none⟩ = some (.int .u64 x.n.1) ∧ w.cell? ⟨s, 3, none⟩ = some (.string x.n.2) ∧ w.cell? ⟨s, 6, none⟩ = some (.string x.t.p) ∧ w.cell? ⟨s, 7, none⟩ = some (.int .i64 x.t.fn) ∧ w.cell? ⟨s, 8, none⟩ = some (.slice ta x.t.args.length tc) ∧ w.cell? ⟨s, 9, none⟩ = some (.int .i64 x.t.fuel) ∧ w.cell? ⟨s, 10, none⟩ = some (.int .i64 x.val) ∧ w.cell? ⟨s, 11, none⟩ = some (.int .i64 x.err) :=
  ⟨h.cell 0, h.cell 1, h.cell 2, h.cell 3, h.cell 6, h.cell 7, h.cell 8, h.cell 9, h.cell 10, h.cell 11⟩
theorem step_keep {w w' : World} {s : Nat} {x : Stp} {ta : Option Addr} {tc : Nat} (h : Box s (stepC x ta tc) StepT w) (hk : Kept w w') : Box s (stepC x ta tc) StepT w' := hk _ _ _ (by decide) h
def FrI (sv : Value) (f km : Nat) (k : Int) (a : Act) : Prop := a.defers = [] ∧ a.tmps.size = 313 ∧ sl a.tmps 0 = sv ∧ sl a.tmps 3 = .pointer (some ⟨f, 0, none⟩) ∧ sl a.tmps 5 = .map (some km) ∧ sl a.tmps 6 = .int .i64 k
def PlI (w : World) (sv : Value) (L f m gk : Nat) (a : Act) (wr : World) : Prop := ∃ (k km : Nat) (T : Tb) (K : List (Nm × Nm)), gk + k = L ∧ Jw w f m km T K wr ∧ KOk T K ∧ FrI sv f km k a
def CuI (w : World) (sv : Value) (f m k : Nat) (a : Act) (wc : World) : Prop := ∃ (km : Nat) (T : Tb) (K : List (Nm × Nm)), Jw w f m km T K wc ∧ KOk T K ∧ FrI sv f km k a
def RoI (w : World) (sv : Value) (f m km k : Nat) (T : Tb) (K : List (Nm × Nm)) (v : Value) (S : List Rl) (gj : Nat) (a : Act) (wr : World) : Prop := ∃ j : Nat, gj + j = S.length ∧ Jw w f m km T K wr ∧ ReadsK encT 10 wr v S ∧ FrI sv f km k a ∧ sl a.tmps 25 = v ∧ sl a.tmps 26 = .int .i64 j
def LoI (w : World) (sv : Value) (f m km k j : Nat) (T : Tb) (K : List (Nm × Nm)) (v : Value) (S : List Rl) (nm : Nm) (gi : Nat) (a : Act) (wr : World) : Prop := ∃ i : Nat, gi + i = S.length ∧ Jw w f m km T K wr ∧ ReadsK encT 10 wr v S ∧ FrI sv f km k a ∧ sl a.tmps 25 = v ∧ sl a.tmps 26 = .int .i64 j ∧ sl a.tmps 27 = .int .i64 ((S.take i).countP (openF K nm)) ∧ sl a.tmps 28 = .int .i64 i
def DlI (w : World) (sv : Value) (f m km km2 ir k s : Nat) (T : Tb) (K : List (Nm × Nm)) (x : Stp) (ta : Option Addr) (tc : Nat) (gj : Nat) (a : Act) (wr : World) : Prop := ∃ (done : List Nm) (K2 : List (Nm × Nm)), gj + done.length = K.length ∧ Dl w f m km km2 ir (dropT T x.n) K K2 x.n done done wr ∧ Box s (stepC x ta tc) StepT wr ∧ FrI sv f km k a ∧ sl a.tmps 7 = .pointer (some ⟨s, 0, none⟩) ∧ sl a.tmps 22 = .map (some km2) ∧ sl a.tmps 210 = .pointer (some ⟨ir, 0, none⟩)
set_option maxRecDepth 100000 in
theorem neqSame (a : Nm) (w : World) : (binOp .neq 35 (.agg #[.int .u64 a.1, .string a.2]) (.agg #[.int .u64 a.1, .string a.2])).run Try.prog w = .ok (.bool false) w := by
  go_simp
  try simp
abbrev NameT : TypeId := 35
abbrev RowT : TypeId := 58
theorem kids_look {w : World} {km : Nat} {K : List (Nm × Nm)} (h : MapL encN w km K) (n : Nm) : ∃ (pn : Nm) (fk : Bool), ((Instr.lookup 67 (.map (some km)) (.agg #[.int .u64 n.1, .string n.2]) true).run Try.prog w = .ok (.tuple #[.agg #[.int .u64 pn.1, .string pn.2], .bool fk]) w) ∧ ((fk = true ∧ getL K n = some pn) ∨ (fk = false ∧ getL K n = none)) := by
  have hz : ∀ w : World, (zeroValue 35).run Try.prog w = .ok (.agg #[.int .u64 0, .string ⟨#[]⟩]) w := fun w => by kernel_rfl
  have hl : (Instr.lookup 67 (.map (some km)) (.agg #[.int .u64 n.1, .string n.2]) true).run Try.prog w = .ok (.tuple #[((getL K n).map encN).getD (.agg #[.int .u64 0, .string ⟨#[]⟩]), .bool (getL K n).isSome]) w := h.lookupOk (P := Try.prog) nameTy Try.underlying67 (hz _) n
  cases hg : getL K n with
  | none => exact ⟨(0, ⟨#[]⟩), false, hl.trans (by rw [hg]; rfl), .inr ⟨rfl, rfl⟩⟩
  | some p => exact ⟨p, true, hl.trans (by rw [hg]; rfl), .inl ⟨rfl, rfl⟩⟩
set_option maxHeartbeats 16000000 in
set_option maxRecDepth 100000 in
theorem wakes_any (v : Value) (l : List Stp) (w0 : World) (hv : ReadsK encS 12 w0 v l) (hz : ∀ s ∈ l, StpZ s) (ht : ∀ s ∈ l, TskOk w0 s.t) (hl : (l.length : Int) ≤ 9223372036854775807) :
    Calls Try.prog 4 #[v] w0 fun e w' => e = .returned (.bool true) ∧ Below w0.heap.size w0 w' := by
  obtain ⟨a, cap, rfl⟩ := hv.slice
  have HV := Lib.hid hv
  have HZ := Lib.hid hz
  have HT := Lib.hid ht
  clear hv hz ht
  go_enter Try.func4, Try.ntmps4
  have hmk := @Go.RowKit.run_makeMap Try.prog
  go_wp2_with fail
  refine (heavy_any _ l w0 HV.out hl HZ.out HT.out).mono ?_
  rintro e w ⟨b, rfl, hB0, hb⟩
  cases b
  · obtain ⟨hl2, hz2⟩ := hb rfl
    have HV1 := Lib.hid (HV.out.below hB0)
    have HT1 := Lib.hid (fun s hs => (show TskOk w s.t from ⟨(HT.out s hs).1.below hB0, (HT.out s hs).2⟩))
    have HZ2 := Lib.hid hz2
    have HB0 := Lib.hid hB0
    clear hb hB0 HV HT HZ hl hz2
    go_wp2_with fail
    refine (new_tab 200 w (by decide) (by decide)).mono ?_
    intro e w1 hM
    obtain ⟨f, m, rfl, hJ, hK⟩ := jw_start hM
    have HJ := Lib.hid hJ
    have HK := Lib.hid hK
    clear hM hJ hK
    go_wp2_with fail
    generalize w1.heap.size = km0 at *
    refine wp_loop_ghost_k (PlI w (.slice a l.length cap) l.length f m) l.length ?atStart ?round
    case atStart => exact ⟨0, km0, [], [], by omega, HJ.out, HK.out, rfl, rfl, rfl, rfl, rfl, rfl⟩
    case round =>
      clear HJ HK hmk
      rintro go0 ⟨ts, ds⟩ wr ⟨k, km, T, KM, hk, hJ, hK, hd, hts, f0, f3, f5, f6⟩ J K9 hJ9 hK9
      have HJ := Lib.hid hJ
      have HK := Lib.hid hK
      clear hJ hK
      simp only at hd hts f0 f3 f5 f6
      subst hd
      rw [frame_lit hts, f0, f3, f5, f6]
      clear f0 f3 f5 f6
      by_cases hlt : k < l.length
      · obtain ⟨b, off, c, he, hb, hc⟩ := (HV1.out.below (HJ.out.wj.low)).at (by omega)
        injection he with he1 he2 he3
        subst he1
        have HX := Lib.hid (HZ2.out _ (List.getElem_mem hlt))
        have HXT := Lib.hid (HT1.out _ (List.getElem_mem hlt))
        have hcc := hc k hlt
        clear hc he2 he3
        generalize l[k] = x at hcc HX HXT
        obtain ⟨ta, tc, hs4⟩ := HXT.out.1.slice
        have c0 : wr.cell? ⟨b, off + k * 12, none⟩ = some (.int .i64 x.op) := hcc 0 _ rfl
        have c1 : wr.cell? ⟨b, off + k * 12 + 1, none⟩ = some (.int .u64 x.job) := hcc 1 _ rfl
        have c2 : wr.cell? ⟨b, off + k * 12 + 2, none⟩ = some (.int .u64 x.n.1) := hcc 2 _ rfl
        have c3 : wr.cell? ⟨b, off + k * 12 + 3, none⟩ = some (.string x.n.2) := hcc 3 _ rfl
        have c4 : wr.cell? ⟨b, off + k * 12 + 4, none⟩ = some (.int .u64 x.m.1) := hcc 4 _ rfl
        have c5 : wr.cell? ⟨b, off + k * 12 + 5, none⟩ = some (.string x.m.2) := hcc 5 _ rfl
        have c6 : wr.cell? ⟨b, off + k * 12 + 6, none⟩ = some (.string x.t.p) := hcc 6 _ rfl
        have c7 : wr.cell? ⟨b, off + k * 12 + 7, none⟩ = some (.int .i64 x.t.fn) := hcc 7 _ rfl
        have c8 : wr.cell? ⟨b, off + k * 12 + 8, none⟩ = some (.slice ta x.t.args.length tc) := hs4 ▸ hcc 8 _ rfl
        have c9 : wr.cell? ⟨b, off + k * 12 + 9, none⟩ = some (.int .i64 x.t.fuel) := hcc 9 _ rfl
        have c10 : wr.cell? ⟨b, off + k * 12 + 10, none⟩ = some (.int .i64 x.val) := hcc 10 _ rfl
        have c11 : wr.cell? ⟨b, off + k * 12 + 11, none⟩ = some (.int .i64 x.err) := hcc 11 _ rfl
        have hA : Below wr.heap.size wr (wr.alloc (.cells (stepC x ta tc) StepT)) := (Below.refl _ _).alloc (Nat.le_refl _) _
        have HJS := Lib.hid (HJ.out.below hA)
        clear hcc hb hA
        go_upto_block 2 with fail
        have HS : Box wr.heap.size (stepC x ta tc) StepT (wr.alloc (.cells (stepC x ta tc) StepT)) := heap_alloc_new _ _
        simp only [stepC] at HS HJS
        generalize wr.alloc (.cells #[.int .i64 x.op, .int .u64 x.job, .int .u64 x.n.1, .string x.n.2, .int .u64 x.m.1, .string x.m.2, .string x.t.p, .int .i64 x.t.fn, .slice ta x.t.args.length tc, .int .i64 x.t.fuel, .int .i64 x.val, .int .i64 x.err] StepT) = ws at *
        clear HJ c0 c1 c2 c3 c4 c5 c6 c7 c8 c9 c10 c11
        generalize wr.heap.size = s at *
        refine wp_cut (CuI w (.slice (some ⟨b, off, none⟩) l.length cap) f m k) ?rest ?first
        case first =>
          intro J2 K2 hJ2 hK2
          have HSS : Hid (Box s (stepC x ta tc) StepT ws) := HS
          obtain ⟨s0, s1, s2, s3, s6, s7, s8, s9, s10, s11⟩ := step_cells HS
          clear HS
          by_cases h0 : x.op = 0
          ·
            go_upto_region 13 with fail
            have hlow := HJS.out.wj.low
            have HR := Lib.hid (show ReadsK encI 1 ws.drew (.slice ta x.t.args.length tc) x.t.args from ((hs4 ▸ HXT.out.1 : ReadsK encI 1 w (.slice ta x.t.args.length tc) x.t.args).below hlow).below ((Below.refl _ _).drew))
            have hxt : x.t.args.length ≤ 8192 := by have := HX.out; unfold totS at this; omega
            have hxp : x.t.p.size ≤ 8192 := by have := HX.out; unfold totS at this; omega
            clear hlow
            clear s0 s1 s2 s3 s6 s7 s8 s9 s10 s11
            refine wp_region_held_drew (S := fun y => Box s (stepC x ta tc) StepT y) (by kernel_rfl) (HSS.out) (fun hHeld => ?_)
            refine wpAnyH_take (i := 0) (oi := _) (v := ?_) (by rw [List.getElem?_toArray]; exact rfl) (by kernel_rfl) (by kernel_rfl) (by kernel_rfl) (by exact fun _ _ _ h => h) (Or.inl ⟨by rfl, ?_⟩) hHeld ?_
            rotate_left
            · (intro wX hSw; obtain ⟨z0, z1, z2, z3, z6, z7, z8, z9, _, _⟩ := step_cells hSw; clear hSw; go_simp; try with_reducible rfl)
            try simp only [Act.put, List.setIfInBounds_toArray, List.set_cons_zero, List.set_cons_succ]
            refine wpAnyH_take (i := 1) (oi := _) (v := ?_) (by rw [List.getElem?_toArray]; exact rfl) (by kernel_rfl) (by kernel_rfl) (by kernel_rfl) (by exact fun _ _ _ h => h) (Or.inl ⟨by rfl, ?_⟩) hHeld ?_
            rotate_left
            · (intro wX hSw; obtain ⟨z0, z1, z2, z3, z6, z7, z8, z9, _, _⟩ := step_cells hSw; clear hSw; go_simp; try with_reducible rfl)
            try simp only [Act.put, List.setIfInBounds_toArray, List.set_cons_zero, List.set_cons_succ]
            refine wpAnyH_take (i := 2) (oi := _) (v := ?_) (by rw [List.getElem?_toArray]; exact rfl) (by kernel_rfl) (by kernel_rfl) (by kernel_rfl) (by exact fun _ _ _ h => h) (Or.inl ⟨by rfl, ?_⟩) hHeld ?_
            rotate_left
            · (intro wX hSw; obtain ⟨z0, z1, z2, z3, z6, z7, z8, z9, _, _⟩ := step_cells hSw; clear hSw; go_simp; try with_reducible rfl)
            try simp only [Act.put, List.setIfInBounds_toArray, List.set_cons_zero, List.set_cons_succ]
            refine wpAnyH_take (i := 3) (oi := _) (v := ?_) (by rw [List.getElem?_toArray]; exact rfl) (by kernel_rfl) (by kernel_rfl) (by kernel_rfl) (by exact fun _ _ _ h => h) (Or.inl ⟨by rfl, ?_⟩) hHeld ?_
            rotate_left
            · (intro wX hSw; obtain ⟨z0, z1, z2, z3, z6, z7, z8, z9, _, _⟩ := step_cells hSw; clear hSw; go_simp; try with_reducible rfl)
            try simp only [Act.put, List.setIfInBounds_toArray, List.set_cons_zero, List.set_cons_succ]
            refine wpAnyH_take (i := 4) (oi := _) (v := ?_) (by rw [List.getElem?_toArray]; exact rfl) (by kernel_rfl) (by kernel_rfl) (by kernel_rfl) (by exact fun _ _ _ h => h) (Or.inl ⟨by rfl, ?_⟩) hHeld ?_
            rotate_left
            · (intro wX hSw; obtain ⟨z0, z1, z2, z3, z6, z7, z8, z9, _, _⟩ := step_cells hSw; clear hSw; go_simp; try with_reducible rfl)
            try simp only [Act.put, List.setIfInBounds_toArray, List.set_cons_zero, List.set_cons_succ]
            refine wpAnyH_ready (rs := [5]) (by kernel_rfl) (by simp) ?_
            refine AllReadyH.cons (o := _) (by rw [List.getElem?_toArray]; exact rfl) (fun K hK => ?_) ?_
            · go_simp
              refine (ownL_any x.t.p x.t.fn x.t.fuel _ x.t.args _ HR.out (by omega)).mono ?_; rintro e wc ⟨oa, oc, rfl, ho, hB⟩; have HO := Lib.hid (show ReadsK encI 1 wc (.slice oa x.t.args.length oc) x.t.args from own_readsK (enc := encI) (k := 1) (fun _ => rfl) (by decide) ho); have HJC := Lib.hid (HJS.out.below (gdrew hB)); have HBC := Lib.hid hB; clear ho hB
              go_wp2_with fail
              refine hK.out _ _ (step_keep hHeld (.below HBC.out)) (fun hHeld => ?_)
              clear hK K
              try simp only [Act.put, List.setIfInBounds_toArray, List.set_cons_zero, List.set_cons_succ]
              refine wpAnyH_ready (rs := [6]) (by kernel_rfl) (by simp) ?_
              refine AllReadyH.cons (o := _) (by rw [List.getElem?_toArray]; exact rfl) (fun K hK => ?_) ?_
              · go_simp
                refine (put_w HJC.out x.job x.t.p x.t.fn x.t.fuel _ x.t.args HO.out hxt (by omega)).mono ?_; rintro e w3 ⟨rfl, T3, hJ3, hk3, hK3⟩; have HF := Lib.hid (show Jw w f m km T3 KM w3 ∧ KOk T3 KM from ⟨hJ3, hK3 HK.out⟩); have HK3 := Lib.hid hk3; clear hJ3 hk3 hK3
                go_wp2_with fail
                refine hK.out _ _ (step_keep hHeld HK3.out) (fun hHeld => ?_)
                clear hK K
                try simp only [Act.put, List.setIfInBounds_toArray, List.set_cons_zero, List.set_cons_succ]
                refine wpAnyH_done (by kernel_rfl) ?_ _
                clear hHeld
                go_wp2_with fail
                refine Met.intro (hJ2 _ _ ?_)
                exact ⟨_, _, _, HF.out.1, HF.out.2, rfl, rfl, rfl, rfl, rfl, rfl⟩
              exact AllReadyH.nil
            exact AllReadyH.nil
          ·
            by_cases h1 : x.op = 1
            ·
              go_upto_region 15 with fail
              have hlow := HJS.out.wj.low
              have HR := Lib.hid (show ReadsK encI 1 ws.drew (.slice ta x.t.args.length tc) x.t.args from ((hs4 ▸ HXT.out.1 : ReadsK encI 1 w (.slice ta x.t.args.length tc) x.t.args).below hlow).below ((Below.refl _ _).drew))
              have hxt : x.t.args.length ≤ 8192 := by have := HX.out; unfold totS at this; omega
              have hxp : x.t.p.size ≤ 8192 := by have := HX.out; unfold totS at this; omega
              clear hlow
              clear s0 s1 s2 s3 s6 s7 s8 s9 s10 s11
              refine wp_region_held_drew (S := fun y => Box s (stepC x ta tc) StepT y) (by kernel_rfl) (HSS.out) (fun hHeld => ?_)
              refine wpAnyH_take (i := 0) (oi := _) (v := ?_) (by rw [List.getElem?_toArray]; exact rfl) (by kernel_rfl) (by kernel_rfl) (by kernel_rfl) (by exact fun _ _ _ h => h) (Or.inl ⟨by rfl, ?_⟩) hHeld ?_
              rotate_left
              · (intro wX hSw; obtain ⟨z0, z1, z2, z3, z6, z7, z8, z9, _, _⟩ := step_cells hSw; clear hSw; go_simp; try with_reducible rfl)
              try simp only [Act.put, List.setIfInBounds_toArray, List.set_cons_zero, List.set_cons_succ]
              refine wpAnyH_take (i := 1) (oi := _) (v := ?_) (by rw [List.getElem?_toArray]; exact rfl) (by kernel_rfl) (by kernel_rfl) (by kernel_rfl) (by exact fun _ _ _ h => h) (Or.inl ⟨by rfl, ?_⟩) hHeld ?_
              rotate_left
              · (intro wX hSw; obtain ⟨z0, z1, z2, z3, z6, z7, z8, z9, _, _⟩ := step_cells hSw; clear hSw; go_simp; try with_reducible rfl)
              try simp only [Act.put, List.setIfInBounds_toArray, List.set_cons_zero, List.set_cons_succ]
              refine wpAnyH_take (i := 2) (oi := _) (v := ?_) (by rw [List.getElem?_toArray]; exact rfl) (by kernel_rfl) (by kernel_rfl) (by kernel_rfl) (by exact fun _ _ _ h => h) (Or.inl ⟨by rfl, ?_⟩) hHeld ?_
              rotate_left
              · (intro wX hSw; obtain ⟨z0, z1, z2, z3, z6, z7, z8, z9, _, _⟩ := step_cells hSw; clear hSw; go_simp; try with_reducible rfl)
              try simp only [Act.put, List.setIfInBounds_toArray, List.set_cons_zero, List.set_cons_succ]
              refine wpAnyH_take (i := 3) (oi := _) (v := ?_) (by rw [List.getElem?_toArray]; exact rfl) (by kernel_rfl) (by kernel_rfl) (by kernel_rfl) (by exact fun _ _ _ h => h) (Or.inl ⟨by rfl, ?_⟩) hHeld ?_
              rotate_left
              · (intro wX hSw; obtain ⟨z0, z1, z2, z3, z6, z7, z8, z9, _, _⟩ := step_cells hSw; clear hSw; go_simp; try with_reducible rfl)
              try simp only [Act.put, List.setIfInBounds_toArray, List.set_cons_zero, List.set_cons_succ]
              refine wpAnyH_take (i := 4) (oi := _) (v := ?_) (by rw [List.getElem?_toArray]; exact rfl) (by kernel_rfl) (by kernel_rfl) (by kernel_rfl) (by exact fun _ _ _ h => h) (Or.inl ⟨by rfl, ?_⟩) hHeld ?_
              rotate_left
              · (intro wX hSw; obtain ⟨z0, z1, z2, z3, z6, z7, z8, z9, _, _⟩ := step_cells hSw; clear hSw; go_simp; try with_reducible rfl)
              try simp only [Act.put, List.setIfInBounds_toArray, List.set_cons_zero, List.set_cons_succ]
              refine wpAnyH_ready (rs := [5]) (by kernel_rfl) (by simp) ?_
              refine AllReadyH.cons (o := _) (by rw [List.getElem?_toArray]; exact rfl) (fun K hK => ?_) ?_
              · go_simp
                refine (ownL_any x.t.p x.t.fn x.t.fuel _ x.t.args _ HR.out (by omega)).mono ?_; rintro e wc ⟨oa, oc, rfl, ho, hB⟩; have HO := Lib.hid (show ReadsK encI 1 wc (.slice oa x.t.args.length oc) x.t.args from own_readsK (enc := encI) (k := 1) (fun _ => rfl) (by decide) ho); have HJC := Lib.hid (HJS.out.below (gdrew hB)); have HBC := Lib.hid hB; clear ho hB
                go_wp2_with fail
                refine hK.out _ _ (step_keep hHeld (.below HBC.out)) (fun hHeld => ?_)
                clear hK K
                try simp only [Act.put, List.setIfInBounds_toArray, List.set_cons_zero, List.set_cons_succ]
                refine wpAnyH_ready (rs := [6]) (by kernel_rfl) (by simp) ?_
                refine AllReadyH.cons (o := _) (by rw [List.getElem?_toArray]; exact rfl) (fun K hK => ?_) ?_
                · go_simp
                  refine (fork_w HJC.out x.n x.t.p x.t.fn x.t.fuel _ x.t.args HO.out hxt (by omega)).mono ?_; rintro e w3 ⟨fb, rfl, T3, hJ3, hk3, hK3, hK4⟩; have HJ3 := Lib.hid hJ3; have HKN := Lib.hid (fun h => hK3 h HK.out); have HKZ := Lib.hid (fun h => hK4 h HK.out); have HK3 := Lib.hid hk3; clear hJ3 hk3 hK3 hK4
                  go_wp2_with fail
                  refine hK.out _ _ (step_keep hHeld HK3.out) (fun hHeld => ?_)
                  clear hK K
                  try simp only [Act.put, List.setIfInBounds_toArray, List.set_cons_zero, List.set_cons_succ]
                  refine wpAnyH_take (i := 7) (oi := _) (v := ?_) (by rw [List.getElem?_toArray]; exact rfl) (by kernel_rfl) (by kernel_rfl) (by kernel_rfl) (by exact fun _ _ _ h => h) (Or.inl ⟨by rfl, ?_⟩) hHeld ?_
                  rotate_left
                  · (intro wX hSw; obtain ⟨z0, z1, z2, z3, z6, z7, z8, z9, _, _⟩ := step_cells hSw; clear hSw; go_simp; try with_reducible rfl)
                  try simp only [Act.put, List.setIfInBounds_toArray, List.set_cons_zero, List.set_cons_succ]
                  refine wpAnyH_done (by kernel_rfl) ?_ _
                  by_cases hb0 : fb = 0
                  · subst hb0
                    obtain ⟨_, _, t2, t3, t6, _⟩ := step_cells hHeld
                    obtain ⟨w4, hr4, hM4, hO4⟩ := HJ3.out.kmp.update (P := Try.prog) nameTy Try.underlying67 (x.n.1, x.t.p) x.n
                    unfold encN at hr4
                    have HF := Lib.hid (show Jw w f m km T3 (putL KM (x.n.1, x.t.p) x.n) w4 ∧ KOk T3 (putL KM (x.n.1, x.t.p) x.n) from ⟨(HJ3.out.putK hO4 hM4).1, HKZ.out rfl⟩)
                    clear hHeld hM4 hO4
                    go_wp2_with fail
                    refine Met.intro (hJ2 _ _ ?_)
                    exact ⟨_, _, _, HF.out.1, HF.out.2, rfl, rfl, rfl, rfl, rfl, rfl⟩
                  · have e0 : (fb == 0) = false := by simp [hb0]
                    have HF := Lib.hid (show Jw w f m km T3 KM w3 ∧ KOk T3 KM from ⟨HJ3.out, HKN.out hb0⟩)
                    clear hHeld hb0
                    go_wp2_with fail
                    refine Met.intro (hJ2 _ _ ?_)
                    exact ⟨_, _, _, HF.out.1, HF.out.2, rfl, rfl, rfl, rfl, rfl, rfl⟩
                exact AllReadyH.nil
              exact AllReadyH.nil
            ·
              by_cases h2 : x.op = 2
              ·
                go_wp2_with fail
                refine (begin_w HJS.out x.n).mono ?_
                rintro e w3 ⟨v3, rfl, T3, hJ3, hk3, hK3⟩
                have HF := Lib.hid (show Jw w f m km T3 KM w3 ∧ KOk T3 KM from ⟨hJ3, hK3 HK.out⟩)
                clear hJ3 hk3 hK3
                clear s0 s1 s2 s3 s6 s7 s8 s9 s10 s11
                go_wp2_with fail
                refine Met.intro (hJ2 _ _ ?_)
                exact ⟨_, _, _, HF.out.1, HF.out.2, rfl, rfl, rfl, rfl, rfl, rfl⟩
              ·
                by_cases h3 : x.op = 3
                ·
                  go_wp2_with fail
                  refine (get_w HJS.out x.n).mono ?_
                  rintro e w3 ⟨n3, ua3, un3, uc3, b3, rfl, hJ3, hk3⟩
                  have HS3 := Lib.hid (step_keep HSS.out hk3)
                  have HJ3 := Lib.hid hJ3
                  clear hJ3 hk3 s0 s1 s2 s3 s6 s7 s8 s9 s10 s11
                  have hbx : ∀ c, Box w3.heap.size c 58 (w3.alloc (.cells c 58)) := fun c => heap_alloc_new _ _
                  have hbl : ∀ c, Below w3.heap.size w3 (w3.alloc (.cells c 58)) := fun c => (Below.refl _ _).alloc (Nat.le_refl _) _
                  have t2 := fun c => (step_cells (step_keep HS3.out (.below (hbl c)))).2.2.1
                  have t3 := fun c => (step_cells (step_keep HS3.out (.below (hbl c)))).2.2.2.1
                  have HBX := Lib.hid hbx
                  have HBL := Lib.hid hbl
                  clear hbx hbl
                  go_wp2_with fail
                  refine (wait_w (HJ3.out.below (HBL.out _)) x.n).mono ?_
                  rintro e w4 ⟨is, c, rfl, hc, T4, hJ4, hk4, hK4⟩
                  have hr := hk4 _ _ _ (by decide) (HBX.out _)
                  have r3 := hr.cell 7
                  simp only [List.getElem?_toArray, List.getElem?_cons_zero, List.getElem?_cons_succ] at r3
                  have HF := Lib.hid (show Jw w f m km T4 KM w4 ∧ KOk T4 KM from ⟨hJ4, hK4 HK.out⟩)
                  clear hJ4 hk4 hK4 hr HBX HBL HJ3
                  by_cases hc0 : c = 0
                  · have hcc := hc hc0
                    subst hc0
                    clear hc
                    by_cases hop : (getR T x.n).op > 0
                    · rw [decide_eq_true hop] at hcc
                      subst hcc
                      go_wp2_with fail
                      refine Met.intro (hJ2 _ _ ?_)
                      exact ⟨_, _, _, HF.out.1, HF.out.2, rfl, rfl, rfl, rfl, rfl, rfl⟩
                    · rw [decide_eq_false hop] at hcc
                      subst hcc
                      go_wp2_with fail
                      refine Met.intro (hJ2 _ _ ?_)
                      exact ⟨_, _, _, HF.out.1, HF.out.2, rfl, rfl, rfl, rfl, rfl, rfl⟩
                  · clear hc
                    go_wp2_with fail
                    refine Met.intro (hJ2 _ _ ?_)
                    exact ⟨_, _, _, HF.out.1, HF.out.2, rfl, rfl, rfl, rfl, rfl, rfl⟩
                ·
                  by_cases h4 : x.op = 4
                  ·
                    go_wp2_with fail
                    refine (leave_w HJS.out x.n).mono ?_
                    rintro e w3 ⟨v3, rfl, T3, hJ3, hk3, hK3⟩
                    have HF := Lib.hid (show Jw w f m km T3 KM w3 ∧ KOk T3 KM from ⟨hJ3, hK3 HK.out⟩)
                    clear hJ3 hk3 hK3
                    clear s0 s1 s2 s3 s6 s7 s8 s9 s10 s11
                    go_wp2_with fail
                    refine Met.intro (hJ2 _ _ ?_)
                    exact ⟨_, _, _, HF.out.1, HF.out.2, rfl, rfl, rfl, rfl, rfl, rfl⟩
                  ·
                    by_cases h5 : x.op = 5
                    ·
                      go_wp2_with fail
                      refine (back_w HJS.out x.n).mono ?_
                      rintro e w3 ⟨v3, rfl, T3, hJ3, hk3, hK3⟩
                      have HF := Lib.hid (show Jw w f m km T3 KM w3 ∧ KOk T3 KM from ⟨hJ3, hK3 HK.out⟩)
                      clear hJ3 hk3 hK3
                      clear s0 s1 s2 s3 s6 s7 s8 s9 s10 s11
                      go_wp2_with fail
                      refine Met.intro (hJ2 _ _ ?_)
                      exact ⟨_, _, _, HF.out.1, HF.out.2, rfl, rfl, rfl, rfl, rfl, rfl⟩
                    ·
                      by_cases h6 : x.op = 6
                      ·
                        obtain ⟨pn, fk, hlk, hpf⟩ := kids_look HJS.out.kmp x.n
                        have HPF := Lib.hid hpf
                        have HBX := Lib.hid (show ∀ c, Box ws.heap.size c NameT (ws.alloc (.cells c NameT)) from fun c => heap_alloc_new _ _)
                        have HBL := Lib.hid (show ∀ c, Below ws.heap.size ws (ws.alloc (.cells c NameT)) from fun c => (Below.refl _ _).alloc (Nat.le_refl _) _)
                        clear hpf
                        go_wp2_with fail
                        refine (get_w (HJS.out.below (HBL.out _)) pn).mono ?_
                        rintro e w3 ⟨n3, ua3, un3, uc3, b3, rfl, hJ3, hk3⟩
                        have HN3 := Lib.hid (hk3 _ _ _ (by decide) (HBX.out #[.int .u64 pn.1, .string pn.2]))
                        have HS3 := Lib.hid (step_keep (step_keep HSS.out (.below (HBL.out _))) hk3)
                        have HJ3 := Lib.hid hJ3
                        have hb3 : ∀ c, Below w3.heap.size w3 (w3.alloc (.cells c RowT)) := fun c => (Below.refl _ _).alloc (Nat.le_refl _) _
                        have HBX3 := Lib.hid (show ∀ c, Box w3.heap.size c RowT (w3.alloc (.cells c RowT)) from fun c => heap_alloc_new _ _)
                        have t2 := fun c => (step_cells (step_keep HS3.out (.below (hb3 c)))).2.2.1
                        have t3 := fun c => (step_cells (step_keep HS3.out (.below (hb3 c)))).2.2.2.1
                        have t10 := fun c => (step_cells (step_keep HS3.out (.below (hb3 c)))).2.2.2.2.2.2.2.2.1
                        have t11 := fun c => (step_cells (step_keep HS3.out (.below (hb3 c)))).2.2.2.2.2.2.2.2.2
                        have HB3 := Lib.hid hb3
                        clear hJ3 hk3 hb3 hlk HBX HBL s0 s1 s2 s3 s6 s7 s8 s9 s10 s11
                        go_wp2_with fail
                        refine (over_w (HJ3.out.below (HB3.out _)) x.n x.val x.err HK.out).mono ?_
                        rintro e w4 ⟨on, is, c, rfl, hcz, T4, hJ4, hk4, hK4, hno, hso⟩
                        have hsum : c = 0 → (fk = false ∧ is = false) ∨ (fk = true ∧ is = (decide ((getR T pn).st = 3) && decide ((getR T pn).op = 1)) ∧ (is = true → on = pn ∧ (getR T4 pn).st = 4) ∧ (getR T4 pn).op = (getR T pn).op - 1 ∧ 1 ≤ (getR T pn).op ∧ (getR T pn).op ≤ 200) := by
                          intro h0
                          rcases HPF.out with ⟨h1, h2⟩ | ⟨h1, h2⟩
                          · exact .inr ⟨h1, hso pn h0 h2⟩
                          · exact .inl ⟨h1, hno h0 h2⟩
                        have HN4 := Lib.hid (hk4 _ _ _ (by decide) (Kept.below (HB3.out _) _ _ _ (by decide) HN3.out))
                        have HR4 := Lib.hid (hk4 _ _ _ (by decide) (HBX3.out _))
                        have HJ4 := Lib.hid hJ4
                        have HKF := Lib.hid hK4
                        have HSUM := Lib.hid hsum
                        have HCZ := Lib.hid hcz
                        have hb4 : ∀ c, Below w4.heap.size w4 (w4.alloc (.cells c NameT)) := fun c => (Below.refl _ _).alloc (Nat.le_refl _) _
                        have HBX4 := Lib.hid (show ∀ c, Box w4.heap.size c NameT (w4.alloc (.cells c NameT)) from fun c => heap_alloc_new _ _)
                        have p0 : ∀ c, (w4.alloc (.cells c NameT)).cell? ⟨ws.heap.size, 0, none⟩ = some (.int .u64 pn.1) := fun c => (Kept.below (hb4 c) _ _ _ (by decide) HN4.out).cell 0
                        have p1 : ∀ c, (w4.alloc (.cells c NameT)).cell? ⟨ws.heap.size, 1, none⟩ = some (.string pn.2) := fun c => (Kept.below (hb4 c) _ _ _ (by decide) HN4.out).cell 1
                        have HB4 := Lib.hid hb4
                        clear hJ4 hk4 hb4 hK4 hno hso hsum hcz HBX3 HB3 HN3 HS3 HJ3 t2 t3 t10 t11 HPF
                        go_wp2_with fail
                        refine (get_w (HJ4.out.below (HB4.out _)) pn).mono ?_
                        rintro e w5 ⟨n5, ua5, un5, uc5, b5, rfl, hJ5, hk5⟩
                        have HO5 := Lib.hid (hk5 _ _ _ (by decide) (HBX4.out _))
                        have HN5 := Lib.hid (hk5 _ _ _ (by decide) (Kept.below (HB4.out _) _ _ _ (by decide) HN4.out))
                        have HR5 := Lib.hid (hk5 _ _ _ (by decide) (Kept.below (HB4.out _) _ _ _ (by decide) HR4.out))
                        have hb5 : ∀ c, Below w5.heap.size w5 (w5.alloc (.cells c RowT)) := fun c => (Below.refl _ _).alloc (Nat.le_refl _) _
                        have HF := Lib.hid (show ∀ c, Jw w f m km T4 KM (w5.alloc (.cells c RowT)) ∧ KOk T4 KM from fun c => ⟨hJ5.below (hb5 c), HKF.out⟩)
                        have p0 : ∀ c, (w5.alloc (.cells c RowT)).cell? ⟨ws.heap.size, 0, none⟩ = some (.int .u64 pn.1) := fun c => (Kept.below (hb5 c) _ _ _ (by decide) HN5.out).cell 0
                        have p1 : ∀ c, (w5.alloc (.cells c RowT)).cell? ⟨ws.heap.size, 1, none⟩ = some (.string pn.2) := fun c => (Kept.below (hb5 c) _ _ _ (by decide) HN5.out).cell 1
                        have o0 : ∀ c, (w5.alloc (.cells c RowT)).cell? ⟨w4.heap.size, 0, none⟩ = some (.int .u64 on.1) := fun c => (Kept.below (hb5 c) _ _ _ (by decide) HO5.out).cell 0
                        have o1 : ∀ c, (w5.alloc (.cells c RowT)).cell? ⟨w4.heap.size, 1, none⟩ = some (.string on.2) := fun c => (Kept.below (hb5 c) _ _ _ (by decide) HO5.out).cell 1
                        have r6 : ∀ c, (w5.alloc (.cells c RowT)).cell? ⟨w3.heap.size, 6, none⟩ = some (.int .u8 (getR T pn).st) := fun c => (Kept.below (hb5 c) _ _ _ (by decide) HR5.out).cell 6
                        have r7 : ∀ c, (w5.alloc (.cells c RowT)).cell? ⟨w3.heap.size, 7, none⟩ = some (.int .i64 (getR T pn).op) := fun c => (Kept.below (hb5 c) _ _ _ (by decide) HR5.out).cell 7
                        clear hJ5 hk5 hb5 HO5 HN5 HR5 HJ4 HKF HBX4 HB4 HN4 HR4
                        have hsum := HSUM.out
                        have hcz := HCZ.out
                        clear HSUM HCZ
                        generalize (getR T pn).st = os at *
                        generalize (getR T pn).op = oo at *
                        generalize (getR T4 pn).st = ns at *
                        generalize (getR T4 pn).op = np at *
                        by_cases hc0 : c = 0
                        · rcases hsum hc0 with ⟨rfl, rfl⟩ | ⟨rfl, his, hon, hnp, hlo, hhi⟩
                          · subst hc0
                            clear hcz hsum
                            go_wp2_with fail
                            refine Met.intro (hJ2 _ _ ?_)
                            exact ⟨_, _, _, (HF.out _).1, (HF.out #[]).2, rfl, rfl, rfl, rfl, rfl, rfl⟩
                          · subst hc0 hnp
                            clear hcz hsum
                            by_cases h3 : os = 3
                            · by_cases h1' : oo = 1
                              · rw [decide_eq_true h3, decide_eq_true h1', Bool.and_self] at his
                                subst his
                                obtain ⟨rfl, rfl⟩ := hon rfl
                                subst h3 h1'
                                have hnq := neqSame on
                                clear hon
                                go_wp2_with fail
                                refine Met.intro (hJ2 _ _ ?_)
                                exact ⟨_, _, _, (HF.out _).1, (HF.out #[]).2, rfl, rfl, rfl, rfl, rfl, rfl⟩
                              · rw [decide_eq_false h1', Bool.and_false] at his
                                subst his h3
                                have e1 : (oo == 1) = false := by simp [h1']
                                clear hon h1'
                                go_wp2_with fail
                                refine Met.intro (hJ2 _ _ ?_)
                                exact ⟨_, _, _, (HF.out _).1, (HF.out #[]).2, rfl, rfl, rfl, rfl, rfl, rfl⟩
                            · rw [decide_eq_false h3, Bool.false_and] at his
                              subst his
                              have e1 : (os == 3) = false := by simp [h3]
                              clear hon h3
                              go_wp2_with fail
                              refine Met.intro (hJ2 _ _ ?_)
                              exact ⟨_, _, _, (HF.out _).1, (HF.out #[]).2, rfl, rfl, rfl, rfl, rfl, rfl⟩
                        · have hi := hcz hc0
                          subst hi
                          clear hcz hsum
                          have e0 : (c != 0) = true := by simp [hc0]
                          clear hc0
                          go_wp2_with fail
                          refine Met.intro (hJ2 _ _ ?_)
                          exact ⟨_, _, _, (HF.out _).1, (HF.out #[]).2, rfl, rfl, rfl, rfl, rfl, rfl⟩
                      ·
                        by_cases h7 : x.op = 7
                        ·
                          have HBX := Lib.hid (show ∀ c, Box ws.heap.size c NameT (ws.alloc (.cells c NameT)) from fun c => heap_alloc_new _ _)
                          have HBL := Lib.hid (show ∀ c, Below ws.heap.size ws (ws.alloc (.cells c NameT)) from fun c => (Below.refl _ _).alloc (Nat.le_refl _) _)
                          have hxn : x.n.2.size ≤ 9223372036854775807 := by have := HX.out; unfold totS at this; omega
                          go_wp2_with fail
                          refine (drop_w (HJS.out.below (HBL.out _)) x.n _ (reads_name ws x.n _) (by rintro a k c e; injection e with e; injection e with e; subst e; exact ⟨_, _, _, HBX.out _, by decide⟩) hxn).mono ?_
                          rintro e w3 ⟨v3, rfl, hJ3, hk3⟩
                          have HS3 := Lib.hid (step_keep (step_keep HSS.out (.below (HBL.out _))) hk3)
                          have hmk := @Go.RowKit.run_makeMap Try.prog
                          have hB4 : Below w3.heap.size w3 (w3.alloc (.map #[] 0)) := (Below.refl _ _).alloc (Nat.le_refl _) _
                          have HJ4 := Lib.hid (hJ3.below hB4)
                          have hL4 := MapL.made encN w3
                          obtain ⟨w6, hr6, hI6, hB6, hz6⟩ := range_run (P := Try.prog) HJ4.out.kmp Try.underlying67
                          have hz5 : (w3.alloc (.map #[] 0)).heap.size = w3.heap.size + 1 := by simp
                          rw [hz5] at hr6 hI6
                          have HD : Hid (Dl w f m km w3.heap.size (w3.heap.size + 1) (dropT T x.n) KM [] x.n [] [] w6) := ⟨HJ4.out.below hB6, hI6, hL4.block (hB6.block _ hL4.lt), hJ3.wj.low.size, Nat.le_succ_of_le hJ3.wj.low.size, (by have := hJ3.wj.tab.lt; omega), (by have := hJ3.kmp.lt; omega), by have := hJ3.wj.tab.lt; omega, by omega, fun a => by simp [getL, inB], List.nodup_nil, by simp⟩
                          have HS6 := Lib.hid (step_keep (step_keep HS3.out (.below hB4)) (.below hB6))
                          have HKS := Lib.hid (fun (p : Nm × Nm) (hp : p ∈ KM) => keys_size HJS.out.ok HK.out HJS.out.kmp hp)
                          clear hJ3 hk3 hB4 hL4 hI6 hB6 hz6 HS3 HJ4 HBX HBL s0 s1 s2 s3 s6 s7 s8 s9 s10 s11
                          go_wp2_with fail
                          generalize w3.heap.size = km2 at *
                          generalize km2 + 1 = ir at *
                          clear hr6 hmk hz5
                          refine wp_loop_ghost_k (DlI w (.slice (some ⟨b, off, none⟩) l.length cap) f m km km2 ir k s T KM x ta tc) KM.length ?dstart ?dround
                          case dstart => exact ⟨[], [], by simp, HD.out, HS6.out, ⟨rfl, rfl, rfl, rfl, rfl, rfl⟩, rfl, rfl, rfl⟩
                          case dround =>
                            clear HD HS6
                            rintro go1 ⟨ts1, ds1⟩ wx ⟨done, K2', hgl, hD, hBs, ⟨hd, hts1, f0, f3, f5, f6⟩, f7, f22, f210⟩ J3 K3 hJ3 hK3
                            have HD := Lib.hid hD
                            have HBs := Lib.hid hBs
                            clear hD hBs
                            simp only at hd hts1 f0 f3 f5 f6 f7 f22 f210
                            subst hd
                            rw [frame_lit hts1, f0, f3, f5, f6, f7, f22, f210]
                            clear f0 f3 f5 f6 f7 f22 f210
                            rcases HD.out.it.next (P := Try.prog) 0 with ⟨hall, hrun⟩ | ⟨p, hp, hnot, w2, hrun, hI2, hO2, hent⟩
                            · have HF := Lib.hid (HD.out.fin HJS.out.ok HK.out hall)
                              clear hall
                              go_wp2_with fail
                              refine Met.intro (hJ2 _ _ ?_)
                              exact ⟨_, _, _, HF.out.1, HF.out.2, rfl, rfl, rfl, rfl, rfl, rfl⟩
                            · have he2 := hent w2 rfl rfl
                              unfold encN at hrun he2
                              obtain ⟨hD2, hk2⟩ := HD.out.step hp hnot hI2 hO2
                              have hps := HKS.out p hp
                              have hB3 : ∀ c c', Below w2.heap.size w2 ((w2.alloc (.cells c 35)).alloc (.cells c' 35)) := fun c c' => ((Below.refl _ _).alloc (Nat.le_refl _) _).alloc (by simp) _
                              have HS2 := Lib.hid (step_keep HBs.out hk2)
                              have u2 := fun c c' => (step_cells (step_keep HS2.out (.below (hB3 c c')))).2.2.1
                              have u3 := fun c c' => (step_cells (step_keep HS2.out (.below (hB3 c c')))).2.2.2.1
                              have HD2 := Lib.hid hD2
                              have HP := Lib.hid hp
                              have HB3 := Lib.hid hB3
                              clear hD2 hk2 hI2 hO2 hent hp hnot HD HBs hB3
                              obtain ⟨w7, hr7, hM7, hO7⟩ := (HD2.out.below (HB3.out #[.int .u64 p.1.1, .string p.1.2] #[.int .u64 p.2.1, .string p.2.2])).m2.update (P := Try.prog) nameTy Try.underlying67 p.1 p.2
                              unfold encN at hr7
                              have HM7 := Lib.hid hM7
                              have HO7 := Lib.hid hO7
                              clear hM7 hO7
                              by_cases e1 : p.1.1 = x.n.1
                              · cases e2 : mayS x.n.2 with
                                | false =>
                                  have HF := Lib.hid ((HD2.out.below (HB3.out _ _)).put HP.out (bad_not.2 (.inr (.inl e2))) HM7.out HO7.out)
                                  have HL := Lib.hid HF.out.1.len
                                  have HS7 := Lib.hid (step_keep (step_keep HS2.out (.below (HB3.out _ _))) HF.out.2)
                                  have e1' : (p.1.1 != x.n.1) = false := by simp [e1]
                                  clear e1
                                  go_wp2_with (go_at_call 32; refine (rmay_any _ _ hxn).mono ?_; rintro e w9 ⟨rfl, rfl⟩)
                                  refine Handed.intro (go1 - 1) (by have := HL.out; simp only [List.length_append, List.length_cons, List.length_nil] at this; omega) (hJ3 _ _ _ ?_)
                                  exact ⟨done ++ [p.1], _, by have := HL.out; simp only [List.length_append, List.length_cons, List.length_nil] at this ⊢; omega, HF.out.1, HS7.out, ⟨rfl, rfl, rfl, rfl, rfl, rfl⟩, rfl, rfl, rfl⟩
                                | true =>
                                  cases e3 : underS p.1.2 x.n.2 with
                                  | false =>
                                    have HF := Lib.hid ((HD2.out.below (HB3.out _ _)).put HP.out (bad_not.2 (.inr (.inr e3))) HM7.out HO7.out)
                                    have HL := Lib.hid HF.out.1.len
                                    have HS7 := Lib.hid (step_keep (step_keep HS2.out (.below (HB3.out _ _))) HF.out.2)
                                    have e1' : (p.1.1 != x.n.1) = false := by simp [e1]
                                    clear e1
                                    go_wp2_with (first | (go_at_call 32; refine (rmay_any _ _ hxn).mono ?_; rintro e w9 ⟨rfl, rfl⟩) | (go_at_call 33; refine (runder_any _ _ _ hps hxn).mono ?_; rintro e w9 ⟨rfl, rfl⟩))
                                    refine Handed.intro (go1 - 1) (by have := HL.out; simp only [List.length_append, List.length_cons, List.length_nil] at this; omega) (hJ3 _ _ _ ?_)
                                    exact ⟨done ++ [p.1], _, by have := HL.out; simp only [List.length_append, List.length_cons, List.length_nil] at this ⊢; omega, HF.out.1, HS7.out, ⟨rfl, rfl, rfl, rfl, rfl, rfl⟩, rfl, rfl, rfl⟩
                                  | true =>
                                    have HF := Lib.hid (show ∀ c c', _ from fun c c' => (HD2.out.below (HB3.out c c')).skip (a := p.1) (by unfold badN; rw [e1, e3]; simp))
                                    have HL := Lib.hid (HF.out #[] #[]).len
                                    have HS7 := Lib.hid (show ∀ c c', _ from fun c c' => step_keep HS2.out (.below (HB3.out c c')))
                                    have e1' : (p.1.1 != x.n.1) = false := by simp [e1]
                                    clear e1 hr7
                                    go_wp2_with (first | (go_at_call 32; refine (rmay_any _ _ hxn).mono ?_; rintro e w9 ⟨rfl, rfl⟩) | (go_at_call 33; refine (runder_any _ _ _ hps hxn).mono ?_; rintro e w9 ⟨rfl, rfl⟩))
                                    refine Handed.intro (go1 - 1) (by have := HL.out; simp only [List.length_append, List.length_cons, List.length_nil] at this; omega) (hJ3 _ _ _ ?_)
                                    exact ⟨done ++ [p.1], _, by have := HL.out; simp only [List.length_append, List.length_cons, List.length_nil] at this ⊢; omega, HF.out _ _, HS7.out _ _, ⟨rfl, rfl, rfl, rfl, rfl, rfl⟩, rfl, rfl, rfl⟩
                              · have HF := Lib.hid ((HD2.out.below (HB3.out _ _)).put HP.out (bad_not.2 (.inl e1)) HM7.out HO7.out)
                                have HL := Lib.hid HF.out.1.len
                                have HS7 := Lib.hid (step_keep (step_keep HS2.out (.below (HB3.out _ _))) HF.out.2)
                                have e1' : (p.1.1 != x.n.1) = true := by simp [e1]
                                clear e1
                                go_wp2_with fail
                                refine Handed.intro (go1 - 1) (by have := HL.out; simp only [List.length_append, List.length_cons, List.length_nil] at this; omega) (hJ3 _ _ _ ?_)
                                exact ⟨done ++ [p.1], _, by have := HL.out; simp only [List.length_append, List.length_cons, List.length_nil] at this ⊢; omega, HF.out.1, HS7.out, ⟨rfl, rfl, rfl, rfl, rfl, rfl⟩, rfl, rfl, rfl⟩
                        ·
                          have HF := Lib.hid (show Jw w f m km T KM ws from HJS.out)
                          clear s0 s1 s2 s3 s6 s7 s8 s9 s10 s11
                          go_wp2_with fail
                          refine Met.intro (hJ2 _ _ ?_)
                          exact ⟨_, _, _, HF.out, HK.out, rfl, rfl, rfl, rfl, rfl, rfl⟩
        case rest =>
          rintro ⟨ts2, ds2⟩ wc ⟨km2, T2, K2m, hJ, hK, hd2, hts2, f0, f3, f5, f6⟩
          simp only at hd2 hts2 f0 f3 f5 f6
          subst hd2
          rw [frame_lit hts2, f0, f3, f5, f6]
          have HJ2 := Lib.hid hJ
          have HK2 := Lib.hid hK
          clear f0 f3 f5 f6 HJS HS HK hJ hK
          go_wp2_with fail
          refine (rows_w HJ2.out HK2.out).mono ?_
          rintro e w4 ⟨v, S, rfl, ho, hopen, hord, hsz, hlen, hJ4, hk4⟩
          have hrd := own_readsK (enc := encT) (k := 10) encT_len (by decide) ho
          obtain ⟨va, vc, rfl⟩ := hrd.slice
          have HRD := Lib.hid hrd
          have HOPEN := Lib.hid hopen
          have HORD := Lib.hid hord
          have HSZ := Lib.hid hsz
          have HJ4 := Lib.hid hJ4
          clear hrd hopen hord hsz hJ4 hk4 ho HJ2
          go_wp2_with fail
          refine wp_loop_ghost_k (RoI w (.slice (some ⟨b, off, none⟩) l.length cap) f m km2 k T2 K2m (.slice va S.length vc) S) S.length ?rstart ?rround
          case rstart => exact ⟨0, by omega, HJ4.out, HRD.out, ⟨rfl, rfl, rfl, rfl, rfl, rfl⟩, rfl, rfl⟩
          case rround =>
            clear HJ4 HRD
            rintro go1 ⟨ts1, ds1⟩ wx ⟨j, hgj, hJ, hR, ⟨hd, hts1, f0, f3, f5, f6⟩, f25, f26⟩ J3 K3 hJ3 hK3
            have HJx := Lib.hid hJ
            have HRx := Lib.hid hR
            clear hJ hR
            simp only at hd hts1 f0 f3 f5 f6 f25 f26
            subst hd
            rw [frame_lit hts1, f0, f3, f5, f6, f25, f26]
            clear f0 f3 f5 f6 f25 f26
            by_cases hj : j < S.length
            · obtain ⟨pj, hpj⟩ : ∃ p, S[j] = p := ⟨_, rfl⟩
              have HPJ := Lib.hid hpj
              clear hpj
              go_wp2_with fail
              refine wp_loop_ghost_k (LoI w (.slice (some ⟨b, off, none⟩) l.length cap) f m km2 k j T2 K2m (.slice va S.length vc) S pj.1) S.length ?lstart ?lround
              case lstart => exact ⟨0, by omega, HJx.out, HRx.out, ⟨rfl, rfl, rfl, rfl, rfl, rfl⟩, rfl, rfl, rfl, rfl⟩
              case lround =>
                clear HJx HRx
                rintro go2 ⟨ts3, ds3⟩ wy ⟨i, hgi, hJ, hR, ⟨hd, hts3, f0, f3, f5, f6⟩, f25, f26, f27, f28⟩ J4 K4 hJ4 hK4
                have HJy := Lib.hid hJ
                have HRy := Lib.hid hR
                clear hJ hR
                simp only at hd hts3 f0 f3 f5 f6 f25 f26 f27 f28
                subst hd
                rw [frame_lit hts3, f0, f3, f5, f6, f25, f26, f27, f28]
                clear f0 f3 f5 f6 f25 f26 f27 f28
                obtain ⟨b1, off1, c1, he, hb, hc⟩ := HRy.out.at (by omega)
                injection he with he1 he2 he3
                subst he1
                have hcj := hc j hj
                rw [show S[j] = pj from HPJ.out] at hcj
                by_cases hi : i < S.length
                · have hci := hc i hi
                  have HCN := Lib.hid (show (S.take (i + 1)).countP (openF K2m pj.1) = (S.take i).countP (openF K2m pj.1) + (if openF K2m pj.1 S[i] then 1 else 0) by
                    rw [List.take_succ_eq_append_getElem hi, List.countP_append, List.countP_singleton])
                  have hcb : (S.take i).countP (openF K2m pj.1) ≤ 200 := Nat.le_trans List.countP_le_length (by rw [List.length_take]; omega)
                  generalize (S.take i).countP (openF K2m pj.1) = cn at *
                  generalize S[i] = pi at hci HCN
                  clear hc he2 he3 hb
                  obtain ⟨pn, fk, hlk, hpf⟩ := kids_look HJy.out.kmp pi.1
                  have HPF := Lib.hid hpf
                  have q0 : wy.cell? ⟨b1, off1 + i * 10, none⟩ = some (.int .u64 pi.1.1) := hci 0 _ rfl
                  have q1 : wy.cell? ⟨b1, off1 + i * 10 + 1, none⟩ = some (.string pi.1.2) := hci 1 _ rfl
                  have hba : ∀ c, Below wy.heap.size wy (wy.alloc (.cells c 35)) := fun c => (Below.refl _ _).alloc (Nat.le_refl _) _
                  have i6 : ∀ c, (wy.alloc (.cells c 35)).cell? ⟨b1, off1 + i * 10 + 6, none⟩ = some (.int .u8 pi.2.st) := fun c => cell_keep (hba c) (hci 6 _ rfl)
                  have j0 : ∀ c, (wy.alloc (.cells c 35)).cell? ⟨b1, off1 + j * 10, none⟩ = some (.int .u64 pj.1.1) := fun c => cell_keep (hba c) (hcj 0 _ rfl)
                  have j1 : ∀ c, (wy.alloc (.cells c 35)).cell? ⟨b1, off1 + j * 10 + 1, none⟩ = some (.string pj.1.2) := fun c => cell_keep (hba c) (hcj 1 _ rfl)
                  have HBA := Lib.hid hba
                  clear hpf hci hcj hba
                  go_upto_region 57 with fail
                  have HF := Lib.hid (show ∀ c q, Jw w f m km2 T2 K2m ((wy.alloc (.cells c 35)).drewN q) ∧ ReadsK encT 10 ((wy.alloc (.cells c 35)).drewN q) (.slice (some ⟨b1, off1, none⟩) S.length vc) S from fun c q => ⟨HJy.out.below (below_drewN (HBA.out c) q), HRy.out.below (below_drewN (HBA.out c) q)⟩)
                  clear HJy HRy q0 q1 hlk
                  cases fk with
                  | false =>
                    have hof : openF K2m pj.1 pi = false := by
                      rcases HPF.out with ⟨h1, _⟩ | ⟨_, h1⟩
                      · cases h1
                      · unfold openF; rw [h1]; rfl
                    have HC2 := Lib.hid (show (S.take (i + 1)).countP (openF K2m pj.1) = cn from HCN.out.trans (by rw [hof]; first | done | rfl))
                    clear hof HPF HCN
                    go_quiet (fail)
                    go_wp2_with fail
                    refine Handed.intro (go2 - 1) (by omega) (hJ4 _ _ _ ?_)
                    exact ⟨i + 1, by omega, (HF.out _ _).1, (HF.out _ _).2, ⟨rfl, rfl, rfl, rfl, rfl, rfl⟩, rfl, rfl, by rw [HC2.out]; rfl, by go_num⟩
                  | true =>
                    have hgk : getL K2m pi.1 = some pn := by
                      rcases HPF.out with ⟨_, h1⟩ | ⟨h1, _⟩
                      · exact h1
                      · cases h1
                    clear HPF
                    by_cases e1 : pn = pj.1
                    · have heq : ∀ w, (binOp .eql 35 (.agg #[.int .u64 pn.1, .string pn.2]) (.agg #[.int .u64 pj.1.1, .string pj.1.2])).run Try.prog w = .ok (.bool true) w := fun w => (eqlN pn pj.1 w).trans (by rw [decide_eq_true e1])
                      by_cases e2 : pi.2.st = 6
                      · have hof : openF K2m pj.1 pi = false := by unfold openF; rw [e2]; simp
                        have HC2 := Lib.hid (show (S.take (i + 1)).countP (openF K2m pj.1) = cn from HCN.out.trans (by rw [hof]; first | done | rfl))
                        have e2' : (pi.2.st != 6) = false := by simp [e2]
                        clear hof HCN hgk e1 e2
                        go_quiet (fail)
                        go_wp2_with fail
                        refine Handed.intro (go2 - 1) (by omega) (hJ4 _ _ _ ?_)
                        exact ⟨i + 1, by omega, (HF.out _ _).1, (HF.out _ _).2, ⟨rfl, rfl, rfl, rfl, rfl, rfl⟩, rfl, rfl, by rw [HC2.out]; rfl, by go_num⟩
                      · have hof : openF K2m pj.1 pi = true := by unfold openF; rw [hgk, e1]; simp [e2]
                        have HC2 := Lib.hid (HCN.out.trans (by rw [hof]; rfl : _ = cn + 1))
                        have e2' : (pi.2.st != 6) = true := by simp [e2]
                        clear hof HCN hgk e1 e2
                        go_quiet (fail)
                        go_wp2_with fail
                        refine Handed.intro (go2 - 1) (by omega) (hJ4 _ _ _ ?_)
                        exact ⟨i + 1, by omega, (HF.out _ _).1, (HF.out _ _).2, ⟨rfl, rfl, rfl, rfl, rfl, rfl⟩, rfl, rfl, by rw [HC2.out]; go_num, by go_num⟩
                    · have heq : ∀ w, (binOp .eql 35 (.agg #[.int .u64 pn.1, .string pn.2]) (.agg #[.int .u64 pj.1.1, .string pj.1.2])).run Try.prog w = .ok (.bool false) w := fun w => (eqlN pn pj.1 w).trans (by rw [decide_eq_false e1])
                      have hof : openF K2m pj.1 pi = false := by unfold openF; rw [hgk]; simp [e1]
                      have HC2 := Lib.hid (show (S.take (i + 1)).countP (openF K2m pj.1) = cn from HCN.out.trans (by rw [hof]; first | done | rfl))
                      clear hof HCN hgk e1
                      go_quiet (fail)
                      go_wp2_with fail
                      refine Handed.intro (go2 - 1) (by omega) (hJ4 _ _ _ ?_)
                      exact ⟨i + 1, by omega, (HF.out _ _).1, (HF.out _ _).2, ⟨rfl, rfl, rfl, rfl, rfl, rfl⟩, rfl, rfl, by rw [HC2.out]; rfl, by go_num⟩
                · have HOJ := Lib.hid (show pj.2.op = (S.countP (openF K2m pj.1) : Int) from HPJ.out ▸ HOPEN.out _ (List.getElem_mem hj))
                  have hta : S.take i = S := List.take_of_length_le (by omega)
                  rw [hta, ← HOJ.out]
                  have j7 : wy.cell? ⟨b1, off1 + j * 10 + 7, none⟩ = some (.int .i64 pj.2.op) := hcj 7 _ rfl
                  have HF := Lib.hid (show ∀ q, Jw w f m km2 T2 K2m (wy.drewN q) ∧ ReadsK encT 10 (wy.drewN q) (.slice (some ⟨b1, off1, none⟩) S.length vc) S from fun q => ⟨HJy.out.below (below_drewN (Below.refl _ _) q), HRy.out.below (below_drewN (Below.refl _ _) q)⟩)
                  by_cases hj0 : j = 0
                  · have hjn : ¬ (0 : Int) < (j : Int) := by omega
                    have hjm : ¬ 0 < j := by omega
                    have hjd : decide ((0 : Int) < (j : Int)) = false := decide_eq_false hjn
                    clear hcj hc hta HOJ hb he2 he3 HJy HRy hj0
                    go_upto_region 59 with fail
                    go_quiet (fail)
                    go_wp2_with fail
                    refine Handed.intro (go1 - 1) (by omega) (hJ3 _ _ _ ?_)
                    exact ⟨j + 1, by omega, (HF.out _).1, (HF.out _).2, ⟨rfl, rfl, rfl, rfl, rfl, rfl⟩, rfl, by go_num⟩
                  · obtain ⟨q, hq⟩ : ∃ q, q + 1 = j := ⟨j - 1, by omega⟩
                    obtain ⟨pq, hpq⟩ : ∃ p, S[q]'(by omega) = p := ⟨_, rfl⟩
                    have hcq := hc q (by omega)
                    rw [show S[q]'(by omega) = pq from hpq] at hcq
                    have hcm : cmpN pq.1 pj.1 < 0 := by
                      have h1 := HORD.out q (by omega)
                      have h2 : S[q + 1]'(by omega) = pj := by
                        have h3 := HPJ.out
                        subst hq; exact h3
                      rw [hpq, h2] at h1; exact h1
                    have HCM := Lib.hid hcm
                    have HZQ := Lib.hid (show pq.1.2.size ≤ 9223372036854775807 from hpq ▸ HSZ.out _ (List.getElem_mem _))
                    have HZJ := Lib.hid (show pj.1.2.size ≤ 9223372036854775807 from HPJ.out ▸ HSZ.out _ (List.getElem_mem _))
                    have hjn : (0 : Int) < (j : Int) := by omega
                    have hjm : 0 < j := by omega
                    have hjd : decide ((0 : Int) < (j : Int)) = true := decide_eq_true hjn
                    have hjq : (j : Int) - 1 = (q : Int) := by omega
                    have hwq : IntKind.i64.wrap (q : Int) = (q : Int) := by rw [IntKind.wrap_i64]; omega
                    have hql : q < S.length := by omega
                    have j0 : wy.cell? ⟨b1, off1 + j * 10, none⟩ = some (.int .u64 pj.1.1) := hcj 0 _ rfl
                    have j1 : wy.cell? ⟨b1, off1 + j * 10 + 1, none⟩ = some (.string pj.1.2) := hcj 1 _ rfl
                    have q0 : wy.cell? ⟨b1, off1 + q * 10, none⟩ = some (.int .u64 pq.1.1) := hcq 0 _ rfl
                    have q1 : wy.cell? ⟨b1, off1 + q * 10 + 1, none⟩ = some (.string pq.1.2) := hcq 1 _ rfl
                    clear hcj hc hcq hta HOJ hb he2 he3 hj0 hcm hpq hq
                    go_upto_region 59 with fail
                    refine wp_region_held_drew (S := fun y => Below wy.heap.size wy y) (by kernel_rfl) ((Below.refl _ _).drew) (fun hHeld => ?_)
                    refine wpAnyH_take (i := 0) (oi := _) (v := ?_) (by rw [List.getElem?_toArray]; exact rfl) (by kernel_rfl) (by kernel_rfl) (by kernel_rfl) (by exact fun _ _ _ h => h) (Or.inl ⟨by rfl, ?_⟩) hHeld ?_
                    rotate_left
                    · (intro wX hSw; have y7 := cell_keep hSw j7; have y0 := cell_keep hSw j0; have y1 := cell_keep hSw j1; have u0 := cell_keep hSw q0; have u1 := cell_keep hSw q1; clear hSw; go_simp; try with_reducible rfl)
                    try simp only [Act.put, List.setIfInBounds_toArray, List.set_cons_zero, List.set_cons_succ]
                    refine wpAnyH_take (i := 1) (oi := _) (v := ?_) (by rw [List.getElem?_toArray]; exact rfl) (by kernel_rfl) (by kernel_rfl) (by kernel_rfl) (by exact fun _ _ _ h => h) (Or.inl ⟨by rfl, ?_⟩) hHeld ?_
                    rotate_left
                    · (intro wX hSw; have y7 := cell_keep hSw j7; have y0 := cell_keep hSw j0; have y1 := cell_keep hSw j1; have u0 := cell_keep hSw q0; have u1 := cell_keep hSw q1; clear hSw; go_simp; try with_reducible rfl)
                    try simp only [Act.put, List.setIfInBounds_toArray, List.set_cons_zero, List.set_cons_succ]
                    refine wpAnyH_take (i := 2) (oi := _) (v := ?_) (by rw [List.getElem?_toArray]; exact rfl) (by kernel_rfl) (by kernel_rfl) (by kernel_rfl) (by exact fun _ _ _ h => h) (Or.inl ⟨by rfl, ?_⟩) hHeld ?_
                    rotate_left
                    · (intro wX hSw; have y7 := cell_keep hSw j7; have y0 := cell_keep hSw j0; have y1 := cell_keep hSw j1; have u0 := cell_keep hSw q0; have u1 := cell_keep hSw q1; clear hSw; go_simp; try with_reducible rfl)
                    try simp only [Act.put, List.setIfInBounds_toArray, List.set_cons_zero, List.set_cons_succ]
                    refine wpAnyH_take (i := 3) (oi := _) (v := ?_) (by rw [List.getElem?_toArray]; exact rfl) (by kernel_rfl) (by kernel_rfl) (by kernel_rfl) (by exact fun _ _ _ h => h) (Or.inl ⟨by rfl, ?_⟩) hHeld ?_
                    rotate_left
                    · (intro wX hSw; have y7 := cell_keep hSw j7; have y0 := cell_keep hSw j0; have y1 := cell_keep hSw j1; have u0 := cell_keep hSw q0; have u1 := cell_keep hSw q1; clear hSw; go_simp; try with_reducible rfl)
                    try simp only [Act.put, List.setIfInBounds_toArray, List.set_cons_zero, List.set_cons_succ]
                    refine wpAnyH_take (i := 4) (oi := _) (v := ?_) (by rw [List.getElem?_toArray]; exact rfl) (by kernel_rfl) (by kernel_rfl) (by kernel_rfl) (by exact fun _ _ _ h => h) (Or.inl ⟨by rfl, ?_⟩) hHeld ?_
                    rotate_left
                    · (intro wX hSw; have y7 := cell_keep hSw j7; have y0 := cell_keep hSw j0; have y1 := cell_keep hSw j1; have u0 := cell_keep hSw q0; have u1 := cell_keep hSw q1; clear hSw; go_simp; try with_reducible rfl)
                    try simp only [Act.put, List.setIfInBounds_toArray, List.set_cons_zero, List.set_cons_succ]
                    refine wpAnyH_take (i := 5) (oi := _) (v := ?_) (by rw [List.getElem?_toArray]; exact rfl) (by kernel_rfl) (by kernel_rfl) (by kernel_rfl) (by exact fun _ _ _ h => h) (Or.inl ⟨by rfl, ?_⟩) hHeld ?_
                    rotate_left
                    · (intro wX hSw; have y7 := cell_keep hSw j7; have y0 := cell_keep hSw j0; have y1 := cell_keep hSw j1; have u0 := cell_keep hSw q0; have u1 := cell_keep hSw q1; clear hSw; go_simp; try with_reducible rfl)
                    try simp only [Act.put, List.setIfInBounds_toArray, List.set_cons_zero, List.set_cons_succ]
                    refine wpAnyH_take (i := 6) (oi := _) (v := ?_) (by rw [List.getElem?_toArray]; exact rfl) (by kernel_rfl) (by kernel_rfl) (by kernel_rfl) (by exact fun _ _ _ h => h) (Or.inl ⟨by rfl, ?_⟩) hHeld ?_
                    rotate_left
                    · (intro wX hSw; have y7 := cell_keep hSw j7; have y0 := cell_keep hSw j0; have y1 := cell_keep hSw j1; have u0 := cell_keep hSw q0; have u1 := cell_keep hSw q1; clear hSw; go_simp; try with_reducible rfl)
                    try simp only [Act.put, List.setIfInBounds_toArray, List.set_cons_zero, List.set_cons_succ]
                    refine wpAnyH_take (i := 7) (oi := _) (v := ?_) (by rw [List.getElem?_toArray]; exact rfl) (by kernel_rfl) (by kernel_rfl) (by kernel_rfl) (by exact fun _ _ _ h => h) (Or.inl ⟨by rfl, ?_⟩) hHeld ?_
                    rotate_left
                    · (intro wX hSw; have y7 := cell_keep hSw j7; have y0 := cell_keep hSw j0; have y1 := cell_keep hSw j1; have u0 := cell_keep hSw q0; have u1 := cell_keep hSw q1; clear hSw; go_simp; try with_reducible rfl)
                    try simp only [Act.put, List.setIfInBounds_toArray, List.set_cons_zero, List.set_cons_succ]
                    refine wpAnyH_take (i := 8) (oi := _) (v := ?_) (by rw [List.getElem?_toArray]; exact rfl) (by kernel_rfl) (by kernel_rfl) (by kernel_rfl) (by exact fun _ _ _ h => h) (Or.inl ⟨by rfl, ?_⟩) hHeld ?_
                    rotate_left
                    · (intro wX hSw; have y7 := cell_keep hSw j7; have y0 := cell_keep hSw j0; have y1 := cell_keep hSw j1; have u0 := cell_keep hSw q0; have u1 := cell_keep hSw q1; clear hSw; go_simp; try with_reducible rfl)
                    try simp only [Act.put, List.setIfInBounds_toArray, List.set_cons_zero, List.set_cons_succ]
                    refine wpAnyH_take (i := 9) (oi := _) (v := ?_) (by rw [List.getElem?_toArray]; exact rfl) (by kernel_rfl) (by kernel_rfl) (by kernel_rfl) (by exact fun _ _ _ h => h) (Or.inl ⟨by rfl, ?_⟩) hHeld ?_
                    rotate_left
                    · (intro wX hSw; have y7 := cell_keep hSw j7; have y0 := cell_keep hSw j0; have y1 := cell_keep hSw j1; have u0 := cell_keep hSw q0; have u1 := cell_keep hSw q1; clear hSw; go_simp; try with_reducible rfl)
                    try simp only [Act.put, List.setIfInBounds_toArray, List.set_cons_zero, List.set_cons_succ]
                    refine wpAnyH_take (i := 10) (oi := _) (v := ?_) (by rw [List.getElem?_toArray]; exact rfl) (by kernel_rfl) (by kernel_rfl) (by kernel_rfl) (by exact fun _ _ _ h => h) (Or.inl ⟨by rfl, ?_⟩) hHeld ?_
                    rotate_left
                    · (intro wX hSw; have y7 := cell_keep hSw j7; have y0 := cell_keep hSw j0; have y1 := cell_keep hSw j1; have u0 := cell_keep hSw q0; have u1 := cell_keep hSw q1; clear hSw; go_simp; try with_reducible rfl)
                    try simp only [Act.put, List.setIfInBounds_toArray, List.set_cons_zero, List.set_cons_succ]
                    refine wpAnyH_take (i := 11) (oi := _) (v := ?_) (by rw [List.getElem?_toArray]; exact rfl) (by kernel_rfl) (by kernel_rfl) (by kernel_rfl) (by exact fun _ _ _ h => h) (Or.inl ⟨by rfl, ?_⟩) hHeld ?_
                    rotate_left
                    · (intro wX hSw; have y7 := cell_keep hSw j7; have y0 := cell_keep hSw j0; have y1 := cell_keep hSw j1; have u0 := cell_keep hSw q0; have u1 := cell_keep hSw q1; clear hSw; go_simp; try with_reducible rfl)
                    try simp only [Act.put, List.setIfInBounds_toArray, List.set_cons_zero, List.set_cons_succ]
                    refine wpAnyH_take (i := 12) (oi := _) (v := ?_) (by rw [List.getElem?_toArray]; exact rfl) (by kernel_rfl) (by kernel_rfl) (by kernel_rfl) (by exact fun _ _ _ h => h) (Or.inl ⟨by rfl, ?_⟩) hHeld ?_
                    rotate_left
                    · (intro wX hSw; have y7 := cell_keep hSw j7; have y0 := cell_keep hSw j0; have y1 := cell_keep hSw j1; have u0 := cell_keep hSw q0; have u1 := cell_keep hSw q1; clear hSw; go_simp; try with_reducible rfl)
                    try simp only [Act.put, List.setIfInBounds_toArray, List.set_cons_zero, List.set_cons_succ]
                    refine wpAnyH_take (i := 13) (oi := _) (v := ?_) (by rw [List.getElem?_toArray]; exact rfl) (by kernel_rfl) (by kernel_rfl) (by kernel_rfl) (by exact fun _ _ _ h => h) (Or.inl ⟨by rfl, ?_⟩) hHeld ?_
                    rotate_left
                    · (intro wX hSw; have y7 := cell_keep hSw j7; have y0 := cell_keep hSw j0; have y1 := cell_keep hSw j1; have u0 := cell_keep hSw q0; have u1 := cell_keep hSw q1; clear hSw; go_simp; try with_reducible rfl)
                    try simp only [Act.put, List.setIfInBounds_toArray, List.set_cons_zero, List.set_cons_succ]
                    refine wpAnyH_take (i := 14) (oi := _) (v := ?_) (by rw [List.getElem?_toArray]; exact rfl) (by kernel_rfl) (by kernel_rfl) (by kernel_rfl) (by exact fun _ _ _ h => h) (Or.inl ⟨by rfl, ?_⟩) hHeld ?_
                    rotate_left
                    · (intro wX hSw; have y7 := cell_keep hSw j7; have y0 := cell_keep hSw j0; have y1 := cell_keep hSw j1; have u0 := cell_keep hSw q0; have u1 := cell_keep hSw q1; clear hSw; go_simp; try with_reducible rfl)
                    try simp only [Act.put, List.setIfInBounds_toArray, List.set_cons_zero, List.set_cons_succ]
                    refine wpAnyH_take (i := 15) (oi := _) (v := ?_) (by rw [List.getElem?_toArray]; exact rfl) (by kernel_rfl) (by kernel_rfl) (by kernel_rfl) (by exact fun _ _ _ h => h) (Or.inl ⟨by rfl, ?_⟩) hHeld ?_
                    rotate_left
                    · (intro wX hSw; have y7 := cell_keep hSw j7; have y0 := cell_keep hSw j0; have y1 := cell_keep hSw j1; have u0 := cell_keep hSw q0; have u1 := cell_keep hSw q1; clear hSw; go_simp; try with_reducible rfl)
                    try simp only [Act.put, List.setIfInBounds_toArray, List.set_cons_zero, List.set_cons_succ]
                    refine wpAnyH_take (i := 16) (oi := _) (v := ?_) (by rw [List.getElem?_toArray]; exact rfl) (by kernel_rfl) (by kernel_rfl) (by kernel_rfl) (by exact fun _ _ _ h => h) (Or.inl ⟨by rfl, ?_⟩) hHeld ?_
                    rotate_left
                    · (intro wX hSw; have y7 := cell_keep hSw j7; have y0 := cell_keep hSw j0; have y1 := cell_keep hSw j1; have u0 := cell_keep hSw q0; have u1 := cell_keep hSw q1; clear hSw; go_simp; try with_reducible rfl)
                    try simp only [Act.put, List.setIfInBounds_toArray, List.set_cons_zero, List.set_cons_succ]
                    refine wpAnyH_take (i := 17) (oi := _) (v := ?_) (by rw [List.getElem?_toArray]; exact rfl) (by kernel_rfl) (by kernel_rfl) (by kernel_rfl) (by exact fun _ _ _ h => h) (Or.inl ⟨by rfl, ?_⟩) hHeld ?_
                    rotate_left
                    · (intro wX hSw; have y7 := cell_keep hSw j7; have y0 := cell_keep hSw j0; have y1 := cell_keep hSw j1; have u0 := cell_keep hSw q0; have u1 := cell_keep hSw q1; clear hSw; go_simp; try with_reducible rfl)
                    try simp only [Act.put, List.setIfInBounds_toArray, List.set_cons_zero, List.set_cons_succ]
                    refine wpAnyH_take (i := 18) (oi := _) (v := ?_) (by rw [List.getElem?_toArray]; exact rfl) (by kernel_rfl) (by kernel_rfl) (by kernel_rfl) (by exact fun _ _ _ h => h) (Or.inl ⟨by rfl, ?_⟩) hHeld ?_
                    rotate_left
                    · (intro wX hSw; have y7 := cell_keep hSw j7; have y0 := cell_keep hSw j0; have y1 := cell_keep hSw j1; have u0 := cell_keep hSw q0; have u1 := cell_keep hSw q1; clear hSw; go_simp; try with_reducible rfl)
                    try simp only [Act.put, List.setIfInBounds_toArray, List.set_cons_zero, List.set_cons_succ]
                    refine wpAnyH_take (i := 19) (oi := _) (v := ?_) (by rw [List.getElem?_toArray]; exact rfl) (by kernel_rfl) (by kernel_rfl) (by kernel_rfl) (by exact fun _ _ _ h => h) (Or.inl ⟨by rfl, ?_⟩) hHeld ?_
                    rotate_left
                    · (intro wX hSw; have y7 := cell_keep hSw j7; have y0 := cell_keep hSw j0; have y1 := cell_keep hSw j1; have u0 := cell_keep hSw q0; have u1 := cell_keep hSw q1; clear hSw; go_simp; try with_reducible rfl)
                    try simp only [Act.put, List.setIfInBounds_toArray, List.set_cons_zero, List.set_cons_succ]
                    refine wpAnyH_take (i := 20) (oi := _) (v := ?_) (by rw [List.getElem?_toArray]; exact rfl) (by kernel_rfl) (by kernel_rfl) (by kernel_rfl) (by exact fun _ _ _ h => h) (Or.inl ⟨by rfl, ?_⟩) hHeld ?_
                    rotate_left
                    · (intro wX hSw; have y7 := cell_keep hSw j7; have y0 := cell_keep hSw j0; have y1 := cell_keep hSw j1; have u0 := cell_keep hSw q0; have u1 := cell_keep hSw q1; clear hSw; go_simp; try with_reducible rfl)
                    try simp only [Act.put, List.setIfInBounds_toArray, List.set_cons_zero, List.set_cons_succ]
                    refine wpAnyH_take (i := 21) (oi := _) (v := ?_) (by rw [List.getElem?_toArray]; exact rfl) (by kernel_rfl) (by kernel_rfl) (by kernel_rfl) (by exact fun _ _ _ h => h) (Or.inl ⟨by rfl, ?_⟩) hHeld ?_
                    rotate_left
                    · (intro wX hSw; have y7 := cell_keep hSw j7; have y0 := cell_keep hSw j0; have y1 := cell_keep hSw j1; have u0 := cell_keep hSw q0; have u1 := cell_keep hSw q1; clear hSw; go_simp; try with_reducible rfl)
                    try simp only [Act.put, List.setIfInBounds_toArray, List.set_cons_zero, List.set_cons_succ]
                    refine wpAnyH_ready (rs := [22]) (by kernel_rfl) (by simp) ?_
                    refine AllReadyH.cons (o := _) (by rw [List.getElem?_toArray]; exact rfl) (fun K hK => ?_) ?_
                    · go_simp
                      refine (rcompareN_any pq.1 pj.1 _ HZQ.out HZJ.out).mono ?_; rintro e w7 ⟨he, hB7⟩; have HB7 := Lib.hid hB7; have hcm := HCM.out; clear hB7; obtain ⟨cv, hcv⟩ : ∃ cv, cmpN pq.1 pj.1 = cv := ⟨_, rfl⟩; rw [hcv] at hcm he; clear hcv; subst he; have hge : ¬ (0 : Int) ≤ cv := by omega
                      go_wp2_with fail
                      refine hK.out _ _ (gthen hHeld HB7.out) (fun hHeld => ?_)
                      clear hK K
                      try simp only [Act.put, List.setIfInBounds_toArray, List.set_cons_zero, List.set_cons_succ]
                      refine wpAnyH_take (i := 23) (oi := _) (v := ?_) (by rw [List.getElem?_toArray]; exact rfl) (by kernel_rfl) (by kernel_rfl) (by kernel_rfl) (by exact fun _ _ _ h => h) (Or.inl ⟨by rfl, ?_⟩) hHeld ?_
                      rotate_left
                      · (intro wX hSw; have y7 := cell_keep hSw j7; have y0 := cell_keep hSw j0; have y1 := cell_keep hSw j1; have u0 := cell_keep hSw q0; have u1 := cell_keep hSw q1; clear hSw; go_simp; try with_reducible rfl)
                      try simp only [Act.put, List.setIfInBounds_toArray, List.set_cons_zero, List.set_cons_succ]
                      refine wpAnyH_take (i := 24) (oi := _) (v := ?_) (by rw [List.getElem?_toArray]; exact rfl) (by kernel_rfl) (by kernel_rfl) (by kernel_rfl) (by exact fun _ _ _ h => h) (Or.inl ⟨by rfl, ?_⟩) hHeld ?_
                      rotate_left
                      · (intro wX hSw; have y7 := cell_keep hSw j7; have y0 := cell_keep hSw j0; have y1 := cell_keep hSw j1; have u0 := cell_keep hSw q0; have u1 := cell_keep hSw q1; clear hSw; go_simp; try with_reducible rfl)
                      try simp only [Act.put, List.setIfInBounds_toArray, List.set_cons_zero, List.set_cons_succ]
                      refine wpAnyH_take (i := 25) (oi := _) (v := ?_) (by rw [List.getElem?_toArray]; exact rfl) (by kernel_rfl) (by kernel_rfl) (by kernel_rfl) (by exact fun _ _ _ h => h) (Or.inl ⟨by rfl, ?_⟩) hHeld ?_
                      rotate_left
                      · (intro wX hSw; have y7 := cell_keep hSw j7; have y0 := cell_keep hSw j0; have y1 := cell_keep hSw j1; have u0 := cell_keep hSw q0; have u1 := cell_keep hSw q1; clear hSw; go_simp; try with_reducible rfl)
                      try simp only [Act.put, List.setIfInBounds_toArray, List.set_cons_zero, List.set_cons_succ]
                      refine wpAnyH_done (by kernel_rfl) ?_ _
                      have HF2 := Lib.hid (show Jw w f m km2 T2 K2m w7 ∧ ReadsK encT 10 w7 (.slice (some ⟨b1, off1, none⟩) S.length vc) S from ⟨HJy.out.below (gdrew HB7.out), HRy.out.below (gdrew HB7.out)⟩)
                      clear hHeld hcm
                      go_wp2_with fail
                      refine Handed.intro (go1 - 1) (by omega) (hJ3 _ _ _ ?_)
                      exact ⟨j + 1, by omega, HF2.out.1, HF2.out.2, ⟨rfl, rfl, rfl, rfl, rfl, rfl⟩, rfl, by go_num⟩
                    exact AllReadyH.nil
            · have HF := Lib.hid HJx.out
              clear HRx
              go_wp2_with fail
              refine Handed.intro (go0 - 1) (by omega) (hJ9 _ _ _ ?_)
              exact ⟨k + 1, km2, T2, K2m, by omega, HF.out, HK2.out, rfl, rfl, rfl, rfl, rfl, by go_num⟩
      · go_wp2_with fail
        refine (works_any _).mono ?_
        rintro e w9 ⟨rfl, hB⟩
        have HF := Lib.hid (HB0.out.trans (((HJ.out.below hB).wj.low).mono HB0.out.size))
        clear hB
        go_wp2_with fail
        go_ret
        exact ⟨ret_boolE rfl, HF.out⟩
  · clear hb
    have HB0 := Lib.hid hB0
    clear hB0
    go_wp2_with fail
    refine (works_any _).mono ?_
    rintro e w1 ⟨rfl, hB⟩
    have HF := Lib.hid (gthen HB0.out hB)
    clear hB
    go_wp2_with fail
    go_ret
    exact ⟨ret_boolE rfl, HF.out⟩
end Go.Proofs.Ythbkbmkcgpdedaa
