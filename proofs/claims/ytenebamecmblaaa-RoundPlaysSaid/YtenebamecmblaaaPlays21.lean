/- RoundPlays: its walk. -/
import Derived.Test.YtenebamecmblaaaFrame21
import Derived.Test.YtenebamecmblaaaCmpQ21
namespace Go.Proofs.Ytenebamecmblaaa
open Go.RowKit Go.Sort Go.Lib
set_option linter.unusedVariables false
set_option linter.unusedSimpArgs false

/-- The rounds, the two maps, what they say of each other, behind so many steps. -/
structure Pw (w0 : World) (r m hm om : Nat) (A : AB) (H : List (Int × Cr)) (O : List (Nm × Cr)) (k : Nat) (w : World) : Prop where
  wr : Wr (Qp w0 hm om) r m w A
  ph : Ph w0 hm om H O w
  rl : RlP A H O
  bn : Bnd A k
theorem Pw.below {w0 w w' : World} {r m hm om k : Nat} {A : AB} {H : List (Int × Cr)} {O : List (Nm × Cr)} (h : Pw w0 r m hm om A H O k w) (hB : Below w.heap.size w w') : Pw w0 r m hm om A H O k w' := ⟨h.wr.below hB, h.ph.below hB, h.rl, h.bn⟩
theorem Pw.more {w0 w : World} {r m hm om k : Nat} {A : AB} {H : List (Int × Cr)} {O : List (Nm × Cr)} (h : Pw w0 r m hm om A H O k w) : Pw w0 r m hm om A H O (k + 1) w := ⟨h.wr, h.ph, h.rl, h.bn.more⟩
theorem cell_stp {Q : Nat → Prop} {w w' : World} (hS : Stp Q w w') {s : Nat} {x : Sp} (h : w.heap[s]? = some (stepO x)) : w'.heap[s]? = some (stepO x) := hS.cells h (by decide)
theorem Ph.reads {w0 w : World} {hm om : Nat} {H : List (Int × Cr)} {O : List (Nm × Cr)} (h : Ph w0 hm om H O w) {α : Type} {enc : α → List Value} {k : Nat} {v : Value} {l : List α} (hr : ReadsK enc k w0 v l) : ReadsK enc k w v l := hr.below h.low
theorem give_skip {w0 w : World} {r m hm om k s : Nat} {A : AB} {H : List (Int × Cr)} {O : List (Nm × Cr)} {x : Sp} (hW : Wr (Qp w0 hm om) r m w (giveA A x.2.1)) (hp : Ph w0 hm om H O w) (hr : RlP A H O) (hb : Bnd A k) (hs : w.heap[s]? = some (stepO x)) (he : giveE A x.2.1 ≠ 0) : Pw w0 r m hm om A H O (k + 1) w ∧ w.heap[s]? = some (stepO x) := by
  rw [show giveA A x.2.1 = A by unfold giveA; rw [if_neg he]] at hW
  exact ⟨⟨hW, hp, hr, hb.more⟩, hs⟩
theorem CrOk.stpq {Q : Nat → Prop} {w0 w w' : World} {hm om : Nat} {H : List (Int × Cr)} {O : List (Nm × Cr)} {c : Cr} (h : CrOk w c) (_hp : Ph w0 hm om H O w) (hS : Stp Q w w') : CrOk w' c := h.keep fun i ⟨cur, hi⟩ => (hS.cells hi (by decide)).trans hi.symm
theorem names_at {w : World} {b : Nat} {n k : Nm} (hb : w.heap[b]? = some (.cells #[.int .u64 n.1, .string n.2, .int .u64 k.1, .string k.2] 35 (0, 0))) (j : Nat) (hj : j < 2) : w.cell? ⟨b, j * 2, none⟩ = some (.int .u64 ([n, k][j]'(by simpa using hj)).1) ∧ w.cell? ⟨b, j * 2 + 1, none⟩ = some (.string ([n, k][j]'(by simpa using hj)).2) := by
  have h01 : j = 0 ∨ j = 1 := by omega
  unfold World.cell?
  rw [hb]
  rcases h01 with rfl | rfl <;> exact ⟨rfl, rfl⟩
theorem RlP.te {A : AB} {H : List (Int × Cr)} {O : List (Nm × Cr)} (h : RlP A H O) (n : Nm) : (getL O n).map (·.l) = (takeE A n).map (·.2) := by
  rw [h.o n]
  unfold takeE
  cases U.getL A n.1 with
  | none => rfl
  | some x => simp only [Option.bind_some]; cases getL x.2 n <;> rfl
theorem takeE_get {A : AB} {n : Nm} {x : AO} {c : List Int} (he : takeE A n = some (x, c)) : U.getL A n.1 = some x ∧ getL x.2 n = some c := by
  unfold takeE at he
  cases hg : U.getL A n.1 with
  | none => rw [hg] at he; cases he
  | some x' =>
    rw [hg] at he
    simp only [Option.bind_some, Option.map_eq_some_iff] at he
    obtain ⟨c', hc, he⟩ := he
    injection he with e1 e2
    subst e1; subst e2
    exact ⟨rfl, hc⟩
theorem takeA_cons (A : AB) (n : Nm) (l : List Nm) : takeA A (n :: l) = takeA (take1 A n) l := rfl
theorem takeN_cons (A : AB) (n : Nm) (l : List Nm) : takeN A (n :: l) = (if (takeE A n).isSome then 1 else 0) + takeN (take1 A n) l := rfl
theorem take1_none {A : AB} {n : Nm} (he : takeE A n = none) : take1 A n = A := by unfold take1; rw [he]
/-- While a script's credits are taken back. -/
structure Tk (w0 : World) (r m hm om : Nat) (A : AB) (l : List Nm) (x : Sp) (s nb : Nat) (j cnt : Nat) (A' : AB) (H : List (Int × Cr)) (O : List (Nm × Cr)) (w : World) : Prop where
  wr : Wr (Qp w0 hm om) r m w A
  ph : Ph w0 hm om H O w
  rl : RlP A' H O
  gd : GoodA A'
  ta : takeA A' (l.drop j) = takeA A l
  tn : cnt + takeN A' (l.drop j) = takeN A l
  cj : cnt ≤ j
  so : w.heap[s]? = some (stepO x)
  no : w.heap[nb]? = some (.cells #[.int .u64 x.2.1.1, .string x.2.1.2, .int .u64 x.2.2.1, .string x.2.2.2] 35 (0, 0))
theorem cells_keepM {w w' : World} {b i : Nat} {c : Array Value} {t : TypeId} {f : Nat × Nat} (hO : OnlyAt w w' b) (hn : ∀ c t f, w.heap[b]? ≠ some (Obj.cells c t f)) (hi : w.heap[i]? = some (.cells c t f)) : w'.heap[i]? = some (.cells c t f) :=
  (hO.2.2.2.2.1 i (fun e => hn _ _ _ (e ▸ hi))).trans hi
theorem cells_keepB {w w' : World} {i : Nat} {c : Array Value} {t : TypeId} {f : Nat × Nat} (hB : Below w.heap.size w w') (hi : w.heap[i]? = some (.cells c t f)) : w'.heap[i]? = some (.cells c t f) := (hB.block i (Array.getElem?_eq_some_iff.1 hi).1).trans hi
theorem lent_may {A : AB} {job : Int} {lo : List Lt} (hG : GoodA A) (hp : (lo.map abL).Perm (heldA A job).2) {q : Lt} (hq : q ∈ lo) : mayC q.2.l = true ∧ q.2.l ≠ [] := by
  have hm := hp.mem_iff.1 (List.mem_map.2 ⟨q, hq, rfl⟩)
  cases hg : U.getL A job with
  | none => unfold heldA at hm; rw [hg] at hm; cases hm
  | some x =>
    unfold heldA at hm
    rw [hg] at hm
    exact (getA_good hG hg).may _ hm
theorem onlyB_reads {w w2 : World} {it om : Nat} {O : List (Nm × Cr)} {done : List Nm} (h : IterL evC w it om O done) (hO : OnlyB it w w2) {v : Value} {l : List Lt} (hr : ReadsK encL 3 w v l) : ReadsK encL 3 w2 v l := by
  rcases hr with hr | ⟨b, off, cap, hv, hb, hc⟩
  · exact .inl hr
  · refine .inr ⟨b, off, cap, hv, by rw [hO.2.2.2.1]; exact hb, fun i hi t u hu => ?_⟩
    have h1 := hc i hi t u hu
    refine (World.cell?_of_block (a := ⟨b, off + (i * 3 + t), none⟩) (hO.2.2.2.2 b ?_)).trans h1
    rintro rfl
    obtain ⟨es, c', s, sn, la, _, _, _, _, _, _, _, h2, _⟩ := h
    simp [World.cell?, h2] at h1
theorem onlyB_own {w w2 : World} {it om : Nat} {O : List (Nm × Cr)} {done : List Nm} (h : IterL evC w it om O done) (hO : OnlyB it w w2) {v : Value} {l : List Int} (hr : COwn w 0 v l) : COwn w2 0 v l :=
  hr.keepI fun i ⟨cur, hi⟩ => (onlyB_cells h hO hi).trans hi.symm
theorem lent_path {A : AB} {job : Int} {lo : List Lt} (hG : GoodA A) (hp : (lo.map abL).Perm (heldA A job).2) {q : Lt} (hq : q ∈ lo) : q.1.2.size ≤ 9223372036854775807 := by
  have hm := hp.mem_iff.1 (List.mem_map.2 ⟨q, hq, rfl⟩)
  cases hg : U.getL A job with
  | none => unfold heldA at hm; rw [hg] at hm; cases hm
  | some x =>
    unfold heldA at hm
    rw [hg] at hm
    exact Nat.le_trans (mayS_le ((getA_good hG hg).pth _ hm)) (by decide)
theorem cmpS_less {a b : ByteArray} (h : cmpS a b < 0) : cmpS a b = -1 := by
  unfold cmpS at h ⊢
  split
  · rfl
  · rename_i h1
    rw [if_neg h1] at h
    split at h <;> omega
def FrI (sv : Value) (r hm om : Nat) (k : Int) (a : Act) : Prop := a.defers = [] ∧ a.tmps.size = 373 ∧ sl a.tmps 0 = sv ∧ sl a.tmps 3 = .pointer (some ⟨r, 0, none⟩) ∧ sl a.tmps 4 = .map (some hm) ∧ sl a.tmps 5 = .map (some om) ∧ sl a.tmps 6 = .int .i64 k
def PlI (w : World) (sv : Value) (L r m hm gk : Nat) (a : Act) (wr : World) : Prop := ∃ (k om : Nat) (A : AB) (H : List (Int × Cr)) (O : List (Nm × Cr)), gk + k = L ∧ Pw w r m hm om A H O k wr ∧ FrI sv r hm om k a
def CuI (w : World) (sv : Value) (r m hm k s : Nat) (x : Sp) (a : Act) (wc : World) : Prop := ∃ (om : Nat) (A : AB) (H : List (Int × Cr)) (O : List (Nm × Cr)), Pw w r m hm om A H O (k + 1) wc ∧ wc.heap[s]? = some (stepO x) ∧ FrI sv r hm om k a ∧ sl a.tmps 7 = .pointer (some ⟨s, 0, none⟩)
set_option maxHeartbeats 16000000 in
set_option maxRecDepth 100000 in
theorem plays_any (v : Value) (l : List Sp) (w0 : World) (hv : ReadsK encS 5 w0 v l) (hz : ∀ x ∈ l, x.2.1.2.size ≤ 9223372036854775807 ∧ x.2.2.2.size ≤ 9223372036854775807) (hl : (l.length : Int) ≤ 9223372036854775807) :
    Calls Try.prog 4 #[v] w0 fun e w' => e = .returned (.bool true) ∧ Below w0.heap.size w0 w' := by
  obtain ⟨a, cap, rfl⟩ := hv.slice
  have HV := Lib.hid hv
  have HZ := Lib.hid hz
  clear hv hz
  go_enter Try.func4, Try.ntmps4
  have hmk := @Go.RowKit.run_makeMap Try.prog
  go_wp2_with fail
  refine (heavy_any _ l w0 HV.out hl).mono ?_
  rintro e w ⟨b, rfl, hB0, hb⟩
  cases b
  · have hl2 := hb rfl
    have HV1 := Lib.hid (HV.out.below hB0)
    have HB0 := Lib.hid hB0
    clear hb hB0 HV hl
    go_wp2_with fail
    refine (wr_new (Q := fun i => i < w.heap.size) w (fun i hi => hi)).mono ?_
    rintro e w1 ⟨r, m, rfl, hW, hB⟩
    have HP : Hid (Pw w r m w1.heap.size (w1.heap.size + 1) [] [] [] 0 ((w1.alloc (.map #[] 0)).alloc (.map #[] 0))) := by
      have h1 := below_allocC w1 (.map #[] 0)
      have h2 := below_allocC (w1.alloc (.map #[] 0)) (.map #[] 0)
      have hs : (w1.alloc (.map #[] 0)).heap.size = w1.heap.size + 1 := by simp
      have hm2 := MapL.made evC (w1.alloc (.map #[] 0))
      rw [hs] at hm2
      refine ⟨hW.more (gthen h1 h2) ?_, ⟨hB.trans ((gthen h1 h2).mono hB.size), (U.MapL.made evC w1).block (h2.block _ (by simp)), hm2, (by intro p hp; cases hp), (by intro p hp; cases hp), hB.size, Nat.le_succ_of_le hB.size, by omega⟩, ⟨fun _ => rfl, fun _ => rfl⟩, Nat.le_refl _, by intro p hp; cases hp⟩
      rintro i (hi | rfl | rfl)
      · exact .inl hi
      · exact .inr (Nat.le_refl _)
      · exact .inr (Nat.le_succ _)
    clear hW hB
    go_wp2_with fail
    generalize w1.heap.size = hm at *
    generalize hm + 1 = om0 at *
    refine wp_loop_ghost_k (PlI w (.slice a l.length cap) l.length r m hm) l.length ?atStart ?round
    case atStart => exact ⟨0, om0, [], [], [], by omega, HP.out, rfl, rfl, rfl, rfl, rfl, rfl, rfl⟩
    case round =>
      clear HP hmk
      rintro go0 ⟨ts, ds⟩ wr ⟨k, om, A, H, O, hk, hP, hd, hts, f0, f3, f4, f5, f6⟩ J K hJ hK
      have HP := Lib.hid hP
      clear hP
      simp only at hd hts f0 f3 f4 f5 f6
      subst hd
      rw [frame_lit hts, f0, f3, f4, f5, f6]
      clear f0 f3 f4 f5 f6
      by_cases hlt : k < l.length
      · obtain ⟨b, off, c, he, hb, hc⟩ := (HP.out.ph.reads HV1.out).at (by omega)
        injection he with he1 he2 he3
        subst he1
        have HX := Lib.hid (HZ.out _ (List.getElem_mem hlt))
        have hcc := hc k hlt
        clear hc he2 he3
        generalize l[k] = x at hcc HX
        have c0 : wr.cell? ⟨b, off + k * 5, none⟩ = some (.int .i64 x.1) := hcc 0 _ rfl
        have c1 : wr.cell? ⟨b, off + k * 5 + 1, none⟩ = some (.int .u64 x.2.1.1) := hcc 1 _ rfl
        have c2 : wr.cell? ⟨b, off + k * 5 + 2, none⟩ = some (.string x.2.1.2) := hcc 2 _ rfl
        have c3 : wr.cell? ⟨b, off + k * 5 + 3, none⟩ = some (.int .u64 x.2.2.1) := hcc 3 _ rfl
        have c4 : wr.cell? ⟨b, off + k * 5 + 4, none⟩ = some (.string x.2.2.2) := hcc 4 _ rfl
        have HPS : Hid (Pw w r m hm om A H O k (wr.alloc (.cells #[.int .i64 x.1, .int .u64 x.2.1.1, .string x.2.1.2, .int .u64 x.2.2.1, .string x.2.2.2] 37))) := HP.out.below (below_allocC _ _)
        have hlkh := HPS.out.ph.hlook x.2.1.1
        clear hcc hb
        go_upto_block 2 with fail
        have HS : (wr.alloc (.cells #[.int .i64 x.1, .int .u64 x.2.1.1, .string x.2.1.2, .int .u64 x.2.2.1, .string x.2.2.2] 37)).heap[wr.heap.size]? = some (stepO x) := heap_alloc_new _ _
        have hsz : wr.heap.size < (wr.alloc (.cells #[.int .i64 x.1, .int .u64 x.2.1.1, .string x.2.1.2, .int .u64 x.2.2.1, .string x.2.2.2] 37)).heap.size := by simp
        generalize wr.alloc (.cells #[.int .i64 x.1, .int .u64 x.2.1.1, .string x.2.1.2, .int .u64 x.2.2.1, .string x.2.2.2] 37) = ws at *
        clear HP c0 c1 c2 c3 c4 hlkh
        generalize wr.heap.size = s at *
        refine wp_cut (CuI w (.slice (some ⟨b, off, none⟩) l.length cap) r m hm k s x) ?rest ?first
        case first =>
          intro J2 K2 hJ2 hK2
          have HSS := Lib.hid HS
          obtain ⟨s0, s1, s2, s3, s4⟩ := step_cells HS
          clear HS
          by_cases h0 : x.1 = 0
          · cases hg : U.getL A x.2.1.1 with
            | some y =>
              obtain ⟨cr, hcr, hcl⟩ := HPS.out.rl.hsome hg
              have e1 := Lib.hid (show beginE A x.2.1.1 = 7 by unfold beginE; rw [hg]; rfl)
              rw [hcr]
              simp only [Option.isSome_some, Option.map_some, Option.getD_some]
              unfold evC
              go_wp2_with fail
              refine (wr_begin HPS.out.wr HPS.out.ph.q x.2.1.1 (by have := HPS.out.bn.1; omega)).mono ?_
              rintro e w3 ⟨rfl, hW, hS⟩
              rw [e1.out]
              rw [show beginA A x.2.1.1 = A by unfold beginA; rw [e1.out]; rfl] at hW
              have HF := Lib.hid (show Pw w r m hm om A H O (k + 1) w3 ∧ w3.heap[s]? = some (stepO x) from ⟨⟨hW, HPS.out.ph.stp hS, HPS.out.rl, HPS.out.bn.more⟩, cell_stp hS HSS.out⟩)
              clear hW hS s0 s1 s2 s3 s4
              go_wp2_with fail
              refine Met.intro (hJ2 _ _ ?_)
              exact ⟨_, _, _, _, HF.out.1, HF.out.2, ⟨rfl, rfl, rfl, rfl, rfl, rfl, rfl⟩, rfl⟩
            | none =>
              have hh := HPS.out.rl.hnone hg
              have e1 := Lib.hid (show beginE A x.2.1.1 = 0 by unfold beginE; rw [hg]; have := HPS.out.bn.1; rw [if_neg (by simp), if_neg (by omega)])
              have HG := Lib.hid hg
              rw [hh]
              simp only [Option.isSome_none, Option.map_none, Option.getD_none]
              clear hg hh
              go_wp2_with fail
              refine (wr_begin HPS.out.wr HPS.out.ph.q x.2.1.1 (by have := HPS.out.bn.1; omega)).mono ?_
              rintro e w3 ⟨rfl, hW, hS⟩
              rw [e1.out]
              rw [show beginA A x.2.1.1 = A ++ [(x.2.1.1, ([0], []))] by unfold beginA; rw [e1.out]; rfl] at hW
              have HW := Lib.hid hW
              have HPH := Lib.hid (HPS.out.ph.stp hS)
              have HS3 := Lib.hid (cell_stp hS HSS.out)
              clear hW hS s0 s1 s2 s3 s4
              obtain ⟨t0, t1, t2, t3, t4⟩ := step_cells HS3.out
              go_upto_region 19 with fail
              have hsl : s < w3.heap.size := (Array.getElem?_eq_some_iff.1 HS3.out).1
              have hsm : s ≠ hm := fun e => HPH.out.hmap.no_cells (e ▸ HS3.out)
              refine wp_region_held_drew (S := fun y => Fr (fun i => i = hm) w3 y) (by kernel_rfl) ((Fr.refl _ _).drew) (fun hHeld => ?_)
              refine wpAnyH_take (i := 0) (oi := _) (v := ?_) (by rw [List.getElem?_toArray]; exact rfl) (by kernel_rfl) (by kernel_rfl) (by kernel_rfl) (by exact fun _ _ _ h => h) (Or.inl ⟨by rfl, ?_⟩) hHeld ?_
              rotate_left
              · (intro wX hSw; have z1 := (hSw.cell (p := ⟨s, 1, none⟩) hsl hsm).trans t1; clear hSw; go_simp; try with_reducible rfl)
              try simp only [Act.put, List.setIfInBounds_toArray, List.set_cons_zero, List.set_cons_succ]
              refine wpAnyH_take (i := 1) (oi := _) (v := ?_) (by rw [List.getElem?_toArray]; exact rfl) (by kernel_rfl) (by kernel_rfl) (by kernel_rfl) (by exact fun _ _ _ h => h) (Or.inl ⟨by rfl, ?_⟩) hHeld ?_
              rotate_left
              · (intro wX hSw; have z1 := (hSw.cell (p := ⟨s, 1, none⟩) hsl hsm).trans t1; clear hSw; go_simp; try with_reducible rfl)
              try simp only [Act.put, List.setIfInBounds_toArray, List.set_cons_zero, List.set_cons_succ]
              refine wpAnyH_take (i := 2) (oi := _) (v := ?_) (by rw [List.getElem?_toArray]; exact rfl) (by kernel_rfl) (by kernel_rfl) (by kernel_rfl) (by exact fun _ _ _ h => h) (Or.inl ⟨by rfl, ?_⟩) hHeld ?_
              rotate_left
              · (intro wX hSw; have z1 := (hSw.cell (p := ⟨s, 1, none⟩) hsl hsm).trans t1; clear hSw; go_simp; try with_reducible rfl)
              try simp only [Act.put, List.setIfInBounds_toArray, List.set_cons_zero, List.set_cons_succ]
              refine wpAnyH_take (i := 3) (oi := _) (v := ?_) (by rw [List.getElem?_toArray]; exact rfl) (by kernel_rfl) (by kernel_rfl) (by kernel_rfl) (by exact fun _ _ _ h => h) (Or.inl ⟨by rfl, ?_⟩) hHeld ?_
              rotate_left
              · (intro wX hSw; have z1 := (hSw.cell (p := ⟨s, 1, none⟩) hsl hsm).trans t1; clear hSw; go_simp; try with_reducible rfl)
              try simp only [Act.put, List.setIfInBounds_toArray, List.set_cons_zero, List.set_cons_succ]
              refine wpAnyH_ready (rs := [4]) (by kernel_rfl) (by simp) ?_
              refine AllReadyH.cons (o := _) (by rw [List.getElem?_toArray]; exact rfl) (fun K hK => ?_) ?_
              · go_simp
                refine (one_any _).mono ?_; rintro e wc ⟨b1, c1, rfl, ho, hB⟩; have HO := Lib.hid (CrOk.one ho); have HBC := Lib.hid (rheld hB); clear ho
                go_wp2_with fail
                refine hK.out _ _ (hHeld.then hB) (fun hHeld => ?_)
                clear hK K
                try simp only [Act.put, List.setIfInBounds_toArray, List.set_cons_zero, List.set_cons_succ]
                refine wpAnyH_ready (rs := [5]) (by kernel_rfl) (by simp) ?_
                refine AllReadyH.cons (o := _) (by rw [List.getElem?_toArray]; exact rfl) (fun K hK => ?_) ?_
                · obtain ⟨w9, hrun, hM, hO⟩ := (HPH.out.below HBC.out).hmap.update (P := Try.prog) U.nameTy Try.underlying32 x.2.1.1 ⟨some ⟨b1, 0, none⟩, c1, [0]⟩
                  have hrun' : (Instr.mapUpdate 32 (.map (some hm)) (.int .u64 x.2.1.1) (.slice (some ⟨b1, 0, none⟩) 1 c1)).run Try.prog wc = .ok () w9 := hrun
                  clear hrun
                  go_simp
                  refine hK.out _ _ (hHeld.only hO rfl) (fun hHeld => ?_)
                  clear hK K
                  try simp only [Act.put, List.setIfInBounds_toArray, List.set_cons_zero, List.set_cons_succ]
                  refine wpAnyH_done (by kernel_rfl) ?_ _
                  have HF := Lib.hid (show Pw w r m hm om (A ++ [(x.2.1.1, ([0], []))]) (U.putL H x.2.1.1 ⟨some ⟨b1, 0, none⟩, c1, [0]⟩) O (k + 1) w9 ∧ w9.heap[s]? = some (stepO x) from ⟨⟨(HW.out.below HBC.out).honly (HPH.out.below HBC.out) hO, (HPH.out.below HBC.out).hput hO hM HO.out, HPS.out.rl.begin HG.out rfl, by have := HPS.out.bn.begin x.2.1.1; unfold beginA at this; rw [if_pos e1.out] at this; exact this⟩, (hO.2.2.2.2.1 s hsm).trans ((HBC.out.block s hsl).trans HS3.out)⟩)
                  clear hHeld hM hO hrun' HBC HO
                  go_wp2_with fail
                  refine Met.intro (hJ2 _ _ ?_)
                  exact ⟨_, _, _, _, HF.out.1, HF.out.2, ⟨rfl, rfl, rfl, rfl, rfl, rfl, rfl⟩, rfl⟩
                exact AllReadyH.nil
              exact AllReadyH.nil
          · by_cases h1 : x.1 = 1
            ·
              cases hg : U.getL A x.2.1.1 with
              | none =>
                have hh := HPS.out.rl.hnone hg
                have ho2 := HPS.out.rl.onone hg
                have HG := Lib.hid hg
                rw [hh]
                simp only [Option.isSome_none, Option.map_none, Option.getD_none]
                go_wp2_with fail
                refine (wr_give HPS.out.wr HPS.out.ph.q x.2.1 HX.out.1).mono ?_
                rintro e w3 ⟨v, rfl, hv, hW, hS⟩
                have HW3 := Lib.hid hW
                have PH3 := Lib.hid (HPS.out.ph.stp hS)
                have HS3 := Lib.hid (cell_stp hS HSS.out)
                have HV3 := Lib.hid (COwn.low0 hv)
                have HS3c := Lib.hid hS
                obtain ⟨av, cv, rfl⟩ := HV3.out.slice
                clear hv hW hS s0 s1 s2 s3 s4
                obtain ⟨_, t1, t2, _, _⟩ := step_cells HS3.out
                have hol := PH3.out.olook x.2.1
                rw [ho2] at hol
                simp only [Option.isSome_none, Option.map_none, Option.getD_none] at hol
                clear hh ho2 hg
                go_wp2_with fail
                refine (half_w (l := []) (fun h => h) rfl).mono ?_
                rintro e w4 ⟨ah, nh, ch, ag, ng, cg, rfl, hok, hB⟩
                have HW4 := Lib.hid (HW3.out.below hB)
                have PH4 := Lib.hid (PH3.out.below hB)
                have HS4 := Lib.hid ((hB.block s (Array.getElem?_eq_some_iff.1 HS3.out).1).trans HS3.out)
                have HV4 := Lib.hid (cowns HV3.out hB)
                have HOK := Lib.hid hok
                clear HW3 PH3 HS3 HV3 hB hok t1 t2 hol
                obtain ⟨_, t1, t2, _, _⟩ := step_cells HS4.out
                go_wp2_with fail
                refine (rmay_any x.2.1.2 _ HX.out.1).mono ?_
                rintro e w5 ⟨rfl, hw⟩
                subst hw
                cases hm2 : mayS x.2.1.2 with
                | true =>
                  have e1 := Lib.hid (show giveE A x.2.1 = 5 by unfold giveE; rw [hm2, HG.out]; rfl)
                  rw [e1.out]
                  have HF := Lib.hid (give_skip HW4.out PH4.out HPS.out.rl HPS.out.bn HS4.out (by rw [e1.out]; decide))
                  rw [show giveVv A x.2.1 = [] by unfold giveVv; rw [e1.out]; rfl]
                  simp only [List.length_nil]
                  
                  go_wp2_with fail
                  refine Met.intro (hJ2 _ _ ?_)
                  exact ⟨_, _, _, _, HF.out.1, HF.out.2, ⟨rfl, rfl, rfl, rfl, rfl, rfl, rfl⟩, rfl⟩
                | false =>
                  have e1 := Lib.hid (show giveE A x.2.1 = 2 by unfold giveE; rw [hm2]; rfl)
                  rw [e1.out]
                  have HF := Lib.hid (give_skip HW4.out PH4.out HPS.out.rl HPS.out.bn HS4.out (by rw [e1.out]; decide))
                  rw [show giveVv A x.2.1 = [] by unfold giveVv; rw [e1.out]; rfl]
                  simp only [List.length_nil]
                  
                  go_wp2_with fail
                  refine Met.intro (hJ2 _ _ ?_)
                  exact ⟨_, _, _, _, HF.out.1, HF.out.2, ⟨rfl, rfl, rfl, rfl, rfl, rfl, rfl⟩, rfl⟩
              | some y =>
                obtain ⟨cr, hcr, hcl⟩ := HPS.out.rl.hsome hg
                have HGO := Lib.hid (getA_good HPS.out.wr.good hg)
                have HG := Lib.hid hg
                have HCR := Lib.hid (HPS.out.ph.hget hcr)
                obtain ⟨ca, cc, cl⟩ := cr
                simp only at hcl
                subst hcl
                have hoo := HPS.out.rl.o x.2.1
                rw [hg] at hoo
                simp only [Option.bind_some] at hoo
                rw [hcr]
                simp only [Option.isSome_some, Option.map_some, Option.getD_some, evC]
                go_wp2_with fail
                refine (wr_give HPS.out.wr HPS.out.ph.q x.2.1 HX.out.1).mono ?_
                rintro e w3 ⟨v, rfl, hv, hW, hS⟩
                have HW3 := Lib.hid hW
                have PH3 := Lib.hid (HPS.out.ph.stp hS)
                have HS3 := Lib.hid (cell_stp hS HSS.out)
                have HV3 := Lib.hid (COwn.low0 hv)
                have HS3c := Lib.hid hS
                obtain ⟨av, cv, rfl⟩ := HV3.out.slice
                clear hv hW hS s0 s1 s2 s3 s4
                obtain ⟨_, t1, t2, _, _⟩ := step_cells HS3.out
                have hol := PH3.out.olook x.2.1
                cases ho : getL y.2 x.2.1 with
                | some c =>
                  rw [ho] at hoo
                  obtain ⟨oc, hoc, _⟩ := Option.map_eq_some_iff.1 hoo
                  rw [hoc] at hol
                  simp only [Option.isSome_some, Option.map_some, Option.getD_some, evC] at hol
                  clear hoo hoc
                  have HO := Lib.hid ho
                  have HC3 := Lib.hid (CrOk.stpq HCR.out HPS.out.ph HS3c.out)
                  clear ho hg hcr
                  go_wp2_with fail
                  refine (half_w (l := y.1) (fun _ => HC3.out) HGO.out.heldMay).mono ?_
                  rintro e w4 ⟨ah, nh, ch, ag, ng, cg, rfl, hok, hB⟩
                  have HW4 := Lib.hid (HW3.out.below hB)
                  have PH4 := Lib.hid (PH3.out.below hB)
                  have HS4 := Lib.hid ((hB.block s (Array.getElem?_eq_some_iff.1 HS3.out).1).trans HS3.out)
                  have HV4 := Lib.hid (cowns HV3.out hB)
                  have HOK := Lib.hid hok
                  clear HW3 PH3 HS3 HV3 hB hok t1 t2 hol
                  obtain ⟨_, t1, t2, _, _⟩ := step_cells HS4.out
                  go_wp2_with fail
                  refine (rmay_any x.2.1.2 _ HX.out.1).mono ?_
                  rintro e w5 ⟨rfl, hw⟩
                  subst hw
                  cases hm2 : mayS x.2.1.2 with
                  | false =>
                    have e1 := Lib.hid (show giveE A x.2.1 = 2 by unfold giveE; rw [hm2]; rfl)
                    rw [e1.out]
                    have HF := Lib.hid (give_skip HW4.out PH4.out HPS.out.rl HPS.out.bn HS4.out (by rw [e1.out]; decide))
                    rw [show giveVv A x.2.1 = [] by unfold giveVv; rw [e1.out]; rfl]
                    simp only [List.length_nil]
                    
                    go_wp2_with fail
                    refine Met.intro (hJ2 _ _ ?_)
                    exact ⟨_, _, _, _, HF.out.1, HF.out.2, ⟨rfl, rfl, rfl, rfl, rfl, rfl, rfl⟩, rfl⟩
                  | true =>
                    have e1 := Lib.hid (show giveE A x.2.1 = 7 by unfold giveE; rw [hm2, if_pos rfl, HG.out]; simp only; rw [HO.out]; rfl)
                    rw [e1.out]
                    have HF := Lib.hid (give_skip HW4.out PH4.out HPS.out.rl HPS.out.bn HS4.out (by rw [e1.out]; decide))
                    rw [show giveVv A x.2.1 = [] by unfold giveVv; rw [e1.out]; rfl]
                    simp only [List.length_nil]
                    
                    go_wp2_with fail
                    refine Met.intro (hJ2 _ _ ?_)
                    exact ⟨_, _, _, _, HF.out.1, HF.out.2, ⟨rfl, rfl, rfl, rfl, rfl, rfl, rfl⟩, rfl⟩
                | none =>
                  rw [ho, Option.map_eq_none_iff] at hoo
                  rw [hoo] at hol
                  simp only [Option.isSome_none, Option.map_none, Option.getD_none] at hol
                  clear hoo
                  have HO := Lib.hid ho
                  have HC3 := Lib.hid (CrOk.stpq HCR.out HPS.out.ph HS3c.out)
                  clear ho hg hcr
                  go_wp2_with fail
                  refine (half_w (l := y.1) (fun _ => HC3.out) HGO.out.heldMay).mono ?_
                  rintro e w4 ⟨ah, nh, ch, ag, ng, cg, rfl, hok, hB⟩
                  have HW4 := Lib.hid (HW3.out.below hB)
                  have PH4 := Lib.hid (PH3.out.below hB)
                  have HS4 := Lib.hid ((hB.block s (Array.getElem?_eq_some_iff.1 HS3.out).1).trans HS3.out)
                  have HV4 := Lib.hid (cowns HV3.out hB)
                  have HOK := Lib.hid hok
                  clear HW3 PH3 HS3 HV3 hB hok t1 t2 hol
                  obtain ⟨_, t1, t2, _, _⟩ := step_cells HS4.out
                  go_wp2_with fail
                  refine (rmay_any x.2.1.2 _ HX.out.1).mono ?_
                  rintro e w5 ⟨rfl, hw⟩
                  subst hw
                  cases hm2 : mayS x.2.1.2 with
                  | false =>
                    have e1 := Lib.hid (show giveE A x.2.1 = 2 by unfold giveE; rw [hm2]; rfl)
                    rw [e1.out]
                    have HF := Lib.hid (give_skip HW4.out PH4.out HPS.out.rl HPS.out.bn HS4.out (by rw [e1.out]; decide))
                    rw [show giveVv A x.2.1 = [] by unfold giveVv; rw [e1.out]; rfl]
                    simp only [List.length_nil]
                    
                    go_wp2_with fail
                    refine Met.intro (hJ2 _ _ ?_)
                    exact ⟨_, _, _, _, HF.out.1, HF.out.2, ⟨rfl, rfl, rfl, rfl, rfl, rfl, rfl⟩, rfl⟩
                  | true =>
                    by_cases hlast : 4096 < y.1.getD (y.1.length - 1) 0 + 1
                    · have e2 := Lib.hid (show halfE y.1 = 6 by unfold halfE; rw [if_neg HGO.out.ne, if_pos hlast])
                      have e1 := Lib.hid (show giveE A x.2.1 = 6 by unfold giveE; rw [hm2, if_pos rfl, HG.out]; simp only; rw [HO.out]; simp only [Option.isSome_none, Bool.false_eq_true, if_false]; rw [if_pos hlast])
                      rw [e1.out]
                      have HF := Lib.hid (give_skip HW4.out PH4.out HPS.out.rl HPS.out.bn HS4.out (by rw [e1.out]; decide))
                      rw [show giveVv A x.2.1 = [] by unfold giveVv; rw [e1.out]; rfl]
                      simp only [List.length_nil]
                      rw [e2.out]
                      clear hlast
                      go_wp2_with fail
                      refine Met.intro (hJ2 _ _ ?_)
                      exact ⟨_, _, _, _, HF.out.1, HF.out.2, ⟨rfl, rfl, rfl, rfl, rfl, rfl, rfl⟩, rfl⟩
                    · have e2 := Lib.hid (show halfE y.1 = 0 by unfold halfE; rw [if_neg HGO.out.ne, if_neg hlast])
                      have e1 := Lib.hid (show giveE A x.2.1 = 0 by unfold giveE; rw [hm2, if_pos rfl, HG.out]; simp only; rw [HO.out]; simp only [Option.isSome_none, Bool.false_eq_true, if_false]; rw [if_neg hlast])
                      have e3 := Lib.hid (show giveVv A x.2.1 = giveL y.1 by unfold giveVv; rw [if_pos e1.out]; unfold heldA; rw [HG.out]; rfl)
                      obtain ⟨hn1, hn2, hk, hu⟩ := HOK.out e2.out
                      subst hn1; subst hn2
                      have HK := Lib.hid hk
                      have HU := Lib.hid hu
                      have HV5 := HV4.out
                      rw [e3.out] at HV5
                      replace HV4 := Lib.hid HV5
                      clear hlast hk hu HV5
                      rw [e1.out, e2.out, e3.out]
                      rw [show (giveL y.1).length = 1 from rfl]
                      go_wp2_with fail
                      refine (compare_same (l := giveL y.1) (fun _ => HV4.out) HU.out (by show (1 : Nat) ≤ 1000000; decide)).mono ?_
                      rintro e w6 ⟨rfl, hB⟩
                      have HW6 := Lib.hid (HW4.out.below hB)
                      have PH6 := Lib.hid (PH4.out.below hB)
                      have HS6 := Lib.hid ((hB.block s (Array.getElem?_eq_some_iff.1 HS4.out).1).trans HS4.out)
                      have HK6 := Lib.hid (show CrOk w6 ⟨ah, ch, keepL y.1⟩ from cowns HK.out hB)
                      have HU6 := Lib.hid (show CrOk w6 ⟨ag, cg, giveL y.1⟩ from cowns HU.out hB)
                      clear HW4 PH4 HS4 HV4 HK HU HOK hB t1 t2
                      obtain ⟨_, t1, t2, _, _⟩ := step_cells HS6.out
                      obtain ⟨w7, hr7, hM7, hO7⟩ := PH6.out.hmap.update (P := Try.prog) U.nameTy Try.underlying32 x.2.1.1 ⟨ah, ch, keepL y.1⟩
                      have PH7 := Lib.hid (PH6.out.hput hO7 hM7 HK6.out)
                      have HW7 := Lib.hid (HW6.out.honly PH6.out hO7)
                      have HU7 := Lib.hid (HU6.out.keep fun i hi => hO7.2.2.2.2.1 i (PH6.out.hmap.no_int hi))
                      have HS7 := Lib.hid ((hO7.2.2.2.2.1 s (fun e => PH6.out.hmap.no_cells (e ▸ HS6.out))).trans HS6.out)
                      obtain ⟨_, u1, u2, _, _⟩ := step_cells HS7.out
                      obtain ⟨w8, hr8, hM8, hO8⟩ := PH7.out.omap.update (P := Try.prog) nameTy Try.underlying33 x.2.1 ⟨ag, cg, giveL y.1⟩
                      have HF := Lib.hid (show Pw w r m hm om (giveA A x.2.1) (U.putL H x.2.1.1 ⟨ah, ch, keepL y.1⟩) (putL O x.2.1 ⟨ag, cg, giveL y.1⟩) (k + 1) w8 ∧ w8.heap[s]? = some (stepO x) from ⟨⟨HW7.out.oonly PH7.out hO8, PH7.out.oput hO8 hM8 HU7.out, by have := HPS.out.rl.give HG.out HO.out (k := ⟨ah, ch, keepL y.1⟩) (g := ⟨ag, cg, giveL y.1⟩); unfold giveA; rw [if_pos e1.out]; unfold heldA; rw [HG.out]; exact this, HPS.out.bn.give _⟩, (hO8.2.2.2.2.1 s (fun e => PH7.out.omap.no_cells (e ▸ HS7.out))).trans HS7.out⟩)
                      have hr7' : (Instr.mapUpdate 32 (.map (some hm)) (.int .u64 x.2.1.1) (.slice ah (keepL y.1).length ch)).run Try.prog w6 = .ok () w7 := hr7
                      have hr8' : (Instr.mapUpdate 33 (.map (some om)) (.agg #[.int .u64 x.2.1.1, .string x.2.1.2]) (.slice ag 1 cg)).run Try.prog w7 = .ok () w8 := hr8
                      clear hr7 hr8 hM7 hO7 hM8 hO8
                      generalize (keepL y.1).length = kl at *
                      go_wp2_with fail
                      refine Met.intro (hJ2 _ _ ?_)
                      exact ⟨_, _, _, _, HF.out.1, HF.out.2, ⟨rfl, rfl, rfl, rfl, rfl, rfl, rfl⟩, rfl⟩
            · by_cases h2 : x.1 = 2
              ·
                rw [h2]
                have HN : (ws.alloc (.cells #[.int .u64 x.2.1.1, .string x.2.1.2, .int .u64 x.2.2.1, .string x.2.2.2] 35)).heap[ws.heap.size]? = some (.cells #[.int .u64 x.2.1.1, .string x.2.1.2, .int .u64 x.2.2.1, .string x.2.2.2] 35 (0, 0)) := heap_alloc_new _ _
                have HT : Hid (Tk w r m hm om A [x.2.1, x.2.2] x s ws.heap.size 0 0 A H O (ws.alloc (.cells #[.int .u64 x.2.1.1, .string x.2.1.2, .int .u64 x.2.2.1, .string x.2.2.2] 35))) :=
                  ⟨HPS.out.wr.below (below_allocC ws _), HPS.out.ph.below (below_allocC ws _), HPS.out.rl, HPS.out.wr.good, rfl, Nat.zero_add _, Nat.le_refl _, cells_keepB (below_allocC ws _) HSS.out, HN⟩
                have HZN : Hid ([x.2.1, x.2.2].length = 2) := rfl
                clear HN
                go_wp2_with fail
                generalize hnb : ws.heap.size = nb at *
                generalize hnl : [x.2.1, x.2.2] = nl at *
                have HNL := Lib.hid hnl
                clear s0 s1 s2 s3 s4 hnl
                go_loopg [19, 21] 2 (fun gj sn sj wx => ∃ (j cnt : Nat) (A' : AB) (H' : List (Int × Cr)) (O' : List (Nm × Cr)), gj + j = 2 ∧ sj = .int .i64 j ∧ sn = .int .i64 cnt ∧ Tk w r m hm om A nl x s nb j cnt A' H' O' wx)
                case atStart => exact ⟨0, 0, A, H, O, by omega, rfl, rfl, HT.out⟩
                case round =>
                  clear HT
                  obtain ⟨j, cnt, A', H', O', hj, rfl, rfl, hT⟩ := hrel
                  have HT := Lib.hid hT
                  have hcj := hT.cj
                  clear hT
                  by_cases hj2 : j < 2
                  · have hjl : j < nl.length := by rw [HZN.out]; exact hj2
                    have HDR : Hid (nl.drop j = nl[j] :: nl.drop (j + 1)) := List.drop_eq_getElem_cons hjl
                    obtain ⟨k1, k2⟩ := names_at HT.out.no j hj2
                    have hne : [x.2.1, x.2.2][j]'(by simpa using hj2) = nl[j] := by simp only [HNL.out]
                    rw [hne] at k1 k2
                    obtain ⟨nm, hnm⟩ : ∃ nm, nl[j] = nm := ⟨_, rfl⟩
                    rw [hnm] at k1 k2 HDR
                    clear hne hnm hjl
                    have hol := HT.out.ph.olook nm
                    have hte := HT.out.rl.te nm
                    cases he : takeE A' nm with
                    | none =>
                      rw [he, Option.map_none, Option.map_eq_none_iff] at hte
                      rw [hte] at hol
                      simp only [Option.isSome_none, Option.map_none, Option.getD_none] at hol
                      have HE := Lib.hid he
                      clear he hte
                      go_wp2_with fail
                      go_roundg (gk - 1)
                      case rel => exact ⟨j + 1, cnt, A', H', O', by omega, by go_num, rfl, HT.out.wr, HT.out.ph, HT.out.rl, HT.out.gd, (by
                        have := HT.out.ta; rw [HDR.out, takeA_cons, take1_none HE.out] at this; exact this), (by
                        have := HT.out.tn; rw [HDR.out, takeN_cons, HE.out, take1_none HE.out] at this; simp only [Option.isSome_none, Bool.false_eq_true, if_false, Nat.zero_add] at this; exact this), by omega, HT.out.so, HT.out.no⟩
                      case measure => omega
                    | some yc =>
                      obtain ⟨y, c⟩ := yc
                      rw [he] at hte
                      obtain ⟨⟨oa, oc, ol⟩, hoc, hol2⟩ := Option.map_eq_some_iff.1 hte
                      simp only at hol2
                      subst hol2
                      obtain ⟨hg, ho⟩ := takeE_get he
                      obtain ⟨⟨ca, cc, cl⟩, hcr, hcl⟩ := HT.out.rl.hsome hg
                      simp only at hcl
                      subst hcl
                      rw [hoc] at hol
                      simp only [Option.isSome_some, Option.map_some, Option.getD_some, evC] at hol
                      have hhl := HT.out.ph.hlook1 nm.1
                      rw [hcr] at hhl
                      simp only [Option.map_some, Option.getD_some, evC] at hhl
                      have HGO := Lib.hid (getA_good HT.out.gd hg)
                      obtain ⟨z, hz1, hz2, hz3⟩ := HGO.out.keeps ho
                      have HC := Lib.hid (HT.out.ph.hget hcr)
                      have HOC := Lib.hid (HT.out.ph.oget hoc)
                      have HE := Lib.hid he
                      have HOM := Lib.hid (HGO.out.may _ (getL_mem' ho)).1
                      have HZ1 := Lib.hid hz1
                      clear he hte hoc hg hcr ho hz1 hz2 hz3
                      go_wp2_with fail
                      refine (add_plain y.1 ol _ _ _ HC.out HOC.out (Nat.le_trans HGO.out.len (by decide)) (Nat.le_trans (mayC_sc HOM.out).len (by decide))).mono ?_
                      rintro e w6 ⟨v, rfl, hov, hB⟩
                      rw [HZ1.out] at hov
                      rw [HZ1.out]
                      obtain ⟨av, cv, rfl⟩ := hov.slice
                      have HOV := Lib.hid (show CrOk w6 ⟨av, cv, z⟩ from hov)
                      have PH6 := Lib.hid (HT.out.ph.below hB)
                      have HW6 := Lib.hid (HT.out.wr.below hB)
                      have HS6 := Lib.hid (cells_keepB hB HT.out.so)
                      have HN6 := Lib.hid (cells_keepB hB HT.out.no)
                      have q1 := cell_keep hB k1
                      have q2 := cell_keep hB k2
                      clear hov hB k1 k2 hol hhl
                      obtain ⟨w7, hr7, hM7, hO7⟩ := PH6.out.hmap.update (P := Try.prog) U.nameTy Try.underlying32 nm.1 ⟨av, cv, z⟩
                      have PH7 := Lib.hid (PH6.out.hput hO7 hM7 HOV.out)
                      have HW7 := Lib.hid (HW6.out.honly PH6.out hO7)
                      have HS7 := Lib.hid (cells_keepM hO7 (fun _ _ _ => PH6.out.hmap.no_cells) HS6.out)
                      have HN7 := Lib.hid (cells_keepM hO7 (fun _ _ _ => PH6.out.hmap.no_cells) HN6.out)
                      have hnbm : nb ≠ hm := fun e => PH6.out.hmap.no_cells (e ▸ HN6.out)
                      have q3 := (World.cell?_of_block (a := ⟨nb, j * 2, none⟩) (hO7.2.2.2.2.1 nb hnbm)).trans q1
                      have q4 := (World.cell?_of_block (a := ⟨nb, j * 2 + 1, none⟩) (hO7.2.2.2.2.1 nb hnbm)).trans q2
                      obtain ⟨w8, hr8, hM8, hO8, _⟩ := PH7.out.omap.delete (P := Try.prog) nameTy Try.underlying33 nm 0
                      have HF := Lib.hid (show Tk w r m hm om A nl x s nb (j + 1) (cnt + 1) (take1 A' nm) (U.putL H' nm.1 ⟨av, cv, z⟩) (delL O' nm) w8 from ⟨HW7.out.oonly PH7.out hO8, PH7.out.odel hO8 hM8, HT.out.rl.take HE.out (by rw [HZ1.out]), HT.out.gd.take1 nm, by
                        have := HT.out.ta; rw [HDR.out, takeA_cons] at this; exact this, by
                        have := HT.out.tn; rw [HDR.out, takeN_cons, HE.out] at this; simp only [Option.isSome_some, if_true] at this; omega, by omega, cells_keepM hO8 (fun _ _ _ => PH7.out.omap.no_cells) HS7.out, cells_keepM hO8 (fun _ _ _ => PH7.out.omap.no_cells) HN7.out⟩)
                      have hr7' : (Instr.mapUpdate 32 (.map (some hm)) (.int .u64 nm.1) (.slice av z.length cv)).run Try.prog w6 = .ok () w7 := hr7
                      have hr8' := hr8
                      unfold encN at hr8'
                      clear hr7 hr8 hM7 hO7 hM8 hO8 hnbm
                      simp only
                      go_wp2_with fail
                      go_roundg (gk - 1)
                      case rel => exact ⟨j + 1, cnt + 1, _, _, _, by omega, by go_num, by go_num, HF.out⟩
                      case measure => omega
                  · have hd : nl.drop j = [] := List.drop_eq_nil_of_le (by rw [HZN.out]; omega)
                    have hta := HT.out.ta
                    have htn := HT.out.tn
                    rw [hd] at hta htn
                    have HTA := Lib.hid (show A' = takeA A nl from hta)
                    have HTN := Lib.hid (show cnt = takeN A nl from htn)
                    obtain ⟨_, u1, u2, u3, u4⟩ := step_cells HT.out.so
                    have HRD := Lib.hid (names_read2 wr x.2.1 x.2.2)
                    have HRO := Lib.hid (names_out (Q := Qp w hm om) wr #[.int .u64 x.2.1.1, .string x.2.1.2, .int .u64 x.2.2.1, .string x.2.2.2] trivial (n := 2) (k := 2))
                    have hBq := below_allocC wr (.cells #[.int .u64 x.2.1.1, .string x.2.1.2, .int .u64 x.2.2.1, .string x.2.2.2] 35)
                    have PH6 := Lib.hid (HT.out.ph.below hBq)
                    have HW6 := Lib.hid (HT.out.wr.below hBq)
                    have HS6 := Lib.hid (cells_keepB hBq HT.out.so)
                    clear hd hta htn hBq
                    go_wp2_with fail
                    refine (wr_take HW6.out PH6.out.q HRD.out HRO.out (by simp)).mono ?_
                    rintro e w7 ⟨rfl, hW, hS⟩
                    rw [HNL.out] at hW
                    rw [HNL.out, HTN.out]
                    have HF := Lib.hid (show Pw w r m hm om (takeA A nl) H' O' (k + 1) w7 ∧ w7.heap[s]? = some (stepO x) from ⟨⟨hW, PH6.out.stp hS, by rw [← HTA.out]; exact HT.out.rl, (HPS.out.bn.take nl).more⟩, cell_stp hS HS6.out⟩)
                    clear hW hS u1 u2 u3 u4 HRD HRO
                    go_wp2_with fail
                    refine Met.intro (hJ2 _ _ ?_)
                    exact ⟨_, _, _, _, HF.out.1, HF.out.2, ⟨rfl, rfl, rfl, rfl, rfl, rfl, rfl⟩, rfl⟩
              · by_cases h3 : x.1 = 3
                ·
                  rw [h3]
                  generalize hjob : x.2.1.1 = job at *
                  have hBq := below_allocC ws (.cells #[.int .u64 job] 26)
                  have HRD := Lib.hid (u1_read ws job)
                  have HRO := Lib.hid (u64_out (Q := Qp w hm om) ws #[.int .u64 job] (n := 1) (k := 1))
                  have PHq := Lib.hid (HPS.out.ph.below hBq)
                  have HWq := Lib.hid (HPS.out.wr.below hBq)
                  have HSq := Lib.hid (cells_keepB hBq HSS.out)
                  have HDN := Lib.hid (show ((U.getL H job).isSome = true ∧ dropN A [job] = 1) ∨ ((U.getL H job).isSome = false ∧ dropN A [job] = 0) by
                    cases hg : U.getL A job with
                    | none => right; rw [HPS.out.rl.hnone hg]; exact ⟨rfl, by show (if (U.getL A job).isSome then 1 else 0) + 0 = 0; rw [hg]; rfl⟩
                    | some y => left; obtain ⟨cr, hcr, _⟩ := HPS.out.rl.hsome hg; rw [hcr]; exact ⟨rfl, by show (if (U.getL A job).isSome then 1 else 0) + 0 = 1; rw [hg]; rfl⟩)
                  clear hBq s0 s2 s3 s4
                  go_wp2_with fail
                  refine (wr_drop HWq.out PHq.out.q HRD.out HRO.out (by simp)).mono ?_
                  rintro e w3 ⟨rfl, hW, hS⟩
                  rw [show dropA A [job] = U.delL A job from rfl] at hW
                  have HW3 := Lib.hid hW
                  have PH3 := Lib.hid (PHq.out.stp hS)
                  have HS3 := Lib.hid (cell_stp hS HSq.out)
                  clear hW hS s1 HWq PHq HSq HRD HRO
                  obtain ⟨_, t1, _, _, _⟩ := step_cells HS3.out
                  rw [hjob] at t1
                  obtain ⟨w4, hr4, hM4, hO4, _⟩ := PH3.out.hmap.delete (P := Try.prog) U.nameTy Try.underlying32 job 0
                  unfold U.encN at hr4
                  have PH4 := Lib.hid (PH3.out.hdel hO4 hM4)
                  have HW4 := Lib.hid (HW3.out.honly PH3.out hO4)
                  have HS4 := Lib.hid (cells_keepM hO4 (fun _ _ _ => PH3.out.hmap.no_cells) HS3.out)
                  have hmk := @Go.RowKit.run_makeMap Try.prog
                  have hB5 := below_allocC w4 (.map #[] 0)
                  have PH5 := Lib.hid (PH4.out.below hB5)
                  have HW5 := Lib.hid (HW4.out.more (Q' := fun i => Qp w hm om i ∨ i = w4.heap.size) hB5 (by
                    rintro i (hi | rfl)
                    · exact .inl hi
                    · exact .inr (Nat.le_refl _)))
                  have HS5 := Lib.hid (cells_keepB hB5 HS4.out)
                  have HL5 := Lib.hid (MapL.made evC w4)
                  obtain ⟨w6, hr6, hI6, hB6, hz6⟩ := range_run (P := Try.prog) PH5.out.omap Try.underlying33
                  have HD : Hid (Dw w r m hm om w4.heap.size (w4.alloc (.map #[] 0)).heap.size (U.delL A job) (U.delL H job) O [] [] x s w6) :=
                    ⟨HW5.out.below hB6, PH5.out.below hB6, hI6, HL5.out.block (hB6.block _ HL5.out.lt), (by intro p hp; cases hp), (hB6.block _ (Array.getElem?_eq_some_iff.1 HS5.out).1).trans HS5.out, PH4.out.low.size, PH5.out.low.size, (by have := PH4.out.hmap.lt; omega), (by have := PH4.out.omap.lt; omega)⟩
                  have hz5 : (w4.alloc (.map #[] 0)).heap.size = w4.heap.size + 1 := by simp
                  rw [hz5] at hr6 HD
                  clear hM4 hO4 hB5 hI6 hB6 hz6
                  have HON := Lib.hid HPS.out.ph.onodup
                  rcases HDN.out with ⟨hn1, hn2⟩ | ⟨hn1, hn2⟩
                  · rw [hn1, hn2]
                    clear hn1 hn2
                    go_wp2_with fail
                    generalize w4.heap.size = lm at *
                    generalize lm + 1 = it at *
                    clear hr4 hr6 hmk t1 hz5
                    go_loopg [27, 28] O.length (fun gj _ _ wx => ∃ (done : List Nm) (L' : List (Nm × Cr)), gj + done.length = O.length ∧ Dw w r m hm om lm it (U.delL A job) (U.delL H job) O L' done x s wx ∧ Dg O L' done job ∧ Dn O done)
                    case atStart => exact ⟨[], [], by simp, HD.out, Dg.start O job, ⟨List.nodup_nil, by intro n hn; cases hn⟩⟩
                    case round =>
                      clear HD
                      obtain ⟨done, L', hgl, hD, hDg, hDn⟩ := hrel
                      have HDg := Lib.hid hDg
                      have HDn := Lib.hid hDn
                      have HD := Lib.hid hD
                      clear hD hDg hDn
                      rcases HD.out.itr.next (P := Try.prog) 0 with ⟨hall, hrun⟩ | ⟨p, hp, hnotin, w2, hrun, hI2, hO2, hent⟩
                      · have HF := Lib.hid (show Pw w r m hm lm (U.delL A job) (U.delL H job) L' (k + 1) wr ∧ wr.heap[s]? = some (stepO x) from ⟨⟨HD.out.wr.sub (by
                            rintro i (hi | rfl | rfl)
                            · exact .inl (.inl hi)
                            · exact .inl (.inr (.inl rfl))
                            · exact .inr rfl), ⟨HD.out.ph.low, HD.out.ph.hmap, HD.out.lmap, HD.out.ph.hc, HD.out.lc, HD.out.ph.hlo, HD.out.lo, HD.out.n1⟩, HPS.out.rl.drop job (HDg.out.done hall), by have := HPS.out.bn.drop [job]; exact this.more⟩, HD.out.so⟩)
                        clear hall
                        go_wp2_with fail
                        refine Met.intro (hJ2 _ _ ?_)
                        exact ⟨_, _, _, _, HF.out.1, HF.out.2, ⟨rfl, rfl, rfl, rfl, rfl, rfl, rfl⟩, rfl⟩
                      · have hO : OnlyB it wr w2 := hO2
                        have he2 := hent w2 rfl rfl
                        have HD2 := Lib.hid (HD.out.next hI2 hO)
                        have hrl := HD.out.itr.lt
                        have HP2 := Lib.hid hp
                        have HNI := Lib.hid hnotin
                        have HDn2 := Lib.hid (HDn.out.next hp hnotin)
                        have hl2' := HDn2.out.len
                        simp only [List.length_append, List.length_cons, List.length_nil] at hl2'
                        unfold encN evC at hrun he2
                        have HD3 := Lib.hid (HD2.out.below (below_allocC w2 (.cells #[.int .u64 p.1.1, .string p.1.2] 35)))
                        obtain ⟨_, u1, _, _, _⟩ := step_cells HD3.out.so
                        rw [hjob] at u1
                        clear hI2 hO hO2 hent hp hnotin HD hrl
                        by_cases hj : p.1.1 = job
                        · have hjb : (p.1.1 != job) = false := by simp [hj]
                          have HJ := Lib.hid hj
                          clear hj
                          go_wp2_with fail
                          go_roundg (gk - 1)
                          case rel => exact ⟨done ++ [p.1], L', by simp; omega, HD3.out, HDg.out.skip HJ.out, HDn2.out⟩
                          case measure => omega
                        · have hjb : (p.1.1 != job) = true := by simp [hj]
                          have HJ := Lib.hid hj
                          clear hj
                          obtain ⟨w7, hr7, hM7, hO7⟩ := HD3.out.lmap.update (P := Try.prog) nameTy Try.underlying33 p.1 p.2
                          unfold encN evC at hr7
                          have HD7 := Lib.hid (HD3.out.put hM7 hO7 (HD3.out.ph.oc p HP2.out))
                          have HDg7 := Lib.hid (HDg.out.put HON.out HP2.out HJ.out)
                          clear hM7 hO7
                          go_wp2_with fail
                          go_roundg (gk - 1)
                          case rel => exact ⟨done ++ [p.1], _, by simp; omega, HD7.out, HDg7.out, HDn2.out⟩
                          case measure => omega
                  · rw [hn1, hn2]
                    clear hn1 hn2
                    go_wp2_with fail
                    generalize w4.heap.size = lm at *
                    generalize lm + 1 = it at *
                    clear hr4 hr6 hmk t1 hz5
                    go_loopg [27, 28] O.length (fun gj _ _ wx => ∃ (done : List Nm) (L' : List (Nm × Cr)), gj + done.length = O.length ∧ Dw w r m hm om lm it (U.delL A job) (U.delL H job) O L' done x s wx ∧ Dg O L' done job ∧ Dn O done)
                    case atStart => exact ⟨[], [], by simp, HD.out, Dg.start O job, ⟨List.nodup_nil, by intro n hn; cases hn⟩⟩
                    case round =>
                      clear HD
                      obtain ⟨done, L', hgl, hD, hDg, hDn⟩ := hrel
                      have HDg := Lib.hid hDg
                      have HDn := Lib.hid hDn
                      have HD := Lib.hid hD
                      clear hD hDg hDn
                      rcases HD.out.itr.next (P := Try.prog) 0 with ⟨hall, hrun⟩ | ⟨p, hp, hnotin, w2, hrun, hI2, hO2, hent⟩
                      · have HF := Lib.hid (show Pw w r m hm lm (U.delL A job) (U.delL H job) L' (k + 1) wr ∧ wr.heap[s]? = some (stepO x) from ⟨⟨HD.out.wr.sub (by
                            rintro i (hi | rfl | rfl)
                            · exact .inl (.inl hi)
                            · exact .inl (.inr (.inl rfl))
                            · exact .inr rfl), ⟨HD.out.ph.low, HD.out.ph.hmap, HD.out.lmap, HD.out.ph.hc, HD.out.lc, HD.out.ph.hlo, HD.out.lo, HD.out.n1⟩, HPS.out.rl.drop job (HDg.out.done hall), by have := HPS.out.bn.drop [job]; exact this.more⟩, HD.out.so⟩)
                        clear hall
                        go_wp2_with fail
                        refine Met.intro (hJ2 _ _ ?_)
                        exact ⟨_, _, _, _, HF.out.1, HF.out.2, ⟨rfl, rfl, rfl, rfl, rfl, rfl, rfl⟩, rfl⟩
                      · have hO : OnlyB it wr w2 := hO2
                        have he2 := hent w2 rfl rfl
                        have HD2 := Lib.hid (HD.out.next hI2 hO)
                        have hrl := HD.out.itr.lt
                        have HP2 := Lib.hid hp
                        have HNI := Lib.hid hnotin
                        have HDn2 := Lib.hid (HDn.out.next hp hnotin)
                        have hl2' := HDn2.out.len
                        simp only [List.length_append, List.length_cons, List.length_nil] at hl2'
                        unfold encN evC at hrun he2
                        have HD3 := Lib.hid (HD2.out.below (below_allocC w2 (.cells #[.int .u64 p.1.1, .string p.1.2] 35)))
                        obtain ⟨_, u1, _, _, _⟩ := step_cells HD3.out.so
                        rw [hjob] at u1
                        clear hI2 hO hO2 hent hp hnotin HD hrl
                        by_cases hj : p.1.1 = job
                        · have hjb : (p.1.1 != job) = false := by simp [hj]
                          have HJ := Lib.hid hj
                          clear hj
                          go_wp2_with fail
                          go_roundg (gk - 1)
                          case rel => exact ⟨done ++ [p.1], L', by simp; omega, HD3.out, HDg.out.skip HJ.out, HDn2.out⟩
                          case measure => omega
                        · have hjb : (p.1.1 != job) = true := by simp [hj]
                          have HJ := Lib.hid hj
                          clear hj
                          obtain ⟨w7, hr7, hM7, hO7⟩ := HD3.out.lmap.update (P := Try.prog) nameTy Try.underlying33 p.1 p.2
                          unfold encN evC at hr7
                          have HD7 := Lib.hid (HD3.out.put hM7 hO7 (HD3.out.ph.oc p HP2.out))
                          have HDg7 := Lib.hid (HDg.out.put HON.out HP2.out HJ.out)
                          clear hM7 hO7
                          go_wp2_with fail
                          go_roundg (gk - 1)
                          case rel => exact ⟨done ++ [p.1], _, by simp; omega, HD7.out, HDg7.out, HDn2.out⟩
                          case measure => omega
                ·
                  have HF := Lib.hid (show Pw w r m hm om A H O (k + 1) ws ∧ ws.heap[s]? = some (stepO x) from ⟨HPS.out.more, HSS.out⟩)
                  clear s0 s1 s2 s3 s4
                  go_wp2_with fail
                  refine Met.intro (hJ2 _ _ ?_)
                  exact ⟨_, _, _, _, HF.out.1, HF.out.2, ⟨rfl, rfl, rfl, rfl, rfl, rfl, rfl⟩, rfl⟩
        case rest =>
          rintro ⟨ts2, ds2⟩ wc ⟨om2, A2, H2, O2, hP, hS, ⟨hd2, hts2, f0, f3, f4, f5, f6⟩, f7⟩
          simp only at hd2 hts2 f0 f3 f4 f5 f6 f7
          subst hd2
          rw [frame_lit hts2, f0, f3, f4, f5, f6, f7]
          clear f0 f3 f4 f5 f6 f7 HPS HS hsz
          have HP2 := Lib.hid hP
          have HS2 := Lib.hid hS
          clear hP hS
          generalize hjob : x.2.1.1 = job at *
          have HJB := Lib.hid hjob
          obtain ⟨_, t1, _, _, _⟩ := step_cells HS2.out
          rw [hjob] at t1
          clear hjob
          cases hg : U.getL A2 job with
          | none =>
            have e1 := Lib.hid (show (U.getL A2 job).isSome = false by rw [hg]; rfl)
            have e4 := Lib.hid (show heldV A2 job = [] by unfold heldV; rw [hg]; rfl)
            have hh := HP2.out.rl.hnone hg
            clear hg
            go_wp2_with fail
            refine (wr_held HP2.out.wr job).mono ?_
            rintro e w4 ⟨vh, rfl, hv, hB⟩
            rw [e1.out]
            rw [e4.out] at hv
            obtain ⟨ah, ch, rfl⟩ := hv.slice
            simp only [List.length_nil]
            have HP5 := Lib.hid (HP2.out.below hB)
            have HS5 := Lib.hid (cells_keepB hB HS2.out)
            have hhl := HP5.out.ph.hlook job
            rw [hh] at hhl
            simp only [Option.isSome_none, Option.map_none, Option.getD_none] at hhl
            replace t1 := cell_keep hB t1
            clear hv hB hh HP2 HS2
            go_wp2_with fail
            clear hhl
            refine (wr_out HP5.out.wr job (by have := HP5.out.bn.held job; omega)).mono ?_
            rintro e w6 ⟨vo, lo, rfl, ho, hc, hO, hB⟩
            have HRD := Lib.hid (own_readsK (enc := encL) encL_len (by decide) ho)
            obtain ⟨ao, co, rfl⟩ := HRD.out.slice
            have HCC : Hid (∀ p ∈ lo, COwn w6 0 (evC p.2) p.2.l) := fun p hp => COwn.low0 (hc p hp)
            have HPM := Lib.hid hO.perm
            have HST := Lib.hid (show lo.Pairwise fun a b => cmpS a.1.2 b.1.2 < 0 from List.pairwise_map.1 hO.sorted)
            have HLN := Lib.hid (show lo.length = (heldA A2 job).2.length by have := hO.perm.length_eq; rwa [List.length_map] at this)
            have HP6 := Lib.hid (HP5.out.below hB)
            have HS6 := Lib.hid (cells_keepB hB HS5.out)
            have hlo : lo.length ≤ 201 := by have := HP5.out.bn.held job; rw [HLN.out]; omega
            clear ho hc hO hB HP5 HS5 t1
            obtain ⟨_, t1, _, _, _⟩ := step_cells HS6.out
            rw [HJB.out] at t1
            obtain ⟨w7, hr7, hI7, hB7, hz7⟩ := range_run (P := Try.prog) HP6.out.ph.omap Try.underlying33
            have HC : Hid (Cw w r m hm om2 w6.heap.size A2 H2 O2 [] x s w7) := ⟨HP6.out.wr.below hB7, HP6.out.ph.below hB7, hI7, cells_keepB hB7 HS6.out, HP6.out.ph.low.size⟩
            have HR7 := Lib.hid (HRD.out.below hB7)
            have HCC7 : Hid (∀ p ∈ lo, COwn w7 0 (evC p.2) p.2.l) := fun p hp => cowns (HCC.out p hp) hB7
            have HON := Lib.hid HP6.out.ph.onodup
            have HBN := Lib.hid HP6.out.bn
            have HRL := Lib.hid HP6.out.rl
            clear hI7 hB7 hz7 HRD HCC
            go_wp2_with fail
            clear hr7 t1
            generalize w6.heap.size = it at *
            go_loopg [34] O2.length (fun gj sc wx => ∃ done : List Nm, gj + done.length = O2.length ∧ sc = .int .i64 (cntJ done job : Nat) ∧ Cw w r m hm om2 it A2 H2 O2 done x s wx ∧ Dn O2 done ∧ ReadsK encL 3 wx (.slice ao lo.length co) lo ∧ ∀ p ∈ lo, COwn wx 0 (evC p.2) p.2.l)
            case atStart => exact ⟨[], by simp, rfl, HC.out, ⟨List.nodup_nil, by intro n hn; cases hn⟩, HR7.out, HCC7.out⟩
            case round =>
              clear HC HR7 HCC7
              obtain ⟨done, hgl, rfl, hC, hDn, hR, hCC⟩ := hrel
              have HC := Lib.hid hC
              have HDn := Lib.hid hDn
              have HR := Lib.hid hR
              have HCC := Lib.hid hCC
              have hcl := cntJ_le done job
              have hdl := hDn.len
              clear hC hDn hR hCC
              rcases HC.out.itr.next (P := Try.prog) 0 with ⟨hall, hrun⟩ | ⟨p, hp, hnotin, w8, hrun, hI2, hO2, hent⟩
              · have hcn : cntJ done job = lo.length := by
                  rw [cntJ_all HDn.out HON.out hall job, HRL.out.count HC.out.wr.good HON.out job, HLN.out]
                rw [hcn]
                have HW8 := Lib.hid HC.out.wr
                have PH8 := Lib.hid HC.out.ph
                have HS8 := Lib.hid HC.out.so
                clear hall hcn HC HDn hcl hdl
                go_wp2_with fail
                clear hrun
                generalize hw8 : wr = w8 at *
                clear hw8 hgl
                go_loopg [36] lo.length (fun gj sk wx => ∃ j : Nat, gj + j = lo.length ∧ sk = .int .i64 j ∧ Below w8.heap.size w8 wx)
                case atStart => exact ⟨0, by omega, rfl, Below.refl _ _⟩
                case round =>
                  obtain ⟨j, hj, rfl, hB⟩ := hrel
                  have HB := Lib.hid hB
                  clear hB
                  by_cases hjl : j < lo.length
                  · obtain ⟨b5, off5, cc5, he, hb, hcc5⟩ := (HR.out.below HB.out).at (by omega)
                    injection he with he1 he2 he3
                    subst he1
                    have hcc := hcc5 j hjl
                    have HME := Lib.hid (List.getElem_mem hjl)
                    have HPV : Hid (0 < j → cmpS (lo[j - 1]'(by omega)).1.2 (lo[j]).1.2 < 0) := fun h0 => List.pairwise_iff_getElem.1 HST.out (j - 1) j (by omega) hjl (by omega)
                    have HPC : Hid (0 < j → wr.cell? ⟨b5, off5 + (j - 1) * 3 + 1, none⟩ = some (.string (lo[j - 1]'(by omega)).1.2)) := fun h0 => hcc5 (j - 1) (by omega) 1 _ rfl
                    obtain ⟨q, hq⟩ : ∃ q, lo[j] = q := ⟨_, rfl⟩
                    rw [hq] at hcc HME HPV
                    obtain ⟨q0, hq0⟩ : ∃ q0 : Lt, 0 < j → (lo[j - 1]'(by omega)) = q0 := ⟨lo[j - 1]'(by omega), fun _ => rfl⟩
                    have HPV2 : Hid (0 < j → cmpS q0.1.2 q.1.2 < 0 ∧ wr.cell? ⟨b5, off5 + (j - 1) * 3 + 1, none⟩ = some (.string q0.1.2) ∧ q0.1.2.size ≤ 9223372036854775807) := fun h0 => by
                      have h1 := HPV.out h0
                      have h2 := HPC.out h0
                      have h3 := lent_path HW8.out.good HPM.out (List.getElem_mem (show j - 1 < lo.length by omega))
                      rw [hq0 h0] at h1 h2 h3
                      exact ⟨h1, h2, h3⟩
                    clear hcc5 he2 he3 hb HPV HPC hq hq0
                    have d0 : wr.cell? ⟨b5, off5 + j * 3, none⟩ = some (.int .u64 q.1.1) := hcc 0 _ rfl
                    have d1 : wr.cell? ⟨b5, off5 + j * 3 + 1, none⟩ = some (.string q.1.2) := hcc 1 _ rfl
                    have d2 : wr.cell? ⟨b5, off5 + j * 3 + 2, none⟩ = some (.slice q.2.a q.2.l.length q.2.c) := hcc 2 _ rfl
                    obtain ⟨hqj0, oc, hoc0, hocl0⟩ := HRL.out.lent HW8.out.good (HPM.out.mem_iff.1 (List.mem_map.2 ⟨q, HME.out, rfl⟩))
                    have hqj : q.1.1 = job := hqj0
                    have hoc : getL O2 q.1 = some oc := hoc0
                    have hocl : oc.l = q.2.l := hocl0
                    clear hqj0 hoc0 hocl0
                    have PHj := Lib.hid (PH8.out.below HB.out)
                    have hol := PHj.out.olook q.1
                    rw [hoc] at hol
                    simp only [Option.isSome_some, Option.map_some, Option.getD_some, evC] at hol
                    have HOC := Lib.hid (PHj.out.oget hoc)
                    have HQC := Lib.hid (show COwn wr 0 (.slice q.2.a q.2.l.length q.2.c) q.2.l from cowns (HCC.out q HME.out) HB.out)
                    have hqs := lent_path HW8.out.good HPM.out HME.out
                    have hql : q.2.l.length ≤ 1000000 := Nat.le_trans (mayC_sc ((lent_may HW8.out.good HPM.out HME.out).1)).len (by decide)
                    obtain ⟨oa, occ, ol⟩ := oc
                    simp only at hocl
                    subst hocl
                    have hsj := cells_keepB HB.out HS8.out
                    obtain ⟨_, t1, _, _, _⟩ := step_cells hsj
                    rw [HJB.out, ← hqj] at t1
                    clear hcc hoc hsj hqj
                    by_cases hj0 : j = 0
                    · have hjz : ¬ (0 : Int) < (j : Int) := by omega
                      have hjn : ¬ 0 < j := by omega
                      have hjd : decide ((0 : Int) < (j : Int)) = false := decide_eq_false hjz
                      clear hj0
                      go_wp2_with fail
                      go_quiet ((first | (go_at_call 16; exact cmp_quiet HOC.out HQC.out hql)))
                      have HBF := Lib.hid (below_drewN HB.out nq)
                      go_wp2_with fail
                      go_roundg (gk - 1)
                      case rel => exact ⟨j + 1, by omega, by go_num, HBF.out⟩
                      case measure => omega
                    · have hjp : 0 < j := by omega
                      obtain ⟨hlt3, d3, hqs0⟩ := HPV2.out hjp
                      have HLT := Lib.hid (cmpS_less hlt3)
                      have hk0 : (0 : Int) < (j : Int) := by omega
                      have e3 : ((j : Int) - 1) = ((j - 1 : Nat) : Int) := by omega
                      clear hlt3
                      go_wp2_with fail
                      go_quiet ((first | (go_at_call 16; exact cmp_quiet HOC.out HQC.out hql) | (go_at_call 21; exact rcmp_quiet HLT.out hqs0 hqs)))
                      have HBF := Lib.hid (below_drewN HB.out nq)
                      go_wp2_with fail
                      go_roundg (gk - 1)
                      case rel => exact ⟨j + 1, by omega, by go_num, HBF.out⟩
                      case measure => omega
                  · go_wp2_with fail
                    refine Handed.intro (go0 - 1) (by omega) (hJ _ _ _ ?_)
                    exact ⟨k + 1, om2, A2, H2, O2, by omega, ⟨HW8.out.below HB.out, PH8.out.below HB.out, HRL.out, HBN.out⟩, rfl, rfl, rfl, rfl, rfl, rfl, by rw [sl_lit]; go_num⟩
              · have hO : OnlyB it wr w8 := hO2
                have he2 := hent w8 rfl rfl
                have HR2 := Lib.hid (onlyB_reads HC.out.itr hO HR.out)
                have HCC2 : Hid (∀ p ∈ lo, COwn w8 0 (evC p.2) p.2.l) := fun p hp => onlyB_own HC.out.itr hO (HCC.out p hp)
                have HC2 := Lib.hid (HC.out.next hI2 hO)
                have hrl := HC.out.itr.lt
                have HDn2 := Lib.hid (HDn.out.next hp hnotin)
                have hl2' := HDn2.out.len
                simp only [List.length_append, List.length_cons, List.length_nil] at hl2'
                unfold encN evC at hrun he2
                have HBq := Lib.hid (below_allocC w8 (.cells #[.int .u64 p.1.1, .string p.1.2] 35))
                have HC3 := Lib.hid (HC2.out.below HBq.out)
                have HR3 := Lib.hid (HR2.out.below HBq.out)
                have HCC3 : Hid (∀ q ∈ lo, COwn (w8.alloc (.cells #[.int .u64 p.1.1, .string p.1.2] 35)) 0 (evC q.2) q.2.l) := fun _ hp => cowns (HCC2.out _ hp) (below_allocC w8 _)
                obtain ⟨_, u1, _, _, _⟩ := step_cells HC3.out.so
                rw [HJB.out] at u1
                have hca := cntJ_add done p.1 job
                have hcb : cntJ (done ++ [p.1]) job ≤ 201 := by have := cntJ_bound HDn2.out job; rw [HRL.out.count HC3.out.wr.good HON.out job, ← HLN.out] at this; omega
                clear hI2 hO hO2 hent hp hnotin HC HR HCC HR2 HCC2 HC2 hrl HBq
                by_cases hjj : p.1.1 = job
                · have hjb : (p.1.1 == job) = true := by simp [hjj]
                  rw [if_pos hjj] at hca
                  rw [hca] at hcb
                  have HCA := Lib.hid hca
                  clear hjj hca
                  go_wp2_with fail
                  go_roundg (gk - 1)
                  case rel => exact ⟨done ++ [p.1], by simp; omega, by rw [HCA.out]; go_num, HC3.out, HDn2.out, HR3.out, fun q hq => cowns (HCC3.out q hq) (Below.refl _ _)⟩
                  case measure => omega
                · have hjb : (p.1.1 == job) = false := by simp [hjj]
                  rw [if_neg hjj] at hca
                  rw [hca] at hcb
                  have HCA := Lib.hid hca
                  clear hjj hca
                  go_wp2_with fail
                  go_roundg (gk - 1)
                  case rel => exact ⟨done ++ [p.1], by simp; omega, by rw [HCA.out]; rfl, HC3.out, HDn2.out, HR3.out, fun q hq => cowns (HCC3.out q hq) (Below.refl _ _)⟩
                  case measure => omega
          | some y =>
            have e1 := Lib.hid (show (U.getL A2 job).isSome = true by rw [hg]; rfl)
            have e4 := Lib.hid (show heldV A2 job = y.1 by unfold heldV; rw [hg]; rfl)
            have HGO := Lib.hid (getA_good HP2.out.wr.good hg)
            obtain ⟨⟨ca, cc, cl⟩, hcr, hcl⟩ := HP2.out.rl.hsome hg
            simp only at hcl
            subst hcl
            clear hg
            go_wp2_with fail
            refine (wr_held HP2.out.wr job).mono ?_
            rintro e w4 ⟨vh, rfl, hv, hB⟩
            rw [e1.out]
            rw [e4.out] at hv
            have HVH := Lib.hid (COwn.low0 hv)
            obtain ⟨ah, ch, rfl⟩ := HVH.out.slice
            have HP4 := Lib.hid (HP2.out.below hB)
            have HS4 := Lib.hid (cells_keepB hB HS2.out)
            have hhl := HP4.out.ph.hlook job
            rw [hcr] at hhl
            simp only [Option.isSome_some, Option.map_some, Option.getD_some, evC] at hhl
            have HCR := Lib.hid (HP4.out.ph.hget hcr)
            replace t1 := cell_keep hB t1
            clear hv hB hcr HP2 HS2
            go_wp2_with fail
            refine (compare_same (l := y.1) (fun _ => HVH.out) HCR.out (Nat.le_trans HGO.out.len (by decide))).mono ?_
            rintro e w5 ⟨rfl, hB⟩
            have HP5 := Lib.hid (HP4.out.below hB)
            have HS5 := Lib.hid (cells_keepB hB HS4.out)
            replace t1 := cell_keep hB t1
            clear hB hhl HVH HCR HP4 HS4
            go_wp2_with fail
            refine (wr_out HP5.out.wr job (by have := HP5.out.bn.held job; omega)).mono ?_
            rintro e w6 ⟨vo, lo, rfl, ho, hc, hO, hB⟩
            have HRD := Lib.hid (own_readsK (enc := encL) encL_len (by decide) ho)
            obtain ⟨ao, co, rfl⟩ := HRD.out.slice
            have HCC : Hid (∀ p ∈ lo, COwn w6 0 (evC p.2) p.2.l) := fun p hp => COwn.low0 (hc p hp)
            have HPM := Lib.hid hO.perm
            have HST := Lib.hid (show lo.Pairwise fun a b => cmpS a.1.2 b.1.2 < 0 from List.pairwise_map.1 hO.sorted)
            have HLN := Lib.hid (show lo.length = (heldA A2 job).2.length by have := hO.perm.length_eq; rwa [List.length_map] at this)
            have HP6 := Lib.hid (HP5.out.below hB)
            have HS6 := Lib.hid (cells_keepB hB HS5.out)
            have hlo : lo.length ≤ 201 := by have := HP5.out.bn.held job; rw [HLN.out]; omega
            clear ho hc hO hB HP5 HS5 t1
            obtain ⟨_, t1, _, _, _⟩ := step_cells HS6.out
            rw [HJB.out] at t1
            obtain ⟨w7, hr7, hI7, hB7, hz7⟩ := range_run (P := Try.prog) HP6.out.ph.omap Try.underlying33
            have HC : Hid (Cw w r m hm om2 w6.heap.size A2 H2 O2 [] x s w7) := ⟨HP6.out.wr.below hB7, HP6.out.ph.below hB7, hI7, cells_keepB hB7 HS6.out, HP6.out.ph.low.size⟩
            have HR7 := Lib.hid (HRD.out.below hB7)
            have HCC7 : Hid (∀ p ∈ lo, COwn w7 0 (evC p.2) p.2.l) := fun p hp => cowns (HCC.out p hp) hB7
            have HON := Lib.hid HP6.out.ph.onodup
            have HBN := Lib.hid HP6.out.bn
            have HRL := Lib.hid HP6.out.rl
            clear hI7 hB7 hz7 HRD HCC
            go_wp2_with fail
            clear hr7 t1
            generalize w6.heap.size = it at *
            go_loopg [34] O2.length (fun gj sc wx => ∃ done : List Nm, gj + done.length = O2.length ∧ sc = .int .i64 (cntJ done job : Nat) ∧ Cw w r m hm om2 it A2 H2 O2 done x s wx ∧ Dn O2 done ∧ ReadsK encL 3 wx (.slice ao lo.length co) lo ∧ ∀ p ∈ lo, COwn wx 0 (evC p.2) p.2.l)
            case atStart => exact ⟨[], by simp, rfl, HC.out, ⟨List.nodup_nil, by intro n hn; cases hn⟩, HR7.out, HCC7.out⟩
            case round =>
              clear HC HR7 HCC7
              obtain ⟨done, hgl, rfl, hC, hDn, hR, hCC⟩ := hrel
              have HC := Lib.hid hC
              have HDn := Lib.hid hDn
              have HR := Lib.hid hR
              have HCC := Lib.hid hCC
              have hcl := cntJ_le done job
              have hdl := hDn.len
              clear hC hDn hR hCC
              rcases HC.out.itr.next (P := Try.prog) 0 with ⟨hall, hrun⟩ | ⟨p, hp, hnotin, w8, hrun, hI2, hO2, hent⟩
              · have hcn : cntJ done job = lo.length := by
                  rw [cntJ_all HDn.out HON.out hall job, HRL.out.count HC.out.wr.good HON.out job, HLN.out]
                rw [hcn]
                have HW8 := Lib.hid HC.out.wr
                have PH8 := Lib.hid HC.out.ph
                have HS8 := Lib.hid HC.out.so
                clear hall hcn HC HDn hcl hdl
                go_wp2_with fail
                clear hrun
                generalize hw8 : wr = w8 at *
                clear hw8 hgl
                go_loopg [36] lo.length (fun gj sk wx => ∃ j : Nat, gj + j = lo.length ∧ sk = .int .i64 j ∧ Below w8.heap.size w8 wx)
                case atStart => exact ⟨0, by omega, rfl, Below.refl _ _⟩
                case round =>
                  obtain ⟨j, hj, rfl, hB⟩ := hrel
                  have HB := Lib.hid hB
                  clear hB
                  by_cases hjl : j < lo.length
                  · obtain ⟨b5, off5, cc5, he, hb, hcc5⟩ := (HR.out.below HB.out).at (by omega)
                    injection he with he1 he2 he3
                    subst he1
                    have hcc := hcc5 j hjl
                    have HME := Lib.hid (List.getElem_mem hjl)
                    have HPV : Hid (0 < j → cmpS (lo[j - 1]'(by omega)).1.2 (lo[j]).1.2 < 0) := fun h0 => List.pairwise_iff_getElem.1 HST.out (j - 1) j (by omega) hjl (by omega)
                    have HPC : Hid (0 < j → wr.cell? ⟨b5, off5 + (j - 1) * 3 + 1, none⟩ = some (.string (lo[j - 1]'(by omega)).1.2)) := fun h0 => hcc5 (j - 1) (by omega) 1 _ rfl
                    obtain ⟨q, hq⟩ : ∃ q, lo[j] = q := ⟨_, rfl⟩
                    rw [hq] at hcc HME HPV
                    obtain ⟨q0, hq0⟩ : ∃ q0 : Lt, 0 < j → (lo[j - 1]'(by omega)) = q0 := ⟨lo[j - 1]'(by omega), fun _ => rfl⟩
                    have HPV2 : Hid (0 < j → cmpS q0.1.2 q.1.2 < 0 ∧ wr.cell? ⟨b5, off5 + (j - 1) * 3 + 1, none⟩ = some (.string q0.1.2) ∧ q0.1.2.size ≤ 9223372036854775807) := fun h0 => by
                      have h1 := HPV.out h0
                      have h2 := HPC.out h0
                      have h3 := lent_path HW8.out.good HPM.out (List.getElem_mem (show j - 1 < lo.length by omega))
                      rw [hq0 h0] at h1 h2 h3
                      exact ⟨h1, h2, h3⟩
                    clear hcc5 he2 he3 hb HPV HPC hq hq0
                    have d0 : wr.cell? ⟨b5, off5 + j * 3, none⟩ = some (.int .u64 q.1.1) := hcc 0 _ rfl
                    have d1 : wr.cell? ⟨b5, off5 + j * 3 + 1, none⟩ = some (.string q.1.2) := hcc 1 _ rfl
                    have d2 : wr.cell? ⟨b5, off5 + j * 3 + 2, none⟩ = some (.slice q.2.a q.2.l.length q.2.c) := hcc 2 _ rfl
                    obtain ⟨hqj0, oc, hoc0, hocl0⟩ := HRL.out.lent HW8.out.good (HPM.out.mem_iff.1 (List.mem_map.2 ⟨q, HME.out, rfl⟩))
                    have hqj : q.1.1 = job := hqj0
                    have hoc : getL O2 q.1 = some oc := hoc0
                    have hocl : oc.l = q.2.l := hocl0
                    clear hqj0 hoc0 hocl0
                    have PHj := Lib.hid (PH8.out.below HB.out)
                    have hol := PHj.out.olook q.1
                    rw [hoc] at hol
                    simp only [Option.isSome_some, Option.map_some, Option.getD_some, evC] at hol
                    have HOC := Lib.hid (PHj.out.oget hoc)
                    have HQC := Lib.hid (show COwn wr 0 (.slice q.2.a q.2.l.length q.2.c) q.2.l from cowns (HCC.out q HME.out) HB.out)
                    have hqs := lent_path HW8.out.good HPM.out HME.out
                    have hql : q.2.l.length ≤ 1000000 := Nat.le_trans (mayC_sc ((lent_may HW8.out.good HPM.out HME.out).1)).len (by decide)
                    obtain ⟨oa, occ, ol⟩ := oc
                    simp only at hocl
                    subst hocl
                    have hsj := cells_keepB HB.out HS8.out
                    obtain ⟨_, t1, _, _, _⟩ := step_cells hsj
                    rw [HJB.out, ← hqj] at t1
                    clear hcc hoc hsj hqj
                    by_cases hj0 : j = 0
                    · have hjz : ¬ (0 : Int) < (j : Int) := by omega
                      have hjn : ¬ 0 < j := by omega
                      have hjd : decide ((0 : Int) < (j : Int)) = false := decide_eq_false hjz
                      clear hj0
                      go_wp2_with fail
                      go_quiet ((first | (go_at_call 16; exact cmp_quiet HOC.out HQC.out hql)))
                      have HBF := Lib.hid (below_drewN HB.out nq)
                      go_wp2_with fail
                      go_roundg (gk - 1)
                      case rel => exact ⟨j + 1, by omega, by go_num, HBF.out⟩
                      case measure => omega
                    · have hjp : 0 < j := by omega
                      obtain ⟨hlt3, d3, hqs0⟩ := HPV2.out hjp
                      have HLT := Lib.hid (cmpS_less hlt3)
                      have hk0 : (0 : Int) < (j : Int) := by omega
                      have e3 : ((j : Int) - 1) = ((j - 1 : Nat) : Int) := by omega
                      clear hlt3
                      go_wp2_with fail
                      go_quiet ((first | (go_at_call 16; exact cmp_quiet HOC.out HQC.out hql) | (go_at_call 21; exact rcmp_quiet HLT.out hqs0 hqs)))
                      have HBF := Lib.hid (below_drewN HB.out nq)
                      go_wp2_with fail
                      go_roundg (gk - 1)
                      case rel => exact ⟨j + 1, by omega, by go_num, HBF.out⟩
                      case measure => omega
                  · go_wp2_with fail
                    refine Handed.intro (go0 - 1) (by omega) (hJ _ _ _ ?_)
                    exact ⟨k + 1, om2, A2, H2, O2, by omega, ⟨HW8.out.below HB.out, PH8.out.below HB.out, HRL.out, HBN.out⟩, rfl, rfl, rfl, rfl, rfl, rfl, by rw [sl_lit]; go_num⟩
              · have hO : OnlyB it wr w8 := hO2
                have he2 := hent w8 rfl rfl
                have HR2 := Lib.hid (onlyB_reads HC.out.itr hO HR.out)
                have HCC2 : Hid (∀ p ∈ lo, COwn w8 0 (evC p.2) p.2.l) := fun p hp => onlyB_own HC.out.itr hO (HCC.out p hp)
                have HC2 := Lib.hid (HC.out.next hI2 hO)
                have hrl := HC.out.itr.lt
                have HDn2 := Lib.hid (HDn.out.next hp hnotin)
                have hl2' := HDn2.out.len
                simp only [List.length_append, List.length_cons, List.length_nil] at hl2'
                unfold encN evC at hrun he2
                have HBq := Lib.hid (below_allocC w8 (.cells #[.int .u64 p.1.1, .string p.1.2] 35))
                have HC3 := Lib.hid (HC2.out.below HBq.out)
                have HR3 := Lib.hid (HR2.out.below HBq.out)
                have HCC3 : Hid (∀ q ∈ lo, COwn (w8.alloc (.cells #[.int .u64 p.1.1, .string p.1.2] 35)) 0 (evC q.2) q.2.l) := fun _ hp => cowns (HCC2.out _ hp) (below_allocC w8 _)
                obtain ⟨_, u1, _, _, _⟩ := step_cells HC3.out.so
                rw [HJB.out] at u1
                have hca := cntJ_add done p.1 job
                have hcb : cntJ (done ++ [p.1]) job ≤ 201 := by have := cntJ_bound HDn2.out job; rw [HRL.out.count HC3.out.wr.good HON.out job, ← HLN.out] at this; omega
                clear hI2 hO hO2 hent hp hnotin HC HR HCC HR2 HCC2 HC2 hrl HBq
                by_cases hjj : p.1.1 = job
                · have hjb : (p.1.1 == job) = true := by simp [hjj]
                  rw [if_pos hjj] at hca
                  rw [hca] at hcb
                  have HCA := Lib.hid hca
                  clear hjj hca
                  go_wp2_with fail
                  go_roundg (gk - 1)
                  case rel => exact ⟨done ++ [p.1], by simp; omega, by rw [HCA.out]; go_num, HC3.out, HDn2.out, HR3.out, fun q hq => cowns (HCC3.out q hq) (Below.refl _ _)⟩
                  case measure => omega
                · have hjb : (p.1.1 == job) = false := by simp [hjj]
                  rw [if_neg hjj] at hca
                  rw [hca] at hcb
                  have HCA := Lib.hid hca
                  clear hjj hca
                  go_wp2_with fail
                  go_roundg (gk - 1)
                  case rel => exact ⟨done ++ [p.1], by simp; omega, by rw [HCA.out]; rfl, HC3.out, HDn2.out, HR3.out, fun q hq => cowns (HCC3.out q hq) (Below.refl _ _)⟩
                  case measure => omega
      · go_wp2_with fail
        refine (works_any _).mono ?_
        rintro e w9 ⟨rfl, hB⟩
        have HF := Lib.hid (HB0.out.trans ((HP.out.ph.below hB).low.mono HB0.out.size))
        clear hB
        go_wp2_with fail
        go_ret
        exact ⟨ret_boolE rfl, HF.out⟩
  · clear hb
    have HB0 := Lib.hid hB0
    clear hB0
    go_wp2_with fail
    refine (works_any _).mono ?_
    rintro e w1 ⟨rfl, hB⟩
    have HF := Lib.hid (gthen HB0.out hB)
    clear hB
    go_wp2_with fail
    go_ret
    exact ⟨ret_boolE rfl, HF.out⟩
end Go.Proofs.Ytenebamecmblaaa
