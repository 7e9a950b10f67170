/- The document's example. -/
import Derived.Test.YtpdnebimkfejoaaLin15
namespace Go.Proofs.Ytpdnebimkfejoaa
open Go.RowKit Go.Sort Go.Lib

theorem sortV_id {V : Type} {l : List (Nm × V)} (hn : (l.map (·.1)).Nodup) (hs : l.Pairwise (fun a b => leN a b = true)) : sortV l = l := sortV_unique hn (List.Perm.refl _) hs
set_option maxHeartbeats 400000 in
theorem at_any (p : ByteArray) (w : World) : Calls Try.prog 34 #[.string p] w fun e w' => e = .returned (.agg #[.int .u64 1, .string p]) ∧ Below w.heap.size w w' := by
  have HA : Hid (Below w.heap.size w (w.alloc (.cells #[.int .u64 1, .string p] 29))) := (Below.refl _ _).alloc (Nat.le_refl _) _
  go_enter Try.func34, Try.ntmps34
  go_wp2_with fail
  exact bodyPost_ret (v := .agg #[.int .u64 1, .string p]) (by simp [results, Try.results34, go_sem]) rfl ⟨rfl, HA.out⟩
abbrev nR : Nm := (1, ⟨#[]⟩)
abbrev nK : Nm := (1, ⟨#[1]⟩)
abbrev nL : Nm := (1, ⟨#[1, 2]⟩)
abbrev nM : Nm := (1, ⟨#[1, 2, 1]⟩)
abbrev cw (st wk ep : Int) : Rw := ⟨0, none, 0, [], 0, st, wk, ep⟩
def A1 : Al := [(nR, cw 1 0 0)]
def A2 : Al := [(nR, cw 2 3 5)]
def A3 : Al := [(nR, cw 2 3 5), (nK, cw 1 0 0)]
def A4 : Al := [(nR, cw 2 3 5), (nK, cw 2 4 6)]
def A5 : Al := [(nR, cw 2 3 5), (nK, cw 2 4 6), (nL, cw 1 0 0)]
def A6 : Al := [(nR, cw 1 0 0), (nK, cw 2 4 6), (nL, cw 1 0 0)]
theorem ex1 : addEA [] nR = 0 := by decide +kernel
theorem ex2 : holdEA A1 nR 3 5 = 0 := by decide +kernel
theorem ex3 : addEA A2 nK = 0 := by decide +kernel
theorem ex4 : holdEA A3 nK 4 6 = 0 := by decide +kernel
theorem ex5 : addEA A4 nL = 0 := by decide +kernel
theorem to1 : addA [] nR (cw 1 0 0) = A1 := by unfold addA; rw [ex1]; rfl
theorem to2 : holdA A1 nR 3 5 = A2 := by unfold holdA; rw [ex2]; rfl
theorem to3 : addA A2 nK (cw 1 0 0) = A3 := by unfold addA; rw [ex3]; rfl
theorem nKR : (nK = nR) = False := by simp
theorem nRK : (nR = nK) = False := by simp
theorem getK : getL A3 nK = some (cw 1 0 0) := by kernel_rfl
theorem to4 : holdA A3 nK 4 6 = A4 := by
  unfold holdA; rw [ex4, getK]; simp [updA, A3, A4]
theorem to5 : addA A4 nL (cw 1 0 0) = A5 := by unfold addA; rw [ex5]; rfl
theorem to6 : lostA A5 [3] = A6 := by simp [lostA, A5, A6, lostB, freeR]
theorem pk1 : sortV (pickA A5 (fun a _ => withinA A5 nR a)) = [(nK, cw 2 4 6)] := by
  rw [show pickA A5 (fun a _ => withinA A5 nR a) = [(nK, cw 2 4 6)] from by kernel_rfl]
  exact sortV_id (by simp) (by simp)
theorem pk2 : aboveA A5 nM = some (nL, cw 1 0 0) := by kernel_rfl
theorem pk3 : (sortV (pickA A5 (fun _ r => lostB [3] r))).map (·.1) = [nR] := by
  rw [show pickA A5 (fun _ r => lostB [3] r) = [(nR, cw 2 3 5)] from by kernel_rfl, sortV_id (by simp) (by simp)]; rfl
theorem pk4 : (sortV (pickA A6 (fun _ r => decide (r.st = 1)))).map (·.1) = [nR, nL] := by
  rw [show pickA A6 (fun _ r => decide (r.st = 1)) = [(nR, cw 1 0 0), (nL, cw 1 0 0)] from by kernel_rfl, sortV_id (by simp) (by
    rw [List.pairwise_cons]
    exact ⟨fun a ha => by rw [List.mem_singleton] at ha; subst ha; decide +kernel, by simp⟩)]; rfl
theorem nil_reads (w : World) : ReadsK encI 1 w (.slice none 0 0) [] := .inl ⟨rfl, none, 0, rfl⟩
theorem reads_i1 (w : World) (a : Int) (T : TypeId) : ReadsK encI 1 (w.alloc (.cells #[.int .i64 a] T)) (.slice (some ⟨w.heap.size, 0, none⟩) 1 1) [a] := by
  refine .inr ⟨w.heap.size, 0, 1, rfl, by simp, fun i hi t u hu => ?_⟩
  have : i = 0 := by simpa using hi
  subst this
  match t with
  | 0 => simp [encI] at hu; subst hu; simp
  | t + 1 => simp [encI] at hu
set_option maxHeartbeats 3200000 in
set_option maxRecDepth 100000 in
theorem works_any (w : World) : Calls Try.prog 8 #[] w fun e w' => e = .returned (.bool true) ∧ Below w.heap.size w w' := by
  go_enter Try.func8, Try.ntmps8
  go_wp2_with fail
  refine (lt_new w).mono ?_
  rintro e w1 ⟨f, m, rfl, hL, hB⟩
  have HL1 := Lib.hid hL
  clear hL hB
  go_wp2_with fail
  refine (lt_add HL1.out 1 ⟨#[]⟩ 0 0 _ [] (nil_reads _) (by decide) (by decide)).mono ?_
  rintro e w2 ⟨rfl, hL, _⟩
  rw [ex1]
  have HL2 := Lib.hid (show Lt w f m A1 w2 from to1 ▸ hL)
  clear hL HL1
  go_wp2_with fail
  refine (at_any _ _).mono ?_
  rintro e w3 ⟨rfl, hB⟩
  have HL3 := Lib.hid (HL2.out.below hB)
  clear hB HL2
  go_wp2_with fail
  refine (lt_hold HL3.out nR 3 5).mono ?_
  rintro e w4 ⟨rfl, hL, _⟩
  rw [ex2]
  have HL4 := Lib.hid (show Lt w f m A2 w4 from to2 ▸ hL)
  clear hL HL3
  go_wp2_with fail
  refine (lt_add HL4.out 1 ⟨#[1]⟩ 0 0 _ [] (nil_reads _) (by decide) (by decide)).mono ?_
  rintro e w5 ⟨rfl, hL, _⟩
  rw [ex3]
  have HL5 := Lib.hid (show Lt w f m A3 w5 from to3 ▸ hL)
  clear hL HL4
  go_wp2_with fail
  refine (at_any _ _).mono ?_
  rintro e w6 ⟨rfl, hB⟩
  have HL6 := Lib.hid (HL5.out.below hB)
  clear hB HL5
  go_wp2_with fail
  refine (lt_hold HL6.out nK 4 6).mono ?_
  rintro e w7 ⟨rfl, hL, _⟩
  rw [ex4]
  have HL7 := Lib.hid (show Lt w f m A4 w7 from to4 ▸ hL)
  clear hL HL6
  go_wp2_with fail
  refine (lt_add HL7.out 1 ⟨#[1, 2]⟩ 0 0 _ [] (nil_reads _) (by decide) (by decide)).mono ?_
  rintro e w8 ⟨rfl, hL, _⟩
  rw [ex5]
  have HL8 := Lib.hid (show Lt w f m A5 w8 from to5 ▸ hL)
  clear hL HL7
  go_wp2_with fail
  refine (at_any _ _).mono ?_
  rintro e w9 ⟨rfl, hB⟩
  have HL9 := Lib.hid (HL8.out.below hB)
  clear hB HL8
  go_wp2_with fail
  refine (lt_within HL9.out nR).mono ?_
  rintro e w10 ⟨v, S, rfl, ho, hc, _, hB⟩
  rw [pk1] at hc
  have HL10 := Lib.hid (HL9.out.below hB)
  obtain ⟨q, rfl⟩ : ∃ q, S = [q] := by
    have h1 : S.length = 1 := by have := congrArg List.length hc; simpa using this
    exact List.length_eq_one_iff.1 h1
  have hq : coreP q = (nK, cw 2 4 6) := by simpa using hc
  have HQ := Lib.hid (show q.1 = nK ∧ q.2.wk = 4 from ⟨congrArg Prod.fst hq, congrArg (fun p => p.2.wk) hq⟩)
  have HO := Lib.hid ho
  obtain ⟨va, vc, hv⟩ := (own_readsK (enc := encT) (k := 9) encT_len (by decide) ho).slice
  subst hv
  clear ho hc hB HL9 hq
  go_wp2_with fail
  refine (at_any _ _).mono ?_
  rintro e w11 ⟨rfl, hB⟩
  have HL11 := Lib.hid (HL10.out.below hB)
  have HO11 := Lib.hid (own_kept HO.out (by decide) (.below hB))
  clear hB HL10 HO
  go_wp2_with fail
  refine (lt_above HL11.out nM (by decide)).mono ?_
  rintro e w12 ⟨⟨h0, _⟩ | ⟨p, hp, rfl, _⟩, hB⟩
  · rw [pk2] at h0; cases h0
  rw [pk2] at hp
  injection hp with hp
  have HP := Lib.hid (show p.1 = nL from (congrArg Prod.fst hp).symm)
  have HL12 := Lib.hid (HL11.out.below hB)
  have HO12 := Lib.hid (own_kept HO11.out (by decide) (.below hB))
  clear hB HL11 HO11 hp
  unfold encT
  go_wp2_with fail
  have hb0 : Box w12.heap.size #[.int .u64 p.1.1, .string p.1.2, .string p.1.2, .int .i64 p.2.fn, .slice p.2.aa p.2.args.length p.2.ac, .int .i64 p.2.fuel, .int .u8 p.2.st, .int .i64 p.2.wk, .int .u64 p.2.ep] 42 (w12.alloc (.cells #[.int .u64 p.1.1, .string p.1.2, .string p.1.2, .int .i64 p.2.fn, .slice p.2.aa p.2.args.length p.2.ac, .int .i64 p.2.fuel, .int .u8 p.2.st, .int .i64 p.2.wk, .int .u64 p.2.ep] 42)) := heap_alloc_new _ _
  have hA : Below w12.heap.size w12 (w12.alloc (.cells #[.int .u64 p.1.1, .string p.1.2, .string p.1.2, .int .i64 p.2.fn, .slice p.2.aa p.2.args.length p.2.ac, .int .i64 p.2.fuel, .int .u8 p.2.st, .int .i64 p.2.wk, .int .u64 p.2.ep] 42)) := (Below.refl _ _).alloc (Nat.le_refl _) _
  have hsz : (w12.alloc (.cells #[.int .u64 p.1.1, .string p.1.2, .string p.1.2, .int .i64 p.2.fn, .slice p.2.aa p.2.args.length p.2.ac, .int .i64 p.2.fuel, .int .u8 p.2.st, .int .i64 p.2.wk, .int .u64 p.2.ep] 42)).heap.size = w12.heap.size + 1 := by simp
  generalize w12.alloc (.cells #[.int .u64 p.1.1, .string p.1.2, .string p.1.2, .int .i64 p.2.fn, .slice p.2.aa p.2.args.length p.2.ac, .int .i64 p.2.fuel, .int .u8 p.2.st, .int .i64 p.2.wk, .int .u64 p.2.ep] 42) = wa at *
  have hA2 : Below wa.heap.size wa (wa.alloc (.cells #[.int .i64 3] 3)) := (Below.refl _ _).alloc (Nat.le_refl _) _
  have HL13 := Lib.hid ((HL12.out.below hA).below hA2)
  have HO13 := Lib.hid (own_kept (own_kept HO12.out (by decide) (.below hA)) (by decide) (.below hA2))
  have HX13 := Lib.hid (Kept.below hA2 _ _ _ (by decide) hb0)
  have HR13 := Lib.hid (reads_i1 wa 3 3)
  rw [hsz] at HR13
  clear hb0 hA hA2 hsz HL12 HO12
  refine (lt_lost HL13.out _ [3] HR13.out (by decide)).mono ?_
  rintro e w14 ⟨⟨u, rfl, ho⟩, hL, hK⟩
  rw [pk3] at ho
  have HL14 := Lib.hid (show Lt w f m A6 w14 from to6 ▸ hL)
  have HO14 := Lib.hid (own_kept HO13.out (by decide) hK)
  have HX14 := Lib.hid (hK _ _ _ (by decide) HX13.out)
  have HU14 := Lib.hid ho
  obtain ⟨ua, uc, hu⟩ := (own_readsK (enc := encM) (k := 2) (fun _ => rfl) (by decide) (l := [nR]) ho).slice
  subst hu
  clear ho hL hK HL13 HO13 HX13 HR13
  go_wp2_with fail
  refine (lt_waits HL14.out).mono ?_
  rintro e w15 ⟨x, rfl, ho, hB⟩
  rw [pk4] at ho
  obtain ⟨xa, xc, hx⟩ := (own_readsK (enc := encM) (k := 2) (fun _ => rfl) (by decide) (l := [nR, nL]) ho).slice
  subst hx
  obtain ⟨gb, goff, gc, ge, _, gk⟩ := (own_readsK (enc := encM) (k := 2) (fun _ => rfl) (by decide) (l := [nR, nL]) ho).at (by decide)
  obtain ⟨ub, uoff, uc', ue, _, uk⟩ := (own_readsK (enc := encM) (k := 2) (fun _ => rfl) (by decide) (l := [nR]) (own_kept HU14.out (by decide) (.below hB))).at (by decide)
  obtain ⟨vb, voff, vc', ve, _, vk⟩ := (own_readsK (enc := encT) (k := 9) encT_len (by decide) (l := [q]) (own_kept HO14.out (by decide) (.below hB))).at (by simp)
  injection ge with ge _ _
  subst ge
  injection ue with ue _ _
  subst ue
  injection ve with ve _ _
  subst ve
  have hbx := Kept.below hB _ _ _ (by decide) HX14.out
  have i0 : w15.cell? ⟨gb, goff + 2, none⟩ = some (.int .u64 1) := gk 1 (by decide) 0 _ rfl
  have i1 : w15.cell? ⟨gb, goff + 3, none⟩ = some (.string ⟨#[1, 2]⟩) := gk 1 (by decide) 1 _ rfl
  have i2 : w15.cell? ⟨ub, uoff, none⟩ = some (.int .u64 1) := uk 0 (by decide) 0 _ rfl
  have i3 : w15.cell? ⟨ub, uoff + 1, none⟩ = some (.string ⟨#[]⟩) := uk 0 (by decide) 1 _ rfl
  have i4 : w15.cell? ⟨vb, voff, none⟩ = some (.int .u64 1) := by have h := vk 0 (by simp) 0 _ rfl; simp only [List.getElem_cons_zero] at h; rw [HQ.out.1] at h; exact h
  have i5 : w15.cell? ⟨vb, voff + 1, none⟩ = some (.string ⟨#[1]⟩) := by have h := vk 0 (by simp) 1 _ rfl; simp only [List.getElem_cons_zero] at h; rw [HQ.out.1] at h; exact h
  have i6 : w15.cell? ⟨vb, voff + 7, none⟩ = some (.int .i64 4) := by have h := vk 0 (by simp) 7 _ rfl; simp only [List.getElem_cons_zero] at h; rw [HQ.out.2] at h; exact h
  have i7 : w15.cell? ⟨w12.heap.size, 0, none⟩ = some (.int .u64 1) := by have h := hbx.cell 0; rw [HP.out] at h; exact h
  have i8 : w15.cell? ⟨w12.heap.size, 1, none⟩ = some (.string ⟨#[1, 2]⟩) := by have h := hbx.cell 1; rw [HP.out] at h; exact h
  have hlow := HL14.out.low.trans (hB.mono HL14.out.low.size)
  have HI := Lib.hid (show ∀ w', Below w15.heap.size w15 w' → (w'.cell? ⟨gb, goff + 2, none⟩ = some (.int .u64 1) ∧ w'.cell? ⟨gb, goff + 3, none⟩ = some (.string ⟨#[1, 2]⟩) ∧ w'.cell? ⟨ub, uoff, none⟩ = some (.int .u64 1) ∧ w'.cell? ⟨ub, uoff + 1, none⟩ = some (.string ⟨#[]⟩) ∧ w'.cell? ⟨vb, voff, none⟩ = some (.int .u64 1) ∧ w'.cell? ⟨vb, voff + 1, none⟩ = some (.string ⟨#[1]⟩) ∧ w'.cell? ⟨vb, voff + 7, none⟩ = some (.int .i64 4) ∧ w'.cell? ⟨w12.heap.size, 0, none⟩ = some (.int .u64 1) ∧ w'.cell? ⟨w12.heap.size, 1, none⟩ = some (.string ⟨#[1, 2]⟩)) from fun w' h => ⟨cell_keep h i0, cell_keep h i1, cell_keep h i2, cell_keep h i3, cell_keep h i4, cell_keep h i5, cell_keep h i6, cell_keep h i7, cell_keep h i8⟩)
  have HLOW := Lib.hid hlow
  clear hlow ho hB gk uk vk hbx HL14 HO14 HX14 HU14
  clear i0 i1 i2 i3 i4 i5 i6 i7 i8
  go_upto_region 13 with fail
  refine wp_region_held_drew (S := fun y => Below w15.heap.size w15 y) (by kernel_rfl) ((Below.refl _ _).drew) (fun hHeld => ?_)
  refine wpAnyH_take (i := 0) (oi := _) (v := ?_) (by rw [List.getElem?_toArray]; exact rfl) (by kernel_rfl) (by kernel_rfl) (by kernel_rfl) (by exact fun _ _ _ h => h) (Or.inl ⟨by rfl, ?_⟩) hHeld ?_
  rotate_left
  · (intro wX hSw; obtain ⟨i0, i1, i2, i3, i4, i5, i6, i7, i8⟩ := HI.out _ hSw; clear hSw; go_simp; try with_reducible rfl)
  try simp only [Act.put, List.setIfInBounds_toArray, List.set_cons_zero, List.set_cons_succ]
  refine wpAnyH_take (i := 1) (oi := _) (v := ?_) (by rw [List.getElem?_toArray]; exact rfl) (by kernel_rfl) (by kernel_rfl) (by kernel_rfl) (by exact fun _ _ _ h => h) (Or.inl ⟨by rfl, ?_⟩) hHeld ?_
  rotate_left
  · (intro wX hSw; obtain ⟨i0, i1, i2, i3, i4, i5, i6, i7, i8⟩ := HI.out _ hSw; clear hSw; go_simp; try with_reducible rfl)
  try simp only [Act.put, List.setIfInBounds_toArray, List.set_cons_zero, List.set_cons_succ]
  refine wpAnyH_take (i := 2) (oi := _) (v := ?_) (by rw [List.getElem?_toArray]; exact rfl) (by kernel_rfl) (by kernel_rfl) (by kernel_rfl) (by exact fun _ _ _ h => h) (Or.inl ⟨by rfl, ?_⟩) hHeld ?_
  rotate_left
  · (intro wX hSw; obtain ⟨i0, i1, i2, i3, i4, i5, i6, i7, i8⟩ := HI.out _ hSw; clear hSw; go_simp; try with_reducible rfl)
  try simp only [Act.put, List.setIfInBounds_toArray, List.set_cons_zero, List.set_cons_succ]
  refine wpAnyH_take (i := 3) (oi := _) (v := ?_) (by rw [List.getElem?_toArray]; exact rfl) (by kernel_rfl) (by kernel_rfl) (by kernel_rfl) (by exact fun _ _ _ h => h) (Or.inl ⟨by rfl, ?_⟩) hHeld ?_
  rotate_left
  · (intro wX hSw; obtain ⟨i0, i1, i2, i3, i4, i5, i6, i7, i8⟩ := HI.out _ hSw; clear hSw; go_simp; try with_reducible rfl)
  try simp only [Act.put, List.setIfInBounds_toArray, List.set_cons_zero, List.set_cons_succ]
  refine wpAnyH_take (i := 4) (oi := _) (v := ?_) (by rw [List.getElem?_toArray]; exact rfl) (by kernel_rfl) (by kernel_rfl) (by kernel_rfl) (by exact fun _ _ _ h => h) (Or.inl ⟨by rfl, ?_⟩) hHeld ?_
  rotate_left
  · (intro wX hSw; obtain ⟨i0, i1, i2, i3, i4, i5, i6, i7, i8⟩ := HI.out _ hSw; clear hSw; go_simp; try with_reducible rfl)
  try simp only [Act.put, List.setIfInBounds_toArray, List.set_cons_zero, List.set_cons_succ]
  refine wpAnyH_take (i := 5) (oi := _) (v := ?_) (by rw [List.getElem?_toArray]; exact rfl) (by kernel_rfl) (by kernel_rfl) (by kernel_rfl) (by exact fun _ _ _ h => h) (Or.inl ⟨by rfl, ?_⟩) hHeld ?_
  rotate_left
  · (intro wX hSw; obtain ⟨i0, i1, i2, i3, i4, i5, i6, i7, i8⟩ := HI.out _ hSw; clear hSw; go_simp; try with_reducible rfl)
  try simp only [Act.put, List.setIfInBounds_toArray, List.set_cons_zero, List.set_cons_succ]
  refine wpAnyH_take (i := 6) (oi := _) (v := ?_) (by rw [List.getElem?_toArray]; exact rfl) (by kernel_rfl) (by kernel_rfl) (by kernel_rfl) (by exact fun _ _ _ h => h) (Or.inl ⟨by rfl, ?_⟩) hHeld ?_
  rotate_left
  · (intro wX hSw; obtain ⟨i0, i1, i2, i3, i4, i5, i6, i7, i8⟩ := HI.out _ hSw; clear hSw; go_simp; try with_reducible rfl)
  try simp only [Act.put, List.setIfInBounds_toArray, List.set_cons_zero, List.set_cons_succ]
  refine wpAnyH_take (i := 7) (oi := _) (v := ?_) (by rw [List.getElem?_toArray]; exact rfl) (by kernel_rfl) (by kernel_rfl) (by kernel_rfl) (by exact fun _ _ _ h => h) (Or.inl ⟨by rfl, ?_⟩) hHeld ?_
  rotate_left
  · (intro wX hSw; obtain ⟨i0, i1, i2, i3, i4, i5, i6, i7, i8⟩ := HI.out _ hSw; clear hSw; go_simp; try with_reducible rfl)
  try simp only [Act.put, List.setIfInBounds_toArray, List.set_cons_zero, List.set_cons_succ]
  refine wpAnyH_take (i := 8) (oi := _) (v := ?_) (by rw [List.getElem?_toArray]; exact rfl) (by kernel_rfl) (by kernel_rfl) (by kernel_rfl) (by exact fun _ _ _ h => h) (Or.inl ⟨by rfl, ?_⟩) hHeld ?_
  rotate_left
  · (intro wX hSw; obtain ⟨i0, i1, i2, i3, i4, i5, i6, i7, i8⟩ := HI.out _ hSw; clear hSw; go_simp; try with_reducible rfl)
  try simp only [Act.put, List.setIfInBounds_toArray, List.set_cons_zero, List.set_cons_succ]
  refine wpAnyH_take (i := 9) (oi := _) (v := ?_) (by rw [List.getElem?_toArray]; exact rfl) (by kernel_rfl) (by kernel_rfl) (by kernel_rfl) (by exact fun _ _ _ h => h) (Or.inl ⟨by rfl, ?_⟩) hHeld ?_
  rotate_left
  · (intro wX hSw; obtain ⟨i0, i1, i2, i3, i4, i5, i6, i7, i8⟩ := HI.out _ hSw; clear hSw; go_simp; try with_reducible rfl)
  try simp only [Act.put, List.setIfInBounds_toArray, List.set_cons_zero, List.set_cons_succ]
  refine wpAnyH_take (i := 10) (oi := _) (v := ?_) (by rw [List.getElem?_toArray]; exact rfl) (by kernel_rfl) (by kernel_rfl) (by kernel_rfl) (by exact fun _ _ _ h => h) (Or.inl ⟨by rfl, ?_⟩) hHeld ?_
  rotate_left
  · (intro wX hSw; obtain ⟨i0, i1, i2, i3, i4, i5, i6, i7, i8⟩ := HI.out _ hSw; clear hSw; go_simp; try with_reducible rfl)
  try simp only [Act.put, List.setIfInBounds_toArray, List.set_cons_zero, List.set_cons_succ]
  refine wpAnyH_take (i := 11) (oi := _) (v := ?_) (by rw [List.getElem?_toArray]; exact rfl) (by kernel_rfl) (by kernel_rfl) (by kernel_rfl) (by exact fun _ _ _ h => h) (Or.inl ⟨by rfl, ?_⟩) hHeld ?_
  rotate_left
  · (intro wX hSw; obtain ⟨i0, i1, i2, i3, i4, i5, i6, i7, i8⟩ := HI.out _ hSw; clear hSw; go_simp; try with_reducible rfl)
  try simp only [Act.put, List.setIfInBounds_toArray, List.set_cons_zero, List.set_cons_succ]
  refine wpAnyH_take (i := 12) (oi := _) (v := ?_) (by rw [List.getElem?_toArray]; exact rfl) (by kernel_rfl) (by kernel_rfl) (by kernel_rfl) (by exact fun _ _ _ h => h) (Or.inl ⟨by rfl, ?_⟩) hHeld ?_
  rotate_left
  · (intro wX hSw; obtain ⟨i0, i1, i2, i3, i4, i5, i6, i7, i8⟩ := HI.out _ hSw; clear hSw; go_simp; try with_reducible rfl)
  try simp only [Act.put, List.setIfInBounds_toArray, List.set_cons_zero, List.set_cons_succ]
  refine wpAnyH_take (i := 13) (oi := _) (v := ?_) (by rw [List.getElem?_toArray]; exact rfl) (by kernel_rfl) (by kernel_rfl) (by kernel_rfl) (by exact fun _ _ _ h => h) (Or.inl ⟨by rfl, ?_⟩) hHeld ?_
  rotate_left
  · (intro wX hSw; obtain ⟨i0, i1, i2, i3, i4, i5, i6, i7, i8⟩ := HI.out _ hSw; clear hSw; go_simp; try with_reducible rfl)
  try simp only [Act.put, List.setIfInBounds_toArray, List.set_cons_zero, List.set_cons_succ]
  refine wpAnyH_take (i := 14) (oi := _) (v := ?_) (by rw [List.getElem?_toArray]; exact rfl) (by kernel_rfl) (by kernel_rfl) (by kernel_rfl) (by exact fun _ _ _ h => h) (Or.inl ⟨by rfl, ?_⟩) hHeld ?_
  rotate_left
  · (intro wX hSw; obtain ⟨i0, i1, i2, i3, i4, i5, i6, i7, i8⟩ := HI.out _ hSw; clear hSw; go_simp; try with_reducible rfl)
  try simp only [Act.put, List.setIfInBounds_toArray, List.set_cons_zero, List.set_cons_succ]
  refine wpAnyH_take (i := 15) (oi := _) (v := ?_) (by rw [List.getElem?_toArray]; exact rfl) (by kernel_rfl) (by kernel_rfl) (by kernel_rfl) (by exact fun _ _ _ h => h) (Or.inl ⟨by rfl, ?_⟩) hHeld ?_
  rotate_left
  · (intro wX hSw; obtain ⟨i0, i1, i2, i3, i4, i5, i6, i7, i8⟩ := HI.out _ hSw; clear hSw; go_simp; try with_reducible rfl)
  try simp only [Act.put, List.setIfInBounds_toArray, List.set_cons_zero, List.set_cons_succ]
  refine wpAnyH_take (i := 16) (oi := _) (v := ?_) (by rw [List.getElem?_toArray]; exact rfl) (by kernel_rfl) (by kernel_rfl) (by kernel_rfl) (by exact fun _ _ _ h => h) (Or.inl ⟨by rfl, ?_⟩) hHeld ?_
  rotate_left
  · (intro wX hSw; obtain ⟨i0, i1, i2, i3, i4, i5, i6, i7, i8⟩ := HI.out _ hSw; clear hSw; go_simp; try with_reducible rfl)
  try simp only [Act.put, List.setIfInBounds_toArray, List.set_cons_zero, List.set_cons_succ]
  refine wpAnyH_take (i := 17) (oi := _) (v := ?_) (by rw [List.getElem?_toArray]; exact rfl) (by kernel_rfl) (by kernel_rfl) (by kernel_rfl) (by exact fun _ _ _ h => h) (Or.inl ⟨by rfl, ?_⟩) hHeld ?_
  rotate_left
  · (intro wX hSw; obtain ⟨i0, i1, i2, i3, i4, i5, i6, i7, i8⟩ := HI.out _ hSw; clear hSw; go_simp; try with_reducible rfl)
  try simp only [Act.put, List.setIfInBounds_toArray, List.set_cons_zero, List.set_cons_succ]
  refine wpAnyH_take (i := 18) (oi := _) (v := ?_) (by rw [List.getElem?_toArray]; exact rfl) (by kernel_rfl) (by kernel_rfl) (by kernel_rfl) (by exact fun _ _ _ h => h) (Or.inl ⟨by rfl, ?_⟩) hHeld ?_
  rotate_left
  · (intro wX hSw; obtain ⟨i0, i1, i2, i3, i4, i5, i6, i7, i8⟩ := HI.out _ hSw; clear hSw; go_simp; try with_reducible rfl)
  try simp only [Act.put, List.setIfInBounds_toArray, List.set_cons_zero, List.set_cons_succ]
  refine wpAnyH_take (i := 19) (oi := _) (v := ?_) (by rw [List.getElem?_toArray]; exact rfl) (by kernel_rfl) (by kernel_rfl) (by kernel_rfl) (by exact fun _ _ _ h => h) (Or.inl ⟨by rfl, ?_⟩) hHeld ?_
  rotate_left
  · (intro wX hSw; obtain ⟨i0, i1, i2, i3, i4, i5, i6, i7, i8⟩ := HI.out _ hSw; clear hSw; go_simp; try with_reducible rfl)
  try simp only [Act.put, List.setIfInBounds_toArray, List.set_cons_zero, List.set_cons_succ]
  refine wpAnyH_take (i := 20) (oi := _) (v := ?_) (by rw [List.getElem?_toArray]; exact rfl) (by kernel_rfl) (by kernel_rfl) (by kernel_rfl) (by exact fun _ _ _ h => h) (Or.inl ⟨by rfl, ?_⟩) hHeld ?_
  rotate_left
  · (intro wX hSw; obtain ⟨i0, i1, i2, i3, i4, i5, i6, i7, i8⟩ := HI.out _ hSw; clear hSw; go_simp; try with_reducible rfl)
  try simp only [Act.put, List.setIfInBounds_toArray, List.set_cons_zero, List.set_cons_succ]
  refine wpAnyH_take (i := 21) (oi := _) (v := ?_) (by rw [List.getElem?_toArray]; exact rfl) (by kernel_rfl) (by kernel_rfl) (by kernel_rfl) (by exact fun _ _ _ h => h) (Or.inl ⟨by rfl, ?_⟩) hHeld ?_
  rotate_left
  · (intro wX hSw; obtain ⟨i0, i1, i2, i3, i4, i5, i6, i7, i8⟩ := HI.out _ hSw; clear hSw; go_simp; try with_reducible rfl)
  try simp only [Act.put, List.setIfInBounds_toArray, List.set_cons_zero, List.set_cons_succ]
  refine wpAnyH_take (i := 22) (oi := _) (v := ?_) (by rw [List.getElem?_toArray]; exact rfl) (by kernel_rfl) (by kernel_rfl) (by kernel_rfl) (by exact fun _ _ _ h => h) (Or.inl ⟨by rfl, ?_⟩) hHeld ?_
  rotate_left
  · (intro wX hSw; obtain ⟨i0, i1, i2, i3, i4, i5, i6, i7, i8⟩ := HI.out _ hSw; clear hSw; go_simp; try with_reducible rfl)
  try simp only [Act.put, List.setIfInBounds_toArray, List.set_cons_zero, List.set_cons_succ]
  refine wpAnyH_take (i := 23) (oi := _) (v := ?_) (by rw [List.getElem?_toArray]; exact rfl) (by kernel_rfl) (by kernel_rfl) (by kernel_rfl) (by exact fun _ _ _ h => h) (Or.inl ⟨by rfl, ?_⟩) hHeld ?_
  rotate_left
  · (intro wX hSw; obtain ⟨i0, i1, i2, i3, i4, i5, i6, i7, i8⟩ := HI.out _ hSw; clear hSw; go_simp; try with_reducible rfl)
  try simp only [Act.put, List.setIfInBounds_toArray, List.set_cons_zero, List.set_cons_succ]
  refine wpAnyH_take (i := 24) (oi := _) (v := ?_) (by rw [List.getElem?_toArray]; exact rfl) (by kernel_rfl) (by kernel_rfl) (by kernel_rfl) (by exact fun _ _ _ h => h) (Or.inl ⟨by rfl, ?_⟩) hHeld ?_
  rotate_left
  · (intro wX hSw; obtain ⟨i0, i1, i2, i3, i4, i5, i6, i7, i8⟩ := HI.out _ hSw; clear hSw; go_simp; try with_reducible rfl)
  try simp only [Act.put, List.setIfInBounds_toArray, List.set_cons_zero, List.set_cons_succ]
  refine wpAnyH_take (i := 25) (oi := _) (v := ?_) (by rw [List.getElem?_toArray]; exact rfl) (by kernel_rfl) (by kernel_rfl) (by kernel_rfl) (by exact fun _ _ _ h => h) (Or.inl ⟨by rfl, ?_⟩) hHeld ?_
  rotate_left
  · (intro wX hSw; obtain ⟨i0, i1, i2, i3, i4, i5, i6, i7, i8⟩ := HI.out _ hSw; clear hSw; go_simp; try with_reducible rfl)
  try simp only [Act.put, List.setIfInBounds_toArray, List.set_cons_zero, List.set_cons_succ]
  refine wpAnyH_take (i := 26) (oi := _) (v := ?_) (by rw [List.getElem?_toArray]; exact rfl) (by kernel_rfl) (by kernel_rfl) (by kernel_rfl) (by exact fun _ _ _ h => h) (Or.inl ⟨by rfl, ?_⟩) hHeld ?_
  rotate_left
  · (intro wX hSw; obtain ⟨i0, i1, i2, i3, i4, i5, i6, i7, i8⟩ := HI.out _ hSw; clear hSw; go_simp; try with_reducible rfl)
  try simp only [Act.put, List.setIfInBounds_toArray, List.set_cons_zero, List.set_cons_succ]
  refine wpAnyH_take (i := 27) (oi := _) (v := ?_) (by rw [List.getElem?_toArray]; exact rfl) (by kernel_rfl) (by kernel_rfl) (by kernel_rfl) (by exact fun _ _ _ h => h) (Or.inl ⟨by rfl, ?_⟩) hHeld ?_
  rotate_left
  · (intro wX hSw; obtain ⟨i0, i1, i2, i3, i4, i5, i6, i7, i8⟩ := HI.out _ hSw; clear hSw; go_simp; try with_reducible rfl)
  try simp only [Act.put, List.setIfInBounds_toArray, List.set_cons_zero, List.set_cons_succ]
  refine wpAnyH_ready (rs := [28]) (by kernel_rfl) (by simp) ?_
  refine AllReadyH.cons (o := _) (by rw [List.getElem?_toArray]; exact rfl) (fun K hK => ?_) ?_
  · go_simp
    refine (at_any _ _).mono ?_; rintro e w16 ⟨rfl, hB⟩
    go_wp2_with fail
    refine hK.out _ _ (gthen hHeld hB) (fun hHeld => ?_)
    clear hK K
    try simp only [Act.put, List.setIfInBounds_toArray, List.set_cons_zero, List.set_cons_succ]
    refine wpAnyH_take (i := 29) (oi := _) (v := ?_) (by rw [List.getElem?_toArray]; exact rfl) (by kernel_rfl) (by kernel_rfl) (by kernel_rfl) (by exact fun _ _ _ h => h) (Or.inl ⟨by rfl, ?_⟩) hHeld ?_
    rotate_left
    · (intro wX hSw; obtain ⟨i0, i1, i2, i3, i4, i5, i6, i7, i8⟩ := HI.out _ hSw; clear hSw; go_simp; try with_reducible rfl)
    try simp only [Act.put, List.setIfInBounds_toArray, List.set_cons_zero, List.set_cons_succ]
    refine wpAnyH_take (i := 30) (oi := _) (v := ?_) (by rw [List.getElem?_toArray]; exact rfl) (by kernel_rfl) (by kernel_rfl) (by kernel_rfl) (by exact fun _ _ _ h => h) (Or.inl ⟨by rfl, ?_⟩) hHeld ?_
    rotate_left
    · (intro wX hSw; obtain ⟨i0, i1, i2, i3, i4, i5, i6, i7, i8⟩ := HI.out _ hSw; clear hSw; go_simp; try with_reducible rfl)
    try simp only [Act.put, List.setIfInBounds_toArray, List.set_cons_zero, List.set_cons_succ]
    refine wpAnyH_take (i := 31) (oi := _) (v := ?_) (by rw [List.getElem?_toArray]; exact rfl) (by kernel_rfl) (by kernel_rfl) (by kernel_rfl) (by exact fun _ _ _ h => h) (Or.inl ⟨by rfl, ?_⟩) hHeld ?_
    rotate_left
    · (intro wX hSw; obtain ⟨i0, i1, i2, i3, i4, i5, i6, i7, i8⟩ := HI.out _ hSw; clear hSw; go_simp; try with_reducible rfl)
    try simp only [Act.put, List.setIfInBounds_toArray, List.set_cons_zero, List.set_cons_succ]
    refine wpAnyH_take (i := 32) (oi := _) (v := ?_) (by rw [List.getElem?_toArray]; exact rfl) (by kernel_rfl) (by kernel_rfl) (by kernel_rfl) (by exact fun _ _ _ h => h) (Or.inl ⟨by rfl, ?_⟩) hHeld ?_
    rotate_left
    · (intro wX hSw; obtain ⟨i0, i1, i2, i3, i4, i5, i6, i7, i8⟩ := HI.out _ hSw; clear hSw; go_simp; try with_reducible rfl)
    try simp only [Act.put, List.setIfInBounds_toArray, List.set_cons_zero, List.set_cons_succ]
    refine wpAnyH_take (i := 33) (oi := _) (v := ?_) (by rw [List.getElem?_toArray]; exact rfl) (by kernel_rfl) (by kernel_rfl) (by kernel_rfl) (by exact fun _ _ _ h => h) (Or.inl ⟨by rfl, ?_⟩) hHeld ?_
    rotate_left
    · (intro wX hSw; obtain ⟨i0, i1, i2, i3, i4, i5, i6, i7, i8⟩ := HI.out _ hSw; clear hSw; go_simp; try with_reducible rfl)
    try simp only [Act.put, List.setIfInBounds_toArray, List.set_cons_zero, List.set_cons_succ]
    refine wpAnyH_take (i := 34) (oi := _) (v := ?_) (by rw [List.getElem?_toArray]; exact rfl) (by kernel_rfl) (by kernel_rfl) (by kernel_rfl) (by exact fun _ _ _ h => h) (Or.inl ⟨by rfl, ?_⟩) hHeld ?_
    rotate_left
    · (intro wX hSw; obtain ⟨i0, i1, i2, i3, i4, i5, i6, i7, i8⟩ := HI.out _ hSw; clear hSw; go_simp; try with_reducible rfl)
    try simp only [Act.put, List.setIfInBounds_toArray, List.set_cons_zero, List.set_cons_succ]
    refine wpAnyH_take (i := 35) (oi := _) (v := ?_) (by rw [List.getElem?_toArray]; exact rfl) (by kernel_rfl) (by kernel_rfl) (by kernel_rfl) (by exact fun _ _ _ h => h) (Or.inl ⟨by rfl, ?_⟩) hHeld ?_
    rotate_left
    · (intro wX hSw; obtain ⟨i0, i1, i2, i3, i4, i5, i6, i7, i8⟩ := HI.out _ hSw; clear hSw; go_simp; try with_reducible rfl)
    try simp only [Act.put, List.setIfInBounds_toArray, List.set_cons_zero, List.set_cons_succ]
    refine wpAnyH_take (i := 36) (oi := _) (v := ?_) (by rw [List.getElem?_toArray]; exact rfl) (by kernel_rfl) (by kernel_rfl) (by kernel_rfl) (by exact fun _ _ _ h => h) (Or.inl ⟨by rfl, ?_⟩) hHeld ?_
    rotate_left
    · (intro wX hSw; obtain ⟨i0, i1, i2, i3, i4, i5, i6, i7, i8⟩ := HI.out _ hSw; clear hSw; go_simp; try with_reducible rfl)
    try simp only [Act.put, List.setIfInBounds_toArray, List.set_cons_zero, List.set_cons_succ]
    refine wpAnyH_take (i := 37) (oi := _) (v := ?_) (by rw [List.getElem?_toArray]; exact rfl) (by kernel_rfl) (by kernel_rfl) (by kernel_rfl) (by exact fun _ _ _ h => h) (Or.inl ⟨by rfl, ?_⟩) hHeld ?_
    rotate_left
    · (intro wX hSw; obtain ⟨i0, i1, i2, i3, i4, i5, i6, i7, i8⟩ := HI.out _ hSw; clear hSw; go_simp; try with_reducible rfl)
    try simp only [Act.put, List.setIfInBounds_toArray, List.set_cons_zero, List.set_cons_succ]
    refine wpAnyH_take (i := 38) (oi := _) (v := ?_) (by rw [List.getElem?_toArray]; exact rfl) (by kernel_rfl) (by kernel_rfl) (by kernel_rfl) (by exact fun _ _ _ h => h) (Or.inl ⟨by rfl, ?_⟩) hHeld ?_
    rotate_left
    · (intro wX hSw; obtain ⟨i0, i1, i2, i3, i4, i5, i6, i7, i8⟩ := HI.out _ hSw; clear hSw; go_simp; try with_reducible rfl)
    try simp only [Act.put, List.setIfInBounds_toArray, List.set_cons_zero, List.set_cons_succ]
    refine wpAnyH_take (i := 39) (oi := _) (v := ?_) (by rw [List.getElem?_toArray]; exact rfl) (by kernel_rfl) (by kernel_rfl) (by kernel_rfl) (by exact fun _ _ _ h => h) (Or.inl ⟨by rfl, ?_⟩) hHeld ?_
    rotate_left
    · (intro wX hSw; obtain ⟨i0, i1, i2, i3, i4, i5, i6, i7, i8⟩ := HI.out _ hSw; clear hSw; go_simp; try with_reducible rfl)
    try simp only [Act.put, List.setIfInBounds_toArray, List.set_cons_zero, List.set_cons_succ]
    refine wpAnyH_take (i := 40) (oi := _) (v := ?_) (by rw [List.getElem?_toArray]; exact rfl) (by kernel_rfl) (by kernel_rfl) (by kernel_rfl) (by exact fun _ _ _ h => h) (Or.inl ⟨by rfl, ?_⟩) hHeld ?_
    rotate_left
    · (intro wX hSw; obtain ⟨i0, i1, i2, i3, i4, i5, i6, i7, i8⟩ := HI.out _ hSw; clear hSw; go_simp; try with_reducible rfl)
    try simp only [Act.put, List.setIfInBounds_toArray, List.set_cons_zero, List.set_cons_succ]
    refine wpAnyH_take (i := 41) (oi := _) (v := ?_) (by rw [List.getElem?_toArray]; exact rfl) (by kernel_rfl) (by kernel_rfl) (by kernel_rfl) (by exact fun _ _ _ h => h) (Or.inl ⟨by rfl, ?_⟩) hHeld ?_
    rotate_left
    · (intro wX hSw; obtain ⟨i0, i1, i2, i3, i4, i5, i6, i7, i8⟩ := HI.out _ hSw; clear hSw; go_simp; try with_reducible rfl)
    try simp only [Act.put, List.setIfInBounds_toArray, List.set_cons_zero, List.set_cons_succ]
    refine wpAnyH_take (i := 42) (oi := _) (v := ?_) (by rw [List.getElem?_toArray]; exact rfl) (by kernel_rfl) (by kernel_rfl) (by kernel_rfl) (by exact fun _ _ _ h => h) (Or.inl ⟨by rfl, ?_⟩) hHeld ?_
    rotate_left
    · (intro wX hSw; obtain ⟨i0, i1, i2, i3, i4, i5, i6, i7, i8⟩ := HI.out _ hSw; clear hSw; go_simp; try with_reducible rfl)
    try simp only [Act.put, List.setIfInBounds_toArray, List.set_cons_zero, List.set_cons_succ]
    refine wpAnyH_take (i := 43) (oi := _) (v := ?_) (by rw [List.getElem?_toArray]; exact rfl) (by kernel_rfl) (by kernel_rfl) (by kernel_rfl) (by exact fun _ _ _ h => h) (Or.inl ⟨by rfl, ?_⟩) hHeld ?_
    rotate_left
    · (intro wX hSw; obtain ⟨i0, i1, i2, i3, i4, i5, i6, i7, i8⟩ := HI.out _ hSw; clear hSw; go_simp; try with_reducible rfl)
    try simp only [Act.put, List.setIfInBounds_toArray, List.set_cons_zero, List.set_cons_succ]
    refine wpAnyH_ready (rs := [44]) (by kernel_rfl) (by simp) ?_
    refine AllReadyH.cons (o := _) (by rw [List.getElem?_toArray]; exact rfl) (fun K hK => ?_) ?_
    · go_simp
      refine (at_any _ _).mono ?_; rintro e w16 ⟨rfl, hB⟩
      go_wp2_with fail
      refine hK.out _ _ (gthen hHeld hB) (fun hHeld => ?_)
      clear hK K
      try simp only [Act.put, List.setIfInBounds_toArray, List.set_cons_zero, List.set_cons_succ]
      refine wpAnyH_take (i := 45) (oi := _) (v := ?_) (by rw [List.getElem?_toArray]; exact rfl) (by kernel_rfl) (by kernel_rfl) (by kernel_rfl) (by exact fun _ _ _ h => h) (Or.inl ⟨by rfl, ?_⟩) hHeld ?_
      rotate_left
      · (intro wX hSw; obtain ⟨i0, i1, i2, i3, i4, i5, i6, i7, i8⟩ := HI.out _ hSw; clear hSw; go_simp; try with_reducible rfl)
      try simp only [Act.put, List.setIfInBounds_toArray, List.set_cons_zero, List.set_cons_succ]
      refine wpAnyH_take (i := 46) (oi := _) (v := ?_) (by rw [List.getElem?_toArray]; exact rfl) (by kernel_rfl) (by kernel_rfl) (by kernel_rfl) (by exact fun _ _ _ h => h) (Or.inl ⟨by rfl, ?_⟩) hHeld ?_
      rotate_left
      · (intro wX hSw; obtain ⟨i0, i1, i2, i3, i4, i5, i6, i7, i8⟩ := HI.out _ hSw; clear hSw; go_simp; try with_reducible rfl)
      try simp only [Act.put, List.setIfInBounds_toArray, List.set_cons_zero, List.set_cons_succ]
      refine wpAnyH_take (i := 47) (oi := _) (v := ?_) (by rw [List.getElem?_toArray]; exact rfl) (by kernel_rfl) (by kernel_rfl) (by kernel_rfl) (by exact fun _ _ _ h => h) (Or.inl ⟨by rfl, ?_⟩) hHeld ?_
      rotate_left
      · (intro wX hSw; obtain ⟨i0, i1, i2, i3, i4, i5, i6, i7, i8⟩ := HI.out _ hSw; clear hSw; go_simp; try with_reducible rfl)
      try simp only [Act.put, List.setIfInBounds_toArray, List.set_cons_zero, List.set_cons_succ]
      refine wpAnyH_take (i := 48) (oi := _) (v := ?_) (by rw [List.getElem?_toArray]; exact rfl) (by kernel_rfl) (by kernel_rfl) (by kernel_rfl) (by exact fun _ _ _ h => h) (Or.inl ⟨by rfl, ?_⟩) hHeld ?_
      rotate_left
      · (intro wX hSw; obtain ⟨i0, i1, i2, i3, i4, i5, i6, i7, i8⟩ := HI.out _ hSw; clear hSw; go_simp; try with_reducible rfl)
      try simp only [Act.put, List.setIfInBounds_toArray, List.set_cons_zero, List.set_cons_succ]
      refine wpAnyH_take (i := 49) (oi := _) (v := ?_) (by rw [List.getElem?_toArray]; exact rfl) (by kernel_rfl) (by kernel_rfl) (by kernel_rfl) (by exact fun _ _ _ h => h) (Or.inl ⟨by rfl, ?_⟩) hHeld ?_
      rotate_left
      · (intro wX hSw; obtain ⟨i0, i1, i2, i3, i4, i5, i6, i7, i8⟩ := HI.out _ hSw; clear hSw; go_simp; try with_reducible rfl)
      try simp only [Act.put, List.setIfInBounds_toArray, List.set_cons_zero, List.set_cons_succ]
      refine wpAnyH_take (i := 50) (oi := _) (v := ?_) (by rw [List.getElem?_toArray]; exact rfl) (by kernel_rfl) (by kernel_rfl) (by kernel_rfl) (by exact fun _ _ _ h => h) (Or.inl ⟨by rfl, ?_⟩) hHeld ?_
      rotate_left
      · (intro wX hSw; obtain ⟨i0, i1, i2, i3, i4, i5, i6, i7, i8⟩ := HI.out _ hSw; clear hSw; go_simp; try with_reducible rfl)
      try simp only [Act.put, List.setIfInBounds_toArray, List.set_cons_zero, List.set_cons_succ]
      refine wpAnyH_take (i := 51) (oi := _) (v := ?_) (by rw [List.getElem?_toArray]; exact rfl) (by kernel_rfl) (by kernel_rfl) (by kernel_rfl) (by exact fun _ _ _ h => h) (Or.inl ⟨by rfl, ?_⟩) hHeld ?_
      rotate_left
      · (intro wX hSw; obtain ⟨i0, i1, i2, i3, i4, i5, i6, i7, i8⟩ := HI.out _ hSw; clear hSw; go_simp; try with_reducible rfl)
      try simp only [Act.put, List.setIfInBounds_toArray, List.set_cons_zero, List.set_cons_succ]
      refine wpAnyH_take (i := 52) (oi := _) (v := ?_) (by rw [List.getElem?_toArray]; exact rfl) (by kernel_rfl) (by kernel_rfl) (by kernel_rfl) (by exact fun _ _ _ h => h) (Or.inl ⟨by rfl, ?_⟩) hHeld ?_
      rotate_left
      · (intro wX hSw; obtain ⟨i0, i1, i2, i3, i4, i5, i6, i7, i8⟩ := HI.out _ hSw; clear hSw; go_simp; try with_reducible rfl)
      try simp only [Act.put, List.setIfInBounds_toArray, List.set_cons_zero, List.set_cons_succ]
      refine wpAnyH_take (i := 53) (oi := _) (v := ?_) (by rw [List.getElem?_toArray]; exact rfl) (by kernel_rfl) (by kernel_rfl) (by kernel_rfl) (by exact fun _ _ _ h => h) (Or.inl ⟨by rfl, ?_⟩) hHeld ?_
      rotate_left
      · (intro wX hSw; obtain ⟨i0, i1, i2, i3, i4, i5, i6, i7, i8⟩ := HI.out _ hSw; clear hSw; go_simp; try with_reducible rfl)
      try simp only [Act.put, List.setIfInBounds_toArray, List.set_cons_zero, List.set_cons_succ]
      refine wpAnyH_take (i := 54) (oi := _) (v := ?_) (by rw [List.getElem?_toArray]; exact rfl) (by kernel_rfl) (by kernel_rfl) (by kernel_rfl) (by exact fun _ _ _ h => h) (Or.inl ⟨by rfl, ?_⟩) hHeld ?_
      rotate_left
      · (intro wX hSw; obtain ⟨i0, i1, i2, i3, i4, i5, i6, i7, i8⟩ := HI.out _ hSw; clear hSw; go_simp; try with_reducible rfl)
      try simp only [Act.put, List.setIfInBounds_toArray, List.set_cons_zero, List.set_cons_succ]
      refine wpAnyH_take (i := 55) (oi := _) (v := ?_) (by rw [List.getElem?_toArray]; exact rfl) (by kernel_rfl) (by kernel_rfl) (by kernel_rfl) (by exact fun _ _ _ h => h) (Or.inl ⟨by rfl, ?_⟩) hHeld ?_
      rotate_left
      · (intro wX hSw; obtain ⟨i0, i1, i2, i3, i4, i5, i6, i7, i8⟩ := HI.out _ hSw; clear hSw; go_simp; try with_reducible rfl)
      try simp only [Act.put, List.setIfInBounds_toArray, List.set_cons_zero, List.set_cons_succ]
      refine wpAnyH_ready (rs := [56]) (by kernel_rfl) (by simp) ?_
      refine AllReadyH.cons (o := _) (by rw [List.getElem?_toArray]; exact rfl) (fun K hK => ?_) ?_
      · go_simp
        refine (at_any _ _).mono ?_; rintro e w16 ⟨rfl, hB⟩
        go_wp2_with fail
        refine hK.out _ _ (gthen hHeld hB) (fun hHeld => ?_)
        clear hK K
        try simp only [Act.put, List.setIfInBounds_toArray, List.set_cons_zero, List.set_cons_succ]
        refine wpAnyH_take (i := 57) (oi := _) (v := ?_) (by rw [List.getElem?_toArray]; exact rfl) (by kernel_rfl) (by kernel_rfl) (by kernel_rfl) (by exact fun _ _ _ h => h) (Or.inl ⟨by rfl, ?_⟩) hHeld ?_
        rotate_left
        · (intro wX hSw; obtain ⟨i0, i1, i2, i3, i4, i5, i6, i7, i8⟩ := HI.out _ hSw; clear hSw; go_simp; try with_reducible rfl)
        try simp only [Act.put, List.setIfInBounds_toArray, List.set_cons_zero, List.set_cons_succ]
        refine wpAnyH_take (i := 58) (oi := _) (v := ?_) (by rw [List.getElem?_toArray]; exact rfl) (by kernel_rfl) (by kernel_rfl) (by kernel_rfl) (by exact fun _ _ _ h => h) (Or.inl ⟨by rfl, ?_⟩) hHeld ?_
        rotate_left
        · (intro wX hSw; obtain ⟨i0, i1, i2, i3, i4, i5, i6, i7, i8⟩ := HI.out _ hSw; clear hSw; go_simp; try with_reducible rfl)
        try simp only [Act.put, List.setIfInBounds_toArray, List.set_cons_zero, List.set_cons_succ]
        refine wpAnyH_take (i := 59) (oi := _) (v := ?_) (by rw [List.getElem?_toArray]; exact rfl) (by kernel_rfl) (by kernel_rfl) (by kernel_rfl) (by exact fun _ _ _ h => h) (Or.inl ⟨by rfl, ?_⟩) hHeld ?_
        rotate_left
        · (intro wX hSw; obtain ⟨i0, i1, i2, i3, i4, i5, i6, i7, i8⟩ := HI.out _ hSw; clear hSw; go_simp; try with_reducible rfl)
        try simp only [Act.put, List.setIfInBounds_toArray, List.set_cons_zero, List.set_cons_succ]
        refine wpAnyH_take (i := 60) (oi := _) (v := ?_) (by rw [List.getElem?_toArray]; exact rfl) (by kernel_rfl) (by kernel_rfl) (by kernel_rfl) (by exact fun _ _ _ h => h) (Or.inl ⟨by rfl, ?_⟩) hHeld ?_
        rotate_left
        · (intro wX hSw; obtain ⟨i0, i1, i2, i3, i4, i5, i6, i7, i8⟩ := HI.out _ hSw; clear hSw; go_simp; try with_reducible rfl)
        try simp only [Act.put, List.setIfInBounds_toArray, List.set_cons_zero, List.set_cons_succ]
        refine wpAnyH_take (i := 61) (oi := _) (v := ?_) (by rw [List.getElem?_toArray]; exact rfl) (by kernel_rfl) (by kernel_rfl) (by kernel_rfl) (by exact fun _ _ _ h => h) (Or.inl ⟨by rfl, ?_⟩) hHeld ?_
        rotate_left
        · (intro wX hSw; obtain ⟨i0, i1, i2, i3, i4, i5, i6, i7, i8⟩ := HI.out _ hSw; clear hSw; go_simp; try with_reducible rfl)
        try simp only [Act.put, List.setIfInBounds_toArray, List.set_cons_zero, List.set_cons_succ]
        refine wpAnyH_take (i := 62) (oi := _) (v := ?_) (by rw [List.getElem?_toArray]; exact rfl) (by kernel_rfl) (by kernel_rfl) (by kernel_rfl) (by exact fun _ _ _ h => h) (Or.inl ⟨by rfl, ?_⟩) hHeld ?_
        rotate_left
        · (intro wX hSw; obtain ⟨i0, i1, i2, i3, i4, i5, i6, i7, i8⟩ := HI.out _ hSw; clear hSw; go_simp; try with_reducible rfl)
        try simp only [Act.put, List.setIfInBounds_toArray, List.set_cons_zero, List.set_cons_succ]
        refine wpAnyH_take (i := 63) (oi := _) (v := ?_) (by rw [List.getElem?_toArray]; exact rfl) (by kernel_rfl) (by kernel_rfl) (by kernel_rfl) (by exact fun _ _ _ h => h) (Or.inl ⟨by rfl, ?_⟩) hHeld ?_
        rotate_left
        · (intro wX hSw; obtain ⟨i0, i1, i2, i3, i4, i5, i6, i7, i8⟩ := HI.out _ hSw; clear hSw; go_simp; try with_reducible rfl)
        try simp only [Act.put, List.setIfInBounds_toArray, List.set_cons_zero, List.set_cons_succ]
        refine wpAnyH_take (i := 64) (oi := _) (v := ?_) (by rw [List.getElem?_toArray]; exact rfl) (by kernel_rfl) (by kernel_rfl) (by kernel_rfl) (by exact fun _ _ _ h => h) (Or.inl ⟨by rfl, ?_⟩) hHeld ?_
        rotate_left
        · (intro wX hSw; obtain ⟨i0, i1, i2, i3, i4, i5, i6, i7, i8⟩ := HI.out _ hSw; clear hSw; go_simp; try with_reducible rfl)
        try simp only [Act.put, List.setIfInBounds_toArray, List.set_cons_zero, List.set_cons_succ]
        refine wpAnyH_take (i := 65) (oi := _) (v := ?_) (by rw [List.getElem?_toArray]; exact rfl) (by kernel_rfl) (by kernel_rfl) (by kernel_rfl) (by exact fun _ _ _ h => h) (Or.inl ⟨by rfl, ?_⟩) hHeld ?_
        rotate_left
        · (intro wX hSw; obtain ⟨i0, i1, i2, i3, i4, i5, i6, i7, i8⟩ := HI.out _ hSw; clear hSw; go_simp; try with_reducible rfl)
        try simp only [Act.put, List.setIfInBounds_toArray, List.set_cons_zero, List.set_cons_succ]
        refine wpAnyH_take (i := 66) (oi := _) (v := ?_) (by rw [List.getElem?_toArray]; exact rfl) (by kernel_rfl) (by kernel_rfl) (by kernel_rfl) (by exact fun _ _ _ h => h) (Or.inl ⟨by rfl, ?_⟩) hHeld ?_
        rotate_left
        · (intro wX hSw; obtain ⟨i0, i1, i2, i3, i4, i5, i6, i7, i8⟩ := HI.out _ hSw; clear hSw; go_simp; try with_reducible rfl)
        try simp only [Act.put, List.setIfInBounds_toArray, List.set_cons_zero, List.set_cons_succ]
        refine wpAnyH_take (i := 67) (oi := _) (v := ?_) (by rw [List.getElem?_toArray]; exact rfl) (by kernel_rfl) (by kernel_rfl) (by kernel_rfl) (by exact fun _ _ _ h => h) (Or.inl ⟨by rfl, ?_⟩) hHeld ?_
        rotate_left
        · (intro wX hSw; obtain ⟨i0, i1, i2, i3, i4, i5, i6, i7, i8⟩ := HI.out _ hSw; clear hSw; go_simp; try with_reducible rfl)
        try simp only [Act.put, List.setIfInBounds_toArray, List.set_cons_zero, List.set_cons_succ]
        refine wpAnyH_ready (rs := [68]) (by kernel_rfl) (by simp) ?_
        refine AllReadyH.cons (o := _) (by rw [List.getElem?_toArray]; exact rfl) (fun K hK => ?_) ?_
        · go_simp
          refine (at_any _ _).mono ?_; rintro e w16 ⟨rfl, hB⟩
          go_wp2_with fail
          refine hK.out _ _ (gthen hHeld hB) (fun hHeld => ?_)
          clear hK K
          try simp only [Act.put, List.setIfInBounds_toArray, List.set_cons_zero, List.set_cons_succ]
          refine wpAnyH_take (i := 69) (oi := _) (v := ?_) (by rw [List.getElem?_toArray]; exact rfl) (by kernel_rfl) (by kernel_rfl) (by kernel_rfl) (by exact fun _ _ _ h => h) (Or.inl ⟨by rfl, ?_⟩) hHeld ?_
          rotate_left
          · (intro wX hSw; obtain ⟨i0, i1, i2, i3, i4, i5, i6, i7, i8⟩ := HI.out _ hSw; clear hSw; go_simp; try with_reducible rfl)
          try simp only [Act.put, List.setIfInBounds_toArray, List.set_cons_zero, List.set_cons_succ]
          refine wpAnyH_take (i := 70) (oi := _) (v := ?_) (by rw [List.getElem?_toArray]; exact rfl) (by kernel_rfl) (by kernel_rfl) (by kernel_rfl) (by exact fun _ _ _ h => h) (Or.inl ⟨by rfl, ?_⟩) hHeld ?_
          rotate_left
          · (intro wX hSw; obtain ⟨i0, i1, i2, i3, i4, i5, i6, i7, i8⟩ := HI.out _ hSw; clear hSw; go_simp; try with_reducible rfl)
          try simp only [Act.put, List.setIfInBounds_toArray, List.set_cons_zero, List.set_cons_succ]
          refine wpAnyH_take (i := 71) (oi := _) (v := ?_) (by rw [List.getElem?_toArray]; exact rfl) (by kernel_rfl) (by kernel_rfl) (by kernel_rfl) (by exact fun _ _ _ h => h) (Or.inl ⟨by rfl, ?_⟩) hHeld ?_
          rotate_left
          · (intro wX hSw; obtain ⟨i0, i1, i2, i3, i4, i5, i6, i7, i8⟩ := HI.out _ hSw; clear hSw; go_simp; try with_reducible rfl)
          try simp only [Act.put, List.setIfInBounds_toArray, List.set_cons_zero]
          refine wpAnyH_done (by kernel_rfl) ?_ _
          have HF := Lib.hid (HLOW.out.trans (hHeld.mono HLOW.out.size))
          clear hHeld
          go_wp2_with fail
          go_ret
          exact ⟨rfl, HF.out⟩
        exact AllReadyH.nil
      exact AllReadyH.nil
    exact AllReadyH.nil
  exact AllReadyH.nil
end Go.Proofs.Ytpdnebimkfejoaa
