/- VmAll holds: in whatever order tasks are run. -/
import Derived.Test.YtdhbjejejeljoaaGreatVa4
import Derived.Deep.DeepCutAuto
namespace Go.Proofs.YtdhbjejejeljoaaGreat
open Go.RowKit Go.Sort Go.Lib

def encU (x : Int) : List Value := [.int .u16 x]
theorem and7 (x : Int) (h0 : 0 ≤ x) (h1 : x ≤ 65535) : ∃ f : Nat, f ≤ 7 ∧ bits BinOp.and IntKind.u16 x 7 = (f : Int) := by
  obtain ⟨a, rfl⟩ : ∃ a : Nat, x = a := ⟨x.toNat, by omega⟩
  refine ⟨a &&& 7, Nat.and_le_right, ?_⟩
  have h2 : (BitVec.ofInt 16 (a : Int)).toNat = a := by
    rw [BitVec.ofInt_natCast, BitVec.toNat_ofNat]; exact Nat.mod_eq_of_lt (by omega)
  have h3 : (BitVec.ofInt 16 (7 : Int)).toNat = 7 := by decide
  have h4 : a &&& 7 ≤ 7 := Nat.and_le_right
  show IntKind.u16.wrap ((BitVec.ofInt 16 (a : Int) &&& BitVec.ofInt 16 (7 : Int)).toNat : Int) = _
  rw [BitVec.toNat_and, h2, h3, show ∀ z : Int, IntKind.u16.wrap z = z % 65536 from fun _ => rfl]
  omega
set_option maxHeartbeats 25600000 in
set_option maxRecDepth 100000 in
theorem all_any (pv av pcv : Value) (p : List Fnc) (I : List Int) (fuel : Int) (P : List Int) (w : World) (hp : ProgIn w pv p) (hav : ReadsK encN1 1 w av I) (hP : ReadsK encU 1 w pcv P) (hPb : ∀ x ∈ P, 0 ≤ x ∧ x ≤ 65535) (hIl : I.length ≤ maxLen) (hPl : P.length ≤ maxLen) :
    Calls Tryz.prog 3 #[.agg #[pv], av, .int .i64 fuel, pcv] w fun e w' => e = .returned (.bool true) ∧ Below w.heap.size w w' := by
  obtain ⟨pa, pc, rfl⟩ := hp.fns.slice
  obtain ⟨aa, ac, rfl⟩ := hav.slice
  obtain ⟨ca, cc, rfl⟩ := hP.slice
  have hA1 : Below w.heap.size w (w.alloc (.cells #[.slice pa p.length pc] PrgT)) := alV _ _
  have H1 := Lib.hid (show BoxAt _ w.heap.size #[.slice pa p.length pc] PrgT ∧ Below w.heap.size w (w.alloc (.cells #[.slice pa p.length pc] PrgT)) from ⟨heap_alloc_new _ _, hA1⟩)
  have HIN := Lib.hid (And.intro hp (And.intro hav hP))
  have HPB := Lib.hid hPb
  unfold maxLen at hIl hPl
  clear hp hav hP hPb hA1
  go_enter Tryz.func3, Tryz.ntmps3
  go_upto_region 1 with fail
  generalize w.alloc (.cells #[.slice pa p.length pc] PrgT) = w1 at *
  obtain ⟨pb, hpb⟩ : ∃ n, w.heap.size = n := ⟨_, rfl⟩
  have HPBK := Lib.hid hpb
  have HBX := Lib.hid (show BoxAt w1 pb #[.slice pa p.length pc] PrgT from by rw [← hpb]; exact H1.out.1)
  have HL1 := Lib.hid H1.out.2
  rw [hpb]
  clear hpb H1
  have c0 := prg_cell HBX.out
  go_wp2_with fail
  refine (heavy13_any _ p aa I.length ac fuel w1 (HIN.out.1.below HL1.out)).mono ?_
  rintro e w2 ⟨rfl, hB⟩
  have HL2 := Lib.hid (gthen HL1.out hB)
  have HB2 := Lib.hid (BoxAt.below HBX.out hB)
  clear hB HL1 HBX c0
  have c0 := prg_cell HB2.out
  cases hh : heavy13 p I.length fuel
  case true =>
    clear c0
    go_wp2_with fail
    refine (valive_any _).mono ?_
    rintro e w9 ⟨rfl, hB⟩
    have HB9 := Lib.hid (gthen HL2.out hB)
    clear hB
    go_wp2_with fail
    go_ret
    exact ⟨rfl, HB9.out⟩
  obtain ⟨hh1, hh2, hh3⟩ := heavy13_no hh
  clear hh
  by_cases hq : 400 < fuel
  case pos =>
    have HX := Lib.hid hh1
    clear hh1 hh2 hh3
    go_wp2_with fail
    refine (valive_any _).mono ?_
    rintro e w9 ⟨rfl, hB⟩
    have HB9 := Lib.hid (gthen HL2.out hB)
    clear hB
    go_wp2_with fail
    go_ret
    exact ⟨rfl, HB9.out⟩
  by_cases hz : 2000 < P.length
  case pos =>
    have hz1 : (2000 : Int) < P.length := by omega
    have HX := Lib.hid hh1
    clear hh1 hh2 hh3 hz
    go_wp2_with fail
    refine (valive_any _).mono ?_
    rintro e w9 ⟨rfl, hB⟩
    have HB9 := Lib.hid (gthen HL2.out hB)
    clear hB
    go_wp2_with fail
    go_ret
    exact ⟨rfl, HB9.out⟩
  have hz1 : ¬ (2000 : Int) < P.length := by omega
  have HX := Lib.hid (And.intro hh1 (And.intro hh2 (show fuel ≤ 400 by omega)))
  clear hh1 hh2 hh3 hz
  go_wp2_with fail
  refine (tree_any _ p (.slice aa I.length ac) I fuel 65536 w2 ((HIN.out.1.below HL2.out).at HX.out.1) (HIN.out.2.1.below HL2.out) (by have := HX.out.2.1; omega)).mono ?_
  rintro e w3 ⟨hB3, tv, rfl, htr⟩
  rw [treeE_small HX.out.2.2]
  have HTR := Lib.hid htr
  have HL3 := Lib.hid (gthen HL2.out hB3)
  have HB3 := Lib.hid (BoxAt.below HB2.out hB3)
  have HBP := Lib.hid (show ∀ y, Below w3.heap.size w3 y → BoxAt y pb #[.slice pa p.length pc] PrgT from fun y hy => BoxAt.below HB3.out hy)
  clear hB3 HB2 c0 htr
  have c0 := prg_cell HB3.out
  obtain ⟨re, hre⟩ : ∃ re, rootE p I.length fuel = re := ⟨_, rfl⟩
  have HRE := Lib.hid hre
  rw [hre]
  have HROOT := Lib.hid (root_any (err := re) _ p (.slice aa I.length ac) I fuel w3 ((HIN.out.1.below HL3.out).at HX.out.1) (HIN.out.2.1.below HL3.out) (by have := HX.out.2.1; omega) hre)
  clear hre
  go_wp2_with fail
  refine HROOT.out.mono ?_
  rintro e w4 ⟨hB4, hr4⟩
  have HL4 := Lib.hid (gthen HL3.out hB4)
  have HB4 := Lib.hid (BoxAt.below HB3.out hB4)
  clear HROOT HB3 c0
  by_cases hre0 : re = 0
  case neg =>
    rw [if_neg hre0] at hr4
    subst hr4
    have q1 : (re != 0) = true := by simpa using hre0
    unfold noTask
    have HAL := Lib.hid (show ∀ c, Below w.heap.size w (w4.alloc c) from fun c => gthen HL4.out (alV w4 c))
    clear hre0 hB4
    go_wp2_with fail
    refine (valive_any _).mono ?_
    rintro e w9 ⟨rfl, hB⟩
    have HB9 := Lib.hid (gthen (HAL.out _) hB)
    clear hB
    go_wp2_with fail
    go_ret
    exact ⟨rfl, HB9.out⟩
  rw [if_pos hre0] at hr4
  obtain ⟨ta, tc, rfl, hta⟩ := hr4
  subst hre0
  have HRT := Lib.hid (rootT_ok HRE.out)
  have HTA := Lib.hid hta
  have HB34 := Lib.hid hB4
  clear hta hB4
  go_upto_region 5 with fail
  have hA5 := alV w4 (.cells #[.string ⟨#[]⟩, .int .i64 0, .slice ta I.length tc, .int .i64 fuel] TaskT)
  have HT5 := Lib.hid (show BoxAt (w4.alloc (.cells #[.string ⟨#[]⟩, .int .i64 0, .slice ta I.length tc, .int .i64 fuel] TaskT)) w4.heap.size (taC ⟨#[]⟩ 0 (.slice ta I.length tc) fuel) TaskT from heap_alloc_new _ _)
  have HB5 := Lib.hid (BoxAt.below HB4.out hA5)
  have HTA5 := Lib.hid (own_below HTA.out hA5)
  have HL5 := Lib.hid (gthen HL4.out hA5)
  have HL35 := Lib.hid (gthen HB34.out hA5)
  clear hA5 HB4 HTA HL4 HB34
  generalize w4.alloc (.cells #[.string ⟨#[]⟩, .int .i64 0, .slice ta I.length tc, .int .i64 fuel] TaskT) = w5 at *
  generalize w4.heap.size = tb at *
  have c0 := prg_cell HB5.out
  obtain ⟨d0, d1, d2, d3⟩ := ta_cells HT5.out
  go_wp2_with fail
  refine (vnew_any _ (.slice ta I.length tc) p (rootT I fuel) w5 ((HIN.out.1.below HL5.out).at HX.out.1) (own_readsK (enc := encN1) (k := 1) (fun _ => rfl) (by decide) HTA5.out) (by show I.length ≤ 1000; have := HX.out.2.1; omega) (by show (0 : Nat) ≤ _; omega)).mono ?_
  rintro e w6 hn6
  obtain ⟨hB6, ⟨hne6, _⟩ | ⟨h06, x6, r6, rfl, hf6⟩⟩ := hn6.frm
  · exact absurd (newE_root HRE.out) hne6
  have HF6 := Lib.hid hf6
  have HB6 := Lib.hid (BoxAt.below HB5.out hB6)
  have HT6 := Lib.hid (BoxAt.below HT5.out hB6)
  have HST := Lib.hid (show Fst w3.heap.size p (rootT I fuel) [⟨⟨rootT I fuel, newV p (rootT I fuel), [], none⟩, w5.heap.size, x6, r6, w3.heap.size, .slice none 0 0, ta, tc, none⟩] (.slice (some ⟨w6.heap.size, 0, none⟩) 1 1) w3 (w6.alloc (.cells #[.pointer (some ⟨x6, 0, none⟩), .string ⟨#[]⟩, .int .i64 0, .slice ta I.length tc, .int .i64 fuel, .bool false, .int .i64 0, .int .i64 0, .int .i64 (-1)] NodeT)) from
    fst_one HRT.out.1 HRT.out.2 hf6 (own_below HTA5.out hB6) (fun b hb => (HTA5.out.lt b hb).2) HL35.out.size (gthen HL35.out hB6))
  clear hn6 hB6 hf6 h06 HTA5 HT5 HB5 HL35 c0 d0 d1 d2 d3
  have c0 := prg_cell HB6.out
  obtain ⟨d0, d1, d2, d3⟩ := ta_cells HT6.out
  have HPQ := Lib.hid (show ∀ y, Below w3.heap.size w3 y → ProgAt y (.slice pa p.length pc) p from fun y hy => (HIN.out.1.below (gthen HL3.out hy)).at HX.out.1)
  go_upto_region 11 with fail
  clear c0 d0 d1 d2 d3 HF6 HB6 HT6 HL5
  generalize w6.alloc (.cells #[.pointer (some ⟨x6, 0, none⟩), .string ⟨#[]⟩, .int .i64 0, .slice ta I.length tc, .int .i64 fuel, .bool false, .int .i64 0, .int .i64 0, .int .i64 (-1)] NodeT) = w7 at *
  generalize w6.heap.size = g7 at *
  have HZ3 := Lib.hid (show w.heap.size ≤ w3.heap.size from HL3.out.size)
  have HPC := Lib.hid (show ∀ (i : Nat) (hi : i < P.length), ∃ b3 off3 c3, Value.slice ca P.length cc = .slice (some ⟨b3, off3, none⟩) P.length c3 ∧ ∀ y, Below w3.heap.size w3 y → y.cell? ⟨b3, off3 + i, none⟩ = some (.int .u16 P[i]) from fun i hi => by
    obtain ⟨b3, off3, c3, he3, hb3, hc3⟩ := HIN.out.2.2.at (by omega)
    refine ⟨b3, off3, c3, he3, fun y hy => ?_⟩
    have h1 := hc3 i hi 0 _ rfl
    rw [Nat.mul_one, Nat.add_zero] at h1
    exact ((gthen HL3.out hy).cell (p := ⟨b3, off3 + i, none⟩) hb3).trans h1)
  go_wp2_with fail
  go_loopg [15, 16, 17] P.length (fun gk t15 t16 t17 wr => ∃ (i : Nat) (v : Value) (L : List Nw), gk + i = P.length ∧ v = t15 ∧ t16 = .bool true ∧ t17 = .int .i64 i ∧ Hid (Fst w3.heap.size p (rootT I fuel) L v w3 wr))
  case atStart => exact ⟨0, _, _, by omega, rfl, rfl, rfl, HST.out⟩
  case round =>
    clear HST
    obtain ⟨i, v, L, hgi, rfl, rfl, rfl, HR⟩ := hrel
    obtain ⟨a15, c15, hs⟩ := own_slice HR.out.fw.own
    subst hs
    obtain ⟨hl0, hl1⟩ := HR.out.len HX.out.2.2
    by_cases hi : i < P.length
    · have hi1 : (i : Int) < P.length := by omega
      have hi0 : (0 : Int) ≤ i := by omega
      obtain ⟨b3, off3, c3, he3, hc3⟩ := HPC.out i hi
      injection he3 with he3 hnn hcc
      subst he3; subst hcc
      clear hnn
      have hxb := HPB.out P[i] (List.getElem_mem hi)
      obtain ⟨x, hx⟩ : ∃ x, P[i] = x := ⟨_, rfl⟩
      rw [hx] at hxb hc3
      have HC := Lib.hid hc3
      have hLn : L ≠ [] := by intro e; rw [e] at hl0; simp at hl0
      obtain ⟨f, hf7, hfb⟩ := and7 x hxb.1 hxb.2
      obtain ⟨e8, he8⟩ : ∃ e8 : Nat, x / 8 = e8 := ⟨(x / 8).toNat, by omega⟩
      have q8 : IntKind.i64.wrap (x / 8) = (e8 : Int) := by rw [IntWalk.i64_in _ (by omega), he8]
      obtain ⟨kk, hkk⟩ : ∃ kk, e8 % L.length = kk := ⟨_, rfl⟩
      have hkl : kk < L.length := by rw [← hkk]; exact Nat.mod_lt _ hl0
      have qm : (e8 : Int).tmod (L.length : Int) = (kk : Int) := by rw [← hkk]; exact (Int.ofNat_tmod e8 L.length).symm
      obtain ⟨nn, hnn⟩ : ∃ nn : Nat, nn = 1 + f := ⟨_, rfl⟩
      have qf : IntKind.i64.wrap (f : Int) = (f : Int) := IntWalk.i64_in _ (by omega)
      have qn : IntKind.i64.wrap (1 + (f : Int)) = (nn : Int) := by rw [hnn, IntWalk.i64_in _ (by omega)]; omega
      have HNN := Lib.hid (show 1 ≤ nn ∧ nn ≤ 64 by omega)
      have HKL := Lib.hid hkl
      have hz : w3.heap.size ≤ wr.heap.size := HR.out.low.size
      have HZR := Lib.hid hz
      clear hc3 hx hxb he8 hkk hkl hnn hf7 hz
      go_upto_region 15 with fail
      refine wp_region_held_drew (S := fun wy => Below w3.heap.size w3 wy) (by kernel_rfl) (HR.out.low.drew) (fun hHeld => ?_)
      refine wpAnyH_take (i := 0) (oi := _) (v := ?_) (by rw [List.getElem?_toArray]; exact rfl) (by kernel_rfl) (by kernel_rfl) (by kernel_rfl) (by exact fun _ _ _ h => h) (Or.inl ⟨by rfl, ?_⟩) hHeld ?_
      rotate_left
      · (intro wX hSw; have z0 := prg_cell (HBP.out _ hSw); have x0 := HC.out _ hSw; clear hSw; go_simp; try with_reducible rfl)
      try simp only [Act.put, List.setIfInBounds_toArray, List.set_cons_zero, List.set_cons_succ]
      refine wpAnyH_take (i := 1) (oi := _) (v := ?_) (by rw [List.getElem?_toArray]; exact rfl) (by kernel_rfl) (by kernel_rfl) (by kernel_rfl) (by exact fun _ _ _ h => h) (Or.inl ⟨by rfl, ?_⟩) hHeld ?_
      rotate_left
      · (intro wX hSw; clear hSw; go_simp; try with_reducible rfl)
      try simp only [Act.put, List.setIfInBounds_toArray, List.set_cons_zero, List.set_cons_succ]
      refine wpAnyH_take (i := 2) (oi := _) (v := ?_) (by rw [List.getElem?_toArray]; exact rfl) (by kernel_rfl) (by kernel_rfl) (by kernel_rfl) (by exact fun _ _ _ h => h) (Or.inl ⟨by rfl, ?_⟩) hHeld ?_
      rotate_left
      · (intro wX hSw; clear hSw; go_simp; try with_reducible rfl)
      try simp only [Act.put, List.setIfInBounds_toArray, List.set_cons_zero, List.set_cons_succ]
      refine wpAnyH_take (i := 3) (oi := _) (v := ?_) (by rw [List.getElem?_toArray]; exact rfl) (by kernel_rfl) (by kernel_rfl) (by kernel_rfl) (by exact fun _ _ _ h => h) (Or.inl ⟨by rfl, ?_⟩) hHeld ?_
      rotate_left
      · (intro wX hSw; clear hSw; go_simp; try with_reducible rfl)
      try simp only [Act.put, List.setIfInBounds_toArray, List.set_cons_zero, List.set_cons_succ]
      refine wpAnyH_take (i := 4) (oi := _) (v := ?_) (by rw [List.getElem?_toArray]; exact rfl) (by kernel_rfl) (by kernel_rfl) (by kernel_rfl) (by exact fun _ _ _ h => h) (Or.inl ⟨by rfl, ?_⟩) hHeld ?_
      rotate_left
      · (intro wX hSw; clear hSw; go_simp; try with_reducible rfl)
      try simp only [Act.put, List.setIfInBounds_toArray, List.set_cons_zero, List.set_cons_succ]
      refine wpAnyH_take (i := 5) (oi := _) (v := ?_) (by rw [List.getElem?_toArray]; exact rfl) (by kernel_rfl) (by kernel_rfl) (by kernel_rfl) (by exact fun _ _ _ h => h) (Or.inl ⟨by rfl, ?_⟩) hHeld ?_
      rotate_left
      · (intro wX hSw; have z0 := prg_cell (HBP.out _ hSw); have x0 := HC.out _ hSw; clear hSw; go_simp; try with_reducible rfl)
      try simp only [Act.put, List.setIfInBounds_toArray, List.set_cons_zero, List.set_cons_succ]
      refine wpAnyH_take (i := 6) (oi := _) (v := ?_) (by rw [List.getElem?_toArray]; exact rfl) (by kernel_rfl) (by kernel_rfl) (by kernel_rfl) (by exact fun _ _ _ h => h) (Or.inl ⟨by rfl, ?_⟩) hHeld ?_
      rotate_left
      · (intro wX hSw; clear hSw; go_simp; try with_reducible rfl)
      try simp only [Act.put, List.setIfInBounds_toArray, List.set_cons_zero, List.set_cons_succ]
      refine wpAnyH_take (i := 7) (oi := _) (v := ?_) (by rw [List.getElem?_toArray]; exact rfl) (by kernel_rfl) (by kernel_rfl) (by kernel_rfl) (by exact fun _ _ _ h => h) (Or.inl ⟨by rfl, ?_⟩) hHeld ?_
      rotate_left
      · (intro wX hSw; clear hSw; go_simp; try with_reducible rfl)
      try simp only [Act.put, List.setIfInBounds_toArray, List.set_cons_zero, List.set_cons_succ]
      refine wpAnyH_take (i := 8) (oi := _) (v := ?_) (by rw [List.getElem?_toArray]; exact rfl) (by kernel_rfl) (by kernel_rfl) (by kernel_rfl) (by exact fun _ _ _ h => h) (Or.inl ⟨by rfl, ?_⟩) hHeld ?_
      rotate_left
      · (intro wX hSw; clear hSw; go_simp; try with_reducible rfl)
      try simp only [Act.put, List.setIfInBounds_toArray, List.set_cons_zero, List.set_cons_succ]
      refine wpAnyH_take (i := 9) (oi := _) (v := ?_) (by rw [List.getElem?_toArray]; exact rfl) (by kernel_rfl) (by kernel_rfl) (by kernel_rfl) (by exact fun _ _ _ h => h) (Or.inl ⟨by rfl, ?_⟩) hHeld ?_
      rotate_left
      · (intro wX hSw; clear hSw; go_simp; try with_reducible rfl)
      try simp only [Act.put, List.setIfInBounds_toArray, List.set_cons_zero, List.set_cons_succ]
      refine wpAnyH_take (i := 10) (oi := _) (v := ?_) (by rw [List.getElem?_toArray]; exact rfl) (by kernel_rfl) (by kernel_rfl) (by kernel_rfl) (by exact fun _ _ _ h => h) (Or.inl ⟨by rfl, ?_⟩) hHeld ?_
      rotate_left
      · (intro wX hSw; clear hSw; go_simp; try with_reducible rfl)
      try simp only [Act.put, List.setIfInBounds_toArray, List.set_cons_zero, List.set_cons_succ]
      refine wpAnyH_take (i := 11) (oi := _) (v := ?_) (by rw [List.getElem?_toArray]; exact rfl) (by kernel_rfl) (by kernel_rfl) (by kernel_rfl) (by exact fun _ _ _ h => h) (Or.inl ⟨by rfl, ?_⟩) hHeld ?_
      rotate_left
      · (intro wX hSw; clear hSw; go_simp; try with_reducible rfl)
      try simp only [Act.put, List.setIfInBounds_toArray, List.set_cons_zero, List.set_cons_succ]
      refine wpAnyH_take (i := 12) (oi := _) (v := ?_) (by rw [List.getElem?_toArray]; exact rfl) (by kernel_rfl) (by kernel_rfl) (by kernel_rfl) (by exact fun _ _ _ h => h) (Or.inl ⟨by rfl, ?_⟩) hHeld ?_
      rotate_left
      · (intro wX hSw; clear hSw; go_simp; try with_reducible rfl)
      try simp only [Act.put, List.setIfInBounds_toArray, List.set_cons_zero, List.set_cons_succ]
      refine wpAnyH_take (i := 13) (oi := _) (v := ?_) (by rw [List.getElem?_toArray]; exact rfl) (by kernel_rfl) (by kernel_rfl) (by kernel_rfl) (by exact fun _ _ _ h => h) (Or.inl ⟨by rfl, ?_⟩) hHeld ?_
      rotate_left
      · (intro wX hSw; clear hSw; go_simp; try with_reducible rfl)
      try simp only [Act.put, List.setIfInBounds_toArray, List.set_cons_zero, List.set_cons_succ]
      refine wpAnyH_take (i := 14) (oi := _) (v := ?_) (by rw [List.getElem?_toArray]; exact rfl) (by kernel_rfl) (by kernel_rfl) (by kernel_rfl) (by exact fun _ _ _ h => h) (Or.inl ⟨by rfl, ?_⟩) hHeld ?_
      rotate_left
      · (intro wX hSw; have z0 := prg_cell (HBP.out _ hSw); have x0 := HC.out _ hSw; clear hSw; go_simp; try with_reducible rfl)
      try simp only [Act.put, List.setIfInBounds_toArray, List.set_cons_zero, List.set_cons_succ]
      refine wpAnyH_take (i := 15) (oi := _) (v := ?_) (by rw [List.getElem?_toArray]; exact rfl) (by kernel_rfl) (by kernel_rfl) (by kernel_rfl) (by exact fun _ _ _ h => h) (Or.inl ⟨by rfl, ?_⟩) hHeld ?_
      rotate_left
      · (intro wX hSw; clear hSw; go_simp; try with_reducible rfl)
      try simp only [Act.put, List.setIfInBounds_toArray, List.set_cons_zero, List.set_cons_succ]
      refine wpAnyH_take (i := 16) (oi := _) (v := ?_) (by rw [List.getElem?_toArray]; exact rfl) (by kernel_rfl) (by kernel_rfl) (by kernel_rfl) (by exact fun _ _ _ h => h) (Or.inl ⟨by rfl, ?_⟩) hHeld ?_
      rotate_left
      · (intro wX hSw; clear hSw; go_simp; try with_reducible rfl)
      try simp only [Act.put, List.setIfInBounds_toArray, List.set_cons_zero, List.set_cons_succ]
      refine wpAnyH_take (i := 17) (oi := _) (v := ?_) (by rw [List.getElem?_toArray]; exact rfl) (by kernel_rfl) (by kernel_rfl) (by kernel_rfl) (by exact fun _ _ _ h => h) (Or.inl ⟨by rfl, ?_⟩) hHeld ?_
      rotate_left
      · (intro wX hSw; clear hSw; go_simp; try with_reducible rfl)
      try simp only [Act.put, List.setIfInBounds_toArray, List.set_cons_zero, List.set_cons_succ]
      refine wpAnyH_ready (rs := [18]) (by kernel_rfl) (by simp) ?_
      refine AllReadyH.cons (o := _) (by rw [List.getElem?_toArray]; exact rfl) (fun K hK => ?_) AllReadyH.nil
      go_simp
      refine (turn_any (t0 := rootT I fuel) (fun y hy => HPQ.out y ((HR.out.below HZR.out (Below.refl _ _).drew).low.trans hy)) (root_parts HRE.out).1 HRT.out.1 (HR.out.below HZR.out (Below.refl _ _).drew).fw HR.out.says HR.out.fo HKL.out HNN.out.1 HNN.out.2 HX.out.2.2 HZR.out).mono ?_; rintro e w8 ⟨L8, av8, rfl, e1, e2, e3, e4⟩; have H8 := Lib.hid ((HR.out.below HZR.out (Below.refl _ _).drew).turn HRT.out.1 HKL.out HNN.out.1 e1 e2 e3 e4); clear e1 e2 e3 e4
      go_wp2_with fail
      refine hK.out _ _ (H8.out.low) (fun hHeld => ?_)
      clear hK K
      try simp only [Act.put, List.setIfInBounds_toArray, List.set_cons_zero, List.set_cons_succ]
      refine wpAnyH_take (i := 19) (oi := _) (v := ?_) (by rw [List.getElem?_toArray]; exact rfl) (by kernel_rfl) (by kernel_rfl) (by kernel_rfl) (by exact fun _ _ _ h => h) (Or.inl ⟨by rfl, ?_⟩) hHeld ?_
      rotate_left
      · (intro wX hSw; clear hSw; go_simp; try with_reducible rfl)
      try simp only [Act.put, List.setIfInBounds_toArray, List.set_cons_zero, List.set_cons_succ]
      refine wpAnyH_take (i := 20) (oi := _) (v := ?_) (by rw [List.getElem?_toArray]; exact rfl) (by kernel_rfl) (by kernel_rfl) (by kernel_rfl) (by exact fun _ _ _ h => h) (Or.inl ⟨by rfl, ?_⟩) hHeld ?_
      rotate_left
      · (intro wX hSw; clear hSw; go_simp; try with_reducible rfl)
      try simp only [Act.put, List.setIfInBounds_toArray, List.set_cons_zero, List.set_cons_succ]
      refine wpAnyH_take (i := 21) (oi := _) (v := ?_) (by rw [List.getElem?_toArray]; exact rfl) (by kernel_rfl) (by kernel_rfl) (by kernel_rfl) (by exact fun _ _ _ h => h) (Or.inl ⟨by rfl, ?_⟩) hHeld ?_
      rotate_left
      · (intro wX hSw; clear hSw; go_simp; try with_reducible rfl)
      try simp only [Act.put, List.setIfInBounds_toArray, List.set_cons_zero, List.set_cons_succ]
      refine wpAnyH_take (i := 22) (oi := _) (v := ?_) (by rw [List.getElem?_toArray]; exact rfl) (by kernel_rfl) (by kernel_rfl) (by kernel_rfl) (by exact fun _ _ _ h => h) (Or.inl ⟨by rfl, ?_⟩) hHeld ?_
      rotate_left
      · (intro wX hSw; clear hSw; go_simp; try with_reducible rfl)
      try simp only [Act.put, List.setIfInBounds_toArray, List.set_cons_zero, List.set_cons_succ]
      refine wpAnyH_take (i := 23) (oi := _) (v := ?_) (by rw [List.getElem?_toArray]; exact rfl) (by kernel_rfl) (by kernel_rfl) (by kernel_rfl) (by exact fun _ _ _ h => h) (Or.inl ⟨by rfl, ?_⟩) hHeld ?_
      rotate_left
      · (intro wX hSw; clear hSw; go_simp; try with_reducible rfl)
      try simp only [Act.put, List.setIfInBounds_toArray, List.set_cons_zero, List.set_cons_succ]
      refine wpAnyH_done (by kernel_rfl) ?_ _
      go_wp2_with fail
      go_roundg (gk - 1)
      case rel => exact ⟨i + 1, _, L8, by omega, rfl, rfl, by go_num, H8.out⟩
      case measure => omega
    have hi1 : ¬ (i : Int) < P.length := by omega
    have hfu0 : 0 ≤ fuel := HRT.out.2.u0
    obtain ⟨N, hN⟩ : ∃ N : Nat, 2 * (fuel + 2) = N := ⟨(2 * (fuel + 2)).toNat, by omega⟩
    have qa : IntKind.i64.wrap (fuel + 2) = fuel + 2 := IntWalk.i64_in _ (by omega)
    have qb : IntKind.i64.wrap (2 * (fuel + 2)) = (N : Int) := by rw [IntWalk.i64_in _ (by omega), hN]
    have HN := Lib.hid hN
    have H0 := Lib.hid HR.out
    clear hN HR hi hl0 hl1
    obtain ⟨wz, rfl⟩ : ∃ wx, wx = wr := ⟨_, rfl⟩
    go_wp2_with fail
    go_loopg [15, 16, 18] N (fun gk t15 t16 t18 wr => ∃ (r : Nat) (v : Value) (L : List Nw), gk + r = N ∧ v = t15 ∧ t16 = .bool true ∧ t18 = .int .i64 r ∧ Hid (Fst w3.heap.size p (rootT I fuel) L v w3 wr ∧ phi (ndsN L) + r ≤ 2 * fuel + 1))
    case atStart => exact ⟨0, _, _, by omega, rfl, rfl, rfl, H0.out, by have := H0.out.ph; simp only [rootT] at this; omega⟩
    case round =>
      clear H0
      obtain ⟨r, v, L, hgr, rfl, rfl, rfl, HR⟩ := hrel
      obtain ⟨a15, c15, hs⟩ := own_slice HR.out.1.fw.own
      subst hs
      have hrN : (r : Int) < N := by
        have h1 := phi_nonneg HR.out.1.fo
        have h2 := HR.out.2
        have h3 := HN.out
        omega
      have hr9 : (r : Int) ≤ 1000 := by
        have h3 := HN.out
        have h4 := HX.out.2.2
        omega
      have HL0 := Lib.hid (HR.out.1.len HX.out.2.2)
      have HR0 := Lib.hid (And.intro HR.out.2 HR.out.1.ph)
      have HSW := Lib.hid (show Fst w3.heap.size p (rootT I fuel) L (.slice a15 L.length c15) w3 wr ∧ Sw p (rootT I fuel) (ndsN L) 0 true (ndsN L) from ⟨HR.out.1, Sw.start HR.out.1.fo⟩)
      clear HR
      obtain ⟨go0, rfl⟩ : ∃ t, t = gk := ⟨_, rfl⟩
      obtain ⟨wz2, rfl⟩ : ∃ wx, wx = wr := ⟨_, rfl⟩
      obtain ⟨L0, hL0⟩ : ∃ L0, L0 = L := ⟨_, rfl⟩
      have HLL := Lib.hid hL0
      clear hL0
      go_wp2_with fail
      go_loopg [15, 16, 19, 20] 402 (fun gj t15 t16 t19 t20 wr => ∃ (k : Nat) (b : Bool) (v : Value) (L : List Nw), gj + k = 402 ∧ v = t15 ∧ t16 = .bool true ∧ t19 = .bool b ∧ t20 = .int .i64 k ∧ Hid (Fst w3.heap.size p (rootT I fuel) L v w3 wr ∧ Sw p (rootT I fuel) (ndsN L0) k b (ndsN L)))
      case atStart => exact ⟨0, true, _, L, by omega, rfl, rfl, rfl, rfl, by rw [HLL.out]; exact HSW.out⟩
      case round =>
        clear HSW
        obtain ⟨k, b, v, L1, hgk, rfl, rfl, rfl, rfl, HR⟩ := hrel
        obtain ⟨g, cap, cur, hv, _, _, _, _, _, _, _⟩ := own_blockK HR.out.1.fw.own (by have := (HR.out.1.len HX.out.2.2).1; omega)
        subst hv
        obtain ⟨hl0, hl1⟩ := HR.out.1.len HX.out.2.2
        by_cases hk : k < L1.length
        case neg =>
          have hk1 : ¬ (k : Int) < L1.length := by omega
          have HKN := Lib.hid (show (ndsN L1).length ≤ k from by rw [nds_len]; omega)
          cases b with
          | false =>
            have HNX := Lib.hid (show Fst w3.heap.size p (rootT I fuel) L1 (.slice (some ⟨g, 0, none⟩) L1.length cap) w3 wr ∧ phi (ndsN L1) + (r + 1 : Nat) ≤ 2 * fuel + 1 from ⟨HR.out.1, by
              have h1 := HR.out.2.less HKN.out
              have h2 := HR0.out.1
              rw [← HLL.out] at h2
              omega⟩)
            clear HR hk
            go_wp2_with fail
            go_roundg (go0 - 1)
            case rel => exact ⟨r + 1, _, L1, by omega, rfl, rfl, by go_num, HNX.out⟩
            case measure => omega
          | true =>
            have HOV := Lib.hid (HR.out.2.done HKN.out)
            have HF := Lib.hid HR.out.1
            clear HR hk
            go_wp2_with fail
            refine (vtree_any HF.out.fw HF.out.says HOV.out hl0 hl1).mono ?_
            rintro e w9 ⟨v9, rfl, hT9, hB9⟩
            rw [tree_sorted (fo_sum HF.out.fo HRT.out.1 HOV.out) (dW_ord HRT.out.1 HRT.out.2)] at hT9
            have HT9 := Lib.hid hT9
            have HB39 := Lib.hid (show Below w3.heap.size w3 w9 from gthen HF.out.low hB9)
            have HTW := Lib.hid (show TreeR w9 tv (dW p (rootT I fuel)).2 from by
              have h1 := HTR.out
              rw [treeL_small HX.out.2.2 HRE.out] at h1
              exact h1.reads.below HB39.out)
            clear hT9 hB9
            go_wp2_with fail
            refine (trees_same _ _ _ _ HT9.out HTW.out (dW_args HRT.out.1 HRT.out.2 HX.out.2.2).1 (dW_args HRT.out.1 HRT.out.2 HX.out.2.2).2).mono ?_
            rintro e w10 ⟨rfl, hB10⟩
            have HB10 := Lib.hid (gthen HB39.out hB10)
            clear hB10
            go_wp2_with fail
            refine (valive_any _).mono ?_
            rintro e w11 ⟨rfl, hB11⟩
            have HB11 := Lib.hid (gthen HL3.out (gthen HB10.out hB11))
            clear hB11
            go_wp2_with fail
            go_ret
            exact ⟨rfl, HB11.out⟩
        have hk1 : (k : Int) < L1.length := by omega
        have hk0 : (0 : Int) ≤ k := by omega
        obtain ⟨m, hm⟩ : ∃ m, L1[k]? = some m := ⟨L1[k], List.getElem?_eq_getElem hk⟩
        obtain ⟨_, _, _, _, _, z5, _, _, _⟩ := row_cells HR.out.1.fw.own rfl hm
        have hdm := HR.out.1.says k m hm
        rw [hdm] at z5
        have HM := Lib.hid hm
        have HKL := Lib.hid hk
        obtain ⟨B5, hB5⟩ : ∃ B5, m.nd.s.result.isSome = B5 := ⟨_, rfl⟩
        rw [hB5] at z5
        have HB5 := Lib.hid hB5
        have c0 := prg_cell (HBP.out _ HR.out.1.low)
        have hz : w3.heap.size ≤ wr.heap.size := HR.out.1.low.size
        have HZR := Lib.hid hz
        have HTN := Lib.hid (turn_any (n := 64) (t0 := rootT I fuel) (fun y hy => HPQ.out y (HR.out.1.low.trans hy)) (root_parts HRE.out).1 HRT.out.1 HR.out.1.fw HR.out.1.says HR.out.1.fo hk (by decide) (by decide) HX.out.2.2 hz)
        clear hm hk hdm hB5 hz
        cases b with
        | true =>
          go_wp2_with fail
          refine HTN.out.mono ?_
          rintro e w8 ⟨L8, av8, rfl, e1, e2, e3, e4⟩
          have H8 := Lib.hid (show Fst w3.heap.size p (rootT I fuel) L8 av8 w3 w8 ∧ Sw p (rootT I fuel) (ndsN L0) (k + 1) B5 (ndsN L8) from ⟨HR.out.1.turn HRT.out.1 HKL.out (by decide) e1 e2 e3 e4, by
            have h1 := HR.out.2.next (n := 64) HRT.out.1 (nds_at HM.out) (by decide)
            rw [← e1, HB5.out] at h1
            exact h1⟩)
          clear e1 e2 e3 e4 HTN HR z5 c0
          go_wp2_with fail
          go_roundg (gk - 1)
          case rel => exact ⟨k + 1, B5, _, L8, by omega, rfl, rfl, rfl, by go_num, H8.out⟩
          case measure => omega
        | false =>
          go_wp2_with fail
          refine HTN.out.mono ?_
          rintro e w8 ⟨L8, av8, rfl, e1, e2, e3, e4⟩
          have H8 := Lib.hid (show Fst w3.heap.size p (rootT I fuel) L8 av8 w3 w8 ∧ Sw p (rootT I fuel) (ndsN L0) (k + 1) false (ndsN L8) from ⟨HR.out.1.turn HRT.out.1 HKL.out (by decide) e1 e2 e3 e4, by
            have h1 := HR.out.2.next (n := 64) HRT.out.1 (nds_at HM.out) (by decide)
            rw [← e1] at h1
            exact h1⟩)
          clear e1 e2 e3 e4 HTN HR z5 c0
          go_wp2_with fail
          go_roundg (gk - 1)
          case rel => exact ⟨k + 1, false, _, L8, by omega, rfl, rfl, rfl, by go_num, H8.out⟩
          case measure => omega
end Go.Proofs.YtdhbjejejeljoaaGreat
