/- The document's tree: Add. -/
import Derived.Test.YtpdnebimkfejoaaDt5
import Derived.Test.YtpdnebimkfejoaaCut
import Derived.Test.YtpdnebimkfejoaaCmpR25
import Derived.Deep.DeepCutAuto
namespace Go.Proofs.Ytpdnebimkfejoaa
open Go.RowKit Go.Sort Go.Lib

theorem runR_first {a : Option Addr} {N n cap : Nat} (hn : n ≤ cap) (W : World) : (Instr.slice 39 (.slice a N cap) none (some (.int .i64 (n : Int))) none).run Try.prog W = .ok (.slice a n cap) W := by
  rw [run_slice_h (P := Try.prog) (w := W) (t := 39) (a := a) (len := N) (cap := cap) (by kernel_rfl) .i64 n (by omega) (by omega)]
  have hs : (sizeOf (Try.prog.elem 39)).run Try.prog W = .ok 9 W := by kernel_rfl
  rw [hs]
  cases a <;> simp [Result.andThen, sliced, Addr.add]
theorem runR_last {a : Option Addr} {n cap : Nat} {w : World} {l : Al} (h : ReadsK encT 9 w (.slice a l.length cap) l) (hn : n ≤ l.length) (hc0 : l.length ≤ cap) : ∃ v, (∀ W, (Instr.slice 39 (.slice a l.length cap) (some (.int .i64 (n : Int))) none none).run Try.prog W = .ok v W) ∧ ReadsK encT 9 w v (l.drop n) := by
  have hr : ∀ W, (Instr.slice 39 (.slice a l.length cap) (some (.int .i64 (n : Int))) none none).run Try.prog W = .ok (.slice (if cap = n then a else a.map (·.add (n * 9))) (l.length - n) (cap - n)) W := fun W => by
    rw [run_slice_l (P := Try.prog) (w := W) (t := 39) (a := a) (len := l.length) (cap := cap) (by kernel_rfl) .i64 n (by omega) (by omega)]
    have hs : (sizeOf (Try.prog.elem 39)).run Try.prog W = .ok 9 W := by kernel_rfl
    rw [hs]
    simp [Result.andThen, sliced]
  refine ⟨_, hr, ?_⟩
  by_cases he : l.length ≤ n
  · exact .inl ⟨List.drop_eq_nil_of_le he, _, _, by rw [Nat.sub_eq_zero_of_le he]⟩
  · by_cases hc : cap = n
    · omega
    · rw [if_neg hc]
      cases a with
      | none =>
        rcases h with ⟨h1, _⟩ | ⟨b, off, cap', hv, _⟩
        · rw [h1] at he; simp at he
        · cases hv
      | some p =>
        have h' := h
        rcases h with ⟨h1, _⟩ | ⟨b, off, cap', hv, _⟩
        · rw [h1] at he; simp at he
        · injection hv with e1 _ _
          injection e1 with e1
          subst e1
          have := readsK_drop h' n (by omega) (cap - n)
          by_cases hn0 : n = 0
          · subst hn0; simpa [Addr.add] using this
          · have h2 : ¬ n * 9 = 0 := by omega
            simpa [Addr.add, h2] using this
theorem own_capD {Z k n c : Nat} {E : TypeId} {a : Option Addr} {xs : List Value} {w : World} (h : w.ownsRow Z E k (.slice a n c) n xs) : n ≤ c := by
  obtain ⟨_, ⟨hv, h0⟩ | ⟨g, c', cur, hv, _, _, h3, _⟩⟩ := h
  · omega
  · injection hv with _ _ e
    rw [e]; exact h3
/-- The struct gets another list, with one that is new. -/
theorem Dt.put2 {Z r : Nat} {lv lv' : Value} {l l' : Al} {w w2 : World} (h : Dt Z r lv l w) (hB : Below w.heap.size w w2) (ho : w2.ownsRow w.heap.size RootT 9 lv' l'.length (l'.flatMap encT)) (hs : ∀ p ∈ l', ArgsZ Z w p.2) :
    Dt Z r lv' l' (w2.setCell ⟨r, 0, none⟩ lv') ∧ DL r lv w lv' (w2.setCell ⟨r, 0, none⟩ lv') := by
  have hb2 := h.box.below hB
  have hF2 : Fr (fun i => i = r) w2 (w2.setCell ⟨r, 0, none⟩ lv') := (Fr.refl (fun i => i = r) w2).setCell (p := ⟨r, 0, none⟩) rfl _
  have hz : Z ≤ w.heap.size := by
    have h1 : r < w.heap.size := (Array.getElem?_eq_some_iff.1 h.box).1
    have h2 := h.zr
    omega
  have hBZ : Below Z w (w2.setCell ⟨r, 0, none⟩ lv') := (hB.mono hz).trans (hF2.below (fun i e => by subst e; exact h.zr) (Nat.le_trans hz hB.size))
  exact ⟨⟨Go.heap_setCell_same w2 r 0 _ _ _ hb2, own_typed (owns_monoG ho hz) hF2 (typed_box hb2) (by decide), h.zr, fun p hp => (hs p hp).keep hBZ⟩, ⟨(Fr.of_below hB).trans (hF2.mono fun i hi => .inl hi), .inr fun g hg => (ho.lt g hg).1⟩⟩
/-- Where a name goes. -/
def InsN (l : Al) (n : Nm) (k : Nat) : Prop := k ≤ l.length ∧ (∀ j (hj : j < l.length), j < k → cmpN l[j].1 n < 0) ∧ (k = l.length ∨ ∃ hk : k < l.length, ¬ cmpN l[k].1 n < 0)
def AddDP (Z r : Nat) (lv : Value) (l : Al) (n : Nm) (c : Rw) (w : World) (e : Ending) (w' : World) : Prop := e = .returned (.int .i64 (addEA l n)) ∧
  ((addEA l n ≠ 0 ∧ Dt Z r lv l w' ∧ DL r lv w lv w') ∨ (addEA l n = 0 ∧ ∃ lv' k, InsN l n k ∧ Dt Z r lv' (l.take k ++ [(n, c)] ++ l.drop k) w' ∧ DL r lv w lv' w'))
theorem AddDP.bad {Z r : Nat} {lv : Value} {l : Al} {n : Nm} {c : Rw} {q : Int} {w w' : World} (h : Dt Z r lv l w) (hB : Below w.heap.size w w') (hc : addEA l n = q) (h0 : q ≠ 0) : AddDP Z r lv l n c w (.returned (.int .i64 q)) w' := ⟨by rw [hc], .inl ⟨by rw [hc]; exact h0, h.below hB, DL.below hB⟩⟩
def AddC (l : Al) (n : Nm) (c : Bool) : Prop := (c = true → addEA l n = 5) ∧ (c = false → addEA l n = if 1024 ≤ l.length then 6 else 0)
set_option maxHeartbeats 16000000 in
set_option maxRecDepth 100000 in
theorem dadd_any {Z r : Nat} {lv : Value} {l : Al} {w : World} (job : Int) (p : ByteArray) (fn fuel : Int) (aa : Option Addr) (ac : Nat) (args : List Int) (h : Dt Z r lv l w) (hm : l.length ≤ 1024) (hps : p.size ≤ 9223372036854775807) (hml : ∀ q ∈ l, mayS q.1.2 = true) (ha : ArgsZ Z w ⟨fn, aa, ac, args, fuel, 1, 0, 0⟩) :
    Calls Try.prog 24 #[RP r, .int .u64 job, .agg #[.string p, .int .i64 fn, .slice aa args.length ac, .int .i64 fuel]] w (AddDP Z r lv l (job, p) ⟨fn, aa, ac, args, fuel, 1, 0, 0⟩ w) := by
  have HT := Lib.hid h
  have HML := Lib.hid hml
  have HPS := Lib.hid hps
  have HAZ := Lib.hid ha
  have hA1 := alD w (.cells #[.string p, .int .i64 fn, .slice aa args.length ac, .int .i64 fuel] 32)
  have hA2 := alD (w.alloc (.cells #[.string p, .int .i64 fn, .slice aa args.length ac, .int .i64 fuel] 32)) (cellsM (job, p))
  have HA := Lib.hid (gthenD hA1 hA2)
  have H0 := Lib.hid ((h.below hA1).below hA2)
  clear h hml ha
  go_enter Try.func24, Try.ntmps24
  go_upto_region 2 with fail
  have hbt0 : (w.alloc (.cells #[.string p, .int .i64 fn, .slice aa args.length ac, .int .i64 fuel] 32)).heap[w.heap.size]? = some (.cells #[.string p, .int .i64 fn, .slice aa args.length ac, .int .i64 fuel] 32 (0, 0)) := heap_alloc_new _ _
  have hbt := (hA2.block _ (by simp)).trans hbt0
  have hbn : ((w.alloc (.cells #[.string p, .int .i64 fn, .slice aa args.length ac, .int .i64 fuel] 32)).alloc (cellsM (job, p))).heap[w.heap.size + 1]? = some (.cells #[.int .u64 job, .string p] NmT (0, 0)) := by
    have := heap_alloc_new (w.alloc (.cells #[.string p, .int .i64 fn, .slice aa args.length ac, .int .i64 fuel] 32)) (cellsM (job, p))
    rwa [show (w.alloc (.cells #[.string p, .int .i64 fn, .slice aa args.length ac, .int .i64 fuel] 32)).heap.size = w.heap.size + 1 by simp] at this
  simp only [cellsM] at hbt hbn HA H0
  clear hA1 hA2 hbt0
  generalize (w.alloc (.cells #[.string p, .int .i64 fn, .slice aa args.length ac, .int .i64 fuel] 32)).alloc (.cells #[.int .u64 job, .string p] NmT) = wa at *
  obtain ⟨nb, hnb⟩ : ∃ nb, w.heap.size + 1 = nb := ⟨_, rfl⟩
  obtain ⟨tb, htb⟩ : ∃ tb, w.heap.size = tb := ⟨_, rfl⟩
  try rw [hnb] at hbn ⊢
  try rw [htb] at hbt ⊢
  have HBX := Lib.hid (And.intro hbt hbn)
  have t0 : wa.cell? ⟨tb, 0, none⟩ = some (.string p) := by simp [World.cell?, hbt]
  clear hnb htb
  go_wp2_with fail
  refine (rmay_any p _ HPS.out).mono ?_
  rintro e w2 ⟨rfl, hw2⟩
  subst hw2
  cases hmy : mayS p
  · have HE := Lib.hid (show addEA l (job, p) = 2 from by unfold addEA; rw [if_pos hmy])
    clear hmy
    go_wp2_with fail
    go_ret
    exact AddDP.bad HT.out HA.out HE.out (by decide)
  have HMY := Lib.hid hmy
  clear hmy
  have m0 : wa.cell? ⟨nb, 0, none⟩ = some (.int .u64 job) := by simp [World.cell?, hbn]
  have m1 : wa.cell? ⟨nb, 1, none⟩ = some (.string p) := by simp [World.cell?, hbn]
  clear hbt hbn
  go_wp2_with fail
  refine (dfind_any (job, p) H0.out (by omega)).mono ?_
  rintro e w3 ⟨⟨i, rfl, hF⟩, hB⟩
  have HB3 := Lib.hid hB
  replace t0 := (hB.cell (p := ⟨tb, 0, none⟩) (World.block_lt_of_cell? _ _ t0)).trans t0
  replace m0 := (hB.cell (p := ⟨nb, 0, none⟩) (World.block_lt_of_cell? _ _ m0)).trans m0
  replace m1 := (hB.cell (p := ⟨nb, 1, none⟩) (World.block_lt_of_cell? _ _ m1)).trans m1
  clear hB
  rcases hF with ⟨rfl, hno⟩ | ⟨j, hj, rfl, hjn⟩
  · have hg := get_no hno
    clear hno
    have HE1 := Lib.hid (show addEA l (job, p) = if p.toList ≠ [] ∧ upN (hasA l) (job, p) = none then 5 else if 1024 ≤ l.length then 6 else 0 from by
      unfold addEA; rw [if_neg (by rw [HMY.out]; decide), hg, if_neg (by simp)])
    clear hg
    have HB3b := Lib.hid (show Below wa.heap.size wa w3 from HB3.out)
    go_upto_region 6 with fail
    go_cut [30] (fun t30 wc => ∃ c : Bool, t30 = .bool c ∧ Hid (Below wa.heap.size wa wc) ∧ Hid (AddC l (job, p) c))
    case first =>
      by_cases hpe : p.toList = []
      · have hpb : (p.toList == ([] : List UInt8)) = true := by rw [hpe]; rfl
        have hpb2 : (p.toList != ([] : List UInt8)) = false := by rw [hpe]; rfl
        have HC := Lib.hid (show AddC l (job, p) false from ⟨(fun h => by cases h), fun _ => by rw [HE1.out, if_neg (fun h => h.1 hpe)]⟩)
        go_wp2_with fail
        go_meet
        exact ⟨false, by first | rfl | simp, HB3.out, HC.out⟩
      · have hpb : (p.toList == ([] : List UInt8)) = false := by rw [beq_eq_false_iff_ne]; exact hpe
        have hpb2 : (p.toList != ([] : List UInt8)) = true := by simpa using hpe
        have HPE := Lib.hid hpe
        clear hpe
        go_wp2_with fail
        refine (dabove_any (job, p) (H0.out.below HB3.out) (by omega) HPS.out HML.out).mono ?_
        rintro e w4 ⟨⟨b, rfl, hb⟩, hB⟩
        have HB4 := Lib.hid (HB3.out.trans (hB.mono HB3.out.size))
        clear hB
        rcases hb with ⟨rfl, hup⟩ | ⟨j, hj, rfl, hup⟩
        · have HC := Lib.hid (show AddC l (job, p) true from ⟨(fun _ => by rw [HE1.out, if_pos ⟨HPE.out, hup⟩]), fun h => by cases h⟩)
          clear hup
          go_wp2_with fail
          go_meet
          exact ⟨true, by first | rfl | simp, HB4.out, HC.out⟩
        · have HC := Lib.hid (show AddC l (job, p) false from ⟨(fun h => by cases h), fun _ => by rw [HE1.out, if_neg (fun h => by rw [hup] at h; cases h.2)]⟩)
          have hj0 : ¬ (j : Int) < 0 := by omega
          clear hup
          go_wp2_with fail
          go_meet
          exact ⟨false, by first | rfl | simp, HB4.out, HC.out⟩
    case rest =>
      clear t0 m0 m1 HB3 HB3b
      obtain ⟨c, rfl, HB4, HC⟩ := hcut
      cases c
      · have HE2 := Lib.hid (HC.out.2 rfl)
        clear HC
        have y0 := (H0.out.below HB4.out).cell
        obtain ⟨la, lc, hlv⟩ := own_slice H0.out.own
        have HLV := Lib.hid hlv
        obtain ⟨N, hN⟩ : ∃ N, l.length = N := ⟨_, rfl⟩
        rw [hlv, hN] at y0
        have HN := Lib.hid hN
        clear hlv
        by_cases hfull : 1024 ≤ N
        · have HE3 := Lib.hid (show addEA l (job, p) = 6 from by rw [HE2.out, if_pos (by omega)])
          have hf1 : (1024 : Int) ≤ N := by omega
          clear hN hfull
          go_wp2_with fail
          go_ret
          exact AddDP.bad HT.out (gthenD HA.out HB4.out) HE3.out (by decide)
        · have HE3 := Lib.hid (show addEA l (job, p) = 0 from by rw [HE2.out, if_neg (by omega)])
          have hf1 : ¬ (1024 : Int) ≤ N := by omega
          have hN1 : N < 1024 := by omega
          clear hfull
          go_wp2_with fail
          go_loopg [8] N (fun gk t8 wr => ∃ k : Nat, gk + k = N ∧ t8 = .int .i64 k ∧ Hid (Below wa.heap.size wa wr) ∧ Hid (∀ j (hj : j < l.length), j < k → cmpN l[j].1 (job, p) < 0))
          case atStart => exact ⟨0, by omega, rfl, HB4.out, fun j _ hj => absurd hj (by omega)⟩
          case round =>
            clear y0
            obtain ⟨k, hkk, rfl, HB, HL⟩ := hrel
            have y0 := (H0.out.below HB.out).cell
            rw [HLV.out, hN] at y0
            have hBb := HBX.out
            have m0 : wr.cell? ⟨nb, 0, none⟩ = some (.int .u64 job) := (HB.out.cell (p := ⟨nb, 0, none⟩) (Array.getElem?_eq_some_iff.1 hBb.2).1).trans (by simp [World.cell?, hBb.2])
            have m1 : wr.cell? ⟨nb, 1, none⟩ = some (.string p) := (HB.out.cell (p := ⟨nb, 1, none⟩) (Array.getElem?_eq_some_iff.1 hBb.2).1).trans (by simp [World.cell?, hBb.2])
            clear hBb
            by_cases hlt : k < N
            · have hkl : k < l.length := by omega
              obtain ⟨g, cap, e, hc⟩ := (H0.out.below HB.out).at hkl
              rw [HLV.out] at e
              injection e with e1 _ e3
              subst e1
              have hxm := HML.out _ (List.getElem_mem hkl)
              obtain ⟨x, hx⟩ : ∃ x, l[k] = x := ⟨_, rfl⟩
              rw [hx] at hc hxm
              have HXS := Lib.hid (may_size hxm)
              have c0 : wr.cell? ⟨g, k * 9, none⟩ = some (.int .u64 x.1.1) := hc 0 _ rfl
              have c1 : wr.cell? ⟨g, k * 9 + 1, none⟩ = some (.string x.1.2) := hc 1 _ rfl
              have hkn : (k : Int) < N := by omega
              clear hc e3 hxm hN
              by_cases hcm : cmpN x.1 (job, p) < 0
              · have HL2 := Lib.hid (show ∀ j (hj : j < l.length), j < k + 1 → cmpN l[j].1 (job, p) < 0 from fun j hj hjk => by
                  by_cases e : j = k
                  · subst e; rw [hx]; exact hcm
                  · exact HL.out j hj (by omega))
                clear hx
                go_upto_region 11 with fail
                refine wp_region_held_drew (S := fun y => Below wr.heap.size wr y) (by kernel_rfl) ((Below.refl _ _).drew) (fun hHeld => ?_)
                refine wpAnyH_take (i := 0) (oi := _) (v := ?_) (by rw [List.getElem?_toArray]; exact rfl) (by kernel_rfl) (by kernel_rfl) (by kernel_rfl) (by exact fun _ _ _ h => h) (Or.inl ⟨by rfl, ?_⟩) hHeld ?_
                rotate_left
                · (intro wX hSw; clear hSw; go_simp; try with_reducible rfl)
                try simp only [Act.put, List.setIfInBounds_toArray, List.set_cons_zero, List.set_cons_succ]
                refine wpAnyH_take (i := 1) (oi := _) (v := ?_) (by rw [List.getElem?_toArray]; exact rfl) (by kernel_rfl) (by kernel_rfl) (by kernel_rfl) (by exact fun _ _ _ h => h) (Or.inl ⟨by rfl, ?_⟩) hHeld ?_
                rotate_left
                · (intro wX hSw; clear hSw; go_simp; try with_reducible rfl)
                try simp only [Act.put, List.setIfInBounds_toArray, List.set_cons_zero, List.set_cons_succ]
                refine wpAnyH_take (i := 2) (oi := _) (v := ?_) (by rw [List.getElem?_toArray]; exact rfl) (by kernel_rfl) (by kernel_rfl) (by kernel_rfl) (by exact fun _ _ _ h => h) (Or.inl ⟨by rfl, ?_⟩) hHeld ?_
                rotate_left
                · (intro wX hSw; clear hSw; go_simp; try with_reducible rfl)
                try simp only [Act.put, List.setIfInBounds_toArray, List.set_cons_zero, List.set_cons_succ]
                refine wpAnyH_take (i := 3) (oi := _) (v := ?_) (by rw [List.getElem?_toArray]; exact rfl) (by kernel_rfl) (by kernel_rfl) (by kernel_rfl) (by exact fun _ _ _ h => h) (Or.inl ⟨by rfl, ?_⟩) hHeld ?_
                rotate_left
                · (intro wX hSw; clear hSw; go_simp; try with_reducible rfl)
                try simp only [Act.put, List.setIfInBounds_toArray, List.set_cons_zero, List.set_cons_succ]
                refine wpAnyH_take (i := 4) (oi := _) (v := ?_) (by rw [List.getElem?_toArray]; exact rfl) (by kernel_rfl) (by kernel_rfl) (by kernel_rfl) (by exact fun _ _ _ h => h) (Or.inl ⟨by rfl, ?_⟩) hHeld ?_
                rotate_left
                · (intro wX hSw; have z0 := (hSw.cell (p := ⟨r, 0, none⟩) (World.block_lt_of_cell? _ _ y0)).trans y0; have z1 := (hSw.cell (p := ⟨nb, 0, none⟩) (World.block_lt_of_cell? _ _ m0)).trans m0; have z2 := (hSw.cell (p := ⟨nb, 1, none⟩) (World.block_lt_of_cell? _ _ m1)).trans m1; have z3 := (hSw.cell (p := ⟨g, k * 9, none⟩) (World.block_lt_of_cell? _ _ c0)).trans c0; have z4 := (hSw.cell (p := ⟨g, k * 9 + 1, none⟩) (World.block_lt_of_cell? _ _ c1)).trans c1; clear hSw; go_simp; try with_reducible rfl)
                try simp only [Act.put, List.setIfInBounds_toArray, List.set_cons_zero, List.set_cons_succ]
                refine wpAnyH_take (i := 5) (oi := _) (v := ?_) (by rw [List.getElem?_toArray]; exact rfl) (by kernel_rfl) (by kernel_rfl) (by kernel_rfl) (by exact fun _ _ _ h => h) (Or.inl ⟨by rfl, ?_⟩) hHeld ?_
                rotate_left
                · (intro wX hSw; clear hSw; go_simp; try with_reducible rfl)
                try simp only [Act.put, List.setIfInBounds_toArray, List.set_cons_zero, List.set_cons_succ]
                refine wpAnyH_take (i := 6) (oi := _) (v := ?_) (by rw [List.getElem?_toArray]; exact rfl) (by kernel_rfl) (by kernel_rfl) (by kernel_rfl) (by exact fun _ _ _ h => h) (Or.inl ⟨by rfl, ?_⟩) hHeld ?_
                rotate_left
                · (intro wX hSw; clear hSw; go_simp; try with_reducible rfl)
                try simp only [Act.put, List.setIfInBounds_toArray, List.set_cons_zero, List.set_cons_succ]
                refine wpAnyH_take (i := 7) (oi := _) (v := ?_) (by rw [List.getElem?_toArray]; exact rfl) (by kernel_rfl) (by kernel_rfl) (by kernel_rfl) (by exact fun _ _ _ h => h) (Or.inl ⟨by rfl, ?_⟩) hHeld ?_
                rotate_left
                · (intro wX hSw; clear hSw; go_simp; try with_reducible rfl)
                try simp only [Act.put, List.setIfInBounds_toArray, List.set_cons_zero, List.set_cons_succ]
                refine wpAnyH_take (i := 8) (oi := _) (v := ?_) (by rw [List.getElem?_toArray]; exact rfl) (by kernel_rfl) (by kernel_rfl) (by kernel_rfl) (by exact fun _ _ _ h => h) (Or.inl ⟨by rfl, ?_⟩) hHeld ?_
                rotate_left
                · (intro wX hSw; clear hSw; go_simp; try with_reducible rfl)
                try simp only [Act.put, List.setIfInBounds_toArray, List.set_cons_zero, List.set_cons_succ]
                refine wpAnyH_take (i := 9) (oi := _) (v := ?_) (by rw [List.getElem?_toArray]; exact rfl) (by kernel_rfl) (by kernel_rfl) (by kernel_rfl) (by exact fun _ _ _ h => h) (Or.inl ⟨by rfl, ?_⟩) hHeld ?_
                rotate_left
                · (intro wX hSw; clear hSw; go_simp; try with_reducible rfl)
                try simp only [Act.put, List.setIfInBounds_toArray, List.set_cons_zero, List.set_cons_succ]
                refine wpAnyH_take (i := 10) (oi := _) (v := ?_) (by rw [List.getElem?_toArray]; exact rfl) (by kernel_rfl) (by kernel_rfl) (by kernel_rfl) (by exact fun _ _ _ h => h) (Or.inl ⟨by rfl, ?_⟩) hHeld ?_
                rotate_left
                · (intro wX hSw; clear hSw; go_simp; try with_reducible rfl)
                try simp only [Act.put, List.setIfInBounds_toArray, List.set_cons_zero, List.set_cons_succ]
                refine wpAnyH_take (i := 11) (oi := _) (v := ?_) (by rw [List.getElem?_toArray]; exact rfl) (by kernel_rfl) (by kernel_rfl) (by kernel_rfl) (by exact fun _ _ _ h => h) (Or.inl ⟨by rfl, ?_⟩) hHeld ?_
                rotate_left
                · (intro wX hSw; have z0 := (hSw.cell (p := ⟨r, 0, none⟩) (World.block_lt_of_cell? _ _ y0)).trans y0; have z1 := (hSw.cell (p := ⟨nb, 0, none⟩) (World.block_lt_of_cell? _ _ m0)).trans m0; have z2 := (hSw.cell (p := ⟨nb, 1, none⟩) (World.block_lt_of_cell? _ _ m1)).trans m1; have z3 := (hSw.cell (p := ⟨g, k * 9, none⟩) (World.block_lt_of_cell? _ _ c0)).trans c0; have z4 := (hSw.cell (p := ⟨g, k * 9 + 1, none⟩) (World.block_lt_of_cell? _ _ c1)).trans c1; clear hSw; go_simp; try with_reducible rfl)
                try simp only [Act.put, List.setIfInBounds_toArray, List.set_cons_zero, List.set_cons_succ]
                refine wpAnyH_take (i := 12) (oi := _) (v := ?_) (by rw [List.getElem?_toArray]; exact rfl) (by kernel_rfl) (by kernel_rfl) (by kernel_rfl) (by exact fun _ _ _ h => h) (Or.inl ⟨by rfl, ?_⟩) hHeld ?_
                rotate_left
                · (intro wX hSw; clear hSw; go_simp; try with_reducible rfl)
                try simp only [Act.put, List.setIfInBounds_toArray, List.set_cons_zero, List.set_cons_succ]
                refine wpAnyH_take (i := 13) (oi := _) (v := ?_) (by rw [List.getElem?_toArray]; exact rfl) (by kernel_rfl) (by kernel_rfl) (by kernel_rfl) (by exact fun _ _ _ h => h) (Or.inl ⟨by rfl, ?_⟩) hHeld ?_
                rotate_left
                · (intro wX hSw; clear hSw; go_simp; try with_reducible rfl)
                try simp only [Act.put, List.setIfInBounds_toArray, List.set_cons_zero, List.set_cons_succ]
                refine wpAnyH_take (i := 14) (oi := _) (v := ?_) (by rw [List.getElem?_toArray]; exact rfl) (by kernel_rfl) (by kernel_rfl) (by kernel_rfl) (by exact fun _ _ _ h => h) (Or.inl ⟨by rfl, ?_⟩) hHeld ?_
                rotate_left
                · (intro wX hSw; clear hSw; go_simp; try with_reducible rfl)
                try simp only [Act.put, List.setIfInBounds_toArray, List.set_cons_zero, List.set_cons_succ]
                refine wpAnyH_take (i := 15) (oi := _) (v := ?_) (by rw [List.getElem?_toArray]; exact rfl) (by kernel_rfl) (by kernel_rfl) (by kernel_rfl) (by exact fun _ _ _ h => h) (Or.inl ⟨by rfl, ?_⟩) hHeld ?_
                rotate_left
                · (intro wX hSw; have z0 := (hSw.cell (p := ⟨r, 0, none⟩) (World.block_lt_of_cell? _ _ y0)).trans y0; have z1 := (hSw.cell (p := ⟨nb, 0, none⟩) (World.block_lt_of_cell? _ _ m0)).trans m0; have z2 := (hSw.cell (p := ⟨nb, 1, none⟩) (World.block_lt_of_cell? _ _ m1)).trans m1; have z3 := (hSw.cell (p := ⟨g, k * 9, none⟩) (World.block_lt_of_cell? _ _ c0)).trans c0; have z4 := (hSw.cell (p := ⟨g, k * 9 + 1, none⟩) (World.block_lt_of_cell? _ _ c1)).trans c1; clear hSw; go_simp; try with_reducible rfl)
                try simp only [Act.put, List.setIfInBounds_toArray, List.set_cons_zero, List.set_cons_succ]
                refine wpAnyH_take (i := 16) (oi := _) (v := ?_) (by rw [List.getElem?_toArray]; exact rfl) (by kernel_rfl) (by kernel_rfl) (by kernel_rfl) (by exact fun _ _ _ h => h) (Or.inl ⟨by rfl, ?_⟩) hHeld ?_
                rotate_left
                · (intro wX hSw; have z0 := (hSw.cell (p := ⟨r, 0, none⟩) (World.block_lt_of_cell? _ _ y0)).trans y0; have z1 := (hSw.cell (p := ⟨nb, 0, none⟩) (World.block_lt_of_cell? _ _ m0)).trans m0; have z2 := (hSw.cell (p := ⟨nb, 1, none⟩) (World.block_lt_of_cell? _ _ m1)).trans m1; have z3 := (hSw.cell (p := ⟨g, k * 9, none⟩) (World.block_lt_of_cell? _ _ c0)).trans c0; have z4 := (hSw.cell (p := ⟨g, k * 9 + 1, none⟩) (World.block_lt_of_cell? _ _ c1)).trans c1; clear hSw; go_simp; try with_reducible rfl)
                try simp only [Act.put, List.setIfInBounds_toArray, List.set_cons_zero, List.set_cons_succ]
                refine wpAnyH_ready (rs := [17]) (by kernel_rfl) (by simp) ?_
                refine AllReadyH.cons (o := _) (by rw [List.getElem?_toArray]; exact rfl) (fun K hK => ?_) AllReadyH.nil
                go_simp
                refine (rcompareN_any x.1 (job, p) _ HXS.out HPS.out).mono ?_; rintro e w6 ⟨rfl, hB6⟩; have hB7 := hHeld.trans (hB6.mono hHeld.size); clear hB6
                go_wp2_with fail
                refine hK.out _ _ (hB7) (fun hHeld => ?_)
                clear hK K
                try simp only [Act.put, List.setIfInBounds_toArray, List.set_cons_zero, List.set_cons_succ]
                refine wpAnyH_take (i := 18) (oi := _) (v := ?_) (by rw [List.getElem?_toArray]; exact rfl) (by kernel_rfl) (by kernel_rfl) (by kernel_rfl) (by exact fun _ _ _ h => h) (Or.inl ⟨by rfl, ?_⟩) hHeld ?_
                rotate_left
                · (intro wX hSw; clear hSw; go_simp; try with_reducible rfl)
                try simp only [Act.put, List.setIfInBounds_toArray, List.set_cons_zero, List.set_cons_succ]
                refine wpAnyH_take (i := 19) (oi := _) (v := ?_) (by rw [List.getElem?_toArray]; exact rfl) (by kernel_rfl) (by kernel_rfl) (by kernel_rfl) (by exact fun _ _ _ h => h) (Or.inl ⟨by rfl, ?_⟩) hHeld ?_
                rotate_left
                · (intro wX hSw; clear hSw; go_simp; try with_reducible rfl)
                try simp only [Act.put, List.setIfInBounds_toArray, List.set_cons_zero, List.set_cons_succ]
                refine wpAnyH_done (by kernel_rfl) ?_ _
                have HB2 := Lib.hid (HB.out.trans (hHeld.mono HB.out.size))
                clear hHeld y0 m0 m1 c0 c1 HB
                go_wp2_with fail
                go_roundg (gk - 1)
                case rel => exact ⟨k + 1, by omega, by go_num, HB2.out, HL2.out⟩
                case measure => omega
              · have HS := Lib.hid (show InsN l (job, p) k from ⟨by omega, HL.out, .inr ⟨hkl, by rw [hx]; exact hcm⟩⟩)
                have hkN : k ≤ N := by omega
                have hcd : decide (cmpN x.1 (job, p) < 0) = false := decide_eq_false hcm
                have hkd : decide (k < N) = true := decide_eq_true hlt
                have hkd2 : decide ((k : Int) < (N : Int)) = true := decide_eq_true hkn
                clear hx
                go_upto_region 11 with fail
                refine wp_region_held_drew (S := fun y => Below wr.heap.size wr y) (by kernel_rfl) ((Below.refl _ _).drew) (fun hHeld => ?_)
                refine wpAnyH_take (i := 0) (oi := _) (v := ?_) (by rw [List.getElem?_toArray]; exact rfl) (by kernel_rfl) (by kernel_rfl) (by kernel_rfl) (by exact fun _ _ _ h => h) (Or.inl ⟨by rfl, ?_⟩) hHeld ?_
                rotate_left
                · (intro wX hSw; clear hSw; go_simp; try with_reducible rfl)
                try simp only [Act.put, List.setIfInBounds_toArray, List.set_cons_zero, List.set_cons_succ]
                refine wpAnyH_take (i := 1) (oi := _) (v := ?_) (by rw [List.getElem?_toArray]; exact rfl) (by kernel_rfl) (by kernel_rfl) (by kernel_rfl) (by exact fun _ _ _ h => h) (Or.inl ⟨by rfl, ?_⟩) hHeld ?_
                rotate_left
                · (intro wX hSw; clear hSw; go_simp; try with_reducible rfl)
                try simp only [Act.put, List.setIfInBounds_toArray, List.set_cons_zero, List.set_cons_succ]
                refine wpAnyH_take (i := 2) (oi := _) (v := ?_) (by rw [List.getElem?_toArray]; exact rfl) (by kernel_rfl) (by kernel_rfl) (by kernel_rfl) (by exact fun _ _ _ h => h) (Or.inl ⟨by rfl, ?_⟩) hHeld ?_
                rotate_left
                · (intro wX hSw; clear hSw; go_simp; try with_reducible rfl)
                try simp only [Act.put, List.setIfInBounds_toArray, List.set_cons_zero, List.set_cons_succ]
                refine wpAnyH_take (i := 3) (oi := _) (v := ?_) (by rw [List.getElem?_toArray]; exact rfl) (by kernel_rfl) (by kernel_rfl) (by kernel_rfl) (by exact fun _ _ _ h => h) (Or.inl ⟨by rfl, ?_⟩) hHeld ?_
                rotate_left
                · (intro wX hSw; clear hSw; go_simp; try with_reducible rfl)
                try simp only [Act.put, List.setIfInBounds_toArray, List.set_cons_zero, List.set_cons_succ]
                refine wpAnyH_take (i := 4) (oi := _) (v := ?_) (by rw [List.getElem?_toArray]; exact rfl) (by kernel_rfl) (by kernel_rfl) (by kernel_rfl) (by exact fun _ _ _ h => h) (Or.inl ⟨by rfl, ?_⟩) hHeld ?_
                rotate_left
                · (intro wX hSw; have z0 := (hSw.cell (p := ⟨r, 0, none⟩) (World.block_lt_of_cell? _ _ y0)).trans y0; have z1 := (hSw.cell (p := ⟨nb, 0, none⟩) (World.block_lt_of_cell? _ _ m0)).trans m0; have z2 := (hSw.cell (p := ⟨nb, 1, none⟩) (World.block_lt_of_cell? _ _ m1)).trans m1; have z3 := (hSw.cell (p := ⟨g, k * 9, none⟩) (World.block_lt_of_cell? _ _ c0)).trans c0; have z4 := (hSw.cell (p := ⟨g, k * 9 + 1, none⟩) (World.block_lt_of_cell? _ _ c1)).trans c1; clear hSw; go_simp; try with_reducible rfl)
                try simp only [Act.put, List.setIfInBounds_toArray, List.set_cons_zero, List.set_cons_succ]
                refine wpAnyH_take (i := 5) (oi := _) (v := ?_) (by rw [List.getElem?_toArray]; exact rfl) (by kernel_rfl) (by kernel_rfl) (by kernel_rfl) (by exact fun _ _ _ h => h) (Or.inl ⟨by rfl, ?_⟩) hHeld ?_
                rotate_left
                · (intro wX hSw; clear hSw; go_simp; try with_reducible rfl)
                try simp only [Act.put, List.setIfInBounds_toArray, List.set_cons_zero, List.set_cons_succ]
                refine wpAnyH_take (i := 6) (oi := _) (v := ?_) (by rw [List.getElem?_toArray]; exact rfl) (by kernel_rfl) (by kernel_rfl) (by kernel_rfl) (by exact fun _ _ _ h => h) (Or.inl ⟨by rfl, ?_⟩) hHeld ?_
                rotate_left
                · (intro wX hSw; clear hSw; go_simp; try with_reducible rfl)
                try simp only [Act.put, List.setIfInBounds_toArray, List.set_cons_zero, List.set_cons_succ]
                refine wpAnyH_take (i := 7) (oi := _) (v := ?_) (by rw [List.getElem?_toArray]; exact rfl) (by kernel_rfl) (by kernel_rfl) (by kernel_rfl) (by exact fun _ _ _ h => h) (Or.inl ⟨by rfl, ?_⟩) hHeld ?_
                rotate_left
                · (intro wX hSw; clear hSw; go_simp; try with_reducible rfl)
                try simp only [Act.put, List.setIfInBounds_toArray, List.set_cons_zero, List.set_cons_succ]
                refine wpAnyH_take (i := 8) (oi := _) (v := ?_) (by rw [List.getElem?_toArray]; exact rfl) (by kernel_rfl) (by kernel_rfl) (by kernel_rfl) (by exact fun _ _ _ h => h) (Or.inl ⟨by rfl, ?_⟩) hHeld ?_
                rotate_left
                · (intro wX hSw; clear hSw; go_simp; try with_reducible rfl)
                try simp only [Act.put, List.setIfInBounds_toArray, List.set_cons_zero, List.set_cons_succ]
                refine wpAnyH_take (i := 9) (oi := _) (v := ?_) (by rw [List.getElem?_toArray]; exact rfl) (by kernel_rfl) (by kernel_rfl) (by kernel_rfl) (by exact fun _ _ _ h => h) (Or.inl ⟨by rfl, ?_⟩) hHeld ?_
                rotate_left
                · (intro wX hSw; clear hSw; go_simp; try with_reducible rfl)
                try simp only [Act.put, List.setIfInBounds_toArray, List.set_cons_zero, List.set_cons_succ]
                refine wpAnyH_take (i := 10) (oi := _) (v := ?_) (by rw [List.getElem?_toArray]; exact rfl) (by kernel_rfl) (by kernel_rfl) (by kernel_rfl) (by exact fun _ _ _ h => h) (Or.inl ⟨by rfl, ?_⟩) hHeld ?_
                rotate_left
                · (intro wX hSw; clear hSw; go_simp; try with_reducible rfl)
                try simp only [Act.put, List.setIfInBounds_toArray, List.set_cons_zero, List.set_cons_succ]
                refine wpAnyH_take (i := 11) (oi := _) (v := ?_) (by rw [List.getElem?_toArray]; exact rfl) (by kernel_rfl) (by kernel_rfl) (by kernel_rfl) (by exact fun _ _ _ h => h) (Or.inl ⟨by rfl, ?_⟩) hHeld ?_
                rotate_left
                · (intro wX hSw; have z0 := (hSw.cell (p := ⟨r, 0, none⟩) (World.block_lt_of_cell? _ _ y0)).trans y0; have z1 := (hSw.cell (p := ⟨nb, 0, none⟩) (World.block_lt_of_cell? _ _ m0)).trans m0; have z2 := (hSw.cell (p := ⟨nb, 1, none⟩) (World.block_lt_of_cell? _ _ m1)).trans m1; have z3 := (hSw.cell (p := ⟨g, k * 9, none⟩) (World.block_lt_of_cell? _ _ c0)).trans c0; have z4 := (hSw.cell (p := ⟨g, k * 9 + 1, none⟩) (World.block_lt_of_cell? _ _ c1)).trans c1; clear hSw; go_simp; try with_reducible rfl)
                try simp only [Act.put, List.setIfInBounds_toArray, List.set_cons_zero, List.set_cons_succ]
                refine wpAnyH_take (i := 12) (oi := _) (v := ?_) (by rw [List.getElem?_toArray]; exact rfl) (by kernel_rfl) (by kernel_rfl) (by kernel_rfl) (by exact fun _ _ _ h => h) (Or.inl ⟨by rfl, ?_⟩) hHeld ?_
                rotate_left
                · (intro wX hSw; clear hSw; go_simp; try with_reducible rfl)
                try simp only [Act.put, List.setIfInBounds_toArray, List.set_cons_zero, List.set_cons_succ]
                refine wpAnyH_take (i := 13) (oi := _) (v := ?_) (by rw [List.getElem?_toArray]; exact rfl) (by kernel_rfl) (by kernel_rfl) (by kernel_rfl) (by exact fun _ _ _ h => h) (Or.inl ⟨by rfl, ?_⟩) hHeld ?_
                rotate_left
                · (intro wX hSw; clear hSw; go_simp; try with_reducible rfl)
                try simp only [Act.put, List.setIfInBounds_toArray, List.set_cons_zero, List.set_cons_succ]
                refine wpAnyH_take (i := 14) (oi := _) (v := ?_) (by rw [List.getElem?_toArray]; exact rfl) (by kernel_rfl) (by kernel_rfl) (by kernel_rfl) (by exact fun _ _ _ h => h) (Or.inl ⟨by rfl, ?_⟩) hHeld ?_
                rotate_left
                · (intro wX hSw; clear hSw; go_simp; try with_reducible rfl)
                try simp only [Act.put, List.setIfInBounds_toArray, List.set_cons_zero, List.set_cons_succ]
                refine wpAnyH_take (i := 15) (oi := _) (v := ?_) (by rw [List.getElem?_toArray]; exact rfl) (by kernel_rfl) (by kernel_rfl) (by kernel_rfl) (by exact fun _ _ _ h => h) (Or.inl ⟨by rfl, ?_⟩) hHeld ?_
                rotate_left
                · (intro wX hSw; have z0 := (hSw.cell (p := ⟨r, 0, none⟩) (World.block_lt_of_cell? _ _ y0)).trans y0; have z1 := (hSw.cell (p := ⟨nb, 0, none⟩) (World.block_lt_of_cell? _ _ m0)).trans m0; have z2 := (hSw.cell (p := ⟨nb, 1, none⟩) (World.block_lt_of_cell? _ _ m1)).trans m1; have z3 := (hSw.cell (p := ⟨g, k * 9, none⟩) (World.block_lt_of_cell? _ _ c0)).trans c0; have z4 := (hSw.cell (p := ⟨g, k * 9 + 1, none⟩) (World.block_lt_of_cell? _ _ c1)).trans c1; clear hSw; go_simp; try with_reducible rfl)
                try simp only [Act.put, List.setIfInBounds_toArray, List.set_cons_zero, List.set_cons_succ]
                refine wpAnyH_take (i := 16) (oi := _) (v := ?_) (by rw [List.getElem?_toArray]; exact rfl) (by kernel_rfl) (by kernel_rfl) (by kernel_rfl) (by exact fun _ _ _ h => h) (Or.inl ⟨by rfl, ?_⟩) hHeld ?_
                rotate_left
                · (intro wX hSw; have z0 := (hSw.cell (p := ⟨r, 0, none⟩) (World.block_lt_of_cell? _ _ y0)).trans y0; have z1 := (hSw.cell (p := ⟨nb, 0, none⟩) (World.block_lt_of_cell? _ _ m0)).trans m0; have z2 := (hSw.cell (p := ⟨nb, 1, none⟩) (World.block_lt_of_cell? _ _ m1)).trans m1; have z3 := (hSw.cell (p := ⟨g, k * 9, none⟩) (World.block_lt_of_cell? _ _ c0)).trans c0; have z4 := (hSw.cell (p := ⟨g, k * 9 + 1, none⟩) (World.block_lt_of_cell? _ _ c1)).trans c1; clear hSw; go_simp; try with_reducible rfl)
                try simp only [Act.put, List.setIfInBounds_toArray, List.set_cons_zero, List.set_cons_succ]
                refine wpAnyH_ready (rs := [17]) (by kernel_rfl) (by simp) ?_
                refine AllReadyH.cons (o := _) (by rw [List.getElem?_toArray]; exact rfl) (fun K hK => ?_) AllReadyH.nil
                go_simp
                refine (rcompareN_any x.1 (job, p) _ HXS.out HPS.out).mono ?_; rintro e w6 ⟨rfl, hB6⟩; have hB7 := hHeld.trans (hB6.mono hHeld.size); clear hB6
                go_wp2_with fail
                refine hK.out _ _ (hB7) (fun hHeld => ?_)
                clear hK K
                try simp only [Act.put, List.setIfInBounds_toArray, List.set_cons_zero, List.set_cons_succ]
                refine wpAnyH_take (i := 18) (oi := _) (v := ?_) (by rw [List.getElem?_toArray]; exact rfl) (by kernel_rfl) (by kernel_rfl) (by kernel_rfl) (by exact fun _ _ _ h => h) (Or.inl ⟨by rfl, ?_⟩) hHeld ?_
                rotate_left
                · (intro wX hSw; clear hSw; go_simp; try with_reducible rfl)
                try simp only [Act.put, List.setIfInBounds_toArray, List.set_cons_zero, List.set_cons_succ]
                refine wpAnyH_take (i := 19) (oi := _) (v := ?_) (by rw [List.getElem?_toArray]; exact rfl) (by kernel_rfl) (by kernel_rfl) (by kernel_rfl) (by exact fun _ _ _ h => h) (Or.inl ⟨by rfl, ?_⟩) hHeld ?_
                rotate_left
                · (intro wX hSw; clear hSw; go_simp; try with_reducible rfl)
                try simp only [Act.put, List.setIfInBounds_toArray, List.set_cons_zero, List.set_cons_succ]
                refine wpAnyH_done (by kernel_rfl) ?_ _
                have HB2 := Lib.hid (HB.out.trans (hHeld.mono HB.out.size))
                have hBq := hHeld
                clear hHeld m0 m1 c0 c1
                obtain ⟨wz, hwz⟩ : ∃ t, w6 = t := ⟨_, rfl⟩
                rw [hwz] at HB2 hBq ⊢
                clear hwz hBq y0 HL
                have HDZ := Lib.hid (H0.out.below HB2.out)
                have y0 := HDZ.out.cell
                rw [HLV.out, HN.out] at y0
                have hBb := HBX.out
                have t0 : wz.cell? ⟨tb, 0, none⟩ = some (.string p) := (HB2.out.cell (p := ⟨tb, 0, none⟩) (Array.getElem?_eq_some_iff.1 hBb.1).1).trans (by simp [World.cell?, hBb.1])
                have t1 : wz.cell? ⟨tb, 1, none⟩ = some (.int .i64 fn) := (HB2.out.cell (p := ⟨tb, 1, none⟩) (Array.getElem?_eq_some_iff.1 hBb.1).1).trans (by simp [World.cell?, hBb.1])
                have t2 : wz.cell? ⟨tb, 2, none⟩ = some (.slice aa args.length ac) := (HB2.out.cell (p := ⟨tb, 2, none⟩) (Array.getElem?_eq_some_iff.1 hBb.1).1).trans (by simp [World.cell?, hBb.1])
                have t3 : wz.cell? ⟨tb, 3, none⟩ = some (.int .i64 fuel) := (HB2.out.cell (p := ⟨tb, 3, none⟩) (Array.getElem?_eq_some_iff.1 hBb.1).1).trans (by simp [World.cell?, hBb.1])
                have m0 : wz.cell? ⟨nb, 0, none⟩ = some (.int .u64 job) := (HB2.out.cell (p := ⟨nb, 0, none⟩) (Array.getElem?_eq_some_iff.1 hBb.2).1).trans (by simp [World.cell?, hBb.2])
                have m1 : wz.cell? ⟨nb, 1, none⟩ = some (.string p) := (HB2.out.cell (p := ⟨nb, 1, none⟩) (Array.getElem?_eq_some_iff.1 hBb.2).1).trans (by simp [World.cell?, hBb.2])
                clear hBb
                have hroD := HDZ.out.own
                rw [HLV.out, HN.out] at hroD
                have hcapN := own_capD hroD
                have hso := runR_first (a := (some ⟨g, 0, none⟩)) (N := N) (n := k) (cap := lc) (by omega)
                have hrd : ReadsK encT 9 wz (.slice (some ⟨g, 0, none⟩) N lc) l := readsK_own encT_lenD (by decide) hroD HN.out
                have hru := readsK_take hrd k (by rw [HN.out]; exact hkN) lc
                obtain ⟨v1, w1, hap1, ho1, hg1⟩ := run_appK (P := Try.prog) (α := Rl) (enc := encT) (k := 9) (bytes := 104) (E := RootT) (t := 39) (z := zRoot) Try.underlying39 info_rootD rfl (by decide) encT_lenD (by intro y v hv; simp [encT] at hv; rcases hv with rfl | rfl | rfl | rfl | rfl | rfl | rfl | rfl <;> rfl) (w := wz) (B := wz.heap.size) (v := .slice none 0 0) (xs := []) 39 (World.ownsRow_nil _ _ _ _) hru (by rw [List.length_take]; simp; omega) (by decide) (Nat.le_refl _)
                simp only [List.nil_append] at ho1
                have hB1 : Below wz.heap.size wz w1 := ⟨hg1.os, hg1.tape, hg1.output, hg1.size, fun q hq => hg1.block q hq (fun e => by cases e)⟩
                obtain ⟨a1, d1, hv1⟩ := own_slice ho1
                subst hv1
                have hlt2 : (l.take k).length = k := by rw [List.length_take, HN.out]; omega
                rw [hlt2] at ho1 hap1
                have z0 := (hB1.cell (p := ⟨tb, 0, none⟩) (World.block_lt_of_cell? _ _ t0)).trans t0
                have z1 := (hB1.cell (p := ⟨tb, 1, none⟩) (World.block_lt_of_cell? _ _ t1)).trans t1
                have z2 := (hB1.cell (p := ⟨tb, 2, none⟩) (World.block_lt_of_cell? _ _ t2)).trans t2
                have z3 := (hB1.cell (p := ⟨tb, 3, none⟩) (World.block_lt_of_cell? _ _ t3)).trans t3
                have z4 := (hB1.cell (p := ⟨nb, 0, none⟩) (World.block_lt_of_cell? _ _ m0)).trans m0
                have z5 := (hB1.cell (p := ⟨nb, 1, none⟩) (World.block_lt_of_cell? _ _ m1)).trans m1
                obtain ⟨g7, c7, w7, hap, ho7, hF7⟩ := app_root (Z := wz.heap.size) (D := l.take k) (w := w1) (((job, p), ⟨fn, aa, ac, args, fuel, 1, 0, 0⟩) : Rl) (by rw [hlt2]; exact ho1) hlt2 (by omega) hB1.size
                have hB7 : Below wz.heap.size wz w7 := hB1.trans (hF7.below (fun i hi => (ho1.lt i hi).1) hB1.size)
                have hro7 := own_below hroD hB7
                have hrd7 : ReadsK encT 9 w7 (.slice (some ⟨g, 0, none⟩) N lc) l := readsK_own encT_lenD (by decide) hro7 HN.out
                obtain ⟨lv9, hs9, hr9⟩ := runR_last (a := (some ⟨g, 0, none⟩)) (cap := lc) (n := k) (l := l) (by rw [HN.out]; exact hrd7) (by rw [HN.out]; exact hkN) (by rw [HN.out]; exact hcapN)
                rw [HN.out] at hs9
                have hl7 : (l.take k ++ [(((job, p), ⟨fn, aa, ac, args, fuel, 1, 0, 0⟩) : Rl)]).length = k + 1 := by rw [List.length_append, hlt2]; rfl
                obtain ⟨v9, w9, hap9, ho9, hg9⟩ := run_appK (P := Try.prog) (α := Rl) (enc := encT) (k := 9) (bytes := 104) (E := RootT) (t := 39) (z := zRoot) Try.underlying39 info_rootD rfl (by decide) encT_lenD (by intro y v hv; simp [encT] at hv; rcases hv with rfl | rfl | rfl | rfl | rfl | rfl | rfl | rfl <;> rfl) (w := w7) (B := wz.heap.size) (v := .slice (some ⟨g7, 0, none⟩) (k + 1) c7) (xs := l.take k ++ [(((job, p), ⟨fn, aa, ac, args, fuel, 1, 0, 0⟩) : Rl)]) 39 ho7 hr9 (by rw [hl7, List.length_drop]; omega) (by decide) hB7.size
                obtain ⟨a9, d9, hv9⟩ := own_slice ho9
                subst hv9
                have ho7b := ho7
                rw [hl7] at ho7b
                have hB9 : Below wz.heap.size wz w9 := hB7.trans ((show Fr (fun i => (Value.slice (some ⟨g7, 0, none⟩) (k + 1) c7).ownBlock = some i) w7 w9 from ⟨hg9.os, hg9.tape, hg9.output, hg9.size, fun q hq hs => hg9.block q hq (fun e => hs e.symm)⟩).below (fun i hi => (ho7b.lt i hi).1) hB7.size)
                have hz : Z ≤ w.heap.size := by
                  have h1 : r < w.heap.size := (Array.getElem?_eq_some_iff.1 HT.out.box).1
                  have h2 := HT.out.zr
                  omega
                have HX := Lib.hid (HDZ.out.put2 hB9 ho9 (fun q hq => by
                  rcases List.mem_append.1 hq with hq | hq
                  · rcases List.mem_append.1 hq with hq | hq
                    · exact HDZ.out.args q (List.mem_of_mem_take hq)
                    · rw [List.mem_singleton] at hq
                      subst hq
                      exact HAZ.out.keep ((gthenD HA.out HB2.out).mono hz)
                  · exact HDZ.out.args q (List.mem_of_mem_drop hq)))
                have y9 : w9.cell? ⟨r, 0, none⟩ = some (.slice (some ⟨g, 0, none⟩) N lc) := (hB9.cell (p := ⟨r, 0, none⟩) (World.block_lt_of_cell? _ _ y0)).trans y0
                have y7 : w7.cell? ⟨r, 0, none⟩ = some (.slice (some ⟨g, 0, none⟩) N lc) := (hB7.cell (p := ⟨r, 0, none⟩) (World.block_lt_of_cell? _ _ y0)).trans y0
                have f9 := (HDZ.out.below hB9).box.frozen 0
                have hll : (l.take k ++ [(((job, p), ⟨fn, aa, ac, args, fuel, 1, 0, 0⟩) : Rl)] ++ l.drop k).length = N + 1 := by rw [List.length_append, hl7, List.length_drop, HN.out]; omega
                rw [hll] at hap9 HX
                obtain ⟨N9, hN9⟩ : ∃ n, N + 1 = n := ⟨_, rfl⟩
                rw [hN9] at hap9 HX
                obtain ⟨k9, hk9⟩ : ∃ n, k + 1 = n := ⟨_, rfl⟩
                rw [hk9] at hap hap9
                clear hru ho1 hg1 hB1 hroD hrd hro7 hrd7 hr9 ho7 hF7 ho7b ho9 hg9 hB7 hB9 hl7 hll hN9 hk9 hz hlt2
                have HHP := Lib.hid (And.intro hap (And.intro hap9 (And.intro hs9 (And.intro y9 (And.intro y7 f9)))))
                have HZZ := Lib.hid (And.intro z0 (And.intro z1 (And.intro z2 (And.intro z3 (And.intro z4 z5)))))
                clear hap hap9 hs9 y9 y7 f9 z0 z1 z2 z3 z4 z5 t0 t1 t2 t3 m0 m1
                go_upto_region 15 with (at_builtin; refine wpList_arunC rfl _ _ _ _ rfl rfl rfl hap1 ?_)
                clear hap1 hso y0
                have hap := HHP.out.1
                obtain ⟨z0, z1, z2, z3, z4, z5⟩ := HZZ.out
                go_upto_region 16 with (at_builtin; refine wpList_arunC rfl _ _ _ _ rfl rfl rfl hap ?_)
                clear hap z0 z1 z2 z3 z4 z5
                obtain ⟨_, hap9, hs9, y9, y7, f9⟩ := HHP.out
                go_wp2_with (at_builtin; refine wpList_arunC rfl _ _ _ _ rfl rfl rfl hap9 ?_)
                go_ret
                exact ⟨by rw [HE3.out]; rfl, .inr ⟨HE3.out, _, k, HS.out, HX.out.1, HX.out.2.from (gthenD HA.out HB2.out)⟩⟩
            · have hke : k = N := by omega
              have HS := Lib.hid (show InsN l (job, p) k from ⟨by omega, HL.out, .inl (by omega)⟩)
              have hkN : k ≤ N := by omega
              have hkd : decide (k < N) = false := decide_eq_false hlt
              have hkd0 : ¬ (k : Int) < (N : Int) := by omega
              have hkd2 : decide ((k : Int) < (N : Int)) = false := decide_eq_false hkd0
              have HKE := Lib.hid hke
              clear hN hke
              go_upto_region 11 with fail
              refine wp_region_held_drew (S := fun y => Below wr.heap.size wr y) (by kernel_rfl) ((Below.refl _ _).drew) (fun hHeld => ?_)
              refine wpAnyH_take (i := 0) (oi := _) (v := ?_) (by rw [List.getElem?_toArray]; exact rfl) (by kernel_rfl) (by kernel_rfl) (by kernel_rfl) (by exact fun _ _ _ h => h) (Or.inl ⟨by rfl, ?_⟩) hHeld ?_
              rotate_left
              · (intro wX hSw; clear hSw; go_simp; try with_reducible rfl)
              try simp only [Act.put, List.setIfInBounds_toArray, List.set_cons_zero, List.set_cons_succ]
              refine wpAnyH_take (i := 1) (oi := _) (v := ?_) (by rw [List.getElem?_toArray]; exact rfl) (by kernel_rfl) (by kernel_rfl) (by kernel_rfl) (by exact fun _ _ _ h => h) (Or.inl ⟨by rfl, ?_⟩) hHeld ?_
              rotate_left
              · (intro wX hSw; clear hSw; go_simp; try with_reducible rfl)
              try simp only [Act.put, List.setIfInBounds_toArray, List.set_cons_zero, List.set_cons_succ]
              refine wpAnyH_take (i := 2) (oi := _) (v := ?_) (by rw [List.getElem?_toArray]; exact rfl) (by kernel_rfl) (by kernel_rfl) (by kernel_rfl) (by exact fun _ _ _ h => h) (Or.inl ⟨by rfl, ?_⟩) hHeld ?_
              rotate_left
              · (intro wX hSw; clear hSw; go_simp; try with_reducible rfl)
              try simp only [Act.put, List.setIfInBounds_toArray, List.set_cons_zero, List.set_cons_succ]
              refine wpAnyH_take (i := 3) (oi := _) (v := ?_) (by rw [List.getElem?_toArray]; exact rfl) (by kernel_rfl) (by kernel_rfl) (by kernel_rfl) (by exact fun _ _ _ h => h) (Or.inl ⟨by rfl, ?_⟩) hHeld ?_
              rotate_left
              · (intro wX hSw; clear hSw; go_simp; try with_reducible rfl)
              try simp only [Act.put, List.setIfInBounds_toArray, List.set_cons_zero, List.set_cons_succ]
              refine wpAnyH_take (i := 4) (oi := _) (v := ?_) (by rw [List.getElem?_toArray]; exact rfl) (by kernel_rfl) (by kernel_rfl) (by kernel_rfl) (by exact fun _ _ _ h => h) (Or.inl ⟨by rfl, ?_⟩) hHeld ?_
              rotate_left
              · (intro wX hSw; have z0 := (hSw.cell (p := ⟨r, 0, none⟩) (World.block_lt_of_cell? _ _ y0)).trans y0; clear hSw; go_simp; try with_reducible rfl)
              try simp only [Act.put, List.setIfInBounds_toArray, List.set_cons_zero, List.set_cons_succ]
              refine wpAnyH_take (i := 5) (oi := _) (v := ?_) (by rw [List.getElem?_toArray]; exact rfl) (by kernel_rfl) (by kernel_rfl) (by kernel_rfl) (by exact fun _ _ _ h => h) (Or.inl ⟨by rfl, ?_⟩) hHeld ?_
              rotate_left
              · (intro wX hSw; clear hSw; go_simp; try with_reducible rfl)
              try simp only [Act.put, List.setIfInBounds_toArray, List.set_cons_zero, List.set_cons_succ]
              refine wpAnyH_take (i := 6) (oi := _) (v := ?_) (by rw [List.getElem?_toArray]; exact rfl) (by kernel_rfl) (by kernel_rfl) (by kernel_rfl) (by exact fun _ _ _ h => h) (Or.inl ⟨by rfl, ?_⟩) hHeld ?_
              rotate_left
              · (intro wX hSw; clear hSw; go_simp; try with_reducible rfl)
              try simp only [Act.put, List.setIfInBounds_toArray, List.set_cons_zero, List.set_cons_succ]
              refine wpAnyH_take (i := 7) (oi := _) (v := ?_) (by rw [List.getElem?_toArray]; exact rfl) (by kernel_rfl) (by kernel_rfl) (by kernel_rfl) (by exact fun _ _ _ h => h) (Or.inl ⟨by rfl, ?_⟩) hHeld ?_
              rotate_left
              · (intro wX hSw; clear hSw; go_simp; try with_reducible rfl)
              try simp only [Act.put, List.setIfInBounds_toArray, List.set_cons_zero, List.set_cons_succ]
              refine wpAnyH_take (i := 8) (oi := _) (v := undef) (by rw [List.getElem?_toArray]; exact rfl) (by kernel_rfl) (by kernel_rfl) (by kernel_rfl) (by exact fun _ _ _ h => h) (Or.inr ⟨by rfl, rfl⟩) hHeld ?_
              try simp only [Act.put, List.setIfInBounds_toArray, List.set_cons_zero, List.set_cons_succ]
              refine wpAnyH_take (i := 9) (oi := _) (v := undef) (by rw [List.getElem?_toArray]; exact rfl) (by kernel_rfl) (by kernel_rfl) (by kernel_rfl) (by exact fun _ _ _ h => h) (Or.inr ⟨by rfl, rfl⟩) hHeld ?_
              try simp only [Act.put, List.setIfInBounds_toArray, List.set_cons_zero, List.set_cons_succ]
              refine wpAnyH_take (i := 10) (oi := _) (v := undef) (by rw [List.getElem?_toArray]; exact rfl) (by kernel_rfl) (by kernel_rfl) (by kernel_rfl) (by exact fun _ _ _ h => h) (Or.inr ⟨by rfl, rfl⟩) hHeld ?_
              try simp only [Act.put, List.setIfInBounds_toArray, List.set_cons_zero, List.set_cons_succ]
              refine wpAnyH_take (i := 11) (oi := _) (v := undef) (by rw [List.getElem?_toArray]; exact rfl) (by kernel_rfl) (by kernel_rfl) (by kernel_rfl) (by exact fun _ _ _ h => h) (Or.inr ⟨by rfl, rfl⟩) hHeld ?_
              try simp only [Act.put, List.setIfInBounds_toArray, List.set_cons_zero, List.set_cons_succ]
              refine wpAnyH_take (i := 12) (oi := _) (v := undef) (by rw [List.getElem?_toArray]; exact rfl) (by kernel_rfl) (by kernel_rfl) (by kernel_rfl) (by exact fun _ _ _ h => h) (Or.inr ⟨by rfl, rfl⟩) hHeld ?_
              try simp only [Act.put, List.setIfInBounds_toArray, List.set_cons_zero, List.set_cons_succ]
              refine wpAnyH_take (i := 13) (oi := _) (v := undef) (by rw [List.getElem?_toArray]; exact rfl) (by kernel_rfl) (by kernel_rfl) (by kernel_rfl) (by exact fun _ _ _ h => h) (Or.inr ⟨by rfl, rfl⟩) hHeld ?_
              try simp only [Act.put, List.setIfInBounds_toArray, List.set_cons_zero, List.set_cons_succ]
              refine wpAnyH_take (i := 14) (oi := _) (v := undef) (by rw [List.getElem?_toArray]; exact rfl) (by kernel_rfl) (by kernel_rfl) (by kernel_rfl) (by exact fun _ _ _ h => h) (Or.inr ⟨by rfl, rfl⟩) hHeld ?_
              try simp only [Act.put, List.setIfInBounds_toArray, List.set_cons_zero, List.set_cons_succ]
              refine wpAnyH_take (i := 15) (oi := _) (v := undef) (by rw [List.getElem?_toArray]; exact rfl) (by kernel_rfl) (by kernel_rfl) (by kernel_rfl) (by exact fun _ _ _ h => h) (Or.inr ⟨by rfl, rfl⟩) hHeld ?_
              try simp only [Act.put, List.setIfInBounds_toArray, List.set_cons_zero, List.set_cons_succ]
              refine wpAnyH_take (i := 16) (oi := _) (v := undef) (by rw [List.getElem?_toArray]; exact rfl) (by kernel_rfl) (by kernel_rfl) (by kernel_rfl) (by exact fun _ _ _ h => h) (Or.inr ⟨by rfl, rfl⟩) hHeld ?_
              try simp only [Act.put, List.setIfInBounds_toArray, List.set_cons_zero, List.set_cons_succ]
              refine wpAnyH_take (i := 17) (oi := _) (v := undef) (by rw [List.getElem?_toArray]; exact rfl) (by kernel_rfl) (by kernel_rfl) (by kernel_rfl) (by exact fun _ _ _ h => h) (Or.inr ⟨by rfl, rfl⟩) hHeld ?_
              try simp only [Act.put, List.setIfInBounds_toArray, List.set_cons_zero, List.set_cons_succ]
              refine wpAnyH_take (i := 18) (oi := _) (v := undef) (by rw [List.getElem?_toArray]; exact rfl) (by kernel_rfl) (by kernel_rfl) (by kernel_rfl) (by exact fun _ _ _ h => h) (Or.inr ⟨by rfl, rfl⟩) hHeld ?_
              try simp only [Act.put, List.setIfInBounds_toArray, List.set_cons_zero, List.set_cons_succ]
              refine wpAnyH_take (i := 19) (oi := _) (v := ?_) (by rw [List.getElem?_toArray]; exact rfl) (by kernel_rfl) (by kernel_rfl) (by kernel_rfl) (by exact fun _ _ _ h => h) (Or.inl ⟨by rfl, ?_⟩) hHeld ?_
              rotate_left
              · (intro wX hSw; clear hSw; go_simp; try with_reducible rfl)
              try simp only [Act.put, List.setIfInBounds_toArray, List.set_cons_zero, List.set_cons_succ]
              refine wpAnyH_done (by kernel_rfl) ?_ _
              have HB2 := Lib.hid (HB.out.trans (hHeld.mono HB.out.size))
              have hBq := hHeld
              clear hHeld m0 m1
              obtain ⟨wz, hwz⟩ : ∃ t, wr.drew = t := ⟨_, rfl⟩
              rw [hwz] at HB2 hBq ⊢
              clear hwz hBq y0 HL
              have HDZ := Lib.hid (H0.out.below HB2.out)
              have y0 := HDZ.out.cell
              rw [HLV.out, HN.out] at y0
              have hBb := HBX.out
              have t0 : wz.cell? ⟨tb, 0, none⟩ = some (.string p) := (HB2.out.cell (p := ⟨tb, 0, none⟩) (Array.getElem?_eq_some_iff.1 hBb.1).1).trans (by simp [World.cell?, hBb.1])
              have t1 : wz.cell? ⟨tb, 1, none⟩ = some (.int .i64 fn) := (HB2.out.cell (p := ⟨tb, 1, none⟩) (Array.getElem?_eq_some_iff.1 hBb.1).1).trans (by simp [World.cell?, hBb.1])
              have t2 : wz.cell? ⟨tb, 2, none⟩ = some (.slice aa args.length ac) := (HB2.out.cell (p := ⟨tb, 2, none⟩) (Array.getElem?_eq_some_iff.1 hBb.1).1).trans (by simp [World.cell?, hBb.1])
              have t3 : wz.cell? ⟨tb, 3, none⟩ = some (.int .i64 fuel) := (HB2.out.cell (p := ⟨tb, 3, none⟩) (Array.getElem?_eq_some_iff.1 hBb.1).1).trans (by simp [World.cell?, hBb.1])
              have m0 : wz.cell? ⟨nb, 0, none⟩ = some (.int .u64 job) := (HB2.out.cell (p := ⟨nb, 0, none⟩) (Array.getElem?_eq_some_iff.1 hBb.2).1).trans (by simp [World.cell?, hBb.2])
              have m1 : wz.cell? ⟨nb, 1, none⟩ = some (.string p) := (HB2.out.cell (p := ⟨nb, 1, none⟩) (Array.getElem?_eq_some_iff.1 hBb.2).1).trans (by simp [World.cell?, hBb.2])
              clear hBb
              have hroD := HDZ.out.own
              rw [HLV.out, HN.out] at hroD
              have hcapN := own_capD hroD
              have hso := runR_first (a := la) (N := N) (n := k) (cap := lc) (by omega)
              have hrd : ReadsK encT 9 wz (.slice la N lc) l := readsK_own encT_lenD (by decide) hroD HN.out
              have hru := readsK_take hrd k (by rw [HN.out]; exact hkN) lc
              obtain ⟨v1, w1, hap1, ho1, hg1⟩ := run_appK (P := Try.prog) (α := Rl) (enc := encT) (k := 9) (bytes := 104) (E := RootT) (t := 39) (z := zRoot) Try.underlying39 info_rootD rfl (by decide) encT_lenD (by intro y v hv; simp [encT] at hv; rcases hv with rfl | rfl | rfl | rfl | rfl | rfl | rfl | rfl <;> rfl) (w := wz) (B := wz.heap.size) (v := .slice none 0 0) (xs := []) 39 (World.ownsRow_nil _ _ _ _) hru (by rw [List.length_take]; simp; omega) (by decide) (Nat.le_refl _)
              simp only [List.nil_append] at ho1
              have hB1 : Below wz.heap.size wz w1 := ⟨hg1.os, hg1.tape, hg1.output, hg1.size, fun q hq => hg1.block q hq (fun e => by cases e)⟩
              obtain ⟨a1, d1, hv1⟩ := own_slice ho1
              subst hv1
              have hlt2 : (l.take k).length = k := by rw [List.length_take, HN.out]; omega
              rw [hlt2] at ho1 hap1
              have z0 := (hB1.cell (p := ⟨tb, 0, none⟩) (World.block_lt_of_cell? _ _ t0)).trans t0
              have z1 := (hB1.cell (p := ⟨tb, 1, none⟩) (World.block_lt_of_cell? _ _ t1)).trans t1
              have z2 := (hB1.cell (p := ⟨tb, 2, none⟩) (World.block_lt_of_cell? _ _ t2)).trans t2
              have z3 := (hB1.cell (p := ⟨tb, 3, none⟩) (World.block_lt_of_cell? _ _ t3)).trans t3
              have z4 := (hB1.cell (p := ⟨nb, 0, none⟩) (World.block_lt_of_cell? _ _ m0)).trans m0
              have z5 := (hB1.cell (p := ⟨nb, 1, none⟩) (World.block_lt_of_cell? _ _ m1)).trans m1
              obtain ⟨g7, c7, w7, hap, ho7, hF7⟩ := app_root (Z := wz.heap.size) (D := l.take k) (w := w1) (((job, p), ⟨fn, aa, ac, args, fuel, 1, 0, 0⟩) : Rl) (by rw [hlt2]; exact ho1) hlt2 (by omega) hB1.size
              have hB7 : Below wz.heap.size wz w7 := hB1.trans (hF7.below (fun i hi => (ho1.lt i hi).1) hB1.size)
              have hro7 := own_below hroD hB7
              have hrd7 : ReadsK encT 9 w7 (.slice la N lc) l := readsK_own encT_lenD (by decide) hro7 HN.out
              obtain ⟨lv9, hs9, hr9⟩ := runR_last (a := la) (cap := lc) (n := k) (l := l) (by rw [HN.out]; exact hrd7) (by rw [HN.out]; exact hkN) (by rw [HN.out]; exact hcapN)
              rw [HN.out] at hs9
              have hl7 : (l.take k ++ [(((job, p), ⟨fn, aa, ac, args, fuel, 1, 0, 0⟩) : Rl)]).length = k + 1 := by rw [List.length_append, hlt2]; rfl
              obtain ⟨v9, w9, hap9, ho9, hg9⟩ := run_appK (P := Try.prog) (α := Rl) (enc := encT) (k := 9) (bytes := 104) (E := RootT) (t := 39) (z := zRoot) Try.underlying39 info_rootD rfl (by decide) encT_lenD (by intro y v hv; simp [encT] at hv; rcases hv with rfl | rfl | rfl | rfl | rfl | rfl | rfl | rfl <;> rfl) (w := w7) (B := wz.heap.size) (v := .slice (some ⟨g7, 0, none⟩) (k + 1) c7) (xs := l.take k ++ [(((job, p), ⟨fn, aa, ac, args, fuel, 1, 0, 0⟩) : Rl)]) 39 ho7 hr9 (by rw [hl7, List.length_drop]; omega) (by decide) hB7.size
              obtain ⟨a9, d9, hv9⟩ := own_slice ho9
              subst hv9
              have ho7b := ho7
              rw [hl7] at ho7b
              have hB9 : Below wz.heap.size wz w9 := hB7.trans ((show Fr (fun i => (Value.slice (some ⟨g7, 0, none⟩) (k + 1) c7).ownBlock = some i) w7 w9 from ⟨hg9.os, hg9.tape, hg9.output, hg9.size, fun q hq hs => hg9.block q hq (fun e => hs e.symm)⟩).below (fun i hi => (ho7b.lt i hi).1) hB7.size)
              have hz : Z ≤ w.heap.size := by
                have h1 : r < w.heap.size := (Array.getElem?_eq_some_iff.1 HT.out.box).1
                have h2 := HT.out.zr
                omega
              have HX := Lib.hid (HDZ.out.put2 hB9 ho9 (fun q hq => by
                rcases List.mem_append.1 hq with hq | hq
                · rcases List.mem_append.1 hq with hq | hq
                  · exact HDZ.out.args q (List.mem_of_mem_take hq)
                  · rw [List.mem_singleton] at hq
                    subst hq
                    exact HAZ.out.keep ((gthenD HA.out HB2.out).mono hz)
                · exact HDZ.out.args q (List.mem_of_mem_drop hq)))
              have y9 : w9.cell? ⟨r, 0, none⟩ = some (.slice la N lc) := (hB9.cell (p := ⟨r, 0, none⟩) (World.block_lt_of_cell? _ _ y0)).trans y0
              have y7 : w7.cell? ⟨r, 0, none⟩ = some (.slice la N lc) := (hB7.cell (p := ⟨r, 0, none⟩) (World.block_lt_of_cell? _ _ y0)).trans y0
              have f9 := (HDZ.out.below hB9).box.frozen 0
              have hll : (l.take k ++ [(((job, p), ⟨fn, aa, ac, args, fuel, 1, 0, 0⟩) : Rl)] ++ l.drop k).length = N + 1 := by rw [List.length_append, hl7, List.length_drop, HN.out]; omega
              rw [hll] at hap9 HX
              obtain ⟨N9, hN9⟩ : ∃ n, N + 1 = n := ⟨_, rfl⟩
              rw [hN9] at hap9 HX
              obtain ⟨k9, hk9⟩ : ∃ n, k + 1 = n := ⟨_, rfl⟩
              rw [hk9] at hap hap9
              clear hru ho1 hg1 hB1 hroD hrd hro7 hrd7 hr9 ho7 hF7 ho7b ho9 hg9 hB7 hB9 hl7 hll hN9 hk9 hz hlt2
              have HHP := Lib.hid (And.intro hap (And.intro hap9 (And.intro hs9 (And.intro y9 (And.intro y7 f9)))))
              have HZZ := Lib.hid (And.intro z0 (And.intro z1 (And.intro z2 (And.intro z3 (And.intro z4 z5)))))
              clear hap hap9 hs9 y9 y7 f9 z0 z1 z2 z3 z4 z5 t0 t1 t2 t3 m0 m1
              go_upto_region 15 with (at_builtin; refine wpList_arunC rfl _ _ _ _ rfl rfl rfl hap1 ?_)
              clear hap1 hso y0
              have hap := HHP.out.1
              obtain ⟨z0, z1, z2, z3, z4, z5⟩ := HZZ.out
              go_upto_region 16 with (at_builtin; refine wpList_arunC rfl _ _ _ _ rfl rfl rfl hap ?_)
              clear hap z0 z1 z2 z3 z4 z5
              obtain ⟨_, hap9, hs9, y9, y7, f9⟩ := HHP.out
              go_wp2_with (at_builtin; refine wpList_arunC rfl _ _ _ _ rfl rfl rfl hap9 ?_)
              go_ret
              exact ⟨by rw [HE3.out]; rfl, .inr ⟨HE3.out, _, k, HS.out, HX.out.1, HX.out.2.from (gthenD HA.out HB2.out)⟩⟩
      · have HE3 := Lib.hid (HC.out.1 rfl)
        go_wp2_with fail
        go_ret
        exact AddDP.bad HT.out (gthenD HA.out HB4.out) HE3.out (by decide)
  · have HE := Lib.hid (show addEA l (job, p) = 7 from by
      unfold addEA
      rw [if_neg (by rw [HMY.out]; decide)]
      have hh : (getL l (job, p)).isSome = true := hasA_mem.2 ⟨_, List.getElem_mem hj, hjn⟩
      rw [if_pos hh])
    have hj0 : (0 : Int) ≤ j := by omega
    clear hjn
    go_wp2_with fail
    go_ret
    exact AddDP.bad HT.out (gthenD HA.out HB3.out) HE.out (by decide)
end Go.Proofs.Ytpdnebimkfejoaa
