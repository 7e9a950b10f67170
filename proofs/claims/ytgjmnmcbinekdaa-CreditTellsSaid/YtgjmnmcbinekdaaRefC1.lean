/- The document's answers for credits: which may be; the bits of one, and back. -/
import Derived.Test.YtgjmnmcbinekdaaBitSum20
import Derived.Test.YtgjmnmcbinekdaaByt10
import Derived.Deep.OwnRows
import Derived.StillTailTactics
namespace Go.Proofs.Ytgjmnmcbinekdaa
open Go.RowKit Go.Sort Go.Lib

set_option maxHeartbeats 1600000 in
set_option maxRecDepth 100000 in
theorem rmay_any (l : List Int) (v : Value) (w : World) (h : ReadsK encC 1 w v l) (hl : l.length ≤ 1000000) :
    Calls Try.prog 14 #[v] w fun e w' => e = .returned (.bool (mayC l)) ∧ Below w.heap.size w w' := by
  obtain ⟨a, c, rfl⟩ := h.slice
  have HR := Lib.hid h
  clear h
  go_enter Try.func14, Try.ntmps14
  go_wp2_with fail
  go_loopg [3] l.length (fun gk i wr => ∃ k : Nat, gk + k = l.length ∧ i = .int .i64 k ∧ Below w.heap.size w wr ∧ ∀ j, j < k → GoodC l j)
  case atStart => exact ⟨0, by omega, rfl, Below.refl _ _, fun j h0 => by omega⟩
  case round =>
    obtain ⟨k, hk, rfl, hB, hno⟩ := hrel
    have HNO := Lib.hid hno
    have HB := Lib.hid hB
    clear hno
    by_cases hlt : k < l.length
    · obtain ⟨b, off, cc, he, hb, hc⟩ := (HR.out.below hB).at (by omega)
      injection he with he1 he2 he3
      subst he1
      have hcc := reads_cell hc k hlt
      have hc0 := reads_cell hc 0 (by omega)
      have hc1 : 0 < k → wr.cell? ⟨b, off + (k - 1), none⟩ = some (.int .i64 (l.getD (k - 1) 0)) := fun h => reads_cell hc (k - 1) (by omega)
      clear hc hb he2 he3 hB
      rw [Nat.add_zero] at hc0
      have NO := Lib.hid (fun h : ¬ GoodC l k => mayC_no hlt h)
      have YES := Lib.hid (fun h : GoodC l k => (show ∀ j, j < k + 1 → GoodC l j from fun j hj => by
        by_cases e : j = k
        · subst e; exact h
        · exact HNO.out j (by omega)))
      obtain ⟨x, hx⟩ : ∃ x, l.getD k 0 = x := ⟨_, rfl⟩
      obtain ⟨z, hz⟩ : ∃ z, l.getD 0 0 = z := ⟨_, rfl⟩
      obtain ⟨y, hy⟩ : ∃ y, l.getD (k - 1) 0 = y := ⟨_, rfl⟩
      rw [hx] at hcc
      rw [hz] at hc0
      rw [hy] at hc1
      have G : Hid (GoodC l k ↔ (¬ x < 0) ∧ (¬ 4096 < x) ∧ (0 < k → ¬ x ≤ y ∧ ¬ z = 0)) := by
        show _ ↔ _
        unfold GoodC; rw [hx, hy, hz]
      clear hx hy hz
      by_cases t1 : x < 0
      · have B := Lib.hid (NO.out (fun h => (G.out.1 h).1 t1))
        have d1 : decide (x < 0) = true := decide_eq_true t1
        go_wp2_with fail
        go_quiet (fail)
        have HBq := Lib.hid (below_drewN HB.out nq)
        generalize wr.drewN nq = wq at *
        go_wp2_with fail
        go_ret
        exact ⟨ret_boolE B.out, HBq.out⟩
      · have d1 : decide (x < 0) = false := decide_eq_false t1
        by_cases t2 : 4096 < x
        · have B := Lib.hid (NO.out (fun h => (G.out.1 h).2.1 t2))
          have d2 : decide (4096 < x) = true := decide_eq_true t2
          go_wp2_with fail
          go_quiet (fail)
          have HBq := Lib.hid (below_drewN HB.out nq)
          generalize wr.drewN nq = wq at *
          go_wp2_with fail
          go_ret
          exact ⟨ret_boolE B.out, HBq.out⟩
        · have d2 : decide (4096 < x) = false := decide_eq_false t2
          by_cases t0 : k = 0
          · subst t0
            have B := Lib.hid (YES.out (G.out.2 ⟨t1, t2, fun h => absurd h (by omega)⟩))
            clear hc1 hc0
            rw [Nat.add_zero] at hcc
            go_wp2_with fail
            go_quiet (fail)
            have HBq := Lib.hid (below_drewN HB.out nq)
            generalize wr.drewN nq = wq at *
            go_wp2_with fail
            go_roundg (gk - 1)
            case rel => exact ⟨1, by omega, rfl, HBq.out, B.out⟩
            case measure => omega
          · have hk0 : (0 : Int) < (k : Int) := by omega
            have hkp : 0 < k := by omega
            have d3 : decide (0 < k) = true := decide_eq_true hkp
            have hc1' := hc1 (by omega)
            have e1 : ((k : Int) - 1) = ((k - 1 : Nat) : Int) := by omega
            clear hc1
            by_cases t3 : x ≤ y
            · have B := Lib.hid (NO.out (fun h => ((G.out.1 h).2.2 (by omega)).1 t3))
              have d4 : decide (x ≤ y) = true := decide_eq_true t3
              go_wp2_with fail
              go_quiet (fail)
              have HBq := Lib.hid (below_drewN HB.out nq)
              generalize wr.drewN nq = wq at *
              go_wp2_with fail
              go_ret
              exact ⟨ret_boolE B.out, HBq.out⟩
            · have d4 : decide (x ≤ y) = false := decide_eq_false t3
              by_cases t4 : z = 0
              · have B := Lib.hid (NO.out (fun h => ((G.out.1 h).2.2 (by omega)).2 t4))
                have d5 : (z == 0) = true := by simp [t4]
                go_wp2_with fail
                go_quiet (fail)
                have HBq := Lib.hid (below_drewN HB.out nq)
                generalize wr.drewN nq = wq at *
                go_wp2_with fail
                go_ret
                exact ⟨ret_boolE B.out, HBq.out⟩
              · have B := Lib.hid (YES.out (G.out.2 ⟨t1, t2, fun _ => ⟨t3, t4⟩⟩))
                have d5 : (z == 0) = false := by simp [t4]
                go_wp2_with fail
                go_quiet (fail)
                have HBq := Lib.hid (below_drewN HB.out nq)
                generalize wr.drewN nq = wq at *
                go_wp2_with fail
                go_roundg (gk - 1)
                case rel => exact ⟨k + 1, by omega, by go_num, HBq.out, B.out⟩
                case measure => omega
    · have B := Lib.hid (mayC_yes (l := l) (fun j hj => HNO.out j (by omega)))
      clear hB
      go_wp2_with fail
      go_ret
      exact ⟨ret_boolE B.out, HB.out⟩
/-- A block of the call's own that is a row of numbers. -/
def IRow (w : World) (g : Nat) (L : List Int) : Prop := w.heap[g]? = some (.cells (L.map (Value.int .i64)).toArray 3 (0, 0))
theorem IRow.lt {w : World} {g : Nat} {L : List Int} (h : IRow w g L) : g < w.heap.size := (Array.getElem?_eq_some_iff.1 h).1
theorem IRow.cell {w : World} {g : Nat} {L : List Int} (h : IRow w g L) {j : Nat} (hj : j < L.length) : w.cell? ⟨g, j, none⟩ = some (.int .i64 L[j]) := by unfold IRow at h; simp [World.cell?, h, hj]
theorem IRow.cellD {w : World} {g : Nat} {L : List Int} (h : IRow w g L) {j : Nat} (hj : j < L.length) : w.cell? ⟨g, j, none⟩ = some (.int .i64 (L.getD j 0)) := by rw [getD_at hj]; exact h.cell hj
theorem IRow.fz {w : World} {g : Nat} {L : List Int} (h : IRow w g L) (j : Nat) : w.frozen? ⟨g, j, none⟩ = false := by unfold IRow at h; simp [World.frozen?, h]
theorem IRow.set {w : World} {g : Nat} {L : List Int} (h : IRow w g L) (j : Nat) (x : Int) : IRow (w.setCell ⟨g, j, none⟩ (.int .i64 x)) g (L.set j x) := by
  unfold IRow at *
  rw [Go.heap_setCell_same w g j _ _ _ h, List.map_set]
  simp
theorem IRow.block {w w' : World} {g : Nat} {L : List Int} (h : IRow w g L) (hb : w'.heap[g]? = w.heap[g]?) : IRow w' g L := hb.trans h
theorem IRow.below {w w' : World} {g : Nat} {L : List Int} (h : IRow w g L) (hB : Below w.heap.size w w') : IRow w' g L := h.block (hB.block g h.lt)
theorem IRow.other {w : World} {g i : Nat} {L : List Int} {j : Nat} {v : Value} (h : IRow w g L) (hi : i ≠ g) : IRow (w.setCell ⟨i, j, none⟩ v) g L := h.block (Go.heap_setCell_other w _ g _ (by simpa using Ne.symm hi))
theorem IRow.own {w : World} {g B : Nat} {L : List Int} (h : IRow w g L) (hB : B ≤ g) (hl : L.length = 4097) : COwn w B (.slice (some ⟨g, 0, none⟩) 4097 4097) L := by
  refine COwn.of ⟨by simp, .inr ⟨g, 4097, _, by rw [hl], hB, h, by omega, by decide, by simp [hl], ?_⟩⟩
  rw [List.take_of_length_le (by simp [hl])]
theorem IRow.of {w : World} {g B : Nat} {L : List Int} {n c : Nat} (h : COwn w B (.slice (some ⟨g, 0, none⟩) n c) L) (hc : c = L.length) : IRow w g L := by
  obtain ⟨h0, ⟨h1, _⟩ | ⟨g', cap, cur, hv, h1, h2, h3, h4, h5, h6⟩⟩ := h.map
  · cases h1
  · injection hv with e1 e2 e3
    injection e1 with e1
    injection e1 with e1
    subst e1; subst e3
    unfold IRow
    rw [h2]
    rw [List.take_of_length_le (by rw [Array.length_toList, h5, hc]; omega)] at h6
    rw [← h6]
theorem make_ints (w : World) : (Instr.makeSlice 22 (.int .i64 4097) (.int .i64 4097)).run Try.prog w = .ok (.slice (some ⟨w.heap.size, 0, none⟩) 4097 4097) (w.alloc (.cells (madeCells #[.int .i64 0] 4097) 3)) :=
  run_make_row' (P := Try.prog) 22 3 (.int .i64 0) 8 Try.underlying22 info_int rfl .i64 .i64 4097 (by decide) (by decide) w
theorem made_irowN (w : World) (n : Nat) : IRow (w.alloc (.cells (madeCells #[.int .i64 0] n) 3)) w.heap.size (List.replicate n 0) := by
  unfold IRow
  rw [heap_alloc_new]
  rw [List.map_replicate, ← toList_madeCells_one]
theorem made_irow (w : World) : IRow (w.alloc (.cells (madeCells #[.int .i64 0] 4097) 3)) w.heap.size (List.replicate 4097 0) := made_irowN w 4097
set_option maxHeartbeats 1600000 in
set_option maxRecDepth 100000 in
theorem bits_any (l : List Int) (v : Value) (w : World) (h : ReadsK encC 1 w v l) (hm : mayC l = true) :
    Calls Try.prog 37 #[v] w fun e w' => ∃ g, e = .returned (.slice (some ⟨g, 0, none⟩) 4097 4097) ∧ w.heap.size ≤ g ∧ IRow w' g (bitL l) ∧ Below w.heap.size w w' := by
  obtain ⟨a, c, rfl⟩ := h.slice
  have HR := Lib.hid h
  have HGE := Lib.hid (mayC_ge hm)
  have hll := (mayC_sc hm).len
  clear h hm
  have hmk := make_ints
  have HI := Lib.hid (made_irow w)
  have HB0 : Hid (Below w.heap.size w (w.alloc (.cells (madeCells #[.int .i64 0] 4097) 3))) := (Below.refl _ _).alloc (Nat.le_refl _) _
  go_enter Try.func37, Try.ntmps37
  go_wp2_with fail
  go_loopg [4] l.length (fun gk i wr => ∃ k : Nat, gk + k = l.length ∧ i = .int .i64 k ∧ IRow wr w.heap.size (setA (List.replicate 4097 0) (l.take k)) ∧ Below w.heap.size w wr)
  case atStart => exact ⟨0, by omega, rfl, HI.out, HB0.out⟩
  case round =>
    clear hmk HI HB0
    obtain ⟨k, hk, rfl, hI, hB⟩ := hrel
    have HB := Lib.hid hB
    have HI := Lib.hid hI
    clear hI hB
    by_cases hlt : k < l.length
    · obtain ⟨b, off, cc, he, hb, hc⟩ := (HR.out.below HB.out).at (by omega)
      injection he with he1 he2 he3
      subst he1
      have k1 : wr.cell? ⟨b, off + k, none⟩ = some (.int .i64 l[k]) := by have h := hc k hlt 0 _ rfl; rw [Nat.mul_one, Nat.add_zero] at h; exact h
      have hx := HGE.out _ (List.getElem_mem hlt)
      have HI2 := Lib.hid (HI.out.set l[k].toNat 1)
      rw [← setA_take hlt] at HI2
      have hlen : (setA (List.replicate 4097 0) (l.take k)).length = 4097 := by rw [setA_len, List.length_replicate]
      have k2 := HI.out.cellD (j := l[k].toNat) (by omega)
      have HB2 := Lib.hid (HB.out.setCell (p := ⟨w.heap.size, l[k].toNat, none⟩) (Nat.le_refl _) (.int .i64 1))
      have f2 := HI.out.fz l[k].toNat
      obtain ⟨x, hxx⟩ : ∃ x : Nat, l[k] = (x : Int) := ⟨l[k].toNat, by omega⟩
      rw [hxx, Int.toNat_natCast] at HI2 HB2 k2 f2
      rw [hxx] at k1 hx
      clear hc hb he2 he3 hlen hxx
      go_wp2_with fail
      go_roundg (gk - 1)
      case rel => exact ⟨k + 1, by omega, by go_num, HI2.out, HB2.out⟩
      case measure => omega
    · have HE := Lib.hid (show l.take k = l from List.take_of_length_le (by omega))
      go_wp2_with fail
      go_ret
      exact ⟨_, rfl, Nat.le_refl _, by have := HI.out; rw [HE.out] at this; exact this, HB.out⟩
set_option maxHeartbeats 1600000 in
set_option maxRecDepth 100000 in
theorem rcred_any (L : List Int) (g : Nat) (w : World) (hl : L.length = 4097) (h : IRow w g L) :
    Calls Try.prog 39 #[.slice (some ⟨g, 0, none⟩) 4097 4097] w fun e w' => ∃ v, e = .returned v ∧ COwn w' w.heap.size v (crF 0 L) ∧ Below w.heap.size w w' := by
  obtain ⟨ig, hig, hg0, hg1, hg2⟩ := info_parts info_int
  have HI0 := Lib.hid h
  clear h
  have HL := Lib.hid hl
  go_enter Try.func39, Try.ntmps39
  go_wp2_with fail
  go_loopg [3, 4] 4097 (fun gk sv i wr => ∃ k : Nat, gk + k = 4097 ∧ i = .int .i64 k ∧ COwn wr w.heap.size sv (crF 0 (L.take k)) ∧ Below w.heap.size w wr)
  case atStart => exact ⟨0, by omega, rfl, COwn.nil _ _, Below.refl _ _⟩
  case round =>
    obtain ⟨k, hk, rfl, hO, hB⟩ := hrel
    have HB := Lib.hid hB
    have HO := Lib.hid hO
    clear hO hB
    have hI := HI0.out.below HB.out
    by_cases hlt : k < 4097
    · have k1 := hI.cell (j := k) (by omega)
      have HT := Lib.hid (crF_take (l := L) (j := k) (by omega))
      have hcl := (crF_sc (l := L.take k) (by rw [List.length_take]; omega)).len
      generalize L[k] = x at k1 HT
      generalize crF 0 (L.take k) = C at *
      by_cases h1 : x = 1
      · have d1 : (x == 1) = true := by simp [h1]
        rw [if_pos h1] at HT
        clear h1 hI
        go_wp2_with (at_builtin; refine wpList_append_own _ rfl _ _ 23 rfl w.heap.size 3 ig (.int .i64 0) 1 8 Try.underlying23 hig hg0 hg1 hg2 rfl (by decide) _ _ _ rfl (HO.out.alloc _) ⟨wr.heap.size, 0, none⟩ 1 1 [.int .i64 (k : Int)] rfl rfl ?c1 ?c2 ?c3 ?c4 ?c5 ?_)
        case c1 => exact int_cell
        case c2 => first | exact int_one _ | rfl
        case c3 => unfold maxLen; omega
        case c4 => omega
        case c5 => have := HB.out.size; simp; omega
        intro v' w4 hown hgrow _
        have HO4 := Lib.hid (COwn.snoc (l := C) hown)
        have HB4 := Lib.hid (own_grown HO.out HB.out hgrow)
        clear hown hgrow HO HB
        go_wp2_with fail
        go_roundg (gk - 1)
        case rel => exact ⟨k + 1, by omega, by go_num, by rw [HT.out]; exact HO4.out, HB4.out⟩
        case measure => omega
      · have d1 : (x == 1) = false := by simp [h1]
        rw [if_neg h1, List.append_nil] at HT
        clear h1 hI
        go_wp2_with fail
        go_roundg (gk - 1)
        case rel => exact ⟨k + 1, by omega, by go_num, by rw [HT.out]; exact HO.out, HB.out⟩
        case measure => omega
    · have HE := Lib.hid (show L.take k = L from List.take_of_length_le (by omega))
      clear hI
      go_wp2_with fail
      go_ret
      exact ⟨_, rfl, by have := HO.out; rw [HE.out] at this; exact this, HB.out⟩
end Go.Proofs.Ytgjmnmcbinekdaa
