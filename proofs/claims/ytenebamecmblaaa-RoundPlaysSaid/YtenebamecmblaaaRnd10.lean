/- What no rounds answer. -/
import Derived.Test.YtenebamecmblaaaRnd9
import Derived.Test.YtenebamecmblaaaOpen22
namespace Go.Proofs.Ytenebamecmblaaa
open Go.RowKit Go.Sort Go.Lib

set_option maxHeartbeats 800000
set_option maxRecDepth 100000
theorem nil_of (n : Int) (w : World) : Calls Try.prog 25 #[.pointer none, .int .u64 n] w fun e w' => e = .returned (.pointer none) ∧ w' = w := by
  go_enter Try.func25, Try.ntmps25
  go_wp2_with fail
  go_ret
  exact ⟨rfl, rfl⟩
theorem nil_begin (n : Int) (w : World) : Calls Try.prog 8 #[.pointer none, .int .u64 n] w fun e w' => e = .returned (.int .i64 1) ∧ w' = w := by
  go_enter Try.func8, Try.ntmps8
  go_wp2_with fail
  go_ret
  exact ⟨ret_intE rfl, rfl⟩
theorem nil_give (n : Nm) (w : World) : Calls Try.prog 13 #[.pointer none, .agg #[.int .u64 n.1, .string n.2]] w fun e w' => e = .returned (.tuple #[.slice none 0 0, .int .i64 1]) ∧ Below w.heap.size w w' := by
  go_enter Try.func13, Try.ntmps13
  go_wp2_with fail
  refine (nil_of n.1 _).mono ?_
  rintro e w2 ⟨rfl, rfl⟩
  go_wp2_with fail
  go_ret2
  exact ⟨rfl, below_allocC _ _⟩
theorem nil_over (n : Int) (w : World) : Calls Try.prog 22 #[.pointer none, .int .u64 n] w fun e w' => e = .returned (.bool false) ∧ w' = w := by
  go_enter Try.func22, Try.ntmps22
  go_wp2_with fail
  refine (nil_of n _).mono ?_
  rintro e w2 ⟨rfl, rfl⟩
  go_wp2_with fail
  go_ret
  exact ⟨ret_boolE rfl, rfl⟩
theorem nil_held (n : Int) (w : World) : Calls Try.prog 19 #[.pointer none, .int .u64 n] w fun e w' => e = .returned (.tuple #[.slice none 0 0, .bool false]) ∧ w' = w := by
  go_enter Try.func19, Try.ntmps19
  go_wp2_with fail
  refine (nil_of n _).mono ?_
  rintro e w2 ⟨rfl, rfl⟩
  go_wp2_with fail
  go_ret2
  exact ⟨rfl, rfl⟩
theorem nil_out (n : Int) (w : World) : Calls Try.prog 20 #[.pointer none, .int .u64 n] w fun e w' => e = .returned (.slice none 0 0) ∧ w' = w := by
  go_enter Try.func20, Try.ntmps20
  go_wp2_with fail
  refine (nil_of n _).mono ?_
  rintro e w2 ⟨rfl, rfl⟩
  go_wp2_with fail
  go_ret
  exact ⟨rfl, rfl⟩
theorem nil_drop (l : List Int) (v : Value) (w : World) (hv : ReadsK encU1 1 w v l) (hl : l.length ≤ 1000000) : Calls Try.prog 9 #[.pointer none, v] w fun e w' => e = .returned (.int .i64 0) ∧ w' = w := by
  obtain ⟨a, c, rfl⟩ := hv.slice
  have HV := Lib.hid hv
  clear hv
  go_enter Try.func9, Try.ntmps9
  go_wp2_with fail
  go_loopg [4, 9] l.length (fun gk cn i wr => ∃ (k : Nat), gk + k = l.length ∧ cn = .int .i64 0 ∧ i = .int .i64 k ∧ wr = w)
  case atStart => exact ⟨0, by omega, rfl, rfl, rfl⟩
  case round =>
    obtain ⟨k, hk, rfl, rfl, hwr⟩ := hrel
    have hwr := hwr.symm
    subst hwr
    by_cases hlt : k < l.length
    · obtain ⟨b, off, cc, he, hb, hc⟩ := HV.out.at (by omega)
      injection he with he1 he2 he3
      subst he1
      have k1 : w.cell? ⟨b, off + k, none⟩ = some (.int .u64 l[k]) := by have h := hc k hlt 0 _ rfl; rw [Nat.mul_one, Nat.add_zero] at h; exact h
      clear hc hb he2 he3
      go_wp2_with fail
      refine (nil_of _ _).mono ?_
      rintro e w2 ⟨rfl, hw2⟩
      subst hw2
      clear k1
      go_wp2_with fail
      go_roundg (gk - 1)
      case rel => exact ⟨k + 1, by omega, rfl, by go_num, rfl⟩
      case measure => omega
    · go_wp2_with fail
      go_ret
      exact ⟨ret_intE rfl, rfl⟩
theorem nil_take (l : List Nm) (v : Value) (w : World) (hv : ReadsK encM 2 w v l) (hl : l.length ≤ 1000000) : Calls Try.prog 18 #[.pointer none, v] w fun e w' => e = .returned (.int .i64 0) ∧ Below w.heap.size w w' := by
  obtain ⟨a, c, rfl⟩ := hv.slice
  have HV := Lib.hid hv
  clear hv
  go_enter Try.func18, Try.ntmps18
  go_wp2_with fail
  go_loopg [4, 10] l.length (fun gk cn i wr => ∃ (k : Nat), gk + k = l.length ∧ cn = .int .i64 0 ∧ i = .int .i64 k ∧ Below w.heap.size w wr)
  case atStart => exact ⟨0, by omega, rfl, rfl, Below.refl _ _⟩
  case round =>
    obtain ⟨k, hk, rfl, rfl, hB⟩ := hrel
    have HB := Lib.hid hB
    clear hB
    by_cases hlt : k < l.length
    · obtain ⟨b, off, cc, he, hb, hc⟩ := (HV.out.below HB.out).at (by omega)
      injection he with he1 he2 he3
      subst he1
      have k1 : wr.cell? ⟨b, off + k * 2, none⟩ = some (.int .u64 l[k].1) := by have h := hc k hlt 0 _ rfl; rw [Nat.add_zero] at h; exact h
      have k2 : wr.cell? ⟨b, off + k * 2 + 1, none⟩ = some (.string l[k].2) := by have h := hc k hlt 1 _ rfl; rw [← Nat.add_assoc] at h; exact h
      clear hc hb he2 he3
      go_wp2_with fail
      refine (nil_of _ _).mono ?_
      rintro e w2 ⟨rfl, hw2⟩
      subst hw2
      clear k1 k2
      go_wp2_with fail
      go_quiet (fail)
      go_wp2_with fail
      go_roundg (gk - 1)
      case rel => exact ⟨k + 1, by omega, rfl, by go_num, below_drewN (gthen HB.out (below_allocC wr _)) _⟩
      case measure => omega
    · go_wp2_with fail
      go_ret
      exact ⟨ret_intE rfl, HB.out⟩
structure Nn (w : World) (n : Nm) (w1 : World) : Prop where
  low : Below w.heap.size w w1
  sz : w.heap.size < w1.heap.size
  c0 : w1.cell? ⟨w.heap.size, 0, none⟩ = some (.int .u64 n.1)
  c1 : w1.cell? ⟨w.heap.size, 1, none⟩ = some (.string n.2)
theorem Nn.below {w w1 w2 : World} {n : Nm} (h : Nn w n w1) (hB : Below w1.heap.size w1 w2) : Nn w n w2 :=
  ⟨h.low.trans (hB.mono h.low.size), Nat.lt_of_lt_of_le h.sz hB.size, (hB.cell (p := ⟨w.heap.size, 0, none⟩) h.sz).trans h.c0, (hB.cell (p := ⟨w.heap.size, 1, none⟩) h.sz).trans h.c1⟩
theorem Nn.start (w : World) (n : Nm) : Nn w n (w.alloc (.cells #[.int .u64 n.1, .string n.2] 35)) :=
  ⟨(Below.refl _ _).alloc (Nat.le_refl _) _, by simp, by simp, by simp⟩
theorem u1_read (w : World) (n : Int) : ReadsK encU1 1 (w.alloc (.cells #[.int .u64 n] 26)) (.slice (some ⟨w.heap.size, 0, none⟩) 1 1) [n] := by
  have hb := heap_alloc_new w (.cells #[.int .u64 n] 26)
  refine .inr ⟨w.heap.size, 0, 1, rfl, by simp, fun i hi t u hu => ?_⟩
  have ht := (List.getElem?_eq_some_iff.1 hu).1
  have hi0 : i = 0 := by simp at hi; omega
  subst hi0
  have ht2 : t = 0 := by have : t < 1 := ht; omega
  subst ht2
  unfold World.cell?
  rw [hb]
  simpa [encU1] using hu
set_option maxHeartbeats 3200000 in
theorem none_any (n : Nm) (w : World) : Calls Try.prog 6 #[.agg #[.int .u64 n.1, .string n.2]] w fun e w' => e = .returned (.bool true) ∧ Below w.heap.size w w' := by
  have hB0 := below_allocC w (.cells #[.int .u64 n.1, .string n.2] 35)
  go_enter Try.func6, Try.ntmps6
  by_cases hg : (n.2.size : Int) > 1024
  · go_wp2_with fail
    refine (works_any _).mono ?_
    rintro e w1 ⟨rfl, hB⟩
    go_wp2_with fail
    go_ret
    exact ⟨ret_boolE rfl, gthen hB0 hB⟩
  · go_wp2_with fail
    refine (nil_give n _).mono ?_
    rintro e w1 ⟨rfl, hB⟩
    have HN := Lib.hid ((Nn.start w n).below hB)
    clear hB hB0
    have c0 := HN.out.c0; have c1 := HN.out.c1
    go_wp2_with fail
    refine (nil_held n.1 _).mono ?_
    rintro e w2 ⟨rfl, hw⟩
    have hw := hw.symm
    subst hw
    go_wp2_with fail
    refine (nil_begin n.1 _).mono ?_
    rintro e w2 ⟨rfl, hw⟩
    have hw := hw.symm
    subst hw
    have hR := names_read1 w1 n
    replace HN := Lib.hid (HN.out.below (below_allocC w1 (.cells #[.int .u64 n.1, .string n.2] 35)))
    go_wp2_with fail
    refine (nil_take [n] _ _ hR (by simp)).mono ?_
    rintro e w3 ⟨rfl, hB⟩
    replace HN := Lib.hid (HN.out.below hB)
    clear c0 c1 hB hR
    have c0 := HN.out.c0; have c1 := HN.out.c1
    go_wp2_with fail
    refine (nil_over n.1 _).mono ?_
    rintro e w2 ⟨rfl, hw⟩
    have hw := hw.symm
    subst hw
    go_wp2_with fail
    refine (nil_out n.1 _).mono ?_
    rintro e w2 ⟨rfl, hw⟩
    have hw := hw.symm
    subst hw
    have hR := u1_read w3 n.1
    replace HN := Lib.hid (HN.out.below (below_allocC w3 (.cells #[.int .u64 n.1] 26)))
    go_wp2_with fail
    refine (nil_drop [n.1] _ _ hR (by simp)).mono ?_
    rintro e w2 ⟨rfl, hw⟩
    rw [hw]
    clear c0 c1 hR hw
    go_wp2_with fail
    refine (works_any _).mono ?_
    rintro e w5 ⟨rfl, hB⟩
    replace HN := Lib.hid (HN.out.below hB)
    clear hB
    go_wp2_with fail
    go_ret
    exact ⟨ret_boolE rfl, HN.out.low⟩
/-- At what came in. -/
theorem none_row (v : Value) (w : World) (h : ∃ n : Nm, v = .agg #[.int .u64 n.1, .string n.2] ∧ (Lit.int .u64 n.1).wf = true ∧ n.2.size ≤ maxLen) : Calls Try.prog 6 #[v] w fun e w' => e = .returned (.bool true) ∧ Below w.heap.size w w' := by
  obtain ⟨n, rfl, _, _⟩ := h
  exact none_any n w
end Go.Proofs.Ytenebamecmblaaa
