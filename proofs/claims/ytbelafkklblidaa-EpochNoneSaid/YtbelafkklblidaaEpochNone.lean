/- EpochNone: its walk. -/
import Derived.Test.YtbelafkklblidaaEpoch12
import Derived.Test.YtbelafkklblidaaOpen22
namespace Go.Proofs.Ytbelafkklblidaa
open Go.RowKit Go.Sort Go.Lib

structure Nn (w : World) (n : Nm) (w1 : World) : Prop where
  low : Below w.heap.size w w1
  sz : w.heap.size < w1.heap.size
  c0 : w1.cell? ⟨w.heap.size, 0, none⟩ = some (.int .u64 n.1)
  c1 : w1.cell? ⟨w.heap.size, 1, none⟩ = some (.string n.2)
theorem Nn.below {w w1 w2 : World} {n : Nm} (h : Nn w n w1) (hB : Below w1.heap.size w1 w2) : Nn w n w2 :=
  ⟨h.low.trans (hB.mono h.low.size), Nat.lt_of_lt_of_le h.sz hB.size, (hB.cell (p := ⟨w.heap.size, 0, none⟩) h.sz).trans h.c0, (hB.cell (p := ⟨w.heap.size, 1, none⟩) h.sz).trans h.c1⟩
theorem Nn.start (w : World) (n : Nm) : Nn w n (w.alloc (.cells #[.int .u64 n.1, .string n.2] 35)) :=
  ⟨(Below.refl _ _).alloc (Nat.le_refl _) _, by simp, by simp, by simp⟩

set_option maxHeartbeats 1600000 in
set_option maxRecDepth 100000 in
theorem none_any (n : Nm) (x : Int) (w : World) (_hs : n.2.size ≤ 9223372036854775807) : Calls Try.prog 5 #[.agg #[.int .u64 n.1, .string n.2], .int .u64 x] w fun e w' => e = .returned (.bool true) ∧ Below w.heap.size w w' := by
  have hB0 : Below w.heap.size w (w.alloc (.cells #[.int .u64 n.1, .string n.2] 35)) := (Below.refl _ _).alloc (Nat.le_refl _) _
  go_enter Try.func5, Try.ntmps5
  by_cases hg : (n.2.size : Int) > 1024
  · go_wp2_with fail
    refine (works_any _).mono ?_
    rintro e w1 ⟨rfl, hB⟩
    go_wp2_with fail
    go_ret
    exact ⟨ret_bool rfl, gthen hB0 hB⟩
  · go_wp2_with fail
    refine (nil_grant n _).mono ?_
    rintro e w1 ⟨rfl, hB⟩
    have HN := Lib.hid ((Nn.start w n).below hB)
    clear hB hB0
    have c0 := HN.out.c0; have c1 := HN.out.c1
    go_wp2_with fail
    refine (nil_owner n _).mono ?_
    rintro e w2 ⟨rfl, hB⟩
    replace HN := Lib.hid (HN.out.below hB)
    clear c0 c1 hB
    unfold grV
    have H3 := Lib.hid (HN.out.below ((Below.refl w2.heap.size w2).alloc (Nat.le_refl _) (.cells #[.int .u64 0, .string ⟨#[]⟩, .int .u64 0] 43)))
    have c0 := H3.out.c0; have c1 := H3.out.c1
    go_wp2_with fail
    refine (nil_allows n x _).mono ?_
    rintro e w4 ⟨rfl, hB⟩
    replace HN := Lib.hid (H3.out.below hB)
    clear c0 c1 hB H3
    have c0 := HN.out.c0; have c1 := HN.out.c1
    go_wp2_with fail
    refine (nil_drop n.1 _).mono ?_
    rintro e w5 ⟨rfl, hB⟩
    replace HN := Lib.hid (HN.out.below hB)
    clear c0 c1 hB
    have c0 := HN.out.c0; have c1 := HN.out.c1
    go_wp2_with fail
    refine (nil_take n _).mono ?_
    rintro e w6 ⟨rfl, hB⟩
    replace HN := Lib.hid (HN.out.below hB)
    clear c0 c1 hB
    go_wp2_with fail
    refine (nil_rows _).mono ?_
    rintro e w7 ⟨rfl, rfl⟩
    go_wp2_with fail
    refine (nil_last _).mono ?_
    rintro e w8 ⟨rfl, rfl⟩
    go_wp2_with fail
    refine (works_any _).mono ?_
    rintro e w9 ⟨rfl, hB⟩
    replace HN := Lib.hid (HN.out.below hB)
    clear hB
    go_wp2_with fail
    go_ret
    exact ⟨ret_bool rfl, HN.out.low⟩

/-- For the row. -/
theorem none_row (v : Value) (x : Int) (W : World) (h : ∃ n : Nm, v = .agg #[.int .u64 n.1, .string n.2] ∧ (Lit.int .u64 n.1).wf = true ∧ n.2.size ≤ maxLen) (_ : (Lit.int .u64 x).wf = true) :
    Calls Try.prog 5 #[v, .int .u64 x] W fun e w' => e = .returned (.bool true) ∧ Below W.heap.size W w' := by
  obtain ⟨n, rfl, _, hs⟩ := h
  exact none_any n x W (by unfold maxLen at hs; omega)
end Go.Proofs.Ytbelafkklblidaa
