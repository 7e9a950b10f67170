/- TicksNone, whole: what nothing answers. -/
import Derived.Test.YteladooegjgdnaaHp15
namespace Go.Proofs.Yteladooegjgdnaa
open Go.RowKit Go.Sort Go.Lib

set_option maxHeartbeats 6400000 in
set_option maxRecDepth 100000 in
theorem ticksnone_row (key : ByteArray) (a : Int) (w : World) : Calls Try.prog 6 #[.string key, .int .i64 a] w fun e w' => e = .returned (.bool true) ∧ Below w.heap.size w w' := by
  go_enter Try.func6, Try.ntmps6
  by_cases hk : (1024 : Int) < key.size
  · go_wp2_with fail
    refine (works_any _).mono ?_
    rintro e w1 ⟨rfl, hB⟩
    have HB := Lib.hid hB
    clear hB
    go_wp2_with fail
    go_ret
    exact ⟨rfl, HB.out⟩
  · go_wp2_with fail
    refine (next_nil _).mono ?_
    rintro e w1 ⟨rfl, hB⟩
    have hnv : nextV [] = .tuple #[.agg #[.string ⟨#[]⟩, .int .i64 0], .bool false] := rfl
    rw [hnv]
    have HB1 := Lib.hid hB
    clear hB hnv
    go_wp2_with fail
    refine (tick_nil a _).mono ?_
    rintro e w2 ⟨rfl, hB⟩
    have HB2 := Lib.hid (gthen (gthen HB1.out (alT w1 _)) hB)
    have n0 : w2.cell? ⟨w1.heap.size, 0, none⟩ = some (.string ⟨#[]⟩) := (hB.cell (p := ⟨w1.heap.size, 0, none⟩) (by simp)).trans (by simp [go_sem])
    have n1 : w2.cell? ⟨w1.heap.size, 1, none⟩ = some (.int .i64 0) := (hB.cell (p := ⟨w1.heap.size, 1, none⟩) (by simp)).trans (by simp [go_sem])
    clear hB HB1
    go_wp2_with fail
    refine (now_nil _).mono ?_
    rintro e w3 ⟨rfl, rfl⟩
    go_wp2_with fail
    refine (set_nil key a _).mono ?_
    rintro e w4 ⟨rfl, hB⟩
    have HB4 := Lib.hid (gthen HB2.out hB)
    have m0 := (hB.cell (p := ⟨w1.heap.size, 0, none⟩) (World.block_lt_of_cell? _ _ n0)).trans n0
    have m1 := (hB.cell (p := ⟨w1.heap.size, 1, none⟩) (World.block_lt_of_cell? _ _ n1)).trans n1
    clear hB HB2 n0 n1
    generalize w1.heap.size = nb at *
    have hB5 : Below w4.heap.size w4 (w4.alloc (.cells #[.string key] 9)) := alT w4 _
    have HB5 := Lib.hid (gthen HB4.out hB5)
    have n0 := (hB5.cell (p := ⟨nb, 0, none⟩) (World.block_lt_of_cell? _ _ m0)).trans m0
    have n1 := (hB5.cell (p := ⟨nb, 1, none⟩) (World.block_lt_of_cell? _ _ m1)).trans m1
    clear hB5 HB4
    go_wp2_with fail
    refine (stop_nil _ _).mono ?_
    rintro e w5 ⟨rfl, rfl⟩
    go_wp2_with fail
    refine (all_nil _).mono ?_
    rintro e w6 ⟨rfl, rfl⟩
    go_wp2_with fail
    refine (works_any _).mono ?_
    rintro e w7 ⟨rfl, hB⟩
    have HB7 := Lib.hid (gthen HB5.out hB)
    clear hB
    go_wp2_with fail
    go_ret
    exact ⟨rfl, HB7.out⟩
end Go.Proofs.Yteladooegjgdnaa
