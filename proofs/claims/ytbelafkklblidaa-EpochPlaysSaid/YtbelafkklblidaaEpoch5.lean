/- Contracts: cmp.Compare at uint64, cmp.Or at int, the comparison of grants. -/
import Derived.Test.YtbelafkklblidaaEpoch4
import Derived.Deep.RegionHeld3
import Derived.Shelf.SlSortCmp.WholeK
namespace Go.Proofs.Ytbelafkklblidaa
open Go.RowKit Go.Sort Go.Lib

def cmpU (a b : Int) : Int := if a < b then -1 else if b < a then 1 else 0
def orI (a b : Int) : Int := if a = 0 then b else a
abbrev Gr := Nm × Int
def cmpG (x y : Gr) : Int := orI (cmpU x.1.1 y.1.1) (cmpS x.1.2 y.1.2)

set_option maxHeartbeats 400000 in
theorem isNaNU (a : Int) (w : World) : Calls Try.prog 45 #[.int .u64 a] w fun e w' => e = .returned (.bool false) ∧ w = w' := by
  go_enter Try.func45, Try.ntmps45
  go_wp2
  go_ret
  exact ⟨ret_bool rfl, rfl⟩

set_option maxHeartbeats 400000 in
theorem cmpU_any (a b : Int) (w : World) : Calls Try.prog 37 #[.int .u64 a, .int .u64 b] w fun e w' => e = .returned (.int .i64 (cmpU a b)) ∧ w' = w := by
  rcases (show a < b ∨ (¬ a < b ∧ b < a) ∨ (¬ a < b ∧ ¬ b < a) by omega) with h1 | ⟨h1, h2⟩ | ⟨h1, h2⟩
  · have hf := Lib.hid (show cmpU a b = -1 by simp [cmpU, h1])
    go_enter Try.func37, Try.ntmps37
    go_wp2_with (go_at_call 45; refine (isNaNU _ _).mono ?_; rintro e w' ⟨rfl, rfl⟩)
    go_ret
    exact ⟨ret_int hf.out.symm, rfl⟩
  · have hf := Lib.hid (show cmpU a b = 1 by simp [cmpU, h1, h2])
    go_enter Try.func37, Try.ntmps37
    go_wp2_with (go_at_call 45; refine (isNaNU _ _).mono ?_; rintro e w' ⟨rfl, rfl⟩)
    go_ret
    exact ⟨ret_int hf.out.symm, rfl⟩
  · have hf := Lib.hid (show cmpU a b = 0 by simp [cmpU, h1, h2])
    go_enter Try.func37, Try.ntmps37
    go_wp2_with (go_at_call 45; refine (isNaNU _ _).mono ?_; rintro e w' ⟨rfl, rfl⟩)
    go_ret
    exact ⟨ret_int hf.out.symm, rfl⟩

set_option maxHeartbeats 800000 in
theorem or_any (g : Nat) (a b : Int) (w : World) (h0 : w.cell? ⟨g, 0, none⟩ = some (.int .i64 a)) (h1 : w.cell? ⟨g, 1, none⟩ = some (.int .i64 b)) :
    Calls Try.prog 36 #[.slice (some ⟨g, 0, none⟩) 2 2] w fun e w' => e = .returned (.int .i64 (orI a b)) ∧ w' = w := by
  go_enter Try.func36, Try.ntmps36
  by_cases ha : a = 0
  · have ha' : (a != 0) = false := by simp [ha]
    have hb01 : b = 0 ∨ b ≠ 0 := by omega
    have hf := Lib.hid (show orI a b = b by simp [orI, ha])
    clear ha
    go_wp2
    go_loop [8] (fun i => i = .int .i64 0 ∨ i = .int .i64 1 ∨ (i = .int .i64 2 ∧ Hid (b = 0))) (fun i => 2 - (intOf i).toNat)
    case atStart => exact .inl rfl
    case round =>
      rcases hrel with rfl | rfl | ⟨rfl, hb⟩
      · go_wp2
        go_round
        case rel => exact .inr (.inl rfl)
        case measure => simp [intOf]
      · rcases hb01 with hb | hb
        · have hb' : (b != 0) = false := by simp [hb]
          have HB := Lib.hid hb
          clear hb
          go_wp2
          go_round
          case rel => exact .inr (.inr ⟨rfl, HB⟩)
          case measure => simp [intOf]
        · have hb' : (b != 0) = true := by simpa using hb
          clear hb
          go_wp2
          go_ret
          exact ⟨ret_int hf.out.symm, rfl⟩
      · clear hb01
        go_wp2
        go_ret
        exact ⟨ret_int (hf.out.trans hb.out).symm, rfl⟩
  · have ha' : (a != 0) = true := by simpa using ha
    have hf := Lib.hid (show orI a b = a by simp [orI, ha])
    clear ha
    go_wp2
    refine wp_loop_rounds 3 ?_
    simp only [rounds_succ]
    go_wp2
    go_ret
    exact ⟨ret_int hf.out.symm, rfl⟩

theorem grown3 (w : World) (a b c : Obj) : ∃ q os, (((w.alloc a).alloc b).alloc c).drew = grow (w.drewN q) os := by
  refine ⟨1, #[a, b, c], ?_⟩
  simp only [grow, World.alloc, World.drew, World.drewN]
  congr 1

set_option maxHeartbeats 1600000 in
set_option maxRecDepth 100000 in
theorem rowsCmp (x y : Gr) (w : World) : Calls Try.prog 35 #[.agg #[.int .u64 x.1.1, .string x.1.2, .int .u64 x.2], .agg #[.int .u64 y.1.1, .string y.1.2, .int .u64 y.2]] w fun e w' =>
    e = .returned (.int .i64 (cmpG x y)) ∧ ∃ q os, w' = grow (w.drewN q) os := by
  go_enter Try.func35, Try.ntmps35
  go_wp2_with fail
  go_region_held3 (fun w' => w'.cell? ⟨w.heap.size, 0, none⟩ = some (.int .u64 x.1.1) ∧ w'.cell? ⟨w.heap.size, 1, none⟩ = some (.string x.1.2) ∧ w'.cell? ⟨w.heap.size + 1, 0, none⟩ = some (.int .u64 y.1.1) ∧ w'.cell? ⟨w.heap.size + 1, 1, none⟩ = some (.string y.1.2)) ((simp [go_sem, World.cell?_alloc_past]))
    (first
      | (go_at_call 37; refine (cmpU_any _ _ _).mono ?_; rintro e w' ⟨rfl, rfl⟩)
      | (go_at_call 38; refine (compare_any _ _ _).mono ?_; rintro e w' ⟨rfl, rfl⟩)
      | (go_at_call 36; refine (or_any _ (cmpU x.1.1 y.1.1) (cmpS x.1.2 y.1.2) _ (by simp [go_sem]) (by simp [go_sem])).mono ?_; rintro e w' ⟨rfl, rfl⟩))
  all_goals
    go_wp2_with fail
    go_ret
    exact ⟨ret_int rfl, grown3 w _ _ _⟩
end Go.Proofs.Ytbelafkklblidaa
