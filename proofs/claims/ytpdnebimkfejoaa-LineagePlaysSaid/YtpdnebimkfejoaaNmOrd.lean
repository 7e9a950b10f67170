/- The order of names; cmp.Compare, cmp.Or; lists sorted by names. -/
import Derived.Test.YtpdnebimkfejoaaOwnK
import Derived.Test.YtpdnebimkfejoaaLin6
import Derived.Test.YtpdnebimkfejoaaPlain12
import Derived.Sort.OwnSorted
import Derived.Deep.RegionHeld3
namespace Go.Proofs.Ytpdnebimkfejoaa
open Go.RowKit Go.Sort Go.Lib

def cmpU (a b : Int) : Int := if a < b then -1 else if b < a then 1 else 0
def orI (a b : Int) : Int := if a = 0 then b else a
def cmpN (x y : Nm) : Int := orI (cmpU x.1 y.1) (cmpS x.2 y.2)

set_option maxHeartbeats 400000 in
theorem isNaNU (a : Int) (w : World) : Calls Try.prog 70 #[.int .u64 a] w fun e w' => e = .returned (.bool false) ∧ w = w' := by
  go_enter Try.func70, Try.ntmps70
  go_wp2
  go_ret
  exact ⟨ret_bool rfl, rfl⟩

set_option maxHeartbeats 400000 in
theorem cmpU_any (a b : Int) (w : World) : Calls Try.prog 61 #[.int .u64 a, .int .u64 b] w fun e w' => e = .returned (.int .i64 (cmpU a b)) ∧ w' = w := by
  rcases (show a < b ∨ (¬ a < b ∧ b < a) ∨ (¬ a < b ∧ ¬ b < a) by omega) with h1 | ⟨h1, h2⟩ | ⟨h1, h2⟩
  · have hf := Lib.hid (show cmpU a b = -1 by simp [cmpU, h1])
    go_enter Try.func61, Try.ntmps61
    go_wp2_with (go_at_call 70; refine (isNaNU _ _).mono ?_; rintro e w' ⟨rfl, rfl⟩)
    go_ret
    exact ⟨ret_int hf.out.symm, rfl⟩
  · have hf := Lib.hid (show cmpU a b = 1 by simp [cmpU, h1, h2])
    go_enter Try.func61, Try.ntmps61
    go_wp2_with (go_at_call 70; refine (isNaNU _ _).mono ?_; rintro e w' ⟨rfl, rfl⟩)
    go_ret
    exact ⟨ret_int hf.out.symm, rfl⟩
  · have hf := Lib.hid (show cmpU a b = 0 by simp [cmpU, h1, h2])
    go_enter Try.func61, Try.ntmps61
    go_wp2_with (go_at_call 70; refine (isNaNU _ _).mono ?_; rintro e w' ⟨rfl, rfl⟩)
    go_ret
    exact ⟨ret_int hf.out.symm, rfl⟩

set_option maxHeartbeats 800000 in
theorem or_any (g : Nat) (a b : Int) (w : World) (h0 : w.cell? ⟨g, 0, none⟩ = some (.int .i64 a)) (h1 : w.cell? ⟨g, 1, none⟩ = some (.int .i64 b)) :
    Calls Try.prog 60 #[.slice (some ⟨g, 0, none⟩) 2 2] w fun e w' => e = .returned (.int .i64 (orI a b)) ∧ w' = w := by
  go_enter Try.func60, Try.ntmps60
  by_cases ha : a = 0
  · have ha' : (a != 0) = false := by simp [ha]
    have hb01 : b = 0 ∨ b ≠ 0 := by omega
    have hf := Lib.hid (show orI a b = b by simp [orI, ha])
    clear ha
    go_wp2
    go_loop [8] (fun i => i = .int .i64 0 ∨ i = .int .i64 1 ∨ (i = .int .i64 2 ∧ Hid (b = 0))) (fun i => 2 - (intOf i).toNat)
    case atStart => exact .inl rfl
    case round =>
      rcases hrel with rfl | rfl | ⟨rfl, hb⟩
      · go_wp2
        go_round
        case rel => exact .inr (.inl rfl)
        case measure => simp [intOf]
      · rcases hb01 with hb | hb
        · have hb' : (b != 0) = false := by simp [hb]
          have HB := Lib.hid hb
          clear hb
          go_wp2
          go_round
          case rel => exact .inr (.inr ⟨rfl, HB⟩)
          case measure => simp [intOf]
        · have hb' : (b != 0) = true := by simpa using hb
          clear hb
          go_wp2
          go_ret
          exact ⟨ret_int hf.out.symm, rfl⟩
      · clear hb01
        go_wp2
        go_ret
        exact ⟨ret_int (hf.out.trans hb.out).symm, rfl⟩
  · have ha' : (a != 0) = true := by simpa using ha
    have hf := Lib.hid (show orI a b = a by simp [orI, ha])
    clear ha
    go_wp2
    refine wp_loop_rounds 3 ?_
    simp only [rounds_succ]
    go_wp2
    go_ret
    exact ⟨ret_int hf.out.symm, rfl⟩

theorem grown3 (w : World) (a b c : Obj) : ∃ q os, (((w.alloc a).alloc b).alloc c).drew = grow (w.drewN q) os := by
  refine ⟨1, #[a, b, c], ?_⟩
  simp only [grow, World.alloc, World.drew, World.drewN]
  congr 1
theorem ba_eqP {a b : ByteArray} (h : a.data.toList = b.data.toList) : a = b := by
  rcases a with ⟨x⟩; rcases b with ⟨y⟩
  have : x = y := by apply Array.ext'; exact h
  rw [this]
theorem cmpS_negP (a b : ByteArray) : cmpS a b = - cmpS b a := by rw [cmpS_eq, cmpS_eq, cmpL_neg]
theorem cmpS_zeroP {a b : ByteArray} (h : cmpS a b = 0) : a = b := ba_eqP (cmpL_zero _ _ (by rw [← cmpS_eq]; exact h))
theorem cmpS_reflP (a : ByteArray) : cmpS a a = 0 := by rw [cmpS_eq, cmpL_refl]
theorem cmpS_leP {a b c : ByteArray} (h : cmpS a b ≤ 0) (k : cmpS b c ≤ 0) : cmpS a c ≤ 0 := by
  rw [cmpS_eq] at *; exact cmpL_le_trans h k
theorem cmpN_neg (x y : Nm) : cmpN x y = - cmpN y x := by
  have h := cmpS_negP x.2 y.2
  unfold cmpN orI cmpU
  repeat' split
  all_goals omega
theorem cmpN_le (x y : Nm) : cmpN x y ≤ 0 ↔ x.1 < y.1 ∨ (x.1 = y.1 ∧ cmpS x.2 y.2 ≤ 0) := by
  unfold cmpN orI cmpU
  by_cases h1 : x.1 < y.1
  · simp [h1]
  · by_cases h2 : y.1 < x.1
    · have h3 : ¬ x.1 = y.1 := by omega
      simp [h1, h2, h3]
    · have h3 : x.1 = y.1 := by omega
      simp [h3]
theorem cmpN_trans {x y z : Nm} (h : cmpN x y ≤ 0) (k : cmpN y z ≤ 0) : cmpN x z ≤ 0 := by
  rw [cmpN_le] at *
  rcases h with h | ⟨h, h'⟩ <;> rcases k with k | ⟨k, k'⟩
  · exact .inl (by omega)
  · exact .inl (by omega)
  · exact .inl (by omega)
  · exact .inr ⟨by omega, cmpS_leP h' k'⟩
theorem cmpN_antisymm {x y : Nm} (h : cmpN x y ≤ 0) (k : cmpN y x ≤ 0) : x = y := by
  rw [cmpN_le] at *
  have e1 : x.1 = y.1 := by rcases h with h | ⟨h, _⟩ <;> rcases k with k | ⟨k, _⟩ <;> omega
  have e2 : x.2 = y.2 := by
    rcases h with h | ⟨_, h⟩
    · omega
    · rcases k with k | ⟨_, k⟩
      · omega
      · rw [cmpS_negP] at k; exact cmpS_zeroP (by omega)
  exact Prod.ext e1 e2
theorem cmpN_zero {x y : Nm} (h : cmpN x y = 0) : x = y := cmpN_antisymm (by omega) (by rw [cmpN_neg]; omega)
theorem cmpN_refl (x : Nm) : cmpN x x = 0 := by have := cmpN_neg x x; omega
section
variable {V : Type}
def leN (x y : Nm × V) : Bool := !decide (cmpN y.1 x.1 < 0)
def sortV (l : List (Nm × V)) : List (Nm × V) := l.mergeSort leN
theorem leN_iff (x y : Nm × V) : leN x y = true ↔ cmpN x.1 y.1 ≤ 0 := by
  unfold leN; rw [cmpN_neg y.1 x.1]; simp
theorem sortV_perm (l : List (Nm × V)) : (sortV l).Perm l := List.mergeSort_perm l leN
theorem sortV_sorted (l : List (Nm × V)) : (sortV l).Pairwise (fun a b => leN a b = true) :=
  List.pairwise_mergeSort (fun a b c h k => by rw [leN_iff] at *; exact cmpN_trans h k)
    (fun a b => by rw [Bool.or_eq_true, leN_iff, leN_iff, cmpN_neg a.1 b.1]; omega) l
theorem eq_of_keyN {l : List (Nm × V)} (hn : (l.map (·.1)).Nodup) {a b : Nm × V} (ha : a ∈ l) (hb : b ∈ l) (h : a.1 = b.1) : a = b := by
  obtain ⟨i, hi, rfl⟩ := List.getElem_of_mem ha
  obtain ⟨j, hj, rfl⟩ := List.getElem_of_mem hb
  have : i = j := idx_only hn hi hj rfl h.symm
  subst this; rfl
/-- Sorted in whatever way, the names being apart: it is this list. -/
theorem sortV_unique {l m : List (Nm × V)} (hn : (l.map (·.1)).Nodup) (hp : m.Perm l) (hs : m.Pairwise (fun a b => leN a b = true)) : sortV l = m :=
  ((sortV_perm l).trans hp.symm).eq_of_pairwise (fun _a _b ha hb h k => eq_of_keyN hn ((sortV_perm l).mem_iff.1 ha) (hp.mem_iff.1 hb) (cmpN_antisymm ((leN_iff _ _).1 h) ((leN_iff _ _).1 k))) (sortV_sorted l) hs
end
end Go.Proofs.Ytpdnebimkfejoaa
