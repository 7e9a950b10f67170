/- RoundFull: its walk. -/
import Derived.Test.YtenebamecmblaaaRnd9
import Derived.Test.YtenebamecmblaaaRnd10
namespace Go.Proofs.Ytenebamecmblaaa
open Go.RowKit Go.Sort Go.Lib

def fullA (k : Nat) : AB := (List.range k).map fun i : Nat => ((i : Int), ([0], []))
theorem fullA_len (k : Nat) : (fullA k).length = k := by unfold fullA; simp
theorem fullA_get {k : Nat} {n : Int} : (U.getL (fullA k) n).isSome = decide (0 ≤ n ∧ n < k) := by
  rw [← U.getL_anyV]
  unfold fullA
  rw [List.any_map, Bool.eq_iff_iff, List.any_eq_true, decide_eq_true_iff]
  simp only [Function.comp, List.mem_range, decide_eq_true_iff]
  constructor
  · rintro ⟨i, h1, rfl⟩; omega
  · rintro ⟨h1, h2⟩; exact ⟨n.toNat, by omega, Int.toNat_of_nonneg h1⟩
theorem fullA_e {k : Nat} (hk : k < 256) : beginE (fullA k) k = 0 := by
  unfold beginE
  rw [fullA_get, fullA_len, if_neg (by simp), if_neg (by omega)]
theorem fullA_begin {k : Nat} (hk : k < 256) : beginA (fullA k) k = fullA (k + 1) := by
  unfold beginA
  rw [if_pos (fullA_e hk)]
  unfold fullA
  rw [List.range_succ, List.map_append]
  rfl
theorem fullA_full : beginE (fullA 256) 256 = 6 := by
  unfold beginE
  rw [fullA_get, fullA_len, if_neg (by simp), if_pos (by omega)]
theorem fullA_there {x : Int} (h : 0 ≤ x ∧ x < 256) : beginE (fullA 256) x = 7 := by
  unfold beginE
  rw [fullA_get, if_pos (by simpa using h)]
theorem delL_get {V : Type} {L : List (Int × V)} {n : Int} : U.getL (U.delL L n) n = none := by
  rw [U.getL_none_iffV]
  intro p hp e
  have := (List.mem_filter.1 hp).2
  simp [e] at this
theorem fullA_drop {x : Int} (h : 0 ≤ x ∧ x < 256) : dropN (fullA 256) [x, x] = 1 := by
  unfold dropN
  rw [fullA_get, if_pos (by simpa using h)]
  unfold dropN
  rw [delL_get]
  unfold dropN
  rfl
theorem fullA_dropA (x : Int) : dropA (fullA 256) [x, x] = U.delL (fullA 256) x := by
  show U.delL (U.delL (fullA 256) x) x = _
  exact delL_none delL_get
theorem fullA_room {x : Int} (h : 0 ≤ x ∧ x < 256) : beginE (U.delL (fullA 256) x) 256 = 0 := by
  have hlt : (U.delL (fullA 256) x).length < 256 := by
    have h1 : (U.getL (fullA 256) x).isSome = true := by rw [fullA_get]; simpa using h
    obtain ⟨v, hv⟩ := Option.isSome_iff_exists.1 h1
    obtain ⟨p, hp, hx⟩ : ∃ p ∈ fullA 256, p.1 = x := by
      unfold U.getL at hv
      rw [Option.map_eq_some_iff] at hv
      obtain ⟨p, hp, _⟩ := hv
      exact ⟨p, List.mem_of_find?_eq_some hp, by simpa using List.find?_some hp⟩
    have := List.length_filter_lt_length_iff_exists (p := fun p : Int × AO => !decide (p.1 = x)) (l := fullA 256)
    have h2 := this.2 ⟨p, hp, by simp [hx]⟩
    rw [fullA_len] at h2
    exact h2
  have hn : U.getL (U.delL (fullA 256) x) 256 = none := by
    rw [U.getL_none_iffV]
    intro p hp
    have h1 := (List.mem_filter.1 hp).1
    unfold fullA at h1
    obtain ⟨i, hi, rfl⟩ := List.mem_map.1 h1
    have := List.mem_range.1 hi
    intro e
    have e : (i : Int) = 256 := e
    omega
  unfold beginE
  rw [hn, if_neg (by simp), if_neg (by omega)]
theorem u2_read (w : World) (n k : Int) : ReadsK encU1 1 (w.alloc (.cells #[.int .u64 n, .int .u64 k] 26)) (.slice (some ⟨w.heap.size, 0, none⟩) 2 2) [n, k] := by
  have hb := heap_alloc_new w (.cells #[.int .u64 n, .int .u64 k] 26)
  refine .inr ⟨w.heap.size, 0, 2, rfl, by simp, fun i hi t u hu => ?_⟩
  have ht := (List.getElem?_eq_some_iff.1 hu).1
  have ht2 : t = 0 := by have : t < 1 := ht; omega
  subst ht2
  have hi0 : i = 0 ∨ i = 1 := by simp at hi; omega
  unfold World.cell?
  rw [hb]
  rcases hi0 with rfl | rfl <;> simpa [encU1] using hu
theorem u64_out {Q : Nat → Prop} (w : World) (c : Array Value) {n k : Nat} : ∀ a n' c', Value.slice (some ⟨w.heap.size, 0, none⟩) n k = .slice (some a) n' c' → ¬ Sx Q (w.alloc (.cells c 26)) a.block := by
  rintro a n' c' e ⟨_, h⟩
  injection e with e _ _
  injection e with e
  subst e
  have hb := heap_alloc_new w (.cells c 26)
  rcases h with ⟨es, cl, h⟩ | ⟨cur, h⟩
  · simp only at h; rw [hb] at h; cases h
  · simp only at h; rw [hb] at h
    injection h with h
    injection h with _ h _
    exact absurd h (by decide)
set_option maxHeartbeats 3200000 in
set_option maxRecDepth 100000 in
theorem full_any (x : Int) (w : World) (hx : 0 ≤ x ∧ x < 256) : Calls Try.prog 3 #[.int .u8 x] w fun e w' => e = .returned (.bool true) ∧ Below w.heap.size w w' := by
  have hwx : IntKind.u64.wrap x = x := by rw [IntKind.wrap_u64]; omega
  have HX := Lib.hid hx
  clear hx
  go_enter Try.func3, Try.ntmps3
  go_wp2_with fail
  refine (wr_new (Q := fun i => i < w.heap.size) w (fun i hi => hi)).mono ?_
  rintro e w1 ⟨r, m, rfl, hW, hB⟩
  have HW := Lib.hid hW
  have HA : Hid (Stp (fun i => i < w.heap.size) w w1) := Stp.below hB
  clear hW hB
  go_wp2_with fail
  go_loopg [4] 256 (fun gk i wr => ∃ k : Nat, gk + k = 256 ∧ i = .int .i64 k ∧ Wr (fun i => i < w.heap.size) r m wr (fullA k) ∧ Stp (fun i => i < w.heap.size) w wr)
  case atStart => exact ⟨0, by omega, rfl, HW.out, HA.out⟩
  case round =>
    obtain ⟨k, hk, rfl, hW, hS⟩ := hrel
    replace HW := Lib.hid hW
    replace HA := Lib.hid hS
    clear hW hS
    by_cases hlt : k < 256
    · have hwk : IntKind.u64.wrap (k : Int) = k := by rw [IntKind.wrap_u64]; omega
      go_wp2_with fail
      refine (wr_begin HW.out (hqL HA.out) k (by rw [fullA_len]; omega)).mono ?_
      rintro e w3 ⟨rfl, hW, hS⟩
      rw [fullA_e hlt]
      rw [fullA_begin hlt] at hW
      replace HW := Lib.hid hW
      replace HA : Hid (Stp (fun i => i < w.heap.size) w _) := HA.out.trans hS
      clear hW hS
      go_wp2_with fail
      go_roundg (gk - 1)
      case rel => exact ⟨k + 1, by omega, by go_num, HW.out, HA.out⟩
      case measure => omega
    · obtain rfl : k = 256 := by omega
      go_wp2_with fail
      refine (wr_begin HW.out (hqL HA.out) 256 (by rw [fullA_len]; decide)).mono ?_
      rintro e w3 ⟨rfl, hW, hS⟩
      rw [show beginA (fullA 256) 256 = fullA 256 by unfold beginA; rw [fullA_full]; rfl] at hW
      rw [fullA_full]
      replace HW := Lib.hid hW
      replace HA : Hid (Stp (fun i => i < w.heap.size) w _) := HA.out.trans hS
      clear hW hS
      go_wp2_with fail
      refine (wr_begin HW.out (hqL HA.out) x (by rw [fullA_len]; decide)).mono ?_
      rintro e w4 ⟨rfl, hW, hS⟩
      rw [show beginA (fullA 256) x = fullA 256 by unfold beginA; rw [fullA_there HX.out]; rfl] at hW
      rw [fullA_there HX.out]
      replace HW := Lib.hid (hW.below (below_allocC w4 (.cells #[.int .u64 x, .int .u64 x] 26)))
      replace HA : Hid (Stp (fun i => i < w.heap.size) w _) := (HA.out.trans hS).trans (.below (below_allocC w4 (.cells #[.int .u64 x, .int .u64 x] 26)))
      have HR := Lib.hid (u2_read w4 x x)
      have HO := Lib.hid (u64_out (Q := fun i => i < w.heap.size) w4 #[.int .u64 x, .int .u64 x] (n := 2) (k := 2))
      clear hW hS
      go_wp2_with fail
      refine (wr_drop HW.out (hqL HA.out) HR.out HO.out (by simp)).mono ?_
      rintro e w5 ⟨rfl, hW, hS⟩
      rw [fullA_drop HX.out]
      rw [fullA_dropA] at hW
      replace HW := Lib.hid hW
      replace HA : Hid (Stp (fun i => i < w.heap.size) w _) := HA.out.trans hS
      clear hW hS HR HO
      go_wp2_with fail
      refine (wr_begin HW.out (hqL HA.out) 256 (Nat.le_trans (List.length_filter_le _ _) (by rw [fullA_len]; decide))).mono ?_
      rintro e w6 ⟨rfl, hW, hS⟩
      rw [fullA_room HX.out]
      replace HA : Hid (Stp (fun i => i < w.heap.size) w _) := HA.out.trans hS
      clear hW hS HW
      go_wp2_with fail
      refine (works_any _).mono ?_
      rintro e w7 ⟨rfl, hB⟩
      replace HA : Hid (Stp (fun i => i < w.heap.size) w _) := HA.out.trans (.below hB)
      clear hB
      go_wp2_with fail
      go_ret
      exact ⟨ret_boolE rfl, HA.out.all (fun i hi => hi) (Nat.le_refl _)⟩
/-- At what came in. -/
theorem full_row (x : Int) (w : World) (h : (Lit.int .u8 x).wf = true) : Calls Try.prog 3 #[.int .u8 x] w fun e w' => e = .returned (.bool true) ∧ Below w.heap.size w w' :=
  full_any x w (by
    simp [Lit.wf] at h
    have h1 : IntKind.u8.min = 0 := rfl
    have h2 : IntKind.u8.max = 255 := rfl
    omega)
end Go.Proofs.Ytenebamecmblaaa
