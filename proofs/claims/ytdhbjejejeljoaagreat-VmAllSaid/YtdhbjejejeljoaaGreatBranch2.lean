/- Contracts of package branch: Compare, Under, Kid and what they call. -/
import Derived.Test.YtdhbjejejeljoaaGreatRows
import Derived.WalkKit
import Derived.WalkSpells
import Derived.WalkLawsBesides
import Derived.Lib.Hide
import Derived.Lib.ConvBytes
import Derived.Laws.IdiomStrings
namespace Go.Proofs.YtdhbjejejeljoaaGreat
open Go.RowKit

theorem ret_int {k : IntKind} {a b : Int} (h : a = b) : Ending.returned (.int k a) = .returned (.int k b) := by rw [h]
theorem ret_bool {a b : Bool} (h : a = b) : Ending.returned (.bool a) = .returned (.bool b) := by rw [h]
theorem vi {k : IntKind} {a b : Int} (h : a = b) : Value.int k a = .int k b := by rw [h]
theorem vb {a b : Bool} (h : a = b) : Value.bool a = .bool b := by rw [h]
theorem vs {a b : ByteArray} (h : a = b) : Value.string a = .string b := by rw [h]
theorem ret_str {a b : ByteArray} (h : a = b) : Ending.returned (.string a) = .returned (.string b) := by rw [h]

def oddB (c : Int) : Bool := decide (c < 1) || decide (16 < c)
def odd8 (c : UInt8) : Bool := oddB c.toNat

set_option maxHeartbeats 400000 in
theorem odd_any (c : Int) (w : World) :
    Calls Tryz.prog 63 #[.int .u8 c] w fun e w' => e = .returned (.bool (oddB c)) ∧ w = w' := by
  unfold oddB
  by_cases h1 : c < 1
  · go_enter Tryz.func63, Tryz.ntmps63
    go_wp2
    go_ret
    exact ⟨by simp [h1], rfl⟩
  · go_enter Tryz.func63, Tryz.ntmps63
    go_wp2
    go_ret
    exact ⟨by have : ¬ c < 1 := by omega
              simp [this], rfl⟩

def idxOdd (s : List UInt8) : Int := if s.any odd8 then (s.findIdx odd8 : Int) else -1
theorem idx_none (s : List UInt8) (h : ∀ j, (hj : j < s.length) → odd8 s[j] = false) : idxOdd s = -1 := by
  unfold idxOdd; rw [if_neg]
  rw [Bool.not_eq_true, List.any_eq_false]; intro x hx
  obtain ⟨j, hj, rfl⟩ := List.getElem_of_mem hx
  simp [h j hj]
theorem idx_hit (s : List UInt8) (k : Nat) (hk : k < s.length) (h : ∀ j, (hj : j < s.length) → j < k → odd8 s[j] = false) (hb : odd8 s[k] = true) : idxOdd s = k := by
  unfold idxOdd
  rw [if_pos (List.any_eq_true.2 ⟨s[k], List.getElem_mem hk, hb⟩), (List.findIdx_eq hk).2 ⟨hb, fun j hj => h j (by omega) hj⟩]

set_option maxHeartbeats 400000 in
theorem idx_bytes (b cap : Nat) (s : List UInt8) (w : World) (hm : s.length ≤ 9223372036854775807)
    (hc : ∀ j, (hj : j < s.length) → w.cell? ⟨b, j, none⟩ = some (.int .u8 s[j].toNat)) :
    Calls Tryz.prog 79 #[.slice (some ⟨b, 0, none⟩) s.length cap, .func (.func 63) #[] #[]] w fun e w' =>
      e = .returned (.int .i64 (idxOdd s)) ∧ w = w' := by
  go_enter Tryz.func79, Tryz.ntmps79
  go_wp2
  go_loop [8] (fun i => ∃ k : Nat, k ≤ s.length ∧ i = .int .i64 k ∧ Hid (∀ j, (hj : j < s.length) → j < k → odd8 s[j] = false)) (fun i => s.length - (intOf i).toNat)
  case atStart => exact ⟨0, Nat.zero_le _, rfl, fun j _ hj => absurd hj (by omega)⟩
  case round =>
    obtain ⟨k, hk, rfl, hn⟩ := hrel
    by_cases hlt : k < s.length
    · have hcell := hc k hlt
      clear hc
      cases hb : oddB s[k].toNat
      · go_wp2_with (go_at_call 63; refine (odd_any _ _).mono ?_; rintro e w' ⟨rfl, rfl⟩)
        go_round
        case rel => exact ⟨k + 1, by omega, by go_num, fun j hj hjk => by
          by_cases e : j = k
          · subst e; exact hb
          · exact hn j hj (by omega)⟩
        case measure => simp [intOf]; omega
      · go_wp2_with (go_at_call 63; refine (odd_any _ _).mono ?_; rintro e w' ⟨rfl, rfl⟩)
        go_ret
        exact ⟨ret_int (idx_hit s k hlt hn hb).symm, rfl⟩
    · have hke : k = s.length := by omega
      clear hc
      go_wp2
      go_ret
      exact ⟨ret_int (idx_none s (fun j hj => hn j hj (by omega))).symm, rfl⟩

theorem idx_ge (s : List UInt8) : decide (0 ≤ idxOdd s) = s.any odd8 := by
  unfold idxOdd; cases s.any odd8 <;> simp <;> omega

set_option maxHeartbeats 400000 in
theorem contains_bytes (b cap : Nat) (s : List UInt8) (w : World) (hm : s.length ≤ 9223372036854775807)
    (hc : ∀ j, (hj : j < s.length) → w.cell? ⟨b, j, none⟩ = some (.int .u8 s[j].toNat)) :
    Calls Tryz.prog 64 #[.slice (some ⟨b, 0, none⟩) s.length cap, .func (.func 63) #[] #[]] w fun e w' =>
      e = .returned (.bool (s.any odd8)) ∧ w = w' := by
  rw [← idx_ge]
  go_enter Tryz.func64, Tryz.ntmps64
  go_wp2_with (go_at_call 79; refine (idx_bytes _ _ _ _ hm hc).mono ?_; rintro e w' ⟨rfl, rfl⟩)
  go_ret
  exact ⟨rfl, rfl⟩

def mayL (s : List UInt8) : Bool := decide (s.length ≤ 12) && !s.any odd8

theorem bytesWorld_below {B : Nat} (w : World) (e : TypeId) (s : ByteArray) (hB : B ≤ w.heap.size) : Below B w (Lib.bytesWorld w e s) := by
  refine ⟨?_, ?_, ?_, by rw [Lib.bytesWorld_size]; omega, fun k hk => Lib.bytesWorld_at_old w e s k (by omega)⟩
  all_goals simp [Lib.bytesWorld, World.freeze, World.alloc, World.drew, -World.alloc_eq, -World.drew_eq]

set_option maxHeartbeats 400000 in
set_option maxRecDepth 100000 in
theorem path_may (s : ByteArray) (w : World) (hm : s.size ≤ 9223372036854775807) :
    Calls Tryz.prog 44 #[.string s] w fun e w' => e = .returned (.bool (mayL s.data.toList)) ∧ Below w.heap.size w w' := by
  by_cases h : s.size ≤ 12
  · have hv := Lib.run_convert_string_bytes (P := Tryz.prog) w 109 132 5 s Tryz.underlying109 Tryz.underlying132 Tryz.underlying5
    have hc : ∀ j, (hj : j < s.data.toList.length) → (Lib.bytesWorld w 5 s).cell? ⟨w.heap.size, j, none⟩ = some (.int .u8 (s.data.toList[j].toNat)) := fun j hj => by
      rw [Lib.bytesWorld_cell _ _ _ _ (by simpa using hj), List.getD_eq_getElem?_getD, List.getElem?_eq_getElem hj]; rfl
    have hB := bytesWorld_below w 5 s (Nat.le_refl _)
    generalize Lib.bytesWorld w 5 s = w1 at hv hc hB
    generalize grownCap w s.size 0 5 = cap at hv
    go_enter Tryz.func44, Tryz.ntmps44
    go_wp2_with fail
    refine (contains_bytes _ _ s.data.toList _ (by simpa using hm) hc).mono ?_
    rintro e w' ⟨rfl, rfl⟩
    go_wp2
    go_ret
    exact ⟨ret_bool (by unfold mayL; simp [h]), hB⟩
  · go_enter Tryz.func44, Tryz.ntmps44
    go_wp2
    go_ret
    exact ⟨ret_bool (by unfold mayL; simp [h]), Below.refl _ _⟩
end Go.Proofs.YtdhbjejejeljoaaGreat
namespace Go.Proofs.YtdhbjejejeljoaaGreat
open Go.RowKit

theorem gthen {w w1 w2 : World} (h : Below w.heap.size w w1) (h2 : Below w1.heap.size w1 w2) : Below w.heap.size w w2 := h.trans (h2.mono h.size)

def mayS (s : ByteArray) : Bool := mayL s.data.toList

set_option maxHeartbeats 400000 in
theorem may_any (s : ByteArray) (w : World) (hm : s.size ≤ 9223372036854775807) :
    Calls Tryz.prog 25 #[.string s] w fun e w' => e = .returned (.bool (mayS s)) ∧ Below w.heap.size w w' := by
  go_enter Tryz.func25, Tryz.ntmps25
  go_wp2_with fail
  refine (path_may s _ hm).mono ?_
  rintro e w1 ⟨rfl, hB⟩
  go_wp2
  go_ret
  exact ⟨ret_bool rfl, hB⟩

def prefS (s p : ByteArray) : Bool := decide (p.size ≤ s.size) && ((s.extract 0 p.size).toList == p.toList)



set_option maxHeartbeats 400000 in
theorem isNaN_any (s : ByteArray) (w : World) :
    Calls Tryz.prog 90 #[.string s] w fun e w' => e = .returned (.bool false) ∧ w = w' := by
  go_enter Tryz.func90, Tryz.ntmps90
  go_wp2
  go_ret
  exact ⟨ret_bool rfl, rfl⟩

def cmpS (a b : ByteArray) : Int := if Op.bytesLess a.toList b.toList then -1 else if a.toList == b.toList then 0 else 1

set_option maxHeartbeats 800000 in
theorem cmp_any (a b : ByteArray) (w : World) :
    Calls Tryz.prog 67 #[.string a, .string b] w fun e w' => e = .returned (.int .i64 (cmpS a b)) ∧ w = w' := by
  cases h1 : Op.bytesLess a.toList b.toList
  · cases h2 : (a.toList == b.toList)
    · have hf : cmpS a b = 1 := by simp [cmpS, h1, h2]
      have Hf := Lib.hid hf; clear hf
      go_enter Tryz.func67, Tryz.ntmps67
      go_wp2_with (go_at_call 90; refine (isNaN_any _ _).mono ?_; rintro e w' ⟨rfl, rfl⟩)
      go_ret
      exact ⟨ret_int Hf.out.symm, rfl⟩
    · have hf : cmpS a b = 0 := by simp [cmpS, h1, h2]
      have Hf := Lib.hid hf; clear hf
      go_enter Tryz.func67, Tryz.ntmps67
      go_wp2_with (go_at_call 90; refine (isNaN_any _ _).mono ?_; rintro e w' ⟨rfl, rfl⟩)
      go_ret
      exact ⟨ret_int Hf.out.symm, rfl⟩
  · have hf : cmpS a b = -1 := by simp [cmpS, h1]
    have Hf := Lib.hid hf; clear hf
    go_enter Tryz.func67, Tryz.ntmps67
    go_wp2_with (go_at_call 90; refine (isNaN_any _ _).mono ?_; rintro e w' ⟨rfl, rfl⟩)
    go_ret
    exact ⟨ret_int Hf.out.symm, rfl⟩

set_option maxHeartbeats 400000 in
theorem pathcmp_any (a b : ByteArray) (w : World) :
    Calls Tryz.prog 49 #[.string a, .string b] w fun e w' => e = .returned (.int .i64 (cmpS a b)) ∧ w = w' := by
  go_enter Tryz.func49, Tryz.ntmps49
  go_wp2_with fail
  refine (cmp_any a b _).mono ?_
  rintro e w1 ⟨rfl, rfl⟩
  go_wp2
  go_ret
  exact ⟨ret_int rfl, rfl⟩


def underS (s r : ByteArray) : Bool := mayS s && mayS r && prefS s r


theorem ret_two {a b c d : Value} (h : a = c) (h' : b = d) : Ending.returned (.tuple #[a, b]) = .returned (.tuple #[c, d]) := by rw [h, h']
def kidB (s : ByteArray) (n : Int) : Bool := mayS s && decide (1 ≤ n) && decide (n ≤ 16) && !decide (s.size = 12)
def kidS (s : ByteArray) (n : Int) : ByteArray := if kidB s n then ⟨s.data ++ #[UInt8.ofNat n.toNat]⟩ else ⟨#[]⟩
theorem kid_no {s : ByteArray} {n : Int} (h : kidB s n = false) : Value.string ⟨#[]⟩ = .string (kidS s n) ∧ Value.bool false = .bool (kidB s n) := by
  rw [h]; unfold kidS; rw [h]; exact ⟨rfl, rfl⟩

theorem kid_yes {s : ByteArray} {n : Int} (h : kidB s n = true) : Value.string (s ++ ⟨#[UInt8.ofNat n.toNat]⟩) = .string (kidS s n) ∧ Value.bool true = .bool (kidB s n) := by
  rw [h]; unfold kidS; rw [h]; exact ⟨by congr 1; ext1; simp, rfl⟩
theorem mayS_le {s : ByteArray} (h : mayS s = true) : s.size ≤ 12 := by
  unfold mayS mayL at h; simp at h; exact h.1

theorem conv_one (w : World) (n : Int) (h1 : 0 ≤ n) (h2 : n < 256) : (convert 132 9 (.slice (some ⟨w.heap.size, 0, none⟩) 1 1)).run Tryz.prog (w.alloc (.cells #[.int .u8 n] 5)) = .ok (.string ⟨#[UInt8.ofNat n.toNat]⟩) (w.alloc (.cells #[.int .u8 n] 5)) := by
  have h := run_convert_bytes_back (P := Tryz.prog) (w.alloc (.cells #[.int .u8 n] 5)) 132 9 5 ⟨w.heap.size, 0, none⟩ 1 [UInt8.ofNat n.toNat] Tryz.underlying132 Tryz.underlying5 Tryz.underlying9 (by
    intro j hj
    have e : j = 0 := by simp at hj; omega
    subst e
    have e2 : (((UInt8.ofNat n.toNat).toNat : Nat) : Int) = n := by simp; omega
    simp only [List.getElem_cons_zero, e2]
    exact World.cell?_alloc_at #[.int .u8 n] 5 _ 0 rfl)
  exact h

set_option maxHeartbeats 400000 in
set_option maxRecDepth 100000 in
theorem kid_any (s : ByteArray) (n : Int) (w : World) (hs : s.size ≤ 9223372036854775807) :
    Calls Tryz.prog 68 #[.string s, .int .i64 n] w fun e w' =>
      e = .returned (.tuple #[.string (kidS s n), .bool (kidB s n)]) ∧ Below w.heap.size w w' := by
  go_enter Tryz.func68, Tryz.ntmps68
  go_wp2_with fail
  refine (may_any s _ hs).mono ?_
  rintro e w1 ⟨rfl, hB1⟩
  cases h1 : mayS s
  · have hf := Lib.hid (kid_no (show kidB s n = false by simp [kidB, h1]))
    go_wp2
    go_ret2
    exact ⟨ret_two hf.out.1 hf.out.2, hB1⟩
  · by_cases h2 : n < 1
    · have hf := Lib.hid (kid_no (show kidB s n = false by simp [kidB, h1]; omega))
      go_wp2
      go_ret2
      exact ⟨ret_two hf.out.1 hf.out.2, hB1⟩
    · by_cases h3 : 16 < n
      · have hf := Lib.hid (kid_no (show kidB s n = false by simp [kidB]; omega))
        go_wp2
        go_ret2
        exact ⟨ret_two hf.out.1 hf.out.2, hB1⟩
      · by_cases h4 : s.size = 12
        · have hf := Lib.hid (kid_no (show kidB s n = false by simp [kidB, h1, h4]))
          have h5 : ((s.size : Int) == 12) = true := by simp [h4]
          have h4' := Lib.hid h4
          clear h4
          go_wp2
          go_ret2
          exact ⟨ret_two hf.out.1 hf.out.2, hB1⟩
        · have hf := Lib.hid (show kidB s n = true by simp [kidB, h1, h4]; omega)
          have h5 : ((s.size : Int) == 12) = false := by simp; omega
          have hv := conv_one w1 n (by omega) (by omega)
          have hsz := mayS_le h1
          go_wp2_with fail
          go_ret2
          exact ⟨ret_two (kid_yes hf.out).1 (kid_yes hf.out).2, hB1.alloc hB1.size _⟩
end Go.Proofs.YtdhbjejejeljoaaGreat
