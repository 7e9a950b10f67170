/- The order of timers, plainly; contracts: cmp.Compare, cmp.Or. -/
import Derived.Test.YteladooegjgdnaaHp1
import Derived.Lib.Strings
import Derived.WalkKit
namespace Go.Proofs.Yteladooegjgdnaa
open Go.RowKit Go.Sort Go.Lib

theorem ret_int {k : IntKind} {a b : Int} (h : a = b) : Ending.returned (.int k a) = .returned (.int k b) := by rw [h]
theorem ret_bool {a b : Bool} (h : a = b) : Ending.returned (.bool a) = .returned (.bool b) := by rw [h]
theorem gthen {w w1 w2 : World} (h : Below w.heap.size w w1) (h2 : Below w1.heap.size w1 w2) : Below w.heap.size w w2 := h.trans (h2.mono h.size)
def cmpS (a b : ByteArray) : Int := if Op.bytesLess a.toList b.toList then -1 else if a.toList == b.toList then 0 else 1
def cmpL : List UInt8 → List UInt8 → Int
  | [], [] => 0
  | [], _ :: _ => -1
  | _ :: _, [] => 1
  | a :: x, b :: y => if a < b then -1 else if b < a then 1 else cmpL x y

theorem u8_tri (a b : UInt8) : a < b ∨ b < a ∨ a = b := by
  rcases Nat.lt_trichotomy a.toNat b.toNat with h | h | h
  · exact .inl (UInt8.lt_iff_toNat_lt.2 h)
  · exact .inr (.inr (UInt8.toNat_inj.1 h))
  · exact .inr (.inl (UInt8.lt_iff_toNat_lt.2 h))
theorem u8_irrefl (a : UInt8) : ¬ a < a := by rw [UInt8.lt_iff_toNat_lt]; omega
theorem u8_asymm {a b : UInt8} (h : a < b) : ¬ b < a := by rw [UInt8.lt_iff_toNat_lt] at *; omega
theorem u8_trans {a b c : UInt8} (h : a < b) (k : b < c) : a < c := by rw [UInt8.lt_iff_toNat_lt] at *; omega

theorem cmpL_refl : ∀ a, cmpL a a = 0
  | [] => rfl
  | a :: x => by simp [cmpL, cmpL_refl x]

theorem cmpL_val : ∀ a b, cmpL a b = -1 ∨ cmpL a b = 0 ∨ cmpL a b = 1
  | [], [] => by simp [cmpL]
  | [], _ :: _ => by simp [cmpL]
  | _ :: _, [] => by simp [cmpL]
  | a :: x, b :: y => by
    unfold cmpL; split
    · simp
    · split
      · simp
      · exact cmpL_val x y

theorem cmpL_neg : ∀ a b, cmpL a b = - cmpL b a
  | [], [] => by simp [cmpL]
  | [], _ :: _ => by simp [cmpL]
  | _ :: _, [] => by simp [cmpL]
  | a :: x, b :: y => by
    rcases u8_tri a b with h | h | h
    · simp [cmpL, h, u8_asymm h]
    · simp [cmpL, h, u8_asymm h]
    · subst h; simp [cmpL, ← cmpL_neg x y]

theorem cmpL_zero : ∀ a b, cmpL a b = 0 → a = b
  | [], [], _ => rfl
  | [], _ :: _, h => by simp [cmpL] at h
  | _ :: _, [], h => by simp [cmpL] at h
  | a :: x, b :: y, h => by
    rcases u8_tri a b with k | k | k
    · simp [cmpL, k] at h
    · simp [cmpL, k, u8_asymm k] at h
    · subst k; simp [cmpL] at h; rw [cmpL_zero x y h]

theorem cmpL_lt_trans : ∀ a b c, cmpL a b = -1 → cmpL b c = -1 → cmpL a c = -1
  | [], [], _, h, _ => by simp [cmpL] at h
  | [], _ :: _, [], _, k => by simp [cmpL] at k
  | [], _ :: _, _ :: _, _, _ => by simp [cmpL]
  | _ :: _, [], _, h, _ => by simp [cmpL] at h
  | _ :: _, _ :: _, [], _, k => by simp [cmpL] at k
  | a :: x, b :: y, c :: z, h, k => by
    rcases u8_tri a b with e | e | e
    · rcases u8_tri b c with f | f | f
      · simp [cmpL, u8_trans e f]
      · simp [cmpL, f, u8_asymm f] at k
      · subst f; simp [cmpL, e]
    · simp [cmpL, e, u8_asymm e] at h
    · subst e
      rcases u8_tri a c with f | f | f
      · simp [cmpL, f]
      · simp [cmpL, f, u8_asymm f] at k
      · subst f; simp [cmpL] at h k ⊢; exact cmpL_lt_trans x y z h k

theorem cmpL_le_trans {a b c : List UInt8} (h : cmpL a b ≤ 0) (k : cmpL b c ≤ 0) : cmpL a c ≤ 0 := by
  rcases cmpL_val a b with e | e | e
  · rcases cmpL_val b c with f | f | f
    · rw [cmpL_lt_trans _ _ _ e f]; omega
    · rw [← cmpL_zero _ _ f]; exact h
    · omega
  · rw [cmpL_zero _ _ e]; exact k
  · omega

theorem less_cmpL : ∀ a b, Op.bytesLess a b = decide (cmpL a b = -1)
  | [], [] => by simp [cmpL, Op.bytesLess]
  | [], _ :: _ => by simp [cmpL, Op.bytesLess]
  | _ :: _, [] => by simp [cmpL, Op.bytesLess]
  | a :: x, b :: y => by
    rcases u8_tri a b with h | h | h
    · simp [cmpL, Op.bytesLess, h]
    · have : (a == b) = false := by
        rw [beq_eq_false_iff_ne]; intro e; subst e; exact u8_irrefl _ h
      simp [cmpL, Op.bytesLess, h, u8_asymm h, this]
    · subst h; simp [cmpL, Op.bytesLess, less_cmpL x y]

theorem cmpS_eq (a b : ByteArray) : cmpS a b = cmpL a.data.toList b.data.toList := by
  unfold cmpS
  rw [Lib.toList_data, Lib.toList_data, less_cmpL]
  rcases cmpL_val a.data.toList b.data.toList with h | h | h
  · simp [h]
  · have e := cmpL_zero _ _ h
    rw [e, cmpL_refl]; simp
  · have e : (a.data.toList == b.data.toList) = false := by
      rw [beq_eq_false_iff_ne]; intro e; rw [e, cmpL_refl] at h; omega
    rw [h, e]; simp

theorem ba_eqP {a b : ByteArray} (h : a.data.toList = b.data.toList) : a = b := by
  rcases a with ⟨x⟩; rcases b with ⟨y⟩
  have : x = y := by apply Array.ext'; exact h
  rw [this]
theorem cmpS_negP (a b : ByteArray) : cmpS a b = - cmpS b a := by rw [cmpS_eq, cmpS_eq, cmpL_neg]
theorem cmpS_zeroP {a b : ByteArray} (h : cmpS a b = 0) : a = b := ba_eqP (cmpL_zero _ _ (by rw [← cmpS_eq]; exact h))
theorem cmpS_reflP (a : ByteArray) : cmpS a a = 0 := by rw [cmpS_eq, cmpL_refl]
theorem cmpS_leP {a b c : ByteArray} (h : cmpS a b ≤ 0) (k : cmpS b c ≤ 0) : cmpS a c ≤ 0 := by
  rw [cmpS_eq] at *; exact cmpL_le_trans h k
def cmpA (a b : Int) : Int := if a < b then -1 else if b < a then 1 else 0
def orI (a b : Int) : Int := if a = 0 then b else a
/-- A timer. -/
structure Tm where
  k : ByteArray
  a : Int
instance : Inhabited Tm := ⟨⟨⟨#[]⟩, 0⟩⟩
def cmpT (x y : Tm) : Int := orI (cmpA x.a y.a) (cmpS x.k y.k)
def lessT (x y : Tm) : Bool := decide (cmpT x y < 0)
theorem cmpS_val (a b : ByteArray) : cmpS a b = -1 ∨ cmpS a b = 0 ∨ cmpS a b = 1 := by rw [cmpS_eq]; exact cmpL_val _ _
theorem cmpT_neg (x y : Tm) : cmpT x y = - cmpT y x := by
  have h := cmpS_negP x.k y.k
  unfold cmpT orI cmpA
  repeat' split
  all_goals omega
theorem cmpT_le (x y : Tm) : cmpT x y ≤ 0 ↔ x.a < y.a ∨ (x.a = y.a ∧ cmpS x.k y.k ≤ 0) := by
  unfold cmpT orI cmpA
  by_cases h1 : x.a < y.a
  · simp [h1]
  · by_cases h2 : y.a < x.a
    · have h3 : ¬ x.a = y.a := by omega
      simp [h1, h2, h3]
    · have h3 : x.a = y.a := by omega
      simp [h3]
theorem cmpT_refl (x : Tm) : cmpT x x = 0 := by unfold cmpT orI cmpA; simp [cmpS_reflP]
theorem cmpT_trans {x y z : Tm} (h : cmpT x y ≤ 0) (k : cmpT y z ≤ 0) : cmpT x z ≤ 0 := by
  rw [cmpT_le] at *
  rcases h with h | ⟨h1, h2⟩
  · rcases k with k | ⟨k1, k2⟩ <;> left <;> omega
  · rcases k with k | ⟨k1, k2⟩
    · left; omega
    · right; exact ⟨by omega, cmpS_leP h2 k2⟩
theorem cmpT_zero {x y : Tm} (h : cmpT x y = 0) : x = y := by
  have h1 : cmpT x y ≤ 0 := by omega
  have h2 : cmpT y x ≤ 0 := by rw [cmpT_neg]; omega
  rw [cmpT_le] at h1 h2
  have ha : x.a = y.a := by omega
  have hs : cmpS x.k y.k = 0 := by
    have h3 := cmpS_negP x.k y.k
    rcases h1 with h1 | ⟨_, h1⟩
    · omega
    · rcases h2 with h2 | ⟨_, h2⟩ <;> omega
  cases x; cases y
  simp only at ha hs
  rw [ha, cmpS_zeroP hs]
/-- At most as late. -/
def leT (x y : Tm) : Prop := cmpT x y ≤ 0
theorem less_iff {x y : Tm} : lessT x y = true ↔ ¬ leT y x := by
  unfold lessT leT
  rw [cmpT_neg y x]
  simp
theorem leT_total (x y : Tm) : leT x y ∨ leT y x := by
  unfold leT
  rw [cmpT_neg y x]
  omega
theorem leT_refl (x : Tm) : leT x x := by unfold leT; rw [cmpT_refl]; omega
theorem leT_anti {x y : Tm} (h : leT x y) (k : leT y x) : x = y := by
  unfold leT at h k
  rw [cmpT_neg] at k
  exact cmpT_zero (by omega)
set_option maxHeartbeats 400000 in
theorem isNaNI (a : Int) (w : World) : Calls Try.prog 86 #[.int .i64 a] w fun e w' => e = .returned (.bool false) ∧ w = w' := by
  go_enter Try.func86, Try.ntmps86
  go_wp2
  go_ret
  exact ⟨ret_bool rfl, rfl⟩

set_option maxHeartbeats 400000 in
theorem cmpI_any (a b : Int) (w : World) : Calls Try.prog 85 #[.int .i64 a, .int .i64 b] w fun e w' => e = .returned (.int .i64 (cmpA a b)) ∧ w' = w := by
  rcases (show a < b ∨ (¬ a < b ∧ b < a) ∨ (¬ a < b ∧ ¬ b < a) by omega) with h1 | ⟨h1, h2⟩ | ⟨h1, h2⟩
  · have hf := Lib.hid (show cmpA a b = -1 by simp [cmpA, h1])
    go_enter Try.func85, Try.ntmps85
    go_wp2_with (go_at_call 86; refine (isNaNI _ _).mono ?_; rintro e w' ⟨rfl, rfl⟩)
    go_ret
    exact ⟨ret_int hf.out.symm, rfl⟩
  · have hf := Lib.hid (show cmpA a b = 1 by simp [cmpA, h1, h2])
    go_enter Try.func85, Try.ntmps85
    go_wp2_with (go_at_call 86; refine (isNaNI _ _).mono ?_; rintro e w' ⟨rfl, rfl⟩)
    go_ret
    exact ⟨ret_int hf.out.symm, rfl⟩
  · have hf := Lib.hid (show cmpA a b = 0 by simp [cmpA, h1, h2])
    go_enter Try.func85, Try.ntmps85
    go_wp2_with (go_at_call 86; refine (isNaNI _ _).mono ?_; rintro e w' ⟨rfl, rfl⟩)
    go_ret
    exact ⟨ret_int hf.out.symm, rfl⟩

set_option maxHeartbeats 800000 in
theorem or_any (g : Nat) (a b : Int) (w : World) (h0 : w.cell? ⟨g, 0, none⟩ = some (.int .i64 a)) (h1 : w.cell? ⟨g, 1, none⟩ = some (.int .i64 b)) :
    Calls Try.prog 84 #[.slice (some ⟨g, 0, none⟩) 2 2] w fun e w' => e = .returned (.int .i64 (orI a b)) ∧ w' = w := by
  go_enter Try.func84, Try.ntmps84
  by_cases ha : a = 0
  · have ha' : (a != 0) = false := by simp [ha]
    have hb01 : b = 0 ∨ b ≠ 0 := by omega
    have hf := Lib.hid (show orI a b = b by simp [orI, ha])
    clear ha
    go_wp2
    go_loop [8] (fun i => i = .int .i64 0 ∨ i = .int .i64 1 ∨ (i = .int .i64 2 ∧ Hid (b = 0))) (fun i => 2 - (intOf i).toNat)
    case atStart => exact .inl rfl
    case round =>
      rcases hrel with rfl | rfl | ⟨rfl, hb⟩
      · go_wp2
        go_round
        case rel => exact .inr (.inl rfl)
        case measure => simp [intOf]
      · rcases hb01 with hb | hb
        · have hb' : (b != 0) = false := by simp [hb]
          have HB := Lib.hid hb
          clear hb
          go_wp2
          go_round
          case rel => exact .inr (.inr ⟨rfl, HB⟩)
          case measure => simp [intOf]
        · have hb' : (b != 0) = true := by simpa using hb
          clear hb
          go_wp2
          go_ret
          exact ⟨ret_int hf.out.symm, rfl⟩
      · clear hb01
        go_wp2
        go_ret
        exact ⟨ret_int (hf.out.trans hb.out).symm, rfl⟩
  · have ha' : (a != 0) = true := by simpa using ha
    have hf := Lib.hid (show orI a b = a by simp [orI, ha])
    clear ha
    go_wp2
    refine wp_loop_rounds 3 ?_
    simp only [rounds_succ]
    go_wp2
    go_ret
    exact ⟨ret_int hf.out.symm, rfl⟩

set_option maxHeartbeats 400000 in
theorem isNaNS (s : ByteArray) (w : World) :
    Calls Try.prog 44 #[.string s] w fun e w' => e = .returned (.bool false) ∧ w = w' := by
  go_enter Try.func44, Try.ntmps44
  go_wp2
  go_ret
  exact ⟨ret_bool rfl, rfl⟩
set_option maxHeartbeats 800000 in
theorem cmpS_any (a b : ByteArray) (w : World) :
    Calls Try.prog 36 #[.string a, .string b] w fun e w' => e = .returned (.int .i64 (cmpS a b)) ∧ w = w' := by
  cases h1 : Op.bytesLess a.toList b.toList
  · cases h2 : (a.toList == b.toList)
    · have hf : cmpS a b = 1 := by simp [cmpS, h1, h2]
      have Hf := Lib.hid hf; clear hf
      go_enter Try.func36, Try.ntmps36
      go_wp2_with (go_at_call 44; refine (isNaNS _ _).mono ?_; rintro e w' ⟨rfl, rfl⟩)
      go_ret
      exact ⟨ret_int Hf.out.symm, rfl⟩
    · have hf : cmpS a b = 0 := by simp [cmpS, h1, h2]
      have Hf := Lib.hid hf; clear hf
      go_enter Try.func36, Try.ntmps36
      go_wp2_with (go_at_call 44; refine (isNaNS _ _).mono ?_; rintro e w' ⟨rfl, rfl⟩)
      go_ret
      exact ⟨ret_int Hf.out.symm, rfl⟩
  · have hf : cmpS a b = -1 := by simp [cmpS, h1]
    have Hf := Lib.hid hf; clear hf
    go_enter Try.func36, Try.ntmps36
    go_wp2_with (go_at_call 44; refine (isNaNS _ _).mono ?_; rintro e w' ⟨rfl, rfl⟩)
    go_ret
    exact ⟨ret_int Hf.out.symm, rfl⟩
end Go.Proofs.Yteladooegjgdnaa
