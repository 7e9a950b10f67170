/- Plain laws on lists of bytes: the order of texts, what two have in common. -/
import Derived.Test.YtdhbjejejeljoaaGreatBranch2
import Derived.Lib.Strings
namespace Go.Proofs.YtdhbjejejeljoaaGreat
open Go.RowKit

theorem mayL_hit (s : List UInt8) (k : Nat) (hk : k < s.length) (hb : odd8 s[k] = true) : mayL s = false := by
  unfold mayL; rw [List.any_eq_true.2 ⟨s[k], List.getElem_mem hk, hb⟩]; simp
theorem mayL_none (s : List UInt8) (h : ∀ j, (hj : j < s.length) → odd8 s[j] = false) : mayL s = decide (s.length ≤ 12) := by
  unfold mayL
  have : s.any odd8 = false := by
    rw [List.any_eq_false]; intro x hx
    obtain ⟨j, hj, rfl⟩ := List.getElem_of_mem hx
    simp [h j hj]
  rw [this]; simp

end Go.Proofs.YtdhbjejejeljoaaGreat
namespace Go.Proofs.YtdhbjejejeljoaaGreat

def cmpL : List UInt8 → List UInt8 → Int
  | [], [] => 0
  | [], _ :: _ => -1
  | _ :: _, [] => 1
  | a :: x, b :: y => if a < b then -1 else if b < a then 1 else cmpL x y

theorem u8_tri (a b : UInt8) : a < b ∨ b < a ∨ a = b := by
  rcases Nat.lt_trichotomy a.toNat b.toNat with h | h | h
  · exact .inl (UInt8.lt_iff_toNat_lt.2 h)
  · exact .inr (.inr (UInt8.toNat_inj.1 h))
  · exact .inr (.inl (UInt8.lt_iff_toNat_lt.2 h))
theorem u8_irrefl (a : UInt8) : ¬ a < a := by rw [UInt8.lt_iff_toNat_lt]; omega
theorem u8_asymm {a b : UInt8} (h : a < b) : ¬ b < a := by rw [UInt8.lt_iff_toNat_lt] at *; omega
theorem u8_trans {a b c : UInt8} (h : a < b) (k : b < c) : a < c := by rw [UInt8.lt_iff_toNat_lt] at *; omega

theorem cmpL_refl : ∀ a, cmpL a a = 0
  | [] => rfl
  | a :: x => by simp [cmpL, cmpL_refl x]

theorem cmpL_val : ∀ a b, cmpL a b = -1 ∨ cmpL a b = 0 ∨ cmpL a b = 1
  | [], [] => by simp [cmpL]
  | [], _ :: _ => by simp [cmpL]
  | _ :: _, [] => by simp [cmpL]
  | a :: x, b :: y => by
    unfold cmpL; split
    · simp
    · split
      · simp
      · exact cmpL_val x y

theorem cmpL_neg : ∀ a b, cmpL a b = - cmpL b a
  | [], [] => by simp [cmpL]
  | [], _ :: _ => by simp [cmpL]
  | _ :: _, [] => by simp [cmpL]
  | a :: x, b :: y => by
    rcases u8_tri a b with h | h | h
    · simp [cmpL, h, u8_asymm h]
    · simp [cmpL, h, u8_asymm h]
    · subst h; simp [cmpL, ← cmpL_neg x y]

theorem cmpL_zero : ∀ a b, cmpL a b = 0 → a = b
  | [], [], _ => rfl
  | [], _ :: _, h => by simp [cmpL] at h
  | _ :: _, [], h => by simp [cmpL] at h
  | a :: x, b :: y, h => by
    rcases u8_tri a b with k | k | k
    · simp [cmpL, k] at h
    · simp [cmpL, k, u8_asymm k] at h
    · subst k; simp [cmpL] at h; rw [cmpL_zero x y h]

theorem cmpL_lt_trans : ∀ a b c, cmpL a b = -1 → cmpL b c = -1 → cmpL a c = -1
  | [], [], _, h, _ => by simp [cmpL] at h
  | [], _ :: _, [], _, k => by simp [cmpL] at k
  | [], _ :: _, _ :: _, _, _ => by simp [cmpL]
  | _ :: _, [], _, h, _ => by simp [cmpL] at h
  | _ :: _, _ :: _, [], _, k => by simp [cmpL] at k
  | a :: x, b :: y, c :: z, h, k => by
    rcases u8_tri a b with e | e | e
    · rcases u8_tri b c with f | f | f
      · simp [cmpL, u8_trans e f]
      · simp [cmpL, f, u8_asymm f] at k
      · subst f; simp [cmpL, e]
    · simp [cmpL, e, u8_asymm e] at h
    · subst e
      rcases u8_tri a c with f | f | f
      · simp [cmpL, f]
      · simp [cmpL, f, u8_asymm f] at k
      · subst f; simp [cmpL] at h k ⊢; exact cmpL_lt_trans x y z h k

theorem cmpL_le_trans {a b c : List UInt8} (h : cmpL a b ≤ 0) (k : cmpL b c ≤ 0) : cmpL a c ≤ 0 := by
  rcases cmpL_val a b with e | e | e
  · rcases cmpL_val b c with f | f | f
    · rw [cmpL_lt_trans _ _ _ e f]; omega
    · rw [← cmpL_zero _ _ f]; exact h
    · omega
  · rw [cmpL_zero _ _ e]; exact k
  · omega

theorem less_cmpL : ∀ a b, Op.bytesLess a b = decide (cmpL a b = -1)
  | [], [] => by simp [cmpL, Op.bytesLess]
  | [], _ :: _ => by simp [cmpL, Op.bytesLess]
  | _ :: _, [] => by simp [cmpL, Op.bytesLess]
  | a :: x, b :: y => by
    rcases u8_tri a b with h | h | h
    · simp [cmpL, Op.bytesLess, h]
    · have : (a == b) = false := by
        rw [beq_eq_false_iff_ne]; intro e; subst e; exact u8_irrefl _ h
      simp [cmpL, Op.bytesLess, h, u8_asymm h, this]
    · subst h; simp [cmpL, Op.bytesLess, less_cmpL x y]

theorem cmpS_eq (a b : ByteArray) : cmpS a b = cmpL a.data.toList b.data.toList := by
  unfold cmpS
  rw [Lib.toList_data, Lib.toList_data, less_cmpL]
  rcases cmpL_val a.data.toList b.data.toList with h | h | h
  · simp [h]
  · have e := cmpL_zero _ _ h
    rw [e, cmpL_refl]; simp
  · have e : (a.data.toList == b.data.toList) = false := by
      rw [beq_eq_false_iff_ne]; intro e; rw [e, cmpL_refl] at h; omega
    rw [h, e]; simp

theorem cmpL_drop_eq {a b : List UInt8} {k : Nat} (ha : k < a.length) (hb : k < b.length) (h : cmpL a b = cmpL (a.drop k) (b.drop k)) (he : a[k] = b[k]) :
    cmpL a b = cmpL (a.drop (k + 1)) (b.drop (k + 1)) := by
  rw [h, List.drop_eq_getElem_cons ha, List.drop_eq_getElem_cons hb, cmpL, he, if_neg (u8_irrefl _), if_neg (u8_irrefl _)]
theorem cmpL_drop_lt {a b : List UInt8} {k : Nat} (ha : k < a.length) (hb : k < b.length) (h : cmpL a b = cmpL (a.drop k) (b.drop k)) (he : a[k] < b[k]) : cmpL a b = -1 := by
  rw [h, List.drop_eq_getElem_cons ha, List.drop_eq_getElem_cons hb, cmpL, if_pos he]
theorem cmpL_drop_gt {a b : List UInt8} {k : Nat} (ha : k < a.length) (hb : k < b.length) (h : cmpL a b = cmpL (a.drop k) (b.drop k)) (he : b[k] < a[k]) : cmpL a b = 1 := by
  rw [h, List.drop_eq_getElem_cons ha, List.drop_eq_getElem_cons hb, cmpL, if_neg (u8_asymm he), if_pos he]
theorem cmpL_drop_end {a b : List UInt8} {k : Nat} (h : cmpL a b = cmpL (a.drop k) (b.drop k)) (hk : k ≤ a.length) (hk2 : k ≤ b.length) (he : k = a.length ∨ k = b.length) :
    cmpL a b = if a.length < b.length then -1 else if b.length < a.length then 1 else 0 := by
  rw [h]
  rcases Nat.lt_trichotomy a.length b.length with l | l | l
  · have e : k = a.length := by omega
    subst e
    rw [List.drop_eq_nil_of_le (Nat.le_refl _), List.drop_eq_getElem_cons l, if_pos l, cmpL]
  · have e : k = a.length := by omega
    subst e
    rw [List.drop_eq_nil_of_le (Nat.le_refl _), List.drop_eq_nil_of_le (by omega), if_neg (by omega), if_neg (by omega), cmpL]
  · have e : k = b.length := by omega
    subst e
    rw [List.drop_eq_nil_of_le (Nat.le_refl b.length), List.drop_eq_getElem_cons l, if_neg (by omega), if_pos l, cmpL]

def lcp : List UInt8 → List UInt8 → List UInt8
  | a :: x, b :: y => if a = b then a :: lcp x y else []
  | _, _ => []

theorem lcp_nil_right : ∀ a, lcp a [] = []
  | [] => rfl
  | _ :: _ => rfl
theorem lcp_prefix : ∀ a b, a <+: b → lcp a b = a
  | [], _, _ => by simp [lcp]
  | a :: x, [], h => by simp at h
  | a :: x, b :: y, h => by
    rw [List.cons_prefix_cons] at h
    rw [lcp, if_pos h.1, lcp_prefix x y h.2]
theorem lcp_snoc : ∀ (l : List UInt8) (x : UInt8) (b : List UInt8), ¬ (l ++ [x]) <+: b → lcp (l ++ [x]) b = lcp l b
  | [], x, [], _ => by simp [lcp]
  | [], x, b :: y, h => by
    have : ¬ x = b := by intro e; subst e; exact h (by simp)
    simp [lcp, this]
  | a :: l, x, [], _ => by simp [lcp]
  | a :: l, x, b :: y, h => by
    by_cases e : a = b
    · subst e
      have h' : ¬ (l ++ [x]) <+: y := by intro k; exact h (by simpa using k)
      simp only [List.cons_append, lcp, if_true]
      rw [lcp_snoc l x y h']
    · simp [lcp, e]
theorem lcp_take_pred {a b : List UInt8} {k : Nat} (h0 : 0 < k) (hk : k ≤ a.length) (hn : ¬ a.take k <+: b) : lcp (a.take k) b = lcp (a.take (k - 1)) b := by
  have e : a.take k = a.take (k - 1) ++ [a[k - 1]] := by
    have := List.take_succ_eq_append_getElem (l := a) (i := k - 1) (by omega)
    rw [show k - 1 + 1 = k from by omega] at this; exact this
  rw [e] at hn ⊢; exact lcp_snoc _ _ _ hn
theorem lcp_step {a b : List UInt8} {k : Nat} (ha : k < a.length) (hb : k < b.length) (h : lcp a b = a.take k ++ lcp (a.drop k) (b.drop k)) (he : a[k] = b[k]) :
    lcp a b = a.take (k + 1) ++ lcp (a.drop (k + 1)) (b.drop (k + 1)) := by
  rw [h, List.drop_eq_getElem_cons ha, List.drop_eq_getElem_cons hb, lcp, if_pos he, List.take_succ_eq_append_getElem ha, List.append_assoc, List.cons_append, List.nil_append]
theorem lcp_stop {a b : List UInt8} {k : Nat} (h : lcp a b = a.take k ++ lcp (a.drop k) (b.drop k)) (he : ¬ k < a.length ∨ ¬ k < b.length ∨ ∃ (ha : k < a.length) (hb : k < b.length), a[k] ≠ b[k]) :
    lcp a b = a.take k := by
  rw [h]
  rcases he with e | e | ⟨ha, hb, e⟩
  · rw [List.drop_eq_nil_of_le (by omega)]; simp [lcp]
  · rw [show b.drop k = [] from List.drop_eq_nil_of_le (by omega), lcp_nil_right]; simp
  · rw [List.drop_eq_getElem_cons ha, List.drop_eq_getElem_cons hb, lcp, if_neg e]; simp

theorem prefS_eq (s p : ByteArray) : prefS s p = p.data.toList.isPrefixOf s.data.toList := Lib.hasPrefix_raw s p
theorem prefS_iff (s p : ByteArray) : prefS s p = true ↔ p.data.toList <+: s.data.toList := by rw [prefS_eq, List.isPrefixOf_iff_prefix]
end Go.Proofs.YtdhbjejejeljoaaGreat
