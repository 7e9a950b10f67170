/- Contracts of package branch: end, Parent, Last, Common. -/
import Derived.Test.YtdhbjejejeljoaaGreatPlain12
namespace Go.Proofs.YtdhbjejejeljoaaGreat
open Go.RowKit

def parB (s : ByteArray) : Bool := !s.toList.isEmpty && mayS s
def endN (s : ByteArray) : Int := if parB s then (s.size : Int) - 1 else 0
def parS (s : ByteArray) : ByteArray := if parB s then s.extract 0 (s.size - 1) else ⟨#[]⟩
def lastS (s : ByteArray) : Int := if parB s then ((s.data.toList.getD (s.size - 1) 0).toNat : Int) else 0

theorem size_pos {s : ByteArray} (h : s.toList.isEmpty = false) : 0 < s.size := by
  rw [Lib.toList_data] at h
  have e : s.data.toList.length = s.size := by simp
  rcases Nat.eq_zero_or_pos s.size with k | k
  · rw [← e] at k; rw [List.length_eq_zero_iff.1 k] at h; simp at h
  · exact k
theorem parB_no1 {s : ByteArray} (h : s.toList.isEmpty = true) : parB s = false := by simp [parB, h]
theorem parB_no2 {s : ByteArray} (h : mayS s = false) : parB s = false := by simp [parB, h]
theorem parB_yes {s : ByteArray} (h : s.toList.isEmpty = false) (h' : mayS s = true) : parB s = true := by simp [parB, h, h']
theorem parB_size {s : ByteArray} (h : parB s = true) : 0 < s.size := by
  unfold parB at h; simp only [Bool.and_eq_true, Bool.not_eq_true'] at h; exact size_pos h.1
theorem endN_no {s : ByteArray} (h : parB s = false) : endN s = 0 := by simp [endN, h]
theorem endN_yes {s : ByteArray} (h : parB s = true) : endN s = (s.size : Int) - 1 := by simp [endN, h]

set_option maxHeartbeats 400000 in
set_option maxRecDepth 100000 in
theorem end_any (s : ByteArray) (w : World) (hs : s.size ≤ 9223372036854775807) :
    Calls Tryz.prog 47 #[.string s] w fun e w' => e = .returned (.tuple #[.int .i64 (endN s), .bool (parB s)]) ∧ Below w.heap.size w w' := by
  cases h1 : s.toList.isEmpty
  · have hp := size_pos h1
    go_enter Tryz.func47, Tryz.ntmps47
    go_wp2_with fail
    refine (path_may s _ hs).mono ?_
    rintro e w1 ⟨rfl, hB1⟩
    cases h2 : mayL s.data.toList
    · have hf := Lib.hid (parB_no2 (s := s) h2)
      go_wp2
      go_ret2
      exact ⟨ret_two (vi (endN_no hf.out).symm) (vb hf.out.symm), hB1⟩
    · have hf := Lib.hid (parB_yes h1 h2)
      go_wp2
      go_ret2
      exact ⟨ret_two (vi (endN_yes hf.out).symm) (vb hf.out.symm), hB1⟩
  · have hf := Lib.hid (parB_no1 h1)
    go_enter Tryz.func47, Tryz.ntmps47
    go_wp2
    go_ret2
    exact ⟨ret_two (vi (endN_no hf.out).symm) (vb hf.out.symm), Below.refl _ _⟩

theorem parS_no {s : ByteArray} (h : parB s = false) : ByteArray.empty = parS s := by
  simp [parS, h]; rfl
theorem parS_yes {s : ByteArray} (h : parB s = true) : s.extract 0 (s.size - 1) = parS s := by simp [parS, h]


theorem lastS_no {s : ByteArray} (h : parB s = false) : lastS s = 0 := by simp [lastS, h]

theorem lastS_yes {s : ByteArray} (hp : 0 < s.size) (h : parB s = true) : lastS s = wrap64 ((s[s.size - 1]'(by omega)).toNat : Int) := by
  have hb := (s[s.size - 1]'(by omega)).toNat_lt
  have e : s.data.toList.getD (s.size - 1) 0 = s[s.size - 1]'(by omega) := by
    rw [List.getD_eq_getElem?_getD, List.getElem?_eq_getElem (by simp; omega)]; rfl
  rw [IntWalk.wrap64_in _ (by omega)]
  unfold lastS; rw [if_pos h, e]

set_option maxHeartbeats 400000 in
set_option maxRecDepth 100000 in
theorem last_any (s : ByteArray) (w : World) (hs : s.size ≤ 9223372036854775807) :
    Calls Tryz.prog 27 #[.string s] w fun e w' => e = .returned (.int .i64 (lastS s)) ∧ Below w.heap.size w w' := by
  go_enter Tryz.func27, Tryz.ntmps27
  go_wp2_with fail
  refine (end_any s _ hs).mono ?_
  rintro e w1 ⟨rfl, hB1⟩
  cases h : parB s
  · have hf := Lib.hid h
    rw [endN_no h]; clear h
    go_wp2
    go_ret
    exact ⟨ret_int (lastS_no hf.out).symm, hB1⟩
  · have hp := parB_size h
    have hf := Lib.hid h
    rw [endN_yes h]; clear h
    go_wp2
    go_ret
    exact ⟨ret_int (lastS_yes hp hf.out).symm, hB1⟩

def commonS (a b : ByteArray) : ByteArray := if mayS a && mayS b then ⟨(lcp a.data.toList b.data.toList).toArray⟩ else ⟨#[]⟩
theorem commonS_no1 {a b : ByteArray} (h : mayS a = false) : (⟨#[]⟩ : ByteArray) = commonS a b := by simp [commonS, h]
theorem commonS_no2 {a b : ByteArray} (h : mayS b = false) : (⟨#[]⟩ : ByteArray) = commonS a b := by simp [commonS, h]
/-- A cut of the first text that bears all that the two have in common. -/
def Cut (a b a' : ByteArray) : Prop := mayS a' = true ∧ lcp a'.data.toList b.data.toList = lcp a.data.toList b.data.toList
theorem cut_done {a b a' : ByteArray} (h1 : mayS a = true) (h2 : mayS b = true) (hc : Cut a b a') (hp : prefS b a' = true) : a' = commonS a b := by
  unfold commonS; rw [h1, h2, Bool.and_self, if_pos rfl, ← hc.2, lcp_prefix _ _ ((prefS_iff _ _).1 hp)]
theorem mayL_take {s : List UInt8} (h : mayL s = true) (k : Nat) : mayL (s.take k) = true := by
  unfold mayL at *
  simp only [Bool.and_eq_true, decide_eq_true_eq, Bool.not_eq_true', List.any_eq_false] at *
  refine ⟨by rw [List.length_take]; omega, fun x hx => h.2 x (List.mem_of_mem_take hx)⟩
theorem cut_step {a b a' : ByteArray} (hc : Cut a b a') (hp : prefS b a' = false) : parB a' = true ∧ Cut a b (parS a') ∧ (parS a').size < a'.size := by
  have hn : ¬ a'.data.toList <+: b.data.toList := fun h => by rw [(prefS_iff _ _).2 h] at hp; cases hp
  have hne : a'.toList.isEmpty = false := by
    cases h : a'.toList.isEmpty
    · rfl
    · rw [Lib.toList_data, List.isEmpty_iff] at h; exact absurd (by rw [h]; exact List.nil_prefix) hn
  have hpos := size_pos hne
  have hpar := parB_yes hne hc.1
  have hl : a'.data.toList.length = a'.size := by simp
  have hd : (parS a').data.toList = a'.data.toList.take (a'.size - 1) := by
    rw [← parS_yes hpar, Lib.extract_data]; simp
  refine ⟨hpar, ⟨by unfold mayS; rw [hd]; exact mayL_take hc.1 _, ?_⟩, ?_⟩
  · have := lcp_take_pred (a := a'.data.toList) (b := b.data.toList) (k := a'.size) hpos (by omega) (by rw [List.take_of_length_le (by omega)]; exact hn)
    rw [hd, ← this, List.take_of_length_le (by omega)]; exact hc.2
  · have : (parS a').data.toList.length = (parS a').size := by simp
    rw [hd, List.length_take] at this; omega

def strOf : Value → ByteArray | .string s => s | _ => ⟨#[]⟩

end Go.Proofs.YtdhbjejejeljoaaGreat
