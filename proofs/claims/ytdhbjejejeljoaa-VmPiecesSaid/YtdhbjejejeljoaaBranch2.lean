/- Contracts of package branch: Compare, Under, Kid and what they call. -/
import Derived.Test.YtdhbjejejeljoaaBranch
import Derived.Laws.IdiomStrings
namespace Go.Proofs.Ytdhbjejejeljoaa
open Go.RowKit

theorem gthen {w w1 w2 : World} (h : Below w.heap.size w w1) (h2 : Below w1.heap.size w1 w2) : Below w.heap.size w w2 := h.trans (h2.mono h.size)

def mayS (s : ByteArray) : Bool := mayL s.data.toList

set_option maxHeartbeats 400000 in
theorem may_any (s : ByteArray) (w : World) (hm : s.size ≤ 9223372036854775807) :
    Calls Try.prog 25 #[.string s] w fun e w' => e = .returned (.bool (mayS s)) ∧ Below w.heap.size w w' := by
  go_enter Try.func25, Try.ntmps25
  go_wp2_with fail
  refine (path_may s _ hm).mono ?_
  rintro e w1 ⟨rfl, hB⟩
  go_wp2
  go_ret
  exact ⟨ret_bool rfl, hB⟩

def prefS (s p : ByteArray) : Bool := decide (p.size ≤ s.size) && ((s.extract 0 p.size).toList == p.toList)




def cmpS (a b : ByteArray) : Int := if Op.bytesLess a.toList b.toList then -1 else if a.toList == b.toList then 0 else 1




def underS (s r : ByteArray) : Bool := mayS s && mayS r && prefS s r


theorem ret_two {a b c d : Value} (h : a = c) (h' : b = d) : Ending.returned (.tuple #[a, b]) = .returned (.tuple #[c, d]) := by rw [h, h']
def kidB (s : ByteArray) (n : Int) : Bool := mayS s && decide (1 ≤ n) && decide (n ≤ 16) && !decide (s.size = 12)
def kidS (s : ByteArray) (n : Int) : ByteArray := if kidB s n then ⟨s.data ++ #[UInt8.ofNat n.toNat]⟩ else ⟨#[]⟩
theorem kid_no {s : ByteArray} {n : Int} (h : kidB s n = false) : Value.string ⟨#[]⟩ = .string (kidS s n) ∧ Value.bool false = .bool (kidB s n) := by
  rw [h]; unfold kidS; rw [h]; exact ⟨rfl, rfl⟩

theorem kid_yes {s : ByteArray} {n : Int} (h : kidB s n = true) : Value.string (s ++ ⟨#[UInt8.ofNat n.toNat]⟩) = .string (kidS s n) ∧ Value.bool true = .bool (kidB s n) := by
  rw [h]; unfold kidS; rw [h]; exact ⟨by congr 1; ext1; simp, rfl⟩
theorem mayS_le {s : ByteArray} (h : mayS s = true) : s.size ≤ 12 := by
  unfold mayS mayL at h; simp at h; exact h.1

theorem conv_one (w : World) (n : Int) (h1 : 0 ≤ n) (h2 : n < 256) : (convert 69 9 (.slice (some ⟨w.heap.size, 0, none⟩) 1 1)).run Try.prog (w.alloc (.cells #[.int .u8 n] 5)) = .ok (.string ⟨#[UInt8.ofNat n.toNat]⟩) (w.alloc (.cells #[.int .u8 n] 5)) := by
  have h := run_convert_bytes_back (P := Try.prog) (w.alloc (.cells #[.int .u8 n] 5)) 69 9 5 ⟨w.heap.size, 0, none⟩ 1 [UInt8.ofNat n.toNat] Try.underlying69 Try.underlying5 Try.underlying9 (by
    intro j hj
    have e : j = 0 := by simp at hj; omega
    subst e
    have e2 : (((UInt8.ofNat n.toNat).toNat : Nat) : Int) = n := by simp; omega
    simp only [List.getElem_cons_zero, e2]
    exact World.cell?_alloc_at #[.int .u8 n] 5 _ 0 rfl)
  exact h

set_option maxHeartbeats 400000 in
set_option maxRecDepth 100000 in
theorem kid_any (s : ByteArray) (n : Int) (w : World) (hs : s.size ≤ 9223372036854775807) :
    Calls Try.prog 62 #[.string s, .int .i64 n] w fun e w' =>
      e = .returned (.tuple #[.string (kidS s n), .bool (kidB s n)]) ∧ Below w.heap.size w w' := by
  go_enter Try.func62, Try.ntmps62
  go_wp2_with fail
  refine (may_any s _ hs).mono ?_
  rintro e w1 ⟨rfl, hB1⟩
  cases h1 : mayS s
  · have hf := Lib.hid (kid_no (show kidB s n = false by simp [kidB, h1]))
    go_wp2
    go_ret2
    exact ⟨ret_two hf.out.1 hf.out.2, hB1⟩
  · by_cases h2 : n < 1
    · have hf := Lib.hid (kid_no (show kidB s n = false by simp [kidB, h1]; omega))
      go_wp2
      go_ret2
      exact ⟨ret_two hf.out.1 hf.out.2, hB1⟩
    · by_cases h3 : 16 < n
      · have hf := Lib.hid (kid_no (show kidB s n = false by simp [kidB]; omega))
        go_wp2
        go_ret2
        exact ⟨ret_two hf.out.1 hf.out.2, hB1⟩
      · by_cases h4 : s.size = 12
        · have hf := Lib.hid (kid_no (show kidB s n = false by simp [kidB, h1, h4]))
          have h5 : ((s.size : Int) == 12) = true := by simp [h4]
          have h4' := Lib.hid h4
          clear h4
          go_wp2
          go_ret2
          exact ⟨ret_two hf.out.1 hf.out.2, hB1⟩
        · have hf := Lib.hid (show kidB s n = true by simp [kidB, h1, h4]; omega)
          have h5 : ((s.size : Int) == 12) = false := by simp; omega
          have hv := conv_one w1 n (by omega) (by omega)
          have hsz := mayS_le h1
          go_wp2_with fail
          go_ret2
          exact ⟨ret_two (kid_yes hf.out).1 (kid_yes hf.out).2, hB1.alloc hB1.size _⟩
end Go.Proofs.Ytdhbjejejeljoaa
