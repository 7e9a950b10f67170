/- Contracts: a reader: New, Uint, Count, End. -/
import Derived.Test.YtgjmnmcbinekdaaByt6
namespace Go.Proofs.Ytgjmnmcbinekdaa
open Go.RowKit Go.Lib

theorem chkC_yes {most x n : Nat} {rest : List UInt8} (h : (chkC most rest x n).2 = 0) : x ≤ most := by
  unfold chkC at h
  by_cases h1 : most < x
  · rw [if_pos h1] at h; exact absurd h (by simp)
  · omega
theorem chkU_yes {most x n : Nat} (h : (chkU most x n).2 = 0) : x ≤ most := by
  unfold chkU at h
  by_cases h1 : most < x
  · rw [if_pos h1] at h; exact absurd h (by simp)
  · omega
theorem numS_of {chk : Nat → Nat → Nat × Int} {P : Nat → Prop} (s : List UInt8 × Int) (h0 : P 0) (h : ∀ x n, (chk x n).2 = 0 → P x) : P (numS chk s).1 := by
  unfold numS
  simp only
  by_cases h1 : s.2 = 0
  · rw [if_neg (by simp [h1])]
    by_cases h2 : (rdN s.1).2.2 = 0
    · rw [if_pos h2]
      by_cases h3 : (chk (rdN s.1).1 (rdN s.1).2.1).2 = 0
      · rw [if_neg (by simp [h3])]
        exact h _ _ h3
      · rw [if_pos h3]; exact h0
    · rw [if_neg h2]
      simp only
      rw [if_pos h2]; exact h0
  · rw [if_pos h1]; exact h0
theorem cntS_le (most : Nat) (s : List UInt8 × Int) : (cntS most s).1 ≤ most := numS_of (P := fun x => x ≤ most) s (Nat.zero_le _) fun _ _ h => chkC_yes h
theorem uintS_le (most : Nat) (s : List UInt8 × Int) : (uintS most s).1 ≤ most := numS_of (P := fun x => x ≤ most) s (Nat.zero_le _) fun _ _ h => chkU_yes h
theorem numS_len (chk : Nat → Nat → Nat × Int) (s : List UInt8 × Int) : (numS chk s).2.1.length ≤ s.1.length := by
  unfold numS
  simp only
  by_cases h1 : s.2 = 0
  · rw [if_neg (by simp [h1])]
    by_cases h2 : (rdN s.1).2.2 = 0
    · rw [if_pos h2]
      by_cases h3 : (chk (rdN s.1).1 (rdN s.1).2.1).2 = 0
      · rw [if_neg (by simp [h3])]
        simp
      · rw [if_pos h3]; exact Nat.le_refl _
    · rw [if_neg h2]
      simp only
      rw [if_pos h2]; exact Nat.le_refl _
  · rw [if_pos h1]; exact Nat.le_refl _
/-- What End answers. -/
def endE (s : List UInt8 × Int) : Int := if s.2 = 0 ∧ s.1 ≠ [] then 8 else s.2
theorem riE {a b : Int} (h : a = b) : Ending.returned (.int .i64 a) = Ending.returned (.int .i64 b) := by rw [h]

set_option maxHeartbeats 400000 in
theorem rdNew_any (l : List UInt8) (w : World) :
    Calls Try.prog 29 #[.string ⟨l.toArray⟩] w fun e w' => e = .returned (.pointer (some ⟨w.heap.size, 0, none⟩)) ∧ RdAt w' w.heap.size l 0 ∧ Below w.heap.size w w' := by
  go_enter Try.func29, Try.ntmps29
  go_wp2_with fail
  go_ret
  exact ⟨rfl, by unfold RdAt; show (w.heap.push _)[w.heap.size]? = _; simp, (Below.refl _ _).alloc (Nat.le_refl _) _⟩
set_option maxHeartbeats 400000 in
theorem rdUint_any (most b : Nat) (rest : List UInt8) (e : Int) (w : World) (h : RdAt w b rest e) (hl : (rest.length : Int) ≤ 9223372036854775807) :
    Calls Try.prog 31 #[.pointer (some ⟨b, 0, none⟩), .int .u64 most] w (NumR b (uintS most (rest, e)) w) := by
  have hA : Below w.heap.size w (w.alloc (.cells #[.int .u64 most] 55)) := (Below.refl _ _).alloc (Nat.le_refl _) _
  have HA := Lib.hid hA
  have H := Lib.hid (h.below hA)
  have hm : (w.alloc (.cells #[.int .u64 most] 55)).cell? ⟨w.heap.size, 0, none⟩ = some (.int .u64 most) := by simp
  have HM := Lib.hid hm
  clear h hA hm
  go_enter Try.func31, Try.ntmps31
  go_wp2_with fail
  refine (numU_any w.heap.size most b rest e _ H.out HM.out hl).mono ?_
  rintro e1 w2 ⟨rfl, hr, hf⟩
  have HR := Lib.hid hr
  have HF := Lib.hid hf
  clear hr hf
  go_wp2_with fail
  go_ret
  exact ⟨rfl, HR.out, (Fr.of_below HA.out).trans HF.out⟩
set_option maxHeartbeats 400000 in
theorem rdCounted_any (most b : Nat) (rest : List UInt8) (e : Int) (w : World) (h : RdAt w b rest e) (hmost : most ≤ 1000000) (hl : (rest.length : Int) ≤ 9223372036854775807) :
    Calls Try.prog 45 #[.pointer (some ⟨b, 0, none⟩), .int .i64 most] w (NumR b (cntS most (rest, e)) w) := by
  have hA : Below w.heap.size w ((w.alloc (.cells #[.pointer (some ⟨b, 0, none⟩)] 57)).alloc (.cells #[.int .i64 most] 3)) := ((Below.refl _ _).alloc (Nat.le_refl _) _).alloc (by simp) _
  have HA := Lib.hid hA
  have H := Lib.hid (h.below hA)
  have hm : ((w.alloc (.cells #[.pointer (some ⟨b, 0, none⟩)] 57)).alloc (.cells #[.int .i64 most] 3)).cell? ⟨w.heap.size + 1, 0, none⟩ = some (.int .i64 most) := by simp
  have hp : ((w.alloc (.cells #[.pointer (some ⟨b, 0, none⟩)] 57)).alloc (.cells #[.int .i64 most] 3)).cell? ⟨w.heap.size, 0, none⟩ = some (.pointer (some ⟨b, 0, none⟩)) := by simp
  have HM := Lib.hid hm
  have HP := Lib.hid hp
  clear h hA hm hp
  go_enter Try.func45, Try.ntmps45
  go_wp2_with fail
  refine (numC_any (w.heap.size + 1) w.heap.size most b rest e _ H.out HM.out HP.out hmost hl).mono ?_
  rintro e1 w2 ⟨rfl, hr, hf⟩
  have HR := Lib.hid hr
  have HF := Lib.hid hf
  clear hr hf
  go_wp2_with fail
  go_ret
  exact ⟨rfl, HR.out, (Fr.of_below HA.out).trans HF.out⟩
def CntR (b : Nat) (r : Nat × List UInt8 × Int) (w : World) (e : Ending) (w' : World) : Prop := e = .returned (.int .i64 r.1) ∧ RdAt w' b r.2.1 r.2.2 ∧ Fr (fun i => i = b) w w'
set_option maxHeartbeats 400000 in
theorem rdCount_any (most b : Nat) (rest : List UInt8) (e : Int) (w : World) (h : RdAt w b rest e) (hmost : most ≤ 1000000) (hl : (rest.length : Int) ≤ 9223372036854775807) :
    Calls Try.prog 30 #[.pointer (some ⟨b, 0, none⟩), .int .i64 most] w (CntR b (cntS most (rest, e)) w) := by
  have H := Lib.hid h
  clear h
  go_enter Try.func30, Try.ntmps30
  go_wp2_with fail
  refine (rdCounted_any most b rest e w H.out hmost hl).mono ?_
  rintro e1 w2 ⟨rfl, hr, hf⟩
  have HR := Lib.hid hr
  have HF := Lib.hid hf
  have hle := cntS_le most (rest, e)
  have wr : IntKind.i64.wrap ((cntS most (rest, e)).1 : Int) = (cntS most (rest, e)).1 := by rw [IntKind.wrap_i64]; omega
  clear hr hf
  go_wp2_with fail
  go_ret
  exact ⟨riE (by first | rfl | exact wr), HR.out, HF.out⟩
set_option maxHeartbeats 400000 in
theorem rdEnd_any (b : Nat) (rest : List UInt8) (e : Int) (w : World) (h : RdAt w b rest e) :
    Calls Try.prog 32 #[.pointer (some ⟨b, 0, none⟩)] w fun en w' => en = .returned (.int .i64 (endE (rest, e))) ∧ Fr (fun i => i = b) w w' := by
  have c0 := h.c0
  have c1 := h.c1
  have z1 := h.z 1
  have H := Lib.hid h
  clear h
  go_enter Try.func32, Try.ntmps32
  go_wp2_with fail
  refine (rdNone_any b rest e w H.out).mono ?_
  rintro e1 w1 ⟨rfl, hw⟩
  have hw := hw.symm
  subst hw
  by_cases he : e = 0
  · have hb : (e == 0) = true := by simp [he]
    by_cases hr : rest = []
    · have HS : Hid (endE (rest, e) = e) := by show _ = _; unfold endE; rw [if_neg (by simp [hr])]
      have hs : rest.isEmpty = true := by rw [hr]; rfl
      clear he hr
      go_wp2_with fail
      go_ret
      exact ⟨riE HS.out.symm, Fr.refl _ _⟩
    · have HS : Hid (endE (rest, e) = 8) := by show _ = _; unfold endE; rw [if_pos ⟨he, hr⟩]
      have hs : rest.isEmpty = false := by simpa using hr
      clear he hr
      go_wp2_with fail
      go_ret
      exact ⟨riE HS.out.symm, (Fr.refl (fun i => i = b) w).setCell (p := ⟨b, 1, none⟩) rfl _⟩
  · have hb : (e == 0) = false := by simp [he]
    have HS : Hid (endE (rest, e) = e) := by show _ = _; unfold endE; rw [if_neg (by simp [he])]
    clear he
    go_wp2_with fail
    go_ret
    exact ⟨riE HS.out.symm, Fr.refl _ _⟩
end Go.Proofs.Ytgjmnmcbinekdaa
