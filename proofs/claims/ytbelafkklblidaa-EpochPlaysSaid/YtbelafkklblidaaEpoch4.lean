/- Contracts of package epoch: Allows, Last. -/
import Derived.Test.YtbelafkklblidaaEpoch3
namespace Go.Proofs.Ytbelafkklblidaa
open Go.RowKit

def allowE (l : List (Nm × Int)) (n : Nm) (x : Int) : Int :=
  if mayS n.2 = false then 2 else match ownG l n with
    | none => 5
    | some g => if g.2 = x then 0 else 220

set_option maxHeartbeats 400000 in
theorem last_call (f m : Nat) (l : List (Nm × Int)) (last : Int) (w : World) (h : Fen w f m l last) :
    Calls Try.prog 21 #[.pointer (some ⟨f, 0, none⟩)] w fun e w' => e = .returned (.int .u64 last) ∧ w = w' := by
  have c1 := h.c1
  clear h
  go_enter Try.func21, Try.ntmps21
  go_wp2
  go_ret
  exact ⟨ret_int rfl, rfl⟩

set_option maxHeartbeats 1600000 in
set_option maxRecDepth 100000 in
theorem allows_any (f m : Nat) (l : List (Nm × Int)) (last : Int) (n : Nm) (x : Int) (w : World) (h : Fen w f m l last) (hs : n.2.size ≤ 9223372036854775807) :
    Calls Try.prog 19 #[.pointer (some ⟨f, 0, none⟩), .agg #[.int .u64 n.1, .string n.2], .int .u64 x] w fun e w' =>
      e = .returned (.int .i64 (allowE l n x)) ∧ Below w.heap.size w w' := by
  have hmn := mapNil
  go_enter Try.func19, Try.ntmps19
  have hB0 : Below w.heap.size w (w.alloc (.cells #[.int .u64 n.1, .string n.2] 35)) := (Below.refl _ _).alloc (Nat.le_refl _) _
  have h0 := h.below hB0
  clear h
  go_wp2_with fail
  refine (owner_any f m l last n _ h0 hs).mono ?_
  rintro e w1 ⟨he, hB1⟩
  have hF := Lib.hid (h0.below hB1)
  have n1 : w1.cell? ⟨w.heap.size, 0, none⟩ = some (.int .u64 n.1) := (hB1.cell (p := ⟨w.heap.size, 0, none⟩) (by simp)).trans (by simp)
  have n2 : w1.cell? ⟨w.heap.size, 1, none⟩ = some (.string n.2) := (hB1.cell (p := ⟨w.heap.size, 1, none⟩) (by simp)).trans (by simp)
  have hsz : w.heap.size < w1.heap.size := by have := hB1.size; simp at this; omega
  have hB := hB0.trans (hB1.mono (by simp))
  clear h0 hB0 hB1
  have c0 := hF.out.c0
  have hlt := hF.out.lt
  cases hg : ownG l n with
  | none =>
    rw [hg] at he
    subst he
    have hF2 := Lib.hid (hF.out.below ((Below.refl w1.heap.size w1).alloc (Nat.le_refl _) (.cells #[.int .u64 0, .string ⟨#[]⟩, .int .u64 0] 43)))
    have d0 := hF2.out.c0
    unfold grV
    go_wp2_with fail
    refine (may_any n.2 _ hs).mono ?_
    rintro e w2 ⟨rfl, hB2⟩
    have hB3 := hB.trans ((((Below.refl w1.heap.size w1).alloc (Nat.le_refl _) (.cells #[.int .u64 0, .string ⟨#[]⟩, .int .u64 0] 43)).trans (hB2.mono (by simp))).mono hB.size)
    cases hm : mayS n.2
    · have hf := Lib.hid (show allowE l n x = 2 by simp [allowE, hm])
      clear hm hg
      go_wp2_with fail
      go_ret
      exact ⟨ret_int hf.out.symm, hB3⟩
    · have hf := Lib.hid (show allowE l n x = 5 by simp [allowE, hm, hg])
      clear hm hg
      go_wp2_with fail
      go_ret
      exact ⟨ret_int hf.out.symm, hB3⟩
  | some g =>
    rw [hg] at he
    subst he
    obtain ⟨⟨gj, gp⟩, ge⟩ := g
    have hF2 := Lib.hid (hF.out.below ((Below.refl w1.heap.size w1).alloc (Nat.le_refl _) (.cells #[.int .u64 gj, .string gp, .int .u64 ge] 43)))
    have d0 := hF2.out.c0
    unfold grV
    go_wp2_with fail
    refine (may_any n.2 _ hs).mono ?_
    rintro e w2 ⟨rfl, hB2⟩
    have hB3 := hB.trans ((((Below.refl w1.heap.size w1).alloc (Nat.le_refl _) (.cells #[.int .u64 gj, .string gp, .int .u64 ge] 43)).trans (hB2.mono (by simp))).mono hB.size)
    have g2 : w2.cell? ⟨w1.heap.size, 2, none⟩ = some (.int .u64 ge) := (hB2.cell (p := ⟨w1.heap.size, 2, none⟩) (by simp)).trans (by simp)
    cases hm : mayS n.2
    · have hf := Lib.hid (show allowE l n x = 2 by simp [allowE, hm])
      clear hm hg
      go_wp2_with fail
      go_ret
      exact ⟨ret_int hf.out.symm, hB3⟩
    · by_cases hx : ge = x
      · have hf := Lib.hid (show allowE l n x = 0 by simp [allowE, hm, hg, hx])
        have hx' : (ge != x) = false := by simp [hx]
        clear hm hg hx
        go_wp2_with fail
        go_ret
        exact ⟨ret_int hf.out.symm, hB3⟩
      · have hf := Lib.hid (show allowE l n x = 220 by simp [allowE, hm, hg, hx])
        have hx' : (ge != x) = true := by simpa using hx
        clear hm hg hx
        go_wp2_with fail
        go_ret
        exact ⟨ret_int hf.out.symm, hB3⟩
end Go.Proofs.Ytbelafkklblidaa
