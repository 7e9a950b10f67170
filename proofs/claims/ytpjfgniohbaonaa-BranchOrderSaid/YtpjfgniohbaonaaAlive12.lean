/- alive() answers true. -/
import Derived.Test.YtpjfgniohbaonaaSort12
namespace Go.Proofs.Ytpjfgniohbaonaa
open Go.RowKit

def B (l : List UInt8) : ByteArray := ⟨l.toArray⟩
theorem kid1 (w : World) : Calls Try.prog 10 #[.string ⟨#[1]⟩, .int .i64 2] w fun e w' => e = .returned (.tuple #[.string ⟨#[1, 2]⟩, .bool true]) ∧ Below w.heap.size w w' :=
  (kid_any ⟨#[1]⟩ 2 w (by decide)).mono fun _ _ ⟨h, b⟩ => ⟨h.trans (ret_two (vs (by decide +kernel)) (vb (by decide +kernel))), b⟩
theorem kid2 (w : World) : Calls Try.prog 10 #[.string ⟨#[1]⟩, .int .i64 17] w fun e w' => e = .returned (.tuple #[.string ⟨#[]⟩, .bool false]) ∧ Below w.heap.size w w' :=
  (kid_any ⟨#[1]⟩ 17 w (by decide)).mono fun _ _ ⟨h, b⟩ => ⟨h.trans (ret_two (vs (by decide +kernel)) (vb (by decide +kernel))), b⟩
theorem par1 (w : World) : Calls Try.prog 8 #[.string ⟨#[1, 2]⟩] w fun e w' => e = .returned (.tuple #[.string ⟨#[1]⟩, .bool true]) ∧ Below w.heap.size w w' :=
  (parent_any ⟨#[1, 2]⟩ w (by decide)).mono fun _ _ ⟨h, b⟩ => ⟨h.trans (ret_two (vs (by decide +kernel)) (vb (by decide +kernel))), b⟩
theorem par2 (w : World) : Calls Try.prog 8 #[.string ⟨#[]⟩] w fun e w' => e = .returned (.tuple #[.string ⟨#[]⟩, .bool false]) ∧ Below w.heap.size w w' :=
  (parent_any ⟨#[]⟩ w (by decide)).mono fun _ _ ⟨h, b⟩ => ⟨h.trans (ret_two (vs (by decide +kernel)) (vb (by decide +kernel))), b⟩
theorem last1 (w : World) : Calls Try.prog 14 #[.string ⟨#[1, 2]⟩] w fun e w' => e = .returned (.int .i64 2) ∧ Below w.heap.size w w' :=
  (last_any ⟨#[1, 2]⟩ w (by decide)).mono fun _ _ ⟨h, b⟩ => ⟨h.trans (ret_int (by decide +kernel)), b⟩
theorem cmp1 (w : World) : Calls Try.prog 18 #[.string ⟨#[1]⟩, .string ⟨#[1, 1]⟩] w fun e w' => e = .returned (.int .i64 (-1)) ∧ w = w' :=
  (compare_any ⟨#[1]⟩ ⟨#[1, 1]⟩ w).mono fun _ _ ⟨h, b⟩ => ⟨h.trans (ret_int (by decide +kernel)), b⟩
theorem cmp2 (w : World) : Calls Try.prog 18 #[.string ⟨#[2]⟩, .string ⟨#[1, 5]⟩] w fun e w' => e = .returned (.int .i64 1) ∧ w = w' :=
  (compare_any ⟨#[2]⟩ ⟨#[1, 5]⟩ w).mono fun _ _ ⟨h, b⟩ => ⟨h.trans (ret_int (by decide +kernel)), b⟩
theorem under1 (w : World) : Calls Try.prog 16 #[.string ⟨#[1, 2]⟩, .string ⟨#[1]⟩] w fun e w' => e = .returned (.bool true) ∧ Below w.heap.size w w' :=
  (under_any ⟨#[1, 2]⟩ ⟨#[1]⟩ w (by decide) (by decide)).mono fun _ _ ⟨h, b⟩ => ⟨h.trans (ret_bool (by decide +kernel)), b⟩
theorem under2 (w : World) : Calls Try.prog 16 #[.string ⟨#[2]⟩, .string ⟨#[1]⟩] w fun e w' => e = .returned (.bool false) ∧ Below w.heap.size w w' :=
  (under_any ⟨#[2]⟩ ⟨#[1]⟩ w (by decide) (by decide)).mono fun _ _ ⟨h, b⟩ => ⟨h.trans (ret_bool (by decide +kernel)), b⟩
theorem common1 (w : World) : Calls Try.prog 20 #[.string ⟨#[1, 2]⟩, .string ⟨#[1, 3]⟩] w fun e w' => e = .returned (.string ⟨#[1]⟩) ∧ Below w.heap.size w w' :=
  (common_any ⟨#[1, 2]⟩ ⟨#[1, 3]⟩ w (by decide) (by decide)).mono fun _ _ ⟨h, b⟩ => ⟨h.trans (ret_str (by decide +kernel)), b⟩
theorem may1 (w : World) : Calls Try.prog 12 #[.string ⟨#[]⟩] w fun e w' => e = .returned (.bool true) ∧ Below w.heap.size w w' :=
  (may_any ⟨#[]⟩ w (by decide)).mono fun _ _ ⟨h, b⟩ => ⟨h.trans (ret_bool (by decide +kernel)), b⟩
theorem may2 (w : World) : Calls Try.prog 12 #[.string ⟨#[0]⟩] w fun e w' => e = .returned (.bool false) ∧ Below w.heap.size w w' :=
  (may_any ⟨#[0]⟩ w (by decide)).mono fun _ _ ⟨h, b⟩ => ⟨h.trans (ret_bool (by decide +kernel)), b⟩

theorem sort_three : sortS [⟨#[2]⟩, ⟨#[1, 5]⟩, ⟨#[1]⟩] = [⟨#[1]⟩, ⟨#[1, 5]⟩, ⟨#[2]⟩] :=
  sortS_unique (by decide +kernel) (by decide +kernel)

/-- What a slice of three texts of the call's own holds. -/
theorem own_three {w : World} {B : Nat} {v : Value} {a b c : ByteArray} {E : TypeId} (h : w.ownsRow B E 1 v 3 [.string a, .string b, .string c]) :
    ∃ g cap, v = .slice (some ⟨g, 0, none⟩) 3 cap ∧ B ≤ g ∧ g < w.heap.size ∧ w.cell? ⟨g, 0, none⟩ = some (.string a) ∧ w.cell? ⟨g, 1, none⟩ = some (.string b) ∧ w.cell? ⟨g, 2, none⟩ = some (.string c) := by
  obtain ⟨_, ⟨_, h⟩ | ⟨g, cap, cur, rfl, hb, hg, h1, h2, h3, h4⟩⟩ := h
  · omega
  · refine ⟨g, cap, rfl, hb, (Array.getElem?_eq_some_iff.1 hg).1, ?_, ?_, ?_⟩
    all_goals simp only [World.cell?, hg]
    · have := congrArg (fun l => l[0]?) h4; simpa [List.getElem?_take] using this
    · have := congrArg (fun l => l[1]?) h4; simpa [List.getElem?_take] using this
    · have := congrArg (fun l => l[2]?) h4; simpa [List.getElem?_take] using this

theorem sort1 (w : World) : Calls Try.prog 22 #[.slice (some ⟨w.heap.size, 0, none⟩) 3 3] (w.alloc (.cells #[.string ⟨#[2]⟩, .string ⟨#[1, 5]⟩, .string ⟨#[1]⟩] 9)) fun e w' =>
    ∃ g cap, e = .returned (.slice (some ⟨g, 0, none⟩) 3 cap) ∧ g < w'.heap.size ∧ w'.cell? ⟨g, 0, none⟩ = some (.string ⟨#[1]⟩) ∧ w'.cell? ⟨g, 2, none⟩ = some (.string ⟨#[2]⟩) ∧ Below w.heap.size w w' := by
  refine (sort_any _ [⟨#[2]⟩, ⟨#[1, 5]⟩, ⟨#[1]⟩] _ (.inr ⟨w.heap.size, 0, 3, rfl, by simp, ?_⟩) (by decide)).mono ?_
  · intro j hj
    rw [World.cell?_alloc_at _ _ _ _ rfl]
    match j, hj with
    | 0, _ => rfl
    | 1, _ => rfl
    | 2, _ => rfl
  · rintro e w' ⟨v, he, ho, hB⟩
    rw [sort_three] at ho
    obtain ⟨g, cap, rfl, _, hg, c0, _, c2⟩ := own_three ho
    exact ⟨g, cap, he, hg, c0, c2, ((Below.refl _ _).alloc (Nat.le_refl _) _).trans (hB.mono (by simp))⟩

theorem cellS {w w1 : World} {g o : Nat} {v : Value} (hB : Below w.heap.size w w1) (hg : g < w.heap.size) (h : w.cell? ⟨g, o, none⟩ = some v) : w1.cell? ⟨g, o, none⟩ = some v := (hB.cell (p := ⟨g, o, none⟩) hg).trans h

set_option maxHeartbeats 1000000 in
set_option maxRecDepth 100000 in
theorem alive_any (w : World) : Calls Try.prog 7 #[] w fun e w' => e = .returned (.bool true) ∧ Below w.heap.size w w' := by
  go_enter Try.func7, Try.ntmps7
  go_wp2_with fail
  refine (kid1 _).mono ?_; rintro e w1 ⟨rfl, hB⟩
  go_wp2_with fail
  refine (kid2 _).mono ?_; rintro e w2 ⟨rfl, hB2⟩; replace hB := gthen hB hB2; clear hB2
  go_wp2_with fail
  refine (par1 _).mono ?_; rintro e w3 ⟨rfl, hB2⟩; replace hB := gthen hB hB2; clear hB2
  go_wp2_with fail
  refine (par2 _).mono ?_; rintro e w4 ⟨rfl, hB2⟩; replace hB := gthen hB hB2; clear hB2
  go_wp2_with fail
  refine (sort1 _).mono ?_; rintro e w5 ⟨g, cap, rfl, hg, c0, c2, hB2⟩; replace hB := gthen hB hB2; clear hB2
  go_wp2_with fail
  refine (last1 _).mono ?_; rintro e w6 ⟨rfl, hB2⟩; replace hB := gthen hB hB2; replace c0 := cellS hB2 hg c0; replace c2 := cellS hB2 hg c2; replace hg := Nat.lt_of_lt_of_le hg hB2.size; clear hB2
  go_wp2_with fail
  refine (cmp1 _).mono ?_; rintro e w7 ⟨rfl, rfl⟩
  go_wp2_with fail
  refine (cmp2 _).mono ?_; rintro e w7 ⟨rfl, rfl⟩
  go_wp2_with fail
  refine (under1 _).mono ?_; rintro e w7 ⟨rfl, hB2⟩; replace hB := gthen hB hB2; replace c0 := cellS hB2 hg c0; replace c2 := cellS hB2 hg c2; replace hg := Nat.lt_of_lt_of_le hg hB2.size; clear hB2
  go_wp2_with fail
  refine (under2 _).mono ?_; rintro e w8 ⟨rfl, hB2⟩; replace hB := gthen hB hB2; replace c0 := cellS hB2 hg c0; replace c2 := cellS hB2 hg c2; replace hg := Nat.lt_of_lt_of_le hg hB2.size; clear hB2
  go_wp2_with fail
  refine (common1 _).mono ?_; rintro e w9 ⟨rfl, hB2⟩; replace hB := gthen hB hB2; replace c0 := cellS hB2 hg c0; replace c2 := cellS hB2 hg c2; replace hg := Nat.lt_of_lt_of_le hg hB2.size; clear hB2
  go_wp2_with fail
  refine (may1 _).mono ?_; rintro e w10 ⟨rfl, hB2⟩; replace hB := gthen hB hB2; clear hB2
  go_wp2_with fail
  refine (may2 _).mono ?_; rintro e w11 ⟨rfl, hB2⟩; replace hB := gthen hB hB2; clear hB2
  go_wp2
  go_ret
  exact ⟨ret_bool rfl, hB⟩
end Go.Proofs.Ytpjfgniohbaonaa
