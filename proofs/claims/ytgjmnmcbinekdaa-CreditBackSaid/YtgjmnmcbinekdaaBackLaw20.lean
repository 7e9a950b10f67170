/- CreditBack, plainly: bytes are read as what was written; halves, swaps and shares keep what there is. -/
import Derived.Test.YtgjmnmcbinekdaaByt10
import Derived.Test.YtgjmnmcbinekdaaOrdLaw20
namespace Go.Proofs.Ytgjmnmcbinekdaa
open Go.RowKit Go.Lib

theorem uBytes_pos (n : Nat) : 1 ≤ (uBytes n).length := by
  by_cases h : n < 128
  · rw [uBytes_small h]; simp
  · rw [uBytes_big h]; simp
theorem allB_pos : ∀ l : List Nat, l.length ≤ (allB l).length
  | [] => by simp
  | x :: l => by
    have h1 := allB_pos l
    have h2 := uBytes_pos x
    unfold allB at *
    rw [List.flatMap_cons, List.length_append, List.length_cons]
    omega
theorem uintS_back {m : Nat} (h : m ≤ 4096) (t : List UInt8) : uintS 4096 (uBytes m ++ t, 0) = (m, t, 0) := by
  unfold uintS numS
  simp only [rdN_back (show m < 16384 by omega) t]
  have hc : chkU 4096 m (uBytes m).length = ((uBytes m).length, 0) := by unfold chkU; rw [if_neg (by omega)]
  simp [hc]
theorem manyS_back : ∀ (c : List Int) (t : List UInt8), (∀ x ∈ c, 0 ≤ x ∧ x ≤ 4096) → manyS c.length (allB (natC c) ++ t, 0) = (c, t, 0)
  | [], t, _ => rfl
  | x :: c, t, h => by
    have hx := h x (by simp)
    have e : allB (natC (x :: c)) ++ t = uBytes x.toNat ++ (allB (natC c) ++ t) := by
      unfold allB natC
      rw [List.map_cons, List.flatMap_cons, List.append_assoc]
    rw [e, List.length_cons, manyS_succ, uintS_back (by omega), manyS_back c t (fun y hy => h y (by simp [hy]))]
    simp only
    rw [show ((x.toNat : Nat) : Int) = x by omega]
theorem natC_len (c : List Int) : (natC c).length = c.length := by unfold natC; simp
theorem dec_enc {c : List Int} (h : mayC c = true) : decA (encB c) = (c, 0) := by
  have hl := (mayC_sc h).len
  have hc : cntS 4097 (encB c, 0) = (c.length, allB (natC c), 0) := by
    unfold cntS numS encB
    simp only [rdN_back (show c.length < 16384 by omega)]
    have hk : chkC 4097 (uBytes c.length ++ allB (natC c)) c.length (uBytes c.length).length = ((uBytes c.length).length, 0) := by
      unfold chkC
      have := allB_pos (natC c)
      rw [natC_len] at this
      rw [if_neg (by omega), if_neg (by rw [List.length_append]; omega)]
    simp [hk]
  have hm : decM (encB c) = (c, [], 0) := by
    unfold decM
    rw [hc]
    have := manyS_back c [] (mayC_ge h)
    rw [List.append_nil] at this
    exact this
  unfold decA
  rw [hm]
  simp [endE, h]
theorem enc_ok {c : List Int} (h : mayC c = true) : encA c = (encB c, 0) := by unfold encA; rw [if_pos h]
theorem enc_len {c : List Int} (h : mayC c = true) : (encB c).length ≤ 100000 := by
  have h1 := (mayC_sc h).len
  have h2 := allB_len (l := natC c) (fun n hn => by have := natC_le h n hn; omega)
  have h3 := uBytes_len10 (n := c.length) (by omega)
  rw [natC_len] at h2
  unfold encB
  rw [List.length_append]
  omega
theorem sum_set {α : Type} (f : α → Nat) : ∀ (l : List α) (i : Nat) (x : α) (h : i < l.length), ((l.set i x).map f).sum + f l[i] = (l.map f).sum + f x
  | [], i, x, h => by simp at h
  | y :: l, 0, x, h => by simp; omega
  | y :: l, i + 1, x, h => by
    have := sum_set f l i x (by simpa using h)
    simp at this ⊢
    omega
theorem mem_set {α : Type} {l : List α} {i : Nat} {x y : α} (h : y ∈ l.set i x) : y = x ∨ y ∈ l := by
  rcases List.mem_or_eq_of_mem_set h with h | h
  · exact .inr h
  · exact .inl h
theorem sum_pos {L : List (List Int)} (h : ∀ l ∈ L, l ≠ []) (hL : L ≠ []) : 0 < (L.map vC).sum := by
  cases L with
  | nil => exact absurd rfl hL
  | cons x l =>
    have := vC_pos (h x (by simp))
    simp; omega
/-- The end of CreditBack: what is had, what is left. -/
theorem back_end {H F : List (List Int)} (hH : ∀ l ∈ H, mayC l = true ∧ l ≠ []) (hF : ∀ l ∈ F, mayC l = true ∧ l ≠ []) (hs : (H.map vC).sum + (F.map vC).sum = pw 0) :
    ∃ h f, addL H = (0, h) ∧ addL F = (0, f) ∧ h.length ≤ 4097 ∧ f.length ≤ 4097 ∧ subA [0] h = (0, f) ∧ cmpC f f = 0 ∧ addL [h, f] = (0, [0]) ∧ decide (h = [0]) = decide (F.length = 0) := by
  obtain ⟨h, h1, h2, h3⟩ := addL_val (L := H) (fun l hl => (hH l hl).1) (by omega)
  obtain ⟨f, f1, f2, f3⟩ := addL_val (L := F) (fun l hl => (hF l hl).1) (by omega)
  refine ⟨h, f, h1, f1, (mayC_sc h2).len, (mayC_sc f2).len, ?_, ?_, ?_, ?_⟩
  · have hc : ¬ cmpC [0] h < 0 := by
      rcases cmpC_val one_may h2 with ⟨c, _⟩ | ⟨c, _⟩ | ⟨c, c'⟩
      · omega
      · omega
      · rw [one_vC] at c'; omega
    rw [subA_ge one_may h2 hc]
    obtain ⟨s1, s2, s3⟩ := sub_left one_may h2 hc
    rw [one_vC] at s2
    rw [vC_inj s3 (mayC_sc f2) (by omega)]
  · rcases cmpC_val f2 f2 with ⟨c, _⟩ | ⟨_, c⟩ | ⟨_, c⟩ <;> omega
  · obtain ⟨r, r1, r2, r3⟩ := addL_two h2 f2 (by omega)
    rw [r1, one_val (mayC_sc r2) (by omega)]
  · by_cases hz : F = []
    · subst hz
      simp at hs
      have e := one_val (mayC_sc h2) (by omega)
      rw [decide_eq_true e]; simp
    · have h9 := sum_pos (fun l hl => (hF l hl).2) hz
      have e : h ≠ [0] := by rintro rfl; rw [one_vC] at h3; omega
      rw [decide_eq_false e]
      have : F.length ≠ 0 := fun h => hz (List.length_eq_zero_iff.1 h)
      simp [this]
/-- Halves of a credit: both may be, neither is none. -/
theorem half_good {l : List Int} (h : mayC l = true) (hn : l ≠ []) (hl : ¬ 4096 < l.getD (l.length - 1) 0 + 1) :
    (mayC (keepL l) = true ∧ keepL l ≠ []) ∧ (mayC (giveL l) = true ∧ giveL l ≠ []) ∧ vC (keepL l) + vC (giveL l) = vC l := by
  obtain ⟨h1, h2, h3⟩ := half_val h hn (by omega)
  exact ⟨⟨sc_may h2 (by have := may_le h; omega), by unfold keepL; simp⟩, ⟨h3, by unfold giveL; simp⟩, h1⟩
end Go.Proofs.Ytgjmnmcbinekdaa
