/- The document's way to read a number of bytes: it answers as the other one. -/
import Derived.Test.YtgjmnmcbinekdaaCredB
namespace Go.Proofs.Ytgjmnmcbinekdaa
open Go.RowKit

def val7 : List UInt8 → Nat
  | [] => 0
  | b :: t => b.toNat % 128 + 128 * val7 t
def hiN : List UInt8 → Nat → Nat
  | [], _ => 0
  | _ :: _, 0 => 0
  | b :: t, k + 1 => if 128 ≤ b.toNat then hiN t k + 1 else 0
/-- What the document reads. -/
def rdD (l : List UInt8) : Nat × Nat × Int :=
  if hiN l 10 = l.length ∧ hiN l 10 < 10 then (0, 0, 10)
  else if hiN l 10 = 10 then (0, 0, 8)
  else if uBytes (val7 (l.take (hiN l 10 + 1)) % 18446744073709551616) ≠ l.take (hiN l 10 + 1) then (0, 0, 8)
  else (val7 (l.take (hiN l 10 + 1)) % 18446744073709551616, hiN l 10 + 1, 0)
theorem hiN_le : ∀ (l : List UInt8) (k : Nat), hiN l k ≤ k ∧ hiN l k ≤ l.length
  | [], k => by simp [hiN]
  | _ :: _, 0 => by simp [hiN]
  | b :: t, k + 1 => by
    have := hiN_le t k
    simp only [hiN, List.length_cons]
    split <;> omega
theorem val7_uBytes : ∀ (m : Nat), val7 (uBytes m) = m := by
  intro m
  induction m using Nat.strongRecOn with
  | _ m ih =>
    by_cases h : m < 128
    · rw [uBytes_small h]
      simp only [val7, UInt8.toNat_ofNat']; omega
    · rw [uBytes_big h]
      simp only [val7, ih (m / 128) (by omega), UInt8.toNat_ofNat']; omega
theorem uBytes_ne : ∀ (m : Nat), uBytes m ≠ [] := by
  intro m
  by_cases h : m < 128
  · rw [uBytes_small h]; simp
  · rw [uBytes_big h]; simp
/-- No zero stands at the end. -/
theorem uBytes_end : ∀ (Hs : List UInt8) (m : Nat), Hs ≠ [] → uBytes m ≠ Hs ++ [0]
  | [], _, h => absurd rfl h
  | a :: Hs, m, _ => by
    intro e
    by_cases h : m < 128
    · rw [uBytes_small h] at e
      have := congrArg List.length e
      simp at this
    · rw [uBytes_big h, List.cons_append] at e
      injection e with _ e
      by_cases hn : Hs = []
      · subst hn
        by_cases h2 : m / 128 < 128
        · rw [uBytes_small h2, List.nil_append] at e
          injection e with e _
          have := congrArg UInt8.toNat e
          rw [UInt8.toNat_ofNat'] at this
          simp at this
          omega
        · rw [uBytes_big h2] at e
          injection e with _ e
          exact uBytes_ne _ e
      · exact uBytes_end Hs _ hn e
theorem val7_snoc : ∀ (Hs : List UInt8) (b : UInt8), val7 (Hs ++ [b]) = val7 Hs + 128 ^ Hs.length * (b.toNat % 128)
  | [], b => by simp [val7]
  | a :: Hs, b => by
    simp only [List.cons_append, val7, List.length_cons, val7_snoc Hs b]
    rw [Nat.pow_succ, Nat.mul_add, Nat.mul_comm (128 ^ Hs.length) 128, Nat.mul_assoc]; omega
theorem val7_lt : ∀ (Hs : List UInt8), val7 Hs < 128 ^ Hs.length
  | [] => by simp [val7]
  | a :: Hs => by
    have := val7_lt Hs
    simp only [val7, List.length_cons, Nat.pow_succ]
    omega
theorem uBytes_val7 : ∀ (Hs : List UInt8) (b : UInt8), (∀ a ∈ Hs, 128 ≤ a.toNat) → b.toNat < 128 → (b.toNat ≠ 0 ∨ Hs = []) → uBytes (val7 (Hs ++ [b])) = Hs ++ [b] ∧ (b.toNat ≠ 0 → 0 < val7 (Hs ++ [b]))
  | [], b, _, hb, _ => by
    simp only [List.nil_append, val7, Nat.mul_zero, Nat.add_zero]
    rw [Nat.mod_eq_of_lt hb, uBytes_small hb]
    refine ⟨?_, by omega⟩
    rw [UInt8.ofNat_toNat]
  | a :: Hs, b, ha, hb, h => by
    have hb0 : b.toNat ≠ 0 := by rcases h with h | h; exact h; cases h
    obtain ⟨h1, h2⟩ := uBytes_val7 Hs b (fun x hx => ha x (by simp [hx])) hb (.inl hb0)
    have hv := h2 hb0
    have h128 := ha a (by simp)
    have hlt := a.toNat_lt
    simp only [List.cons_append, val7]
    refine ⟨?_, by omega⟩
    rw [uBytes_big (by omega), show (a.toNat % 128 + 128 * val7 (Hs ++ [b])) / 128 = val7 (Hs ++ [b]) by omega, h1]
    congr 1
    apply UInt8.toNat_inj.1
    rw [UInt8.toNat_ofNat']
    omega
theorem or_step {n x c : Nat} (hn : n ≤ 9) (hx : x < 2 ^ (7 * n)) : x ||| (c * 2 ^ (7 * n) % 18446744073709551616) = (x + c * 2 ^ (7 * n)) % 18446744073709551616 := by
  have e : (18446744073709551616 : Nat) = 2 ^ (64 - 7 * n) * 2 ^ (7 * n) := by rw [← Nat.pow_add, show 64 - 7 * n + 7 * n = 64 by omega]
  have h1 : c * 2 ^ (7 * n) % 18446744073709551616 = c % 2 ^ (64 - 7 * n) * 2 ^ (7 * n) := by rw [e, Nat.mul_mod_mul_right]
  have hd : c % 2 ^ (64 - 7 * n) < 2 ^ (64 - 7 * n) := Nat.mod_lt _ (Nat.pow_pos (by decide))
  have h2 : x ||| (c % 2 ^ (64 - 7 * n) * 2 ^ (7 * n)) = x + c % 2 ^ (64 - 7 * n) * 2 ^ (7 * n) := by
    rw [Nat.or_comm, Nat.mul_comm, ← Nat.two_pow_add_eq_or_of_lt hx]; omega
  have h3 : x + c % 2 ^ (64 - 7 * n) * 2 ^ (7 * n) < 18446744073709551616 := by
    have : (c % 2 ^ (64 - 7 * n) + 1) * 2 ^ (7 * n) ≤ 2 ^ (64 - 7 * n) * 2 ^ (7 * n) := Nat.mul_le_mul_right _ hd
    rw [Nat.add_mul, ← e] at this
    omega
  rw [h1, h2, Nat.add_mod, h1, ← Nat.mod_eq_of_lt h3]
  conv => rhs; rw [Nat.add_mod]
  have hx2 : x < 18446744073709551616 := by omega
  rw [Nat.mod_eq_of_lt hx2]
  simp
theorem hiN_take : ∀ (l : List UInt8) (k : Nat), ∀ a ∈ l.take (hiN l k), 128 ≤ a.toNat
  | [], k => by simp
  | _ :: _, 0 => by simp [hiN]
  | b :: t, k + 1 => by
    simp only [hiN]
    split
    · rename_i h
      intro a ha
      rw [List.take_succ_cons] at ha
      rcases List.mem_cons.1 ha with rfl | ha
      · exact h
      · exact hiN_take t k a ha
    · simp
theorem rdGo_law : ∀ (l : List UInt8) (n x last : Nat), n ≤ 10 → 128 ≤ last →
    (hiN l (10 - n) = l.length → (rdGo l n x last).1 = n + hiN l (10 - n) ∧ 128 ≤ (rdGo l n x last).2.2) ∧
    (n + hiN l (10 - n) = 10 → (rdGo l n x last).1 = 10 ∧ 128 ≤ (rdGo l n x last).2.2) ∧
    (∀ h : hiN l (10 - n) < l.length, n + hiN l (10 - n) < 10 → (l[hiN l (10 - n)]).toNat < 128 ∧ (x < 2 ^ (7 * n) → rdGo l n x last = (n + hiN l (10 - n) + 1, (x + 2 ^ (7 * n) * val7 (l.take (hiN l (10 - n) + 1))) % 18446744073709551616, (l[hiN l (10 - n)]).toNat)))
  | [], n, x, last, hn, hl => by simp [hiN, rdGo, hl]
  | b :: t, n, x, last, hn, hl => by
    by_cases h10 : n = 10
    · subst h10
      simp [hiN, rdGo, hl]
    · obtain ⟨k, hk⟩ : ∃ k, 10 - n = k + 1 := ⟨9 - n, by omega⟩
      rw [hk]
      by_cases hb : b.toNat < 128
      · have e : hiN (b :: t) (k + 1) = 0 := by simp only [hiN]; rw [if_neg (by omega)]
        simp only [e]
        refine ⟨fun h => by simp at h, fun h => by omega, fun _ _ => ⟨by simpa using hb, fun hx => ?_⟩⟩
        unfold rdGo
        rw [if_pos (by omega), if_pos hb]
        simp only [List.take_succ_cons, List.take_zero, val7, Nat.mul_zero, Nat.add_zero, List.getElem_cons_zero]
        rw [or_step (by omega) hx, Nat.mul_comm]
      · have e : hiN (b :: t) (k + 1) = hiN t k + 1 := by simp only [hiN]; rw [if_pos (by omega)]
        have ek : 10 - (n + 1) = k := by omega
        have ih := rdGo_law t (n + 1) (x ||| (b.toNat % 128 * 2 ^ (7 * n) % 18446744073709551616)) b.toNat (by omega) (by omega)
        rw [ek] at ih
        obtain ⟨i1, i2, i3⟩ := ih
        have er : rdGo (b :: t) n x last = rdGo t (n + 1) (x ||| (b.toNat % 128 * 2 ^ (7 * n) % 18446744073709551616)) b.toNat := by
          conv => lhs; unfold rdGo
          rw [if_pos (by omega), if_neg hb]
        rw [er]
        simp only [e]
        refine ⟨fun h => ?_, fun h => ?_, fun h h' => ?_⟩
        · obtain ⟨a1, a2⟩ := i1 (by simpa using h)
          exact ⟨by omega, a2⟩
        · exact i2 (by omega)
        · obtain ⟨a1, a2⟩ := i3 (by simpa using h) (by omega)
          refine ⟨by simpa using a1, fun hx => ?_⟩
          have hn8 : n ≤ 8 := by omega
          have hlt : x + b.toNat % 128 * 2 ^ (7 * n) < 2 ^ (7 * (n + 1)) := by
            have h1 : b.toNat % 128 < 128 := Nat.mod_lt _ (by decide)
            have h2 : (b.toNat % 128 + 1) * 2 ^ (7 * n) ≤ 128 * 2 ^ (7 * n) := Nat.mul_le_mul_right _ h1
            rw [Nat.add_mul] at h2
            have h3 : 2 ^ (7 * (n + 1)) = 128 * 2 ^ (7 * n) := by rw [show 7 * (n + 1) = 7 + 7 * n by omega, Nat.pow_add]
            omega
          have h63 : 2 ^ (7 * (n + 1)) ≤ 2 ^ 63 := Nat.pow_le_pow_right (by decide) (by omega)
          have eo : x ||| (b.toNat % 128 * 2 ^ (7 * n) % 18446744073709551616) = x + b.toNat % 128 * 2 ^ (7 * n) := by
            rw [or_step (by omega) hx, Nat.mod_eq_of_lt (by omega)]
          rw [eo] at a2
          rw [eo, a2 hlt]
          simp only [List.take_succ_cons, val7, List.getElem_cons_succ]
          have h3 : 2 ^ (7 * (n + 1)) = 2 ^ (7 * n) * 128 := by rw [show 7 * (n + 1) = 7 * n + 7 by omega, Nat.pow_add]
          rw [h3, Nat.mul_add, Nat.mul_assoc, Nat.mul_comm (b.toNat % 128)]
          refine Prod.ext ?_ (Prod.ext ?_ rfl)
          · simp only; omega
          · simp only; rw [Nat.add_assoc x]
theorem rdEnd_form {n x last : Nat} (h1 : last < 128) (h : last = 0 ∧ 1 < n ∨ n = 10 ∧ 1 < last) : rdEnd (n, x, last) = (0, 0, 8) := by
  unfold rdEnd
  rw [if_neg (by simp only; omega), if_pos (.inr h)]
theorem rdEnd_ok {n x last : Nat} (h1 : last < 128) (h : ¬ (last = 0 ∧ 1 < n ∨ n = 10 ∧ 1 < last)) : rdEnd (n, x, last) = (x, n, 0) := by
  unfold rdEnd
  rw [if_neg (by simp only; omega), if_neg (by
    simp only
    rintro (h2 | h2)
    · omega
    · exact h h2)]
theorem rdD_eq (l : List UInt8) : rdD l = rdN l := by
  obtain ⟨h1, h2, h3⟩ := rdGo_law l 0 0 128 (by omega) (by omega)
  have hle := hiN_le l 10
  have htk := hiN_take l 10
  rw [Nat.sub_zero] at h1 h2 h3
  unfold rdD rdN
  by_cases hA : hiN l 10 = l.length ∧ hiN l 10 < 10
  · obtain ⟨a1, a2⟩ := h1 hA.1
    rw [if_pos hA]
    unfold rdEnd
    rw [if_pos ⟨a2, by omega⟩]
  · rw [if_neg hA]
    by_cases hB : hiN l 10 = 10
    · obtain ⟨a1, a2⟩ := h2 (by omega)
      rw [if_pos hB]
      unfold rdEnd
      rw [if_neg (by omega), if_pos (.inl a2)]
    · rw [if_neg hB]
      have hlt : hiN l 10 < l.length := by omega
      obtain ⟨a1, a2⟩ := h3 hlt (by omega)
      have a3 := a2 (by simp)
      rw [Nat.mul_zero, Nat.pow_zero, Nat.one_mul, Nat.zero_add, Nat.zero_add] at a3
      rw [a3]
      have eL : l.take (hiN l 10 + 1) = l.take (hiN l 10) ++ [l[hiN l 10]] := List.take_succ_eq_append_getElem hlt
      have hHl : (l.take (hiN l 10)).length = hiN l 10 := by rw [List.length_take]; omega
      generalize hiN l 10 = h at *
      generalize l[h] = b at *
      generalize l.take h = Hs at *
      rw [eL]
      have hvl := val7_lt Hs
      have hvs := val7_snoc Hs b
      rw [Nat.mod_eq_of_lt a1] at hvs
      have hpw : 128 ^ Hs.length ≤ 128 ^ 9 := Nat.pow_le_pow_right (by decide) (by omega)
      have h7 : 128 ^ 9 * 2 = 18446744073709551616 := by decide
      have h79 : (128 : Nat) ^ 9 = 9223372036854775808 := by decide
      have hP9 : h = 9 → 128 ^ Hs.length = 9223372036854775808 := by intro e; rw [hHl, e]
      have hP8 : h ≠ 9 → 128 ^ Hs.length * 128 ≤ 9223372036854775808 := by
        intro e
        rw [← h79, ← Nat.pow_succ]
        exact Nat.pow_le_pow_right (by decide) (by omega)
      generalize 128 ^ Hs.length = P at *
      by_cases hc : b.toNat = 0 ∧ 0 < h
      · have hbz : b = 0 := UInt8.toNat_inj.1 (by rw [hc.1]; rfl)
        rw [rdEnd_form a1 (.inl ⟨hc.1, by omega⟩), if_pos]
        rw [hbz]
        exact uBytes_end Hs _ (by rintro rfl; simp at hHl; omega)
      · by_cases hd : h = 9 ∧ 1 < b.toNat
        · rw [rdEnd_form a1 (.inr ⟨by omega, hd.2⟩), if_pos]
          intro e
          have h4 := congrArg val7 e
          rw [val7_uBytes] at h4
          have h5 := Nat.mod_lt (val7 (Hs ++ [b])) (show 0 < 18446744073709551616 by decide)
          have h6 : P * 2 ≤ P * b.toNat := Nat.mul_le_mul_left _ hd.2
          rw [hP9 hd.1] at h6 hvs
          omega
        · have hbd : val7 (Hs ++ [b]) < 18446744073709551616 := by
            by_cases h9 : h = 9
            · have hb1 : b.toNat ≤ 1 := by omega
              have h6 : P * b.toNat ≤ P * 1 := Nat.mul_le_mul_left _ hb1
              have := hP9 h9
              rw [this] at h6 hvs hvl
              omega
            · have h6 : P * b.toNat ≤ P * 127 := Nat.mul_le_mul_left _ (by omega)
              have := hP8 h9
              generalize P * b.toNat = M at *
              omega
          have hcan := (uBytes_val7 Hs b htk a1 (by
            by_cases hz : b.toNat = 0
            · right
              exact List.length_eq_zero_iff.1 (by omega)
            · exact .inl hz)).1
          rw [Nat.mod_eq_of_lt hbd, if_neg (by rw [hcan]; simp), rdEnd_ok a1]
          rintro (h | h)
          · exact hc ⟨h.1, by omega⟩
          · exact hd ⟨by omega, h.2⟩
end Go.Proofs.Ytgjmnmcbinekdaa
