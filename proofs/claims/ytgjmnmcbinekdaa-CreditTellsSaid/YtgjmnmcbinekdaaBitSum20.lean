/- The document's sums and differences of credits, by their bits. -/
import Derived.Test.YtgjmnmcbinekdaaBitLaw20
namespace Go.Proofs.Ytgjmnmcbinekdaa
open Go.RowKit Go.Lib

theorem vB_head {L : List Int} (hl : L.length = 4097) (hb : ∀ i (h : i < L.length), 0 < i → isBit L[i]) : ∃ r, vB 0 L = L.getD 0 0 * (pn 0 : Int) + r ∧ 0 ≤ r ∧ r < (pn 0 : Int) := by
  cases L with
  | nil => simp at hl
  | cons x L =>
    have hl' : L.length = 4096 := by simpa using hl
    have h := vB_rest L 0 (fun y hy => by
      obtain ⟨i, hi, rfl⟩ := List.getElem_of_mem hy
      exact hb (i + 1) (by simp; omega) (by omega)) (by omega)
    exact ⟨vB 1 L, rfl, h⟩
theorem bits_all {L : List Int} (hl : L.length = 4097) (hb : ∀ i (h : i < L.length), 0 < i → isBit L[i]) (h0 : isBit (L.getD 0 0)) : ∀ x ∈ L, isBit x := by
  intro x hx
  obtain ⟨i, hi, rfl⟩ := List.getElem_of_mem hx
  by_cases hi0 : i = 0
  · subst hi0
    rw [List.getD_eq_getElem?_getD, List.getElem?_eq_getElem hi] at h0
    exact h0
  · exact hb i hi (by omega)
theorem head_mul {x : Int} {p : Nat} (hp : 0 < p) (h : 2 ≤ x) : (p : Int) + p ≤ x * p := by
  have := Int.mul_le_mul_of_nonneg_right h (show (0 : Int) ≤ p by omega)
  omega
theorem head_neg {x : Int} {p : Nat} (hp : 0 < p) (h : x ≤ -1) : x * p ≤ -(p : Int) := by
  have := Int.mul_le_mul_of_nonneg_right h (show (0 : Int) ≤ p by omega)
  omega
theorem pn_zero : pn 0 = pw 0 := (pw_pn 0).symm
/-- What the document says of a sum of bits. -/
def finB (S : List Int) : Int × List Int := if 1 < S.getD 0 0 ∨ S.getD 0 0 = 1 ∧ 1 < (crF 0 S).length then (9, []) else (0, crF 0 S)
theorem finB_add {S : List Int} {L : List (List Int)} (hl : S.length = 4097) (hb : ∀ i (h : i < S.length), 0 < i → isBit S[i]) (h0 : 0 ≤ S.getD 0 0) (hL : ∀ l ∈ L, mayC l = true) (hv : vB 0 S = ((L.map vC).sum : Nat)) : finB S = addL L := by
  obtain ⟨r, h1, h2, h3⟩ := vB_head hl hb
  have hp := pn_pos 0
  have hpz := pn_zero
  have hsc : SC (crF 0 S) := crF_sc (by omega)
  unfold finB
  by_cases h2' : 2 ≤ S.getD 0 0
  · have := head_mul hp h2'
    rw [if_pos (.inl (by omega)), addL_over hL (by omega)]
  · have hbit : isBit (S.getD 0 0) := by unfold isBit; omega
    have hval := crF_val S 0 (bits_all hl hb hbit)
    rcases hbit with hz | hz
    · rw [hz] at h1 ⊢
      obtain ⟨c, c1, c2, c3⟩ := addL_val hL (by omega)
      rw [if_neg (by omega), c1, vC_inj hsc (mayC_sc c2) (by omega)]
    · rw [hz] at h1 ⊢
      by_cases hr : r = 0
      · obtain ⟨c, c1, c2, c3⟩ := addL_val hL (by omega)
        have e := vC_inj hsc (mayC_sc c2) (by omega)
        have e1 := one_val hsc (by omega)
        rw [if_neg (by rw [e1]; simp), c1, e]
      · rw [addL_over hL (by omega), if_pos]
        refine .inr ⟨rfl, ?_⟩
        rcases hc : crF 0 S with _ | ⟨x, _ | ⟨y, t⟩⟩
        · rw [hc] at hval
          have : ((vC [] : Nat) : Int) = 0 := rfl
          omega
        · exfalso
          rw [hc, vC_one] at hval
          have hx0 := (hsc.2 x (by rw [hc]; simp)).1
          have := pw_le hx0
          omega
        · simp
/-- A step of the carry. -/
def stepA (L : List Int) (k : Nat) : List Int := (L.set (k - 1) (L.getD (k - 1) 0 + L.getD k 0 / 2)).set k (L.getD k 0 % 2)
structure CarA (k : Nat) (V : Int) (L : List Int) : Prop where
  len : L.length = 4097
  val : vB 0 L = V
  low : ∀ i (h : i < L.length), i < k → 0 ≤ L[i] ∧ L[i] ≤ 20
  mid : 0 ≤ L.getD k 0 ∧ L.getD k 0 ≤ 40
  top : ∀ i (h : i < L.length), k < i → isBit L[i]
theorem getD_at {L : List Int} {i : Nat} (h : i < L.length) : L.getD i 0 = L[i] := by rw [List.getD_eq_getElem?_getD, List.getElem?_eq_getElem h]; rfl
theorem CarA.step {k : Nat} {V : Int} {L : List Int} (h : CarA (k + 1) V L) (hk : k + 1 ≤ 4096) : CarA k V (stepA L (k + 1)) := by
  have hl := h.len
  have hm := h.mid
  have hlo := h.low k (by omega) (by omega)
  have e1 : L.getD (k + 1) 0 = L[k + 1] := getD_at (by omega)
  have e0 : L.getD k 0 = L[k] := getD_at (by omega)
  rw [e1] at hm
  have hS : stepA L (k + 1) = (L.set k (L[k] + L[k + 1] / 2)).set (k + 1) (L[k + 1] % 2) := by unfold stepA; rw [Nat.add_sub_cancel, e1, e0]
  rw [hS]
  refine ⟨by simp [hl], ?_, fun i hi hik => ?_, ?_, fun i hi hik => ?_⟩
  · have hp := pn_half (k := k) hk
    rw [vB_set _ _ _ _ (by simp; omega), vB_set _ _ _ _ (by omega), List.getElem_set_ne (by omega), h.val, Nat.zero_add, Nat.zero_add, hp]
    have hd : L[k + 1] = 2 * (L[k + 1] / 2) + L[k + 1] % 2 := by omega
    generalize hq : L[k + 1] / 2 = q at *
    generalize hr : L[k + 1] % 2 = r at *
    rw [hd, show L[k] + q - L[k] = q by omega, show r - (2 * q + r) = -(2 * q) by omega, Int.neg_mul, Int.mul_assoc]
    push_cast
    rw [Int.mul_add]
    omega
  · rw [List.getElem_set_ne (by omega), List.getElem_set_ne (by omega)]
    exact h.low i (by simpa using hi) (by omega)
  · rw [getD_at (by simp; omega), List.getElem_set_ne (by omega), List.getElem_set_self]
    omega
  · by_cases hi1 : i = k + 1
    · subst hi1
      rw [List.getElem_set_self]
      unfold isBit; omega
    · rw [List.getElem_set_ne (by omega), List.getElem_set_ne (by omega)]
      exact h.top i (by simpa using hi) (by omega)
/-- The sum of all bits, ahead of the carry. -/
def sumB (L : List (List Int)) : List Int := L.foldl (fun s c => List.zipWith (· + ·) s (bitL c)) (List.replicate 4097 0)
theorem sumB_take {L : List (List Int)} {j : Nat} (h : j < L.length) : sumB (L.take (j + 1)) = List.zipWith (· + ·) (sumB (L.take j)) (bitL L[j]) := by
  unfold sumB
  rw [List.take_succ_eq_append_getElem h, List.foldl_append]; rfl
structure SumP (n : Nat) (V : Int) (s : List Int) : Prop where
  len : s.length = 4097
  val : vB 0 s = V
  bd : ∀ x ∈ s, 0 ≤ x ∧ x ≤ n
theorem sumB_ok (L : List (List Int)) (h : ∀ l ∈ L, mayC l = true) : SumP L.length ((L.map vC).sum : Nat) (sumB L) := by
  suffices H : ∀ j, j ≤ L.length → SumP j (((L.take j).map vC).sum : Nat) (sumB (L.take j)) by
    have := H L.length (Nat.le_refl _)
    rwa [List.take_length] at this
  intro j
  induction j with
  | zero =>
    intro _
    refine ⟨?_, ?_, ?_⟩
    · show (List.replicate 4097 (0 : Int)).length = 4097
      rw [List.length_replicate]
    · show vB 0 (List.replicate 4097 (0 : Int)) = _
      rw [vB_zero]; rfl
    · intro x hx
      have := List.eq_of_mem_replicate (show x ∈ List.replicate 4097 (0 : Int) from hx)
      omega
  | succ j ih =>
    intro hj
    have i := ih (by omega)
    have hjl : j < L.length := by omega
    have hm := h L[j] (List.getElem_mem hjl)
    rw [sumB_take hjl]
    refine ⟨by rw [List.length_zipWith, i.len, bitL_len]; rfl, ?_, fun x hx => ?_⟩
    · rw [vB_zip _ _ _ (by rw [i.len, bitL_len]), i.val, bitL_val (mayC_sc hm), List.take_succ_eq_append_getElem hjl]
      simp only [List.map_append, List.map_cons, List.map_nil, List.sum_append, List.sum_cons, List.sum_nil]; omega
    · obtain ⟨t, ht, rfl⟩ := List.getElem_of_mem hx
      rw [List.length_zipWith] at ht
      rw [List.getElem_zipWith]
      have h1 := i.bd _ (List.getElem_mem (show t < (sumB (L.take j)).length by omega))
      have h2 := bitL_bit L[j] _ (List.getElem_mem (show t < (bitL L[j]).length by omega))
      rcases h2 with h2 | h2 <;> rw [h2] <;> omega
theorem CarA.start {n : Nat} {V : Int} {s : List Int} (h : SumP n V s) (hn : n ≤ 20) : CarA 4096 V s := by
  have hl := h.len
  refine ⟨hl, h.val, fun i hi _ => ?_, ?_, fun i hi hik => by omega⟩
  · have := h.bd _ (List.getElem_mem hi); omega
  · have := h.bd _ (List.getElem_mem (show 4096 < s.length by omega))
    rw [getD_at (by omega)]; omega
theorem CarA.fin {V : Int} {S : List Int} {L : List (List Int)} (h : CarA 0 V S) (hL : ∀ l ∈ L, mayC l = true) (hv : V = ((L.map vC).sum : Nat)) : finB S = addL L :=
  finB_add h.len (fun i hi h0 => h.top i hi h0) h.mid.1 hL (by rw [h.val, hv])
/-- A step of the borrow. -/
def stepS (L : List Int) (k : Nat) (y : Int) : List Int :=
  if L.getD k 0 - y < 0 ∧ 0 < k then (L.set k (L.getD k 0 - y + 2)).set (k - 1) (L.getD (k - 1) 0 - 1) else L.set k (L.getD k 0 - y)
/-- Numbers 0 .. k - 1 of what is taken away are still to be taken. -/
structure BorS (k : Nat) (V : Int) (Y L : List Int) : Prop where
  len : L.length = 4097
  val : vB 0 L = V + vB 0 (Y.take k)
  low : ∀ i (h : i < L.length), i + 1 < k → isBit L[i]
  mid : ∀ i (h : i < L.length), i + 1 = k → -1 ≤ L[i] ∧ L[i] ≤ 1
  top : ∀ i (h : i < L.length), k ≤ i → 0 < i → isBit L[i]
  fst : k = 0 → ∀ (h : 0 < L.length), L[0] ≤ 1
theorem vB_take : ∀ (Y : List Int) (k j : Nat) (h : j < Y.length), vB k (Y.take (j + 1)) = vB k (Y.take j) + Y[j] * (pn (k + j) : Int)
  | [], _, _, h => by simp at h
  | y :: Y, k, 0, _ => by simp [vB]
  | y :: Y, k, j + 1, h => by
    have := vB_take Y (k + 1) j (by simpa using h)
    simp only [List.take_succ_cons, vB, List.getElem_cons_succ]
    rw [this, show k + 1 + j = k + (j + 1) by omega]; omega
theorem BorS.step {k : Nat} {V : Int} {Y L : List Int} (h : BorS (k + 1) V Y L) (hk : k ≤ 4096) (hY : Y.length = 4097) (hb : ∀ y ∈ Y, isBit y) : BorS k V Y (stepS L k (Y.getD k 0)) := by
  have hl := h.len
  have eL : L.getD k 0 = L[k] := getD_at (by omega)
  have eY : Y.getD k 0 = Y[k] := getD_at (by omega)
  have hm := h.mid k (by omega) rfl
  have hy := hb Y[k] (List.getElem_mem (by omega))
  have hv := h.val
  rw [vB_take Y 0 k (by omega), Nat.zero_add] at hv
  unfold stepS
  rw [eL, eY]
  by_cases hc : L[k] - Y[k] < 0 ∧ 0 < k
  · rw [if_pos hc]
    obtain ⟨j, rfl⟩ : ∃ j, k = j + 1 := ⟨k - 1, by omega⟩
    rw [Nat.add_sub_cancel]
    have eJ : L.getD j 0 = L[j] := getD_at (by omega)
    have hj := h.low j (by omega) (by omega)
    rw [eJ]
    refine ⟨by simp [hl], ?_, fun i hi hik => ?_, fun i hi hik => ?_, fun i hi hik h0 => ?_, fun h => by omega⟩
    · have hp := pn_half (k := j) (by omega)
      rw [vB_set _ _ _ _ (by simp; omega), vB_set _ _ _ _ (by omega), List.getElem_set_ne (by omega), hv, Nat.zero_add, Nat.zero_add, hp]
      generalize L[j + 1] = a at *
      generalize L[j] = b at *
      generalize Y[j + 1] = y at *
      rw [show b - 1 - b = -1 by omega, show a - y + 2 - a = 2 - y by omega, Int.sub_mul]
      push_cast
      omega
    · rw [List.getElem_set_ne (by omega), List.getElem_set_ne (by omega)]
      exact h.low i (by simpa using hi) (by omega)
    · have : i = j := by omega
      subst this
      rw [List.getElem_set_self]
      rcases hj with hj | hj <;> rw [hj] <;> omega
    · by_cases hi1 : i = j + 1
      · subst hi1
        rw [List.getElem_set_ne (by omega), List.getElem_set_self]
        rcases hy with hy | hy <;> rw [hy] at hc ⊢ <;> unfold isBit <;> omega
      · rw [List.getElem_set_ne (by omega), List.getElem_set_ne (by omega)]
        exact h.top i (by simpa using hi) (by omega) (by omega)
  · rw [if_neg hc]
    refine ⟨by simp [hl], ?_, fun i hi hik => ?_, fun i hi hik => ?_, fun i hi hik h0 => ?_, fun h0 hi => ?_⟩
    · rw [vB_set _ _ _ _ (by omega), hv, Nat.zero_add, show L[k] - Y[k] - L[k] = - Y[k] by omega, Int.neg_mul]; omega
    · rw [List.getElem_set_ne (by omega)]
      exact h.low i (by simpa using hi) (by omega)
    · rw [List.getElem_set_ne (by omega)]
      have := h.low i (by simpa using hi) (by omega)
      rcases this with h | h <;> rw [h] <;> omega
    · by_cases hi1 : i = k
      · subst hi1
        rw [List.getElem_set_self]
        rcases hy with hy | hy <;> rw [hy] at hc ⊢ <;> unfold isBit <;> omega
      · rw [List.getElem_set_ne (by omega)]
        exact h.top i (by simpa using hi) (by omega) (by omega)
    · subst h0
      rw [List.getElem_set_self]
      rcases hy with hy | hy <;> rw [hy] <;> omega
theorem BorS.start {a b : List Int} (ha : mayC a = true) (hb : mayC b = true) : BorS 4097 ((vC a : Int) - vC b) (bitL b) (bitL a) := by
  have hl := bitL_len a
  refine ⟨hl, ?_, fun i hi _ => bitL_bit a _ (List.getElem_mem hi), fun i hi _ => ?_, fun i hi h _ => by omega, fun h => by omega⟩
  · rw [List.take_of_length_le (by rw [bitL_len]; omega), bitL_val (mayC_sc ha), bitL_val (mayC_sc hb)]; omega
  · have := bitL_bit a _ (List.getElem_mem hi)
    rcases this with h | h <;> rw [h] <;> omega
theorem BorS.fin {a b Y S : List Int} (h : BorS 0 ((vC a : Int) - vC b) Y S) (ha : mayC a = true) (hb : mayC b = true) (hc : ¬ cmpC a b < 0) : crF 0 S = subL a b := by
  have hge := cmpC_ge ha hb hc
  obtain ⟨s1, s2, s3⟩ := sub_left ha hb hc
  have hl := h.len
  have hb1 : ∀ i (hi : i < S.length), 0 < i → isBit S[i] := fun i hi h0 => h.top i hi (by omega) h0
  obtain ⟨r, h1, h2, h3⟩ := vB_head hl hb1
  have hv := h.val
  rw [List.take_zero] at hv
  have hz : vB 0 [] = 0 := rfl
  have hp := pn_pos 0
  have hf := h.fst rfl (by omega)
  rw [← getD_at (by omega)] at hf
  have h0 : isBit (S.getD 0 0) := by
    unfold isBit
    by_cases hneg : S.getD 0 0 ≤ -1
    · have := head_neg hp hneg; omega
    · omega
  have hcv := crF_val S 0 (bits_all hl hb1 h0)
  exact vC_inj (crF_sc (by omega)) s3 (by omega)
end Go.Proofs.Ytgjmnmcbinekdaa
