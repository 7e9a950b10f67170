/- Credits: one power less. -/
import Derived.Test.YtgjmnmcbinekdaaCredV
namespace Go.Proofs.Ytgjmnmcbinekdaa
open Go.RowKit Go.Sort Go.Lib

/-- The powers behind one, up to another. -/
def runC (f : Int) : Nat → List Int
  | 0 => []
  | n + 1 => runC f n ++ [f + (n + 1 : Nat)]
theorem runC_len (f : Int) : ∀ n, (runC f n).length = n
  | 0 => rfl
  | n + 1 => by unfold runC; rw [List.length_append, runC_len f n]; rfl
theorem mem_runC {f x : Int} : ∀ {n : Nat}, x ∈ runC f n → f < x ∧ x ≤ f + n
  | 0, h => by cases h
  | n + 1, h => by
    unfold runC at h
    rcases List.mem_append.1 h with h | h
    · have := mem_runC h; omega
    · rw [List.mem_singleton] at h; omega
theorem runC_sorted (f : Int) : ∀ n, (runC f n).Pairwise (· < ·)
  | 0 => List.Pairwise.nil
  | n + 1 => by
    unfold runC
    refine List.pairwise_append.2 ⟨runC_sorted f n, by simp, fun a ha b hb => ?_⟩
    rw [List.mem_singleton] at hb
    have := mem_runC ha
    omega
theorem runC_val {f : Int} (hf : 0 ≤ f) : ∀ n : Nat, f + n ≤ 4096 → vC (runC f n) + pw (f + n) = pw f
  | 0, _ => by show 0 + pw (f + 0) = pw f; rw [Int.add_zero, Nat.zero_add]
  | n + 1, h => by
    have ih := runC_val hf n (by omega)
    have hh := pw_half (k := f + (n : Int)) (by omega) (by omega)
    unfold runC
    rw [vC_append, vC_one]
    have e : f + ((n + 1 : Nat) : Int) = f + (n : Int) + 1 := by omega
    rw [e]
    omega
/-- A credit without one power that it is at least. -/
def minC (c : List Int) (k : Int) : List Int :=
  if c.contains k then delC c k else c.take (atC c k - 1) ++ runC (c.getD (atC c k - 1) 0) (k - c.getD (atC c k - 1) 0).toNat ++ c.drop (atC c k)
theorem atC_pos {c : List Int} {k : Int} (h : SC c) (hk : 0 ≤ k ∧ k ≤ 4096) (hc : c.contains k = false) (hv : pw k ≤ vC c) : 0 < atC c k := by
  rcases Nat.eq_zero_or_pos (atC c k) with h0 | h0
  · exfalso
    have hs := (split_at (k := k) h.1).2
    rw [h0, List.drop_zero] at hs
    have hne : ∀ x ∈ c, k + 1 ≤ x ∧ x ≤ 4096 := fun x hx => by
      have h1 := hs x hx
      have h2 : x ≠ k := by rintro rfl; have : c.contains x = true := by simpa using hx
                            rw [hc] at this; cases this
      exact ⟨by omega, (h.2 x hx).2⟩
    by_cases h4 : k = 4096
    · cases c with
      | nil => have := pw_pos k; change pw k ≤ 0 at hv; omega
      | cons x l => have := hne x (by simp); omega
    · have hl := vC_lt c (k + 1) h.1 hne (by omega)
      have := pw_half hk.1 (by omega)
      omega
  · exact h0
theorem minC_ok {c : List Int} {k : Int} (h : SC c) (hk : 0 ≤ k ∧ k ≤ 4096) (hv : pw k ≤ vC c) : SC (minC c k) ∧ vC (minC c k) + pw k = vC c := by
  unfold minC
  cases hc : c.contains k with
  | true =>
    rw [if_pos rfl]
    exact ⟨h.del k, vC_delC h.1 (by simpa using hc)⟩
  | false =>
    rw [if_neg (by simp)]
    have hpos := atC_pos h hk hc hv
    have hle := atC_le c k
    obtain ⟨hlo, hhi⟩ := split_at (k := k) h.1
    have hi : atC c k - 1 < c.length := by omega
    have hg : c.getD (atC c k - 1) 0 = c[atC c k - 1] := by simp [List.getD_eq_getElem?_getD, hi]
    rw [hg]
    have hf := h.2 _ (List.getElem_mem hi)
    have hfk : c[atC c k - 1] < k := hlo _ (by
      have : (c.take (atC c k))[atC c k - 1]'(by rw [List.length_take]; omega) = c[atC c k - 1] := List.getElem_take
      rw [← this]; exact List.getElem_mem _)
    have hsplit : c = c.take (atC c k - 1) ++ c[atC c k - 1] :: c.drop (atC c k) := by
      conv => lhs; rw [← List.take_append_drop (atC c k - 1) c, List.drop_eq_getElem_cons hi]
      rw [show atC c k - 1 + 1 = atC c k by omega]
    generalize c[atC c k - 1] = f at *
    generalize ha : c.take (atC c k - 1) = a at *
    generalize hb : c.drop (atC c k) = b at *
    obtain ⟨n, hn⟩ : ∃ n : Nat, k = f + n := ⟨(k - f).toNat, by omega⟩
    have hnn : (k - f).toNat = n := by omega
    rw [hnn]
    have hs := h.1
    rw [hsplit] at hs
    obtain ⟨hs1, hs2, hs3⟩ := List.pairwise_append.1 hs
    have hs4 := List.pairwise_cons.1 hs2
    have hbk : ∀ x ∈ b, k < x := fun x hx => by
      have h1 := hhi x hx
      have h2 : x ≠ k := by
        rintro rfl
        have : c.contains x = true := by rw [hsplit]; simp [hx]
        rw [hc] at this; cases this
      omega
    refine ⟨⟨?_, fun x hx => ?_⟩, ?_⟩
    · refine List.pairwise_append.2 ⟨List.pairwise_append.2 ⟨hs1, runC_sorted f n, fun x hx y hy => ?_⟩, hs4.2, fun x hx y hy => ?_⟩
      · have := hs3 x hx f (by simp)
        have := mem_runC hy
        omega
      · have h2 := hbk y hy
        rcases List.mem_append.1 hx with hx | hx
        · have := hs3 x hx f (by simp); omega
        · have := mem_runC hx; omega
    · rcases List.mem_append.1 hx with hx | hx
      · rcases List.mem_append.1 hx with hx | hx
        · exact h.2 x (by rw [hsplit]; simp [hx])
        · have := mem_runC hx; omega
      · exact h.2 x (by rw [hsplit]; simp [hx])
    · have hr := runC_val hf.1 n (by omega)
      have hvc : vC c = vC a + (pw f + vC b) := by
        have := congrArg vC hsplit
        rwa [vC_append, vC_cons] at this
      rw [vC_append, vC_append, hvc, hn]
      omega
end Go.Proofs.Ytgjmnmcbinekdaa
