/- Credits: more, less, sums, by what they are worth. -/
import Derived.Test.YtgjmnmcbinekdaaCredS
namespace Go.Proofs.Ytgjmnmcbinekdaa
open Go.RowKit Go.Sort Go.Lib

theorem vC_first {x y : Int} {xs ys : List Int} (ha : SC (x :: xs)) (hb : SC (y :: ys)) (h : x < y) : vC (y :: ys) < vC (x :: xs) := by
  have h1 := List.pairwise_cons.1 hb.1
  have hx := ha.2 x (by simp)
  have hy := hb.2 y (by simp)
  have := vC_lt (y :: ys) (x + 1) hb.1 (fun t ht => by
    refine ⟨?_, (hb.2 t ht).2⟩
    rcases List.mem_cons.1 ht with rfl | ht
    · omega
    · have := h1.1 t ht; omega) (by omega)
  rw [← pw_half hx.1 (by omega)] at this
  rw [vC_cons x xs]
  omega
theorem SC.tail {x : Int} {l : List Int} (h : SC (x :: l)) : SC l := ⟨(List.pairwise_cons.1 h.1).2, fun y hy => h.2 y (by simp [hy])⟩
/-- Compare tells which is worth more. -/
theorem cmpI_val : ∀ {a b : List Int}, SC a → SC b → (cmpI a b = 0 ∧ a = b) ∨ (cmpI a b = 1 ∧ vC b < vC a) ∨ (cmpI a b = -1 ∧ vC a < vC b)
  | [], [], _, _ => .inl ⟨rfl, rfl⟩
  | [], y :: ys, _, _ => .inr (.inr ⟨rfl, vC_pos (by simp)⟩)
  | x :: xs, [], _, _ => .inr (.inl ⟨rfl, vC_pos (by simp)⟩)
  | x :: xs, y :: ys, ha, hb => by
    unfold cmpI
    by_cases e : x = y
    · subst e
      rw [if_pos rfl, vC_cons, vC_cons]
      rcases cmpI_val ha.tail hb.tail with ⟨h, rfl⟩ | ⟨h, h'⟩ | ⟨h, h'⟩
      · exact .inl ⟨h, rfl⟩
      · exact .inr (.inl ⟨h, by omega⟩)
      · exact .inr (.inr ⟨h, by omega⟩)
    · rw [if_neg e]
      by_cases hl : x < y
      · rw [if_pos hl]; exact .inr (.inl ⟨rfl, vC_first ha hb hl⟩)
      · rw [if_neg hl]; exact .inr (.inr ⟨rfl, vC_first hb ha (by omega)⟩)
/-- What is worth as much is the same. -/
theorem vC_inj {a b : List Int} (ha : SC a) (hb : SC b) (h : vC a = vC b) : a = b := by
  rcases cmpI_val ha hb with ⟨_, h'⟩ | ⟨_, h'⟩ | ⟨_, h'⟩
  · exact h'
  · omega
  · omega
theorem cmpC_may {a b : List Int} (ha : mayC a = true) (hb : mayC b = true) : cmpC a b = cmpI a b := by unfold cmpC; rw [ha, hb]; rfl
theorem cmpC_val {a b : List Int} (ha : mayC a = true) (hb : mayC b = true) : (cmpC a b = 0 ∧ a = b) ∨ (cmpC a b = 1 ∧ vC b < vC a) ∨ (cmpC a b = -1 ∧ vC a < vC b) := by
  rw [cmpC_may ha hb]; exact cmpI_val (mayC_sc ha) (mayC_sc hb)
theorem may_le {a : List Int} (h : mayC a = true) : vC a ≤ pw 0 := by
  have hs := mayC_sc h
  cases a with
  | nil => exact Nat.zero_le _
  | cons x l =>
    have hx := hs.2 x (by simp)
    by_cases e : x = 0
    · subst e
      cases l with
      | nil => rw [one_vC]; exact Nat.le_refl _
      | cons y l =>
        have := ((mayC_iff.1 h) 1 (by simp)).2.2 (by omega)
        simp at this
    · have h1 := List.pairwise_cons.1 hs.1
      have := vC_lt (x :: l) 1 hs.1 (fun t ht => by
        refine ⟨?_, (hs.2 t ht).2⟩
        rcases List.mem_cons.1 ht with rfl | ht
        · omega
        · have := h1.1 t ht; omega) (by omega)
      have hh := pw_half (k := 0) (by omega) (by omega)
      rw [show (0 : Int) + 1 = 1 by omega] at hh
      omega
/-- All powers of another one taken off. -/
def subL (c : List Int) : List Int → List Int
  | [] => c
  | k :: r => subL (minC c k) r
theorem subL_ok : ∀ (t : List Int) {c : List Int}, SC c → (∀ x ∈ t, 0 ≤ x ∧ x ≤ 4096) → vC t ≤ vC c → SC (subL c t) ∧ vC (subL c t) + vC t = vC c
  | [], c, h, _, _ => ⟨h, rfl⟩
  | k :: t, c, h, ht, hv => by
    rw [vC_cons] at hv
    obtain ⟨h1, h2⟩ := minC_ok h (ht k (by simp)) (by omega)
    obtain ⟨h3, h4⟩ := subL_ok t h1 (fun x hx => ht x (by simp [hx])) (by omega)
    refine ⟨h3, ?_⟩
    rw [vC_cons]
    show vC (subL (minC c k) t) + _ = _
    omega
theorem plusN_worth : ∀ (k : Nat) (c r : List Int), SC c → k ≤ 4096 → plusN c k = some r → vC r = vC c + pw k := by
  intro k
  induction k with
  | zero =>
    intro c r h hk hr
    cases hc : c.contains ((0 : Nat) : Int)
    · rw [plusN_no hc] at hr
      injection hr with hr
      subst hr
      exact vC_insAt _ _ _
    · rw [plusN_zero hc] at hr; cases hr
  | succ k ih =>
    intro c r h hk hr
    cases hc : c.contains ((k + 1 : Nat) : Int)
    · rw [plusN_no hc] at hr
      injection hr with hr
      subst hr
      exact vC_insAt _ _ _
    · rw [plusN_succ hc] at hr
      have h1 := ih _ _ (h.del _) (by omega) hr
      have h2 := vC_delC h.1 (k := ((k + 1 : Nat) : Int)) (by simpa using hc)
      have h3 := pw_half (k := (k : Int)) (by omega) (by omega)
      have e : ((k + 1 : Nat) : Int) = (k : Int) + 1 := by omega
      rw [e] at h1 h2 ⊢
      omega
theorem foldP_worth : ∀ (t s r : List Int), SC s → (∀ x ∈ t, 0 ≤ x ∧ x ≤ 4096) → foldP s t = some r → vC r = vC s + vC t
  | [], s, r, _, _, e => by injection e with e; subst e; rfl
  | k :: t, s, r, h, ht, e => by
    unfold foldP at e
    have hk := ht k (by simp)
    cases hp : plusN s k.toNat with
    | none => rw [hp] at e; cases e
    | some s' =>
      rw [hp] at e
      have h1 := plusN_worth _ _ _ h (by omega) hp
      have h2 := foldP_worth t s' r (plusN_sc _ _ _ h (by omega) hp) (fun x hx => ht x (by simp [hx])) e
      rw [show ((k.toNat : Nat) : Int) = k by omega] at h1
      rw [vC_cons]
      omega
/-- What is more than one does not add up. -/
theorem addL_over {L : List (List Int)} (h : ∀ l ∈ L, mayC l = true) (hv : pw 0 < (L.map vC).sum) : addL L = (9, []) := by
  rw [addL_ok h]
  cases hf : foldP [] L.flatten with
  | none => rfl
  | some s =>
    have hw := foldP_worth L.flatten [] s SC.nil (fun x hx => by
      obtain ⟨l, hl, hx⟩ := List.mem_flatten.1 hx
      exact (mayC_sc (h l hl)).2 x hx) hf
    rw [vC_flatten] at hw
    cases hm : mayC s with
    | false => simp [finL, hm]
    | true => have := may_le hm; change vC s = 0 + _ at hw; omega
/-- Sums hang on what is added up alone. -/
theorem addL_same {L M : List (List Int)} (hL : ∀ l ∈ L, mayC l = true) (hM : ∀ l ∈ M, mayC l = true) (h : (L.map vC).sum = (M.map vC).sum) : addL L = addL M := by
  by_cases hv : (L.map vC).sum ≤ pw 0
  · obtain ⟨r, h1, h2, h3⟩ := addL_val hL hv
    obtain ⟨r', h1', h2', h3'⟩ := addL_val hM (by rw [← h]; exact hv)
    rw [h1, h1', vC_inj (mayC_sc h2) (mayC_sc h2') (by omega)]
  · rw [addL_over hL (by omega), addL_over hM (by omega)]
end Go.Proofs.Ytgjmnmcbinekdaa
