/- Credits: what one is worth. -/
import Derived.Test.YtgjmnmcbinekdaaCred10
namespace Go.Proofs.Ytgjmnmcbinekdaa
open Go.RowKit Go.Sort Go.Lib

def pw (k : Int) : Nat := 2 ^ (4096 - k.toNat)
def vC (c : List Int) : Nat := (c.map pw).sum
theorem pw_pos (k : Int) : 0 < pw k := Nat.pow_pos (by decide)
theorem pw_le {a b : Int} (h : a ≤ b) : pw b ≤ pw a := Nat.pow_le_pow_right (by decide) (by omega)
theorem pw_half {k : Int} (h : 0 ≤ k) (h' : k + 1 ≤ 4096) : pw k = pw (k + 1) + pw (k + 1) := by
  unfold pw
  obtain ⟨n, hn⟩ : ∃ n, 4096 - (k + 1).toNat = n := ⟨_, rfl⟩
  have : 4096 - k.toNat = n + 1 := by omega
  rw [hn, this, Nat.pow_succ]
  omega
theorem vC_cons (x : Int) (l : List Int) : vC (x :: l) = pw x + vC l := by unfold vC; simp
theorem vC_one (x : Int) : vC [x] = pw x := by unfold vC; simp
theorem vC_append (a b : List Int) : vC (a ++ b) = vC a + vC b := by unfold vC; simp
theorem vC_flatten : ∀ L : List (List Int), vC L.flatten = (L.map vC).sum
  | [] => rfl
  | a :: L => by rw [List.flatten_cons, vC_append, vC_flatten L, List.map_cons, List.sum_cons]
theorem vC_pos {l : List Int} (h : l ≠ []) : 0 < vC l := by
  cases l with
  | nil => exact absurd rfl h
  | cons x l => rw [vC_cons]; have := pw_pos x; omega
theorem vC_insAt (l : List Int) (i : Nat) (k : Int) : vC (insAt l i k) = vC l + pw k := by
  unfold insAt
  rw [vC_append, vC_cons]
  have : vC l = vC (l.take i) + vC (l.drop i) := by rw [← vC_append, List.take_append_drop]
  omega
theorem vC_delC {l : List Int} {k : Int} (h : l.Pairwise (· < ·)) (hk : k ∈ l) : vC (delC l k) + pw k = vC l := by
  have hd := (drop_at h hk).2
  have : vC l = vC (l.take (atC l k)) + vC (l.drop (atC l k)) := by rw [← vC_append, List.take_append_drop]
  rw [hd, vC_cons] at this
  unfold delC
  rw [vC_append]
  omega
theorem vC_mem {l : List Int} {k : Int} (hk : k ∈ l) : pw k ≤ vC l := by
  induction l with
  | nil => cases hk
  | cons x l ih =>
    rw [vC_cons]
    rcases List.mem_cons.1 hk with rfl | hk
    · omega
    · have := ih hk; omega
theorem vC_lt : ∀ (l : List Int) (a : Int), l.Pairwise (· < ·) → (∀ x ∈ l, a ≤ x ∧ x ≤ 4096) → 0 ≤ a → vC l < pw a + pw a
  | [], a, _, _, _ => by have := pw_pos a; show 0 < _; omega
  | x :: l, a, hp, h, ha => by
    have h1 := List.pairwise_cons.1 hp
    have hx := h x (by simp)
    have hpa := pw_le hx.1
    rw [vC_cons]
    by_cases hlt : x < 4096
    · have := vC_lt l (x + 1) h1.2 (fun t ht => ⟨by have := h1.1 t ht; omega, (h t (by simp [ht])).2⟩) (by omega)
      rw [← pw_half (by omega) (by omega)] at this
      omega
    · cases l with
      | nil => have := pw_pos a; show pw x + 0 < _; omega
      | cons y l => have := h1.1 y (by simp); have := (h y (by simp)).2; omega
theorem plusN_val : ∀ (k : Nat) (c : List Int), SC c → k ≤ 4096 → vC c + pw k ≤ pw 0 → ∃ r, plusN c k = some r ∧ vC r = vC c + pw k := by
  intro k
  induction k with
  | zero =>
    intro c h hk hv
    cases hc : c.contains ((0 : Nat) : Int)
    · exact ⟨_, plusN_no hc, vC_insAt _ _ _⟩
    · have := vC_mem (k := ((0 : Nat) : Int)) (by simpa using hc)
      have h0 := pw_pos ((0 : Nat) : Int)
      have e : pw ((0 : Nat) : Int) = pw 0 := rfl
      omega
  | succ k ih =>
    intro c h hk hv
    cases hc : c.contains ((k + 1 : Nat) : Int)
    · exact ⟨_, plusN_no hc, vC_insAt _ _ _⟩
    · have hm : ((k + 1 : Nat) : Int) ∈ c := by simpa using hc
      have hd := vC_delC h.1 hm
      have hh := pw_half (k := (k : Int)) (by omega) (by omega)
      have e : ((k + 1 : Nat) : Int) = (k : Int) + 1 := by omega
      rw [e] at hd hv ⊢
      obtain ⟨r, h1, h2⟩ := ih (delC c ((k : Int) + 1)) (h.del _) (by omega) (by omega)
      refine ⟨r, ?_, by omega⟩
      rw [plusN_succ hc, e]
      exact h1
theorem sc_may {r : List Int} (h : SC r) (hv : vC r ≤ pw 0) : mayC r = true := by
  rw [mayC_iff]
  intro j hj
  have hget : ∀ j (hj : j < r.length), r.getD j 0 = r[j] := fun j hj => by simp [List.getD_eq_getElem?_getD, hj]
  have hb := h.2 _ (List.getElem_mem hj)
  unfold GoodC
  rw [hget j hj]
  refine ⟨by omega, by omega, fun h0 => ⟨?_, ?_⟩⟩
  · rw [hget (j - 1) (by omega)]
    have := List.pairwise_iff_getElem.1 h.1 (j - 1) j (by omega) hj (by omega)
    omega
  · rw [hget 0 (by omega)]
    intro e
    cases r with
    | nil => simp at hj
    | cons x l =>
      simp at e
      subst e
      rw [vC_cons] at hv
      have := vC_pos (l := l) (by rintro rfl; simp at hj; omega)
      omega
theorem foldP_val : ∀ (t s : List Int), SC s → (∀ x ∈ t, 0 ≤ x ∧ x ≤ 4096) → vC s + vC t ≤ pw 0 → ∃ r, foldP s t = some r ∧ SC r ∧ vC r = vC s + vC t
  | [], s, h, _, _ => ⟨s, rfl, h, rfl⟩
  | k :: t, s, h, ht, hv => by
    rw [vC_cons] at hv ⊢
    have hk := ht k (by simp)
    have hkk : ((k.toNat : Nat) : Int) = k := by omega
    obtain ⟨s', h1, h2⟩ := plusN_val k.toNat s h (by omega) (by rw [hkk]; omega)
    have h3 := plusN_sc _ _ _ h (by omega) h1
    rw [hkk] at h2
    obtain ⟨r, h4, h5, h6⟩ := foldP_val t s' h3 (fun x hx => ht x (by simp [hx])) (by omega)
    refine ⟨r, ?_, h5, by omega⟩
    unfold foldP
    rw [h1]
    exact h4
/-- What is at most one adds up. -/
theorem addL_val {L : List (List Int)} (h : ∀ l ∈ L, mayC l = true) (hv : (L.map vC).sum ≤ pw 0) : ∃ r, addL L = (0, r) ∧ mayC r = true ∧ vC r = (L.map vC).sum := by
  rw [addL_ok h]
  obtain ⟨r, h1, h2, h3⟩ := foldP_val L.flatten [] SC.nil (fun x hx => by
    obtain ⟨l, hl, hx⟩ := List.mem_flatten.1 hx
    exact (mayC_sc (h l hl)).2 x hx) (by rw [vC_flatten]; show 0 + _ ≤ _; omega)
  have hvr : vC r = (L.map vC).sum := by rw [h3, vC_flatten]; show 0 + _ = _; omega
  have hm := sc_may h2 (by rw [hvr]; exact hv)
  refine ⟨r, ?_, hm, hvr⟩
  rw [h1]
  unfold finL
  simp only [hm, if_true]
theorem addL_two {a b : List Int} (ha : mayC a = true) (hb : mayC b = true) (hv : vC a + vC b ≤ pw 0) : ∃ r, addL [a, b] = (0, r) ∧ mayC r = true ∧ vC r = vC a + vC b := by
  have := addL_val (L := [a, b]) (by intro l hl; simp at hl; rcases hl with rfl | rfl <;> assumption) (by simpa using hv)
  simpa using this
theorem one_val {r : List Int} (h : SC r) (hv : vC r = pw 0) : r = [0] := by
  cases r with
  | nil => have := pw_pos 0; change 0 = pw 0 at hv; omega
  | cons x l =>
    have hx := h.2 x (by simp)
    by_cases e : x = 0
    · subst e
      rw [vC_cons] at hv
      cases l with
      | nil => rfl
      | cons y l => have := vC_pos (l := y :: l) (by simp); omega
    · have h1 := List.pairwise_cons.1 h.1
      have := vC_lt (x :: l) 1 h.1 (fun t ht => by
        refine ⟨?_, (h.2 t ht).2⟩
        rcases List.mem_cons.1 ht with rfl | ht
        · omega
        · have := h1.1 t ht; omega) (by omega)
      have hh := pw_half (k := 0) (by omega) (by omega)
      rw [show (0 : Int) + 1 = 1 by omega] at hh
      omega
theorem one_vC : vC [0] = pw 0 := vC_one 0
theorem one_may : mayC [0] = true := by decide
/-- The halves. -/
def keepL (l : List Int) : List Int := l.take (l.length - 1) ++ [l.getD (l.length - 1) 0 + 1]
def giveL (l : List Int) : List Int := [l.getD (l.length - 1) 0 + 1]
theorem last_split {l : List Int} (h : l ≠ []) : l = l.take (l.length - 1) ++ [l.getD (l.length - 1) 0] := by
  have hn : l.length - 1 < l.length := by have := List.length_pos_iff.2 h; omega
  conv => lhs; rw [← List.take_append_drop (l.length - 1) l]
  rw [List.drop_eq_getElem_cons hn]
  congr 1
  rw [show l.length - 1 + 1 = l.length by omega, List.drop_length]
  simp [List.getD_eq_getElem?_getD, hn]
theorem half_val {l : List Int} (h : mayC l = true) (hn : l ≠ []) (hl : l.getD (l.length - 1) 0 + 1 ≤ 4096) : vC (keepL l) + vC (giveL l) = vC l ∧ SC (keepL l) ∧ mayC (giveL l) = true := by
  have hs := last_split hn
  have hsc := mayC_sc h
  have hm : l.getD (l.length - 1) 0 ∈ l := by rw [hs]; simp [List.getD_eq_getElem?_getD]
  have hb := hsc.2 _ hm
  generalize hx : l.getD (l.length - 1) 0 = x at *
  have e1 : giveL l = [x + 1] := by unfold giveL; rw [hx]
  have e2 : keepL l = l.take (l.length - 1) ++ [x + 1] := by unfold keepL; rw [hx]
  generalize ht : l.take (l.length - 1) = t at *
  rw [e1, e2]
  have hsp := hsc.1
  rw [hs] at hsp
  have hsp2 := List.pairwise_append.1 hsp
  have hg : mayC [x + 1] = true := sc_may ⟨by simp, by simp; omega⟩ (by rw [vC_one]; exact pw_le (by omega))
  refine ⟨?_, ⟨List.pairwise_append.2 ⟨hsp2.1, by simp, fun a ha b hb' => ?_⟩, fun a ha => ?_⟩, hg⟩
  · have := pw_half hb.1 hl
    have e : vC l = vC (t ++ [x]) := congrArg vC hs
    rw [e, vC_append, vC_append, vC_cons, vC_cons]
    show vC t + (pw (x + 1) + 0) + (pw (x + 1) + 0) = vC t + (pw x + 0)
    omega
  · simp at hb'
    subst hb'
    have := hsp2.2.2 a ha x (by simp)
    omega
  · rcases List.mem_append.1 ha with ha | ha
    · exact hsc.2 a (by rw [hs]; simp [ha])
    · simp at ha; subst ha; omega
end Go.Proofs.Ytgjmnmcbinekdaa
