/- Maps as lists of pairs: whatever the values. -/
import Derived.Test.YthbkbmkcgpdedaaMap
namespace Go.Proofs.Ythbkbmkcgpdedaa
section
variable {V : Type}
theorem eq_of_keyV {l : List (Nm × V)} (hn : (l.map (·.1)).Nodup) {a b : Nm × V} (ha : a ∈ l) (hb : b ∈ l) (h : a.1 = b.1) : a = b := by
  induction l with
  | nil => cases ha
  | cons x l ih =>
    rw [List.map_cons, List.nodup_cons] at hn
    rcases List.mem_cons.1 ha with ha | ha
    · rcases List.mem_cons.1 hb with hb | hb
      · rw [ha, hb]
      · exact absurd (List.mem_map.2 ⟨b, hb, by rw [← h, ha]⟩) hn.1
    · rcases List.mem_cons.1 hb with hb | hb
      · exact absurd (List.mem_map.2 ⟨a, ha, by rw [h, hb]⟩) hn.1
      · exact ih hn.2 ha hb
theorem getL_memV {l : List (Nm × V)} (hn : (l.map (·.1)).Nodup) (n : Nm) (v : V) : getL l n = some v ↔ (n, v) ∈ l := by
  unfold getL
  constructor
  · intro h
    obtain ⟨p, hp, hv⟩ := Option.map_eq_some_iff.1 h
    have h1 := List.mem_of_find?_eq_some hp
    have h2 : p.1 = n := by simpa using List.find?_some hp
    rw [← h2, ← hv]; exact h1
  · intro h
    cases hf : l.find? (fun p => decide (p.1 = n)) with
    | none => have := List.find?_eq_none.1 hf _ h; simp at this
    | some p =>
      have h1 := List.mem_of_find?_eq_some hf
      have h2 : p.1 = n := by simpa using List.find?_some hf
      have := eq_of_keyV hn h1 h h2
      rw [this]; rfl
theorem getL_anyV (l : List (Nm × V)) (n : Nm) : l.any (fun p => decide (p.1 = n)) = (getL l n).isSome := by
  unfold getL
  rw [Option.isSome_map]
  induction l with
  | nil => rfl
  | cons a l ih =>
    rw [List.any_cons, List.find?_cons]
    cases decide (a.1 = n)
    · simpa using ih
    · rfl
theorem getL_putV (l : List (Nm × V)) (n : Nm) (v : V) (m : Nm) : getL (putL l n v) m = if m = n then some v else getL l m := by
  unfold putL
  split
  · rename_i ha
    induction l with
    | nil => simp at ha
    | cons a l ih =>
      unfold getL at ih ⊢
      rw [List.map_cons, List.find?_cons, List.find?_cons]
      by_cases h1 : a.1 = n
      · by_cases h2 : m = n
        · subst h2; simp [h1]
        · simp only [h1, if_true, if_neg h2]
          have e1 : decide (n = m) = false := by simpa using fun e => h2 e.symm
          simp only [e1]
          clear ih ha
          induction l with
          | nil => rfl
          | cons b l ih2 =>
            rw [List.map_cons, List.find?_cons, List.find?_cons]
            by_cases h3 : b.1 = n
            · simp only [h3, if_true, e1]; exact ih2
            · simp only [h3, if_false]
              split
              · rfl
              · exact ih2
      · simp only [if_neg h1]
        rw [List.any_cons] at ha
        simp only [h1, decide_false, Bool.false_or] at ha
        by_cases h2 : a.1 = m
        · have h3 : ¬ m = n := fun e => h1 (h2.trans e)
          simp [h2, h3]
        · simp only [h2, decide_false]
          exact ih ha
  · rename_i ha
    unfold getL
    rw [List.find?_append]
    have hno : ∀ p ∈ l, ¬ p.1 = n := by
      intro p hp e
      exact ha (List.any_eq_true.2 ⟨p, hp, by simp [e]⟩)
    by_cases h2 : m = n
    · subst h2
      have : l.find? (fun p => decide (p.1 = m)) = none := List.find?_eq_none.2 (fun p hp => by simpa using hno p hp)
      simp [this]
    · have e1 : decide (n = m) = false := by simpa using fun e => h2 e.symm
      simp [h2, e1]
theorem putL_lengthV (l : List (Nm × V)) (n : Nm) (v : V) : (putL l n v).length = if (getL l n).isSome then l.length else l.length + 1 := by
  unfold putL
  rw [getL_anyV]
  split <;> simp

theorem putL_nodupV {l : List (Nm × V)} (hn : (l.map (·.1)).Nodup) (n : Nm) (v : V) : ((putL l n v).map (·.1)).Nodup := by
  unfold putL
  split
  · have : (l.map (fun p => if p.1 = n then (n, v) else p)).map (·.1) = l.map (·.1) := by
      rw [List.map_map]
      apply List.map_congr_left
      intro p _
      simp only [Function.comp]
      split
      · rename_i e; exact e.symm
      · rfl
    rw [this]; exact hn
  · rename_i hh
    rw [List.map_append, List.nodup_append]
    refine ⟨hn, by simp, fun a ha b hb e => ?_⟩
    obtain ⟨p, hp, rfl⟩ := List.mem_map.1 ha
    simp at hb
    exact hh (List.any_eq_true.2 ⟨p, hp, by simp [e, hb]⟩)

theorem getL_permV {l m : List (Nm × V)} (hn : (l.map (·.1)).Nodup) (hp : m.Perm l) (n : Nm) : getL l n = getL m n := by
  have hm : (m.map (·.1)).Nodup := (hp.map _).nodup_iff.2 hn
  apply Option.ext
  intro v
  rw [getL_memV hn, getL_memV hm]
  exact ⟨fun h => hp.mem_iff.2 h, fun h => hp.mem_iff.1 h⟩
theorem getL_noneV {l : List (Nm × V)} {n : Nm} (h : ∀ p ∈ l, p.1 ≠ n) : getL l n = none := by
  unfold getL
  rw [List.find?_eq_none.2 (fun p hp => by simpa using h p hp)]
  rfl
theorem getL_none_iffV {l : List (Nm × V)} {n : Nm} : getL l n = none ↔ ∀ p ∈ l, p.1 ≠ n := by
  refine ⟨fun h p hp e => ?_, getL_noneV⟩
  unfold getL at h
  have := List.find?_eq_none.1 (Option.map_eq_none_iff.1 h) p hp
  simp [e] at this
theorem putL_newV {l : List (Nm × V)} {n : Nm} (h : getL l n = none) (v : V) : putL l n v = l ++ [(n, v)] := by
  unfold putL
  rw [getL_anyV, h]
  simp
end
end Go.Proofs.Ythbkbmkcgpdedaa
