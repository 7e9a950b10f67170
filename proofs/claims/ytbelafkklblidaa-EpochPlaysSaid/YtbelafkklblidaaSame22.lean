/- Two lists of grants that say the same answer the same. -/
import Derived.Test.YtbelafkklblidaaEpoch12
namespace Go.Proofs.Ytbelafkklblidaa

theorem getL_mem {l : List Gr} (hn : (l.map (·.1)).Nodup) (n : Nm) (v : Int) : getL l n = some v ↔ (n, v) ∈ l := by
  unfold getL
  constructor
  · intro h
    obtain ⟨p, hp, hv⟩ := Option.map_eq_some_iff.1 h
    have h1 := List.mem_of_find?_eq_some hp
    have h2 : p.1 = n := by simpa using List.find?_some hp
    rw [← h2, ← hv]; exact h1
  · intro h
    cases hf : l.find? (fun p => decide (p.1 = n)) with
    | none => have := List.find?_eq_none.1 hf _ h; simp at this
    | some p =>
      have h1 := List.mem_of_find?_eq_some hf
      have h2 : p.1 = n := by simpa using List.find?_some hf
      have := eq_of_key hn h1 h h2
      rw [this]; rfl
theorem getL_any (l : List Gr) (n : Nm) : l.any (fun p => decide (p.1 = n)) = (getL l n).isSome := by
  unfold getL
  rw [Option.isSome_map]
  induction l with
  | nil => rfl
  | cons a l ih =>
    rw [List.any_cons, List.find?_cons]
    cases decide (a.1 = n)
    · simpa using ih
    · rfl
theorem getL_put (l : List Gr) (n : Nm) (v : Int) (m : Nm) : getL (putL l n v) m = if m = n then some v else getL l m := by
  unfold putL
  split
  · rename_i ha
    induction l with
    | nil => simp at ha
    | cons a l ih =>
      unfold getL at ih ⊢
      rw [List.map_cons, List.find?_cons, List.find?_cons]
      by_cases h1 : a.1 = n
      · by_cases h2 : m = n
        · subst h2; simp [h1]
        · simp only [h1, if_true, if_neg h2]
          have e1 : decide (n = m) = false := by simpa using fun e => h2 e.symm
          simp only [e1]
          clear ih ha
          induction l with
          | nil => rfl
          | cons b l ih2 =>
            rw [List.map_cons, List.find?_cons, List.find?_cons]
            by_cases h3 : b.1 = n
            · simp only [h3, if_true, e1]; exact ih2
            · simp only [h3, if_false]
              split
              · rfl
              · exact ih2
      · simp only [if_neg h1]
        rw [List.any_cons] at ha
        simp only [h1, decide_false, Bool.false_or] at ha
        by_cases h2 : a.1 = m
        · have h3 : ¬ m = n := fun e => h1 (h2.trans e)
          simp [h2, h3]
        · simp only [h2, decide_false]
          exact ih ha
  · rename_i ha
    unfold getL
    rw [List.find?_append]
    have hno : ∀ p ∈ l, ¬ p.1 = n := by
      intro p hp e
      exact ha (List.any_eq_true.2 ⟨p, hp, by simp [e]⟩)
    by_cases h2 : m = n
    · subst h2
      have : l.find? (fun p => decide (p.1 = m)) = none := List.find?_eq_none.2 (fun p hp => by simpa using hno p hp)
      simp [this]
    · have e1 : decide (n = m) = false := by simpa using fun e => h2 e.symm
      simp [h2, List.find?_cons, e1]
theorem putL_length (l : List Gr) (n : Nm) (v : Int) : (putL l n v).length = if (getL l n).isSome then l.length else l.length + 1 := by
  unfold putL
  rw [getL_any]
  split <;> simp

/-- The same grants, in whatever order. -/
structure Sm (l m : List Gr) : Prop where
  get : ∀ n, getL l n = getL m n
  len : l.length = m.length
theorem Sm.refl (l : List Gr) : Sm l l := ⟨fun _ => rfl, rfl⟩
theorem Sm.of_perm {l m : List Gr} (hn : (l.map (·.1)).Nodup) (hp : m.Perm l) : Sm l m := by
  have hm : (m.map (·.1)).Nodup := (hp.map _).nodup_iff.2 hn
  refine ⟨fun n => ?_, hp.length_eq.symm⟩
  apply Option.ext
  intro v
  rw [getL_mem hn, getL_mem hm]
  exact ⟨fun h => hp.mem_iff.2 h, fun h => hp.mem_iff.1 h⟩
section
variable {l m : List Gr} (h : Sm l m)
include h
theorem Sm.put (n : Nm) (v : Int) : Sm (putL l n v) (putL m n v) :=
  ⟨fun k => by rw [getL_put, getL_put, h.get], by rw [putL_length, putL_length, h.get, h.len]⟩
theorem Sm.val (n : Nm) : valU l n = valU m n := by unfold valU; rw [h.get]
theorem Sm.ownAt (n : Nm) : ∀ k, ownAt l n k = ownAt m n k
  | 0 => by unfold Go.Proofs.Ytbelafkklblidaa.ownAt; rw [h.val]
  | k + 1 => by unfold Go.Proofs.Ytbelafkklblidaa.ownAt; rw [h.val, Sm.ownAt n k]
theorem Sm.own (n : Nm) : ownG l n = ownG m n := by unfold ownG; rw [h.ownAt]
theorem Sm.allow (n : Nm) (x : Int) : allowE l n x = allowE m n x := by unfold allowE; rw [h.own]
theorem Sm.grantE (last : Int) (n : Nm) : grantE l last n = grantE m last n := by unfold Go.Proofs.Ytbelafkklblidaa.grantE; rw [h.val, h.len]
theorem Sm.grantV (last : Int) (n : Nm) : grantV l last n = grantV m last n := by unfold Go.Proofs.Ytbelafkklblidaa.grantV; rw [h.grantE]
theorem Sm.grantN (last : Int) (n : Nm) : grantN l last n = grantN m last n := by unfold Go.Proofs.Ytbelafkklblidaa.grantN; rw [h.grantE]
theorem Sm.grantL (last : Int) (n : Nm) : Sm (grantL l last n) (grantL m last n) := by
  unfold Go.Proofs.Ytbelafkklblidaa.grantL; rw [h.grantE]
  split
  · exact h.put _ _
  · exact h
end
end Go.Proofs.Ytbelafkklblidaa
