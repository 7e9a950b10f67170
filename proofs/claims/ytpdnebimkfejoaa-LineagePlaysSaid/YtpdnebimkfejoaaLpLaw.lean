/- The document's tree against the tree's roots, plainly. -/
import Derived.Test.YtpdnebimkfejoaaDt6
namespace Go.Proofs.Ytpdnebimkfejoaa
open Go.RowKit Go.Sort Go.Lib

theorem core_keys (l : Al) : (l.map coreP).map (·.1) = l.map (·.1) := by rw [List.map_map]; rfl
theorem core_get (l : Al) (n : Nm) : getL (l.map coreP) n = (getL l n).map core := by
  induction l with
  | nil => rfl
  | cons p l ih =>
    unfold getL at ih ⊢
    rw [List.map_cons, List.find?_cons, List.find?_cons]
    by_cases h : p.1 = n
    · simp [coreP, h]
    · simp only [coreP, h, decide_false]
      exact ih
theorem core_has (l : Al) : hasA (l.map coreP) = hasA l := by
  funext n; unfold hasA; rw [core_get, Option.isSome_map]
theorem core_addE (l : Al) (n : Nm) : addEA (l.map coreP) n = addEA l n := by
  unfold addEA
  rw [core_get, core_has, Option.isSome_map, List.length_map]
theorem perm_addE {A B : Al} (hn : (A.map (·.1)).Nodup) (hp : B.Perm A) (n : Nm) : addEA B n = addEA A n := by
  unfold addEA
  rw [has_perm hn hp, hp.length_eq, ← getL_permV hn hp]
/-- The document's list is the sorted roots. -/
structure Sd (A l : Al) : Prop where
  eq : l.map coreP = sortV A
  nd : (A.map (·.1)).Nodup
theorem Sd.start : Sd [] [] := ⟨by rw [sortV_unique (by simp) (List.Perm.refl _) .nil]; rfl, by simp⟩
section
variable {A l : Al}
theorem Sd.perm (h : Sd A l) : (l.map coreP).Perm A := by rw [h.eq]; exact sortV_perm A
theorem Sd.keys (h : Sd A l) : (l.map (·.1)).Nodup := by
  rw [← core_keys]
  exact (h.perm.map _).nodup_iff.2 h.nd
theorem Sd.len (h : Sd A l) : l.length = A.length := by have := h.perm.length_eq; simpa using this
theorem Sd.addE (h : Sd A l) (n : Nm) : addEA l n = addEA A n := by rw [← core_addE, perm_addE h.nd h.perm]
theorem Sd.get (h : Sd A l) (n : Nm) : getL A n = (getL l n).map core := by rw [← core_get, getL_permV h.nd h.perm]
theorem Sd.has (h : Sd A l) : hasA A = hasA l := by rw [← has_perm h.nd h.perm, core_has]
theorem Sd.may (h : Sd A l) (hm : ∀ p ∈ A, mayS p.1.2 = true) : ∀ p ∈ l, mayS p.1.2 = true := fun p hp => by
  have := hm (coreP p) (h.perm.subset (List.mem_map.2 ⟨p, hp, rfl⟩))
  exact this
theorem Sd.sorted (h : Sd A l) : l.Pairwise (fun a b => leN a b = true) := by
  have := sortV_sorted A
  rw [← h.eq, List.pairwise_map] at this
  exact this
/-- A filter by what a core tells. -/
theorem Sd.pick (h : Sd A l) {P : Nm → Rw → Bool} (hP : ∀ n r, P n (core r) = P n r) : (l.filter fun p => P p.1 p.2).map coreP = sortV (pickA A P) := by
  rw [pick_sort h.nd, ← h.eq]
  unfold pickA
  rw [List.filter_map]
  congr 1
  apply List.filter_congr
  intro p _
  simp only [Function.comp, coreP, hP]
theorem Sd.pickS (h : Sd A l) {P : Nm → Rw → Bool} (hP : ∀ n r, P n (core r) = P n r) : Sd (pickA A P) (l.filter fun p => P p.1 p.2) := ⟨h.pick hP, (List.filter_sublist.map _).nodup h.nd⟩
theorem sort_upd {A : Al} {n : Nm} {c : Rw} (hn : (A.map (·.1)).Nodup) : sortV (updA A n c) = updA (sortV A) n c := by
  have hk : ∀ B : Al, (updA B n c).map (·.1) = B.map (·.1) := fun B => by
    unfold updA; rw [List.map_map]
    apply List.map_congr_left
    intro p _; simp only [Function.comp]; split <;> rfl
  refine sortV_unique (by rw [hk]; exact hn) ((sortV_perm A).map _) ?_
  unfold updA
  rw [List.pairwise_map]
  refine (sortV_sorted A).imp fun {a b} h => ?_
  rw [leN_iff] at h ⊢
  split <;> split <;> exact h
theorem core_upd (l : Al) (n : Nm) (c : Rw) : (updA l n c).map coreP = updA (l.map coreP) n (core c) := by
  unfold updA
  rw [List.map_map, List.map_map]
  apply List.map_congr_left
  intro p _
  by_cases e : p.1 = n <;> simp [Function.comp, coreP, e]
theorem upd_nd {A : Al} {n : Nm} {c : Rw} (hn : (A.map (·.1)).Nodup) : ((updA A n c).map (·.1)).Nodup := by
  have : (updA A n c).map (·.1) = A.map (·.1) := by
    unfold updA; rw [List.map_map]
    apply List.map_congr_left
    intro p _; simp only [Function.comp]; split <;> rfl
  rw [this]; exact hn
theorem Sd.upd (h : Sd A l) (n : Nm) (c : Rw) : Sd (updA A n (core c)) (updA l n c) := ⟨by rw [core_upd, h.eq, sort_upd h.nd], upd_nd h.nd⟩
theorem Sd.over (h : Sd A l) (n : Nm) : Sd (overA A n) (overA l n) ∧ overEA l n = overEA A n := by
  unfold overA overEA
  rw [h.get]
  cases hg : getL l n with
  | none => exact ⟨h, rfl⟩
  | some r =>
    simp only [Option.map_some]
    by_cases hs : r.st = 3
    · simp only [core, hs, if_true]; exact ⟨h, by first | rfl | trivial⟩
    · simp only [core, hs, if_false]
      exact ⟨h.upd n { r with st := 3, wk := 0, ep := 0 }, by first | rfl | trivial⟩
theorem Sd.hold (h : Sd A l) (n : Nm) (k e : Int) : Sd (holdA A n k e) (holdA l n k e) ∧ holdEA l n k e = holdEA A n k e := by
  have hE : holdEA l n k e = holdEA A n k e := by
    unfold holdEA
    rw [h.get]
    cases getL l n with
    | none => rfl
    | some r => rfl
  refine ⟨?_, hE⟩
  unfold holdA
  rw [h.get, ← hE]
  cases hg : getL l n with
  | none => exact h
  | some r =>
    simp only [Option.map_some]
    split
    · exact h.upd n { r with st := 2, wk := k, ep := e }
    · exact h
theorem Sd.lost (h : Sd A l) (ks : List Int) : Sd (lostA A ks) (lostA l ks) := by
  refine ⟨?_, by rw [lostA_keys]; exact h.nd⟩
  rw [sort_lost h.nd, ← h.eq]
  unfold lostA
  rw [List.map_map, List.map_map]
  apply List.map_congr_left
  intro p _
  have e : lostB ks (core p.2) = lostB ks p.2 := rfl
  by_cases hb : lostB ks p.2 = true
  · have hb2 : lostB ks (core p.2) = true := hb
    simp [Function.comp, coreP, hb, hb2]
    rfl
  · have hb2 : ¬ lostB ks (core p.2) = true := hb
    simp [Function.comp, coreP, hb, hb2]
theorem cmpN_swap (a b : Nm) : ¬ cmpN a b < 0 → cmpN b a ≤ 0 := fun h => by rw [cmpN_neg]; omega
theorem Sd.add (h : Sd A l) {n : Nm} {c : Rw} {k : Nat} (hE : addEA A n = 0) (hk : InsN l n k) : Sd (A ++ [(n, core c)]) (l.take k ++ [(n, c)] ++ l.drop k) := by
  have hno : getL A n = none := by
    unfold addEA at hE
    split at hE
    · cases hE
    · split at hE
      · cases hE
      · rename_i h2; simpa using h2
  have hnd : ((A ++ [(n, core c)]).map (·.1)).Nodup := by
    rw [List.map_append, List.nodup_append]
    refine ⟨h.nd, by simp, fun a ha b hb e => ?_⟩
    simp at hb
    obtain ⟨q, hq, rfl⟩ := List.mem_map.1 ha
    exact getL_none_iffV.1 hno q hq (e.trans hb)
  refine ⟨(sortV_unique hnd ?_ ?_).symm, hnd⟩
  · have h1 : (l.take k ++ [(n, c)] ++ l.drop k).Perm (l ++ [(n, c)]) := by
      rw [List.append_assoc]
      refine (List.perm_middle (l₁ := l.take k) (a := (n, c)) (l₂ := l.drop k)).trans ?_
      rw [List.take_append_drop]
      exact List.perm_append_comm (l₁ := [(n, c)])
    refine (h1.map coreP).trans ?_
    rw [List.map_append]
    exact h.perm.append_right [(n, core c)]
  · rw [List.pairwise_map]
    have hs := h.sorted
    obtain ⟨hkl, hlt, hst⟩ := hk
    have hs2 := hs
    rw [← List.take_append_drop k l, List.pairwise_append] at hs2
    obtain ⟨s1, s2, s3⟩ := hs2
    have hx : ∀ a ∈ l.take k, cmpN a.1 n ≤ 0 := fun a ha => by
      obtain ⟨q, hq, e⟩ := List.mem_iff_getElem.1 ha
      rw [List.length_take] at hq
      rw [List.getElem_take] at e
      rw [← e]
      have := hlt q (by omega) (by omega)
      omega
    have hy : ∀ b ∈ l.drop k, cmpN n b.1 ≤ 0 := fun b hb => by
      rcases hst with e | ⟨hq, e⟩
      · rw [e, List.drop_length] at hb; simp at hb
      · have h4 := cmpN_swap _ _ e
        rw [List.drop_eq_getElem_cons hq] at hb s2
        rcases List.mem_cons.1 hb with e | e
        · rw [e]; exact h4
        · have h5 := (List.pairwise_cons.1 s2).1 b e
          rw [leN_iff] at h5
          exact cmpN_trans h4 h5
    have hgoal : (l.take k ++ [(n, c)] ++ l.drop k).Pairwise (fun a b => leN a b = true) := by
      rw [List.append_assoc, List.pairwise_append]
      refine ⟨s1, List.pairwise_cons.2 ⟨fun b hb => by rw [leN_iff]; exact hy b hb, s2⟩, fun a ha b hb => ?_⟩
      rcases List.mem_cons.1 hb with e | e
      · rw [e, leN_iff]; exact hx a ha
      · exact s3 a ha b e
    exact hgoal.imp fun {a b} h => h
end
end Go.Proofs.Ytpdnebimkfejoaa
