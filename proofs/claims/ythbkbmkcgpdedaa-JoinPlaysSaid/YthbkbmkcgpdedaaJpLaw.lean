/- The document's table against the table's rows, plainly. -/
import Derived.Test.YthbkbmkcgpdedaaJd2
namespace Go.Proofs.Ythbkbmkcgpdedaa
open Go.RowKit Go.Sort Go.Lib

theorem core_get (l : List Rl) (n : Nm) : getL (l.map coreP) n = (getL l n).map core := by
  induction l with
  | nil => rfl
  | cons p l ih =>
    unfold getL at ih ⊢
    rw [List.map_cons, List.find?_cons, List.find?_cons]
    by_cases h : p.1 = n
    · simp [coreP, h]
    · simp only [coreP, h, decide_false]
      exact ih
theorem rowsT_get (T : Tb) (n : Nm) : getL (rowsT T) n = (getL T n).map fun q => core q.2 := by
  induction T with
  | nil => rfl
  | cons p T ih =>
    unfold getL rowsT at ih ⊢
    rw [List.map_cons, List.find?_cons, List.find?_cons]
    by_cases h : p.1 = n
    · simp [h]
    · simp only [h, decide_false]
      exact ih
theorem sort_upd {A : List Rl} {n : Nm} {c : Rw} (hn : (A.map (·.1)).Nodup) : sortV (updA A n c) = updA (sortV A) n c := by
  have hk : ∀ B : List Rl, (updA B n c).map (·.1) = B.map (·.1) := fun B => by
    unfold updA; rw [List.map_map]
    apply List.map_congr_left
    intro p _; simp only [Function.comp]; split <;> rfl
  refine sortV_unique (by rw [hk]; exact hn) ((sortV_perm A).map _) ?_
  unfold updA
  rw [List.pairwise_map]
  refine (sortV_sorted A).imp fun {a b} h => ?_
  rw [leN_iff] at h ⊢
  split <;> split <;> exact h
theorem sort_filter {A : List Rl} {P : Nm → Bool} (hn : (A.map (·.1)).Nodup) : sortV (A.filter fun p => P p.1) = (sortV A).filter fun p => P p.1 :=
  sortV_unique (hn.sublist (List.filter_sublist.map _)) ((sortV_perm A).filter _) ((sortV_sorted A).sublist List.filter_sublist)
theorem core_upd (l : List Rl) (n : Nm) (c : Rw) : (updA l n c).map coreP = updA (l.map coreP) n (core c) := by
  unfold updA
  rw [List.map_map, List.map_map]
  apply List.map_congr_left
  intro p _
  by_cases e : p.1 = n <;> simp [Function.comp, coreP, e]
theorem rows_upd (T : Tb) (n : Nm) (c : Rw) : rowsT (updT T n c) = updA (rowsT T) n (core c) := by
  unfold rowsT updT updA
  rw [List.map_map, List.map_map]
  apply List.map_congr_left
  intro p _
  by_cases e : p.1 = n <;> simp [Function.comp, e]
theorem updA_keys (l : List Rl) (n : Nm) (c : Rw) : (updA l n c).map (·.1) = l.map (·.1) := by
  unfold updA; rw [List.map_map]
  apply List.map_congr_left
  intro p _; simp only [Function.comp]; split <;> rfl
/-- The document's list is the table's rows, in order. -/
structure Sd (T : Tb) (l : List Rl) : Prop where
  eq : l.map coreP = sortV (rowsT T)
  nd : (T.map (·.1)).Nodup
theorem Sd.start : Sd [] [] := ⟨by rw [show rowsT [] = [] from rfl, sortV_unique (by simp) (List.Perm.refl _) .nil]; rfl, by simp⟩
section
variable {T : Tb} {l : List Rl}
theorem Sd.perm (h : Sd T l) : (l.map coreP).Perm (rowsT T) := by rw [h.eq]; exact sortV_perm _
theorem Sd.ndR (h : Sd T l) : ((rowsT T).map (·.1)).Nodup := by rw [rowsT_keys]; exact h.nd
theorem Sd.keys (h : Sd T l) : (l.map (·.1)).Nodup := by
  rw [← coreP_keys]
  exact (h.perm.map _).nodup_iff.2 h.ndR
theorem Sd.len (h : Sd T l) : l.length = T.length := by have := h.perm.length_eq; simpa [rowsT] using this
theorem Sd.get (h : Sd T l) (n : Nm) : ((getL T n).map fun q => core q.2) = (getL l n).map core := by rw [← core_get, ← rowsT_get, getL_permV h.ndR h.perm]
theorem Sd.here (h : Sd T l) {n : Nm} {b : Nat} {r : Rw} (hg : getL T n = some (b, r)) : ∃ r', getL l n = some r' ∧ core r' = core r := by
  have := h.get n
  rw [hg] at this
  cases hl : getL l n with
  | none => rw [hl] at this; cases this
  | some r' =>
    rw [hl] at this
    simp only [Option.map_some, Option.some.injEq] at this
    exact ⟨r', rfl, this.symm⟩
theorem Sd.gone (h : Sd T l) {n : Nm} (hg : getL T n = none) : getL l n = none := by
  have := h.get n
  rw [hg] at this
  cases hl : getL l n with
  | none => rfl
  | some r' => rw [hl] at this; cases this
theorem Sd.back (h : Sd T l) {n : Nm} {r' : Rw} (hg : getL l n = some r') : ∃ b r, getL T n = some (b, r) ∧ core r' = core r := by
  cases ht : getL T n with
  | none => rw [h.gone ht] at hg; cases hg
  | some q =>
    obtain ⟨r2, h1, h2⟩ := h.here (b := q.1) (r := q.2) ht
    rw [hg] at h1
    injection h1 with h1
    subst h1
    exact ⟨q.1, q.2, rfl, h2⟩
theorem Sd.mem (h : Sd T l) {p : Rl} (hp : p ∈ l) : ∃ q ∈ T, q.1 = p.1 ∧ core q.2.2 = core p.2 := by
  have := h.perm.subset (List.mem_map.2 ⟨p, hp, rfl⟩)
  unfold rowsT at this
  obtain ⟨q, hq, he⟩ := List.mem_map.1 this
  injection he with h1 h2
  exact ⟨q, hq, h1, h2⟩
theorem Sd.sorted (h : Sd T l) : l.Pairwise (fun a b => leN a b = true) := by
  have := sortV_sorted (rowsT T)
  rw [← h.eq, List.pairwise_map] at this
  exact this
theorem Sd.upd (h : Sd T l) (n : Nm) {c c' : Rw} (hc : core c' = core c) : Sd (updT T n c) (updA l n c') := ⟨by rw [core_upd, h.eq, rows_upd, sort_upd h.ndR, hc], by rw [updT_keys]; exact h.nd⟩
theorem Sd.filter (h : Sd T l) (P : Nm → Bool) : Sd (T.filter fun p => P p.1) (l.filter fun p => P p.1) := by
  refine ⟨?_, h.nd.sublist (List.filter_sublist.map _)⟩
  have e1 : rowsT (T.filter fun p => P p.1) = (rowsT T).filter fun p => P p.1 := by unfold rowsT; rw [List.filter_map]; rfl
  have e2 : (l.filter fun p => P p.1).map coreP = (l.map coreP).filter fun p => P p.1 := by rw [List.filter_map]; rfl
  rw [e1, e2, h.eq, sort_filter h.ndR]
theorem cmpN_swap (a b : Nm) : ¬ cmpN a b < 0 → cmpN b a ≤ 0 := fun h => by rw [cmpN_neg]; omega
theorem Sd.add (h : Sd T l) {n : Nm} {b : Nat} {c c' : Rw} (hc : core c' = core c) {k : Nat} (hno : getL T n = none) (hk : InsN l n k) : Sd (T ++ [(n, b, c)]) (l.take k ++ [(n, c')] ++ l.drop k) := by
  have hnd : ((T ++ [(n, b, c)]).map (·.1)).Nodup := by
    rw [List.map_append, List.nodup_append]
    refine ⟨h.nd, by simp, fun a ha b hb e => ?_⟩
    simp at hb
    obtain ⟨q, hq, rfl⟩ := List.mem_map.1 ha
    exact getL_none_iffV.1 hno q hq (e.trans hb)
  have er : rowsT (T ++ [(n, b, c)]) = rowsT T ++ [(n, core c)] := by unfold rowsT; simp
  have hnr : ((rowsT (T ++ [(n, b, c)])).map (·.1)).Nodup := by rw [rowsT_keys]; exact hnd
  refine ⟨(sortV_unique hnr ?_ ?_).symm, hnd⟩
  · have h1 : (l.take k ++ [(n, c')] ++ l.drop k).Perm (l ++ [(n, c')]) := by
      rw [List.append_assoc]
      refine (List.perm_middle (l₁ := l.take k) (a := (n, c')) (l₂ := l.drop k)).trans ?_
      rw [List.take_append_drop]
      exact List.perm_append_comm (l₁ := [(n, c')])
    refine (h1.map coreP).trans ?_
    rw [List.map_append, er]
    have := h.perm.append_right [(n, core c)]
    simpa [coreP, hc] using this
  · rw [List.pairwise_map]
    have hs := h.sorted
    obtain ⟨hkl, hlt, hst⟩ := hk
    have hs2 := hs
    rw [← List.take_append_drop k l, List.pairwise_append] at hs2
    obtain ⟨s1, s2, s3⟩ := hs2
    have hx : ∀ a ∈ l.take k, cmpN a.1 n ≤ 0 := fun a ha => by
      obtain ⟨q, hq, e⟩ := List.mem_iff_getElem.1 ha
      rw [List.length_take] at hq
      rw [List.getElem_take] at e
      rw [← e]
      have := hlt q (by omega) (by omega)
      omega
    have hy : ∀ b ∈ l.drop k, cmpN n b.1 ≤ 0 := fun b hb => by
      rcases hst with e | ⟨hq, e⟩
      · rw [e, List.drop_length] at hb; simp at hb
      · have h4 := cmpN_swap _ _ e
        rw [List.drop_eq_getElem_cons hq] at hb s2
        rcases List.mem_cons.1 hb with e | e
        · rw [e]; exact h4
        · have h5 := (List.pairwise_cons.1 s2).1 b e
          rw [leN_iff] at h5
          exact cmpN_trans h4 h5
    have hgoal : (l.take k ++ [(n, c')] ++ l.drop k).Pairwise (fun a b => leN a b = true) := by
      rw [List.append_assoc, List.pairwise_append]
      refine ⟨s1, List.pairwise_cons.2 ⟨fun b hb => by rw [leN_iff]; exact hy b hb, s2⟩, fun a ha b hb => ?_⟩
      rcases List.mem_cons.1 hb with e | e
      · rw [e, leN_iff]; exact hx a ha
      · exact s3 a ha b e
    exact hgoal.imp fun {a b} h => h
theorem Sd.ofEq (h : Sd T l) (n : Nm) (L : List Int) : ofE l n L = (ofV T n L).2 := by
  unfold ofE ofV
  cases ht : getL T n with
  | none => rw [h.gone ht]
  | some q =>
    obtain ⟨r', h1, h2⟩ := h.here (b := q.1) (r := q.2) ht
    have h3 : r'.st = q.2.st := (congrArg Rw.st h2 : (core r').st = (core q.2).st)
    rw [h1]
    simp only [h3]
    split <;> rfl
theorem Sd.fresh (h : Sd T l) (mo : Int) (n : Nm) : freshE l mo n = addE T mo n := by
  unfold freshE addE
  rw [h.len]
  cases ht : getL T n with
  | none => rw [h.gone ht]; rfl
  | some q =>
    obtain ⟨r', h1, _⟩ := h.here (b := q.1) (r := q.2) ht
    rw [h1]; rfl
end
end Go.Proofs.Ythbkbmkcgpdedaa
