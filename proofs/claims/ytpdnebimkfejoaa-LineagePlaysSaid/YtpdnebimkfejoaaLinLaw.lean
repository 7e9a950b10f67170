/- The roots above a name, plainly; a tree that is built anew. -/
import Derived.Test.YtpdnebimkfejoaaLin16
namespace Go.Proofs.Ytpdnebimkfejoaa
open Go.RowKit Go.Sort Go.Lib

/-- A path's parents, the nearest first. -/
def ancL : Nat → ByteArray → List ByteArray
  | 0, _ => []
  | k + 1, p => if parB p then parS p :: ancL k (parS p) else []
theorem upF_find (has : Nm → Bool) (job : Int) : ∀ (k : Nat) (p : ByteArray), upF has job k p = ((ancL k p).find? (fun q => has (job, q))).map (fun q => (job, q))
  | 0, p => rfl
  | k + 1, p => by
    unfold upF ancL
    cases hp : parB p
    · rfl
    · simp only [if_true]
      cases hh : has (job, parS p)
      · rw [List.find?_cons_of_neg (by rw [hh]; decide)]
        exact upF_find has job k (parS p)
      · simp [hh]
theorem cmpL_prefixP : ∀ (a b : List UInt8), b ≠ [] → cmpL a (a ++ b) = -1
  | [], b :: _, _ => by simp [cmpL]
  | [], [], h => absurd rfl h
  | a :: x, b, h => by simp [cmpL, cmpL_prefixP x b h]
theorem par_data {p : ByteArray} (h : parB p = true) : (parS p).data.toList = p.data.toList.take (p.size - 1) ∧ 0 < p.size := by
  refine ⟨?_, parB_pos h⟩
  unfold parS
  rw [if_pos h]
  have e : (p.extract 0 (p.size - 1)).data.toList = p.data.toList.dropLast := by simp
  rw [e, List.dropLast_eq_take]; simp
theorem par_split {p : ByteArray} (h : parB p = true) : ∃ b, b ≠ [] ∧ p.data.toList = (parS p).data.toList ++ b := by
  obtain ⟨h1, h2⟩ := par_data h
  refine ⟨p.data.toList.drop (p.size - 1), ?_, by rw [h1, List.take_append_drop]⟩
  intro e
  have := congrArg List.length e
  simp at this
  omega
theorem par_lt {p : ByteArray} (h : parB p = true) : cmpS (parS p) p = -1 := by
  obtain ⟨b, hb, e⟩ := par_split h
  rw [cmpS_eq, e]; exact cmpL_prefixP _ _ hb
theorem parB_may {p : ByteArray} (h : parB p = true) : mayS p = true := by
  unfold parB at h
  simp only [Bool.and_eq_true] at h
  exact h.2
theorem may_prefix {a p : ByteArray} (h : mayS p = true) (hp : a.data.toList <+: p.data.toList) : mayS a = true := by
  unfold mayS mayL at *
  simp only [Bool.and_eq_true, decide_eq_true_eq, Bool.not_eq_true', List.any_eq_false] at *
  refine ⟨?_, ?_⟩
  · have := hp.length_le; omega
  · exact fun x hx => h.2 x (hp.subset hx)
theorem anc_mem : ∀ (k : Nat) (p q : ByteArray), q ∈ ancL k p → cmpS q p = -1 ∧ q.data.toList <+: p.data.toList
  | 0, p, q, h => by simp [ancL] at h
  | k + 1, p, q, h => by
    unfold ancL at h
    cases hp : parB p
    · rw [hp] at h; simp at h
    · rw [hp] at h
      simp only [if_true] at h
      obtain ⟨b, hb, e⟩ := par_split hp
      rcases List.mem_cons.1 h with rfl | h
      · exact ⟨par_lt hp, by rw [e]; exact List.prefix_append _ _⟩
      · obtain ⟨h1, h2⟩ := anc_mem k _ _ h
        refine ⟨?_, h2.trans (by rw [e]; exact List.prefix_append _ _)⟩
        have h3 := par_lt hp
        rw [cmpS_eq] at *
        exact cmpL_lt_trans _ _ _ h1 h3
theorem upN_some {has : Nm → Bool} {n u : Nm} (h : upN has n = some u) : has u = true ∧ u.1 = n.1 ∧ u.2 ∈ ancL n.2.size n.2 ∧ mayS n.2 = true := by
  unfold upN at h
  split at h
  · rename_i hm
    rw [upF_find] at h
    obtain ⟨q, hq, he⟩ := Option.map_eq_some_iff.1 h
    subst he
    exact ⟨by simpa using List.find?_some hq, rfl, List.mem_of_find?_eq_some hq, hm⟩
  · cases h
theorem upN_more {has has' : Nm → Bool} {n u : Nm} (h : upN has n = some u) (h' : has' u = true) : upN has' n ≠ none := by
  obtain ⟨_, h2, h3, h4⟩ := upN_some h
  unfold upN
  rw [if_pos h4, upF_find]
  intro e
  rw [Option.map_eq_none_iff, List.find?_eq_none] at e
  have := e _ h3
  rw [← h2] at this
  exact this h'
theorem upN_lt {has : Nm → Bool} {n u : Nm} (h : upN has n = some u) : cmpN u n < 0 ∧ u.2.data.toList <+: n.2.data.toList ∧ mayS u.2 = true ∧ mayS n.2 = true := by
  obtain ⟨_, h2, h3, h4⟩ := upN_some h
  obtain ⟨h5, h6⟩ := anc_mem _ _ _ h3
  refine ⟨?_, h6, may_prefix h4 h6, h4⟩
  unfold cmpN orI cmpU
  rw [h2, h5]; simp
/-- Each root but a job's first has one above it. -/
def OkU (A : Al) : Prop := ∀ p ∈ A, p.1.2.toList ≠ [] → upN (hasA A) p.1 ≠ none
theorem hasA_mem {A : Al} {n : Nm} : hasA A n = true ↔ ∃ p ∈ A, p.1 = n := by
  unfold hasA
  rw [← getL_anyV, List.any_eq_true]
  simp
theorem okU_add {A : Al} {n : Nm} {c : Rw} (h : OkU A) : OkU (addA A n c) := by
  unfold addA
  split
  · rename_i h0
    intro p hp hne
    have hmono : ∀ m, hasA A m = true → hasA (A ++ [(n, c)]) m = true := fun m hm => by
      obtain ⟨q, hq, he⟩ := hasA_mem.1 hm
      exact hasA_mem.2 ⟨q, List.mem_append.2 (.inl hq), he⟩
    have key : upN (hasA A) p.1 ≠ none → upN (hasA (A ++ [(n, c)])) p.1 ≠ none := fun h1 => by
      obtain ⟨u, hu⟩ := Option.ne_none_iff_exists'.1 h1
      exact upN_more hu (hmono _ (upN_some hu).1)
    rcases List.mem_append.1 hp with hp | hp
    · exact key (h p hp hne)
    · rw [List.mem_singleton] at hp
      subst hp
      refine key ?_
      intro e
      unfold addEA at h0
      split at h0
      · cases h0
      · split at h0
        · cases h0
        · rw [if_pos ⟨hne, e⟩] at h0; cases h0
  · exact h
theorem okU_drop {A : Al} {js : List Int} (h : OkU A) : OkU (dropA A js) := by
  intro p hp hne
  unfold dropA at hp
  obtain ⟨hp, hb⟩ := List.mem_filter.1 hp
  obtain ⟨u, hu⟩ := Option.ne_none_iff_exists'.1 (h p hp hne)
  obtain ⟨h1, h2, _, _⟩ := upN_some hu
  refine upN_more hu ?_
  obtain ⟨q, hq, he⟩ := hasA_mem.1 h1
  refine hasA_mem.2 ⟨q, List.mem_filter.2 ⟨hq, ?_⟩, he⟩
  unfold badJ at hb ⊢
  rw [he, h2]; exact hb
theorem okU_keys {A B : Al} (h : OkU A) (e : A.map (·.1) = B.map (·.1)) : OkU B := by
  have hh : hasA A = hasA B := by
    funext n
    rw [Bool.eq_iff_iff, hasA_mem, hasA_mem]
    constructor
    · rintro ⟨p, hp, rfl⟩
      have : p.1 ∈ B.map (·.1) := e ▸ List.mem_map.2 ⟨p, hp, rfl⟩
      obtain ⟨q, hq, h2⟩ := List.mem_map.1 this
      exact ⟨q, hq, h2⟩
    · rintro ⟨p, hp, rfl⟩
      have : p.1 ∈ A.map (·.1) := e.symm ▸ List.mem_map.2 ⟨p, hp, rfl⟩
      obtain ⟨q, hq, h2⟩ := List.mem_map.1 this
      exact ⟨q, hq, h2⟩
  intro p hp hne
  have : p.1 ∈ A.map (·.1) := e.symm ▸ List.mem_map.2 ⟨p, hp, rfl⟩
  obtain ⟨q, hq, h2⟩ := List.mem_map.1 this
  rw [← hh, ← h2]
  exact h q hq (by rw [h2]; exact hne)
theorem leN_lt {S : Al} (hs : S.Pairwise (fun a b => leN a b = true)) {i k : Nat} (hi : i < S.length) (hk : k < S.length) (h : cmpN S[i].1 S[k].1 < 0) : i < k := by
  rcases Nat.lt_or_ge i k with h1 | h1
  · exact h1
  · rcases Nat.eq_or_lt_of_le h1 with h2 | h2
    · subst h2; rw [cmpN_refl] at h; omega
    · have h3 := (leN_iff _ _).1 (List.pairwise_iff_getElem.1 hs k i hk hi h2)
      rw [cmpN_neg] at h3; omega
/-- A tree that is built of the rows of another one, one by one. -/
theorem rebuilt {A : Al} (hn : (A.map (·.1)).Nodup) (hU : OkU A) (hok : ∀ p ∈ A, mayS p.1.2 = true) (hl : A.length ≤ 1024) (k : Nat) (hk : k < (sortV A).length) : addEA ((sortV A).take k) (sortV A)[k].1 = 0 := by
  have hp := sortV_perm A
  have hs := sortV_sorted A
  have hnS : ((sortV A).map (·.1)).Nodup := (hp.map (·.1)).nodup_iff.2 hn
  have hlS := hp.length_eq
  have hmem : (sortV A)[k] ∈ A := hp.mem_iff.1 (List.getElem_mem hk)
  have hnot : (getL ((sortV A).take k) (sortV A)[k].1).isSome = false := by
    cases hc : (getL ((sortV A).take k) (sortV A)[k].1).isSome
    · rfl
    · obtain ⟨q, hq, he⟩ := hasA_mem.1 (show hasA ((sortV A).take k) (sortV A)[k].1 = true from hc)
      obtain ⟨i, hi, rfl⟩ := List.getElem_of_mem hq
      have hik : i < k := by have := hi; rw [List.length_take] at this; omega
      rw [List.getElem_take] at he
      have := idx_only hnS (by omega) hk he rfl
      omega
  unfold addEA
  rw [if_neg (by rw [hok _ hmem]; decide), hnot, if_neg (by decide), if_neg, if_neg]
  · rw [List.length_take]; omega
  · rintro ⟨h1, h2⟩
    obtain ⟨u, hu⟩ := Option.ne_none_iff_exists'.1 (hU _ hmem h1)
    refine upN_more hu ?_ h2
    obtain ⟨q, hq, he⟩ := hasA_mem.1 (upN_some hu).1
    obtain ⟨i, hi, hqi⟩ := List.getElem_of_mem (hp.mem_iff.2 hq)
    have hik : i < k := leN_lt hs hi hk (by rw [hqi, he]; exact (upN_lt hu).1)
    refine hasA_mem.2 ⟨q, ?_, he⟩
    rw [← hqi]
    exact List.mem_take_iff_getElem.2 ⟨i, by omega, rfl⟩
end Go.Proofs.Ytpdnebimkfejoaa
