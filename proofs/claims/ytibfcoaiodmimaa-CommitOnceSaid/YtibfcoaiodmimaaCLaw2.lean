/- The plain law of CommitOnce. -/
import Derived.Test.YtibfcoaiodmimaaCLaw24
namespace Go.Proofs.Ytibfcoaiodmimaa

theorem may_kid {p : ByteArray} {n : Int} (h : kidB p n = true) : mayS (kidS p n) = true := by
  have h0 := kid_list h
  simp only [kidB, Bool.and_eq_true, decide_eq_true_eq, Bool.not_eq_true', decide_eq_false_iff_not] at h
  obtain ⟨⟨⟨h1, h2⟩, h3⟩, h4⟩ := h
  have hs := mayS_le h1
  unfold mayS mayL at h1 ⊢
  rw [h0]
  simp only [Bool.and_eq_true, decide_eq_true_eq, Bool.not_eq_true', List.any_append, Bool.or_eq_false_iff] at h1 ⊢
  refine ⟨?_, h1.2, ?_⟩
  · rw [List.length_append]
    have : p.size = p.data.toList.length := (Array.length_toList (xs := p.data)).symm
    simp only [List.length_cons, List.length_nil]
    omega
  · have hn : (UInt8.ofNat n.toNat).toNat = n.toNat := by simp; omega
    simp only [List.any_cons, List.any_nil, Bool.or_false, odd8, hn, oddB]
    simp
    omega
section
variable {l : List (Nm × Ent)} (h : GL l) {job : Int}
include h
/-- The fuel does not matter where there is enough. -/
theorem want_stable : ∀ (k : Nat) (p : ByteArray), 13 ≤ p.size + k → wantP l job (k + 1) p = wantP l job k p
  | 0, p, hp => by
    cases hg : getL l (job, p) with
    | none => rw [wantP_none hg, wantP_none hg]
    | some x => have := (h.ent hg).2.2.2.1; omega
  | k + 1, p, hp => by
    cases hg : getL l (job, p) with
    | none => rw [wantP_none hg, wantP_none hg]
    | some x =>
      rw [wantP, wantP, hg]
      simp only
      rw [List.flatMap_def, List.flatMap_def]
      congr 1
      apply List.map_congr_left
      intro i hi
      exact want_stable k _ (by rw [kidS_size (h.kid hg (List.mem_range.1 hi)).1]; omega)
theorem tree_stable : ∀ (k : Nat) (p : ByteArray), 13 ≤ p.size + k → treeP l job (k + 1) p = treeP l job k p
  | 0, p, hp => by
    cases hg : getL l (job, p) with
    | none => rw [treeP, treeP, hg]
    | some x => have := (h.ent hg).2.2.2.1; omega
  | k + 1, p, hp => by
    cases hg : getL l (job, p) with
    | none => rw [treeP, treeP, hg]
    | some x =>
      rw [treeP, treeP, hg]
      simp only
      congr 1
      rw [List.flatMap_def, List.flatMap_def]
      congr 1
      apply List.map_congr_left
      intro i hi
      exact tree_stable k _ (by rw [kidS_size (h.kid hg (List.mem_range.1 hi)).1]; omega)
theorem want_some {p : ByteArray} {x : Ent} (hg : getL l (job, p) = some x) : wantP l job 13 p = (List.range x.2.1.toNat).flatMap (fun i => wantP l job 13 (kidS p (i + 1 : Nat))) := by
  rw [← want_stable h 13 p (by omega), wantP, hg]
theorem tree_some {p : ByteArray} {x : Ent} (hg : getL l (job, p) = some x) : treeP l job 13 p = p :: (List.range x.2.1.toNat).flatMap (fun i => treeP l job 13 (kidS p (i + 1 : Nat))) := by
  rw [← tree_stable h 13 p (by omega), treeP, hg]
/-- What is wanted may be, and is not there. -/
theorem want_mem : ∀ (k : Nat) (p : ByteArray), 13 ≤ p.size + k → mayS p = true → ∀ q ∈ wantP l job k p, mayS q = true ∧ getL l (job, q) = none
  | 0, p, hp, _, q, hq => by
    cases hg : getL l (job, p) with
    | none => rw [wantP, List.mem_singleton] at hq; rw [hq]; exact ⟨‹_›, hg⟩
    | some x => have := (h.ent hg).2.2.2.1; omega
  | k + 1, p, hp, hm, q, hq => by
    rw [wantP] at hq
    cases hg : getL l (job, p) with
    | none => rw [hg] at hq; simp at hq; rw [hq]; exact ⟨hm, hg⟩
    | some x =>
      rw [hg] at hq
      simp only [List.mem_flatMap, List.mem_range] at hq
      obtain ⟨i, hi, hq⟩ := hq
      have hk := (h.kid hg hi).1
      exact want_mem k _ (by rw [kidS_size hk]; omega) (may_kid hk) q hq
/-- Nothing is wanted: all is there. -/
theorem want_nil : ∀ (k : Nat) (p : ByteArray), 13 ≤ p.size + k → wantP l job k p = [] → ∀ q ∈ treeP l job k p, inL l job q = true
  | 0, p, hp, hw, q, hq => by rw [wantP] at hw; cases hw
  | k + 1, p, hp, hw, q, hq => by
    rw [wantP] at hw
    rw [treeP] at hq
    cases hg : getL l (job, p) with
    | none => rw [hg] at hw; cases hw
    | some x =>
      rw [hg] at hw hq
      simp only [List.flatMap_eq_nil_iff, List.mem_range] at hw
      simp only [List.mem_cons, List.mem_flatMap, List.mem_range] at hq
      rcases hq with rfl | ⟨i, hi, hq⟩
      · unfold inL; rw [hg]; rfl
      · exact want_nil k _ (by rw [kidS_size (h.kid hg hi).1]; omega) (hw i hi) q hq
end
theorem tree_may {l : List (Nm × Ent)} (h : GL l) {job : Int} : ∀ (k : Nat) (p : ByteArray), 13 ≤ p.size + k → mayS p = true → ∀ q ∈ treeP l job k p, mayS q = true
  | 0, p, _, hm, q, hq => by rw [treeP, List.mem_singleton] at hq; rw [hq]; exact hm
  | k + 1, p, hp, hm, q, hq => by
    rw [treeP] at hq
    cases hg : getL l (job, p) with
    | none => rw [hg] at hq; simp at hq; rw [hq]; exact hm
    | some x =>
      rw [hg] at hq
      simp only [List.mem_cons, List.mem_flatMap, List.mem_range] at hq
      rcases hq with rfl | ⟨i, hi, hq⟩
      · exact hm
      · have hk := (h.kid hg hi).1
        exact tree_may h k _ (by rw [kidS_size hk]; omega) (may_kid hk) q hq
/-- The whole tree lies under its root. -/
theorem tree_under {l : List (Nm × Ent)} (h : GL l) {root : Nm} (hm : mayS root.2 = true) (hw : wantP l root.1 13 root.2 = []) : (treeP l root.1 13 root.2).length ≤ (undA root l).length := by
  have h1 : ((treeP l root.1 13 root.2).map (fun q => (root.1, q))).Nodup :=
    List.Pairwise.map (R := (· ≠ ·)) _ (fun a b hab e => hab (by injection e)) (tree_nodup h 13 root.2)
  have h2 : ((treeP l root.1 13 root.2).map (fun q => (root.1, q))).length ≤ ((l.filter (undP root)).map (·.1)).length := by
    refine List.Nodup.length_le_of_subset h1 fun n hn => ?_
    obtain ⟨q, hq, rfl⟩ := List.mem_map.1 hn
    have h3 := want_nil h 13 root.2 (by omega) hw q hq
    unfold inL at h3
    obtain ⟨x, hx⟩ := Option.isSome_iff_exists.1 h3
    refine List.mem_map.2 ⟨_, List.mem_filter.2 ⟨getL_memE hx, ?_⟩, rfl⟩
    have h4 := tree_pref h 13 root.2 q hq
    unfold undP underS
    simp only [decide_true, Bool.true_and, Bool.and_eq_true]
    exact ⟨⟨tree_may h 13 root.2 (by omega) hm q hq, hm⟩, (prefS_iff _ _).2 h4⟩
  unfold undA
  simpa using h2
/-- The queue, and what was counted. -/
structure Bfs (l : List (Nm × Ent)) (job : Int) (N : Nat) (q : List ByteArray) (c : Nat) : Prop where
  all : ∀ p ∈ q, wantP l job 13 p = []
  sum : c + (q.flatMap (treeP l job 13)).length = N
theorem Bfs.start {l : List (Nm × Ent)} {job : Int} {p : ByteArray} (hw : wantP l job 13 p = []) : Bfs l job (treeP l job 13 p).length [p] 0 :=
  ⟨fun q hq => by rw [List.mem_singleton] at hq; rw [hq]; exact hw, by simp⟩
theorem tree_pos (l : List (Nm × Ent)) (job : Int) (p : ByteArray) : 1 ≤ (treeP l job 13 p).length := by
  rw [treeP]
  cases getL l (job, p) <;> simp
theorem Bfs.len {l : List (Nm × Ent)} {job : Int} {N : Nat} {q : List ByteArray} {c : Nat} (h : Bfs l job N q c) : c + q.length ≤ N := by
  have : q.length ≤ (q.flatMap (treeP l job 13)).length := by
    clear h
    induction q with
    | nil => simp
    | cons p q ih => rw [List.flatMap_cons, List.length_append, List.length_cons]; have := tree_pos l job p; omega
  have := h.sum
  omega
theorem Bfs.there {l : List (Nm × Ent)} {job : Int} {N : Nat} {p : ByteArray} {q : List ByteArray} {c : Nat} (h : Bfs l job N (p :: q) c) : ∃ x, getL l (job, p) = some x := by
  have hw := h.all p (by simp)
  cases hg : getL l (job, p) with
  | none => rw [wantP_none hg] at hw; cases hw
  | some x => exact ⟨x, rfl⟩
def kidsP (p : ByteArray) (n : Nat) : List ByteArray := (List.range n).map (fun i => kidS p (i + 1 : Nat))
theorem kidsP_succ (p : ByteArray) (n : Nat) : kidsP p (n + 1) = kidsP p n ++ [kidS p (n + 1 : Nat)] := by unfold kidsP; rw [List.range_succ]; simp
theorem Bfs.step {l : List (Nm × Ent)} (hG : GL l) {job : Int} {N : Nat} {p : ByteArray} {q : List ByteArray} {c : Nat} (h : Bfs l job N (p :: q) c) {x : Ent} (hg : getL l (job, p) = some x) : Bfs l job N (q ++ kidsP p x.2.1.toNat) (c + 1) := by
  have hw := h.all p (by simp)
  rw [want_some hG hg] at hw
  simp only [List.flatMap_eq_nil_iff, List.mem_range] at hw
  refine ⟨fun r hr => ?_, ?_⟩
  · rcases List.mem_append.1 hr with hr | hr
    · exact h.all r (by simp [hr])
    · unfold kidsP at hr
      obtain ⟨i, hi, rfl⟩ := List.mem_map.1 hr
      exact hw i (List.mem_range.1 hi)
  · have hs := h.sum
    rw [List.flatMap_cons, tree_some hG hg, List.length_append, List.length_cons] at hs
    rw [List.flatMap_append, List.length_append]
    unfold kidsP
    rw [List.flatMap_map]
    omega
/-- The entry that comes next. -/
theorem next_cases {l : List (Nm × Ent)} (h : GL l) {root : Nm} (hm : mayS root.2 = true) {q : ByteArray} (hq : q ∈ wantP l root.1 13 root.2) {k : Int} (h0 : 0 ≤ k) (h1 : k ≤ 3) (h2 : 0 < k → q.size < 4) :
    (4096 ≤ (l.length : Int) ∧ cmA l 4096 ((root.1, q), k, 0, 0) = (false, 6)) ∨ ((l.length : Int) < 4096 ∧ cmA l 4096 ((root.1, q), k, 0, 0) = (true, 0)) := by
  obtain ⟨hq1, hq2⟩ := want_mem h 13 root.2 (by omega) hm q hq
  have hb : badX ((root.1, q), k, 0, 0) = false := by
    simp only [badX, hq1, Bool.not_true, Bool.false_or, Bool.or_eq_false_iff, decide_eq_false_iff_not, Bool.and_eq_false_iff]
    refine ⟨by omega, by omega, ?_⟩
    by_cases hk : 0 < k
    · exact .inr (by have := h2 hk; omega)
    · exact .inl hk
  rcases cm_cases l 4096 ((root.1, q), k, 0, 0) with ⟨e, _⟩ | ⟨_, old, e, _⟩ | ⟨_, _, e1, e2⟩ | ⟨_, _, e1, e2⟩
  · rw [hb] at e; cases e
  · rw [hq2] at e; cases e
  · exact .inl ⟨e1, e2⟩
  · exact .inr ⟨e1, e2⟩
end Go.Proofs.Ytibfcoaiodmimaa
