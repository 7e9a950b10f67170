/- Who is lost, plainly; each root is within the one above it, once. -/
import Derived.Test.YtpdnebimkfejoaaTwo25
namespace Go.Proofs.Ytpdnebimkfejoaa
open Go.RowKit Go.Sort Go.Lib

theorem pick_sort {A : Al} {P : Nm → Rw → Bool} (hn : (A.map (·.1)).Nodup) : sortV (pickA A P) = pickA (sortV A) P := by
  have h1 : (pickA (sortV A) P).Perm (pickA A P) := (sortV_perm A).filter _
  have h2 : ((pickA A P).map (·.1)).Nodup := hn.sublist (List.filter_sublist.map _)
  exact sortV_unique h2 h1 ((sortV_sorted A).sublist List.filter_sublist)
theorem lostA_keys (A : Al) (ks : List Int) : (lostA A ks).map (·.1) = A.map (·.1) := by
  unfold lostA; rw [List.map_map]
  apply List.map_congr_left
  intro p _; simp only [Function.comp]; split <;> rfl
theorem sort_lost {A : Al} {ks : List Int} (hn : (A.map (·.1)).Nodup) : sortV (lostA A ks) = lostA (sortV A) ks := by
  have h1 : (lostA (sortV A) ks).Perm (lostA A ks) := (sortV_perm A).map _
  have h2 : ((lostA A ks).map (·.1)).Nodup := by rw [lostA_keys]; exact hn
  refine sortV_unique h2 h1 ?_
  unfold lostA
  rw [List.pairwise_map]
  refine (sortV_sorted A).imp ?_
  intro a b h
  rw [leN_iff] at *
  have e : ∀ p : Rl, (if lostB ks p.2 then (p.1, freeR p.2) else p).1 = p.1 := fun p => by split <;> rfl
  rw [e, e]; exact h
/-- The next of those that were picked. -/
theorem pick_next {S : Al} {P : Nm → Rw → Bool} {k : Nat} (hk : k < S.length) (hP : P S[k].1 S[k].2 = true) : (pickA S P)[((pickA (S.take k) P).length)]? = some S[k] := by
  have h : pickA S P = pickA (S.take k) P ++ S[k] :: pickA (S.drop (k + 1)) P := by
    unfold pickA
    conv => lhs; rw [← List.take_append_drop k S, List.filter_append, List.drop_eq_getElem_cons hk, List.filter_cons_of_pos (p := fun p : Rl => P p.1 p.2) hP]
  rw [h, List.getElem?_append_right (Nat.le_refl _), Nat.sub_self]; rfl
theorem pick_take {S : Al} {P : Nm → Rw → Bool} {k : Nat} (hk : k < S.length) : pickA (S.take (k + 1)) P = pickA (S.take k) P ++ (if P S[k].1 S[k].2 then [S[k]] else []) := by
  unfold pickA
  rw [List.take_succ_eq_append_getElem hk, List.filter_append]
  congr 1
  cases h : P S[k].1 S[k].2
  · simp [h]
  · simp [h]
/-- The names within a root. -/
def wN (A : Al) (n : Nm) : List Nm := (sortV (pickA A (fun a _ => withinA A n a))).map (·.1)
theorem wN_mem {A : Al} {n a : Nm} : a ∈ wN A n ↔ hasA A a = true ∧ upN (hasA A) a = some n := by
  unfold wN
  rw [hasA_mem]
  constructor
  · intro h
    obtain ⟨p, hp, rfl⟩ := List.mem_map.1 h
    have h1 := (sortV_perm _).mem_iff.1 hp
    unfold pickA at h1
    obtain ⟨h2, h3⟩ := List.mem_filter.1 h1
    unfold withinA at h3
    exact ⟨⟨p, h2, rfl⟩, of_decide_eq_true h3⟩
  · rintro ⟨⟨p, hp, rfl⟩, h⟩
    refine List.mem_map.2 ⟨p, (sortV_perm _).mem_iff.2 ?_, rfl⟩
    unfold pickA
    exact List.mem_filter.2 ⟨hp, by unfold withinA; exact decide_eq_true h⟩
theorem wN_nodup {A : Al} {n : Nm} (hn : (A.map (·.1)).Nodup) : (wN A n).Nodup := by
  unfold wN
  refine ((sortV_perm _).map (·.1)).nodup_iff.2 ?_
  unfold pickA
  exact hn.sublist (List.filter_sublist.map _)
/-- The names that were met ahead of a row. -/
def met (A S : Al) (k : Nat) : List Nm := (S.take k).flatMap fun p => wN A p.1
theorem met_succ {A S : Al} {k : Nat} (hk : k < S.length) : met A S (k + 1) = met A S k ++ wN A S[k].1 := by
  unfold met
  rw [List.take_succ_eq_append_getElem hk, List.flatMap_append]; simp
theorem met_new {A S : Al} {k j : Nat} (hnS : (S.map (·.1)).Nodup) (hn : (A.map (·.1)).Nodup) (hk : k < S.length) (hj : j < (wN A S[k].1).length) : (wN A S[k].1)[j] ∉ met A S k ++ (wN A S[k].1).take j := by
  intro h
  have hm := (wN_mem (A := A)).1 (List.getElem_mem hj)
  rcases List.mem_append.1 h with h | h
  · unfold met at h
    obtain ⟨p, hp, hq⟩ := List.mem_flatMap.1 h
    obtain ⟨i, hi, rfl⟩ := List.getElem_of_mem hp
    have hik : i < k := by have := hi; rw [List.length_take] at this; omega
    rw [List.getElem_take] at hq
    have h2 := ((wN_mem (A := A)).1 hq).2
    rw [hm.2] at h2
    injection h2 with h2
    have := idx_only hnS hk (by omega) rfl h2.symm
    omega
  · obtain ⟨i, hi, he⟩ := List.getElem_of_mem h
    have hij : i < j := by have := hi; rw [List.length_take] at this; omega
    rw [List.getElem_take] at he
    have := (List.pairwise_iff_getElem.1 (wN_nodup (n := S[k].1) hn)) i j (by omega) hj hij
    exact this he
theorem met_newN {A S : Al} {k j : Nat} {n : Nm} (hnS : (S.map (·.1)).Nodup) (hn : (A.map (·.1)).Nodup) (hk : k < S.length) (he : S[k].1 = n) (hj : j < (wN A n).length) : (wN A n)[j] ∉ met A S k ++ (wN A n).take j := by
  subst he; exact met_new hnS hn hk hj
/-- Met at the end: those that have one above them. -/
theorem met_all {A S : Al} (hp : S.Perm A) {a : Nm} (ha : hasA A a = true) : a ∈ met A S S.length ↔ upN (hasA A) a ≠ none := by
  unfold met
  rw [List.take_length, List.mem_flatMap]
  constructor
  · rintro ⟨p, _, h⟩
    rw [(wN_mem.1 h).2]; simp
  · intro h
    obtain ⟨u, hu⟩ := Option.ne_none_iff_exists'.1 h
    obtain ⟨q, hq, he⟩ := hasA_mem.1 (upN_some hu).1
    exact ⟨q, hp.mem_iff.2 hq, wN_mem.2 ⟨ha, by rw [he]; exact hu⟩⟩
theorem upN_root {has : Nm → Bool} {n : Nm} (h : n.2.toList = []) : upN has n = none := by
  unfold upN
  split
  · have h0 : n.2.size = 0 := by
      have h1 : n.2.toList.length = n.2.size := by rw [Lib.toList_data]; simp
      rw [← h1, h]; rfl
    rw [h0]; rfl
  · rfl
theorem met_iff {A S : Al} (hp : S.Perm A) (hU : OkU A) {p : Rl} (hm : p ∈ A) : p.1 ∈ met A S S.length ↔ p.1.2.toList ≠ [] := by
  rw [met_all hp (hasA_mem.2 ⟨p, hm, rfl⟩)]
  constructor
  · intro h e; exact h (upN_root e)
  · exact hU p hm
end Go.Proofs.Ytpdnebimkfejoaa
