/- The nearest root above a name, plainly: the one with the longest path. -/
import Derived.Test.YtpdnebimkfejoaaLinLaw2
namespace Go.Proofs.Ytpdnebimkfejoaa
open Go.RowKit Go.Sort Go.Lib

/-- q is ahead of p, strictly. -/
def sPre (q p : ByteArray) : Prop := q.data.toList <+: p.data.toList ∧ q ≠ p
theorem ba_ext {a b : ByteArray} (h : a.data.toList = b.data.toList) : a = b := by
  rcases a with ⟨x⟩; rcases b with ⟨y⟩
  have : x = y := Array.ext' h
  rw [this]
theorem size_list (a : ByteArray) : a.size = a.data.toList.length := by simp
theorem sPre_lt {q p : ByteArray} (h : sPre q p) : q.size < p.size := by
  obtain ⟨⟨t, ht⟩, hne⟩ := h
  rw [size_list, size_list, ← ht, List.length_append]
  cases t with
  | nil => exact absurd (ba_ext (by rw [← ht, List.append_nil])) hne
  | cons a t => simp
theorem sPre_same {q q' p : ByteArray} (h : sPre q p) (h' : sPre q' p) (hs : q.size = q'.size) : q = q' := by
  apply ba_ext
  rw [size_list, size_list] at hs
  have h1 := List.prefix_iff_eq_take.1 h.1
  have h2 := List.prefix_iff_eq_take.1 h'.1
  rw [h1, h2, hs]
theorem sPre_par {q p : ByteArray} (hp : parB p = true) (h : sPre q p) : q = parS p ∨ sPre q (parS p) := by
  obtain ⟨h1, h2⟩ := par_data hp
  have hlt := sPre_lt h
  have hq : q.data.toList <+: (parS p).data.toList := by
    rw [h1]
    have h3 := List.prefix_iff_eq_take.1 h.1
    rw [h3]
    refine List.take_prefix_take_left ?_
    rw [← size_list]; omega
  by_cases e : q = parS p
  · exact .inl e
  · exact .inr ⟨hq, e⟩
theorem par_sPre {p : ByteArray} (hp : parB p = true) : sPre (parS p) p := by
  obtain ⟨b, hb, e⟩ := par_split hp
  refine ⟨by rw [e]; exact List.prefix_append _ _, fun h => ?_⟩
  rw [h] at e
  have := congrArg List.length e
  rw [List.length_append] at this
  exact hb (List.length_eq_zero_iff.1 (by omega))
theorem sPre_trans {a b c : ByteArray} (h : sPre a b) (k : sPre b c) : sPre a c := by
  refine ⟨h.1.trans k.1, fun e => ?_⟩
  have h1 := sPre_lt h
  have h2 := sPre_lt k
  rw [e] at h1
  omega
theorem par_may {p : ByteArray} (hp : parB p = true) : mayS (parS p) = true := may_prefix (parB_may hp) (par_sPre hp).1
theorem no_par {p : ByteArray} (hm : mayS p = true) (hp : parB p = false) (q : ByteArray) : ¬ sPre q p := by
  intro h
  have hlt := sPre_lt h
  unfold parB at hp
  rw [hm, Bool.and_true] at hp
  have : p.toList = [] := by simpa using hp
  rw [Lib.toList_data] at this
  rw [size_list p, this] at hlt
  simp at hlt
/-- What upF finds. -/
theorem upF_best (has : Nm → Bool) (job : Int) : ∀ (k : Nat) (p : ByteArray), p.size ≤ k → mayS p = true →
    (upF has job k p = none ∧ ∀ q, sPre q p → has (job, q) = false) ∨ ∃ q, upF has job k p = some (job, q) ∧ sPre q p ∧ has (job, q) = true ∧ ∀ q', sPre q' p → has (job, q') = true → q'.size ≤ q.size
  | 0, p, hk, _ => by
    refine .inl ⟨rfl, fun q hq => ?_⟩
    have := sPre_lt hq
    omega
  | k + 1, p, hk, hm => by
    unfold upF
    cases hp : parB p
    · exact .inl ⟨rfl, fun q hq => absurd hq (no_par hm hp q)⟩
    · simp only [if_true]
      cases hh : has (job, parS p)
      · simp only [Bool.false_eq_true, if_false]
        have hlt := sPre_lt (par_sPre hp)
        rcases upF_best has job k (parS p) (by omega) (par_may hp) with ⟨h1, h2⟩ | ⟨q, h1, h2, h3, h4⟩
        · refine .inl ⟨h1, fun q hq => ?_⟩
          rcases sPre_par hp hq with e | e
          · rw [e]; exact hh
          · exact h2 q e
        · refine .inr ⟨q, h1, sPre_trans h2 (par_sPre hp), h3, fun q' hq' hh' => ?_⟩
          rcases sPre_par hp hq' with e | e
          · rw [e, hh] at hh'; cases hh'
          · exact h4 q' e hh'
      · simp only [if_true]
        refine .inr ⟨parS p, rfl, par_sPre hp, hh, fun q' hq' _ => ?_⟩
        rcases sPre_par hp hq' with e | e
        · rw [e]; exact Nat.le_refl _
        · exact Nat.le_of_lt (sPre_lt e)
/-- x is above n. -/
def ancP (n x : Nm) : Bool := (x.1 == n.1) && (!decide (x = n) && underS n.2 x.2)
theorem pref_iff (s p : ByteArray) : prefS s p = true ↔ p.data.toList <+: s.data.toList := by
  unfold prefS
  rw [Bool.and_eq_true, decide_eq_true_eq, beq_iff_eq, Lib.toList_data, Lib.toList_data]
  have e : (s.extract 0 p.size).data.toList = s.data.toList.take p.size := by simp
  rw [e, size_list, size_list]
  constructor
  · rintro ⟨_, h⟩
    rw [← h]; exact List.take_prefix _ _
  · intro h
    exact ⟨h.length_le, (List.prefix_iff_eq_take.1 h).symm⟩
theorem anc_iff {n x : Nm} (hm : mayS n.2 = true) : ancP n x = true ↔ x.1 = n.1 ∧ sPre x.2 n.2 := by
  unfold ancP underS
  simp only [Bool.and_eq_true, beq_iff_eq, Bool.not_eq_true', decide_eq_false_iff_not]
  constructor
  · rintro ⟨h1, h2, _, h4⟩
    refine ⟨h1, (pref_iff _ _).1 h4, fun e => h2 (Prod.ext h1 e)⟩
  · rintro ⟨h1, h2, h3⟩
    exact ⟨h1, fun e => h3 (by rw [e]), ⟨hm, may_prefix hm h2⟩, (pref_iff _ _).2 h2⟩
/-- The best one so far. -/
def BestA (l : Al) (n : Nm) (k : Nat) (b : Int) : Prop :=
  (b = -1 ∧ ∀ j (hj : j < l.length), j < k → ancP n l[j].1 = false) ∨
  ∃ (i : Nat) (hi : i < l.length), b = (i : Int) ∧ i < k ∧ ancP n l[i].1 = true ∧ ∀ j (hj : j < l.length), j < k → ancP n l[j].1 = true → l[j].1.2.size ≤ l[i].1.2.size
def AbvN (l : Al) (n : Nm) (b : Int) : Prop := (b = -1 ∧ upN (hasA l) n = none) ∨ ∃ (i : Nat) (hi : i < l.length), b = (i : Int) ∧ upN (hasA l) n = some l[i].1
theorem best_abv {l : Al} {n : Nm} {b : Int} (hm : mayS n.2 = true) (h : BestA l n l.length b) : AbvN l n b := by
  have hup : upN (hasA l) n = upF (hasA l) n.1 n.2.size n.2 := by unfold upN; rw [if_pos hm]
  have hB := upF_best (hasA l) n.1 n.2.size n.2 (Nat.le_refl _) hm
  rw [← hup] at hB
  rcases h with ⟨hb, hno⟩ | ⟨i, hi, hb, _, ha, hbest⟩
  · refine .inl ⟨hb, ?_⟩
    rcases hB with ⟨h1, _⟩ | ⟨q, h1, h2, h3, _⟩
    · exact h1
    · obtain ⟨p, hp, e⟩ := hasA_mem.1 h3
      obtain ⟨j, hj, e2⟩ := List.mem_iff_getElem.1 hp
      have h4 := hno j hj hj
      rw [e2, e] at h4
      have h5 := (anc_iff (n := n) (x := (n.1, q)) hm).2 ⟨rfl, h2⟩
      rw [h5] at h4; cases h4
  · obtain ⟨e1, e2⟩ := (anc_iff hm).1 ha
    have hhas : hasA l l[i].1 = true := hasA_mem.2 ⟨_, List.getElem_mem hi, rfl⟩
    have hpe : (n.1, l[i].1.2) = l[i].1 := Prod.ext e1.symm rfl
    refine .inr ⟨i, hi, hb, ?_⟩
    rcases hB with ⟨_, h2⟩ | ⟨q, h1, h2, h3, h4⟩
    · have := h2 _ e2
      rw [hpe, hhas] at this; cases this
    · have h5 := h4 _ e2 (by rw [hpe]; exact hhas)
      obtain ⟨p, hp, e⟩ := hasA_mem.1 h3
      obtain ⟨j, hj, e3⟩ := List.mem_iff_getElem.1 hp
      have h6 := hbest j hj hj (by rw [e3, e]; exact (anc_iff hm).2 ⟨rfl, h2⟩)
      rw [e3, e] at h6
      have := sPre_same e2 h2 (by have h7 : q.size ≤ l[i].1.2.size := h6; omega)
      rw [h1, ← hpe, this]
theorem BestA.no {l : Al} {n : Nm} {k : Nat} {b : Int} (hk : k < l.length) (h : BestA l n k b) (ha : ancP n l[k].1 = false) : BestA l n (k + 1) b := by
  rcases h with ⟨hb, hno⟩ | ⟨i, hi, hb, hik, hai, hbest⟩
  · refine .inl ⟨hb, fun j hj hjk => ?_⟩
    by_cases e : j = k
    · subst e; exact ha
    · exact hno j hj (by omega)
  · refine .inr ⟨i, hi, hb, by omega, hai, fun j hj hjk hja => ?_⟩
    by_cases e : j = k
    · subst e; rw [ha] at hja; cases hja
    · exact hbest j hj (by omega) hja
theorem BestA.first {l : Al} {n : Nm} {k : Nat} (hk : k < l.length) (hno : ∀ j (hj : j < l.length), j < k → ancP n l[j].1 = false) (ha : ancP n l[k].1 = true) : BestA l n (k + 1) k := by
  refine .inr ⟨k, hk, rfl, by omega, ha, fun j hj hjk hja => ?_⟩
  by_cases e : j = k
  · subst e; exact Nat.le_refl _
  · rw [hno j hj (by omega)] at hja; cases hja
theorem BestA.more {l : Al} {n : Nm} {k i : Nat} (hk : k < l.length) (hi : i < l.length) (hbest : ∀ j (hj : j < l.length), j < k → ancP n l[j].1 = true → l[j].1.2.size ≤ l[i].1.2.size) (ha : ancP n l[k].1 = true) (hs : l[i].1.2.size < l[k].1.2.size) : BestA l n (k + 1) k := by
  refine .inr ⟨k, hk, rfl, by omega, ha, fun j hj hjk hja => ?_⟩
  by_cases e : j = k
  · subst e; exact Nat.le_refl _
  · have := hbest j hj (by omega) hja; omega
theorem BestA.less {l : Al} {n : Nm} {k i : Nat} {b : Int} (hk : k < l.length) (hi : i < l.length) (hb : b = (i : Int)) (hik : i < k) (hai : ancP n l[i].1 = true) (hbest : ∀ j (hj : j < l.length), j < k → ancP n l[j].1 = true → l[j].1.2.size ≤ l[i].1.2.size) (hs : ¬ l[i].1.2.size < l[k].1.2.size) : BestA l n (k + 1) b := by
  refine .inr ⟨i, hi, hb, by omega, hai, fun j hj hjk hja => ?_⟩
  by_cases e : j = k
  · subst e; omega
  · exact hbest j hj (by omega) hja
end Go.Proofs.Ytpdnebimkfejoaa
