/- The heap's order, plainly: what Push, Pop, Fix, Remove leave. -/
import Derived.Test.YteladooegjgdnaaHp7
namespace Go.Proofs.Yteladooegjgdnaa
open Go.RowKit Go.Sort Go.Lib

theorem leTt {x y z : Tm} (h : leT x y) (k : leT y z) : leT x z := cmpT_trans h k
theorem not_less {x y : Tm} (h : ¬ lessT x y = true) : leT y x := by
  rw [less_iff] at h
  exact Classical.byContradiction h
theorem less_le {x y : Tm} (h : lessT x y = true) : leT x y := by
  rcases leT_total x y with k | k
  · exact k
  · exact absurd k (less_iff.1 h)
abbrev gT (l : List Tm) (i : Nat) : Tm := l.getD i default
theorem gT_set (l : List Tm) (i k : Nat) (x : Tm) (hi : i < l.length) : gT (l.set i x) k = if k = i then x else gT l k := by
  unfold gT
  rw [List.getD_eq_getElem?_getD, List.getElem?_set, List.getD_eq_getElem?_getD]
  by_cases h : i = k
  · subst h; simp [hi]
  · rw [if_neg h, if_neg (fun e => h e.symm)]
theorem gT_swap (l : List Tm) (i j k : Nat) (hi : i < l.length) (hj : j < l.length) : gT (swapL l i j) k = if k = j then gT l i else if k = i then gT l j else gT l k := by
  unfold swapL
  rw [gT_set _ _ _ _ (by simpa using hj), gT_set _ _ _ _ hi]
theorem swap_perm (l : List Tm) (i j : Nat) (hi : i < l.length) (hj : j < l.length) : (swapL l i j).Perm l := by
  have e1 : l.getD j default = l[j] := by rw [List.getD_eq_getElem?_getD, List.getElem?_eq_getElem hj]; rfl
  have e2 : l.getD i default = l[i] := by rw [List.getD_eq_getElem?_getD, List.getElem?_eq_getElem hi]; rfl
  unfold swapL
  rw [e1, e2]
  exact List.set_set_perm hi hj
/-- The first m are in the order of a heap. -/
def Hp (m : Nat) (l : List Tm) : Prop := ∀ k, 0 < k → k < m → leT (gT l ((k - 1) / 2)) (gT l k)
/-- All but at i. -/
structure Hole (m : Nat) (l : List Tm) (i : Nat) : Prop where
  all : ∀ k, 0 < k → k < m → k ≠ i → (k - 1) / 2 ≠ i → leT (gT l ((k - 1) / 2)) (gT l k)
  over : ∀ k, 0 < k → k < m → (k - 1) / 2 = i → 0 < i → leT (gT l ((i - 1) / 2)) (gT l k)
theorem upL_perm : ∀ (f : Nat) (l : List Tm) (j : Nat), j < l.length → (upL f l j).Perm l
  | 0, l, _, _ => .refl l
  | f + 1, l, j, h => by
    unfold upL
    split
    · exact .refl l
    · split
      · exact (upL_perm f _ _ (by rw [swapL_len]; omega)).trans (swap_perm l _ _ (by omega) h)
      · exact .refl l
theorem upL_keep : ∀ (f : Nat) (l : List Tm) (j k : Nat), j < l.length → j < k → gT (upL f l j) k = gT l k
  | 0, _, _, _, _, _ => rfl
  | f + 1, l, j, k, h, hk => by
    unfold upL
    split
    · rfl
    · split
      · rw [upL_keep f _ _ k (by rw [swapL_len]; omega) (by omega), gT_swap l _ _ _ (by omega) h, if_neg (by omega), if_neg (by omega)]
      · rfl
theorem upL_ok : ∀ (f m : Nat) (l : List Tm) (j : Nat), j < f → j < m → m ≤ l.length → Hole m l j → (∀ k, 0 < k → k < m → (k - 1) / 2 = j → leT (gT l j) (gT l k)) → Hp m (upL f l j)
  | 0, _, _, _, h, _, _, _, _ => by omega
  | f + 1, m, l, j, hf, hjm, hml, H, hc => by
    unfold upL
    by_cases h0 : j = 0
    · rw [if_pos h0]
      intro k k0 km
      by_cases hp : (k - 1) / 2 = j
      · rw [hp]; exact hc k k0 km hp
      · exact H.all k k0 km (by omega) hp
    rw [if_neg h0]
    obtain ⟨p, hp⟩ : ∃ p, (j - 1) / 2 = p := ⟨_, rfl⟩
    rw [hp]
    by_cases hl : lessT (l.getD j default) (l.getD p default) = true
    · rw [if_pos hl]
      have hle : leT (gT l j) (gT l p) := less_le hl
      have G := fun k => gT_swap l p j k (by omega) (by omega)
      refine upL_ok f m _ p (by omega) (by omega) (by rw [swapL_len]; exact hml) ⟨?_, ?_⟩ ?_
      · intro k k0 km kp hk
        rw [G, G]
        rw [if_neg hk, if_neg kp]
        by_cases h1 : k = j
        · subst h1; exact absurd hp hk
        rw [if_neg h1]
        by_cases h2 : (k - 1) / 2 = j
        · rw [if_pos h2, ← hp]
          exact H.over k k0 km h2 (by omega)
        · rw [if_neg h2]
          exact H.all k k0 km h1 h2
      · intro k k0 km hk p0
        rw [G, G, if_neg (by omega), if_neg (by omega)]
        have hpp := H.all p p0 (by omega) (by omega) (by omega)
        by_cases h1 : k = j
        · rw [if_pos h1]; exact hpp
        · rw [if_neg h1, if_neg (by omega)]
          have := H.all k k0 km h1 (by omega)
          rw [hk] at this
          exact leTt hpp this
      · intro k k0 km hk
        rw [G, G, if_neg (show ¬ p = j by omega), if_pos rfl]
        by_cases h1 : k = j
        · rw [if_pos h1]; exact hle
        · rw [if_neg h1, if_neg (by omega)]
          have := H.all k k0 km h1 (by omega)
          rw [hk] at this
          exact leTt hle this
    · rw [if_neg hl]
      have hle := not_less hl
      intro k k0 km
      by_cases h1 : k = j
      · subst h1; rw [hp]; exact hle
      by_cases h2 : (k - 1) / 2 = j
      · rw [h2]; exact hc k k0 km h2
      · exact H.all k k0 km h1 h2
theorem kidL_in {l : List Tm} {i m : Nat} (h : ¬ m ≤ 2 * i + 1) : kidL l i m < m ∧ i < kidL l i m ∧ (kidL l i m - 1) / 2 = i := by
  unfold kidL
  split <;> omega
theorem kidL_least {l : List Tm} {i m k : Nat} (_h : ¬ m ≤ 2 * i + 1) (k0 : 0 < k) (km : k < m) (hk : (k - 1) / 2 = i) : leT (gT l (kidL l i m)) (gT l k) := by
  unfold kidL
  have : k = 2 * i + 1 ∨ k = 2 * i + 2 := by omega
  split
  · rename_i h1
    rcases this with e | e
    · subst e; exact less_le h1.2
    · subst e; exact leT_refl _
  · rename_i h1
    rcases this with e | e
    · subst e; exact leT_refl _
    · subst e
      exact not_less fun h2 => h1 ⟨km, h2⟩
theorem downL_perm : ∀ (f : Nat) (l : List Tm) (i m : Nat), m ≤ l.length → (downL f l i m).1.Perm l
  | 0, l, _, _, _ => .refl l
  | f + 1, l, i, m, h => by
    unfold downL
    split
    · exact .refl l
    · rename_i h1
      have hk := kidL_in (l := l) h1
      split
      · exact (downL_perm f _ _ m (by rw [swapL_len]; exact h)).trans (swap_perm l _ _ (by omega) (by omega))
      · exact .refl l
theorem downL_keep : ∀ (f : Nat) (l : List Tm) (i m k : Nat), m ≤ l.length → m ≤ k → gT (downL f l i m).1 k = gT l k
  | 0, _, _, _, _, _, _ => rfl
  | f + 1, l, i, m, k, h, hk => by
    unfold downL
    split
    · rfl
    · rename_i h1
      have hj := kidL_in (l := l) h1
      split
      · rw [downL_keep f _ _ m k (by rw [swapL_len]; exact h) hk, gT_swap l _ _ _ (by omega) (by omega), if_neg (by omega), if_neg (by omega)]
      · rfl
theorem downL_le : ∀ (f : Nat) (l : List Tm) (i m : Nat), i ≤ (downL f l i m).2
  | 0, _, _, _ => Nat.le_refl _
  | f + 1, l, i, m => by
    unfold downL
    split
    · exact Nat.le_refl _
    · rename_i h1
      have hj := kidL_in (l := l) h1
      split
      · have := downL_le f (swapL l i (kidL l i m)) (kidL l i m) m
        omega
      · exact Nat.le_refl _
theorem hole_down {m i : Nat} {l : List Tm} (hml : m ≤ l.length) (h1 : ¬ m ≤ 2 * i + 1) (H : Hole m l i) (hl : lessT (gT l (kidL l i m)) (gT l i) = true) : Hole m (swapL l i (kidL l i m)) (kidL l i m) ∧ leT (gT (swapL l i (kidL l i m)) ((kidL l i m - 1) / 2)) (gT (swapL l i (kidL l i m)) (kidL l i m)) := by
  have hj := kidL_in (l := l) h1
  have hmin := fun k => kidL_least (l := l) (k := k) h1
  generalize kidL l i m = j at *
  have G := fun k => gT_swap l i j k (by omega) (by omega)
  refine ⟨⟨?_, ?_⟩, ?_⟩
  · intro k k0 km kj hk
    rw [G, G, if_neg hk, if_neg kj]
    by_cases h2 : k = i
    · subst h2
      rw [if_neg (show ¬ (k - 1) / 2 = k by omega), if_pos rfl]
      exact H.over j (by omega) hj.1 hj.2.2 k0
    rw [if_neg h2]
    by_cases h3 : (k - 1) / 2 = i
    · rw [if_pos h3]; exact hmin k k0 km h3
    · rw [if_neg h3]; exact H.all k k0 km h2 h3
  · intro k k0 km hk j0
    rw [G, G, if_neg (by omega), if_pos hj.2.2, if_neg (by omega), if_neg (by omega)]
    have := H.all k k0 km (by omega) (by omega)
    rw [hk] at this
    exact this
  · rw [G, G, if_neg (by omega), if_pos hj.2.2, if_pos rfl]
    exact less_le hl
theorem downL_ok : ∀ (f m : Nat) (l : List Tm) (i : Nat), m < i + f → m ≤ l.length → Hole m l i → (i < m → 0 < i → leT (gT l ((i - 1) / 2)) (gT l i)) → Hp m (downL f l i m).1
  | 0, m, l, i, hf, hml, H, hc => by
    unfold downL
    intro k k0 km
    exact H.all k k0 km (by omega) (by omega)
  | f + 1, m, l, i, hf, hml, H, hc => by
    unfold downL
    by_cases h1 : m ≤ 2 * i + 1
    · rw [if_pos h1]
      intro k k0 km
      by_cases h2 : k = i
      · subst h2; exact hc km k0
      · exact H.all k k0 km h2 (by omega)
    rw [if_neg h1]
    have hj := kidL_in (l := l) h1
    by_cases hl : lessT (l.getD (kidL l i m) default) (l.getD i default) = true
    · rw [if_pos hl]
      obtain ⟨a1, a2⟩ := hole_down hml h1 H hl
      exact downL_ok f m _ _ (by omega) (by rw [swapL_len]; exact hml) a1 (fun _ _ => a2)
    · rw [if_neg hl]
      intro k k0 km
      by_cases h2 : k = i
      · subst h2; exact hc km k0
      by_cases h3 : (k - 1) / 2 = i
      · rw [h3]; exact leTt (not_less hl) (kidL_least h1 k0 km h3)
      · exact H.all k k0 km h2 h3
/-- It sinks, or all under it may stay. -/
theorem downL_or {m i : Nat} {f : Nat} {l : List Tm} (hf : m < i + (f + 1)) (hml : m ≤ l.length) (H : Hole m l i) :
    if i < (downL (f + 1) l i m).2 then Hp m (downL (f + 1) l i m).1 else (downL (f + 1) l i m).1 = l ∧ ∀ k, 0 < k → k < m → (k - 1) / 2 = i → leT (gT l i) (gT l k) := by
  unfold downL
  by_cases h1 : m ≤ 2 * i + 1
  · rw [if_pos h1, if_neg (Nat.lt_irrefl i)]
    exact ⟨rfl, fun k k0 km hk => by omega⟩
  rw [if_neg h1]
  have hj := kidL_in (l := l) h1
  by_cases hl : lessT (l.getD (kidL l i m) default) (l.getD i default) = true
  · rw [if_pos hl]
    obtain ⟨a1, a2⟩ := hole_down hml h1 H hl
    rw [if_pos (Nat.lt_of_lt_of_le hj.2.1 (downL_le _ _ _ _))]
    exact downL_ok f m _ _ (by omega) (by rw [swapL_len]; exact hml) a1 (fun _ _ => a2)
  · rw [if_neg hl, if_neg (Nat.lt_irrefl i)]
    exact ⟨rfl, fun k k0 km hk => leTt (not_less hl) (kidL_least h1 k0 km hk)⟩
end Go.Proofs.Yteladooegjgdnaa
