/- The table, plainly: what a root's drop leaves; the rows held against who was forked from whom. -/
import Derived.Test.YthbkbmkcgpdedaaWakeLaw2
namespace Go.Proofs.Ythbkbmkcgpdedaa
open Go.RowKit Go.Lib

theorem list_size (s : ByteArray) : s.data.toList.length = s.size := Array.length_toList
theorem parS_list {s : ByteArray} (h : parB s = true) : (parS s).data.toList = s.data.toList.take (s.size - 1) := by
  unfold parS
  rw [if_pos h]
  simp [ByteArray.data_extract]
  rw [List.dropLast_eq_take, list_size]
theorem mayS_par {s : ByteArray} (h : mayS s = true) (hp : parB s = true) : mayS (parS s) = true := by
  unfold mayS mayL at *
  rw [parS_list hp]
  simp only [Bool.and_eq_true, decide_eq_true_eq, Bool.not_eq_true'] at h ⊢
  refine ⟨by rw [List.length_take]; omega, ?_⟩
  rw [List.any_eq_false] at h ⊢
  exact fun x hx => h.2 x (List.mem_of_mem_take hx)
theorem under_iff (s r : ByteArray) : underS s r = true ↔ mayS s = true ∧ mayS r = true ∧ r.data.toList <+: s.data.toList := by
  unfold underS
  rw [Bool.and_eq_true, Bool.and_eq_true, prefS_iff, and_assoc]
theorem under_up {s r : ByteArray} (h : underS s r = true) (hne : s ≠ r) (hp : parB s = true) : underS (parS s) r = true := by
  obtain ⟨h1, h2, h3⟩ := (under_iff s r).1 h
  refine (under_iff _ _).2 ⟨mayS_par h1 hp, h2, ?_⟩
  rw [parS_list hp]
  have hl : r.data.toList.length < s.data.toList.length := by
    rcases Nat.lt_or_ge r.data.toList.length s.data.toList.length with h | h
    · exact h
    · exact absurd (ba_eqP (h3.eq_of_length (Nat.le_antisymm h3.length_le h))).symm hne
  refine List.prefix_of_prefix_length_le h3 (List.take_prefix _ _) ?_
  rw [List.length_take, ← list_size]; omega
theorem under_down {s r : ByteArray} (hm : mayS s = true) (hp : parB s = true) (h : underS (parS s) r = true) : underS s r = true := by
  obtain ⟨_, h2, h3⟩ := (under_iff _ r).1 h
  refine (under_iff _ _).2 ⟨hm, h2, h3.trans ?_⟩
  rw [parS_list hp]
  exact List.take_prefix _ _
theorem bad_up {root n : Nm} (h : badN root n = true) (hne : n ≠ root) (hp : parB n.2 = true) : badN root (par n) = true := by
  unfold badN at h ⊢
  rw [Bool.and_eq_true] at h ⊢
  refine ⟨h.1, under_up h.2 (fun e => hne (Prod.ext (by simpa using h.1) e)) hp⟩
theorem bad_down {root n : Nm} (hm : mayS n.2 = true) (hp : parB n.2 = true) (h : badN root (par n) = true) : badN root n = true := by
  unfold badN at h ⊢
  rw [Bool.and_eq_true] at h ⊢
  exact ⟨h.1, under_down hm hp h.2⟩
theorem count_only (g : Nm × Nat × Rw → Bool) (root : Nm) : ∀ {T : Tb}, (T.map (·.1)).Nodup → (∀ z ∈ T, g z = true → z.1 = root) → T.countP g = match getL T root with
    | some v => (g (root, v)).toNat
    | none => 0
  | [], _, _ => rfl
  | z :: T, hn, h => by
    rw [List.map_cons, List.nodup_cons] at hn
    have ih := count_only g root hn.2 (fun y hy => h y (by simp [hy]))
    rw [List.countP_cons]
    by_cases e : z.1 = root
    · have h0 : getL (z :: T) root = some z.2 := by unfold getL; rw [List.find?_cons_of_pos (by simp [e])]; rfl
      have h1 : getL T root = none := getL_noneV fun p hp he => hn.1 (List.mem_map.2 ⟨p, hp, by rw [he, e]⟩)
      have h2 : (root, z.2) = z := Prod.ext e.symm rfl
      rw [h1] at ih
      rw [h0, ih]
      simp only [h2]
      cases g z <;> rfl
    · have h0 : getL (z :: T) root = getL T root := by unfold getL; rw [List.find?_cons_of_neg (by simp [e])]
      have h1 : g z = false := by
        cases hg : g z
        · rfl
        · exact absurd (h z (by simp) hg) e
      rw [h0, ih, h1]
      simp
theorem countP_split {α : Type} (f g : α → Bool) : ∀ l : List α, l.countP f = l.countP (fun x => f x && !g x) + l.countP (fun x => f x && g x)
  | [] => rfl
  | x :: l => by
    have := countP_split f g l
    rw [List.countP_cons, List.countP_cons, List.countP_cons]
    cases f x <;> cases g x <;> simp <;> omega
/-- Of a root's drop a name that is left loses the root alone. -/
theorem kids_drop {T : Tb} (hn : (T.map (·.1)).Nodup) (hup : ∀ p ∈ T, p.2.2.fk = true → parB p.1.2 = true) {root a : Nm} (ha : badN root a = false) : kidsN T a = kidsN (T.filter (fun p => !badN root p.1)) a + match getL T root with
    | some v => (isKid a (root, v) && badN root root).toNat
    | none => 0 := by
  have h := countP_split (isKid a) (fun p => badN root p.1) T
  have h2 := count_only (fun p => isKid a p && badN root p.1) root hn (fun z hz hg => by
    rw [Bool.and_eq_true] at hg
    by_cases e : z.1 = root
    · exact e
    · exfalso
      have hk := hg.1
      unfold isKid at hk
      simp only [Bool.and_eq_true, decide_eq_true_eq] at hk
      have := bad_up hg.2 e (hup z hz hk.1.1)
      rw [hk.2, ha] at this
      cases this)
  unfold kidsN
  rw [h, h2, List.countP_filter]
theorem dropT1_mem {T : Tb} (h : Ok T) {root : Nm} {p : Nm × Nat × Rw} (hp : p ∈ dropT1 T root) : ∃ r0, (p.1, p.2.1, r0) ∈ T ∧ p.2.2.fk = r0.fk ∧ p.2.2.st = r0.st ∧ p.2.2.args = r0.args := by
  unfold dropT1 at hp
  cases hg : getL T root with
  | none => rw [hg] at hp; exact ⟨_, hp, rfl, rfl, rfl⟩
  | some br =>
    obtain ⟨b, r⟩ := br
    rw [hg] at hp
    simp only at hp
    by_cases hc : r.fk = true ∧ r.st ≠ 6
    · rw [if_pos hc] at hp
      unfold decT at hp
      obtain ⟨_, pb, q, hpg, _⟩ := h.pars hg hc.1 hc.2
      rw [show getL T (root.1, parS root.2) = some (pb, q) from hpg] at hp
      simp only at hp
      rcases updT_mem h.nd hpg hp with rfl | ⟨hp, _⟩
      · exact ⟨q, getT_mem hpg, rfl, rfl, rfl⟩
      · exact ⟨_, hp, rfl, rfl, rfl⟩
    · rw [if_neg hc] at hp
      exact ⟨_, hp, rfl, rfl, rfl⟩
theorem dropT1_keys (T : Tb) (root : Nm) : (dropT1 T root).map (·.1) = T.map (·.1) := by
  unfold dropT1
  split
  · split
    · unfold decT
      split
      · exact updT_keys _ _ _
      · rfl
    · rfl
  · rfl
theorem dropT1_get {T : Tb} (h : Ok T) {root : Nm} (_hr : root ∈ T.map (·.1) → True) : ∀ b r, getL T root = some (b, r) → getL (dropT1 T root) root = some (b, r) := by
  intro b r hg
  unfold dropT1
  rw [hg]
  simp only
  by_cases hc : r.fk = true ∧ r.st ≠ 6
  · rw [if_pos hc]
    unfold decT
    obtain ⟨hne, pb, q, hpg, _⟩ := h.pars hg hc.1 hc.2
    rw [show getL T (root.1, parS root.2) = some (pb, q) from hpg]
    simp only
    exact (getL_upd_ne (show root ≠ (root.1, parS root.2) from fun e => hne (congrArg Prod.snd e).symm)).trans hg
  · rw [if_neg hc]; exact hg
/-- The count of a row that is left, behind the drop's first step. -/
theorem dropT1_op {T : Tb} (h : Ok T) {root : Nm} (hbr : badN root root = true) {p : Nm × Nat × Rw} (hp : p ∈ dropT1 T root) (ha : badN root p.1 = false) : p.2.2.op = (kidsN ((dropT1 T root).filter (fun p => !badN root p.1)) p.1 : Int) := by
  have hk1 : ∀ a, kidsN (dropT1 T root) a = kidsN T a := fun a => by
    unfold dropT1
    cases hg : getL T root with
    | none => rfl
    | some br =>
      obtain ⟨b, r⟩ := br
      simp only
      by_cases hc : r.fk = true ∧ r.st ≠ 6
      · rw [if_pos hc]
        unfold decT
        obtain ⟨_, pb, q, hpg, _⟩ := h.pars hg hc.1 hc.2
        rw [show getL T (root.1, parS root.2) = some (pb, q) from hpg]
        simp only
        have c1 := count_upd (isKid a) (r' := { q with op := q.op - 1 }) h.nd hpg
        have e : isKid a (par root, pb, { q with op := q.op - 1 }) = isKid a (par root, pb, q) := rfl
        rw [e] at c1
        have c2 : List.countP (isKid a) (updT T (root.1, parS root.2) { q with op := q.op - 1 }) = List.countP (isKid a) (updT T (par root) { q with op := q.op - 1 }) := rfl
        unfold kidsN
        omega
      · rw [if_neg hc]
  have hsp := kids_drop (T := dropT1 T root) (by rw [dropT1_keys]; exact h.nd) (fun z hz hf => by
    obtain ⟨r0, hr0, e1, _⟩ := dropT1_mem h hz
    exact (h.up _ hr0 (e1 ▸ hf)).1) ha
  rw [hk1] at hsp
  cases hg : getL T root with
  | none =>
    have e1 : dropT1 T root = T := by unfold dropT1; rw [hg]
    rw [e1] at hsp hp ⊢
    rw [hg] at hsp
    simp only at hsp
    have := h.op p hp
    omega
  | some br =>
    obtain ⟨b, r⟩ := br
    rw [dropT1_get h (fun _ => trivial) b r hg] at hsp
    simp only at hsp
    by_cases hc : r.fk = true ∧ r.st ≠ 6
    · obtain ⟨_, pb, q, hpg, hq1, _⟩ := h.pars hg hc.1 hc.2
      have e1 := dropT1_dec hg hc.1 hc.2 hpg
      have e2 : isKid p.1 (root, b, r) = decide (par root = p.1) := by unfold isKid; simp [hc.1, hc.2]
      rw [e2, hbr, Bool.and_true] at hsp
      rw [e1] at hp
      rcases updT_mem h.nd hpg hp with hpe | ⟨hp, hne⟩
      · have hpo : p.2.2.op = q.op - 1 := by rw [hpe]
        have hp1 : p.1 = par root := by rw [hpe]
        have h3 := h.op _ (getT_mem hpg)
        simp only at h3
        rw [hp1] at hsp ⊢
        have e3 : (decide (par root = par root)).toNat = 1 := by simp
        rw [e3] at hsp
        rw [hpo, h3]
        have : ((kidsN T (par root) : Nat) : Int) = (kidsN ((dropT1 T root).filter (fun p => !badN root p.1)) (par root) : Nat) + 1 := by omega
        rw [show ((root.1, parS root.2) : Nm) = par root from rfl] at *
        omega
      · rw [decide_eq_false (fun e => hne e.symm)] at hsp
        have := h.op p hp
        simp only [Bool.toNat_false] at hsp
        omega
    · have e1 : dropT1 T root = T := dropT1_same (fun b' r' h' => by rw [hg] at h'; injection h' with h'; injection h' with _ h'; subst h'; exact hc)
      have e2 : isKid p.1 (root, b, r) = false := by
        unfold isKid
        cases hf : r.fk
        · rfl
        · have : r.st = 6 := by
            by_cases h6 : r.st = 6
            · exact h6
            · exact absurd ⟨hf, h6⟩ hc
          simp [this]
      rw [e2] at hsp
      rw [e1] at hp
      have := h.op p hp
      simp only [Bool.false_and, Bool.toNat_false] at hsp
      omega
theorem Ok.drop {T : Tb} (h : Ok T) (root : Nm) : Ok (dropT T root) := by
  by_cases hm : mayS root.2 = true
  · rw [dropT_yes hm]
    have hbr : badN root root = true := by
      unfold badN
      rw [(under_iff _ _).2 ⟨hm, hm, List.prefix_refl _⟩]
      simp
    have hmem : ∀ p ∈ (dropT1 T root).filter (fun p => !badN root p.1), p ∈ dropT1 T root ∧ badN root p.1 = false := fun p hp => by
      have := List.mem_filter.1 hp
      exact ⟨this.1, by simpa using this.2⟩
    refine ⟨?_, fun p hp => ?_, fun p hp hf => ?_, fun p hp => ?_, fun p hp => ?_⟩
    · have : ((dropT1 T root).map (·.1)).Nodup := by rw [dropT1_keys]; exact h.nd
      exact this.sublist (List.Sublist.map _ List.filter_sublist)
    · obtain ⟨r0, hr0, _⟩ := dropT1_mem h (hmem p hp).1
      exact (show mayS p.1.2 = true from h.may (p.1, p.2.1, r0) hr0)
    · obtain ⟨r0, hr0, e1, _⟩ := dropT1_mem h (hmem p hp).1
      obtain ⟨h1, z, hz, he⟩ := h.up _ hr0 (e1 ▸ hf)
      refine ⟨h1, ?_⟩
      have hz1 : z.1 ∈ (dropT1 T root).map (·.1) := by rw [dropT1_keys]; exact List.mem_map.2 ⟨z, hz, rfl⟩
      obtain ⟨z', hz', hze⟩ := List.mem_map.1 hz1
      refine ⟨z', List.mem_filter.2 ⟨hz', ?_⟩, hze.trans he⟩
      rw [hze, he]
      cases hb : badN root (par p.1)
      · rfl
      · have := bad_down (h.may _ hr0) h1 hb
        rw [(hmem p hp).2] at this; cases this
    · exact dropT1_op h hbr (hmem p hp).1 (hmem p hp).2
    · obtain ⟨r0, hr0, _, _, e⟩ := dropT1_mem h (hmem p hp).1
      rw [e]; exact h.args _ hr0
  · rw [dropT_no (by simpa using hm)]; exact h
end Go.Proofs.Ythbkbmkcgpdedaa
