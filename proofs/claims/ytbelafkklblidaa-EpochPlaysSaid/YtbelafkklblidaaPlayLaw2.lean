/- The plain law of EpochPlays: who owns a name. -/
import Derived.Test.YtbelafkklblidaaPlayLaw22
namespace Go.Proofs.Ytbelafkklblidaa

def Und (n : Nm) (p : Gr) : Prop := p.1.1 = n.1 ∧ underS n.2 p.1.2 = true
structure FS (n : Nm) (seen : List Gr) (o : Option Gr) : Prop where
  no : o = none → ∀ p ∈ seen, ¬ Und n p
  yes : ∀ g, o = some g → g ∈ seen ∧ Und n g ∧ ∀ p ∈ seen, Und n p → p.1.2.size ≤ g.1.2.size
theorem FS.step {n : Nm} {seen : List Gr} {o : Option Gr} (h : FS n seen o) (g : Gr) : FS n (seen ++ [g]) (stepO n o g) := by
  unfold stepO
  by_cases hu : Und n g
  · have h1 : (decide (g.1.1 = n.1) && underS n.2 g.1.2) = true := by rw [hu.2, decide_eq_true hu.1]; rfl
    rw [h1, Bool.true_and]
    cases o with
    | none =>
      refine ⟨by simp, fun x hx => ?_⟩
      simp at hx; subst hx
      refine ⟨by simp, hu, fun p hp hpu => ?_⟩
      rw [List.mem_append] at hp
      rcases hp with hp | hp
      · exact absurd hpu (h.no rfl p hp)
      · simp at hp; subst hp; exact Nat.le_refl _
    | some x =>
      obtain ⟨hx1, hx2, hx3⟩ := h.yes x rfl
      by_cases hlt : x.1.2.size < g.1.2.size
      · have e : (if (Option.all (fun x => decide (x.1.2.size < g.1.2.size)) (some x)) = true then some g else some x) = some g := if_pos (by simp [hlt])
        rw [e]
        refine ⟨by simp, fun y hy => ?_⟩
        injection hy with hy; subst hy
        refine ⟨by simp, hu, fun p hp hpu => ?_⟩
        rw [List.mem_append] at hp
        rcases hp with hp | hp
        · exact Nat.le_trans (hx3 p hp hpu) (Nat.le_of_lt hlt)
        · simp at hp; subst hp; exact Nat.le_refl _
      · have e : (if (Option.all (fun x => decide (x.1.2.size < g.1.2.size)) (some x)) = true then some g else some x) = some x := if_neg (by simp only [Option.all_some, decide_eq_true_eq]; exact hlt)
        rw [e]
        refine ⟨by simp, fun y hy => ?_⟩
        injection hy with hy; subst hy
        refine ⟨List.mem_append_left _ hx1, hx2, fun p hp hpu => ?_⟩
        rw [List.mem_append] at hp
        rcases hp with hp | hp
        · exact hx3 p hp hpu
        · simp at hp; subst hp; omega
  · have h1 : (decide (g.1.1 = n.1) && underS n.2 g.1.2) = false := by
      cases h2 : underS n.2 g.1.2
      · simp
      · by_cases h3 : g.1.1 = n.1
        · exact absurd ⟨h3, h2⟩ hu
        · simp [h3]
    rw [h1, Bool.false_and, if_neg (by simp)]
    refine ⟨fun ho p hp => ?_, fun x hx => ?_⟩
    · rw [List.mem_append] at hp
      rcases hp with hp | hp
      · exact h.no ho p hp
      · simp at hp; subst hp; exact hu
    · obtain ⟨hx1, hx2, hx3⟩ := h.yes x hx
      refine ⟨List.mem_append_left _ hx1, hx2, fun p hp hpu => ?_⟩
      rw [List.mem_append] at hp
      rcases hp with hp | hp
      · exact hx3 p hp hpu
      · simp at hp; subst hp; exact absurd hpu hu
theorem FS.fold {n : Nm} : ∀ (l : List Gr) {seen : List Gr} {o : Option Gr}, FS n seen o → FS n (seen ++ l) (l.foldl (stepO n) o)
  | [], _, _, h => by simpa using h
  | g :: l, seen, o, h => by
    have := FS.fold l (h.step g)
    rw [List.append_assoc] at this
    exact this
theorem FS.all (n : Nm) (l : List Gr) : FS n l (l.foldl (stepO n) none) := by
  have := FS.fold l (n := n) (seen := []) (o := none) ⟨by simp, by simp⟩
  simpa using this

theorem ownAt_spec {L : List Gr} {n : Nm} : ∀ k, (ownAt L n k = none → ∀ i, i ≤ k → ¬ 0 < valU L (n.1, cutP n.2 i)) ∧
    (∀ g, ownAt L n k = some g → ∃ j, j ≤ k ∧ g = ((n.1, cutP n.2 j), valU L (n.1, cutP n.2 j)) ∧ 0 < valU L (n.1, cutP n.2 j) ∧ ∀ i, j < i → i ≤ k → ¬ 0 < valU L (n.1, cutP n.2 i))
  | 0 => by
    by_cases h : 0 < valU L (n.1, cutP n.2 0)
    · rw [ownAt_hit h]
      exact ⟨by simp, fun g hg => ⟨0, Nat.le_refl _, by injection hg with hg; exact hg.symm, h, fun i h1 h2 => by omega⟩⟩
    · rw [ownAt_none h]
      exact ⟨fun _ i hi => by obtain rfl : i = 0 := by omega
                              exact h, by simp⟩
  | k + 1 => by
    obtain ⟨i1, i2⟩ := ownAt_spec (L := L) (n := n) k
    by_cases h : 0 < valU L (n.1, cutP n.2 (k + 1))
    · rw [ownAt_hit h]
      exact ⟨by simp, fun g hg => ⟨k + 1, Nat.le_refl _, by injection hg with hg; exact hg.symm, h, fun i h1 h2 => by omega⟩⟩
    · rw [ownAt_miss h]
      refine ⟨fun ho i hi => ?_, fun g hg => ?_⟩
      · rcases Nat.lt_or_ge i (k + 1) with hlt | hge
        · exact i1 ho i (by omega)
        · obtain rfl : i = k + 1 := by omega
          exact h
      · obtain ⟨j, h1, h2, h3, h4⟩ := i2 g hg
        refine ⟨j, by omega, h2, h3, fun i hi1 hi2 => ?_⟩
        rcases Nat.lt_or_ge i (k + 1) with hlt | hge
        · exact h4 i hi1 (by omega)
        · obtain rfl : i = k + 1 := by omega
          exact h

theorem Und.cut {n : Nm} {p : Gr} (h : Und n p) : p.1.2.size ≤ n.2.size ∧ p.1 = (n.1, cutP n.2 p.1.2.size) := by
  obtain ⟨h1, h2⟩ := h
  unfold underS at h2
  rw [Bool.and_eq_true, Bool.and_eq_true] at h2
  have hp := (prefS_iff n.2 p.1.2).1 h2.2
  have hl := hp.length_le
  have e1 : p.1.2.data.toList.length = p.1.2.size := by simp
  have e2 : n.2.data.toList.length = n.2.size := by simp
  refine ⟨by omega, Prod.ext h1 ?_⟩
  apply ba_eqP
  unfold cutP
  rw [← e1]
  simpa using (List.prefix_iff_eq_take.1 hp)
theorem und_cut {n : Nm} (hm : mayS n.2 = true) (j : Nat) (v : Int) : Und n ((n.1, cutP n.2 j), v) := by
  refine ⟨rfl, ?_⟩
  unfold underS
  rw [Bool.and_eq_true, Bool.and_eq_true]
  refine ⟨⟨hm, cutP_may hm j⟩, (prefS_iff _ _).2 ?_⟩
  unfold cutP
  simpa using List.take_prefix j n.2.data.toList

theorem Rl.own {L R : List Gr} (h : Rl L R) (lo : ∀ p ∈ L, 1 ≤ p.2) (n : Nm) : ownR R n = ownG L n := by
  unfold ownR ownG
  cases hm : mayS n.2
  · simp
  · simp only [if_true]
    have hF := FS.all n R
    obtain ⟨o1, o2⟩ := ownAt_spec (L := L) (n := n) n.2.size
    cases ho : R.foldl (stepO n) none with
    | none =>
      cases hg : ownAt L n n.2.size with
      | none => rfl
      | some g =>
        obtain ⟨j, h1, rfl, h3, _⟩ := o2 g hg
        exact absurd (und_cut hm j _) (hF.no ho _ (h.perm.mem_iff.2 (valU_mem h3)))
    | some g =>
      obtain ⟨g1, g2, g3⟩ := hF.yes g ho
      have gL := h.perm.mem_iff.1 g1
      obtain ⟨c1, c2⟩ := g2.cut
      have hv := (valU_pos h.nd lo gL).2
      rw [c2] at hv
      cases hg : ownAt L n n.2.size with
      | none => exact absurd hv (o1 hg _ c1)
      | some g' =>
        obtain ⟨j, h1, h2, h3, h4⟩ := o2 g' hg
        have hj1 : ¬ j < g.1.2.size := fun hlt => h4 _ hlt c1 hv
        have hmem : ((n.1, cutP n.2 j), valU L (n.1, cutP n.2 j)) ∈ L := valU_mem h3
        have hj2 := g3 _ (h.perm.mem_iff.2 hmem) (und_cut hm j _)
        simp only [cutP_size n.2 j h1] at hj2
        have hj : j = g.1.2.size := by omega
        subst hj
        rw [h2]
        congr 1
        exact eq_of_key h.nd gL hmem c2
theorem Rl.allow {L R : List Gr} (h : Rl L R) (lo : ∀ p ∈ L, 1 ≤ p.2) (n : Nm) (x : Int) : rallowE R n x = allowE L n x := by
  unfold rallowE allowE; rw [h.own lo]
  split
  · rfl
  · cases ownG L n <;> rfl
end Go.Proofs.Ytbelafkklblidaa
