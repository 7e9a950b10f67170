/- The plain law of EpochPlays: a sorted list answers as the map does. -/
import Derived.Test.YtbelafkklblidaaRefE5
import Derived.Test.YtbelafkklblidaaRefE8
import Derived.Test.YtbelafkklblidaaPlain12
namespace Go.Proofs.Ytbelafkklblidaa

theorem cmpN_eq (a b : Gr) : cmpN a.1 b.1 = cmpG a b := by
  unfold cmpN cmpG orI cmpU
  by_cases h : a.1.1 = b.1.1
  · simp [h]
  · by_cases h2 : a.1.1 < b.1.1
    · simp [h, h2]
    · have h3 : b.1.1 < a.1.1 := by omega
      simp [h, h2, h3]

/-- R: the grants of L, in order. -/
structure Rl (L R : List Gr) : Prop where
  nd : (L.map (·.1)).Nodup
  perm : R.Perm L
  sorted : R.Pairwise (fun a b => leG a b = true)
theorem Rl.nil : Rl [] [] := ⟨List.nodup_nil, List.Perm.refl _, List.Pairwise.nil⟩
section
variable {L R : List Gr} (h : Rl L R)
include h
theorem Rl.ndR : (R.map (·.1)).Nodup := (h.perm.map _).nodup_iff.2 h.nd
theorem Rl.eq : sortG L = R := sortG_unique h.nd h.perm h.sorted
theorem Rl.len : R.length = L.length := h.perm.length_eq
theorem Rl.idx (n : Nm) : idxG R n < R.length ↔ ∃ p ∈ L, p.1 = n := by
  rw [idxG_lt]
  exact ⟨fun ⟨p, hp, e⟩ => ⟨p, h.perm.mem_iff.1 hp, e⟩, fun ⟨p, hp, e⟩ => ⟨p, h.perm.mem_iff.2 hp, e⟩⟩
end
theorem valU_zero {L : List Gr} (hn : (L.map (·.1)).Nodup) (lo : ∀ p ∈ L, 1 ≤ p.2) (n : Nm) : valU L n = 0 ↔ ¬ ∃ p ∈ L, p.1 = n := by
  constructor
  · rintro h ⟨p, hp, rfl⟩
    have h1 := (getL_mem hn p.1 p.2).2 hp
    unfold valU at h; rw [h1] at h
    have := lo p hp
    simp at h; omega
  · intro h
    unfold valU
    cases hg : getL L n with
    | none => rfl
    | some v => exact absurd ⟨(n, v), (getL_mem hn n v).1 hg, rfl⟩ h
theorem valU_pos {L : List Gr} (hn : (L.map (·.1)).Nodup) (lo : ∀ p ∈ L, 1 ≤ p.2) {p : Gr} (hp : p ∈ L) : valU L p.1 = p.2 ∧ 0 < valU L p.1 := by
  have h1 := (getL_mem hn p.1 p.2).2 hp
  have h2 : valU L p.1 = p.2 := by unfold valU; rw [h1]; rfl
  have := lo p hp
  exact ⟨h2, by omega⟩

theorem Rl.grantE {L R : List Gr} (h : Rl L R) (lo : ∀ p ∈ L, 1 ≤ p.2) (last : Int) (n : Nm) : rgE R last n = grantE L last n := by
  have h1 := h.idx n
  have h2 := valU_zero h.nd lo n
  unfold rgE Go.Proofs.Ytbelafkklblidaa.grantE
  have h3 : (¬ idxG R n < R.length ∧ 1024 ≤ R.length) ↔ (valU L n = 0 ∧ 1024 ≤ L.length) := by rw [h1, h2, h.len]
  by_cases h4 : valU L n = 0 ∧ 1024 ≤ L.length
  · rw [if_pos h4, if_pos (h3.2 h4)]
  · rw [if_neg h4, if_neg (fun e => h4 (h3.1 e))]

theorem takeR_eq {R : List Gr} (hn : (R.map (·.1)).Nodup) (n : Nm) : takeR R n = delL R n := by
  unfold takeR delL
  split
  · rename_i hi
    have hk : R[idxG R n].1 = n := by
      have := List.findIdx_getElem (w := hi)
      exact of_decide_eq_true this
    have hlo : ∀ p ∈ R.take (idxG R n), ¬ p.1 = n := by
      intro p hp e
      obtain ⟨j, hj, rfl⟩ := List.getElem_of_mem hp
      rw [List.getElem_take] at e
      have hj2 : j < idxG R n := by rw [List.length_take] at hj; omega
      have := List.not_of_lt_findIdx hj2
      simp only [decide_eq_false_iff_not] at this
      exact this e
    have hsplit : R = R.take (idxG R n) ++ R[idxG R n] :: R.drop (idxG R n + 1) := by
      rw [← List.drop_eq_getElem_cons hi, List.take_append_drop]
    have hhi : ∀ p ∈ R.drop (idxG R n + 1), ¬ p.1 = n := by
      intro p hp e
      rw [hsplit, List.map_append, List.map_cons, List.nodup_append, List.nodup_cons] at hn
      exact hn.2.1.1 (List.mem_map.2 ⟨p, hp, by rw [e, hk]⟩)
    conv => rhs; rw [hsplit]
    rw [List.filter_append, List.filter_cons, if_neg (by simp [hk])]
    rw [List.filter_eq_self.2 (fun p hp => by simpa using hlo p hp), List.filter_eq_self.2 (fun p hp => by simpa using hhi p hp)]
  · rename_i hi
    rw [idxG_lt] at hi
    exact (List.filter_eq_self.2 (fun p hp => by simpa using fun e => hi ⟨p, hp, e⟩)).symm

theorem Rl.filter {L R : List Gr} (h : Rl L R) (f : Gr → Bool) : Rl (L.filter f) (R.filter f) :=
  ⟨List.Nodup.sublist (List.Sublist.map _ List.filter_sublist) h.nd, h.perm.filter f, h.sorted.sublist List.filter_sublist⟩
theorem Rl.drop {L R : List Gr} (h : Rl L R) (j : Int) : Rl (dropL L j) (dropL R j) := h.filter _
theorem Rl.del {L R : List Gr} (h : Rl L R) (n : Nm) : Rl (delL L n) (takeR R n) := by rw [takeR_eq h.ndR]; exact h.filter _
theorem Rl.take {L R : List Gr} (h : Rl L R) (lo : ∀ p ∈ L, 1 ≤ p.2) (n : Nm) : Rl (takeL L n) (takeR R n) := by
  unfold takeL
  split
  · rename_i hz
    rw [takeR_none (by rw [h.idx, ← valU_zero h.nd lo]; exact hz)]; exact h
  · exact h.del n
theorem Rl.takeE {L R : List Gr} (h : Rl L R) (lo : ∀ p ∈ L, 1 ≤ p.2) (n : Nm) : takeRE R n = takeErr L n := by
  unfold takeRE takeErr
  have h1 := h.idx n
  have h2 := valU_zero h.nd lo n
  by_cases hz : valU L n = 0
  · rw [if_pos hz, if_neg (by rw [h1]; exact h2.1 hz)]
  · rw [if_neg hz, if_pos (by rw [h1]; exact Classical.byContradiction fun e => hz (h2.2 e))]

theorem insG_sorted {l : List Gr} {g : Gr} (hs : l.Pairwise (fun a b => leG a b = true)) : (insG l g).Pairwise (fun a b => leG a b = true) := by
  unfold insG
  have hsplit := List.takeWhile_append_dropWhile (p := belowG g) (l := l)
  have hs2 := hs
  rw [← hsplit, List.pairwise_append] at hs2
  have hlo : ∀ a ∈ l.takeWhile (belowG g), cmpG a g < 0 := by
    intro a ha
    have := List.all_takeWhile (p := belowG g) (l := l)
    have := List.all_eq_true.1 this a ha
    unfold belowG at this
    rw [← cmpN_eq]; simpa using this
  have hhi : ∀ b ∈ l.dropWhile (belowG g), cmpG g b ≤ 0 := by
    intro b hb
    cases hd : l.dropWhile (belowG g) with
    | nil => rw [hd] at hb; cases hb
    | cons b0 t =>
      have h0 : belowG g b0 = false := by
        have := List.head?_dropWhile_not (p := belowG g) (l := l)
        rw [hd] at this
        simpa using this
      have h1 : cmpG g b0 ≤ 0 := by
        unfold belowG at h0
        rw [cmpN_eq] at h0
        rw [cmpG_neg]
        simp at h0; omega
      rw [hd] at hb hs2
      rcases List.mem_cons.1 hb with rfl | hb
      · exact h1
      · have := (List.pairwise_cons.1 hs2.2.1).1 b hb
        rw [leG_iff] at this
        exact cmpG_trans h1 this
  rw [List.pairwise_append]
  refine ⟨hs2.1, List.pairwise_cons.2 ⟨fun b hb => (leG_iff _ _).2 (hhi b hb), hs2.2.1⟩, ?_⟩
  intro a ha b hb
  rcases List.mem_cons.1 hb with rfl | hb
  · exact (leG_iff _ _).2 (Int.le_of_lt (hlo a ha))
  · exact hs2.2.2 a ha b hb

theorem putL_nodup {l : List Gr} (hn : (l.map (·.1)).Nodup) (n : Nm) (v : Int) : ((putL l n v).map (·.1)).Nodup := by
  unfold putL
  split
  · have : (l.map (fun p => if p.1 = n then (n, v) else p)).map (·.1) = l.map (·.1) := by
      rw [List.map_map]
      apply List.map_congr_left
      intro p _
      simp only [Function.comp]
      split
      · rename_i e; exact e.symm
      · rfl
    rw [this]; exact hn
  · rename_i hh
    rw [List.map_append, List.nodup_append]
    refine ⟨hn, by simp, fun a ha b hb e => ?_⟩
    obtain ⟨p, hp, rfl⟩ := List.mem_map.1 ha
    simp at hb
    exact hh (List.any_eq_true.2 ⟨p, hp, by simp [e, hb]⟩)
theorem putL_mem_iff {l : List Gr} {n : Nm} {v : Int} {p : Gr} : p ∈ putL l n v ↔ p = (n, v) ∨ (p ∈ l ∧ p.1 ≠ n) := by
  refine ⟨putL_mem, ?_⟩
  unfold putL
  split
  · rename_i ha
    rintro (rfl | ⟨hp, hne⟩)
    · obtain ⟨q, hq, he⟩ := List.any_eq_true.1 ha
      exact List.mem_map.2 ⟨q, hq, by rw [if_pos (by simpa using he)]⟩
    · exact List.mem_map.2 ⟨p, hp, by rw [if_neg hne]⟩
  · rintro (rfl | ⟨hp, _⟩)
    · simp
    · exact List.mem_append_left _ hp
theorem keys_nodup {l : List Gr} (h : (l.map (·.1)).Nodup) : l.Nodup := List.Pairwise.of_map (S := (· ≠ ·)) _ (fun a b h e => h (by rw [e])) h
theorem Rl.put {L R : List Gr} (h : Rl L R) (n : Nm) (v : Int) : Rl (putL L n v) (insG (takeR R n) (n, v)) := by
  have hd := h.del n
  have hp := putL_nodup h.nd n v
  refine ⟨hp, (insG_perm _ _).trans ?_, insG_sorted hd.sorted⟩
  refine (hd.perm.append_right _).trans ?_
  refine (List.perm_ext_iff_of_nodup ?_ (keys_nodup hp)).2 fun p => ?_
  · rw [List.nodup_append]
    refine ⟨keys_nodup hd.nd, by simp, fun a ha b hb e => ?_⟩
    simp at hb; subst hb; subst e
    unfold delL at ha
    have := (List.mem_filter.1 ha).2
    simp at this
  · rw [putL_mem_iff, List.mem_append]
    unfold delL
    rw [List.mem_filter]
    simp only [List.mem_singleton, Bool.not_eq_true', decide_eq_false_iff_not]
    constructor
    · rintro (h | h)
      · exact .inr h
      · exact .inl h
    · rintro (h | h)
      · exact .inr h
      · exact .inl h
theorem Rl.grantL {L R : List Gr} (h : Rl L R) (lo : ∀ p ∈ L, 1 ≤ p.2) (last : Int) (n : Nm) : Rl (grantL L last n) (rgL R last n) := by
  unfold rgL Go.Proofs.Ytbelafkklblidaa.grantL
  rw [h.grantE lo]
  split
  · exact h.put n _
  · exact h
theorem Rl.grantV {L R : List Gr} (h : Rl L R) (lo : ∀ p ∈ L, 1 ≤ p.2) (last : Int) (n : Nm) : rgV R last n = grantV L last n := by
  unfold rgV Go.Proofs.Ytbelafkklblidaa.grantV; rw [h.grantE lo]
theorem Rl.grantN {L R : List Gr} (h : Rl L R) (lo : ∀ p ∈ L, 1 ≤ p.2) (last : Int) (n : Nm) : rgN R last n = grantN L last n := by
  unfold rgN Go.Proofs.Ytbelafkklblidaa.grantN; rw [h.grantE lo]
theorem Rl.rows_aux : ∀ (rows L R : List Gr), Rl L R → ((L ++ rows).map (·.1)).Nodup → Rl (L ++ rows) (rows.foldl (fun l g => insG (takeR l g.1) g) R)
  | [], L, R, h, _ => by simpa using h
  | g :: rows, L, R, h, hn => by
    have e : L ++ g :: rows = (L ++ [g]) ++ rows := by simp
    rw [e] at hn ⊢
    have hg : ¬ ∃ p ∈ L, p.1 = g.1 := by
      rintro ⟨p, hp, he⟩
      rw [List.map_append, List.map_append, List.nodup_append, List.nodup_append] at hn
      exact hn.1.2.2 p.1 (List.mem_map.2 ⟨p, hp, rfl⟩) g.1 (by simp) he
    rw [List.foldl_cons]
    refine Rl.rows_aux rows (L ++ [g]) _ ?_ hn
    rw [takeR_none (by rw [h.idx]; exact hg)]
    refine ⟨?_, (insG_perm _ _).trans (h.perm.append_right _), insG_sorted h.sorted⟩
    rw [List.map_append] at hn
    exact (List.nodup_append.1 hn).1
theorem Rl.rows {rows : List Gr} (hn : (rows.map (·.1)).Nodup) : Rl rows (rowsR rows) := by
  exact Rl.rows_aux rows [] [] Rl.nil (by simpa using hn)
end Go.Proofs.Ytbelafkklblidaa
