/- As many timers as may be, plainly. -/
import Derived.Test.YteladooegjgdnaaHp17
namespace Go.Proofs.Yteladooegjgdnaa
open Go.RowKit Go.Sort Go.Lib

/-- The key of the i-th timer. -/
def kk (i : Nat) : ByteArray := ⟨#[UInt8.ofNat (i / 256), UInt8.ofNat i]⟩
theorem kk_size (i : Nat) : (kk i).size = 2 := rfl
theorem kk_inj {i j : Nat} (hi : i < 1024) (hj : j < 1024) (h : kk i = kk j) : i = j := by
  have h1 : (kk i).data.toList = (kk j).data.toList := by rw [h]
  simp only [kk, List.cons.injEq, and_true] at h1
  have e1 := congrArg UInt8.toNat h1.1
  have e2 := congrArg UInt8.toNat h1.2
  simp only [UInt8.toNat_ofNat', Nat.reducePow] at e1 e2
  omega
def tmI (a i : Nat) : Tm := ⟨kk i, (a : Int) + 1 + (i : Int)⟩
def fullL (a n : Nat) : List Tm := (List.range n).map (tmI a)
theorem full_key {a n i : Nat} (hn : n ≤ 1024) (hi : i < 1024) : kk i ∈ (fullL a n).map (·.k) ↔ i < n := by
  unfold fullL
  rw [List.map_map, List.mem_map]
  constructor
  · rintro ⟨j, hj, e⟩
    have hj' := List.mem_range.1 hj
    have := kk_inj (by omega) hi e
    omega
  · intro h
    exact ⟨i, List.mem_range.2 h, rfl⟩
theorem keys_perm {L M : List Tm} (h : L.Perm M) (k : ByteArray) : k ∈ L.map (·.k) ↔ k ∈ M.map (·.k) := (h.map _).mem_iff
theorem full_set {a n : Nat} {L : List Tm} (hp : L.Perm (fullL a n)) (hn : n < 1024) (ha : a ≤ 65535) :
    setE L 0 (kk n) ((a : Int) + 1 + (n : Int)) = 0 ∧ (setL L 0 (kk n) ((a : Int) + 1 + (n : Int))).Perm (fullL a (n + 1)) := by
  have hnot : kk n ∉ L.map (·.k) := fun h => by
    have := (full_key (by omega) hn).1 ((keys_perm hp _).1 h)
    omega
  have hl : L.length = n := by rw [hp.length_eq]; simp [fullL]
  have hE : setE L 0 (kk n) ((a : Int) + 1 + (n : Int)) = 0 := by
    unfold setE
    rw [if_neg (by rw [kk_size]; omega), if_neg (by omega), if_neg (by omega), hasT_not hnot, if_neg (by simp), if_neg (by omega)]
  refine ⟨hE, ?_⟩
  unfold setL
  rw [if_pos hE, off_self hnot]
  refine (insT_perm _ _).trans ((hp.cons _).trans ?_)
  unfold fullL
  rw [List.range_succ, List.map_append]
  exact List.perm_append_comm (l₁ := [tmI a n])
def kNew : ByteArray := ⟨#[110, 101, 119]⟩
theorem new_not {a n : Nat} {L : List Tm} (hp : L.Perm (fullL a n)) : kNew ∉ L.map (·.k) := fun h => by
  have h1 := (keys_perm hp _).1 h
  unfold fullL at h1
  rw [List.map_map, List.mem_map] at h1
  obtain ⟨i, _, e⟩ := h1
  have := congrArg ByteArray.size e
  cases this
/-- What comes behind the great many. -/
structure FullP (a k : Nat) (L : List Tm) : Prop where
  full : setE L 0 kNew 5 = 6
  set : setE L 0 (kk k) 1 = 0
  head : ∃ x L', setL L 0 (kk k) 1 = x :: L' ∧ x.a = 1 ∧ (x.k = kk k ∨ a = 0)
  stop : stopN [kk k] (setL L 0 (kk k) 1) = 1
  room : setE (stopL [kk k] (setL L 0 (kk k) 1)) 0 kNew 2 = 0
  len : (setL (stopL [kk k] (setL L 0 (kk k) 1)) 0 kNew 2).length = 1024
theorem full_ok {a k : Nat} {L : List Tm} (hp : L.Perm (fullL a 1024)) (hk : k < 1024) (hs : Srt L) (hd : (L.map (·.k)).Nodup) : FullP a k L := by
  have hl : L.length = 1024 := by rw [hp.length_eq]; simp [fullL]
  have hin : kk k ∈ L.map (·.k) := (keys_perm hp _).2 ((full_key (by omega) hk).2 hk)
  have hnew := new_not hp
  have hE : setE L 0 (kk k) 1 = 0 := by
    unfold setE
    rw [if_neg (by rw [kk_size]; omega), if_neg (by omega), if_neg (by omega), hasT_iff.2 hin, if_pos rfl]
  have hL : setL L 0 (kk k) 1 = insT ⟨kk k, 1⟩ (offT (kk k) L) := by unfold setL; rw [if_pos hE]
  have hol : (offT (kk k) L).length = 1023 := by
    obtain ⟨x, hx, e⟩ := List.mem_map.1 hin
    obtain ⟨s, t, hst⟩ := List.append_of_mem hx
    have hp2 : L.Perm (x :: (s ++ t)) := by rw [hst]; exact List.perm_middle
    have hn2 : ((x :: (s ++ t)).map (·.k)).Nodup := (hp2.map _).nodup_iff.1 hd
    have h3 : (offT (kk k) L).Perm (s ++ t) := by
      have := hp2.filter fun y => decide (y.k ≠ kk k)
      rwa [show (x :: (s ++ t)).filter (fun y => decide (y.k ≠ kk k)) = s ++ t from offT_cons e hn2] at this
    have h4 := hp2.length_eq
    rw [h3.length_eq]
    simp at h4 ⊢
    omega
  have hsrt : Srt (insT ⟨kk k, 1⟩ (offT (kk k) L)) := insT_srt _ _ (off_srt hs)
  have hnotnew : kNew ∉ (insT (⟨kk k, 1⟩ : Tm) (offT (kk k) L)).map (·.k) := fun h => by
    obtain ⟨x, hx, e⟩ := List.mem_map.1 h
    rcases List.mem_cons.1 ((insT_perm _ _).subset hx) with e2 | e2
    · subst e2
      have := congrArg ByteArray.size e
      cases this
    · exact hnew (List.mem_map.2 ⟨x, (List.mem_filter.1 e2).1, e⟩)
  have hin2 : kk k ∈ (insT (⟨kk k, 1⟩ : Tm) (offT (kk k) L)).map (·.k) := List.mem_map.2 ⟨⟨kk k, 1⟩, (insT_perm _ _).symm.subset (by simp), rfl⟩
  have hstop : (offT (kk k) (insT ⟨kk k, 1⟩ (offT (kk k) L))).length = 1023 := by
    have := (insT_perm ⟨kk k, 1⟩ (offT (kk k) L)).filter fun y => decide (y.k ≠ kk k)
    unfold offT at this ⊢
    rw [this.length_eq, List.filter_cons, if_neg (by simp), List.filter_filter]
    simpa [offT] using hol
  have hne3 : kNew ∉ (offT (kk k) (insT (⟨kk k, 1⟩ : Tm) (offT (kk k) L))).map (·.k) := fun h => by
    obtain ⟨x, hx, e⟩ := List.mem_map.1 h
    exact hnotnew (List.mem_map.2 ⟨x, (List.mem_filter.1 hx).1, e⟩)
  have hroom : setE (stopL [kk k] (setL L 0 (kk k) 1)) 0 kNew 2 = 0 := by
    unfold stopL stopL
    rw [hL]
    unfold setE
    rw [if_neg (by decide), if_neg (by omega), if_neg (by omega), hasT_not hne3, if_neg (by simp), if_neg (by omega)]
  refine ⟨?_, hE, ?_, ?_, hroom, ?_⟩
  · unfold setE
    rw [if_neg (by decide), if_neg (by omega), if_neg (by omega), hasT_not hnew, if_neg (by simp), if_pos (by omega)]
  · rw [hL]
    have hll : 0 < (insT (⟨kk k, 1⟩ : Tm) (offT (kk k) L)).length := by rw [(insT_perm _ _).length_eq]; simp
    obtain ⟨x, L', hx⟩ : ∃ x L', insT (⟨kk k, 1⟩ : Tm) (offT (kk k) L) = x :: L' := by
      cases h : insT (⟨kk k, 1⟩ : Tm) (offT (kk k) L) with
      | nil => rw [h] at hll; simp at hll
      | cons x L' => exact ⟨x, L', rfl⟩
    have hmem : ∀ y ∈ insT (⟨kk k, 1⟩ : Tm) (offT (kk k) L), y = ⟨kk k, 1⟩ ∨ ∃ i, i < 1024 ∧ y = tmI a i := fun y hy => by
      rcases List.mem_cons.1 ((insT_perm _ _).subset hy) with e | e
      · exact .inl e
      · have := hp.subset ((List.mem_filter.1 e).1)
        obtain ⟨i, hi, e⟩ := List.mem_map.1 this
        exact .inr ⟨i, List.mem_range.1 hi, e.symm⟩
    have hm1 : (⟨kk k, 1⟩ : Tm) ∈ x :: L' := by rw [← hx]; exact (insT_perm _ _).symm.subset (by simp)
    have hle : leT x ⟨kk k, 1⟩ := by
      rcases List.mem_cons.1 hm1 with e | e
      · rw [← e]; exact leT_refl _
      · rw [hx] at hsrt; exact (List.pairwise_cons.1 hsrt).1 _ e
    refine ⟨x, L', hx, ?_⟩
    have hxm := hmem x (by rw [hx]; simp)
    rcases hxm with e | ⟨i, hi, e⟩
    · subst e; exact ⟨rfl, .inl rfl⟩
    · have h5 := (cmpT_le _ _).1 hle
      subst e
      simp only [tmI] at h5 ⊢
      have h6 : (a : Int) + 1 + i = 1 := by omega
      exact ⟨h6, .inr (by omega)⟩
  · rw [hL]
    unfold stopN
    rw [hasT_iff.2 hin2]
    rfl
  · show (if setE (stopL [kk k] (setL L 0 (kk k) 1)) 0 kNew 2 = 0 then insT ⟨kNew, 2⟩ (offT kNew (stopL [kk k] (setL L 0 (kk k) 1))) else stopL [kk k] (setL L 0 (kk k) 1)).length = 1024
    rw [if_pos hroom, (insT_perm _ _).length_eq, List.length_cons, hL]
    show (offT kNew (offT (kk k) (insT ⟨kk k, 1⟩ (offT (kk k) L)))).length + 1 = 1024
    rw [off_self hne3, hstop]
end Go.Proofs.Yteladooegjgdnaa
