/- The timers as a sorted list: what is set, stopped, told. -/
import Derived.Test.YteladooegjgdnaaHp8
namespace Go.Proofs.Yteladooegjgdnaa
open Go.RowKit Go.Sort Go.Lib

theorem gT_take {l : List Tm} {n k : Nat} (h : k < n) : gT (l.take n) k = gT l k := by
  unfold gT
  rw [List.getD_eq_getElem?_getD, List.getElem?_take, if_pos h, List.getD_eq_getElem?_getD]
theorem hp_take {l : List Tm} {n : Nat} (h : Hp n l) : Hp n (l.take n) := by
  intro k k0 km
  rw [gT_take (by omega), gT_take km]
  exact h k k0 km
theorem gT_app {l : List Tm} {x : Tm} {k : Nat} (h : k < l.length) : gT (l ++ [x]) k = gT l k := by
  unfold gT
  rw [List.getD_eq_getElem?_getD, List.getElem?_append_left h, List.getD_eq_getElem?_getD]
theorem gT_mem {l : List Tm} {k : Nat} (h : k < l.length) : gT l k ∈ l := by
  unfold gT
  rw [List.getD_eq_getElem?_getD, List.getElem?_eq_getElem h]
  exact List.getElem_mem h
theorem push_ok {l : List Tm} (x : Tm) (h : Hp l.length l) : Hp (pushL l x).length (pushL l x) ∧ (pushL l x).Perm (x :: l) := by
  have hlen : (pushL l x).length = l.length + 1 := by unfold pushL; rw [upL_len]; simp
  rw [hlen]
  unfold pushL
  constructor
  · refine upL_ok _ _ _ _ (by omega) (by omega) (by simp) ⟨?_, ?_⟩ ?_
    · intro k k0 km kj _
      rw [gT_app (by omega), gT_app (by omega)]
      exact h k k0 (by omega)
    · intro k k0 km hk; omega
    · intro k k0 km hk; omega
  · exact (upL_perm _ _ _ (by simp)).trans (List.perm_append_comm)
theorem take_last {l : List Tm} {n : Nat} (h : l.length = n + 1) : l = l.take n ++ [gT l n] := by
  have hn : n < l.length := by omega
  have e : gT l n = l[n] := by unfold gT; rw [List.getD_eq_getElem?_getD, List.getElem?_eq_getElem hn]; rfl
  rw [e]
  have := List.take_append_getElem (l := l) (i := n) hn
  rw [this, List.take_of_length_le (by omega)]
theorem last_perm {l0 l : List Tm} {n : Nat} (hl : l.length = n + 1) (h : l.Perm l0) : l0.Perm (gT l n :: l.take n) := by
  refine h.symm.trans ?_
  conv => lhs; rw [take_last hl]
  exact List.perm_append_comm
theorem pop_ok {l : List Tm} {n : Nat} (hl : l.length = n + 1) (h : Hp l.length l) : Hp n ((popL l).take n) ∧ (popL l).getD n default = gT l 0 ∧ l.Perm (gT l 0 :: (popL l).take n) ∧ (popL l).length = n + 1 := by
  have hp0 : (popL l).Perm l := by
    unfold popL
    rw [hl, Nat.add_sub_cancel]
    exact (downL_perm _ _ _ _ (by rw [swapL_len]; omega)).trans (swap_perm l _ _ (by omega) (by omega))
  have hlen : (popL l).length = n + 1 := by rw [hp0.length_eq, hl]
  have G := fun k => gT_swap l 0 n k (by omega) (by omega)
  have he : gT (popL l) n = gT l 0 := by
    unfold popL
    rw [hl, Nat.add_sub_cancel, downL_keep _ _ _ _ _ (by rw [swapL_len]; omega) (Nat.le_refl n), G, if_pos rfl]
  refine ⟨hp_take ?_, he, ?_, hlen⟩
  · unfold popL
    rw [hl, Nat.add_sub_cancel]
    refine downL_ok _ _ _ _ (by omega) (by rw [swapL_len]; omega) ⟨?_, ?_⟩ (fun _ h0 => by omega)
    · intro k k0 km k0' hk
      rw [G, G, if_neg (by omega), if_neg hk, if_neg (by omega), if_neg (by omega)]
      exact h k k0 (by omega)
    · intro k _ _ _ h0; omega
  · have := last_perm hlen hp0
    rwa [he] at this
/-- What stands at i, set anew. -/
theorem set_perm (l : List Tm) (i : Nat) (h : i < l.length) (y : Tm) : ∃ l0, l.Perm (gT l i :: l0) ∧ (l.set i y).Perm (y :: l0) := by
  have e : gT l i = l[i] := by unfold gT; rw [List.getD_eq_getElem?_getD, List.getElem?_eq_getElem h]; rfl
  refine ⟨l.take i ++ l.drop (i + 1), ?_, ?_⟩
  · rw [e]
    conv => lhs; rw [← List.take_append_drop i l, List.drop_eq_getElem_cons h]
    exact List.perm_middle
  · rw [List.set_eq_take_append_cons_drop, if_pos h]
    exact List.perm_middle
theorem fix_ok {l : List Tm} {i : Nat} (y : Tm) (hi : i < l.length) (h : Hp l.length l) : Hp (fixL (l.set i y) i).length (fixL (l.set i y) i) ∧ (fixL (l.set i y) i).Perm (l.set i y) := by
  have hsl : (l.set i y).length = l.length := by simp
  have H : Hole l.length (l.set i y) i := by
    refine ⟨?_, ?_⟩
    · intro k k0 km ki hk
      rw [gT_set _ _ _ _ hi, gT_set _ _ _ _ hi, if_neg ki, if_neg hk]
      exact h k k0 km
    · intro k k0 km hk i0
      rw [gT_set _ _ _ _ hi, gT_set _ _ _ _ hi, if_neg (by omega), if_neg (by omega)]
      have h1 := h k k0 km
      rw [hk] at h1
      exact leTt (h i i0 hi) h1
  have ho := downL_or (f := l.length) (m := l.length) (by omega) (by rw [hsl]; omega) H
  have hd := downL_perm (l.length + 1) (l.set i y) i l.length (by rw [hsl]; omega)
  have hp : (fixL (l.set i y) i).Perm (l.set i y) := by
    unfold fixL
    rw [hsl]
    split
    · exact hd
    · exact (upL_perm _ _ _ (by rw [downL_len, hsl]; exact hi)).trans hd
  refine ⟨?_, hp⟩
  rw [hp.length_eq, hsl]
  unfold fixL
  rw [hsl]
  split
  · rename_i h1
    rw [if_pos h1] at ho
    exact ho
  · rename_i h1
    rw [if_neg h1] at ho
    rw [ho.1]
    exact upL_ok _ _ _ _ (by omega) hi (by rw [hsl]; omega) H ho.2
theorem rem_ok {l : List Tm} {n i : Nat} (hl : l.length = n + 1) (hi : i < l.length) (h : Hp l.length l) : Hp n ((remL l i).take n) ∧ (remL l i).getD n default = gT l i ∧ l.Perm (gT l i :: (remL l i).take n) ∧ (remL l i).length = n + 1 := by
  by_cases hni : n = i
  · subst hni
    have e : remL l n = l := by unfold remL; rw [if_pos (by omega)]
    rw [e]
    exact ⟨hp_take fun k k0 km => h k k0 (by omega), rfl, last_perm hl (.refl l), hl⟩
  have hin : i < n := by omega
  have G := fun k => gT_swap l i n k hi (by omega)
  have hsl : (swapL l i n).length = n + 1 := by rw [swapL_len, hl]
  have H : Hole n (swapL l i n) i := by
    refine ⟨?_, ?_⟩
    · intro k k0 km ki hk
      rw [G, G, if_neg (by omega), if_neg (by omega), if_neg (by omega), if_neg (by omega)]
      exact h k k0 (by omega)
    · intro k k0 km hk i0
      rw [G, G, if_neg (by omega), if_neg (by omega), if_neg (by omega), if_neg (by omega)]
      have h1 := h k k0 (by omega)
      rw [hk] at h1
      exact leTt (h i i0 hi) h1
  have ho := downL_or (f := n) (m := n) (by omega) (by rw [hsl]; omega) H
  have hd := downL_perm (n + 1) (swapL l i n) i n (by rw [hsl]; omega)
  have hdl : (downL (n + 1) (swapL l i n) i n).1.length = n + 1 := by rw [downL_len, hsl]
  have hdk := downL_keep (n + 1) (swapL l i n) i n n (by rw [hsl]; omega) (Nat.le_refl n)
  rw [G, if_pos rfl] at hdk
  have er : remL l i = if i < (downL (n + 1) (swapL l i n) i n).2 then (downL (n + 1) (swapL l i n) i n).1 else upL (i + 1) (downL (n + 1) (swapL l i n) i n).1 i := by
    unfold remL
    rw [hl, Nat.add_sub_cancel, if_neg hni]
  have hp0 : (remL l i).Perm l := by
    rw [er]
    split
    · exact hd.trans (swap_perm l _ _ hi (by omega))
    · exact ((upL_perm _ _ _ (by rw [hdl]; omega)).trans hd).trans (swap_perm l _ _ hi (by omega))
  have hlen : (remL l i).length = n + 1 := by rw [hp0.length_eq, hl]
  have he : gT (remL l i) n = gT l i := by
    rw [er]
    split
    · exact hdk
    · rw [upL_keep _ _ _ _ (by rw [hdl]; omega) hin]; exact hdk
  refine ⟨hp_take ?_, he, ?_, hlen⟩
  · rw [er]
    split
    · rename_i h1
      rw [if_pos h1] at ho
      exact ho
    · rename_i h1
      rw [if_neg h1] at ho
      rw [ho.1]
      exact upL_ok _ _ _ _ (by omega) hin (by rw [hsl]; omega) H ho.2
  · have := last_perm hlen hp0
    rwa [he] at this
theorem hp_least {l : List Tm} (h : Hp l.length l) : ∀ k, k < l.length → leT (gT l 0) (gT l k) := by
  intro k
  induction k using Nat.strongRecOn with
  | _ k ih =>
    intro hk
    by_cases h0 : k = 0
    · subst h0; exact leT_refl _
    · exact leTt (ih ((k - 1) / 2) (by omega) (by omega)) (h k (by omega) hk)
/-- Sorted. -/
abbrev Srt (L : List Tm) : Prop := L.Pairwise leT
theorem hp_head {l L : List Tm} (h : Hp l.length l) (hp : l.Perm L) (hs : Srt L) (h0 : 0 < l.length) : ∃ L', L = gT l 0 :: L' := by
  cases L with
  | nil => have := hp.length_eq; rw [this] at h0; exact absurd h0 (by simp)
  | cons y L' =>
    have hm : gT l 0 ∈ y :: L' := hp.subset (gT_mem h0)
    have h1 : leT y (gT l 0) := by
      rcases List.mem_cons.1 hm with e | e
      · rw [e]; exact leT_refl _
      · exact (List.pairwise_cons.1 hs).1 _ e
    have hy : y ∈ l := hp.symm.subset (by simp)
    obtain ⟨k, hk, e⟩ := List.mem_iff_getElem.1 hy
    have h2 := hp_least h k hk
    have e2 : gT l k = y := by unfold gT; rw [List.getD_eq_getElem?_getD, List.getElem?_eq_getElem hk]; exact e
    rw [e2] at h2
    exact ⟨L', by rw [leT_anti h1 h2]⟩
/-- Put in its place. -/
def insT (x : Tm) : List Tm → List Tm
  | [] => [x]
  | y :: L => if cmpT x y ≤ 0 then x :: y :: L else y :: insT x L
theorem insT_perm (x : Tm) : ∀ L, (insT x L).Perm (x :: L)
  | [] => .refl _
  | y :: L => by
    unfold insT
    split
    · exact .refl _
    · exact ((insT_perm x L).cons y).trans (.swap x y L)
theorem insT_srt (x : Tm) : ∀ L, Srt L → Srt (insT x L)
  | [], _ => by simp [insT]
  | y :: L, h => by
    obtain ⟨h1, h2⟩ := List.pairwise_cons.1 h
    unfold insT
    split
    · rename_i hc
      exact List.pairwise_cons.2 ⟨fun z hz => by
        rcases List.mem_cons.1 hz with e | e
        · rw [e]; exact hc
        · exact leTt hc (h1 z e), h⟩
    · rename_i hc
      refine List.pairwise_cons.2 ⟨fun z hz => ?_, insT_srt x L h2⟩
      rcases List.mem_cons.1 ((insT_perm x L).subset hz) with e | e
      · rw [e]
        rcases leT_total x y with k | k
        · exact absurd k hc
        · exact k
      · exact h1 z e
/-- All but a key. -/
def offT (k : ByteArray) (L : List Tm) : List Tm := L.filter fun x => decide (x.k ≠ k)
theorem offT_cons {k : ByteArray} {x : Tm} {l0 : List Tm} (hk : x.k = k) (hn : ((x :: l0).map (·.k)).Nodup) : offT k (x :: l0) = l0 := by
  rw [List.map_cons, List.nodup_cons] at hn
  unfold offT
  rw [List.filter_cons, if_neg (by simp [hk]), List.filter_eq_self]
  intro y hy
  simp only [ne_eq, decide_eq_true_eq]
  intro e
  exact hn.1 (List.mem_map.2 ⟨y, hy, by rw [e, hk]⟩)
/-- The timers that are set: sorted, each key once. -/
structure TmOk (l L : List Tm) : Prop where
  hp : Hp l.length l
  perm : l.Perm L
  srt : Srt L
  nod : (L.map (·.k)).Nodup
theorem TmOk.none : TmOk [] [] := ⟨fun k _ h => absurd h (by simp), .refl _, .nil, .nil⟩
theorem off_srt {k : ByteArray} {L : List Tm} (h : Srt L) : Srt (offT k L) := h.filter _
theorem off_nod {k : ByteArray} {L : List Tm} (h : (L.map (·.k)).Nodup) : ((offT k L).map (·.k)).Nodup := (List.filter_sublist.map _).nodup h
theorem off_not {k : ByteArray} {L : List Tm} : k ∉ (offT k L).map (·.k) := by
  intro h
  obtain ⟨x, hx, e⟩ := List.mem_map.1 h
  have := (List.mem_filter.1 hx).2
  simp [e] at this
theorem off_self {k : ByteArray} {L : List Tm} (h : k ∉ L.map (·.k)) : offT k L = L := by
  unfold offT
  rw [List.filter_eq_self]
  intro y hy
  simp only [ne_eq, decide_eq_true_eq]
  intro e
  exact h (List.mem_map.2 ⟨y, hy, e⟩)
theorem ins_nod {x : Tm} {L : List Tm} (h : (L.map (·.k)).Nodup) (hx : x.k ∉ L.map (·.k)) : ((insT x L).map (·.k)).Nodup :=
  ((insT_perm x L).map (·.k)).nodup_iff.2 (by rw [List.map_cons]; exact List.nodup_cons.2 ⟨hx, h⟩)
/-- A key that is there is moved. -/
theorem TmOk.move {l L : List Tm} {i : Nat} {a : Int} (h : TmOk l L) (hi : i < l.length) : TmOk (fixL (l.set i ⟨(gT l i).k, a⟩) i) (insT ⟨(gT l i).k, a⟩ (offT (gT l i).k L)) := by
  obtain ⟨h1, h2⟩ := fix_ok ⟨(gT l i).k, a⟩ hi h.hp
  obtain ⟨l0, p1, p2⟩ := set_perm l i hi ⟨(gT l i).k, a⟩
  have hn : ((gT l i :: l0).map (·.k)).Nodup := ((p1.symm.trans h.perm).map (·.k)).nodup_iff.2 h.nod
  have p3 : l0.Perm (offT (gT l i).k L) := by
    have := (p1.symm.trans h.perm).filter fun x => decide (x.k ≠ (gT l i).k)
    rwa [show (gT l i :: l0).filter (fun x => decide (x.k ≠ (gT l i).k)) = l0 from offT_cons rfl hn] at this
  exact ⟨h1, ((h2.trans p2).trans (p3.cons _)).trans (insT_perm _ _).symm, insT_srt _ _ (off_srt h.srt), ins_nod (off_nod h.nod) off_not⟩
theorem TmOk.add {l L : List Tm} {x : Tm} (h : TmOk l L) (hx : x.k ∉ L.map (·.k)) : TmOk (pushL l x) (insT x (offT x.k L)) := by
  obtain ⟨h1, h2⟩ := push_ok x h.hp
  rw [off_self hx]
  exact ⟨h1, (h2.trans (h.perm.cons x)).trans (insT_perm _ _).symm, insT_srt _ _ h.srt, ins_nod h.nod hx⟩
theorem TmOk.rem {l L : List Tm} {n i : Nat} (h : TmOk l L) (hl : l.length = n + 1) (hi : i < l.length) : TmOk ((remL l i).take n) (offT (gT l i).k L) := by
  obtain ⟨h1, _, h3, h4⟩ := rem_ok hl hi h.hp
  have hn : ((gT l i :: (remL l i).take n).map (·.k)).Nodup := ((h3.symm.trans h.perm).map (·.k)).nodup_iff.2 h.nod
  have p3 := (h3.symm.trans h.perm).filter fun x => decide (x.k ≠ (gT l i).k)
  rw [show (gT l i :: (remL l i).take n).filter (fun x => decide (x.k ≠ (gT l i).k)) = (remL l i).take n from offT_cons rfl hn] at p3
  exact ⟨by rw [List.length_take, h4, Nat.min_eq_left (by omega)]; exact h1, p3, off_srt h.srt, off_nod h.nod⟩
theorem TmOk.pop {l L : List Tm} {n : Nat} (h : TmOk l L) (hl : l.length = n + 1) : ∃ L', L = (popL l).getD n default :: L' ∧ gT l 0 = (popL l).getD n default ∧ TmOk ((popL l).take n) L' := by
  obtain ⟨h1, h2, h3, h4⟩ := pop_ok hl h.hp
  obtain ⟨L', hL⟩ := hp_head h.hp h.perm h.srt (by omega)
  subst hL
  refine ⟨L', by rw [h2], h2.symm, by rw [List.length_take, h4, Nat.min_eq_left (by omega)]; exact h1, (h3.symm.trans h.perm).cons_inv, (List.pairwise_cons.1 h.srt).2, ?_⟩
  have := h.nod
  rw [List.map_cons, List.nodup_cons] at this
  exact this.2
theorem TmOk.first {l L : List Tm} (h : TmOk l L) (h0 : 0 < l.length) : ∃ L', L = gT l 0 :: L' := hp_head h.hp h.perm h.srt h0
end Go.Proofs.Yteladooegjgdnaa
