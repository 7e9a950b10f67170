/- The caller's map against the timers that are set, plainly. -/
import Derived.Test.YteladooegjgdnaaMapLawS
import Derived.Test.YteladooegjgdnaaHp17
namespace Go.Proofs.Yteladooegjgdnaa
open Go.RowKit Go.Sort Go.Lib

theorem nod_map {α β : Type} (f : α → β) {l : List α} (h : (l.map f).Nodup) : l.Nodup := by
  unfold List.Nodup at *
  exact (List.pairwise_map.1 h).imp fun h e => h (by rw [e])
abbrev Mp := List (ByteArray × Int)
/-- The map holds just these timers. -/
structure Rm (M : Mp) (L : List Tm) : Prop where
  nod : (M.map (·.1)).Nodup
  mem : ∀ k a, (k, a) ∈ M ↔ (⟨k, a⟩ : Tm) ∈ L
theorem Rm.none : Rm [] [] := ⟨.nil, fun _ _ => by simp⟩
section
variable {M : Mp} {L : List Tm}
theorem Rm.len (h : Rm M L) (hn : (L.map (·.k)).Nodup) : M.length = L.length := by
  have h1 : M.Nodup := nod_map _ h.nod
  have h2 : (L.map fun x => (x.k, x.a)).Nodup := by
    refine nod_map (fun p : ByteArray × Int => p.1) ?_
    rw [List.map_map]; exact hn
  have h3 : M.Perm (L.map fun x => (x.k, x.a)) := by
    rw [List.perm_ext_iff_of_nodup h1 h2]
    rintro ⟨k, a⟩
    rw [h.mem, List.mem_map]
    exact ⟨fun hx => ⟨_, hx, rfl⟩, fun ⟨x, hx, e⟩ => by
      injection e with e1 e2
      subst e1; subst e2; exact hx⟩
  rw [h3.length_eq, List.length_map]
theorem Rm.get (h : Rm M L) (x : Tm) (hx : x ∈ L) : S.getL M x.k = some x.a := (S.getL_memV h.nod _ _).2 ((h.mem _ _).2 hx)
theorem Rm.has (h : Rm M L) (k : ByteArray) : (S.getL M k).isSome = hasT k L := by
  rw [Bool.eq_iff_iff, hasT_iff, Option.isSome_iff_exists, List.mem_map]
  exact ⟨fun ⟨a, ha⟩ => ⟨⟨k, a⟩, (h.mem _ _).1 ((S.getL_memV h.nod _ _).1 ha), rfl⟩, fun ⟨x, hx, e⟩ => ⟨x.a, by rw [← e]; exact h.get x hx⟩⟩
theorem Rm.put (h : Rm M L) (k : ByteArray) (a : Int) : Rm (S.putL M k a) (insT ⟨k, a⟩ (offT k L)) := by
  have hn := S.putL_nodupV h.nod k a
  refine ⟨hn, fun k' a' => ?_⟩
  rw [← S.getL_memV hn, S.getL_putV, (insT_perm _ _).mem_iff, List.mem_cons]
  unfold offT
  rw [List.mem_filter]
  by_cases e : k' = k
  · subst e
    rw [if_pos rfl]
    constructor
    · intro e2; injection e2 with e2; subst e2; exact .inl rfl
    · rintro (e2 | ⟨_, e2⟩)
      · injection e2 with _ e2; rw [e2]
      · simp at e2
  · rw [if_neg e, S.getL_memV h.nod, h.mem]
    constructor
    · intro hx; exact .inr ⟨hx, by simpa using e⟩
    · rintro (e2 | ⟨hx, _⟩)
      · injection e2 with e2 _; exact absurd e2 e
      · exact hx
theorem Rm.del (h : Rm M L) (k : ByteArray) : Rm (S.delL M k) (offT k L) := by
  refine ⟨(List.filter_sublist.map _).nodup h.nod, fun k' a' => ?_⟩
  unfold S.delL offT
  rw [List.mem_filter, List.mem_filter, h.mem]
  simp
end
theorem Srt.rest {L : List Tm} (t : Int) (h : Srt L) : ∀ x ∈ L.dropWhile (dueP t), t < x.a := by
  induction L with
  | nil => intro x hx; simp at hx
  | cons y L ih =>
    obtain ⟨h1, h2⟩ := List.pairwise_cons.1 h
    rw [List.dropWhile_cons]
    by_cases hy : y.a ≤ t
    · have e : dueP t y = true := decide_eq_true hy
      rw [e]; exact ih h2
    · have e : dueP t y = false := decide_eq_false hy
      rw [e]
      intro x hx
      rcases List.mem_cons.1 hx with e | e
      · subst e; omega
      · have := (cmpT_le y x).1 (h1 x e)
        rcases this with h | ⟨h, _⟩ <;> omega
theorem take_due {L : List Tm} (t : Int) : ∀ x ∈ L.takeWhile (dueP t), x.a ≤ t := by
  induction L with
  | nil => intro x hx; simp at hx
  | cons y L ih =>
    intro x hx
    rw [List.takeWhile_cons] at hx
    split at hx
    · rename_i h
      rcases List.mem_cons.1 hx with e | e
      · subst e; exact of_decide_eq_true h
      · exact ih x e
    · simp at hx
/-- What is told comes in order. -/
theorem srt_lt {L : List Tm} (h : Srt L) (hn : (L.map (·.k)).Nodup) {i : Nat} (hi : i + 1 < L.length) : (L[i]'(by omega)).a < L[i + 1].a ∨ ((L[i]'(by omega)).a = L[i + 1].a ∧ Op.bytesLess (L[i]'(by omega)).k.toList L[i + 1].k.toList = true) := by
  have h1 : leT (L[i]'(by omega)) L[i + 1] := (List.pairwise_iff_getElem.1 h) i (i + 1) (by omega) hi (by omega)
  have h2 : (L[i]'(by omega)).k ≠ L[i + 1].k := by
    have h3 := List.pairwise_map.1 (List.nodup_iff_pairwise_ne.1 hn)
    rw [List.pairwise_iff_getElem] at h3
    exact h3 i (i + 1) (by omega) hi (by omega)
  rcases (cmpT_le _ _).1 h1 with e | ⟨e1, e2⟩
  · exact .inl e
  · refine .inr ⟨e1, ?_⟩
    by_cases hb : Op.bytesLess (L[i]'(by omega)).k.toList L[i + 1].k.toList = true
    · exact hb
    · exfalso
      unfold cmpS at e2
      rw [if_neg hb] at e2
      split at e2
      · rename_i h4
        rw [ba_eq] at h4
        exact h2 (of_decide_eq_true h4)
      · omega
/-- The timers that are set lie behind the clock. -/
def Late (L : List Tm) (now : Int) : Prop := ∀ x ∈ L, now < x.a
theorem Late.set {L : List Tm} {now a : Int} {k : ByteArray} (h : Late L now) : Late (setL L now k a) now := by
  unfold setL
  split
  · rename_i he
    have ha : now < a := by
      unfold setE at he
      split at he
      · simp at he
      · split at he
        · simp at he
        · omega
    intro x hx
    rcases List.mem_cons.1 ((insT_perm _ _).subset hx) with e | e
    · subst e; exact ha
    · exact h x ((List.mem_filter.1 e).1)
  · exact h
theorem Late.off {L : List Tm} {now : Int} (k : ByteArray) (h : Late L now) : Late (offT k L) now := fun x hx => h x ((List.mem_filter.1 hx).1)
theorem Late.tick {L : List Tm} {now d : Int} (h : Late L now) (hs : Srt L) : Late (tickL L now d) (tickC now d) := by
  unfold tickL tickC
  split
  · exact hs.rest _
  · exact h
theorem offT_head {x : Tm} {L : List Tm} (hn : ((x :: L).map (·.k)).Nodup) : offT x.k (x :: L) = L := offT_cons rfl hn
end Go.Proofs.Yteladooegjgdnaa
