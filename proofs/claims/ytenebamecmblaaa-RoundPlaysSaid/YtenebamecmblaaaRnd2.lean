/- Rounds: what a call leaves; one job's round changed, one more, one less. -/
import Derived.Test.YtenebamecmblaaaRnd1
import Derived.Test.YtenebamecmblaaaMapE
namespace Go.Proofs.Ytenebamecmblaaa
open Go.RowKit Go.Sort Go.Lib

/-- The blocks that the calls may write: the map, each round's box, its map. -/
def RS (m : Nat) (L : Rd) (i : Nat) : Prop := i = m ∨ ∃ p ∈ L, i = p.2.b ∨ i = p.2.o
def updR (L : Rd) (n : Int) (x : On) : Rd := L.map fun p => if p.1 = n then (n, x) else p
structure Mv (m : Nat) (L : Rd) (w : World) (L' : Rd) (w' : World) : Prop where
  fr : Fr (RS m L) w w'
  ids : ∀ i, RS m L' i → RS m L i ∨ w.heap.size ≤ i
section
variable {w w' w'' : World} {r m : Nat} {L L' L'' : Rd} {x : On}
theorem Mv.below (m : Nat) (L : Rd) (h : Below w.heap.size w w') : Mv m L w L w' := ⟨.of_below h, fun _ hi => .inl hi⟩
theorem Mv.trans (h : Mv m L w L' w') (k : Mv m L' w' L'' w'') : Mv m L w L'' w'' :=
  ⟨⟨k.fr.os.trans h.fr.os, k.fr.tape.trans h.fr.tape, k.fr.output.trans h.fr.output, Nat.le_trans h.fr.size k.fr.size, fun i hi hs => (k.fr.block i (Nat.lt_of_lt_of_le hi h.fr.size) (fun e => by rcases h.ids i e with e | e; exact hs e; omega)).trans (h.fr.block i hi hs)⟩,
    fun i hi => by
      rcases k.ids i hi with e | e
      · exact h.ids i e
      · exact .inr (Nat.le_trans h.fr.size e)⟩
theorem Rds.kind (h : Rds w r m L) {i : Nat} (hi : RS m L i) : (∃ es c, w.heap[i]? = some (.map es c)) ∨ ∃ cur, w.heap[i]? = some (Obj.cells cur 65 (0, 0)) := by
  rcases hi with rfl | ⟨p, hp, rfl | rfl⟩
  · obtain ⟨es, c, hb, _⟩ := h.map; exact .inl ⟨es, c, hb⟩
  · exact .inr ⟨_, (h.one p hp).box⟩
  · obtain ⟨es, c, hb, _⟩ := (h.one p hp).map; exact .inl ⟨es, c, hb⟩
theorem Rds.cells_out (h : Rds w r m L) {i : Nat} {cur : Array Value} {t : TypeId} {f : Nat × Nat} (hi : w.heap[i]? = some (Obj.cells cur t f)) (ht : t ≠ 65) : ¬ RS m L i := by
  intro hr
  rcases h.kind hr with ⟨es, c, e⟩ | ⟨cur', e⟩
  · rw [hi] at e; cases e
  · rw [hi] at e; injection e with e; injection e with _ e _; exact ht e
theorem Rds.int_out (h : Rds w r m L) {i : Nat} (hi : IntB w i) : ¬ RS m L i := by obtain ⟨cur, hi⟩ := hi; exact h.cells_out hi (by decide)
theorem Rds.r_out (h : Rds w r m L) : ¬ RS m L r := h.cells_out h.box (by decide)
theorem Rds.rs_lt (h : Rds w r m L) {i : Nat} (hi : RS m L i) : i < w.heap.size := by
  rcases hi with rfl | ⟨p, hp, rfl | rfl⟩
  · exact h.lt.2
  · exact (h.one p hp).lt.1
  · exact (h.one p hp).lt.2
theorem Rds.keepI (h : Rds w r m L) (hF : Fr (RS m L) w w') {i : Nat} (hi : IntB w i) : w'.heap[i]? = w.heap[i]? := hF.block i hi.lt (h.int_out hi)
theorem COwn.keepI {B : Nat} {v : Value} {l : List Int} (h : COwn w B v l) (hb : ∀ i, IntB w i → w'.heap[i]? = w.heap[i]?) : COwn w' B v l := by
  obtain ⟨h0, h1 | ⟨g, cap, cur, hv, h1, h2, h3⟩⟩ := h
  · exact ⟨h0, .inl h1⟩
  · exact ⟨h0, .inr ⟨g, cap, cur, hv, h1, (hb g ⟨cur, h2⟩).trans h2, h3⟩⟩
theorem nodup_eq {α β : Type} {L : List α} {f : α → β} (hn : (L.map f).Nodup) {p q : α} (hp : p ∈ L) (hq : q ∈ L) (e : f p = f q) : p = q := by
  have hP := List.pairwise_iff_getElem.1 hn
  obtain ⟨i, hi, rfl⟩ := List.getElem_of_mem hp
  obtain ⟨j, hj, rfl⟩ := List.getElem_of_mem hq
  rcases Nat.lt_trichotomy i j with h | h | h
  · exact absurd ((List.getElem_map f).trans (e.trans (List.getElem_map f).symm)) (hP i j (by simpa using hi) (by simpa using hj) h)
  · subst h; rfl
  · exact absurd ((List.getElem_map f).trans (e.symm.trans (List.getElem_map f).symm)) (hP j i (by simpa using hj) (by simpa using hi) h)
theorem one_ne {p q : Int × On} (hn : (L.map (·.2.b)).Nodup) (hp : p ∈ L) (hq : q ∈ L) (h : p.1 ≠ q.1) : p.2.b ≠ q.2.b := fun e => h (by rw [nodup_eq (f := fun p : Int × On => p.2.b) hn hp hq e])
theorem one_neo {p q : Int × On} (hn : (L.map (·.2.o)).Nodup) (hp : p ∈ L) (hq : q ∈ L) (h : p.1 ≠ q.1) : p.2.o ≠ q.2.o := fun e => h (by rw [nodup_eq (f := fun p : Int × On => p.2.o) hn hp hq e])
theorem key_eq (hk : (L.map (·.1)).Nodup) {p : Int × On} (hp : p ∈ L) {n : Int} (h : p.1 = n) (hg : U.getL L n = some x) : p = (n, x) := by
  have h1 := (U.getL_memV hk n x).1 hg
  exact U.eq_of_keyV hk hp h1 h
theorem OnOk.box_map (h : OnOk w x) {y : On} (k : OnOk w y) : x.b ≠ y.o := by
  intro e
  obtain ⟨es, c, hb, _⟩ := k.map
  have := h.box
  rw [e, hb] at this; cases this
theorem updR_map {β : Type} (f : Int × On → β) (hk : (L.map (·.1)).Nodup) {n : Int} {y : On} (hg : U.getL L n = some x) (hf : f (n, y) = f (n, x)) : (updR L n y).map f = L.map f := by
  unfold updR
  rw [List.map_map]
  apply List.map_congr_left
  intro p hp
  show f (if p.1 = n then (n, y) else p) = f p
  split
  · rename_i e; rw [hf, key_eq hk hp e hg]
  · rfl
theorem mem_updR {n : Int} {y : On} {p : Int × On} (h : p ∈ updR L n y) : p = (n, y) ∨ (p ∈ L ∧ p.1 ≠ n) := by
  obtain ⟨q, hq, rfl⟩ := List.mem_map.1 h
  by_cases e : q.1 = n
  · exact .inl (by simp [e])
  · exact .inr (by simp [e, hq])
/-- One round has changed. -/
theorem Rds.set (h : Rds w r m L) {n : Int} (hg : U.getL L n = some x) {y : On} (hb : y.b = x.b) (ho : y.o = x.o) (hF : Fr (fun i => i = x.b ∨ i = x.o) w w') (hy : OnOk w' y) : Rds w' r m (updR L n y) ∧ Mv m L w (updR L n y) w' := by
  have hx := h.at hg
  have hFR : Fr (RS m L) w w' := hF.mono fun i hi => .inr ⟨_, hx.1, hi⟩
  have hm : ¬ (m = x.b ∨ m = x.o) := by
    rintro (e | e)
    · exact h.map.no_cells (e ▸ hx.2.box)
    · exact h.mo _ hx.1 e.symm
  refine ⟨⟨(hFR.block r h.lt.1 h.r_out).trans h.box, ?_, ?_, ?_, ?_, ?_⟩, hFR, fun i hi => .inl ?_⟩
  · have e : mapR (updR L n y) = mapR L := updR_map _ h.keys hg (by simp [hb])
    rw [e]
    exact h.map.block (hF.block m h.lt.2 hm)
  · intro p hp
    rcases mem_updR hp with rfl | ⟨hp, hne⟩
    · exact hy
    · have hp2 := h.one p hp
      refine hp2.keep fun i hi => hF.block i ?_ ?_
      · rcases hi with rfl | rfl | hi
        · exact hp2.lt.1
        · exact hp2.lt.2
        · exact hi.lt
      · rcases hi with rfl | rfl | hi
        · rintro (e | e)
          · exact one_ne h.ndb hp hx.1 hne e
          · exact hp2.box_map hx.2 e
        · rintro (e | e)
          · exact hx.2.box_map hp2 e.symm
          · exact one_neo h.ndo hp hx.1 hne e
        · intro e
          exact h.int_out hi (.inr ⟨_, hx.1, e⟩)
  · rw [updR_map _ h.keys hg (by simp [hb])]; exact h.ndb
  · rw [updR_map _ h.keys hg (by simp [ho])]; exact h.ndo
  · intro p hp
    rcases mem_updR hp with rfl | ⟨hp, _⟩
    · show y.o ≠ m
      rw [ho]; exact h.mo _ hx.1
    · exact h.mo p hp
  · rcases hi with rfl | ⟨p, hp, hi⟩
    · exact .inl rfl
    · rcases mem_updR hp with rfl | ⟨hp, _⟩
      · exact .inr ⟨_, hx.1, by rwa [hb, ho] at hi⟩
      · exact .inr ⟨p, hp, hi⟩
/-- One more: its credit, its map, its box are new. -/
theorem Rds.more (h : Rds w r m L) {n : Int} (hg : U.getL L n = none) {y : On} (hB : Below w.heap.size w w') (hy : OnOk w' y) (hyb : w.heap.size ≤ y.b) (hyo : w.heap.size ≤ y.o) (hO : OnlyAt w' w'' m) (hM : U.MapL evP w'' m (U.putL (mapR L) n y.b)) :
    Rds w'' r m (L ++ [(n, y)]) ∧ Mv m L w (L ++ [(n, y)]) w'' := by
  have h' := h.below hB
  have hm := h.lt.2
  have hk : ∀ i, i ≠ m → w''.heap[i]? = w'.heap[i]? := fun i hi => hO.2.2.2.2.1 i hi
  have hIm : ∀ i, IntB w' i → i ≠ m := fun i ⟨cur, hi⟩ e => h'.map.no_cells (e ▸ hi)
  have hone : ∀ z, OnOk w' z → z.o ≠ m → OnOk w'' z := fun z hz hzo => hz.keep fun i hi => hk i (by
    rcases hi with rfl | rfl | hi
    · exact fun e => h'.map.no_cells (e ▸ hz.box)
    · exact hzo
    · exact hIm i hi)
  refine ⟨⟨(hk r (fun e => h'.map.no_cells (e ▸ h'.box))).trans h'.box, ?_, ?_, ?_, ?_, ?_⟩, ?_, ?_⟩
  · rw [U.putL_newV (by rw [getL_mapR, hg]; rfl)] at hM
    rw [show mapR (L ++ [(n, y)]) = mapR L ++ [(n, y.b)] by unfold mapR; simp]
    exact hM
  · intro p hp
    rcases List.mem_append.1 hp with hp | hp
    · exact hone _ (h'.one p hp) (h.mo p hp)
    · rw [List.mem_singleton] at hp
      rw [hp]
      exact hone _ hy (by simp only; omega)
  · rw [List.map_append, List.nodup_append]
    refine ⟨h.ndb, by simp, fun a ha b hb e => ?_⟩
    obtain ⟨p, hp, rfl⟩ := List.mem_map.1 ha
    simp at hb
    have := (h.one p hp).lt.1
    omega
  · rw [List.map_append, List.nodup_append]
    refine ⟨h.ndo, by simp, fun a ha b hb e => ?_⟩
    obtain ⟨p, hp, rfl⟩ := List.mem_map.1 ha
    simp at hb
    have := (h.one p hp).lt.2
    omega
  · intro p hp
    rcases List.mem_append.1 hp with hp | hp
    · exact h.mo p hp
    · rw [List.mem_singleton] at hp
      rw [hp]; simp only; omega
  · exact (Fr.of_below hB).only hO (.inl rfl)
  · rintro i (rfl | ⟨p, hp, hi⟩)
    · exact .inl (.inl rfl)
    · rcases List.mem_append.1 hp with hp | hp
      · exact .inl (.inr ⟨p, hp, hi⟩)
      · rw [List.mem_singleton] at hp
        rw [hp] at hi
        right
        simp only at hi
        omega
/-- One less. -/
theorem Rds.less (h : Rds w r m L) (n : Int) (hO : OnlyAt w w' m) (hM : U.MapL evP w' m (U.delL (mapR L) n)) : Rds w' r m (U.delL L n) ∧ Mv m L w (U.delL L n) w' := by
  have hk : ∀ i, i ≠ m → w'.heap[i]? = w.heap[i]? := fun i hi => hO.2.2.2.2.1 i hi
  have hIm : ∀ i, IntB w i → i ≠ m := fun i ⟨cur, hi⟩ e => h.map.no_cells (e ▸ hi)
  have hsub : ∀ p, p ∈ U.delL L n → p ∈ L := fun p hp => (List.mem_filter.1 hp).1
  refine ⟨⟨(hk r (fun e => h.map.no_cells (e ▸ h.box))).trans h.box, ?_, ?_, ?_, ?_, ?_⟩, ?_, ?_⟩
  · have e : mapR (U.delL L n) = U.delL (mapR L) n := by
      unfold mapR U.delL
      rw [List.filter_map]; rfl
    rw [e]; exact hM
  · intro p hp
    have hz := h.one p (hsub p hp)
    exact hz.keep fun i hi => hk i (by
      rcases hi with rfl | rfl | hi
      · exact fun e => h.map.no_cells (e ▸ hz.box)
      · exact h.mo p (hsub p hp)
      · exact hIm i hi)
  · exact h.ndb.sublist (List.filter_sublist.map _)
  · exact h.ndo.sublist (List.filter_sublist.map _)
  · exact fun p hp => h.mo p (hsub p hp)
  · exact (Fr.refl _ _).only hO (.inl rfl)
  · rintro i (rfl | ⟨p, hp, hi⟩)
    · exact .inl (.inl rfl)
    · exact .inl (.inr ⟨p, hsub p hp, hi⟩)
end
end Go.Proofs.Ytenebamecmblaaa
