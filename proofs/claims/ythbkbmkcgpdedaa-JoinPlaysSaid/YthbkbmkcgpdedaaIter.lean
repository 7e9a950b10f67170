/- Ranging over a map of names: the steps of its iterator. -/
import Derived.Test.YthbkbmkcgpdedaaFr
namespace Go.Proofs.Ythbkbmkcgpdedaa
open Go.RowKit Go.ChangeMaps

section
variable {V : Type} {ev : V → Value} {P : Program} {k : TypeId} {w : World} {r m : Nat} {l : List (Nm × V)} {done : List Nm}

/-- Block r is an iterator over the map in block m, which holds l; the names in 'done' have been handed out. -/
def IterL (ev : V → Value) (w : World) (r m : Nat) (l : List (Nm × V)) (done : List Nm) : Prop :=
  ∃ es clock since seen last, w.heap[m]? = some (.map es clock) ∧ es.toList.map (fun e => (e.key, e.val)) = l.map (fun p => (encN p.1, ev p.2)) ∧ (l.map (·.1)).Nodup ∧
    (es.toList.map (·.born)).Nodup ∧ (∀ e ∈ es.toList, e.born < since) ∧ since ≤ last ∧ since ≤ clock ∧ w.heap[r]? = some (.mapIter (some m) since seen last) ∧
    ∀ e ∈ es.toList, ∀ n, e.key = encN n → (seen.contains e.born = true ↔ n ∈ done)

theorem encN_inj {a b : Nm} (h : encN a = encN b) : a = b := by
  unfold encN at h
  injection h with h
  have := congrArg Array.toList h
  simp at this
  exact Prod.ext this.1 this.2

theorem IterL.lt (h : IterL ev w r m l done) : r < w.heap.size ∧ m < w.heap.size ∧ r ≠ m := by
  obtain ⟨es, c, s, sn, la, h1, _, _, _, _, _, _, h2, _⟩ := h
  refine ⟨(Array.getElem?_eq_some_iff.1 h2).1, (Array.getElem?_eq_some_iff.1 h1).1, fun e => ?_⟩
  rw [e, h1] at h2; cases h2
theorem IterL.block {w' : World} (h : IterL ev w r m l done) (h1 : w'.heap[m]? = w.heap[m]?) (h2 : w'.heap[r]? = w.heap[r]?) : IterL ev w' r m l done := by
  obtain ⟨es, c, s, sn, la, a, b, c', d, e, f, g, i, j⟩ := h
  exact ⟨es, c, s, sn, la, h1.trans a, b, c', d, e, f, g, h2.trans i, j⟩
theorem IterL.map (h : IterL ev w r m l done) : MapL ev w m l := by
  obtain ⟨es, c, s, sn, la, a, b, c', d, e, f, g, i, j⟩ := h
  exact ⟨es, c, a, b, c', d, fun x hx => Nat.lt_of_lt_of_le (e x hx) g⟩

/-- 'range m': the new iterator. -/
theorem range_run (h : MapL ev w m l) {t e : TypeId} (ht : P.underlying t = some (.map k e)) :
    ∃ w', (Instr.range t (.map (some m))).run P w = .ok (.pointer (some ⟨w.heap.size, 0, none⟩)) w' ∧ IterL ev w' w.heap.size m l [] ∧ Below w.heap.size w w' ∧ w'.heap.size = w.heap.size + 1 := by
  have hlt := h.lt
  obtain ⟨es, clock, hb, he, hn, hs, hc⟩ := h
  refine ⟨w.alloc (.mapIter (some m) clock #[] clock), ?_, ?_, (Below.refl _ _).alloc (Nat.le_refl _) _, by simp⟩
  · simp [Instr.range, run_underlying ht, MapKept.run_getObj_map hb, Result.andThen]
  · refine ⟨es, clock, clock, #[], clock, (Below.heap_alloc _ _ _ hlt).trans hb, he, hn, hs, hc, Nat.le_refl _, Nat.le_refl _, heap_alloc_new w _, fun e _ n _ => by simp⟩

theorem IterL.next (h : IterL ev w r m l done) (ty : TypeId) :
    ((∀ p ∈ l, p.1 ∈ done) ∧ (Instr.next (.pointer (some ⟨r, 0, none⟩)) false ty).run P w = .ok (.tuple #[.bool false]) w) ∨
    ∃ p ∈ l, p.1 ∉ done ∧ ∃ w', (Instr.next (.pointer (some ⟨r, 0, none⟩)) false ty).run P w = .ok (.tuple #[.bool true, encN p.1, ev p.2]) w' ∧ IterL ev w' r m l (done ++ [p.1]) ∧
      (w'.os = w.os ∧ w'.tape = w.tape ∧ w'.output = w.output ∧ w'.heap.size = w.heap.size ∧ (∀ i, i ≠ r → w'.heap[i]? = w.heap[i]?)) ∧
      ∀ w2 : World, w2.heap[m]? = w'.heap[m]? → w2.heap[r]? = w'.heap[r]? → (Instr.entry (.pointer (some ⟨r, 0, none⟩))).run P w2 = .ok (.tuple #[encN p.1, ev p.2]) w2 := by
  have hlt := h.lt
  obtain ⟨es, clock, since, seen, last, hm, he, hn, hs, hold, hsl, hsc, hr, hde⟩ := h
  have hlen : es.size = l.length := by have := congrArg List.length he; simpa using this
  have hkv : ∀ i (h1 : i < es.size), (es[i].key, es[i].val) = (encN (l[i]'(by omega)).1, ev (l[i]'(by omega)).2) := by
    intro i h1
    have := congrArg (fun x => x[i]?) he
    simpa [h1, show i < l.length by omega] using this
  have hd : ∀ i (h : i < es.size) (h' : i < l.length), seen.contains es[i].born = true ↔ l[i].1 ∈ done := fun i h h' =>
    hde es[i] (by simp) l[i].1 (Prod.mk.inj (hkv i h)).1
  rcases run_next_at (P := P) w ty r m since last seen es clock hr hm hold hsl with ⟨h0, hrun⟩ | ⟨e, hel, w1, hw1, hrun⟩
  · left
    refine ⟨fun p hp => ?_, hrun⟩
    obtain ⟨i, hi, rfl⟩ := List.getElem_of_mem hp
    have hie : i < es.size := by omega
    refine (hd i hie hi).1 ?_
    cases hc : seen.contains es[i].born
    · have : es[i] ∈ leftOf es seen := by unfold leftOf; rw [Array.mem_filter]; exact ⟨Array.getElem_mem hie, by rw [hc]; rfl⟩
      have e0 : leftOf es seen = #[] := Array.eq_empty_of_size_eq_zero h0
      rw [e0] at this; simp at this
    · rfl
  · right
    have hel' : e ∈ leftOf es seen := by simpa using hel
    unfold leftOf at hel'
    rw [Array.mem_filter] at hel'
    obtain ⟨hmem, hns⟩ := hel'
    obtain ⟨i, hi, rfl⟩ := Array.getElem_of_mem hmem
    have hil : i < l.length := by omega
    have hk := Prod.mk.inj (hkv i hi)
    have hnd : l[i].1 ∉ done := fun hx => by rw [(hd i hi hil).2 hx] at hns; simp at hns
    have hw1h : w1.heap = w.heap ∧ w1.os = w.os ∧ w1.tape = w.tape ∧ w1.output = w.output := by rcases hw1 with rfl | rfl <;> exact ⟨rfl, rfl, rfl, rfl⟩
    have hother : ∀ j, j ≠ r → (setBlock w1 r (.mapIter (some m) since (seen.push es[i].born) clock)).heap[j]? = w.heap[j]? := fun j hj => by
      simp [setBlock, hw1h.1, Ne.symm hj]
    have hself : (setBlock w1 r (.mapIter (some m) since (seen.push es[i].born) clock)).heap[r]? = some (.mapIter (some m) since (seen.push es[i].born) clock) := by
      simp [setBlock, hw1h.1, hlt.1]
    refine ⟨l[i], List.getElem_mem hil, hnd, setBlock w1 r (.mapIter (some m) since (seen.push es[i].born) clock), by rw [hrun, hk.1, hk.2], ?_, ⟨hw1h.2.1, hw1h.2.2.1, hw1h.2.2.2, by simp [setBlock, hw1h.1], hother⟩, ?_⟩
    · refine ⟨es, clock, since, seen.push es[i].born, clock, (hother m (Ne.symm hlt.2.2)).trans hm, he, hn, hs, hold, hsc, hsc, hself, ?_⟩
      intro e' he' n' hn'
      obtain ⟨j, hj, rfl⟩ := List.getElem_of_mem he'
      have hj2 : j < es.size := by simpa using hj
      have hjl : j < l.length := by omega
      have hkj := (Prod.mk.inj (hkv j hj2)).1
      simp only [Array.getElem_toList] at hn' ⊢
      have hnn : n' = l[j].1 := encN_inj (hn'.symm.trans hkj)
      subst hnn
      simp only [Array.contains_push, Bool.or_eq_true, beq_iff_eq, List.mem_append, List.mem_singleton]
      rw [hd j hj2 hjl]
      constructor
      · rintro (h | h)
        · exact .inl h
        · have : j = i := by
            have hp := List.pairwise_iff_getElem.1 hs
            rcases Nat.lt_trichotomy j i with e | e | e
            · exact (hp j i (by simpa using hj2) (by simpa using hi) e (by simp only [List.getElem_map, Array.getElem_toList]; exact h)).elim
            · exact e
            · exact (hp i j (by simpa using hi) (by simpa using hj2) e (by simp only [List.getElem_map, Array.getElem_toList]; exact h.symm)).elim
          subst this; exact .inr rfl
      · rintro (h | h)
        · exact .inl h
        · have : j = i := idx_only hn hjl hil h rfl
          subst this; exact .inr rfl
    · intro w2 h1 h2
      have := run_entry_at (P := P) w2 r m since seen es clock es[i] (h2.trans hself) (h1.trans ((hother m (Ne.symm hlt.2.2)).trans hm)) (by simp) hs
      rw [this, hk.1, hk.2]

/-- What is deleted between two steps: the iterator goes on over what is left. -/
theorem IterL.deleted {w' : World} {n : Nm} (h : IterL ev w r m l done) (hM : MapL ev w' m (delL l n)) (hO : OnlyAt w w' m)
    (hsub : ∀ es clock, w.heap[m]? = some (.map es clock) → ∃ es', w'.heap[m]? = some (.map es' clock) ∧ ∀ x ∈ es'.toList, x ∈ es.toList) : IterL ev w' r m (delL l n) done := by
  have hlt := h.lt
  obtain ⟨es, clock, since, seen, last, hm, he, hn, hs, hold, hsl, hsc, hr, hd⟩ := h
  obtain ⟨es1, h1, h2⟩ := hsub es clock hm
  obtain ⟨es2, c2, g1, g2, g3, g4, g5⟩ := hM
  rw [h1] at g1
  cases g1
  exact ⟨es1, clock, since, seen, last, h1, g2, g3, g4, fun e x => hold e (h2 e x), hsl, hsc, (hO.2.2.2.2.1 r hlt.2.2).trans hr, fun e x => hd e (h2 e x)⟩
end
end Go.Proofs.Ythbkbmkcgpdedaa
