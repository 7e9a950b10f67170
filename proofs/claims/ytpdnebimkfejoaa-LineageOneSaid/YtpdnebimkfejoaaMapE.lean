/- Maps keyed by names: an entry made first, filled later. -/
import Derived.Test.YtpdnebimkfejoaaMap
namespace Go.Proofs.Ytpdnebimkfejoaa
open Go.RowKit Go.ChangeMaps

theorem findIdx_bornM {l : List MapEntry} (hn : (l.map (·.born)).Nodup) {j : Nat} {e0 : MapEntry} (h : l[j]? = some e0) : l.findIdx? (fun e => ((e.born : Nat) : Int) == ((e0.born : Nat) : Int)) = some j := by
  induction l generalizing j with
  | nil => simp at h
  | cons a r ih =>
    simp only [List.map_cons, List.nodup_cons] at hn
    cases j with
    | zero =>
      simp only [List.getElem?_cons_zero, Option.some.injEq] at h
      subst h
      simp [List.findIdx?_cons]
    | succ j =>
      simp only [List.getElem?_cons_succ] at h
      have hne : a.born ≠ e0.born := fun e1 => hn.1 (List.mem_map.2 ⟨e0, List.mem_of_getElem? h, e1.symm⟩)
      have hb : (((a.born : Nat) : Int) == ((e0.born : Nat) : Int)) = false := by
        simp only [beq_eq_false_iff_ne, ne_eq, Int.natCast_inj]
        exact hne
      rw [List.findIdx?_cons, hb]
      simp [ih hn.2 h]
theorem modify_lastM {α : Type} (f : α → α) (a : α) : ∀ l : List α, (l ++ [a]).modify l.length f = l ++ [f a]
  | [] => rfl
  | b :: r => by simp [List.modify_succ_cons, modify_lastM f a r]
section
variable {V : Type} {ev : V → Value} {P : Program} {k : TypeId} {w : World} {b : Nat} {l : List (Nm × V)}
/-- A key that the map lacks: its entry, then its value. -/
theorem MapL.entry (h : MapL ev w b l) (K : NameTy P k) {t e : TypeId} (ht : P.underlying t = some (.map k e)) {z : Value} (hz : (zeroValue e).run P w = .ok z w) {n : Nm} (hg : getL l n = none) :
    ∃ (st : Nat) (w1 : World), (Instr.mapEntry t (.map (some b)) (encN n)).run P w = .ok (.tuple #[z, goInt st]) w1 ∧ OnlyAt w w1 b ∧
      ∀ (w2 : World) (v : V), w2.heap[b]? = w1.heap[b]? → ∃ w3, (Instr.entryStore t (.map (some b)) (goInt st) (ev v)).run P w2 = .ok () w3 ∧ MapL ev w3 b (putL l n v) ∧ OnlyAt w2 w3 b := by
  obtain ⟨es, clock, hb, he, hn, hs, hc⟩ := h
  have hbs := (Array.getElem?_eq_some_iff.1 hb).1
  have hf := findKey_run (P := P) (w := w) K n es.toList l he
  have hi : l.findIdx? (fun p => decide (p.1 = n)) = none := by
    unfold getL at hg
    rw [Option.map_eq_none_iff, List.find?_eq_none] at hg
    rw [List.findIdx?_eq_none_iff]
    intro x hx; simpa using hg x hx
  rw [hi] at hf
  have hany := nodup_any hi
  refine ⟨clock, _, by simp only [Instr.mapEntry, Sem.run_bind, run_underlying ht, MapKept.run_getObj_map hb, Result.andThen, K.check, hf, Option.bind_none, hz, MapKept.run_setObj_map _ hb]; rfl, onlyAt_set _ _ _, fun w2 v hw2 => ?_⟩
  have hw2' : w2.heap[b]? = some (.map (es.push ⟨encN n, z, clock⟩) (clock + 1)) := by rw [hw2]; simp [hbs]
  have hbs2 := (Array.getElem?_eq_some_iff.1 hw2').1
  have hidx : (es.push ⟨encN n, z, clock⟩).findIdx? (fun e => ((e.born : Nat) : Int) == ((clock : Nat) : Int)) = some es.size := by
    have hl : (es.push ⟨encN n, z, clock⟩).findIdx? (fun e => ((e.born : Nat) : Int) == ((clock : Nat) : Int)) = (es.push ⟨encN n, z, clock⟩).toList.findIdx? (fun e => ((e.born : Nat) : Int) == ((clock : Nat) : Int)) := by
      cases es; simp
    rw [hl]
    exact findIdx_bornM (l := (es.push ⟨encN n, z, clock⟩).toList) (j := es.size) (e0 := ⟨encN n, z, clock⟩) (by
      simp only [Array.toList_push, List.map_append, List.map_cons, List.map_nil]
      refine List.nodup_append.2 ⟨hs, by simp, fun a ha c hc' e1 => ?_⟩
      simp only [List.mem_singleton] at hc'
      obtain ⟨x, hx, rfl⟩ := List.mem_map.1 ha
      have := hc x hx
      omega) (by simp)
  have hmod : (es.push ⟨encN n, z, clock⟩).modify es.size (fun e => { e with val := ev v }) = es.push ⟨encN n, ev v, clock⟩ := by
    apply Array.ext'
    rw [Array.toList_modify, Array.toList_push, Array.toList_push, ← Array.length_toList, modify_lastM]
  refine ⟨_, by simp [Instr.entryStore, MapKept.run_getObj_map hw2', asInt, asIntOf, goInt, hidx, hmod, MapKept.run_setObj_map _ hw2', Result.andThen]; rfl, ?_, onlyAt_set _ _ _⟩
  refine ⟨es.push ⟨encN n, ev v, clock⟩, clock + 1, by simp [hbs2], ?_, ?_, ?_, ?_⟩
  · unfold putL; rw [hany]; simp [he]
  · unfold putL; rw [hany]
    simp only [Bool.false_eq_true, if_false, List.map_append, List.map_cons, List.map_nil]
    rw [List.nodup_append]
    refine ⟨hn, by simp, ?_⟩
    intro a ha b' hb' e2
    simp only [List.mem_singleton] at hb'
    subst hb'; subst e2
    obtain ⟨q, hq, hq2⟩ := List.mem_map.1 ha
    rw [List.any_eq_false] at hany
    exact absurd hq2 (by simpa using hany q hq)
  · simp only [Array.toList_push, List.map_append, List.map_cons, List.map_nil]
    rw [List.nodup_append]
    refine ⟨hs, by simp, ?_⟩
    intro a ha b' hb' e2
    simp only [List.mem_singleton] at hb'
    obtain ⟨q, hq, hq2⟩ := List.mem_map.1 ha
    have := hc q hq
    omega
  · intro x hx
    simp only [Array.toList_push, List.mem_append, List.mem_singleton] at hx
    rcases hx with hx | hx
    · have := hc x hx; omega
    · subst hx; simp
/-- .. and what it reads as between: the zero value. -/
theorem MapL.entryZ {v0 : V} (h : MapL ev w b l) (K : NameTy P k) {t e : TypeId} (ht : P.underlying t = some (.map k e)) {z : Value} (hz : (zeroValue e).run P w = .ok z w) {n : Nm} (hg : getL l n = none) (hv0 : ev v0 = z) :
    ∃ (st : Nat) (w1 : World), (Instr.mapEntry t (.map (some b)) (encN n)).run P w = .ok (.tuple #[z, goInt st]) w1 ∧ OnlyAt w w1 b ∧ MapL ev w1 b (putL l n v0) ∧
      ∀ (w2 : World) (v : V), w2.heap[b]? = w1.heap[b]? → ∃ w3, (Instr.entryStore t (.map (some b)) (goInt st) (ev v)).run P w2 = .ok () w3 ∧ MapL ev w3 b (putL l n v) ∧ OnlyAt w2 w3 b := by
  obtain ⟨es, clock, hb, he, hn, hs, hc⟩ := h
  have hbs := (Array.getElem?_eq_some_iff.1 hb).1
  have hf := findKey_run (P := P) (w := w) K n es.toList l he
  have hi : l.findIdx? (fun p => decide (p.1 = n)) = none := by
    unfold getL at hg
    rw [Option.map_eq_none_iff, List.find?_eq_none] at hg
    rw [List.findIdx?_eq_none_iff]
    intro x hx; simpa using hg x hx
  rw [hi] at hf
  have hany := nodup_any hi
  refine ⟨clock, _, by simp only [Instr.mapEntry, Sem.run_bind, run_underlying ht, MapKept.run_getObj_map hb, Result.andThen, K.check, hf, Option.bind_none, hz, MapKept.run_setObj_map _ hb]; rfl, onlyAt_set _ _ _, ?mid, fun w2 v hw2 => ?_⟩
  case mid =>
    refine ⟨es.push ⟨encN n, ev v0, clock⟩, clock + 1, by rw [hv0]; simp [hbs], ?_, ?_, ?_, ?_⟩
    · unfold putL; rw [hany]; simp [he]
    · unfold putL; rw [hany]
      simp only [Bool.false_eq_true, if_false, List.map_append, List.map_cons, List.map_nil]
      rw [List.nodup_append]
      refine ⟨hn, by simp, ?_⟩
      intro a ha b' hb' e2
      simp only [List.mem_singleton] at hb'
      subst hb'; subst e2
      obtain ⟨q, hq, hq2⟩ := List.mem_map.1 ha
      rw [List.any_eq_false] at hany
      exact absurd hq2 (by simpa using hany q hq)
    · simp only [Array.toList_push, List.map_append, List.map_cons, List.map_nil]
      rw [List.nodup_append]
      refine ⟨hs, by simp, ?_⟩
      intro a ha b' hb' e2
      simp only [List.mem_singleton] at hb'
      obtain ⟨q, hq, hq2⟩ := List.mem_map.1 ha
      have := hc q hq
      omega
    · intro x hx
      simp only [Array.toList_push, List.mem_append, List.mem_singleton] at hx
      rcases hx with hx | hx
      · have := hc x hx; omega
      · subst hx; simp
  have hw2' : w2.heap[b]? = some (.map (es.push ⟨encN n, z, clock⟩) (clock + 1)) := by rw [hw2]; simp [hbs]
  have hbs2 := (Array.getElem?_eq_some_iff.1 hw2').1
  have hidx : (es.push ⟨encN n, z, clock⟩).findIdx? (fun e => ((e.born : Nat) : Int) == ((clock : Nat) : Int)) = some es.size := by
    have hl : (es.push ⟨encN n, z, clock⟩).findIdx? (fun e => ((e.born : Nat) : Int) == ((clock : Nat) : Int)) = (es.push ⟨encN n, z, clock⟩).toList.findIdx? (fun e => ((e.born : Nat) : Int) == ((clock : Nat) : Int)) := by
      cases es; simp
    rw [hl]
    exact findIdx_bornM (l := (es.push ⟨encN n, z, clock⟩).toList) (j := es.size) (e0 := ⟨encN n, z, clock⟩) (by
      simp only [Array.toList_push, List.map_append, List.map_cons, List.map_nil]
      refine List.nodup_append.2 ⟨hs, by simp, fun a ha c hc' e1 => ?_⟩
      simp only [List.mem_singleton] at hc'
      obtain ⟨x, hx, rfl⟩ := List.mem_map.1 ha
      have := hc x hx
      omega) (by simp)
  have hmod : (es.push ⟨encN n, z, clock⟩).modify es.size (fun e => { e with val := ev v }) = es.push ⟨encN n, ev v, clock⟩ := by
    apply Array.ext'
    rw [Array.toList_modify, Array.toList_push, Array.toList_push, ← Array.length_toList, modify_lastM]
  refine ⟨_, by simp [Instr.entryStore, MapKept.run_getObj_map hw2', asInt, asIntOf, goInt, hidx, hmod, MapKept.run_setObj_map _ hw2', Result.andThen]; rfl, ?_, onlyAt_set _ _ _⟩
  refine ⟨es.push ⟨encN n, ev v, clock⟩, clock + 1, by simp [hbs2], ?_, ?_, ?_, ?_⟩
  · unfold putL; rw [hany]; simp [he]
  · unfold putL; rw [hany]
    simp only [Bool.false_eq_true, if_false, List.map_append, List.map_cons, List.map_nil]
    rw [List.nodup_append]
    refine ⟨hn, by simp, ?_⟩
    intro a ha b' hb' e2
    simp only [List.mem_singleton] at hb'
    subst hb'; subst e2
    obtain ⟨q, hq, hq2⟩ := List.mem_map.1 ha
    rw [List.any_eq_false] at hany
    exact absurd hq2 (by simpa using hany q hq)
  · simp only [Array.toList_push, List.map_append, List.map_cons, List.map_nil]
    rw [List.nodup_append]
    refine ⟨hs, by simp, ?_⟩
    intro a ha b' hb' e2
    simp only [List.mem_singleton] at hb'
    obtain ⟨q, hq, hq2⟩ := List.mem_map.1 ha
    have := hc q hq
    omega
  · intro x hx
    simp only [Array.toList_push, List.mem_append, List.mem_singleton] at hx
    rcases hx with hx | hx
    · have := hc x hx; omega
    · subst hx; simp
end
end Go.Proofs.Ytpdnebimkfejoaa
