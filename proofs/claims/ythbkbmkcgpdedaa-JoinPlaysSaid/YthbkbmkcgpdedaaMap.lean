/- Maps keyed by names (a job's number and a path): what a block holds, as a list of pairs; lookups, stores, deletes, ranges. -/
import Derived.Test.YthbkbmkcgpdedaaRows
import Derived.WalkKit
import Derived.WalkSpells
import Derived.WalkLawsBesides
import Derived.Lib.Hide
import Derived.Maps.RangeRun
import Derived.WideKeyRuns
import Derived.Lib.Strings
namespace Go.Proofs.Ythbkbmkcgpdedaa
open Go.RowKit Go.ChangeMaps

abbrev Nm := Int × ByteArray
def encN (n : Nm) : Value := .agg #[.int .u64 n.1, .string n.2]

/-- What is asked of the key's type. -/
structure NameTy (P : Program) (k : TypeId) : Prop where
  eq : ∀ w (a b : Nm), (Op.equal k (encN a) (encN b)).run P w = .ok (decide (a = b)) w
  check : ∀ w e n, (Instr.checkKey e 10000 k (encN n)).run P w = .ok () w
  wide : (match P.underlying k with | some (.array _ _) | some (.struct _) => true | _ => false) = true

theorem ba_beq_dec (a b : ByteArray) : (a.toList == b.toList) = decide (a = b) := by
  rw [Bool.eq_iff_iff]
  simp only [beq_iff_eq, decide_eq_true_eq, Lib.toList_data]
  constructor
  · intro h
    rcases a with ⟨x⟩; rcases b with ⟨y⟩
    have : x = y := Array.ext' h
    rw [this]
  · intro h; rw [h]
theorem nameTy : NameTy Try.prog 35 where
  eq w a b := by
    have e1 : (a.1 == b.1) = decide (a.1 = b.1) := rfl
    have h : decide (a = b) = ((a.1 == b.1) && (a.2.toList == b.2.toList)) := by
      rw [ba_beq_dec, e1, ← Bool.decide_and]; simp only [Prod.ext_iff]
    rw [h]
    unfold encN
    simp only [Op.equal, Op.maxDepth]
    simp [go_sem]
    by_cases h1 : a.1 = b.1
    · by_cases h2 : a.2.toList = b.2.toList <;> simp [h1, h2]
    · simp [h1]
  check w e n := by
    unfold encN
    rw [show (10000 : Nat) = 9998 + 1 + 1 from rfl, Instr.checkKey]
    simp [go_sem]
    rw [show (9999 : Nat) = 9998 + 1 from rfl, Instr.checkKey, Instr.checkKey]
    simp [go_sem]
  wide := by kernel_rfl

section
variable {V : Type} {ev : V → Value} {P : Program} {k : TypeId} {w : World} {b : Nat} {l : List (Nm × V)}

/-- Block b is a map that holds just these pairs. -/
def MapL (ev : V → Value) (w : World) (b : Nat) (l : List (Nm × V)) : Prop :=
  ∃ es clock, w.heap[b]? = some (.map es clock) ∧ es.toList.map (fun e => (e.key, e.val)) = l.map (fun p => (encN p.1, ev p.2)) ∧ (l.map (·.1)).Nodup ∧
    (es.toList.map (·.born)).Nodup ∧ ∀ e ∈ es.toList, e.born < clock

def getL (l : List (Nm × V)) (n : Nm) : Option V := (l.find? (fun p => decide (p.1 = n))).map (·.2)
def putL (l : List (Nm × V)) (n : Nm) (v : V) : List (Nm × V) := if l.any (fun p => decide (p.1 = n)) then l.map (fun p => if p.1 = n then (n, v) else p) else l ++ [(n, v)]
def delL (l : List (Nm × V)) (n : Nm) : List (Nm × V) := l.filter (fun p => !decide (p.1 = n))

theorem MapL.lt (h : MapL ev w b l) : b < w.heap.size := by obtain ⟨es, c, hb, _⟩ := h; exact (Array.getElem?_eq_some_iff.1 hb).1
theorem MapL.made (ev : V → Value) (w : World) : MapL ev (w.alloc (.map #[] 0)) w.heap.size [] := ⟨#[], 0, (MapKept.heap_alloc w _).1, rfl, List.nodup_nil, List.nodup_nil, by simp⟩
theorem MapL.block {w' : World} (h : MapL ev w b l) (hb : w'.heap[b]? = w.heap[b]?) : MapL ev w' b l := by obtain ⟨es, c, h1, h2⟩ := h; exact ⟨es, c, hb.trans h1, h2⟩

theorem findAsk (K : NameTy P k) (n : Nm) : ∀ (es : List MapEntry) (l : List (Nm × V)) (i : Nat), es.map (fun e => (e.key, e.val)) = l.map (fun p => (encN p.1, ev p.2)) →
    (Instr.findAsking k (encN n) es i).run P w = .ok (((l.findIdx? (fun p => decide (p.1 = n))).bind fun j => (l[j]?).map fun p => (i + j, ev p.2))) w
  | [], [], i, _ => by simp [Instr.findAsking, Sem.run_pure]
  | [], _ :: _, _, h => by simp at h
  | _ :: _, [], _, h => by simp at h
  | e :: es, p :: l, i, h => by
    simp only [List.map_cons, List.cons.injEq, Prod.mk.injEq] at h
    obtain ⟨⟨h1, h2⟩, h3⟩ := h
    unfold Instr.findAsking
    rw [h1]
    simp only [Sem.run_bind, K.eq, Result.andThen]
    by_cases hn : n = p.1
    · have hp : p.1 = n := hn.symm
      simp [hn, Sem.run_pure, h2, List.findIdx?_cons]
    · have hp : ¬ p.1 = n := fun e => hn e.symm
      rw [if_neg (by simpa using hn), findAsk K n es l (i + 1) h3, List.findIdx?_cons]
      simp only [hp, decide_false, Bool.false_eq_true, if_false, Option.bind_map]
      congr 1
      cases (List.findIdx? (fun p => decide (p.1 = n)) l) with
      | none => rfl
      | some j => simp [Nat.add_assoc, Nat.add_comm 1 j]

theorem findKey_run (K : NameTy P k) (n : Nm) (es : List MapEntry) (l : List (Nm × V)) (h : es.map (fun e => (e.key, e.val)) = l.map (fun p => (encN p.1, ev p.2))) :
    (Instr.findKey k (encN n) es).run P w = .ok (((l.findIdx? (fun p => decide (p.1 = n))).bind fun j => (l[j]?).map fun p => (j, ev p.2))) w := by
  rw [run_findKey_eq w K.wide]
  have := findAsk (w := w) K n es l 0 h
  simpa using this

theorem idx_get (l : List (Nm × V)) (n : Nm) : ((l.findIdx? (fun p => decide (p.1 = n))).bind fun j => (l[j]?).map fun p => (j, ev p.2)).map (·.2) = (getL l n).map ev := by
  unfold getL
  induction l with
  | nil => rfl
  | cons p l ih =>
    by_cases hp : p.1 = n
    · simp [List.findIdx?_cons, hp]
    · simp only [List.findIdx?_cons, hp, decide_false, Bool.false_eq_true, if_false, List.find?_cons]
      rw [← ih]
      cases List.findIdx? (fun p => decide (p.1 = n)) l <;> simp
      rename_i j
      cases l[j]? <;> simp

theorem MapL.lookup (h : MapL ev w b l) (K : NameTy P k) {t e : TypeId} (ht : P.underlying t = some (.map k e)) {z : Value} (hz : (zeroValue e).run P w = .ok z w) (n : Nm) :
    (Instr.lookup t (.map (some b)) (encN n) false).run P w = .ok (((getL l n).map ev).getD z) w := by
  obtain ⟨es, clock, hb, he, _⟩ := h
  have hg := idx_get (ev := ev) l n
  simp only [Instr.lookup, Sem.run_bind, run_underlying ht, MapKept.run_getObj_map hb, Result.andThen, K.check, findKey_run K n es.toList l he, Sem.run_pure]
  generalize ((l.findIdx? (fun p => decide (p.1 = n))).bind fun j => (l[j]?).map fun p => (j, ev p.2)) = r at hg
  rw [← hg]
  cases r <;> simp [Sem.run_pure, hz]

theorem MapL.lookupOk (h : MapL ev w b l) (K : NameTy P k) {t e : TypeId} (ht : P.underlying t = some (.map k e)) {z : Value} (hz : (zeroValue e).run P w = .ok z w) (n : Nm) :
    (Instr.lookup t (.map (some b)) (encN n) true).run P w = .ok (.tuple #[((getL l n).map ev).getD z, .bool (getL l n).isSome]) w := by
  obtain ⟨es, clock, hb, he, _⟩ := h
  have hg := idx_get (ev := ev) l n
  simp only [Instr.lookup, Sem.run_bind, run_underlying ht, MapKept.run_getObj_map hb, Result.andThen, K.check, findKey_run K n es.toList l he, Sem.run_pure]
  generalize ((l.findIdx? (fun p => decide (p.1 = n))).bind fun j => (l[j]?).map fun p => (j, ev p.2)) = r at hg
  have hs : (getL l n).isSome = r.isSome := by
    have := congrArg Option.isSome hg; simpa using this.symm
  rw [← hg, hs]
  cases r <;> simp [Sem.run_pure, hz, Result.andThen]

theorem sameBits_name (n : Nm) : Instr.sameBits 10000 (encN n) (encN n) = true := by
  rw [show (10000 : Nat) = 9998 + 1 + 1 from rfl]
  unfold encN
  simp [Instr.sameBits, beq_toListBytes]

theorem nodup_any {l : List (Nm × V)} {n : Nm} (h : l.findIdx? (fun p => decide (p.1 = n)) = none) : l.any (fun p => decide (p.1 = n)) = false := by
  rw [List.findIdx?_eq_none_iff] at h
  rw [List.any_eq_false]; intro x hx; simpa using h x hx

/-- The block behind a store: only it has turned. -/
def OnlyAt (w w' : World) (b : Nat) : Prop := w'.os = w.os ∧ w'.tape = w.tape ∧ w'.output = w.output ∧ w'.heap.size = w.heap.size ∧ (∀ i, i ≠ b → w'.heap[i]? = w.heap[i]?) ∧ w'.drawn = w.drawn

theorem onlyAt_set (w : World) (b : Nat) (o : Obj) : OnlyAt w { w with heap := w.heap.setIfInBounds b o } b :=
  ⟨rfl, rfl, rfl, by simp, fun i hi => by simp [Ne.symm hi], rfl⟩

theorem idx_at {l : List (Nm × V)} {n : Nm} {j : Nat} (h : l.findIdx? (fun p => decide (p.1 = n)) = some j) : ∃ hj : j < l.length, l[j].1 = n := by
  rw [List.findIdx?_eq_some_iff_getElem] at h
  obtain ⟨hj, h1, _⟩ := h
  exact ⟨hj, by simpa using h1⟩
theorem idx_only {l : List (Nm × V)} {n : Nm} (hn : (l.map (·.1)).Nodup) {i j : Nat} (hi : i < l.length) (hj : j < l.length) (h1 : l[i].1 = n) (h2 : l[j].1 = n) : i = j := by
  have hp := List.pairwise_iff_getElem.1 hn
  rcases Nat.lt_trichotomy i j with e | e | e
  · exact absurd (by rw [List.getElem_map, List.getElem_map, h1, h2]) (hp i j (by simpa using hi) (by simpa using hj) e)
  · exact e
  · exact absurd (by rw [List.getElem_map, List.getElem_map, h1, h2]) (hp j i (by simpa using hj) (by simpa using hi) e)

theorem MapL.update (h : MapL ev w b l) (K : NameTy P k) {t e : TypeId} (ht : P.underlying t = some (.map k e)) (n : Nm) (v : V) :
    ∃ w', (Instr.mapUpdate t (.map (some b)) (encN n) (ev v)).run P w = .ok () w' ∧ MapL ev w' b (putL l n v) ∧ OnlyAt w w' b := by
  obtain ⟨es, clock, hb, he, hn, hs, hc⟩ := h
  have hbs := (Array.getElem?_eq_some_iff.1 hb).1
  have hf := findKey_run (P := P) (w := w) K n es.toList l he
  cases hi : l.findIdx? (fun p => decide (p.1 = n)) with
  | none =>
    rw [hi] at hf
    refine ⟨_, by simp only [Instr.mapUpdate, Sem.run_bind, run_underlying ht, MapKept.run_getObj_map hb, Result.andThen, K.check, hf, Option.bind_none, MapKept.run_setObj_map _ hb]; rfl, ?_, onlyAt_set _ _ _⟩
    have hany := nodup_any hi
    refine ⟨es.push ⟨encN n, ev v, clock⟩, clock + 1, by simp [hbs], ?_, ?_, ?_, ?_⟩
    · unfold putL; rw [hany]; simp [he]
    · unfold putL; rw [hany]
      simp only [Bool.false_eq_true, if_false, List.map_append, List.map_cons, List.map_nil]
      rw [List.nodup_append]
      refine ⟨hn, by simp, ?_⟩
      intro a ha b' hb' e2
      simp only [List.mem_singleton] at hb'
      subst hb'; subst e2
      obtain ⟨q, hq, hq2⟩ := List.mem_map.1 ha
      rw [List.any_eq_false] at hany
      exact absurd hq2 (by simpa using hany q hq)
    · simp only [Array.toList_push, List.map_append, List.map_cons, List.map_nil]
      rw [List.nodup_append]
      refine ⟨hs, by simp, ?_⟩
      intro a ha b' hb' e2
      simp only [List.mem_singleton] at hb'
      obtain ⟨q, hq, hq2⟩ := List.mem_map.1 ha
      have := hc q hq
      omega
    · intro x hx
      simp only [Array.toList_push, List.mem_append, List.mem_singleton] at hx
      rcases hx with hx | hx
      · have := hc x hx; omega
      · subst hx; simp
  | some j =>
    obtain ⟨hj, hjn⟩ := idx_at hi
    rw [hi] at hf
    have hlen : es.size = l.length := by have := congrArg List.length he; simpa using this
    have hkv : ∀ i (h1 : i < es.size), (es[i].key, es[i].val) = (encN (l[i]'(by omega)).1, ev (l[i]'(by omega)).2) := by
      intro i h1
      have := congrArg (fun x => x[i]?) he
      simpa [h1, show i < l.length by omega] using this
    have hkj : ((es[j]?).map (·.key)).getD (encN n) = encN n := by
      rw [Array.getElem?_eq_getElem (by omega)]
      have := (Prod.mk.inj (hkv j (by omega))).1
      simp [this, hjn]
    have hstay : (Instr.keyThatStays (encN n) (encN n)).run P w = .ok (encN n) w := by simp [Instr.keyThatStays, sameBits_name]
    refine ⟨_, by simp only [Instr.mapUpdate, Sem.run_bind, run_underlying ht, MapKept.run_getObj_map hb, Result.andThen, K.check, hf, Option.bind_some, List.getElem?_eq_getElem hj, Option.map_some, hkj, hstay, MapKept.run_setObj_map _ hb]; rfl, ?_, onlyAt_set _ _ _⟩
    have hany : l.any (fun p => decide (p.1 = n)) = true := List.any_eq_true.2 ⟨l[j], List.getElem_mem hj, by simp [hjn]⟩
    refine ⟨es.modify j fun e => { e with key := encN n, val := ev v }, clock, by simp [hbs], ?_, ?_, ?_, ?_⟩
    · unfold putL; rw [hany, if_pos rfl]
      apply List.ext_getElem
      · simp [hlen]
      · intro i h1 h2
        have hi1 : i < es.size := by simpa using h1
        simp only [List.getElem_map, Array.getElem_toList, Array.getElem_modify]
        by_cases hij : j = i
        · subst hij; simp [hjn]
        · have hne : ¬ (l[i]'(by omega)).1 = n := fun e => hij (idx_only hn hj (by omega) hjn e)
          rw [if_neg hij, if_neg hne]
          exact hkv i hi1
    · unfold putL; rw [hany, if_pos rfl, List.map_map]
      have : ((fun p : Nm × V => p.1) ∘ fun p => if p.1 = n then (n, v) else p) = fun p => p.1 := by
        funext p; simp only [Function.comp]; split
        · rename_i e; exact e.symm
        · rfl
      rw [this]; exact hn
    · have : (es.modify j fun e => { e with key := encN n, val := ev v }).toList.map (·.born) = es.toList.map (·.born) := by
        apply List.ext_getElem
        · simp
        · intro i h1 h2
          simp only [List.getElem_map, Array.getElem_toList, Array.getElem_modify]
          split <;> rfl
      rw [this]; exact hs
    · intro x hx
      obtain ⟨i, h1, rfl⟩ := List.getElem_of_mem hx
      simp only [Array.getElem_toList, Array.getElem_modify]
      have := hc (es[i]'(by simpa using h1)) (by simp)
      split <;> exact this

theorem map_erase {α β : Type} (f : α → β) : ∀ (l : List α) (j : Nat), (l.eraseIdx j).map f = (l.map f).eraseIdx j
  | [], _ => by simp
  | _ :: _, 0 => by simp
  | a :: l, j + 1 => by simp [map_erase f l j]

theorem MapL.delete (h : MapL ev w b l) (K : NameTy P k) {t e : TypeId} (ht : P.underlying t = some (.map k e)) (n : Nm) (ty : TypeId) :
    ∃ w', (Builtin.delete_ #[t, k] ty #[.map (some b), encN n]).run P w = .ok (.tuple #[]) w' ∧ MapL ev w' b (delL l n) ∧ OnlyAt w w' b ∧
      ∀ es clock, w.heap[b]? = some (.map es clock) → ∃ es', w'.heap[b]? = some (.map es' clock) ∧ ∀ x ∈ es'.toList, x ∈ es.toList := by
  obtain ⟨es, clock, hb, he, hn, hs, hc⟩ := h
  have hbs := (Array.getElem?_eq_some_iff.1 hb).1
  have hf := findKey_run (P := P) (w := w) K n es.toList l he
  cases hi : l.findIdx? (fun p => decide (p.1 = n)) with
  | none =>
    rw [hi] at hf
    refine ⟨_, by simp [Builtin.delete_, run_underlying ht, MapKept.run_getObj_map hb, Result.andThen, K.check, hf, MapKept.run_setObj_map _ hb]; rfl, ?_, onlyAt_set _ _ _, fun es' c' h' => by rw [hb] at h'; cases h'; exact ⟨es, by simp [hbs], fun x hx => hx⟩⟩
    have hany := nodup_any hi
    have hd : delL l n = l := by
      unfold delL; rw [List.filter_eq_self]; intro x hx
      rw [List.any_eq_false] at hany; simpa using hany x hx
    rw [hd]
    exact ⟨es, clock, by simp [hbs], he, hn, hs, hc⟩
  | some j =>
    obtain ⟨hj, hjn⟩ := idx_at hi
    rw [hi] at hf
    have hlen : es.size = l.length := by have := congrArg List.length he; simpa using this
    refine ⟨_, by simp [Builtin.delete_, run_underlying ht, MapKept.run_getObj_map hb, Result.andThen, K.check, hf, hj, MapKept.run_setObj_map _ hb]; rfl, ?_, onlyAt_set _ _ _, fun es' c' h' => by
      rw [hb] at h'; cases h'
      refine ⟨es.eraseIdxIfInBounds j, by simp [hbs], fun x hx => ?_⟩
      have e9 : (es.eraseIdxIfInBounds j).toList = es.toList.eraseIdx j := by unfold Array.eraseIdxIfInBounds; rw [dif_pos (by omega)]; simp
      rw [e9] at hx; exact List.mem_of_mem_eraseIdx hx⟩
    have hd : delL l n = l.eraseIdx j := by
      unfold delL
      apply Eq.symm
      rw [List.eraseIdx_eq_take_drop_succ]
      conv => rhs; rw [← List.take_append_drop j l]
      rw [List.filter_append, List.drop_eq_getElem_cons hj, List.filter_cons]
      have e1 : (l.take j).filter (fun p => !decide (p.1 = n)) = l.take j := by
        rw [List.filter_eq_self]; intro x hx
        obtain ⟨i, h1, rfl⟩ := List.getElem_of_mem hx
        rw [List.length_take] at h1
        rw [List.getElem_take]
        have : ¬ (l[i]'(by omega)).1 = n := fun e => by have := idx_only hn hj (by omega) hjn e; omega
        simp [this]
      have e2 : (l.drop (j + 1)).filter (fun p => !decide (p.1 = n)) = l.drop (j + 1) := by
        rw [List.filter_eq_self]; intro x hx
        obtain ⟨i, h1, rfl⟩ := List.getElem_of_mem hx
        rw [List.length_drop] at h1
        rw [List.getElem_drop]
        have : ¬ (l[j + 1 + i]'(by omega)).1 = n := fun e => by have := idx_only hn hj (by omega) hjn e; omega
        simp [this]
      rw [e1, e2]; simp [hjn]
    have hes : (es.eraseIdxIfInBounds j).toList = es.toList.eraseIdx j := by
      unfold Array.eraseIdxIfInBounds; rw [dif_pos (by omega)]; simp
    rw [hd]
    refine ⟨es.eraseIdxIfInBounds j, clock, by simp [hbs], ?_, ?_, ?_, ?_⟩
    · rw [hes, map_erase, he, map_erase]
    · rw [map_erase]; exact hn.sublist (List.eraseIdx_sublist _ _)
    · rw [hes, map_erase]; exact hs.sublist (List.eraseIdx_sublist _ _)
    · intro x hx; rw [hes] at hx; exact hc x (List.mem_of_mem_eraseIdx hx)

theorem MapL.len (h : MapL ev w b l) {t e : TypeId} (ht : P.underlying t = some (.map k e)) (ty : TypeId) :
    (Builtin.len_ #[t] ty #[.map (some b)]).run P w = .ok (.int .i64 l.length) w := by
  obtain ⟨es, clock, hb, he, _⟩ := h
  have hlen : es.size = l.length := by have := congrArg List.length he; simpa using this
  simp [Builtin.len_, run_underlying ht, MapKept.run_getObj_map hb, Result.andThen, goInt, hlen]
end
end Go.Proofs.Ythbkbmkcgpdedaa
