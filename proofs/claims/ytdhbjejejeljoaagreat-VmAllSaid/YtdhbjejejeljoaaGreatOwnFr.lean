/- Several slices of the call's own side by side (the part that needs no program). -/
import Derived.Test.YtdhbjejejeljoaaGreatRows
import Derived.WalkKit
import Derived.WalkSpells
import Derived.WalkLawsBesides
import Derived.Lib.Hide
import Derived.Sort.OwnSorted
import Derived.Maps.RangeRun
import Derived.WideKeyRuns
import Derived.Lib.Strings
import Derived.Deep.AppendLies
namespace Go.Proofs.YtdhbjejejeljoaaGreat
open Go.RowKit Go.Sort

section
variable {w : World} {B : Nat} {E : TypeId}

/-- A slice of the call's own, not empty: its block. -/
theorem own_block {α : Type} {enc : α → Value} {v : Value} {l : List α} (h : w.ownsRow B E 1 v l.length (l.map enc)) (hl : l ≠ []) :
    ∃ g cap cur, v = .slice (some ⟨g, 0, none⟩) l.length cap ∧ B ≤ g ∧ g < w.heap.size ∧ w.heap[g]? = some (.cells cur E (0, 0)) ∧ l.length ≤ cap ∧ cap ≤ maxLen ∧ cur.size = cap * 1 ∧ cur.toList.take l.length = l.map enc := by
  obtain ⟨_, ⟨_, h⟩ | ⟨g, cap, cur, hv, hb, hg, h1, h2, h3, h4⟩⟩ := h
  · exact absurd (List.length_eq_zero_iff.1 h) hl
  · exact ⟨g, cap, cur, hv, hb, (Array.getElem?_eq_some_iff.1 hg).1, hg, h1, h2, h3, by simpa using h4⟩

theorem own_nil {v : Value} (h : w.ownsRow B E 1 v 0 []) : ∃ a cap, v = .slice a 0 cap := by
  obtain ⟨_, ⟨h, _⟩ | ⟨g, cap, cur, hv, _⟩⟩ := h
  · exact ⟨_, _, h⟩
  · exact ⟨_, _, hv⟩

theorem cell_of_take {α : Type} {enc : α → Value} {g : Nat} {cur : Array Value} {l : List α} {fz : Nat × Nat} (hg : w.heap[g]? = some (.cells cur E fz)) (h4 : cur.toList.take l.length = l.map enc) (j : Nat) (hj : j < l.length) :
    w.cell? ⟨g, j, none⟩ = some (enc l[j]) := by
  have h1 : (cur.toList.take l.length)[j]? = (l.map enc)[j]? := by rw [h4]
  rw [List.getElem?_take_of_lt hj] at h1
  simp only [World.cell?, hg, Option.isSome_none, Bool.false_eq_true, if_false]
  rw [← Array.getElem?_toList, h1]
  simp [hj]

theorem holds_own {α : Type} [Inhabited α] {enc : α → Value} {g : Nat} {cur : Array Value} {l : List α} (hg : w.heap[g]? = some (.cells cur E (0, 0))) (h4 : cur.toList.take l.length = l.map enc) : Holds enc w g 0 l.toArray := by
  intro j hj
  have hj' : j < l.length := by simpa using hj
  refine ⟨?_, by simp [World.frozen?, hg]⟩
  rw [Nat.zero_add, cell_of_take hg h4 j hj']
  simp [hj']

theorem heap_sorted' {α : Type} [Inhabited α] {enc : α → Value} {g n : Nat} {os : Array Obj} {cur : Array Value} {fr : Nat × Nat} (d : Array α) (hb : w.heap[g]? = some (.cells cur E fr)) :
    (grow (putRow enc (Sort.ahead w n) g 0 d) os).heap[g]? = some (.cells (putCells enc 0 d cur) E fr) := by
  have hg : g < w.heap.size := (Array.getElem?_eq_some_iff.1 hb).1
  rw [heap_grow_old _ _ (by simpa using hg)]
  simp [putRow, mapBlock, Sort.ahead, Array.getElem?_modify, hb, onCells]

theorem grownBy_sorted' {α : Type} [Inhabited α] {enc : α → Value} {g n : Nat} {os : Array Obj} (d : Array α) : w.grownBy (grow (putRow enc (Sort.ahead w n) g 0 d) os) (some g) := by
  refine ⟨rfl, rfl, rfl, by simp, fun k hk hne => ?_⟩
  rw [heap_grow_old _ _ (by simpa using hk)]
  have : g ≠ k := fun e => hne (by rw [e])
  simp [putRow, mapBlock, Sort.ahead, Array.getElem?_modify, this]

theorem take_put {α : Type} [Inhabited α] {enc : α → Value} (cur : Array Value) (ts : List α) (h : ts.length ≤ cur.size) : (putCells enc 0 ts.toArray cur).toList.take ts.length = ts.map enc := by
  apply List.ext_getElem?
  intro j
  by_cases hj : j < ts.length
  · rw [List.getElem?_take_of_lt hj, Array.getElem?_toList]
    simp [putCells, hj, show j < cur.size by omega]
  · rw [List.getElem?_take_eq_none (by omega), List.getElem?_eq_none (by simp; omega)]

/-- Behind the sort the same slice owns the sorted list. -/
theorem own_sorted {α : Type} [Inhabited α] {enc : α → Value} {g cap n : Nat} {os : Array Obj} {cur : Array Value} {ss ts : List α} (hl : ts.length = ss.length) (hbase : B ≤ g) (hb : w.heap[g]? = some (.cells cur E (0, 0)))
    (h1 : ss.length ≤ cap) (h2 : cap ≤ maxLen) (h3 : cur.size = cap * 1) :
    (grow (putRow enc (Sort.ahead w n) g 0 ts.toArray) os).ownsRow B E 1 (.slice (some ⟨g, 0, none⟩) ss.length cap) ts.length (ts.map enc) := by
  rw [← hl]
  exact ⟨by simp, .inr ⟨g, cap, _, rfl, hbase, heap_sorted' _ hb, by omega, h2, by simp [putCells, h3], by rw [Nat.mul_one]; exact take_put cur ts (by omega)⟩⟩
end
end Go.Proofs.YtdhbjejejeljoaaGreat
namespace Go.Proofs.YtdhbjejejeljoaaGreat
open Go.RowKit Go.Sort

section
variable {α : Type} {enc : α → List Value} {k : Nat}

theorem flat_len (hk : ∀ x, (enc x).length = k) : ∀ l : List α, (l.flatMap enc).length = l.length * k
  | [] => by simp
  | x :: l => by rw [List.flatMap_cons, List.length_append, hk, flat_len hk l, List.length_cons, Nat.succ_mul, Nat.add_comm]
theorem flat_get (hk : ∀ x, (enc x).length = k) (h0 : 0 < k) : ∀ (l : List α) (t : Nat) (h : t < l.length * k), (l.flatMap enc)[t]'(by rw [flat_len hk]; exact h) = (enc (l[t / k]'(by rw [Nat.div_lt_iff_lt_mul h0]; exact h)))[t % k]'(by rw [hk]; exact Nat.mod_lt _ h0)
  | [], t, h => by simp at h
  | x :: l, t, h => by
    simp only [List.flatMap_cons]
    by_cases ht : t < k
    · rw [List.getElem_append_left (by rw [hk]; exact ht)]
      simp [Nat.div_eq_of_lt ht, Nat.mod_eq_of_lt ht]
    · rw [List.getElem_append_right (by rw [hk]; omega)]
      have e1 : t / k = (t - k) / k + 1 := by
        have : t = (t - k) + k := by omega
        conv => lhs; rw [this]
        rw [Nat.add_div_right _ h0]
      have e2 : (t - k) % k = t % k := by
        have : t = (t - k) + k := by omega
        conv => rhs; rw [this]
        rw [Nat.add_mod_right]
      have hlt : t - k < l.length * k := by simp only [List.length_cons, Nat.succ_mul] at h; omega
      have ih := flat_get hk h0 l (t - k) hlt
      simp only [hk, e1, List.getElem_cons_succ]
      rw [ih]
      simp only [e2]

variable {w : World} {B : Nat} {E : TypeId}

theorem own_blockK {v : Value} {n : Nat} {xs : List Value} (h : w.ownsRow B E k v n xs) (hn : n ≠ 0) :
    ∃ g cap cur, v = .slice (some ⟨g, 0, none⟩) n cap ∧ B ≤ g ∧ g < w.heap.size ∧ w.heap[g]? = some (.cells cur E (0, 0)) ∧ n ≤ cap ∧ cap ≤ maxLen ∧ cur.size = cap * k ∧ cur.toList.take (n * k) = xs := by
  obtain ⟨_, ⟨_, h⟩ | ⟨g, cap, cur, hv, hb, hg, h1, h2, h3, h4⟩⟩ := h
  · exact absurd h hn
  · exact ⟨g, cap, cur, hv, hb, (Array.getElem?_eq_some_iff.1 hg).1, hg, h1, h2, h3, h4⟩

end
end Go.Proofs.YtdhbjejejeljoaaGreat
namespace Go.Proofs.YtdhbjejejeljoaaGreat
open Go.RowKit Go.ChangeMaps

abbrev Nm := Int × ByteArray
def encN (n : Nm) : Value := .agg #[.int .u64 n.1, .string n.2]

/-- What is asked of the key's type. -/
structure NameTy (P : Program) (k : TypeId) : Prop where
  eq : ∀ w (a b : Nm), (Op.equal k (encN a) (encN b)).run P w = .ok (decide (a = b)) w
  check : ∀ w e n, (Instr.checkKey e 10000 k (encN n)).run P w = .ok () w
  wide : (match P.underlying k with | some (.array _ _) | some (.struct _) => true | _ => false) = true

theorem ba_beq_dec (a b : ByteArray) : (a.toList == b.toList) = decide (a = b) := by
  rw [Bool.eq_iff_iff]
  simp only [beq_iff_eq, decide_eq_true_eq, Lib.toList_data]
  constructor
  · intro h
    rcases a with ⟨x⟩; rcases b with ⟨y⟩
    have : x = y := Array.ext' h
    rw [this]
  · intro h; rw [h]

section
variable {V : Type} {ev : V → Value} {P : Program} {k : TypeId} {w : World} {b : Nat} {l : List (Nm × V)}

/-- Block b is a map that holds just these pairs. -/
def MapL (ev : V → Value) (w : World) (b : Nat) (l : List (Nm × V)) : Prop :=
  ∃ es clock, w.heap[b]? = some (.map es clock) ∧ es.toList.map (fun e => (e.key, e.val)) = l.map (fun p => (encN p.1, ev p.2)) ∧ (l.map (·.1)).Nodup ∧
    (es.toList.map (·.born)).Nodup ∧ ∀ e ∈ es.toList, e.born < clock

def getL (l : List (Nm × V)) (n : Nm) : Option V := (l.find? (fun p => decide (p.1 = n))).map (·.2)
def putL (l : List (Nm × V)) (n : Nm) (v : V) : List (Nm × V) := if l.any (fun p => decide (p.1 = n)) then l.map (fun p => if p.1 = n then (n, v) else p) else l ++ [(n, v)]
def delL (l : List (Nm × V)) (n : Nm) : List (Nm × V) := l.filter (fun p => !decide (p.1 = n))

theorem MapL.lt (h : MapL ev w b l) : b < w.heap.size := by obtain ⟨es, c, hb, _⟩ := h; exact (Array.getElem?_eq_some_iff.1 hb).1
theorem MapL.made (ev : V → Value) (w : World) : MapL ev (w.alloc (.map #[] 0)) w.heap.size [] := ⟨#[], 0, (MapKept.heap_alloc w _).1, rfl, List.nodup_nil, List.nodup_nil, by simp⟩
theorem MapL.block {w' : World} (h : MapL ev w b l) (hb : w'.heap[b]? = w.heap[b]?) : MapL ev w' b l := by obtain ⟨es, c, h1, h2⟩ := h; exact ⟨es, c, hb.trans h1, h2⟩

theorem findAsk (K : NameTy P k) (n : Nm) : ∀ (es : List MapEntry) (l : List (Nm × V)) (i : Nat), es.map (fun e => (e.key, e.val)) = l.map (fun p => (encN p.1, ev p.2)) →
    (Instr.findAsking k (encN n) es i).run P w = .ok (((l.findIdx? (fun p => decide (p.1 = n))).bind fun j => (l[j]?).map fun p => (i + j, ev p.2))) w
  | [], [], i, _ => by simp [Instr.findAsking, Sem.run_pure]
  | [], _ :: _, _, h => by simp at h
  | _ :: _, [], _, h => by simp at h
  | e :: es, p :: l, i, h => by
    simp only [List.map_cons, List.cons.injEq, Prod.mk.injEq] at h
    obtain ⟨⟨h1, h2⟩, h3⟩ := h
    unfold Instr.findAsking
    rw [h1]
    simp only [Sem.run_bind, K.eq, Result.andThen]
    by_cases hn : n = p.1
    · have hp : p.1 = n := hn.symm
      simp [hn, Sem.run_pure, h2, List.findIdx?_cons]
    · have hp : ¬ p.1 = n := fun e => hn e.symm
      rw [if_neg (by simpa using hn), findAsk K n es l (i + 1) h3, List.findIdx?_cons]
      simp only [hp, decide_false, Bool.false_eq_true, if_false, Option.bind_map]
      congr 1
      cases (List.findIdx? (fun p => decide (p.1 = n)) l) with
      | none => rfl
      | some j => simp [Nat.add_assoc, Nat.add_comm 1 j]

theorem findKey_run (K : NameTy P k) (n : Nm) (es : List MapEntry) (l : List (Nm × V)) (h : es.map (fun e => (e.key, e.val)) = l.map (fun p => (encN p.1, ev p.2))) :
    (Instr.findKey k (encN n) es).run P w = .ok (((l.findIdx? (fun p => decide (p.1 = n))).bind fun j => (l[j]?).map fun p => (j, ev p.2))) w := by
  rw [run_findKey_eq w K.wide]
  have := findAsk (w := w) K n es l 0 h
  simpa using this

theorem idx_get (l : List (Nm × V)) (n : Nm) : ((l.findIdx? (fun p => decide (p.1 = n))).bind fun j => (l[j]?).map fun p => (j, ev p.2)).map (·.2) = (getL l n).map ev := by
  unfold getL
  induction l with
  | nil => rfl
  | cons p l ih =>
    by_cases hp : p.1 = n
    · simp [List.findIdx?_cons, hp]
    · simp only [List.findIdx?_cons, hp, decide_false, Bool.false_eq_true, if_false, List.find?_cons]
      rw [← ih]
      cases List.findIdx? (fun p => decide (p.1 = n)) l <;> simp
      rename_i j
      cases l[j]? <;> simp

theorem MapL.lookup (h : MapL ev w b l) (K : NameTy P k) {t e : TypeId} (ht : P.underlying t = some (.map k e)) {z : Value} (hz : (zeroValue e).run P w = .ok z w) (n : Nm) :
    (Instr.lookup t (.map (some b)) (encN n) false).run P w = .ok (((getL l n).map ev).getD z) w := by
  obtain ⟨es, clock, hb, he, _⟩ := h
  have hg := idx_get (ev := ev) l n
  simp only [Instr.lookup, Sem.run_bind, run_underlying ht, MapKept.run_getObj_map hb, Result.andThen, K.check, findKey_run K n es.toList l he, Sem.run_pure]
  generalize ((l.findIdx? (fun p => decide (p.1 = n))).bind fun j => (l[j]?).map fun p => (j, ev p.2)) = r at hg
  rw [← hg]
  cases r <;> simp [Sem.run_pure, hz]

theorem MapL.lookupOk (h : MapL ev w b l) (K : NameTy P k) {t e : TypeId} (ht : P.underlying t = some (.map k e)) {z : Value} (hz : (zeroValue e).run P w = .ok z w) (n : Nm) :
    (Instr.lookup t (.map (some b)) (encN n) true).run P w = .ok (.tuple #[((getL l n).map ev).getD z, .bool (getL l n).isSome]) w := by
  obtain ⟨es, clock, hb, he, _⟩ := h
  have hg := idx_get (ev := ev) l n
  simp only [Instr.lookup, Sem.run_bind, run_underlying ht, MapKept.run_getObj_map hb, Result.andThen, K.check, findKey_run K n es.toList l he, Sem.run_pure]
  generalize ((l.findIdx? (fun p => decide (p.1 = n))).bind fun j => (l[j]?).map fun p => (j, ev p.2)) = r at hg
  have hs : (getL l n).isSome = r.isSome := by
    have := congrArg Option.isSome hg; simpa using this.symm
  rw [← hg, hs]
  cases r <;> simp [Sem.run_pure, hz, Result.andThen]

theorem sameBits_name (n : Nm) : Instr.sameBits 10000 (encN n) (encN n) = true := by
  rw [show (10000 : Nat) = 9998 + 1 + 1 from rfl]
  unfold encN
  simp [Instr.sameBits, beq_toListBytes]

theorem nodup_any {l : List (Nm × V)} {n : Nm} (h : l.findIdx? (fun p => decide (p.1 = n)) = none) : l.any (fun p => decide (p.1 = n)) = false := by
  rw [List.findIdx?_eq_none_iff] at h
  rw [List.any_eq_false]; intro x hx; simpa using h x hx

/-- The block behind a store: only it has turned. -/
def OnlyAt (w w' : World) (b : Nat) : Prop := w'.os = w.os ∧ w'.tape = w.tape ∧ w'.output = w.output ∧ w'.heap.size = w.heap.size ∧ (∀ i, i ≠ b → w'.heap[i]? = w.heap[i]?) ∧ w'.drawn = w.drawn

theorem onlyAt_set (w : World) (b : Nat) (o : Obj) : OnlyAt w { w with heap := w.heap.setIfInBounds b o } b :=
  ⟨rfl, rfl, rfl, by simp, fun i hi => by simp [Ne.symm hi], rfl⟩

theorem idx_at {l : List (Nm × V)} {n : Nm} {j : Nat} (h : l.findIdx? (fun p => decide (p.1 = n)) = some j) : ∃ hj : j < l.length, l[j].1 = n := by
  rw [List.findIdx?_eq_some_iff_getElem] at h
  obtain ⟨hj, h1, _⟩ := h
  exact ⟨hj, by simpa using h1⟩
theorem idx_only {l : List (Nm × V)} {n : Nm} (hn : (l.map (·.1)).Nodup) {i j : Nat} (hi : i < l.length) (hj : j < l.length) (h1 : l[i].1 = n) (h2 : l[j].1 = n) : i = j := by
  have hp := List.pairwise_iff_getElem.1 hn
  rcases Nat.lt_trichotomy i j with e | e | e
  · exact absurd (by rw [List.getElem_map, List.getElem_map, h1, h2]) (hp i j (by simpa using hi) (by simpa using hj) e)
  · exact e
  · exact absurd (by rw [List.getElem_map, List.getElem_map, h1, h2]) (hp j i (by simpa using hj) (by simpa using hi) e)

theorem MapL.update (h : MapL ev w b l) (K : NameTy P k) {t e : TypeId} (ht : P.underlying t = some (.map k e)) (n : Nm) (v : V) :
    ∃ w', (Instr.mapUpdate t (.map (some b)) (encN n) (ev v)).run P w = .ok () w' ∧ MapL ev w' b (putL l n v) ∧ OnlyAt w w' b := by
  obtain ⟨es, clock, hb, he, hn, hs, hc⟩ := h
  have hbs := (Array.getElem?_eq_some_iff.1 hb).1
  have hf := findKey_run (P := P) (w := w) K n es.toList l he
  cases hi : l.findIdx? (fun p => decide (p.1 = n)) with
  | none =>
    rw [hi] at hf
    refine ⟨_, by simp only [Instr.mapUpdate, Sem.run_bind, run_underlying ht, MapKept.run_getObj_map hb, Result.andThen, K.check, hf, Option.bind_none, MapKept.run_setObj_map _ hb]; rfl, ?_, onlyAt_set _ _ _⟩
    have hany := nodup_any hi
    refine ⟨es.push ⟨encN n, ev v, clock⟩, clock + 1, by simp [hbs], ?_, ?_, ?_, ?_⟩
    · unfold putL; rw [hany]; simp [he]
    · unfold putL; rw [hany]
      simp only [Bool.false_eq_true, if_false, List.map_append, List.map_cons, List.map_nil]
      rw [List.nodup_append]
      refine ⟨hn, by simp, ?_⟩
      intro a ha b' hb' e2
      simp only [List.mem_singleton] at hb'
      subst hb'; subst e2
      obtain ⟨q, hq, hq2⟩ := List.mem_map.1 ha
      rw [List.any_eq_false] at hany
      exact absurd hq2 (by simpa using hany q hq)
    · simp only [Array.toList_push, List.map_append, List.map_cons, List.map_nil]
      rw [List.nodup_append]
      refine ⟨hs, by simp, ?_⟩
      intro a ha b' hb' e2
      simp only [List.mem_singleton] at hb'
      obtain ⟨q, hq, hq2⟩ := List.mem_map.1 ha
      have := hc q hq
      omega
    · intro x hx
      simp only [Array.toList_push, List.mem_append, List.mem_singleton] at hx
      rcases hx with hx | hx
      · have := hc x hx; omega
      · subst hx; simp
  | some j =>
    obtain ⟨hj, hjn⟩ := idx_at hi
    rw [hi] at hf
    have hlen : es.size = l.length := by have := congrArg List.length he; simpa using this
    have hkv : ∀ i (h1 : i < es.size), (es[i].key, es[i].val) = (encN (l[i]'(by omega)).1, ev (l[i]'(by omega)).2) := by
      intro i h1
      have := congrArg (fun x => x[i]?) he
      simpa [h1, show i < l.length by omega] using this
    have hkj : ((es[j]?).map (·.key)).getD (encN n) = encN n := by
      rw [Array.getElem?_eq_getElem (by omega)]
      have := (Prod.mk.inj (hkv j (by omega))).1
      simp [this, hjn]
    have hstay : (Instr.keyThatStays (encN n) (encN n)).run P w = .ok (encN n) w := by simp [Instr.keyThatStays, sameBits_name]
    refine ⟨_, by simp only [Instr.mapUpdate, Sem.run_bind, run_underlying ht, MapKept.run_getObj_map hb, Result.andThen, K.check, hf, Option.bind_some, List.getElem?_eq_getElem hj, Option.map_some, hkj, hstay, MapKept.run_setObj_map _ hb]; rfl, ?_, onlyAt_set _ _ _⟩
    have hany : l.any (fun p => decide (p.1 = n)) = true := List.any_eq_true.2 ⟨l[j], List.getElem_mem hj, by simp [hjn]⟩
    refine ⟨es.modify j fun e => { e with key := encN n, val := ev v }, clock, by simp [hbs], ?_, ?_, ?_, ?_⟩
    · unfold putL; rw [hany, if_pos rfl]
      apply List.ext_getElem
      · simp [hlen]
      · intro i h1 h2
        have hi1 : i < es.size := by simpa using h1
        simp only [List.getElem_map, Array.getElem_toList, Array.getElem_modify]
        by_cases hij : j = i
        · subst hij; simp [hjn]
        · have hne : ¬ (l[i]'(by omega)).1 = n := fun e => hij (idx_only hn hj (by omega) hjn e)
          rw [if_neg hij, if_neg hne]
          exact hkv i hi1
    · unfold putL; rw [hany, if_pos rfl, List.map_map]
      have : ((fun p : Nm × V => p.1) ∘ fun p => if p.1 = n then (n, v) else p) = fun p => p.1 := by
        funext p; simp only [Function.comp]; split
        · rename_i e; exact e.symm
        · rfl
      rw [this]; exact hn
    · have : (es.modify j fun e => { e with key := encN n, val := ev v }).toList.map (·.born) = es.toList.map (·.born) := by
        apply List.ext_getElem
        · simp
        · intro i h1 h2
          simp only [List.getElem_map, Array.getElem_toList, Array.getElem_modify]
          split <;> rfl
      rw [this]; exact hs
    · intro x hx
      obtain ⟨i, h1, rfl⟩ := List.getElem_of_mem hx
      simp only [Array.getElem_toList, Array.getElem_modify]
      have := hc (es[i]'(by simpa using h1)) (by simp)
      split <;> exact this

theorem map_erase {α β : Type} (f : α → β) : ∀ (l : List α) (j : Nat), (l.eraseIdx j).map f = (l.map f).eraseIdx j
  | [], _ => by simp
  | _ :: _, 0 => by simp
  | a :: l, j + 1 => by simp [map_erase f l j]

theorem MapL.delete (h : MapL ev w b l) (K : NameTy P k) {t e : TypeId} (ht : P.underlying t = some (.map k e)) (n : Nm) (ty : TypeId) :
    ∃ w', (Builtin.delete_ #[t, k] ty #[.map (some b), encN n]).run P w = .ok (.tuple #[]) w' ∧ MapL ev w' b (delL l n) ∧ OnlyAt w w' b ∧
      ∀ es clock, w.heap[b]? = some (.map es clock) → ∃ es', w'.heap[b]? = some (.map es' clock) ∧ ∀ x ∈ es'.toList, x ∈ es.toList := by
  obtain ⟨es, clock, hb, he, hn, hs, hc⟩ := h
  have hbs := (Array.getElem?_eq_some_iff.1 hb).1
  have hf := findKey_run (P := P) (w := w) K n es.toList l he
  cases hi : l.findIdx? (fun p => decide (p.1 = n)) with
  | none =>
    rw [hi] at hf
    refine ⟨_, by simp [Builtin.delete_, run_underlying ht, MapKept.run_getObj_map hb, Result.andThen, K.check, hf, MapKept.run_setObj_map _ hb]; rfl, ?_, onlyAt_set _ _ _, fun es' c' h' => by rw [hb] at h'; cases h'; exact ⟨es, by simp [hbs], fun x hx => hx⟩⟩
    have hany := nodup_any hi
    have hd : delL l n = l := by
      unfold delL; rw [List.filter_eq_self]; intro x hx
      rw [List.any_eq_false] at hany; simpa using hany x hx
    rw [hd]
    exact ⟨es, clock, by simp [hbs], he, hn, hs, hc⟩
  | some j =>
    obtain ⟨hj, hjn⟩ := idx_at hi
    rw [hi] at hf
    have hlen : es.size = l.length := by have := congrArg List.length he; simpa using this
    refine ⟨_, by simp [Builtin.delete_, run_underlying ht, MapKept.run_getObj_map hb, Result.andThen, K.check, hf, hj, MapKept.run_setObj_map _ hb]; rfl, ?_, onlyAt_set _ _ _, fun es' c' h' => by
      rw [hb] at h'; cases h'
      refine ⟨es.eraseIdxIfInBounds j, by simp [hbs], fun x hx => ?_⟩
      have e9 : (es.eraseIdxIfInBounds j).toList = es.toList.eraseIdx j := by unfold Array.eraseIdxIfInBounds; rw [dif_pos (by omega)]; simp
      rw [e9] at hx; exact List.mem_of_mem_eraseIdx hx⟩
    have hd : delL l n = l.eraseIdx j := by
      unfold delL
      apply Eq.symm
      rw [List.eraseIdx_eq_take_drop_succ]
      conv => rhs; rw [← List.take_append_drop j l]
      rw [List.filter_append, List.drop_eq_getElem_cons hj, List.filter_cons]
      have e1 : (l.take j).filter (fun p => !decide (p.1 = n)) = l.take j := by
        rw [List.filter_eq_self]; intro x hx
        obtain ⟨i, h1, rfl⟩ := List.getElem_of_mem hx
        rw [List.length_take] at h1
        rw [List.getElem_take]
        have : ¬ (l[i]'(by omega)).1 = n := fun e => by have := idx_only hn hj (by omega) hjn e; omega
        simp [this]
      have e2 : (l.drop (j + 1)).filter (fun p => !decide (p.1 = n)) = l.drop (j + 1) := by
        rw [List.filter_eq_self]; intro x hx
        obtain ⟨i, h1, rfl⟩ := List.getElem_of_mem hx
        rw [List.length_drop] at h1
        rw [List.getElem_drop]
        have : ¬ (l[j + 1 + i]'(by omega)).1 = n := fun e => by have := idx_only hn hj (by omega) hjn e; omega
        simp [this]
      rw [e1, e2]; simp [hjn]
    have hes : (es.eraseIdxIfInBounds j).toList = es.toList.eraseIdx j := by
      unfold Array.eraseIdxIfInBounds; rw [dif_pos (by omega)]; simp
    rw [hd]
    refine ⟨es.eraseIdxIfInBounds j, clock, by simp [hbs], ?_, ?_, ?_, ?_⟩
    · rw [hes, map_erase, he, map_erase]
    · rw [map_erase]; exact hn.sublist (List.eraseIdx_sublist _ _)
    · rw [hes, map_erase]; exact hs.sublist (List.eraseIdx_sublist _ _)
    · intro x hx; rw [hes] at hx; exact hc x (List.mem_of_mem_eraseIdx hx)

theorem MapL.len (h : MapL ev w b l) {t e : TypeId} (ht : P.underlying t = some (.map k e)) (ty : TypeId) :
    (Builtin.len_ #[t] ty #[.map (some b)]).run P w = .ok (.int .i64 l.length) w := by
  obtain ⟨es, clock, hb, he, _⟩ := h
  have hlen : es.size = l.length := by have := congrArg List.length he; simpa using this
  simp [Builtin.len_, run_underlying ht, MapKept.run_getObj_map hb, Result.andThen, goInt, hlen]
end
end Go.Proofs.YtdhbjejejeljoaaGreat
namespace Go.Proofs.YtdhbjejejeljoaaGreat
open Go.RowKit

/-- Of the blocks of w none has turned but those in S. -/
structure Fr (S : Nat → Prop) (w w' : World) : Prop where
  os : w'.os = w.os
  tape : w'.tape = w.tape
  output : w'.output = w.output
  size : w.heap.size ≤ w'.heap.size
  block : ∀ k, k < w.heap.size → ¬ S k → w'.heap[k]? = w.heap[k]?

theorem Fr.refl (S : Nat → Prop) (w : World) : Fr S w w := ⟨rfl, rfl, rfl, Nat.le_refl _, fun _ _ _ => rfl⟩
theorem Fr.trans {S : Nat → Prop} {a b c : World} (h : Fr S a b) (k : Fr S b c) : Fr S a c :=
  ⟨k.os.trans h.os, k.tape.trans h.tape, k.output.trans h.output, Nat.le_trans h.size k.size, fun i hi hs => (k.block i (Nat.lt_of_lt_of_le hi h.size) hs).trans (h.block i hi hs)⟩
theorem Fr.mono {S T : Nat → Prop} {w w' : World} (h : Fr S w w') (hS : ∀ i, S i → T i) : Fr T w w' :=
  ⟨h.os, h.tape, h.output, h.size, fun i hi hs => h.block i hi (fun e => hs (hS i e))⟩
theorem Fr.of_below {S : Nat → Prop} {w w' : World} (h : Below w.heap.size w w') : Fr S w w' := ⟨h.os, h.tape, h.output, h.size, fun i hi _ => h.block i hi⟩
theorem Fr.then {S : Nat → Prop} {a b c : World} (h : Fr S a b) (k : Below b.heap.size b c) : Fr S a c := h.trans (.of_below k)
theorem Fr.alloc {S : Nat → Prop} {a w : World} (h : Fr S a w) (o : Obj) : Fr S a (w.alloc o) := h.then ((Below.refl _ _).alloc (Nat.le_refl _) o)
theorem Fr.drewN {S : Nat → Prop} {a w : World} (h : Fr S a w) (n : Nat) : Fr S a (w.drewN n) := h.then (below_drewN (Below.refl _ _) n)
theorem Fr.drew {S : Nat → Prop} {a w : World} (h : Fr S a w) : Fr S a w.drew := h.then ((Below.refl _ _).drew)
theorem Fr.setCell {S : Nat → Prop} {a w : World} (h : Fr S a w) {p : Addr} (hp : S p.block) (v : Value) : Fr S a (w.setCell p v) :=
  h.trans ⟨rfl, rfl, rfl, by simp [World.setCell], fun k _ hk => Below.heap_setCell _ _ _ _ (fun e => hk (e ▸ hp))⟩
/-- .. a cell of a block that is new. -/
theorem Fr.setNew {S : Nat → Prop} {a w : World} (h : Fr S a w) {p : Addr} (hp : a.heap.size ≤ p.block) (v : Value) : Fr S a (w.setCell p v) :=
  ⟨h.os, h.tape, h.output, by simpa [World.setCell] using h.size, fun k hk hs => by rw [Below.heap_setCell _ _ _ _ (by omega)]; exact h.block k hk hs⟩
theorem Fr.only {S : Nat → Prop} {a w w' : World} {b : Nat} (h : Fr S a w) (ho : OnlyAt w w' b) (hb : S b) : Fr S a w' :=
  h.trans ⟨ho.1, ho.2.1, ho.2.2.1, by rw [ho.2.2.2.1]; exact Nat.le_refl _, fun k _ hk => ho.2.2.2.2.1 k (fun e => hk (e ▸ hb))⟩
theorem Fr.onlyNew {S : Nat → Prop} {a w w' : World} {b : Nat} (h : Fr S a w) (ho : OnlyAt w w' b) (hb : a.heap.size ≤ b) : Fr S a w' :=
  ⟨ho.1.trans h.os, ho.2.1.trans h.tape, ho.2.2.1.trans h.output, by rw [ho.2.2.2.1]; exact h.size, fun k hk hs => by rw [ho.2.2.2.2.1 k (by omega)]; exact h.block k hk hs⟩
theorem Fr.below {S : Nat → Prop} {B : Nat} {w w' : World} (h : Fr S w w') (hS : ∀ i, S i → B ≤ i) (hB : B ≤ w.heap.size) : Below B w w' :=
  ⟨h.os, h.tape, h.output, h.size, fun k hk => h.block k (by omega) (fun e => by have := hS k e; omega)⟩
theorem Fr.cell {S : Nat → Prop} {w w' : World} (h : Fr S w w') {p : Addr} (hp : p.block < w.heap.size) (hs : ¬ S p.block) : w'.cell? p = w.cell? p := World.cell?_of_block (h.block p.block hp hs)

def evU (x : Int) : Value := .int .u64 x
def InF (f m : Nat) : Nat → Prop := fun i => i = f ∨ i = m
end Go.Proofs.YtdhbjejejeljoaaGreat
namespace Go.Proofs.YtdhbjejejeljoaaGreat
open Go.RowKit Go.Sort

/-- A slice that reads as this list, each element k cells. -/
def ReadsK {α : Type} (enc : α → List Value) (k : Nat) (w : World) (v : Value) (l : List α) : Prop :=
  (l = [] ∧ ∃ a cap, v = .slice a 0 cap) ∨
  ∃ b off cap, v = .slice (some ⟨b, off, none⟩) l.length cap ∧ b < w.heap.size ∧ ∀ i (h : i < l.length) t u, (enc l[i])[t]? = some u → w.cell? ⟨b, off + (i * k + t), none⟩ = some u
theorem ReadsK.slice {α : Type} {enc : α → List Value} {k : Nat} {w : World} {v : Value} {l : List α} (h : ReadsK enc k w v l) : ∃ a cap, v = .slice a l.length cap := by
  rcases h with ⟨rfl, a, cap, rfl⟩ | ⟨b, off, cap, rfl, _⟩ <;> exact ⟨_, _, rfl⟩
theorem ReadsK.below {α : Type} {enc : α → List Value} {k : Nat} {w w' : World} {v : Value} {l : List α} (h : ReadsK enc k w v l) (hB : Below w.heap.size w w') : ReadsK enc k w' v l := by
  rcases h with h | ⟨b, off, cap, hv, hb, hc⟩
  · exact .inl h
  · exact .inr ⟨b, off, cap, hv, Nat.lt_of_lt_of_le hb hB.size, fun i hi t u hu => (hB.cell (p := ⟨b, off + (i * k + t), none⟩) hb).trans (hc i hi t u hu)⟩
theorem ReadsK.at {α : Type} {enc : α → List Value} {k : Nat} {w : World} {v : Value} {l : List α} (h : ReadsK enc k w v l) (hl : 0 < l.length) :
    ∃ b off cap, v = .slice (some ⟨b, off, none⟩) l.length cap ∧ b < w.heap.size ∧ ∀ i (h : i < l.length) t u, (enc l[i])[t]? = some u → w.cell? ⟨b, off + (i * k + t), none⟩ = some u := by
  rcases h with ⟨rfl, _⟩ | h
  · simp at hl
  · exact h

theorem own_readsK {α : Type} {enc : α → List Value} {k : Nat} (hk : ∀ x, (enc x).length = k) (h0 : 0 < k) {w : World} {B : Nat} {E : TypeId} {v : Value} {l : List α} (h : w.ownsRow B E k v l.length (l.flatMap enc)) : ReadsK enc k w v l := by
  by_cases hn : l.length = 0
  · obtain ⟨_, ⟨rfl, _⟩ | ⟨g, cap, cur, rfl, _⟩⟩ := h
    · exact .inl ⟨List.length_eq_zero_iff.1 hn, _, _, rfl⟩
    · exact .inl ⟨List.length_eq_zero_iff.1 hn, some ⟨g, 0, none⟩, cap, by rw [hn]⟩
  · obtain ⟨g, cap, cur, rfl, _, hg, hb, _, _, hsz, ht⟩ := own_blockK h hn
    refine .inr ⟨g, 0, cap, rfl, hg, fun i hi t u hu => ?_⟩
    have ht' : t < k := by have := (List.getElem?_eq_some_iff.1 hu).1; rwa [hk] at this
    have hlt : i * k + t < l.length * k := by
      have : (i + 1) * k ≤ l.length * k := Nat.mul_le_mul_right k hi
      rw [Nat.succ_mul] at this; omega
    have h2 := flat_get hk h0 l (i * k + t) hlt
    have e1 : (i * k + t) / k = i := by rw [Nat.mul_comm, Nat.mul_add_div h0, Nat.div_eq_of_lt ht', Nat.add_zero]
    have e2 : (i * k + t) % k = t := by rw [Nat.mul_comm, Nat.mul_add_mod, Nat.mod_eq_of_lt ht']
    have h3 : (cur.toList.take (l.length * k))[i * k + t]? = some u := by
      rw [ht, List.getElem?_eq_getElem (by rw [flat_len hk]; exact hlt), h2]
      simp only [e1, e2]
      obtain ⟨_, h4⟩ := List.getElem?_eq_some_iff.1 hu
      rw [h4]
    rw [List.getElem?_take_of_lt hlt, Array.getElem?_toList] at h3
    simp [World.cell?, hb, h3]

theorem ReadsK.fr {α : Type} {enc : α → List Value} {k : Nat} {w w' : World} {v : Value} {l : List α} {S : Nat → Prop} (h : ReadsK enc k w v l) (hF : Fr S w w') (hs : ∀ a n c, v = .slice (some a) n c → ¬ S a.block) : ReadsK enc k w' v l := by
  rcases h with h | ⟨b, off, cap, hv, hb, hc⟩
  · exact .inl h
  · exact .inr ⟨b, off, cap, hv, Nat.lt_of_lt_of_le hb hF.size, fun i hi t u hu => (hF.cell (p := ⟨b, off + (i * k + t), none⟩) hb (hs ⟨b, off, none⟩ _ _ hv)).trans (hc i hi t u hu)⟩
theorem own_readsV {α : Type} {enc : α → Value} {w : World} {B : Nat} {E : TypeId} {v : Value} {l : List α} (h : w.ownsRow B E 1 v l.length (l.map enc)) : ReadsK (fun x => [enc x]) 1 w v l :=
  own_readsK (enc := fun x => [enc x]) (k := 1) (fun _ => rfl) (by decide) (by rw [List.map_eq_flatMap] at h; exact h)
end Go.Proofs.YtdhbjejejeljoaaGreat
namespace Go.Proofs.YtdhbjejejeljoaaGreat.B
open Go.RowKit Go.ChangeMaps

abbrev Nm := Int
def encN (n : Nm) : Value := .int .u8 n
/-- What is asked of the key's type. -/
structure NameTy (P : Program) (k : TypeId) : Prop where
  und : P.underlying k = some (.int .u8)
theorem NameTy.check {P : Program} {k : TypeId} (K : NameTy P k) : ∀ w e n, (Instr.checkKey e 10000 k (encN n)).run P w = .ok () w := fun w e n => MapKept.run_checkKey (n := 9999) K.und (by unfold encN; simp [MapKept.IsKey]) e
theorem nameTy : NameTy Tryz.prog 5 := ⟨Tryz.underlying5⟩

section
variable {V : Type} {ev : V → Value} {P : Program} {k : TypeId} {w : World} {b : Nat} {l : List (Nm × V)}

/-- Block b is a map that holds just these pairs. -/
def MapL (ev : V → Value) (w : World) (b : Nat) (l : List (Nm × V)) : Prop :=
  ∃ es clock, w.heap[b]? = some (.map es clock) ∧ es.toList.map (fun e => (e.key, e.val)) = l.map (fun p => (encN p.1, ev p.2)) ∧ (l.map (·.1)).Nodup ∧
    (es.toList.map (·.born)).Nodup ∧ ∀ e ∈ es.toList, e.born < clock

def getL (l : List (Nm × V)) (n : Nm) : Option V := (l.find? (fun p => decide (p.1 = n))).map (·.2)
def putL (l : List (Nm × V)) (n : Nm) (v : V) : List (Nm × V) := if l.any (fun p => decide (p.1 = n)) then l.map (fun p => if p.1 = n then (n, v) else p) else l ++ [(n, v)]
def delL (l : List (Nm × V)) (n : Nm) : List (Nm × V) := l.filter (fun p => !decide (p.1 = n))

theorem MapL.lt (h : MapL ev w b l) : b < w.heap.size := by obtain ⟨es, c, hb, _⟩ := h; exact (Array.getElem?_eq_some_iff.1 hb).1
theorem MapL.made (ev : V → Value) (w : World) : MapL ev (w.alloc (.map #[] 0)) w.heap.size [] := ⟨#[], 0, (MapKept.heap_alloc w _).1, rfl, List.nodup_nil, List.nodup_nil, by simp⟩
theorem MapL.block {w' : World} (h : MapL ev w b l) (hb : w'.heap[b]? = w.heap[b]?) : MapL ev w' b l := by obtain ⟨es, c, h1, h2⟩ := h; exact ⟨es, c, hb.trans h1, h2⟩

theorem findNowB (n : Nm) : ∀ (es : List MapEntry) (l : List (Nm × V)) (i : Nat), es.map (fun e => (e.key, e.val)) = l.map (fun p => (encN p.1, ev p.2)) →
    Instr.findNow (.int .u8) (encN n) es i = some (((l.findIdx? (fun p => decide (p.1 = n))).bind fun j => (l[j]?).map fun p => (i + j, ev p.2)))
  | [], [], i, _ => by simp [Instr.findNow]
  | [], _ :: _, _, h => by simp at h
  | _ :: _, [], _, h => by simp at h
  | e :: es, p :: l, i, h => by
    simp only [List.map_cons, List.cons.injEq, Prod.mk.injEq] at h
    obtain ⟨⟨h1, h2⟩, h3⟩ := h
    unfold Instr.findNow
    rw [h1]
    have hs : Instr.sameNow (.int .u8) (encN n) (encN p.1) = some (n == p.1) := by simp [encN, Instr.sameNow]
    rw [hs]
    by_cases hn : n = p.1
    · have hp : p.1 = n := hn.symm
      have hb : (n == p.1) = true := by simp [hn]
      rw [hb]
      simp [hn, h2, List.findIdx?_cons]
    · have hp : ¬ p.1 = n := fun e => hn e.symm
      have hb : (n == p.1) = false := by simp [hn]
      rw [hb]
      simp only []
      rw [findNowB n es l (i + 1) h3, List.findIdx?_cons]
      simp only [hp, decide_false, Bool.false_eq_true, if_false, Option.bind_map]
      congr 1
      cases (List.findIdx? (fun p => decide (p.1 = n)) l) with
      | none => rfl
      | some j => simp [Nat.add_assoc, Nat.add_comm 1 j]

theorem findKey_run (K : NameTy P k) (n : Nm) (es : List MapEntry) (l : List (Nm × V)) (h : es.map (fun e => (e.key, e.val)) = l.map (fun p => (encN p.1, ev p.2))) :
    (Instr.findKey k (encN n) es).run P w = .ok (((l.findIdx? (fun p => decide (p.1 = n))).bind fun j => (l[j]?).map fun p => (j, ev p.2))) w := by
  have := findNowB (ev := ev) n es l 0 h
  rw [MapKept.run_findKey K.und this]
  simp

theorem idx_get (l : List (Nm × V)) (n : Nm) : ((l.findIdx? (fun p => decide (p.1 = n))).bind fun j => (l[j]?).map fun p => (j, ev p.2)).map (·.2) = (getL l n).map ev := by
  unfold getL
  induction l with
  | nil => rfl
  | cons p l ih =>
    by_cases hp : p.1 = n
    · simp [List.findIdx?_cons, hp]
    · simp only [List.findIdx?_cons, hp, decide_false, Bool.false_eq_true, if_false, List.find?_cons]
      rw [← ih]
      cases List.findIdx? (fun p => decide (p.1 = n)) l <;> simp
      rename_i j
      cases l[j]? <;> simp

theorem MapL.lookup (h : MapL ev w b l) (K : NameTy P k) {t e : TypeId} (ht : P.underlying t = some (.map k e)) {z : Value} (hz : (zeroValue e).run P w = .ok z w) (n : Nm) :
    (Instr.lookup t (.map (some b)) (encN n) false).run P w = .ok (((getL l n).map ev).getD z) w := by
  obtain ⟨es, clock, hb, he, _⟩ := h
  have hg := idx_get (ev := ev) l n
  simp only [Instr.lookup, Sem.run_bind, run_underlying ht, MapKept.run_getObj_map hb, Result.andThen, K.check, findKey_run K n es.toList l he, Sem.run_pure]
  generalize ((l.findIdx? (fun p => decide (p.1 = n))).bind fun j => (l[j]?).map fun p => (j, ev p.2)) = r at hg
  rw [← hg]
  cases r <;> simp [Sem.run_pure, hz]

theorem MapL.lookupOk (h : MapL ev w b l) (K : NameTy P k) {t e : TypeId} (ht : P.underlying t = some (.map k e)) {z : Value} (hz : (zeroValue e).run P w = .ok z w) (n : Nm) :
    (Instr.lookup t (.map (some b)) (encN n) true).run P w = .ok (.tuple #[((getL l n).map ev).getD z, .bool (getL l n).isSome]) w := by
  obtain ⟨es, clock, hb, he, _⟩ := h
  have hg := idx_get (ev := ev) l n
  simp only [Instr.lookup, Sem.run_bind, run_underlying ht, MapKept.run_getObj_map hb, Result.andThen, K.check, findKey_run K n es.toList l he, Sem.run_pure]
  generalize ((l.findIdx? (fun p => decide (p.1 = n))).bind fun j => (l[j]?).map fun p => (j, ev p.2)) = r at hg
  have hs : (getL l n).isSome = r.isSome := by
    have := congrArg Option.isSome hg; simpa using this.symm
  rw [← hg, hs]
  cases r <;> simp [Sem.run_pure, hz, Result.andThen]

theorem sameBits_name (n : Nm) : Instr.sameBits 10000 (encN n) (encN n) = true := by
  rw [show (10000 : Nat) = 9999 + 1 from rfl]
  unfold encN
  simp [Instr.sameBits]

theorem nodup_any {l : List (Nm × V)} {n : Nm} (h : l.findIdx? (fun p => decide (p.1 = n)) = none) : l.any (fun p => decide (p.1 = n)) = false := by
  rw [List.findIdx?_eq_none_iff] at h
  rw [List.any_eq_false]; intro x hx; simpa using h x hx

theorem idx_at {l : List (Nm × V)} {n : Nm} {j : Nat} (h : l.findIdx? (fun p => decide (p.1 = n)) = some j) : ∃ hj : j < l.length, l[j].1 = n := by
  rw [List.findIdx?_eq_some_iff_getElem] at h
  obtain ⟨hj, h1, _⟩ := h
  exact ⟨hj, by simpa using h1⟩
theorem idx_only {l : List (Nm × V)} {n : Nm} (hn : (l.map (·.1)).Nodup) {i j : Nat} (hi : i < l.length) (hj : j < l.length) (h1 : l[i].1 = n) (h2 : l[j].1 = n) : i = j := by
  have hp := List.pairwise_iff_getElem.1 hn
  rcases Nat.lt_trichotomy i j with e | e | e
  · exact absurd (by rw [List.getElem_map, List.getElem_map, h1, h2]) (hp i j (by simpa using hi) (by simpa using hj) e)
  · exact e
  · exact absurd (by rw [List.getElem_map, List.getElem_map, h1, h2]) (hp j i (by simpa using hj) (by simpa using hi) e)

theorem MapL.update (h : MapL ev w b l) (K : NameTy P k) {t e : TypeId} (ht : P.underlying t = some (.map k e)) (n : Nm) (v : V) :
    ∃ w', (Instr.mapUpdate t (.map (some b)) (encN n) (ev v)).run P w = .ok () w' ∧ MapL ev w' b (putL l n v) ∧ OnlyAt w w' b := by
  obtain ⟨es, clock, hb, he, hn, hs, hc⟩ := h
  have hbs := (Array.getElem?_eq_some_iff.1 hb).1
  have hf := findKey_run (P := P) (w := w) K n es.toList l he
  cases hi : l.findIdx? (fun p => decide (p.1 = n)) with
  | none =>
    rw [hi] at hf
    refine ⟨_, by simp only [Instr.mapUpdate, Sem.run_bind, run_underlying ht, MapKept.run_getObj_map hb, Result.andThen, K.check, hf, Option.bind_none, MapKept.run_setObj_map _ hb]; rfl, ?_, onlyAt_set _ _ _⟩
    have hany := nodup_any hi
    refine ⟨es.push ⟨encN n, ev v, clock⟩, clock + 1, by simp [hbs], ?_, ?_, ?_, ?_⟩
    · unfold putL; rw [hany]; simp [he]
    · unfold putL; rw [hany]
      simp only [Bool.false_eq_true, if_false, List.map_append, List.map_cons, List.map_nil]
      rw [List.nodup_append]
      refine ⟨hn, by simp, ?_⟩
      intro a ha b' hb' e2
      simp only [List.mem_singleton] at hb'
      subst hb'; subst e2
      obtain ⟨q, hq, hq2⟩ := List.mem_map.1 ha
      rw [List.any_eq_false] at hany
      exact absurd hq2 (by simpa using hany q hq)
    · simp only [Array.toList_push, List.map_append, List.map_cons, List.map_nil]
      rw [List.nodup_append]
      refine ⟨hs, by simp, ?_⟩
      intro a ha b' hb' e2
      simp only [List.mem_singleton] at hb'
      obtain ⟨q, hq, hq2⟩ := List.mem_map.1 ha
      have := hc q hq
      omega
    · intro x hx
      simp only [Array.toList_push, List.mem_append, List.mem_singleton] at hx
      rcases hx with hx | hx
      · have := hc x hx; omega
      · subst hx; simp
  | some j =>
    obtain ⟨hj, hjn⟩ := idx_at hi
    rw [hi] at hf
    have hlen : es.size = l.length := by have := congrArg List.length he; simpa using this
    have hkv : ∀ i (h1 : i < es.size), (es[i].key, es[i].val) = (encN (l[i]'(by omega)).1, ev (l[i]'(by omega)).2) := by
      intro i h1
      have := congrArg (fun x => x[i]?) he
      simpa [h1, show i < l.length by omega] using this
    have hkj : ((es[j]?).map (·.key)).getD (encN n) = encN n := by
      rw [Array.getElem?_eq_getElem (by omega)]
      have := (Prod.mk.inj (hkv j (by omega))).1
      simp [this, hjn]
    have hstay : (Instr.keyThatStays (encN n) (encN n)).run P w = .ok (encN n) w := by simp [Instr.keyThatStays, sameBits_name]
    refine ⟨_, by simp only [Instr.mapUpdate, Sem.run_bind, run_underlying ht, MapKept.run_getObj_map hb, Result.andThen, K.check, hf, Option.bind_some, List.getElem?_eq_getElem hj, Option.map_some, hkj, hstay, MapKept.run_setObj_map _ hb]; rfl, ?_, onlyAt_set _ _ _⟩
    have hany : l.any (fun p => decide (p.1 = n)) = true := List.any_eq_true.2 ⟨l[j], List.getElem_mem hj, by simp [hjn]⟩
    refine ⟨es.modify j fun e => { e with key := encN n, val := ev v }, clock, by simp [hbs], ?_, ?_, ?_, ?_⟩
    · unfold putL; rw [hany, if_pos rfl]
      apply List.ext_getElem
      · simp [hlen]
      · intro i h1 h2
        have hi1 : i < es.size := by simpa using h1
        simp only [List.getElem_map, Array.getElem_toList, Array.getElem_modify]
        by_cases hij : j = i
        · subst hij; simp [hjn]
        · have hne : ¬ (l[i]'(by omega)).1 = n := fun e => hij (idx_only hn hj (by omega) hjn e)
          rw [if_neg hij, if_neg hne]
          exact hkv i hi1
    · unfold putL; rw [hany, if_pos rfl, List.map_map]
      have : ((fun p : Nm × V => p.1) ∘ fun p => if p.1 = n then (n, v) else p) = fun p => p.1 := by
        funext p; simp only [Function.comp]; split
        · rename_i e; exact e.symm
        · rfl
      rw [this]; exact hn
    · have : (es.modify j fun e => { e with key := encN n, val := ev v }).toList.map (·.born) = es.toList.map (·.born) := by
        apply List.ext_getElem
        · simp
        · intro i h1 h2
          simp only [List.getElem_map, Array.getElem_toList, Array.getElem_modify]
          split <;> rfl
      rw [this]; exact hs
    · intro x hx
      obtain ⟨i, h1, rfl⟩ := List.getElem_of_mem hx
      simp only [Array.getElem_toList, Array.getElem_modify]
      have := hc (es[i]'(by simpa using h1)) (by simp)
      split <;> exact this

theorem MapL.delete (h : MapL ev w b l) (K : NameTy P k) {t e : TypeId} (ht : P.underlying t = some (.map k e)) (n : Nm) (ty : TypeId) :
    ∃ w', (Builtin.delete_ #[t, k] ty #[.map (some b), encN n]).run P w = .ok (.tuple #[]) w' ∧ MapL ev w' b (delL l n) ∧ OnlyAt w w' b ∧
      ∀ es clock, w.heap[b]? = some (.map es clock) → ∃ es', w'.heap[b]? = some (.map es' clock) ∧ ∀ x ∈ es'.toList, x ∈ es.toList := by
  obtain ⟨es, clock, hb, he, hn, hs, hc⟩ := h
  have hbs := (Array.getElem?_eq_some_iff.1 hb).1
  have hf := findKey_run (P := P) (w := w) K n es.toList l he
  cases hi : l.findIdx? (fun p => decide (p.1 = n)) with
  | none =>
    rw [hi] at hf
    refine ⟨_, by simp [Builtin.delete_, run_underlying ht, MapKept.run_getObj_map hb, Result.andThen, K.check, hf, MapKept.run_setObj_map _ hb]; rfl, ?_, onlyAt_set _ _ _, fun es' c' h' => by rw [hb] at h'; cases h'; exact ⟨es, by simp [hbs], fun x hx => hx⟩⟩
    have hany := nodup_any hi
    have hd : delL l n = l := by
      unfold delL; rw [List.filter_eq_self]; intro x hx
      rw [List.any_eq_false] at hany; simpa using hany x hx
    rw [hd]
    exact ⟨es, clock, by simp [hbs], he, hn, hs, hc⟩
  | some j =>
    obtain ⟨hj, hjn⟩ := idx_at hi
    rw [hi] at hf
    have hlen : es.size = l.length := by have := congrArg List.length he; simpa using this
    refine ⟨_, by simp [Builtin.delete_, run_underlying ht, MapKept.run_getObj_map hb, Result.andThen, K.check, hf, hj, MapKept.run_setObj_map _ hb]; rfl, ?_, onlyAt_set _ _ _, fun es' c' h' => by
      rw [hb] at h'; cases h'
      refine ⟨es.eraseIdxIfInBounds j, by simp [hbs], fun x hx => ?_⟩
      have e9 : (es.eraseIdxIfInBounds j).toList = es.toList.eraseIdx j := by unfold Array.eraseIdxIfInBounds; rw [dif_pos (by omega)]; simp
      rw [e9] at hx; exact List.mem_of_mem_eraseIdx hx⟩
    have hd : delL l n = l.eraseIdx j := by
      unfold delL
      apply Eq.symm
      rw [List.eraseIdx_eq_take_drop_succ]
      conv => rhs; rw [← List.take_append_drop j l]
      rw [List.filter_append, List.drop_eq_getElem_cons hj, List.filter_cons]
      have e1 : (l.take j).filter (fun p => !decide (p.1 = n)) = l.take j := by
        rw [List.filter_eq_self]; intro x hx
        obtain ⟨i, h1, rfl⟩ := List.getElem_of_mem hx
        rw [List.length_take] at h1
        rw [List.getElem_take]
        have : ¬ (l[i]'(by omega)).1 = n := fun e => by have := idx_only hn hj (by omega) hjn e; omega
        simp [this]
      have e2 : (l.drop (j + 1)).filter (fun p => !decide (p.1 = n)) = l.drop (j + 1) := by
        rw [List.filter_eq_self]; intro x hx
        obtain ⟨i, h1, rfl⟩ := List.getElem_of_mem hx
        rw [List.length_drop] at h1
        rw [List.getElem_drop]
        have : ¬ (l[j + 1 + i]'(by omega)).1 = n := fun e => by have := idx_only hn hj (by omega) hjn e; omega
        simp [this]
      rw [e1, e2]; simp [hjn]
    have hes : (es.eraseIdxIfInBounds j).toList = es.toList.eraseIdx j := by
      unfold Array.eraseIdxIfInBounds; rw [dif_pos (by omega)]; simp
    rw [hd]
    refine ⟨es.eraseIdxIfInBounds j, clock, by simp [hbs], ?_, ?_, ?_, ?_⟩
    · rw [hes, map_erase, he, map_erase]
    · rw [map_erase]; exact hn.sublist (List.eraseIdx_sublist _ _)
    · rw [hes, map_erase]; exact hs.sublist (List.eraseIdx_sublist _ _)
    · intro x hx; rw [hes] at hx; exact hc x (List.mem_of_mem_eraseIdx hx)

theorem MapL.len (h : MapL ev w b l) {t e : TypeId} (ht : P.underlying t = some (.map k e)) (ty : TypeId) :
    (Builtin.len_ #[t] ty #[.map (some b)]).run P w = .ok (.int .i64 l.length) w := by
  obtain ⟨es, clock, hb, he, _⟩ := h
  have hlen : es.size = l.length := by have := congrArg List.length he; simpa using this
  simp [Builtin.len_, run_underlying ht, MapKept.run_getObj_map hb, Result.andThen, goInt, hlen]
end
end Go.Proofs.YtdhbjejejeljoaaGreat.B
namespace Go.Proofs.YtdhbjejejeljoaaGreat.B
section
variable {V : Type}
theorem eq_of_keyV {l : List (Nm × V)} (hn : (l.map (·.1)).Nodup) {a b : Nm × V} (ha : a ∈ l) (hb : b ∈ l) (h : a.1 = b.1) : a = b := by
  induction l with
  | nil => cases ha
  | cons x l ih =>
    rw [List.map_cons, List.nodup_cons] at hn
    rcases List.mem_cons.1 ha with ha | ha
    · rcases List.mem_cons.1 hb with hb | hb
      · rw [ha, hb]
      · exact absurd (List.mem_map.2 ⟨b, hb, by rw [← h, ha]⟩) hn.1
    · rcases List.mem_cons.1 hb with hb | hb
      · exact absurd (List.mem_map.2 ⟨a, ha, by rw [h, hb]⟩) hn.1
      · exact ih hn.2 ha hb
theorem getL_memV {l : List (Nm × V)} (hn : (l.map (·.1)).Nodup) (n : Nm) (v : V) : getL l n = some v ↔ (n, v) ∈ l := by
  unfold getL
  constructor
  · intro h
    obtain ⟨p, hp, hv⟩ := Option.map_eq_some_iff.1 h
    have h1 := List.mem_of_find?_eq_some hp
    have h2 : p.1 = n := by simpa using List.find?_some hp
    rw [← h2, ← hv]; exact h1
  · intro h
    cases hf : l.find? (fun p => decide (p.1 = n)) with
    | none => have := List.find?_eq_none.1 hf _ h; simp at this
    | some p =>
      have h1 := List.mem_of_find?_eq_some hf
      have h2 : p.1 = n := by simpa using List.find?_some hf
      have := eq_of_keyV hn h1 h h2
      rw [this]; rfl
theorem getL_anyV (l : List (Nm × V)) (n : Nm) : l.any (fun p => decide (p.1 = n)) = (getL l n).isSome := by
  unfold getL
  rw [Option.isSome_map]
  induction l with
  | nil => rfl
  | cons a l ih =>
    rw [List.any_cons, List.find?_cons]
    cases decide (a.1 = n)
    · simpa using ih
    · rfl
theorem getL_putV (l : List (Nm × V)) (n : Nm) (v : V) (m : Nm) : getL (putL l n v) m = if m = n then some v else getL l m := by
  unfold putL
  split
  · rename_i ha
    induction l with
    | nil => simp at ha
    | cons a l ih =>
      unfold getL at ih ⊢
      rw [List.map_cons, List.find?_cons, List.find?_cons]
      by_cases h1 : a.1 = n
      · by_cases h2 : m = n
        · subst h2; simp [h1]
        · simp only [h1, if_true, if_neg h2]
          have e1 : decide (n = m) = false := by simpa using fun e => h2 e.symm
          simp only [e1]
          clear ih ha
          induction l with
          | nil => rfl
          | cons b l ih2 =>
            rw [List.map_cons, List.find?_cons, List.find?_cons]
            by_cases h3 : b.1 = n
            · simp only [h3, if_true, e1]; exact ih2
            · simp only [h3, if_false]
              split
              · rfl
              · exact ih2
      · simp only [if_neg h1]
        rw [List.any_cons] at ha
        simp only [h1, decide_false, Bool.false_or] at ha
        by_cases h2 : a.1 = m
        · have h3 : ¬ m = n := fun e => h1 (h2.trans e)
          simp [h2, h3]
        · simp only [h2, decide_false]
          exact ih ha
  · rename_i ha
    unfold getL
    rw [List.find?_append]
    have hno : ∀ p ∈ l, ¬ p.1 = n := by
      intro p hp e
      exact ha (List.any_eq_true.2 ⟨p, hp, by simp [e]⟩)
    by_cases h2 : m = n
    · subst h2
      have : l.find? (fun p => decide (p.1 = m)) = none := List.find?_eq_none.2 (fun p hp => by simpa using hno p hp)
      simp [this]
    · have e1 : decide (n = m) = false := by simpa using fun e => h2 e.symm
      simp [h2, e1]
theorem putL_lengthV (l : List (Nm × V)) (n : Nm) (v : V) : (putL l n v).length = if (getL l n).isSome then l.length else l.length + 1 := by
  unfold putL
  rw [getL_anyV]
  split <;> simp

theorem putL_nodupV {l : List (Nm × V)} (hn : (l.map (·.1)).Nodup) (n : Nm) (v : V) : ((putL l n v).map (·.1)).Nodup := by
  unfold putL
  split
  · have : (l.map (fun p => if p.1 = n then (n, v) else p)).map (·.1) = l.map (·.1) := by
      rw [List.map_map]
      apply List.map_congr_left
      intro p _
      simp only [Function.comp]
      split
      · rename_i e; exact e.symm
      · rfl
    rw [this]; exact hn
  · rename_i hh
    rw [List.map_append, List.nodup_append]
    refine ⟨hn, by simp, fun a ha b hb e => ?_⟩
    obtain ⟨p, hp, rfl⟩ := List.mem_map.1 ha
    simp at hb
    exact hh (List.any_eq_true.2 ⟨p, hp, by simp [e, hb]⟩)

theorem getL_permV {l m : List (Nm × V)} (hn : (l.map (·.1)).Nodup) (hp : m.Perm l) (n : Nm) : getL l n = getL m n := by
  have hm : (m.map (·.1)).Nodup := (hp.map _).nodup_iff.2 hn
  apply Option.ext
  intro v
  rw [getL_memV hn, getL_memV hm]
  exact ⟨fun h => hp.mem_iff.2 h, fun h => hp.mem_iff.1 h⟩
theorem getL_noneV {l : List (Nm × V)} {n : Nm} (h : ∀ p ∈ l, p.1 ≠ n) : getL l n = none := by
  unfold getL
  rw [List.find?_eq_none.2 (fun p hp => by simpa using h p hp)]
  rfl
theorem getL_none_iffV {l : List (Nm × V)} {n : Nm} : getL l n = none ↔ ∀ p ∈ l, p.1 ≠ n := by
  refine ⟨fun h p hp e => ?_, getL_noneV⟩
  unfold getL at h
  have := List.find?_eq_none.1 (Option.map_eq_none_iff.1 h) p hp
  simp [e] at this
theorem putL_newV {l : List (Nm × V)} {n : Nm} (h : getL l n = none) (v : V) : putL l n v = l ++ [(n, v)] := by
  unfold putL
  rw [getL_anyV, h]
  simp
end
end Go.Proofs.YtdhbjejejeljoaaGreat.B
namespace Go.Proofs.YtdhbjejejeljoaaGreat
open Go.RowKit Go.Sort

/-- Two slices that lie in no common block. -/
def Apart (u v : Value) : Prop := ∀ b, u.ownBlock = some b → v.ownBlock ≠ some b
theorem Apart.symm {u v : Value} (h : Apart u v) : Apart v u := fun b hb hu => h b hu hb
theorem Apart.nil {v : Value} : Apart (.slice none 0 0) v := fun b hb => by cases hb

section
variable {w w' : World} {B : Nat} {E : TypeId} {size : Nat} {v : Value} {n : Nat} {xs : List Value}
theorem own_far (h : w.ownsRow B E size v n xs) (hb : ∀ i, v.ownBlock = some i → w'.heap[i]? = w.heap[i]?) : w'.ownsRow B E size v n xs := by
  obtain ⟨h0, h | ⟨g, cap, cur, rfl, h1, h2, h3⟩⟩ := h
  · exact ⟨h0, .inl h⟩
  · exact ⟨h0, .inr ⟨g, cap, cur, rfl, h1, (hb g rfl).trans h2, h3⟩⟩
theorem own_fr {S : Nat → Prop} (h : w.ownsRow B E size v n xs) (hF : Fr S w w') (hs : ∀ i, v.ownBlock = some i → ¬ S i) : w'.ownsRow B E size v n xs :=
  own_far h fun i hi => hF.block i (h.lt i hi).2 (hs i hi)
theorem own_below (h : w.ownsRow B E size v n xs) (hB : Below w.heap.size w w') : w'.ownsRow B E size v n xs :=
  own_far h fun i hi => hB.block i (h.lt i hi).2
/-- An append to a slice of the call's own, its argument laid ahead of it. -/
theorem grow_fr {w1 : World} {row : Option Nat} (hB : Below w.heap.size w w1) (hg : w1.grownBy w' row) : Fr (fun i => some i = row) w w' :=
  ⟨hg.os.trans hB.os, hg.tape.trans hB.tape, hg.output.trans hB.output, Nat.le_trans hB.size hg.size,
    fun k hk hs => (hg.block k (Nat.lt_of_lt_of_le hk hB.size) hs).trans (hB.block k hk)⟩
/-- Where the longer slice lies. -/
def Stays (w : World) (v v' : Value) : Prop := ∃ g, v'.ownBlock = some g ∧ (v.ownBlock = some g ∨ w.heap.size ≤ g)
theorem Stays.apart {v' u : Value} (h : Stays w v v') (ha : Apart u v) (hu : ∀ b, u.ownBlock = some b → b < w.heap.size) : Apart u v' := by
  obtain ⟨g, hg, h⟩ := h
  intro b hb e
  rw [hg] at e; injection e with e; subst e
  rcases h with h | h
  · exact ha _ hb h
  · have := hu _ hb; omega
theorem Stays.ne {v' : Value} {s : Nat} (h : Stays w v v') (hs : v.ownBlock ≠ some s) (hl : s < w.heap.size) : v'.ownBlock ≠ some s := by
  obtain ⟨g, hg, h⟩ := h
  intro e
  rw [hg] at e; injection e with e; subst e
  rcases h with h | h
  · exact hs h
  · omega
end

theorem owns_monoG {w : World} {B B' : Nat} {E : TypeId} {size : Nat} {v : Value} {n : Nat} {xs : List Value} (h : w.ownsRow B E size v n xs) (hb : B' ≤ B) : w.ownsRow B' E size v n xs := by
  obtain ⟨h0, h | ⟨g, cap, cur, hv, h1, h2⟩⟩ := h
  · exact ⟨h0, .inl h⟩
  · exact ⟨h0, .inr ⟨g, cap, cur, hv, Nat.le_trans hb h1, h2⟩⟩
end Go.Proofs.YtdhbjejejeljoaaGreat
