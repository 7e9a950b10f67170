/- A list of credits of the call's own: what a store and an append leave of it. -/
import Derived.Test.YtgjmnmcbinekdaaBackLaw20
import Derived.Test.YtgjmnmcbinekdaaOwnFr
import Derived.Test.YtgjmnmcbinekdaaOpen20
namespace Go.Proofs.Ytgjmnmcbinekdaa
open Go.RowKit Go.Sort Go.Lib

/-- A credit of the call's own that may be, and is not none. -/
def GoodP (w : World) (B : Nat) (p : Value × List Int) : Prop := COwn w B p.1 p.2 ∧ mayC p.2 = true ∧ p.2 ≠ []
theorem cown_int {w w' : World} {B : Nat} {v : Value} {l : List Int} (h : COwn w B v l) (hb : ∀ (i : Nat) (cur : Array Value), w.heap[i]? = some (.cells cur 3 (0, 0)) → w'.heap[i]? = w.heap[i]?) : COwn w' B v l := by
  obtain ⟨h0, h | ⟨g, cap, cur, rfl, h1, h2, h3⟩⟩ := h
  · exact ⟨h0, .inl h⟩
  · exact ⟨h0, .inr ⟨g, cap, cur, rfl, h1, (hb g cur h2).trans h2, h3⟩⟩
theorem GoodP.keep {w w' : World} {B : Nat} {p : Value × List Int} (h : GoodP w B p) (hb : ∀ (i : Nat) (cur : Array Value), w.heap[i]? = some (.cells cur 3 (0, 0)) → w'.heap[i]? = w.heap[i]?) : GoodP w' B p := ⟨cown_int h.1 hb, h.2⟩
theorem GoodP.below {w w' : World} {B : Nat} {p : Value × List Int} (h : GoodP w B p) (hB : Below w.heap.size w w') : GoodP w' B p := ⟨cowns h.1 hB, h.2⟩
theorem GoodP.low {w : World} {B B' : Nat} {p : Value × List Int} (h : GoodP w B p) (hB : B' ≤ B) : GoodP w B' p := ⟨owns_low h.1 hB, h.2⟩
theorem GoodP.len {w : World} {B : Nat} {p : Value × List Int} (h : GoodP w B p) : p.2.length ≤ 4097 := (mayC_sc h.2.1).len
structure AOwn (w : World) (B : Nat) (v : Value) (A : List (Value × List Int)) : Prop where
  own : w.ownsRow B 23 1 v A.length (A.map (·.1))
  good : ∀ p ∈ A, GoodP w B p
def wA (A : List (Value × List Int)) : Nat := (A.map (fun p => vC p.2)).sum
theorem wA_map (A : List (Value × List Int)) : ((A.map (·.2)).map vC).sum = wA A := by unfold wA; rw [List.map_map]; rfl
theorem wA_append (A C : List (Value × List Int)) : wA (A ++ C) = wA A + wA C := by unfold wA; simp
theorem wA_one (p : Value × List Int) : wA [p] = vC p.2 := by unfold wA; simp
theorem wA_set (A : List (Value × List Int)) (i : Nat) (p : Value × List Int) (h : i < A.length) : wA (A.set i p) + vC A[i].2 = wA A + vC p.2 := sum_set (fun p : Value × List Int => vC p.2) A i p h
theorem AOwn.nil (w : World) (B : Nat) : AOwn w B (.slice none 0 0) [] := ⟨World.ownsRow_nil _ _ _ _, by simp⟩
theorem AOwn.below {w w' : World} {B : Nat} {v : Value} {A : List (Value × List Int)} (h : AOwn w B v A) (hB : Below w.heap.size w w') : AOwn w' B v A := ⟨own_below h.own hB, fun p hp => (h.good p hp).below hB⟩
theorem AOwn.reads {w : World} {B : Nat} {v : Value} {A : List (Value × List Int)} (h : AOwn w B v A) : ReadsK encV 1 w v A := own_readsV (enc := fun x : Value × List Int => x.1) h.own
theorem AOwn.open {w : World} {B : Nat} {v : Value} {A : List (Value × List Int)} (h : AOwn w B v A) (hA : 0 < A.length) :
    ∃ g cap, v = .slice (some ⟨g, 0, none⟩) A.length cap ∧ (∀ j (hj : j < A.length), w.cell? ⟨g, j, none⟩ = some A[j].1) ∧ (∀ j, w.frozen? ⟨g, j, none⟩ = false) ∧ B ≤ g ∧ g < w.heap.size := by
  obtain ⟨g, cap, cur, hv, h1, h2, h3, _, _, _, h7⟩ := own_block (enc := fun x : Value × List Int => x.1) h.own (by rintro rfl; simp at hA)
  exact ⟨g, cap, hv, fun j hj => cell_of_take (enc := fun x : Value × List Int => x.1) h3 h7 j hj, fun j => by simp [World.frozen?, h3], h1, h2⟩
theorem ct_far {w : World} {B : Nat} {v : Value} {n : Nat} {xs : List Value} (h : w.ownsRow B 23 1 v n xs) {i : Nat} {cur : Array Value} (hi : w.heap[i]? = some (.cells cur 3 (0, 0))) : v.ownBlock ≠ some i := by
  intro e
  obtain ⟨_, ⟨rfl, _⟩ | ⟨g, cap, cur', rfl, _, h2, _⟩⟩ := h
  · cases e
  · injection e with e
    change g = i at e
    subst e
    rw [h2] at hi
    injection hi with hi
    injection hi with _ hi _
    exact absurd hi (by decide)
theorem keep_grow {w w' : World} {B : Nat} {v : Value} {n : Nat} {xs : List Value} {o : Obj} (h : w.ownsRow B 23 1 v n xs) (hg : (w.alloc o).grownBy w' v.ownBlock) :
    ∀ (i : Nat) (cur : Array Value), w.heap[i]? = some (.cells cur 3 (0, 0)) → w'.heap[i]? = w.heap[i]? := by
  intro i cur hi
  have hlt := (Array.getElem?_eq_some_iff.1 hi).1
  rw [hg.block i (by simp; omega) (fun e => ct_far h hi e.symm), Lib.alloc_old w o i hlt]
theorem AOwn.push {w w' : World} {B : Nat} {v v' : Value} {A : List (Value × List Int)} {p : Value × List Int} {o : Obj} (h : AOwn w B v A) (hp : GoodP w B p)
    (hown : w'.ownsRow B 23 1 v' (A.length + 1) (A.map (·.1) ++ [p.1])) (hg : (w.alloc o).grownBy w' v.ownBlock) : AOwn w' B v' (A ++ [p]) := by
  refine ⟨by rw [List.length_append, List.map_append]; exact hown, fun q hq => ?_⟩
  rcases List.mem_append.1 hq with hq | hq
  · exact (h.good q hq).keep (keep_grow h.own hg)
  · rw [List.mem_singleton] at hq
    subst hq
    exact hp.keep (keep_grow h.own hg)
theorem AOwn.far {w w' : World} {B : Nat} {u v : Value} {n : Nat} {xs : List Value} {A : List (Value × List Int)} {o : Obj} (h : AOwn w B u A) (hv : w.ownsRow B 23 1 v n xs) (ha : Apart u v) (hg : (w.alloc o).grownBy w' v.ownBlock) : AOwn w' B u A := by
  refine ⟨own_far h.own fun i hi => ?_, fun p hp => (h.good p hp).keep (keep_grow hv hg)⟩
  have hlt := (h.own.lt i hi).2
  rw [hg.block i (by simp; omega) (fun e => ha i hi e.symm), Lib.alloc_old w o i hlt]
theorem put_keep {w : World} {B g i n m cap : Nat} {xs : List Value} {x : Value} (h : w.ownsRow B 23 1 (.slice (some ⟨g, 0, none⟩) n cap) m xs) : ∀ (k : Nat) (cur : Array Value), w.heap[k]? = some (.cells cur 3 (0, 0)) → (w.setCell ⟨g, i, none⟩ x).heap[k]? = w.heap[k]? := by
  intro k cur hk
  have := ct_far h hk
  exact Go.heap_setCell_other w _ k _ (by rintro rfl; exact this rfl)
theorem AOwn.put {w : World} {B g n cap : Nat} {A : List (Value × List Int)} {i : Nat} {p : Value × List Int} (h : AOwn w B (.slice (some ⟨g, 0, none⟩) n cap) A) (hn : n = A.length) (hi : i < A.length) (hp : GoodP w B p) :
    AOwn (w.setCell ⟨g, i, none⟩ p.1) B (.slice (some ⟨g, 0, none⟩) n cap) (A.set i p) := by
  subst hn
  have hk := put_keep (i := i) (x := p.1) h.own
  refine ⟨?_, fun q hq => ?_⟩
  · obtain ⟨_, ⟨h1, _⟩ | ⟨g', cap', cur, hv, h1, h2, h3, h4, h5, h6⟩⟩ := h.own
    · cases h1
    · injection hv with hv1 hv2 hv3
      injection hv1 with hv1
      injection hv1 with hv1
      subst hv1; subst hv3
      refine ⟨by simp, .inr ⟨g, cap, cur.setIfInBounds i p.1, by rw [List.length_set], h1, Go.heap_setCell_same w g i _ _ _ h2, by simpa using h3, h4, by simpa using h5, ?_⟩⟩
      rw [List.length_set, List.map_set, ← h6]
      simp [List.take_set]
  · rcases mem_set hq with rfl | hq
    · exact hp.keep hk
    · exact (h.good q hq).keep hk
theorem AOwn.lt {w : World} {B : Nat} {v : Value} {A : List (Value × List Int)} (h : AOwn w B v A) : ∀ b, v.ownBlock = some b → b < w.heap.size := fun b hb => (h.own.lt b hb).2
theorem stays_of {w : World} {v : Value} {g n cap H : Nat} {o : Obj} (hat : v.ownBlock = some g ∨ g = H) (hH : (w.alloc o).heap.size = H) : Stays w v (.slice (some ⟨g, 0, none⟩) n cap) := by
  refine ⟨g, rfl, ?_⟩
  rcases hat with h | h
  · exact .inl h
  · right
    rw [h, ← hH]; simp
theorem wA_swap {A : List (Value × List Int)} {k : Nat} (h0 : 0 < A.length) (hk : k < A.length) : wA ((A.set 0 A[k]).set k A[0]) = wA A := by
  have h1 := wA_set A 0 A[k] h0
  have h2 := wA_set (A.set 0 A[k]) k A[0] (by simpa using hk)
  have e : (A.set 0 A[k])[k]'(by simpa using hk) = A[k] := by
    rw [List.getElem_set]
    split
    · rfl
    · rfl
  rw [e] at h2
  omega
theorem wA_take {A : List (Value × List Int)} {j : Nat} (h : j < A.length) : wA (A.take (j + 1)) = wA (A.take j) + vC A[j].2 := by
  rw [List.take_succ_eq_append_getElem h, wA_append, wA_one]
theorem AOwn.all {w : World} {B : Nat} {v : Value} {A : List (Value × List Int)} (h : AOwn w B v A) : ∀ l ∈ A.map (·.2), mayC l = true ∧ l ≠ [] := by
  intro l hl
  obtain ⟨p, hp, rfl⟩ := List.mem_map.1 hl
  exact (h.good p hp).2
theorem AOwn.one {w : World} {B : Nat} {x : Value} {l : List Int} (hB : B ≤ w.heap.size) (h : GoodP w B (x, l)) : AOwn (w.alloc (.cells #[x] 23)) B (.slice (some ⟨w.heap.size, 0, none⟩) 1 1) [(x, l)] := by
  refine ⟨⟨by simp, .inr ⟨w.heap.size, 1, #[x], rfl, hB, heap_alloc_new w _, by simp, by decide, by simp, by simp⟩⟩, fun p hp => ?_⟩
  rw [List.mem_singleton] at hp
  subst hp
  exact h.keep fun i cur hi => Lib.alloc_old w _ i (Array.getElem?_eq_some_iff.1 hi).1
theorem one_cell {w : World} {x : Value} {E : TypeId} : ∀ j u, ([x] : List Value)[j]? = some u → (w.alloc (.cells #[x] E (0, 0))).cell? ((⟨w.heap.size, 0, none⟩ : Addr).add j) = some u := by
  intro j u hj
  match j with
  | 0 => simp at hj; subst hj; simp [go_sem, Addr.add]
  | j + 1 => simp at hj
theorem slice_one {a : Option Addr} {n c : Nat} : ∀ u ∈ ([.slice a n c] : List Value), u.oneCell' = true := by intro u hu; simp at hu; subst hu; rfl
end Go.Proofs.Ytgjmnmcbinekdaa
