/- Boxes, own slices and their types: what stays while other blocks turn; an append as a step; an append of a part of a slice. -/
import Derived.Test.YthbkbmkcgpdedaaOwnFr
import Derived.Test.YthbkbmkcgpdedaaReads
import Derived.Lib.Hide
import Derived.OwnWalk
import Derived.RegionTactic
import Derived.Deep.AppendLies
import Derived.Deep.OwnRows
namespace Go.Proofs.Ythbkbmkcgpdedaa
open Go.RowKit Go.Sort Go.Lib

def BoxAt (w : World) (s : Nat) (cur : Array Value) (E : TypeId) : Prop := w.heap[s]? = some (.cells cur E (0, 0))
theorem BoxAt.cell {w : World} {s : Nat} {cur : Array Value} {E : TypeId} (h : BoxAt w s cur E) (i : Nat) : w.cell? ⟨s, i, none⟩ = cur[i]? := by unfold BoxAt at h; simp [World.cell?, h]
theorem BoxAt.frozen {w : World} {s : Nat} {cur : Array Value} {E : TypeId} (h : BoxAt w s cur E) (i : Nat) : w.frozen? ⟨s, i, none⟩ = false := by unfold BoxAt at h; simp [World.frozen?, h]
theorem BoxAt.below {w w' : World} {s : Nat} {cur : Array Value} {E : TypeId} (h : BoxAt w s cur E) (hB : Below w.heap.size w w') : BoxAt w' s cur E := (hB.block s (Array.getElem?_eq_some_iff.1 h).1).trans h
theorem BoxAt.fr {w w' : World} {s : Nat} {cur : Array Value} {E : TypeId} {S : Nat → Prop} (h : BoxAt w s cur E) (hF : Fr S w w') (hs : ¬ S s) : BoxAt w' s cur E := (hF.block s (Array.getElem?_eq_some_iff.1 h).1 hs).trans h
/-- The blocks of S are of these types. -/
def Typed (S : Nat → Prop) (w : World) (Es : List TypeId) : Prop := ∀ i, S i → i < w.heap.size → ∃ E cur fz, E ∈ Es ∧ w.heap[i]? = some (.cells cur E fz)
section
variable {w w' : World} {S : Nat → Prop} {Es : List TypeId}
theorem own_typed {Z k n : Nat} {E : TypeId} {v : Value} {xs : List Value} (h : w.ownsRow Z E k v n xs) (hF : Fr S w w') (hT : Typed S w Es) (hE : E ∉ Es) : w'.ownsRow Z E k v n xs := by
  refine ⟨h.1, h.2.imp id ?_⟩
  rintro ⟨g, cap, cur, hv, h1, h2, h3⟩
  have hg := (Array.getElem?_eq_some_iff.1 h2).1
  refine ⟨g, cap, cur, hv, h1, (hF.block g hg fun hs => ?_).trans h2, h3⟩
  obtain ⟨E', cur', fz', hE', hb⟩ := hT g hs hg
  rw [h2] at hb
  injection hb with hb
  injection hb with _ hb _
  exact hE (hb ▸ hE')
theorem box_typed {s : Nat} {cur : Array Value} {E : TypeId} (h : BoxAt w s cur E) (hF : Fr S w w') (hT : Typed S w Es) (hE : E ∉ Es) : BoxAt w' s cur E := by
  refine h.fr hF fun hs => ?_
  obtain ⟨E', cur', fz', hE', hb⟩ := hT s hs (Array.getElem?_eq_some_iff.1 h).1
  unfold BoxAt at h
  rw [h] at hb
  injection hb with hb
  injection hb with _ hb _
  exact hE (hb ▸ hE')
theorem typed_box {s : Nat} {cur : Array Value} {E : TypeId} (h : BoxAt w s cur E) : Typed (fun i => i = s) w [E] := fun _i hi _ => ⟨E, cur, _, List.mem_singleton.2 rfl, hi ▸ h⟩
theorem typed_own {Z k n : Nat} {E : TypeId} {v : Value} {xs : List Value} (h : w.ownsRow Z E k v n xs) : Typed (fun i => v.ownBlock = some i) w [E] := by
  intro i hi _
  obtain ⟨_, ⟨rfl, _⟩ | ⟨g, cap, cur, rfl, _, h2, _⟩⟩ := h
  · cases hi
  · injection hi with hi; subst hi; exact ⟨E, cur, _, List.mem_singleton.2 rfl, h2⟩
theorem Typed.or {T : Nat → Prop} {Fs : List TypeId} (h : Typed S w Es) (k : Typed T w Fs) : Typed (fun i => S i ∨ T i) w (Es ++ Fs) := by
  rintro i (hi | hi) hl
  · obtain ⟨E, c, f, h1, h2⟩ := h i hi hl; exact ⟨E, c, f, List.mem_append_left _ h1, h2⟩
  · obtain ⟨E, c, f, h1, h2⟩ := k i hi hl; exact ⟨E, c, f, List.mem_append_right _ h1, h2⟩
end
/-- Later worlds, whose turned blocks are of the call's own. -/
theorem Fr.join {S T : Nat → Prop} {a b c : World} (h : Fr S a b) (k : Fr T b c) (hT : ∀ i, T i → S i ∨ a.heap.size ≤ i) : Fr S a c :=
  ⟨k.os.trans h.os, k.tape.trans h.tape, k.output.trans h.output, Nat.le_trans h.size k.size, fun i hi hs => (k.block i (Nat.lt_of_lt_of_le hi h.size) fun ht => by
    rcases hT i ht with h1 | h1
    · exact hs h1
    · omega).trans (h.block i hi hs)⟩

/-- A box and an own slice of another type, or two own slices of other types, lie apart. -/
theorem own_not_box {w : World} {Z k n x : Nat} {E T : TypeId} {v : Value} {xs : List Value} {cur : Array Value} (h : w.ownsRow Z E k v n xs) (hb : BoxAt w x cur T) (hE : E ≠ T) : v.ownBlock ≠ some x := by
  intro e
  obtain ⟨E', cu, fz, hE', hbk⟩ := typed_own h x e ((h.lt x e).2)
  rw [List.mem_singleton] at hE'
  subst hE'
  unfold BoxAt at hb
  rw [hb] at hbk
  injection hbk with hbk
  injection hbk with _ h1 _
  exact hE h1.symm
theorem own_not_own {w : World} {Z Z' k k' n n' : Nat} {E T : TypeId} {v u : Value} {xs ys : List Value} (h : w.ownsRow Z E k v n xs) (h' : w.ownsRow Z' T k' u n' ys) (hE : E ≠ T) {i : Nat} (hi : v.ownBlock = some i) : u.ownBlock ≠ some i := by
  intro e
  obtain ⟨E', cu, fz, hE', hbk⟩ := typed_own h i hi ((h.lt i hi).2)
  obtain ⟨T', cu', fz', hT', hbk'⟩ := typed_own h' i e ((h'.lt i e).2)
  rw [List.mem_singleton] at hE' hT'
  subst hE'; subst hT'
  rw [hbk] at hbk'
  injection hbk' with hbk'
  injection hbk' with _ h1 _
  exact hE h1
theorem box_ne {w : World} {a b : Nat} {E T : TypeId} {c d : Array Value} (h : BoxAt w a c E) (k : BoxAt w b d T) (hE : E ≠ T) : a ≠ b := by
  intro e
  subst e
  unfold BoxAt at h k
  rw [h] at k
  injection k with k
  injection k with _ h1 _
  exact hE h1
theorem step_append_run {P : Program} {ops : Array Oper} {o : Oper} {a : Act} {w : World} {K : Act → World → Prop} {Q : Exit → Act → World → Prop} {E : Prop}
    (hg : o.guard = none) (s x : Operand) (t t' : TypeId) (hop : o.op = Op.call { callee := Callee.builtin Builtin.append, args := #[s, x], argTypes := #[t, t'] })
    (v u : Value) (hd : a.eval s = v) (hx : a.eval x = u) {v' : Value} {w' : World} (hr : (Builtin.append_ #[t, t'] o.type #[v, u]).run P w = .ok v' w') (hK : K (a.put o.dst v') w') :
    if Region.wanted o (yielded ops a.tmps) = true then Oper.wp P o a w K Q else E := by
  have hw : Region.wanted o (yielded ops a.tmps) = true := by simp [Region.wanted, hg]
  rw [if_pos hw]
  unfold Oper.wp
  simp [execOp, hop, resolve, invoke, builtin, hd, hx, hr, Result.andThen]
  exact hK
theorem grow_fr' {w w1 w' : World} {v : Value} (hB : Below w.heap.size w w1) (hg : w1.grownBy w' v.ownBlock) : Fr (fun i => v.ownBlock = some i) w w' := (grow_fr hB hg).mono fun _i hi => hi.symm
theorem own_slice {w : World} {Z k n : Nat} {E : TypeId} {v : Value} {xs : List Value} (h : w.ownsRow Z E k v n xs) : ∃ a c, v = .slice a n c := by
  obtain ⟨_, ⟨rfl, rfl⟩ | ⟨g, cap, cur, rfl, _⟩⟩ := h
  · exact ⟨_, _, rfl⟩
  · exact ⟨_, _, rfl⟩
theorem wpList_arunC {P : Program} {ops : Array Oper} {rest : List Oper} {o : Oper} {a : Act} {w : World} {Q : Exit → Act → World → Prop} (hgd : o.guard = none) (s x : Operand) (t t' : TypeId)
    (ho : o.op = .call { callee := .builtin .append, args := #[s, x], argTypes := #[t, t'] }) {v u : Value} (hs : a.eval s = v) (hx : a.eval x = u) {v' : Value} {w' : World} (hr : (Builtin.append_ #[t, t'] o.type #[v, u]).run P w = .ok v' w')
    (h : wpList P ops Q rest (a.put o.dst v') w') : wpList P ops Q (o :: rest) a w := by
  refine wpList_plain hgd fun _ hK => ?_
  unfold Oper.wp execOp
  simp only [ho, resolve, invoke, builtin, Sem.run_bind, Sem.run_pure, Result.andThen_ok, List.map_toArray, List.map_cons, List.map_nil, hs, hx, hr]
  exact hK _ _ h
/-- 'append(own, part...)'. -/
theorem run_appK {P : Program} {α : Type} {enc : α → List Value} {k bytes : Nat} {E t : TypeId} {z : Value} (hund : P.underlying t = some (.slice E)) (hinf : (P.info? E).map (fun i => (i.zero, i.size, i.bytes)) = some (some z, k, bytes)) (hz : z.cells.size = k) (h0 : 0 < k) (hk : ∀ x, (enc x).length = k) (h1 : ∀ x, ∀ u ∈ enc x, u.oneCell' = true)
    {w : World} {B : Nat} {v u : Value} {xs ys : List α} (ty : TypeId) (ho : w.ownsRow B E k v xs.length (xs.flatMap enc)) (hu : ReadsK enc k w u ys) (hl : xs.length + ys.length ≤ 1000000) (hb : bytes ≤ 1000) (hB : B ≤ w.heap.size) :
    ∃ v' w', (Builtin.append_ #[t, t] ty #[v, u]).run P w = .ok v' w' ∧ w'.ownsRow B E k v' (xs ++ ys).length ((xs ++ ys).flatMap enc) ∧ w.grownBy w' v.ownBlock := by
  obtain ⟨ig, hig, hg0, hg1, hg2⟩ := info_parts hinf
  have hlb : (xs.length + ys.length) * bytes ≤ 140737488355328 := Nat.le_trans (Nat.mul_le_mul hl hb) (by decide)
  have big : ∀ (ad : Addr) c, (u = .slice (some ad) ys.length c) → (∀ j x, (ys.flatMap enc)[j]? = some x → w.cell? (ad.add j) = some x) → ∃ v' w', (Builtin.append_ #[t, t] ty #[v, u]).run P w = .ok v' w' ∧ w'.ownsRow B E k v' (xs ++ ys).length ((xs ++ ys).flatMap enc) ∧ w.grownBy w' v.ownBlock := by
    intro ad c he hc
    subst he
    obtain ⟨v', w', hr, h2, h3, _⟩ := run_append_own (P := P) w B t ty E ig z k bytes hund hig hg0 hg1 hg2 hz h0 v xs.length (xs.flatMap enc) ho ad ys.length c (ys.flatMap enc) (flat_len (enc := enc) hk ys) hc
      (fun x hx => by obtain ⟨y, _, hy⟩ := List.mem_flatMap.1 hx; exact h1 y x hy) (by unfold maxLen; omega) hlb hB
    exact ⟨v', w', hr, by rw [List.length_append, List.flatMap_append]; exact h2, h3⟩
  rcases hu with ⟨rfl, a, cap, rfl⟩ | ⟨b, off, cap, rfl, hb2, hc⟩
  · cases a with
    | some ad => exact big ad cap rfl (fun j x h => by simp at h)
    | none =>
      refine ⟨v, w, ?_, by simpa using ho, ⟨rfl, rfl, rfl, Nat.le_refl _, fun _ _ _ => rfl⟩⟩
      obtain ⟨_, ⟨rfl, _⟩ | ⟨g, cap2, cur, rfl, _, _, h1, _⟩⟩ := ho
      · simp [Builtin.append_, run_underlying hund, sizeOf, typeInfo, hig, Builtin.lenOf, Builtin.firstCells]
      · simp [Builtin.append_, run_underlying hund, sizeOf, typeInfo, hig, Builtin.lenOf, Builtin.firstCells, h1, storeCells]
  · refine big ⟨b, off, none⟩ cap rfl (fun j x h => ?_)
    have hj : j < ys.length * k := by
      have := (List.getElem?_eq_some_iff.1 h).1
      rwa [flat_len (enc := enc) (k := k) hk] at this
    have h2 := flat_get (enc := enc) (k := k) hk h0 ys j hj
    obtain ⟨_, h4⟩ := List.getElem?_eq_some_iff.1 h
    rw [h2] at h4
    have hjk : j / k < ys.length := Nat.div_lt_of_lt_mul (by rw [Nat.mul_comm]; exact hj)
    have h3 := hc (j / k) hjk (j % k) x (by rw [← h4]; exact List.getElem?_eq_getElem _)
    rw [show j / k * k + j % k = j by rw [Nat.mul_comm]; exact Nat.div_add_mod j k] at h3
    rw [← h3]
    by_cases h0 : j = 0
    · subst h0; rfl
    · simp [Addr.add, h0]
end Go.Proofs.Ythbkbmkcgpdedaa
