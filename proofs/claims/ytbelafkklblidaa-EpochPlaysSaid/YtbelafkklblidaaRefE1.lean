/- The document's answer for fences: what its struct holds; an append of a part; contract: find. -/
import Derived.Test.YtbelafkklblidaaBack22
import Derived.Deep.DeepCutAuto
import Derived.BigQuiet
namespace Go.Proofs.Ytbelafkklblidaa
open Go.RowKit Go.Sort Go.Lib

/-- The document's fences: the struct in block r; its list of the call's own. -/
structure RFen (w : World) (R r : Nat) (v : Value) (l : List Gr) (last : Int) : Prop where
  box : w.heap[r]? = some (.cells #[v, .int .u64 last] 49 (0, 0))
  own : w.ownsRow R GT 3 v l.length (l.flatMap encG)
  ne : v.ownBlock ≠ some r
  lo : R ≤ r
section
variable {w w' : World} {R r : Nat} {v : Value} {l : List Gr} {last : Int}
theorem RFen.lt (h : RFen w R r v l last) : r < w.heap.size := (Array.getElem?_eq_some_iff.1 h.box).1
theorem RFen.c0 (h : RFen w R r v l last) : w.cell? ⟨r, 0, none⟩ = some v := by simp [World.cell?, h.box]
theorem RFen.c1 (h : RFen w R r v l last) : w.cell? ⟨r, 1, none⟩ = some (.int .u64 last) := by simp [World.cell?, h.box]
theorem RFen.z (h : RFen w R r v l last) (o : Nat) : w.frozen? ⟨r, o, none⟩ = false := by simp [World.frozen?, h.box]
theorem RFen.reads (h : RFen w R r v l last) : ReadsK encG 3 w v l := own_readsG h.own
theorem RFen.below (h : RFen w R r v l last) (hB : Below w.heap.size w w') : RFen w' R r v l last := ⟨(hB.block r h.lt).trans h.box, own_below h.own hB, h.ne, h.lo⟩
theorem RFen.fr {S : Nat → Prop} (h : RFen w R r v l last) (hF : Fr S w w') (hs : ∀ i, S i → i < R) : RFen w' R r v l last :=
  ⟨(hF.block r h.lt (fun e => by have := hs r e; have := h.lo; omega)).trans h.box, own_fr h.own hF (fun i hi e => by have := hs i e; have := (h.own.lt i hi).1; omega), h.ne, h.lo⟩
theorem RFen.cap (h : RFen w R r v l last) : ∃ a cap, v = .slice a l.length cap ∧ l.length ≤ cap ∧ (a = none → cap = 0) := by
  obtain ⟨_, ⟨rfl, h0⟩ | ⟨g, cap, cur, rfl, _, _, h1, _⟩⟩ := h.own
  · exact ⟨none, 0, by rw [h0], by omega, fun _ => rfl⟩
  · exact ⟨_, _, rfl, h1, fun e => by cases e⟩
end

theorem ReadsK.take {w : World} {a : Option Addr} {n cap : Nat} {l : List Gr} (h : ReadsK encG 3 w (.slice a n cap) l) (j : Nat) (hj : j ≤ l.length) (c : Nat) : ReadsK encG 3 w (.slice a j c) (l.take j) := by
  rcases h with ⟨rfl, _⟩ | ⟨b, off, cap', he, hb, hc⟩
  · simp at hj; subst hj; exact .inl ⟨by simp, _, _, rfl⟩
  · injection he with he1 _ _
    subst he1
    refine .inr ⟨b, off, c, by rw [List.length_take, Nat.min_eq_left hj], hb, fun i hi t u hu => ?_⟩
    rw [List.getElem_take] at hu
    rw [List.length_take] at hi
    exact hc i (by omega) t u hu
theorem ReadsK.drop {w : World} {b off n cap : Nat} {l : List Gr} (h : ReadsK encG 3 w (.slice (some ⟨b, off, none⟩) n cap) l) (j : Nat) (hj : j ≤ l.length) (c : Nat) : ReadsK encG 3 w (.slice (some ⟨b, off + j * 3, none⟩) (l.length - j) c) (l.drop j) := by
  rcases h with ⟨rfl, _⟩ | ⟨b', off', cap', he, hb, hc⟩
  · simp at hj; subst hj; exact .inl ⟨by simp, _, _, rfl⟩
  · injection he with he1 _ _
    injection he1 with he1
    injection he1 with h1 h2 h3
    subst h1 h2
    refine .inr ⟨b, off + j * 3, c, by rw [List.length_drop], hb, fun i hi t u hu => ?_⟩
    rw [List.getElem_drop] at hu
    rw [List.length_drop] at hi
    have := hc (j + i) (by omega) t u hu
    rwa [show off + ((j + i) * 3 + t) = off + j * 3 + (i * 3 + t) by rw [Nat.add_mul]; omega] at this

theorem ReadsK.drop0 {w : World} {a : Option Addr} {l : List Gr} (j : Nat) (hj : l.length ≤ j) (c : Nat) : ReadsK encG 3 w (.slice a (l.length - j) c) (l.drop j) :=
  .inl ⟨List.drop_eq_nil_of_le hj, a, c, by rw [Nat.sub_eq_zero_of_le hj]⟩

/-- 'append(own, part...)'. -/
theorem run_app {w : World} {B : Nat} {v u : Value} {xs ys : List Gr} (ty : TypeId) (ho : w.ownsRow B GT 3 v xs.length (xs.flatMap encG)) (hu : ReadsK encG 3 w u ys) (hl : xs.length + ys.length ≤ 100000) (hB : B ≤ w.heap.size) :
    ∃ v' w', (Builtin.append_ #[23, 23] ty #[v, u]).run Try.prog w = .ok v' w' ∧ w'.ownsRow B GT 3 v' (xs ++ ys).length ((xs ++ ys).flatMap encG) ∧ w.grownBy w' v.ownBlock := by
  obtain ⟨ig, hig, hg0, hg1, hg2⟩ := info_parts info_grant
  have big : ∀ (ad : Addr) c, (u = .slice (some ad) ys.length c) → (∀ j x, (ys.flatMap encG)[j]? = some x → w.cell? (ad.add j) = some x) → ∃ v' w', (Builtin.append_ #[23, 23] ty #[v, u]).run Try.prog w = .ok v' w' ∧ w'.ownsRow B GT 3 v' (xs ++ ys).length ((xs ++ ys).flatMap encG) ∧ w.grownBy w' v.ownBlock := by
    intro ad c he hc
    subst he
    obtain ⟨v', w', hr, h2, h3, _⟩ := run_append_own (P := Try.prog) w B 23 ty GT ig (.agg #[.int .u64 0, .string ⟨#[]⟩, .int .u64 0]) 3 32 Try.underlying23 hig hg0 hg1 hg2 rfl (by decide) v xs.length (xs.flatMap encG) ho ad ys.length c (ys.flatMap encG) (flat_len (enc := encG) (fun _ => rfl) ys) hc
      (fun x hx => by obtain ⟨y, _, hy⟩ := List.mem_flatMap.1 hx; exact grant_one y x hy) (by unfold maxLen; omega) (by omega) hB
    exact ⟨v', w', hr, by rw [List.length_append, List.flatMap_append]; exact h2, h3⟩
  rcases hu with ⟨rfl, a, cap, rfl⟩ | ⟨b, off, cap, rfl, hb, hc⟩
  · cases a with
    | some ad => exact big ad cap rfl (fun j x h => by simp at h)
    | none =>
      refine ⟨v, w, ?_, by simpa using ho, ⟨rfl, rfl, rfl, Nat.le_refl _, fun _ _ _ => rfl⟩⟩
      obtain ⟨_, ⟨rfl, _⟩ | ⟨g, cap2, cur, rfl, _, _, h1, _⟩⟩ := ho
      · simp [Builtin.append_, run_underlying Try.underlying23, sizeOf, typeInfo, hig, Builtin.lenOf, Builtin.firstCells]
      · simp [Builtin.append_, run_underlying Try.underlying23, sizeOf, typeInfo, hig, Builtin.lenOf, Builtin.firstCells, h1, storeCells]
  · refine big ⟨b, off, none⟩ cap rfl (fun j x h => ?_)
    have hj : j < ys.length * 3 := by
      have := (List.getElem?_eq_some_iff.1 h).1
      rwa [flat_len (enc := encG) (k := 3) (fun _ => rfl)] at this
    have h2 := flat_get (enc := encG) (k := 3) (fun _ => rfl) (by decide) ys j hj
    obtain ⟨_, h4⟩ := List.getElem?_eq_some_iff.1 h
    rw [h2] at h4
    have h3 := hc (j / 3) (by omega) (j % 3) x (by rw [← h4]; exact List.getElem?_eq_getElem _)
    rw [show j / 3 * 3 + j % 3 = j by omega] at h3
    rw [← h3]
    by_cases h0 : j = 0
    · subst h0; rfl
    · simp [Addr.add, h0]

theorem wpList_app {w : World} {ops : Array Oper} {rest : List Oper} {o : Oper} {a : Act} {Q : Exit → Act → World → Prop} (hgd : o.guard = none) (s x : Operand)
    (ho : o.op = .call { callee := .builtin .append, args := #[s, x], argTypes := #[23, 23] }) {B : Nat} {v u : Value} {xs ys : List Gr} (hs : a.eval s = v) (hx : a.eval x = u)
    (hown : w.ownsRow B GT 3 v xs.length (xs.flatMap encG)) (hu : ReadsK encG 3 w u ys) (hl : xs.length + ys.length ≤ 100000) (hB : B ≤ w.heap.size)
    (h : ∀ v' w', w'.ownsRow B GT 3 v' (xs ++ ys).length ((xs ++ ys).flatMap encG) → w.grownBy w' v.ownBlock → wpList Try.prog ops Q rest (a.put o.dst v') w') : wpList Try.prog ops Q (o :: rest) a w := by
  refine wpList_plain hgd fun _ hK => ?_
  obtain ⟨v', w', hr, h2, h3⟩ := run_app (w := w) o.type hown hu hl hB
  unfold Oper.wp execOp
  simp only [ho, resolve, invoke, builtin, Sem.run_bind, Sem.run_pure, Result.andThen_ok, List.map_toArray, List.map_cons, List.map_nil, hs, hx, hr]
  exact hK _ _ (h v' w' h2 h3)
/-- The list is replaced by one of the call's own. -/
theorem RFen.store {w : World} {R B r : Nat} {v v2 : Value} {l : List Gr} {last : Int} (hbox : w.heap[r]? = some (.cells #[v, .int .u64 last] 49 (0, 0))) (ho : w.ownsRow B GT 3 v2 l.length (l.flatMap encG)) (hR : R ≤ B) (hr : r < B) (lo : R ≤ r) :
    RFen (w.setCell ⟨r, 0, none⟩ v2) R r v2 l last := by
  have hne : ∀ i, v2.ownBlock = some i → i ≠ r := fun i hi => by have := (ho.lt i hi).1; omega
  refine ⟨?_, owns_monoG (own_far ho (fun i hi => Below.heap_setCell _ _ _ _ (hne i hi))) hR, fun e => hne r e rfl, lo⟩
  simp [World.setCell, hbox, Array.getElem?_modify]
/-- An append to what the call has made. -/
theorem app_below {w w' : World} {B : Nat} {v : Value} {n : Nat} {xs : List Value} (ho : w.ownsRow B GT 3 v n xs) (hB : B ≤ w.heap.size) (hg : w.grownBy w' v.ownBlock) : Below B w w' :=
  (grow_fr (Below.refl _ _) hg).below (fun i hi => (ho.lt i hi.symm).1) hB
theorem own_form {w : World} {B n : Nat} {v : Value} {xs : List Value} (h : w.ownsRow B GT 3 v n xs) : ∃ a m cap, v = .slice a m cap := by
  obtain ⟨_, ⟨rfl, rfl⟩ | ⟨g, cap, _, rfl, _⟩⟩ := h <;> exact ⟨_, _, _, rfl⟩
end Go.Proofs.Ytbelafkklblidaa
