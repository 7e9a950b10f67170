/- Contracts: thresherref11.Input, thresherref13.Root. -/
import Derived.Test.YtdhbjejejeljoaaEv20
namespace Go.Proofs.Ytdhbjejejeljoaa
open Go.RowKit Go.Sort Go.Lib

theorem encN1_one (y : Int) : ∀ x ∈ encN1 y, x.oneCell' = true := by
  intro x hx
  simp [encN1] at hx
  subst hx; rfl
/-- 'append(own, part...)'. -/
theorem run_appI {w : World} {B : Nat} {v u : Value} {xs ys : List Int} (ty : TypeId) (ho : w.ownsRow B 2 1 v xs.length (xs.flatMap encN1)) (hu : ReadsK encN1 1 w u ys) (hl : xs.length + ys.length ≤ 1000000) (hB : B ≤ w.heap.size) :
    ∃ v' w', (Builtin.append_ #[25, 25] ty #[v, u]).run Try.prog w = .ok v' w' ∧ w'.ownsRow B 2 1 v' (xs ++ ys).length ((xs ++ ys).flatMap encN1) ∧ w.grownBy w' v.ownBlock := by
  obtain ⟨ig, hig, hg0, hg1, hg2⟩ := info_parts info_i64
  have big : ∀ (ad : Addr) c, (u = .slice (some ad) ys.length c) → (∀ j x, (ys.flatMap encN1)[j]? = some x → w.cell? (ad.add j) = some x) → ∃ v' w', (Builtin.append_ #[25, 25] ty #[v, u]).run Try.prog w = .ok v' w' ∧ w'.ownsRow B 2 1 v' (xs ++ ys).length ((xs ++ ys).flatMap encN1) ∧ w.grownBy w' v.ownBlock := by
    intro ad c he hc
    subst he
    obtain ⟨v', w', hr, h2, h3, _⟩ := run_append_own (P := Try.prog) w B 25 ty 2 ig (.int .i64 0) 1 8 Try.underlying25 hig hg0 hg1 hg2 rfl (by decide) v xs.length (xs.flatMap encN1) ho ad ys.length c (ys.flatMap encN1) (flat_len (enc := encN1) (fun _ => rfl) ys) hc
      (fun x hx => by obtain ⟨y, _, hy⟩ := List.mem_flatMap.1 hx; exact encN1_one y x hy) (by unfold maxLen; omega) (by omega) hB
    exact ⟨v', w', hr, by rw [List.length_append, List.flatMap_append]; exact h2, h3⟩
  rcases hu with ⟨rfl, a, cap, rfl⟩ | ⟨b, off, cap, rfl, hb, hc⟩
  · cases a with
    | some ad => exact big ad cap rfl (fun j x h => by simp at h)
    | none =>
      refine ⟨v, w, ?_, by simpa using ho, ⟨rfl, rfl, rfl, Nat.le_refl _, fun _ _ _ => rfl⟩⟩
      obtain ⟨_, ⟨rfl, _⟩ | ⟨g, cap2, cur, rfl, _, _, h1, _⟩⟩ := ho
      · simp [Builtin.append_, run_underlying Try.underlying25, sizeOf, typeInfo, hig, Builtin.lenOf, Builtin.firstCells]
      · simp [Builtin.append_, run_underlying Try.underlying25, sizeOf, typeInfo, hig, Builtin.lenOf, Builtin.firstCells, h1, storeCells]
  · refine big ⟨b, off, none⟩ cap rfl (fun j x h => ?_)
    have hj : j < ys.length * 1 := by
      have := (List.getElem?_eq_some_iff.1 h).1
      rwa [flat_len (enc := encN1) (k := 1) (fun _ => rfl)] at this
    have h2 := flat_get (enc := encN1) (k := 1) (fun _ => rfl) (by decide) ys j hj
    obtain ⟨_, h4⟩ := List.getElem?_eq_some_iff.1 h
    rw [h2] at h4
    have h3 := hc (j / 1) (by omega) (j % 1) x (by rw [← h4]; exact List.getElem?_eq_getElem _)
    rw [show j / 1 * 1 + j % 1 = j by omega] at h3
    rw [← h3]
    by_cases h0 : j = 0
    · subst h0; rfl
    · simp [Addr.add, h0]
theorem wpList_appI {w : World} {ops : Array Oper} {rest : List Oper} {o : Oper} {a : Act} {Q : Exit → Act → World → Prop} (hgd : o.guard = none) (s x : Operand)
    (ho : o.op = .call { callee := .builtin .append, args := #[s, x], argTypes := #[25, 25] }) {B : Nat} {v u : Value} {xs ys : List Int} (hs : a.eval s = v) (hx : a.eval x = u)
    (hown : w.ownsRow B 2 1 v xs.length (xs.flatMap encN1)) (hu : ReadsK encN1 1 w u ys) (hl : xs.length + ys.length ≤ 1000000) (hB : B ≤ w.heap.size)
    (h : ∀ v' w', w'.ownsRow B 2 1 v' (xs ++ ys).length ((xs ++ ys).flatMap encN1) → w.grownBy w' v.ownBlock → wpList Try.prog ops Q rest (a.put o.dst v') w') : wpList Try.prog ops Q (o :: rest) a w := by
  refine wpList_plain hgd fun _ hK => ?_
  obtain ⟨v', w', hr, h2, h3⟩ := run_appI (w := w) o.type hown hu hl hB
  unfold Oper.wp execOp
  simp only [ho, resolve, invoke, builtin, Sem.run_bind, Sem.run_pure, Result.andThen_ok, List.map_toArray, List.map_cons, List.map_nil, hs, hx, hr]
  exact hK _ _ (h v' w' h2 h3)
theorem own_slice' {w : World} {Z k n : Nat} {E : TypeId} {v : Value} {xs : List Value} (h : w.ownsRow Z E k v n xs) : ∃ a c, v = .slice a n c := by
  obtain ⟨_, ⟨rfl, rfl⟩ | ⟨g, cap, cur, rfl, _⟩⟩ := h
  · exact ⟨_, _, rfl⟩
  · exact ⟨_, _, rfl⟩
end Go.Proofs.Ytdhbjejejeljoaa
