/- A program of the call's own; an append of a part of a slice, for any elements. -/
import Derived.Test.YtdhbjejejeljoaaEv15
import Derived.Deep.DeepCutAuto
namespace Go.Proofs.Ytdhbjejejeljoaa
open Go.RowKit Go.Sort Go.Lib

theorem wpList_arunC {P : Program} {ops : Array Oper} {rest : List Oper} {o : Oper} {a : Act} {w : World} {Q : Exit → Act → World → Prop} (hgd : o.guard = none) (s x : Operand) (t t' : TypeId)
    (ho : o.op = .call { callee := .builtin .append, args := #[s, x], argTypes := #[t, t'] }) {v u : Value} (hs : a.eval s = v) (hx : a.eval x = u) {v' : Value} {w' : World} (hr : (Builtin.append_ #[t, t'] o.type #[v, u]).run P w = .ok v' w')
    (h : wpList P ops Q rest (a.put o.dst v') w') : wpList P ops Q (o :: rest) a w := by
  refine wpList_plain hgd fun _ hK => ?_
  unfold Oper.wp execOp
  simp only [ho, resolve, invoke, builtin, Sem.run_bind, Sem.run_pure, Result.andThen_ok, List.map_toArray, List.map_cons, List.map_nil, hs, hx, hr]
  exact hK _ _ h
/-- 'append(own, part...)'. -/
theorem run_appK {P : Program} {α : Type} {enc : α → List Value} {k bytes : Nat} {E t : TypeId} {z : Value} (hund : P.underlying t = some (.slice E)) (hinf : (P.info? E).map (fun i => (i.zero, i.size, i.bytes)) = some (some z, k, bytes)) (hz : z.cells.size = k) (h0 : 0 < k) (hk : ∀ x, (enc x).length = k) (h1 : ∀ x, ∀ u ∈ enc x, u.oneCell' = true)
    {w : World} {B : Nat} {v u : Value} {xs ys : List α} (ty : TypeId) (ho : w.ownsRow B E k v xs.length (xs.flatMap enc)) (hu : ReadsK enc k w u ys) (hl : xs.length + ys.length ≤ 1000000) (hb : bytes ≤ 1000) (hB : B ≤ w.heap.size) :
    ∃ v' w', (Builtin.append_ #[t, t] ty #[v, u]).run P w = .ok v' w' ∧ w'.ownsRow B E k v' (xs ++ ys).length ((xs ++ ys).flatMap enc) ∧ w.grownBy w' v.ownBlock := by
  obtain ⟨ig, hig, hg0, hg1, hg2⟩ := info_parts hinf
  have hlb : (xs.length + ys.length) * bytes ≤ 140737488355328 := Nat.le_trans (Nat.mul_le_mul hl hb) (by decide)
  have big : ∀ (ad : Addr) c, (u = .slice (some ad) ys.length c) → (∀ j x, (ys.flatMap enc)[j]? = some x → w.cell? (ad.add j) = some x) → ∃ v' w', (Builtin.append_ #[t, t] ty #[v, u]).run P w = .ok v' w' ∧ w'.ownsRow B E k v' (xs ++ ys).length ((xs ++ ys).flatMap enc) ∧ w.grownBy w' v.ownBlock := by
    intro ad c he hc
    subst he
    obtain ⟨v', w', hr, h2, h3, _⟩ := run_append_own (P := P) w B t ty E ig z k bytes hund hig hg0 hg1 hg2 hz h0 v xs.length (xs.flatMap enc) ho ad ys.length c (ys.flatMap enc) (flat_len (enc := enc) hk ys) hc
      (fun x hx => by obtain ⟨y, _, hy⟩ := List.mem_flatMap.1 hx; exact h1 y x hy) (by unfold maxLen; omega) hlb hB
    exact ⟨v', w', hr, by rw [List.length_append, List.flatMap_append]; exact h2, h3⟩
  rcases hu with ⟨rfl, a, cap, rfl⟩ | ⟨b, off, cap, rfl, hb2, hc⟩
  · cases a with
    | some ad => exact big ad cap rfl (fun j x h => by simp at h)
    | none =>
      refine ⟨v, w, ?_, by simpa using ho, ⟨rfl, rfl, rfl, Nat.le_refl _, fun _ _ _ => rfl⟩⟩
      obtain ⟨_, ⟨rfl, _⟩ | ⟨g, cap2, cur, rfl, _, _, h1, _⟩⟩ := ho
      · simp [Builtin.append_, run_underlying hund, sizeOf, typeInfo, hig, Builtin.lenOf, Builtin.firstCells]
      · simp [Builtin.append_, run_underlying hund, sizeOf, typeInfo, hig, Builtin.lenOf, Builtin.firstCells, h1, storeCells]
  · refine big ⟨b, off, none⟩ cap rfl (fun j x h => ?_)
    have hj : j < ys.length * k := by
      have := (List.getElem?_eq_some_iff.1 h).1
      rwa [flat_len (enc := enc) (k := k) hk] at this
    have h2 := flat_get (enc := enc) (k := k) hk h0 ys j hj
    obtain ⟨_, h4⟩ := List.getElem?_eq_some_iff.1 h
    rw [h2] at h4
    have hjk : j / k < ys.length := Nat.div_lt_of_lt_mul (by rw [Nat.mul_comm]; exact hj)
    have h3 := hc (j / k) hjk (j % k) x (by rw [← h4]; exact List.getElem?_eq_getElem _)
    rw [show j / k * k + j % k = j by rw [Nat.mul_comm]; exact Nat.div_add_mod j k] at h3
    rw [← h3]
    by_cases h0 : j = 0
    · subst h0; rfl
    · simp [Addr.add, h0]
theorem info_op : (Try.prog.info? 56).map (fun i => (i.zero, i.size, i.bytes)) = some (some (.agg #[.int .u8 0, .int .i64 0, .int .i64 0, .int .i64 0, .int .i64 0]), 5, 40) := by kernel_rfl
theorem info_fn : (Try.prog.info? 78).map (fun i => (i.zero, i.size, i.bytes)) = some (some (.agg #[.int .i64 0, .int .i64 0, .slice none 0 0]), 3, 40) := by kernel_rfl
theorem encO_one (o : Opr) : ∀ u ∈ encO o, u.oneCell' = true := by
  intro x hy
  simp only [encO, List.mem_cons, List.not_mem_nil, or_false] at hy
  rcases hy with h | h | h | h | h <;> subst h <;> rfl
theorem encF_one (f : Fnc) : ∀ u ∈ encF f, u.oneCell' = true := by
  intro x hy
  simp only [encF, List.mem_cons, List.not_mem_nil, or_false] at hy
  rcases hy with h | h | h <;> subst h <;> rfl
/-- A function's ops, of the call's own. -/
def OpsOwn (B : Nat) (w : World) (f : Fnc) : Prop := w.ownsRow B OpT 5 (.slice f.oa f.ops.length f.oc) f.ops.length (f.ops.flatMap encO)
/-- The same function, wherever its ops lie. -/
def FnEq (f g : Fnc) : Prop := g.args = f.args ∧ g.regs = f.regs ∧ g.ops = f.ops
/-- A program of the call's own. -/
structure ProgOwn (B : Nat) (w : World) (v : Value) (p : List Fnc) : Prop where
  fns : w.ownsRow B FnT 3 v p.length (p.flatMap encF)
  ops : ∀ f ∈ p, OpsOwn B w f
theorem ProgOwn.below {B : Nat} {w w' : World} {v : Value} {p : List Fnc} (h : ProgOwn B w v p) (hB : Below w.heap.size w w') : ProgOwn B w' v p := ⟨own_below h.fns hB, fun f hf => own_below (h.ops f hf) hB⟩

theorem ProgOwn.typed {B : Nat} {w w' : World} {v : Value} {p : List Fnc} {S : Nat → Prop} {Es : List TypeId} (h : ProgOwn B w v p) (hF : Fr S w w') (hT : Typed S w Es) (h1 : FnT ∉ Es) (h2 : OpT ∉ Es) : ProgOwn B w' v p :=
  ⟨own_typed h.fns hF hT h1, fun f hf => own_typed (h.ops f hf) hF hT h2⟩
theorem ProgOwn.at {B : Nat} {w : World} {v : Value} {p : List Fnc} (h : ProgOwn B w v p) (hp : WfP p) : ProgAt w v p :=
  ⟨own_readsK (enc := encF) (k := 3) (fun _ => rfl) (by decide) h.fns, fun f hf => ⟨own_readsK (enc := encO) (k := 5) (fun _ => rfl) (by decide) (h.ops f hf), by have := (hp.2 f hf).o1; omega⟩, by have := hp.1; omega⟩
theorem ProgOwn.mono {B B' : Nat} {w : World} {v : Value} {p : List Fnc} (h : ProgOwn B w v p) (hb : B' ≤ B) : ProgOwn B' w v p :=
  ⟨owns_monoG h.fns hb, fun f hf => owns_monoG (h.ops f hf) hb⟩
end Go.Proofs.Ytdhbjejejeljoaa
