/- Contract: eval.task.fork. -/
import Derived.Test.YtdhbjejejeljoaaEv11
import Derived.Lib.SlBytesRow
namespace Go.Proofs.Ytdhbjejejeljoaa
open Go.RowKit Go.Sort Go.Lib
theorem step_append_run {P : Program} {ops : Array Oper} {o : Oper} {a : Act} {w : World} {K : Act → World → Prop} {Q : Exit → Act → World → Prop} {E : Prop}
    (hg : o.guard = none) (s x : Operand) (t t' : TypeId) (hop : o.op = Op.call { callee := Callee.builtin Builtin.append, args := #[s, x], argTypes := #[t, t'] })
    (v u : Value) (hd : a.eval s = v) (hx : a.eval x = u) {v' : Value} {w' : World} (hr : (Builtin.append_ #[t, t'] o.type #[v, u]).run P w = .ok v' w') (hK : K (a.put o.dst v') w') :
    if Region.wanted o (yielded ops a.tmps) = true then Oper.wp P o a w K Q else E := by
  have hw : Region.wanted o (yielded ops a.tmps) = true := by simp [Region.wanted, hg]
  rw [if_pos hw]
  unfold Oper.wp
  simp [execOp, hop, resolve, invoke, builtin, hd, hx, hr, Result.andThen]
  exact hK
theorem info_int : (Try.prog.info? 3).map (fun i => (i.zero, i.size, i.bytes)) = some (some (.int .i64 0), 1, 8) := by kernel_rfl
theorem info_res : (Try.prog.info? 39).map (fun i => (i.zero, i.size, i.bytes)) = some (some (.agg #[.int .i64 0, .int .i64 0]), 2, 16) := by kernel_rfl
theorem own_slice {w : World} {Z k n : Nat} {E : TypeId} {v : Value} {xs : List Value} (h : w.ownsRow Z E k v n xs) : ∃ a c, v = .slice a n c := by
  obtain ⟨_, ⟨rfl, rfl⟩ | ⟨g, cap, cur, rfl, _⟩⟩ := h
  · exact ⟨_, _, rfl⟩
  · exact ⟨_, _, rfl⟩
theorem one_res (w : World) (d : Rs) : ∀ j u, (encRs d)[j]? = some u → (w.alloc (.cells #[.int .i64 d.v, .int .i64 d.e] ResT)).cell? ((⟨w.heap.size, 0, none⟩ : Addr).add j) = some u := by
  intro j u hj
  match j with
  | 0 => simp [encRs] at hj; subst hj; simp [go_sem, Addr.add]
  | 1 => simp [encRs] at hj; subst hj; simp [go_sem, Addr.add]
  | j + 2 => simp [encRs] at hj
theorem one_int (w : World) (d : Int) : ∀ j u, (encN1 d)[j]? = some u → (w.alloc (.cells #[.int .i64 d] 3)).cell? ((⟨w.heap.size, 0, none⟩ : Addr).add j) = some u := by
  intro j u hj
  match j with
  | 0 => simp [encN1] at hj; subst hj; simp [go_sem, Addr.add]
  | j + 1 => simp [encN1] at hj
theorem grow_fr' {w w1 w' : World} {v : Value} (hB : Below w.heap.size w w1) (hg : w1.grownBy w' v.ownBlock) : Fr (fun i => v.ownBlock = some i) w w' := (grow_fr hB hg).mono fun _i hi => hi.symm
theorem reads_part {y : World} {r A n : Nat} {rs L : List Int} (h : BoxAt y r (rs.map (Value.int .i64)).toArray I64T) (hn : n = L.length) (hl : A + n ≤ rs.length) (hL : L = (rs.drop A).take n) {cap : Nat} : ReadsK encN1 1 y (.slice (some ⟨r, A, none⟩) n cap) L := by
  refine .inr ⟨r, A, cap, by rw [hn], (Array.getElem?_eq_some_iff.1 h).1, fun i hi t u hu => ?_⟩
  have ht : t = 0 := by
    have := (List.getElem?_eq_some_iff.1 hu).1
    simp [encN1] at this; omega
  subst ht
  simp only [encN1, List.getElem?_cons_zero, Option.some.injEq] at hu
  subst hu
  have e : L[i] = rs[A + i]'(by omega) := by
    subst hL
    simp [List.getElem_take, List.getElem_drop]
  rw [e]
  have := regs_cell h (q := A + i) (by omega)
  simpa using this
end Go.Proofs.Ytdhbjejejeljoaa
