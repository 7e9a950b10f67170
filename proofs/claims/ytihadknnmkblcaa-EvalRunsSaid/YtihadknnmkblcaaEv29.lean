/- The world of the document's Do: what waits, what a child leaves; a round, plainly. -/
import Derived.Test.YtihadknnmkblcaaEv28
namespace Go.Proofs.Ytihadknnmkblcaa
open Go.RowKit Go.Sort Go.Lib

/-- What is behind the op; behind a fork; behind a join. -/
def rnd2 (p : List Fnc) (D : Tk → Rs × List Dn) (t : Tk) (o : Opr) (x : Int × St) : Int × St := if x.1 = 0 ∧ o.k = 12 then forkS p D t x.2 o else x
def rnd3 (o : Opr) (x : Int × St) : Int × St := if x.1 = 0 ∧ (o.k = 13 ∨ o.k = 14) then joinS x.2 else x
theorem opR_err {s : St} {o : Opr} : (opR s o).1 = 0 ∨ (opR s o).1 = 131 := by
  unfold opR
  simp only []
  by_cases h1 : o.k = 1
  · rw [if_pos h1]; exact .inl rfl
  rw [if_neg h1]
  by_cases h10 : o.k = 10
  · rw [if_pos h10]; exact .inl rfl
  rw [if_neg h10]
  by_cases h11 : o.k = 11
  · rw [if_pos h11]; exact .inl rfl
  rw [if_neg h11]
  cases calcP o.k (rg s.regs o.a) (rg s.regs o.b)
  · exact .inr rfl
  · exact .inl rfl
theorem plainB_iff (k : Int) : plainB k = true ↔ k ≠ 12 ∧ k ≠ 13 ∧ k ≠ 14 := by
  unfold plainB
  simp [and_assoc]
theorem stepP_rnd {p : List Fnc} {D : Tk → Rs × List Dn} {t : Tk} {s : St} (ho : OpOk p (fnAt p t.fn) (opAt p t s)) :
    stepP p D t s = (if (rnd3 (opAt p t s) (rnd2 p D t (opAt p t s) (stpR p t s).2)).1 ≠ 0 then .stop (rnd3 (opAt p t s) (rnd2 p D t (opAt p t s) (stpR p t s).2)).2 ⟨0, (rnd3 (opAt p t s) (rnd2 p D t (opAt p t s) (stpR p t s).2)).1⟩
      else if (opAt p t s).k = 14 then .stop (rnd3 (opAt p t s) (rnd2 p D t (opAt p t s) (stpR p t s).2)).2 ⟨rg (rnd3 (opAt p t s) (rnd2 p D t (opAt p t s) (stpR p t s).2)).2.regs (opAt p t s).a, 0⟩
      else .go (rnd3 (opAt p t s) (rnd2 p D t (opAt p t s) (stpR p t s).2)).2) := by
  unfold stepP stpR
  by_cases h0 : s.left = 0
  · rw [if_pos h0, if_pos h0]
    simp [rnd2, rnd3]
  rw [if_neg h0, if_neg h0]
  generalize opAt p t s = o at *
  by_cases hp : plainB o.k = true
  · rw [if_pos hp]
    obtain ⟨h12, h13, h14⟩ := (plainB_iff _).1 hp
    have e2 : ∀ x, rnd2 p D t o x = x := fun x => by unfold rnd2; rw [if_neg (fun h => h12 h.2)]
    have e3 : ∀ x, rnd3 o x = x := fun x => by unfold rnd3; rw [if_neg (fun h => by omega)]
    simp only [e2, e3]
    rw [opR_opS h12 h13 h14]
    by_cases hz : (opR { s with left := s.left - 1 } o).1 = 0
    · have hx : (opS p D t { s with left := s.left - 1 } o).1 = false := by
        cases hb : (opS p D t { s with left := s.left - 1 } o).1
        · rfl
        · exfalso
          have h1 : opS p D t { s with left := s.left - 1 } o = (true, (opR { s with left := s.left - 1 } o).1, (opR { s with left := s.left - 1 } o).2) := by
            rw [← opR_opS (p := p) (D := D) (t := t) h12 h13 h14, ← hb]
          exact h14 (opS_done h1 hz ho)
      rw [hx]
      simp [hz, h14]
    · simp [hz]
  · have hp' : o.k = 12 ∨ o.k = 13 ∨ o.k = 14 := by
      have := mt (plainB_iff o.k).2 hp
      omega
    rw [if_neg hp]
    rcases hp' with hk | hk | hk
    · rw [opS_fork hk]
      simp [rnd2, rnd3, hk]
    · rw [opS_join hk]
      simp [rnd2, rnd3, hk]
    · have : opS p D t { s with left := s.left - 1 } o = (true, joinS { s with left := s.left - 1, pc := s.pc + 1 }) := by unfold opS; simp [hk]
      rw [this]
      simp [rnd2, rnd3, hk]

/-- 'append(own, part...)' of tasks that are done. -/
theorem run_appD {w : World} {B : Nat} {v u : Value} {xs ys : List DnA} (ty : TypeId) (ho : w.ownsRow B DoneT 7 v xs.length (xs.flatMap encDn)) (hu : ReadsK encDn 7 w u ys) (hl : xs.length + ys.length ≤ 1000000) (hB : B ≤ w.heap.size) :
    ∃ v' w', (Builtin.append_ #[35, 35] ty #[v, u]).run Try.prog w = .ok v' w' ∧ w'.ownsRow B DoneT 7 v' (xs ++ ys).length ((xs ++ ys).flatMap encDn) ∧ w.grownBy w' v.ownBlock := by
  obtain ⟨ig, hig, hg0, hg1, hg2⟩ := info_parts info_done
  have big : ∀ (ad : Addr) c, (u = .slice (some ad) ys.length c) → (∀ j x, (ys.flatMap encDn)[j]? = some x → w.cell? (ad.add j) = some x) → ∃ v' w', (Builtin.append_ #[35, 35] ty #[v, u]).run Try.prog w = .ok v' w' ∧ w'.ownsRow B DoneT 7 v' (xs ++ ys).length ((xs ++ ys).flatMap encDn) ∧ w.grownBy w' v.ownBlock := by
    intro ad c he hc
    subst he
    obtain ⟨v', w', hr, h2, h3, _⟩ := run_append_own (P := Try.prog) w B 35 ty DoneT ig _ 7 80 Try.underlying35 hig hg0 hg1 hg2 rfl (by decide) v xs.length (xs.flatMap encDn) ho ad ys.length c (ys.flatMap encDn) (flat_len (enc := encDn) encDn_len ys) hc
      (fun x hx => by
        obtain ⟨y, _, hy⟩ := List.mem_flatMap.1 hx
        simp only [encDn, List.mem_cons, List.not_mem_nil, or_false] at hy
        rcases hy with h | h | h | h | h | h | h <;> subst h <;> rfl) (by unfold maxLen; omega) (by omega) hB
    exact ⟨v', w', hr, by rw [List.length_append, List.flatMap_append]; exact h2, h3⟩
  rcases hu with ⟨rfl, a, cap, rfl⟩ | ⟨b, off, cap, rfl, hb, hc⟩
  · cases a with
    | some ad => exact big ad cap rfl (fun j x h => by simp at h)
    | none =>
      refine ⟨v, w, ?_, by simpa using ho, ⟨rfl, rfl, rfl, Nat.le_refl _, fun _ _ _ => rfl⟩⟩
      obtain ⟨_, ⟨rfl, _⟩ | ⟨g, cap2, cur, rfl, _, _, h1, _⟩⟩ := ho
      · simp [Builtin.append_, run_underlying Try.underlying35, sizeOf, typeInfo, hig, Builtin.lenOf, Builtin.firstCells]
      · simp [Builtin.append_, run_underlying Try.underlying35, sizeOf, typeInfo, hig, Builtin.lenOf, Builtin.firstCells, h1, storeCells]
  · refine big ⟨b, off, none⟩ cap rfl (fun j x h => ?_)
    have hj : j < ys.length * 7 := by
      have := (List.getElem?_eq_some_iff.1 h).1
      rwa [flat_len (enc := encDn) (k := 7) encDn_len] at this
    have h2 := flat_get (enc := encDn) (k := 7) encDn_len (by decide) ys j hj
    obtain ⟨_, h4⟩ := List.getElem?_eq_some_iff.1 h
    rw [h2] at h4
    have h3 := hc (j / 7) (by omega) (j % 7) x (by rw [← h4]; exact List.getElem?_eq_getElem _)
    rw [show j / 7 * 7 + j % 7 = j by omega] at h3
    rw [← h3]
    by_cases h0 : j = 0
    · subst h0; rfl
    · simp [Addr.add, h0]

/-- What the document's Do leaves. -/
def RDoP (Z0 : Nat) (D : Tk → Rs × List Dn) (t : Tk) (w : World) (e : Ending) (w' : World) : Prop :=
  Below w.heap.size w w' ∧ ∃ (v : Value) (nd : List DnA), e = .returned (.tuple #[.agg #[.int .i64 (D t).1.v, .int .i64 (D t).1.e], v]) ∧ w'.ownsRow w.heap.size DoneT 7 v nd.length (nd.flatMap encDn) ∧ nd.map (·.1) = (D t).2 ∧ ∀ d ∈ nd, ArgsAt Z0 w' d
def RDoC (p : List Fnc) (D : Tk → Rs × List Dn) (N : Int) : Prop :=
  ∀ (Z0 : Nat) (t : Tk) (aa : Option Addr) (ac : Nat) (pv : Value) (w : World), TkOk p t → t.fuel < N → ProgAt w pv p → Z0 ≤ w.heap.size → w.ownsRow Z0 I64T 1 (.slice aa t.args.length ac) t.args.length (t.args.flatMap encN1) →
    Calls Try.prog 22 #[.agg #[pv], .agg #[.string t.p, .int .i64 t.fn, .slice aa t.args.length ac, .int .i64 t.fuel]] w (RDoP Z0 D t w)
/-- The task that is done, and what waits. -/
structure Rd (w0 : World) (Z q r : Nat) (pv : Value) (t : Tk) (av : Value) (f : Nat) (iv dv wv : Value) (I : List Int) (nd : List DnA) (s : St) (w : World) : Prop where
  ru : Ru w0 Z q r pv t av f iv dv I nd s w
  wt : w.ownsRow Z ResT 2 wv s.waits.length (s.waits.flatMap encRs)
section
variable {w0 : World} {Z q r : Nat} {pv : Value} {t : Tk} {av : Value} {f : Nat} {iv dv wv : Value} {I : List Int} {nd : List DnA} {s : St} {w w' : World}
theorem Rd.below (h : Rd w0 Z q r pv t av f iv dv wv I nd s w) (hB : Below w.heap.size w w') : Rd w0 Z q r pv t av f iv dv wv I nd s w' := ⟨h.ru.below hB, own_below h.wt hB⟩
/-- What waits is no part of the struct. -/
theorem Ru.waits (h : Ru w0 Z q r pv t av f iv dv I nd s w) (ws : List Rs) : Ru w0 Z q r pv t av f iv dv I nd { s with waits := ws } w := ⟨h.box, h.regs, h.into, h.done, h.da, h.sep, h.dn, h.low, h.zq, h.ik, h.ifr⟩
/-- A result more. -/
theorem Ru.pushW {ws : List Rs} {wv' : Value} {x : Rs} {w1 : World} (h : Ru w0 Z q r pv t av f iv dv I nd s w) (hw : w.ownsRow Z ResT 2 wv ws.length (ws.flatMap encRs)) (hF : Fr (fun i => wv.ownBlock = some i) w w1) (ho : w1.ownsRow Z ResT 2 wv' (ws.length + 1) (ws.flatMap encRs ++ encRs x)) :
    Ru w0 Z q r pv t av f iv dv I nd s w1 ∧ w1.ownsRow Z ResT 2 wv' (ws ++ [x]).length ((ws ++ [x]).flatMap encRs) := by
  refine ⟨h.other hF (typed_own hw) (fun i hi => (hw.lt i hi).1) (by decide) (by decide) (by decide) (by decide), ?_⟩
  simpa [List.flatMap_append] using ho
/-- The child's tasks behind those that are done. -/
theorem Ru.pushD {dv' : Value} {nd' : List DnA} {L : List Dn} {w1 : World} (h : Ru w0 Z q r pv t av f iv dv I nd s w) (hF : Fr (fun i => dv.ownBlock = some i) w w1) (ho : w1.ownsRow Z DoneT 7 dv' (nd ++ nd').length ((nd ++ nd').flatMap encDn))
    (ha : ∀ d ∈ nd', ArgsAt Z w d) (hs : ∀ d ∈ nd', (argV d).ownBlock ≠ some r) (hm : nd'.map (·.1) = L) :
    Ru w0 Z q r pv t av f iv dv' I (nd ++ nd') { s with done := s.done ++ L } (w1.setCell ⟨q, 11, none⟩ dv') ∧ Fr (fun i => i = q ∨ dv.ownBlock = some i) w (w1.setCell ⟨q, 11, none⟩ dv') ∧ Typed (fun i => i = q ∨ dv.ownBlock = some i) w [RunT, DoneT] := by
  have hz : Z ≤ w.heap.size := by have := (Array.getElem?_eq_some_iff.1 h.box).1; have := h.zq; omega
  have hb := box_typed h.box hF (typed_own h.done) (by decide)
  have hF2 : Fr (fun i => i = q) w1 (w1.setCell ⟨q, 11, none⟩ dv') := (Fr.refl (fun i => i = q) w1).setCell (p := ⟨q, 11, none⟩) rfl _
  have hFa : Fr (fun i => i = q ∨ dv.ownBlock = some i) w (w1.setCell ⟨q, 11, none⟩ dv') := (hF.mono fun i hi => .inr hi).trans (hF2.mono fun i hi => .inl hi)
  have hTa : Typed (fun i => i = q ∨ dv.ownBlock = some i) w [RunT, DoneT] := (typed_box h.box).or (typed_own h.done)
  refine ⟨⟨Go.heap_setCell_same w1 q 11 _ _ dv' hb, box_typed h.regs hFa hTa (by decide), own_typed h.into hFa hTa (by decide), own_typed ho hF2 (typed_box hb) (by decide), ?_, ?_, by simp [h.dn, hm], h.low.trans (hFa.below (fun i hi => ?_) hz), h.zq, h.ik, h.ifr⟩, hFa, hTa⟩
  · intro d hd
    rcases List.mem_append.1 hd with h1 | h1
    · exact own_typed (h.da d h1) hFa hTa (by decide)
    · exact own_typed (ha d h1) hFa hTa (by decide)
  · intro d hd
    rcases List.mem_append.1 hd with h1 | h1
    · exact h.sep d h1
    · exact hs d h1
  · rcases hi with hi | hi
    · have := h.zq; omega
    · exact (h.done.lt i hi).1
end
/-- A box of the call's own, ahead of the task, stays. -/
theorem Ru.old {w0 : World} {Z q r : Nat} {pv : Value} {t : Tk} {av : Value} {f : Nat} {iv dv : Value} {I : List Int} {nd : List DnA} {s : St} {w : World} (h : Ru w0 Z q r pv t av f iv dv I nd s w) {b : Nat} {cur : Array Value} {E : TypeId} (hb : BoxAt w0 b cur E) (hZ : b < Z) : BoxAt w b cur E :=
  (h.low.block b hZ).trans hb
theorem rdo_end {wz : World} {tmps : Array Value} {q : Rs} {r : Nat} {v : Value} {R : Ending → World → Prop}
    (hr : BoxAt wz r (resC q) ResT) (h2 : tmps.getD 4 undef = .pointer (some ⟨r, 0, none⟩)) (h3 : tmps.getD 5 undef = v) (hR : R (.returned (.tuple #[.agg #[.int .i64 q.v, .int .i64 q.e], v])) wz) :
    bodyPost Try.prog Try.f22 R Exit.ret { tmps := tmps, defers := [] } wz := by
  have c0 := hr.cell 0
  have c1 := hr.cell 1
  simp only [resC, List.getElem?_toArray, List.getElem?_cons_zero, List.getElem?_cons_succ] at c0 c1
  refine bodyPost_ret (v := .tuple #[.agg #[.int .i64 q.v, .int .i64 q.e], v]) ?_ rfl hR
  have h2' : tmps[4]?.getD undef = .pointer (some ⟨r, 0, none⟩) := by simpa using h2
  have h3' : tmps[5]?.getD undef = v := by simpa using h3
  simp [results, Try.results22, go_sem, h2', h3', c0, c1]
end Go.Proofs.Ytihadknnmkblcaa
