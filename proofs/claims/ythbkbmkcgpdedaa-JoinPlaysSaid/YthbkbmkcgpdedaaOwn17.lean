/- An append to a slice of numbers; contract: a task of one's own. -/
import Derived.Test.YthbkbmkcgpdedaaHeavy17
import Derived.Test.YthbkbmkcgpdedaaOwnFr
import Derived.Laws.AppendOwn
namespace Go.Proofs.Ythbkbmkcgpdedaa
open Go.RowKit Go.Sort Go.Lib

theorem encI_one (y : Int) : ∀ x ∈ encI y, x.oneCell' = true := by
  intro x hx
  simp [encI] at hx
  subst hx; rfl
/-- 'append(own, part...)'. -/
theorem run_appI {w : World} {B : Nat} {v u : Value} {xs ys : List Int} (ty : TypeId) (ho : w.ownsRow B 2 1 v xs.length (xs.flatMap encI)) (hu : ReadsK encI 1 w u ys) (hl : xs.length + ys.length ≤ 1000000) (hB : B ≤ w.heap.size) :
    ∃ v' w', (Builtin.append_ #[36, 36] ty #[v, u]).run Try.prog w = .ok v' w' ∧ w'.ownsRow B 2 1 v' (xs ++ ys).length ((xs ++ ys).flatMap encI) ∧ w.grownBy w' v.ownBlock := by
  obtain ⟨ig, hig, hg0, hg1, hg2⟩ := info_parts info_i64
  have big : ∀ (ad : Addr) c, (u = .slice (some ad) ys.length c) → (∀ j x, (ys.flatMap encI)[j]? = some x → w.cell? (ad.add j) = some x) → ∃ v' w', (Builtin.append_ #[36, 36] ty #[v, u]).run Try.prog w = .ok v' w' ∧ w'.ownsRow B 2 1 v' (xs ++ ys).length ((xs ++ ys).flatMap encI) ∧ w.grownBy w' v.ownBlock := by
    intro ad c he hc
    subst he
    obtain ⟨v', w', hr, h2, h3, _⟩ := run_append_own (P := Try.prog) w B 36 ty 2 ig (.int .i64 0) 1 8 Try.underlying36 hig hg0 hg1 hg2 rfl (by decide) v xs.length (xs.flatMap encI) ho ad ys.length c (ys.flatMap encI) (flat_len (enc := encI) (fun _ => rfl) ys) hc
      (fun x hx => by obtain ⟨y, _, hy⟩ := List.mem_flatMap.1 hx; exact encI_one y x hy) (by unfold maxLen; omega) (by omega) hB
    exact ⟨v', w', hr, by rw [List.length_append, List.flatMap_append]; exact h2, h3⟩
  rcases hu with ⟨rfl, a, cap, rfl⟩ | ⟨b, off, cap, rfl, hb, hc⟩
  · cases a with
    | some ad => exact big ad cap rfl (fun j x h => by simp at h)
    | none =>
      refine ⟨v, w, ?_, by simpa using ho, ⟨rfl, rfl, rfl, Nat.le_refl _, fun _ _ _ => rfl⟩⟩
      obtain ⟨_, ⟨rfl, _⟩ | ⟨g, cap2, cur, rfl, _, _, h1, _⟩⟩ := ho
      · simp [Builtin.append_, run_underlying Try.underlying36, sizeOf, typeInfo, hig, Builtin.lenOf, Builtin.firstCells]
      · simp [Builtin.append_, run_underlying Try.underlying36, sizeOf, typeInfo, hig, Builtin.lenOf, Builtin.firstCells, h1, storeCells]
  · refine big ⟨b, off, none⟩ cap rfl (fun j x h => ?_)
    have hj : j < ys.length * 1 := by
      have := (List.getElem?_eq_some_iff.1 h).1
      rwa [flat_len (enc := encI) (k := 1) (fun _ => rfl)] at this
    have h2 := flat_get (enc := encI) (k := 1) (fun _ => rfl) (by decide) ys j hj
    obtain ⟨_, h4⟩ := List.getElem?_eq_some_iff.1 h
    rw [h2] at h4
    have h3 := hc (j / 1) (by omega) (j % 1) x (by rw [← h4]; exact List.getElem?_eq_getElem _)
    rw [show j / 1 * 1 + j % 1 = j by omega] at h3
    rw [← h3]
    by_cases h0 : j = 0
    · subst h0; rfl
    · simp [Addr.add, h0]
theorem wpList_appI {w : World} {ops : Array Oper} {rest : List Oper} {o : Oper} {a : Act} {Q : Exit → Act → World → Prop} (hgd : o.guard = none) (s x : Operand)
    (ho : o.op = .call { callee := .builtin .append, args := #[s, x], argTypes := #[36, 36] }) {B : Nat} {v u : Value} {xs ys : List Int} (hs : a.eval s = v) (hx : a.eval x = u)
    (hown : w.ownsRow B 2 1 v xs.length (xs.flatMap encI)) (hu : ReadsK encI 1 w u ys) (hl : xs.length + ys.length ≤ 1000000) (hB : B ≤ w.heap.size)
    (h : ∀ v' w', w'.ownsRow B 2 1 v' (xs ++ ys).length ((xs ++ ys).flatMap encI) → w.grownBy w' v.ownBlock → wpList Try.prog ops Q rest (a.put o.dst v') w') : wpList Try.prog ops Q (o :: rest) a w := by
  refine wpList_plain hgd fun _ hK => ?_
  obtain ⟨v', w', hr, h2, h3⟩ := run_appI (w := w) o.type hown hu hl hB
  unfold Oper.wp execOp
  simp only [ho, resolve, invoke, builtin, Sem.run_bind, Sem.run_pure, Result.andThen_ok, List.map_toArray, List.map_cons, List.map_nil, hs, hx, hr]
  exact hK _ _ (h v' w' h2 h3)
theorem ownL_end {wz : World} {tmps : Array Value} {p : ByteArray} {fn fuel : Int} {v : Value} {r : Nat} {T : TypeId} {R : Ending → World → Prop}
    (hr : wz.heap[r]? = some (.cells #[.string p, .int .i64 fn, v, .int .i64 fuel] T (0, 0))) (h2 : tmps.getD 2 undef = .pointer (some ⟨r, 0, none⟩)) (hR : R (.returned (.agg #[.string p, .int .i64 fn, v, .int .i64 fuel])) wz) :
    bodyPost Try.prog Try.f10 R Exit.ret { tmps := tmps, defers := [] } wz := by
  have c0 : wz.cell? ⟨r, 0, none⟩ = some (.string p) := by simp [World.cell?, hr]
  have c1 : wz.cell? ⟨r, 1, none⟩ = some (.int .i64 fn) := by simp [World.cell?, hr]
  have c2 : wz.cell? ⟨r, 2, none⟩ = some v := by simp [World.cell?, hr]
  have c3 : wz.cell? ⟨r, 3, none⟩ = some (.int .i64 fuel) := by simp [World.cell?, hr]
  refine bodyPost_ret (v := .agg #[.string p, .int .i64 fn, v, .int .i64 fuel]) ?_ rfl hR
  have h2' : tmps[2]?.getD undef = .pointer (some ⟨r, 0, none⟩) := by simpa using h2
  simp [results, Try.results10, go_sem, h2', c0, c1, c2, c3]

set_option maxHeartbeats 1600000 in
set_option maxRecDepth 100000 in
theorem ownL_any (p : ByteArray) (fn fuel : Int) (v : Value) (l : List Int) (w : World) (h : ReadsK encI 1 w v l) (hl : l.length ≤ 1000000) :
    Calls Try.prog 10 #[.agg #[.string p, .int .i64 fn, v, .int .i64 fuel]] w fun e w' => ∃ aa ac, e = .returned (.agg #[.string p, .int .i64 fn, .slice aa l.length ac, .int .i64 fuel]) ∧ w'.ownsRow w.heap.size 2 1 (.slice aa l.length ac) l.length (l.flatMap encI) ∧ Below w.heap.size w w' := by
  obtain ⟨a0, c0, rfl⟩ := h.slice
  have hA : Below w.heap.size w ((w.alloc (.cells #[.string p, .int .i64 fn, .slice a0 l.length c0, .int .i64 fuel] 38)).alloc (.cells #[.string ⟨#[]⟩, .int .i64 0, .slice none 0 0, .int .i64 0] 38)) := ((Below.refl _ _).alloc (Nat.le_refl _) _).alloc (by simp) _
  have HR := Lib.hid (h.below hA)
  have HA := Lib.hid hA
  have hb1 : ((w.alloc (.cells #[.string p, .int .i64 fn, .slice a0 l.length c0, .int .i64 fuel] 38)).alloc (.cells #[.string ⟨#[]⟩, .int .i64 0, .slice none 0 0, .int .i64 0] 38)).heap[w.heap.size]? = some (.cells #[.string p, .int .i64 fn, .slice a0 l.length c0, .int .i64 fuel] 38 (0, 0)) :=
    (((Below.refl (w.alloc (.cells #[.string p, .int .i64 fn, .slice a0 l.length c0, .int .i64 fuel] 38)).heap.size _).alloc (Nat.le_refl _) _).block _ (by simp)).trans (heap_alloc_new _ _)
  have hb2 := heap_alloc_new (w.alloc (.cells #[.string p, .int .i64 fn, .slice a0 l.length c0, .int .i64 fuel] 38)) (.cells #[.string ⟨#[]⟩, .int .i64 0, .slice none 0 0, .int .i64 0] 38)
  rw [show (w.alloc (.cells #[.string p, .int .i64 fn, .slice a0 l.length c0, .int .i64 fuel] 38)).heap.size = w.heap.size + 1 by simp] at hb2
  have H1 := Lib.hid hb1
  have H2 := Lib.hid hb2
  clear h hA hb1 hb2
  go_enter Try.func10, Try.ntmps10
  go_wp2_with (at_builtin; refine wpList_appI rfl _ _ rfl (B := w.heap.size + 2) (xs := []) (ys := l) rfl rfl (World.ownsRow_nil _ _ _ _) HR.out (by simpa using hl) (by simp) ?_)
  rintro v' w1 ho hgr
  replace ho : w1.ownsRow (w.heap.size + 2) 2 1 v' l.length (l.flatMap encI) := ho
  have hB := (grow_fr (Below.refl _ _) hgr).below (fun i hi => by simp [Value.ownBlock] at hi) (Nat.le_refl _)
  obtain ⟨aa, ac, rfl⟩ := (own_readsK (enc := encI) (k := 1) (fun _ => rfl) (by decide) ho).slice
  have hlt1 := (Array.getElem?_eq_some_iff.1 H1.out).1
  have hlt2 := (Array.getElem?_eq_some_iff.1 H2.out).1
  have k1 := (hB.block _ hlt1).trans H1.out
  have k2 := (hB.block _ hlt2).trans H2.out
  have HO := Lib.hid ho
  have HB := Lib.hid (gthen HA.out hB)
  clear ho hB HR H1 H2 HA hlt1 hlt2 hgr
  have hc1 : ∀ o, w1.cell? ⟨w.heap.size, o, none⟩ = #[Value.string p, .int .i64 fn, .slice a0 l.length c0, .int .i64 fuel][o]? := fun o => by simp [World.cell?, k1]
  have hz1 : ∀ o, w1.frozen? ⟨w.heap.size, o, none⟩ = false := fun o => by simp [World.frozen?, k1]
  have hc2 : ∀ o, w1.cell? ⟨w.heap.size + 1, o, none⟩ = #[Value.string ⟨#[]⟩, .int .i64 0, .slice none 0 0, .int .i64 0][o]? := fun o => by simp [World.cell?, k2]
  have hz2 : ∀ o, w1.frozen? ⟨w.heap.size + 1, o, none⟩ = false := fun o => by simp [World.frozen?, k2]
  have x0 := hc1 0; have x1 := hc1 1; have x2 := hc1 2; have x3 := hc1 3
  have y0 := hc2 0; have y1 := hc2 1; have y2 := hc2 2; have y3 := hc2 3
  have p2 := hz1 2
  have q0 := hz2 0; have q1 := hz2 1; have q2 := hz2 2; have q3 := hz2 3
  simp only [List.getElem?_toArray, List.getElem?_cons_zero, List.getElem?_cons_succ] at x0 x1 x2 x3 y0 y1 y2 y3
  have K1 := Lib.hid k1
  have K2 := Lib.hid k2
  clear hc1 hz1 hc2 hz2 k1 k2
  go_wp2_with fail
  have hx := set4 (w1 := w1.setCell ⟨w.heap.size, 2, none⟩ (.slice aa l.length ac)) ((Go.heap_setCell_other w1 ⟨w.heap.size, 2, none⟩ (w.heap.size + 1) _ (by show w.heap.size + 1 ≠ w.heap.size; omega)).trans K2.out) (.string p) (.int .i64 fn) (.slice aa l.length ac) (.int .i64 fuel)
  have hB9 := set4_below (HB.out.setCell (p := ⟨w.heap.size, 2, none⟩) (Nat.le_refl _) (.slice aa l.length ac)) (r := w.heap.size + 1) (Nat.le_succ _) (.string p) (.int .i64 fn) (.slice aa l.length ac) (.int .i64 fuel)
  have hO9 := own_sets (own_sets (own_sets (own_sets (own_sets HO.out (r := w.heap.size) (a := ⟨w.heap.size, 2, none⟩) (by omega) rfl (.slice aa l.length ac)) (r := w.heap.size + 1) (a := ⟨w.heap.size + 1, 0, none⟩) (by omega) rfl (.string p)) (r := w.heap.size + 1) (a := ⟨w.heap.size + 1, 1, none⟩) (by omega) rfl (.int .i64 fn)) (r := w.heap.size + 1) (a := ⟨w.heap.size + 1, 2, none⟩) (by omega) rfl (.slice aa l.length ac)) (r := w.heap.size + 1) (a := ⟨w.heap.size + 1, 3, none⟩) (by omega) rfl (.int .i64 fuel)
  exact ownL_end hx rfl ⟨aa, ac, rfl, owns_base hO9 (by omega), hB9⟩
end Go.Proofs.Ythbkbmkcgpdedaa
