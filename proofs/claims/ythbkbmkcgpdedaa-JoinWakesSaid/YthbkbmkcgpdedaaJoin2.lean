/- own; New; Len. -/
import Derived.Test.YthbkbmkcgpdedaaJoin1
namespace Go.Proofs.Ythbkbmkcgpdedaa
open Go.RowKit Go.Sort Go.Lib

def tskV (p : ByteArray) (fn : Int) (v : Value) (fuel : Int) : Value := .agg #[.string p, .int .i64 fn, v, .int .i64 fuel]
theorem set4 {w1 : World} {r : Nat} {x y z u : Value} {T : TypeId} (h : w1.heap[r]? = some (.cells #[x, y, z, u] T (0, 0))) (a b c d : Value) :
    ((((w1.setCell ⟨r, 0, none⟩ a).setCell ⟨r, 1, none⟩ b).setCell ⟨r, 2, none⟩ c).setCell ⟨r, 3, none⟩ d).heap[r]? = some (.cells #[a, b, c, d] T (0, 0)) := by
  have h1 := Go.heap_setCell_same w1 r 0 _ _ a h
  have h2 := Go.heap_setCell_same _ r 1 _ _ b h1
  have h3 := Go.heap_setCell_same _ r 2 _ _ c h2
  exact Go.heap_setCell_same _ r 3 _ _ d h3
theorem set4_below {B : Nat} {w w1 : World} {r : Nat} (h : Below B w w1) (hr : B ≤ r) (a b c d : Value) :
    Below B w ((((w1.setCell ⟨r, 0, none⟩ a).setCell ⟨r, 1, none⟩ b).setCell ⟨r, 2, none⟩ c).setCell ⟨r, 3, none⟩ d) :=
  (((h.setCell hr _).setCell hr _).setCell hr _).setCell hr _

theorem own_end {wz : World} {tmps : Array Value} {p : ByteArray} {fn fuel : Int} {v : Value} {r : Nat} {T : TypeId} {R : Ending → World → Prop}
    (hr : wz.heap[r]? = some (.cells #[.string p, .int .i64 fn, v, .int .i64 fuel] T (0, 0))) (h2 : tmps.getD 2 undef = .pointer (some ⟨r, 0, none⟩)) (hR : R (.returned (.agg #[.string p, .int .i64 fn, v, .int .i64 fuel])) wz) :
    bodyPost Try.prog Try.f42 R Exit.ret { tmps := tmps, defers := [] } wz := by
  have c0 : wz.cell? ⟨r, 0, none⟩ = some (.string p) := by simp [World.cell?, hr]
  have c1 : wz.cell? ⟨r, 1, none⟩ = some (.int .i64 fn) := by simp [World.cell?, hr]
  have c2 : wz.cell? ⟨r, 2, none⟩ = some v := by simp [World.cell?, hr]
  have c3 : wz.cell? ⟨r, 3, none⟩ = some (.int .i64 fuel) := by simp [World.cell?, hr]
  refine bodyPost_ret (v := .agg #[.string p, .int .i64 fn, v, .int .i64 fuel]) ?_ rfl hR
  have h2' : tmps[2]?.getD undef = .pointer (some ⟨r, 0, none⟩) := by simpa using h2
  simp [results, Try.results42, go_sem, h2', c0, c1, c2, c3]
theorem own_sets {w1 : World} {E : TypeId} {v : Value} {n : Nat} {xs : List Value} {B r : Nat} (h : w1.ownsRow B E 1 v n xs) (hr : r < B) {a : Addr} (ha : a.block = r) (u : Value) : (w1.setCell a u).ownsRow B E 1 v n xs := by
  refine ⟨h.1, h.2.imp id ?_⟩
  rintro ⟨g, cap, cur, hv, h1, h2, h3⟩
  exact ⟨g, cap, cur, hv, h1, (Go.heap_setCell_other w1 a g u (by omega)).trans h2, h3⟩

set_option maxHeartbeats 800000 in
set_option maxRecDepth 100000 in
theorem own_any (p : ByteArray) (fn fuel : Int) (v : Value) (l : List Int) (w : World) (h : ReadsK encI 1 w v l) (hl : l.length ≤ 1000000) :
    Calls Try.prog 42 #[.agg #[.string p, .int .i64 fn, v, .int .i64 fuel]] w fun e w' => ∃ aa ac, e = .returned (.agg #[.string p, .int .i64 fn, .slice aa l.length ac, .int .i64 fuel]) ∧ w'.ownsRow w.heap.size 2 1 (.slice aa l.length ac) l.length (l.flatMap encI) ∧ Below w.heap.size w w' := by
  obtain ⟨a0, c0, rfl⟩ := h.slice
  have hA : Below w.heap.size w ((w.alloc (.cells #[.string p, .int .i64 fn, .slice a0 l.length c0, .int .i64 fuel] 38)).alloc (.cells #[.string ⟨#[]⟩, .int .i64 0, .slice none 0 0, .int .i64 0] 38)) := ((Below.refl _ _).alloc (Nat.le_refl _) _).alloc (by simp) _
  have HR := Lib.hid (h.below hA)
  have HA := Lib.hid hA
  have hb1 : ((w.alloc (.cells #[.string p, .int .i64 fn, .slice a0 l.length c0, .int .i64 fuel] 38)).alloc (.cells #[.string ⟨#[]⟩, .int .i64 0, .slice none 0 0, .int .i64 0] 38)).heap[w.heap.size]? = some (.cells #[.string p, .int .i64 fn, .slice a0 l.length c0, .int .i64 fuel] 38 (0, 0)) :=
    (((Below.refl (w.alloc (.cells #[.string p, .int .i64 fn, .slice a0 l.length c0, .int .i64 fuel] 38)).heap.size _).alloc (Nat.le_refl _) _).block _ (by simp)).trans (heap_alloc_new _ _)
  have hb2 := heap_alloc_new (w.alloc (.cells #[.string p, .int .i64 fn, .slice a0 l.length c0, .int .i64 fuel] 38)) (.cells #[.string ⟨#[]⟩, .int .i64 0, .slice none 0 0, .int .i64 0] 38)
  rw [show (w.alloc (.cells #[.string p, .int .i64 fn, .slice a0 l.length c0, .int .i64 fuel] 38)).heap.size = w.heap.size + 1 by simp] at hb2
  have H1 := Lib.hid hb1
  have H2 := Lib.hid hb2
  clear h hA hb1 hb2
  go_enter Try.func42, Try.ntmps42
  go_wp2_with fail
  refine (clone_any _ l _ HR.out hl).mono ?_
  rintro e w1 ⟨aa, ac, rfl, ho, hB⟩
  have hlt1 := (Array.getElem?_eq_some_iff.1 H1.out).1
  have hlt2 := (Array.getElem?_eq_some_iff.1 H2.out).1
  have k1 := (hB.block _ hlt1).trans H1.out
  have k2 := (hB.block _ hlt2).trans H2.out
  have HO := Lib.hid (owns_base ho (show w.heap.size + 2 ≤ _ from by simp))
  have HB := Lib.hid (gthen HA.out hB)
  clear ho hB HR H1 H2 HA hlt1 hlt2
  have hc1 : ∀ o, w1.cell? ⟨w.heap.size, o, none⟩ = #[Value.string p, .int .i64 fn, .slice a0 l.length c0, .int .i64 fuel][o]? := fun o => by simp [World.cell?, k1]
  have hz1 : ∀ o, w1.frozen? ⟨w.heap.size, o, none⟩ = false := fun o => by simp [World.frozen?, k1]
  have hc2 : ∀ o, w1.cell? ⟨w.heap.size + 1, o, none⟩ = #[Value.string ⟨#[]⟩, .int .i64 0, .slice none 0 0, .int .i64 0][o]? := fun o => by simp [World.cell?, k2]
  have hz2 : ∀ o, w1.frozen? ⟨w.heap.size + 1, o, none⟩ = false := fun o => by simp [World.frozen?, k2]
  have x0 := hc1 0; have x1 := hc1 1; have x2 := hc1 2; have x3 := hc1 3
  have y0 := hc2 0; have y1 := hc2 1; have y2 := hc2 2; have y3 := hc2 3
  have p2 := hz1 2
  have q0 := hz2 0; have q1 := hz2 1; have q2 := hz2 2; have q3 := hz2 3
  simp only [List.getElem?_toArray, List.getElem?_cons_zero, List.getElem?_cons_succ] at x0 x1 x2 x3 y0 y1 y2 y3
  have K1 := Lib.hid k1
  have K2 := Lib.hid k2
  clear hc1 hz1 hc2 hz2 k1 k2
  go_wp2_with fail
  have hx := set4 (w1 := w1.setCell ⟨w.heap.size, 2, none⟩ (.slice aa l.length ac)) ((Go.heap_setCell_other w1 ⟨w.heap.size, 2, none⟩ (w.heap.size + 1) _ (by show w.heap.size + 1 ≠ w.heap.size; omega)).trans K2.out) (.string p) (.int .i64 fn) (.slice aa l.length ac) (.int .i64 fuel)
  have hB9 := set4_below (HB.out.setCell (p := ⟨w.heap.size, 2, none⟩) (Nat.le_refl _) (.slice aa l.length ac)) (r := w.heap.size + 1) (Nat.le_succ _) (.string p) (.int .i64 fn) (.slice aa l.length ac) (.int .i64 fuel)
  have hO9 := own_sets (own_sets (own_sets (own_sets (own_sets HO.out (r := w.heap.size) (a := ⟨w.heap.size, 2, none⟩) (by omega) rfl (.slice aa l.length ac)) (r := w.heap.size + 1) (a := ⟨w.heap.size + 1, 0, none⟩) (by omega) rfl (.string p)) (r := w.heap.size + 1) (a := ⟨w.heap.size + 1, 1, none⟩) (by omega) rfl (.int .i64 fn)) (r := w.heap.size + 1) (a := ⟨w.heap.size + 1, 2, none⟩) (by omega) rfl (.slice aa l.length ac)) (r := w.heap.size + 1) (a := ⟨w.heap.size + 1, 3, none⟩) (by omega) rfl (.int .i64 fuel)
  exact own_end hx rfl ⟨aa, ac, rfl, owns_base hO9 (by omega), hB9⟩

def MadeT (most : Int) (w : World) (e : Ending) (w' : World) : Prop := ∃ f m, e = .returned (.tuple #[.pointer (some ⟨f, 0, none⟩), .int .i64 0]) ∧ w.heap.size ≤ f ∧ w.heap.size ≤ m ∧ Tab w' f m most [] ∧ Below w.heap.size w w'
theorem tab_made (w : World) (most : Int) : Tab ((w.alloc (.map #[] 0)).alloc (.cells #[.int .i64 most, .map (some w.heap.size)] 76)) (w.heap.size + 1) w.heap.size most [] := by
  refine ⟨?_, (MapL.made evP w).block (Below.heap_alloc _ _ _ (by simp)), (by intro p hp; cases hp), List.nodup_nil⟩
  have := heap_alloc_new (w.alloc (.map #[] 0)) (.cells #[.int .i64 most, .map (some w.heap.size)] 76)
  rw [show (w.alloc (.map #[] 0)).heap.size = w.heap.size + 1 by simp] at this
  exact this
set_option maxHeartbeats 800000 in
set_option maxRecDepth 100000 in
theorem new_tab (most : Int) (w : World) (h1 : ¬ most < 1) (h2 : ¬ most > 4096) :
    Calls Try.prog 8 #[.int .i64 most] w fun e w' => MadeT most w e w' := by
  have hmm := @Go.RowKit.run_makeMap Try.prog
  have hL := Lib.hid (tab_made w most)
  go_enter Try.func8, Try.ntmps8
  go_wp2_with fail
  go_ret2
  exact ⟨w.heap.size + 1, w.heap.size, rfl, Nat.le_succ _, Nat.le_refl _, hL.out, ((Below.refl _ _).alloc (Nat.le_refl _) _).alloc (by simp) _⟩
set_option maxHeartbeats 800000 in
theorem len_tab (f m : Nat) (most : Int) (T : Tb) (w : World) (h : Tab w f m most T) :
    Calls Try.prog 27 #[.pointer (some ⟨f, 0, none⟩)] w fun e w' => e = .returned (.int .i64 T.length) ∧ w' = w := by
  have hln := fun ty => h.map.len (P := Try.prog) (k := 35) Try.underlying74 ty
  have hll : ((mapT T).length : Int) = T.length := by unfold mapT; simp
  have c1 := h.c1
  clear h
  rw [hll] at hln
  go_enter Try.func27, Try.ntmps27
  go_wp2_with fail
  go_ret
  exact ⟨ret_intE rfl, rfl⟩
end Go.Proofs.Ythbkbmkcgpdedaa
