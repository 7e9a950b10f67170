/- told; Of; Above. -/
import Derived.Test.YtpdnebimkfejoaaLin5
namespace Go.Proofs.Ytpdnebimkfejoaa
open Go.RowKit Go.Sort Go.Lib

/-- A root as it is told. -/
def rowV (n : Nm) (r : Rw) (aa : Option Addr) (ac : Nat) : Value := .agg #[.int .u64 n.1, .string n.2, .string n.2, .int .i64 r.fn, .slice aa r.args.length ac, .int .i64 r.fuel, .int .u8 r.st, .int .i64 r.wk, .int .u64 r.ep]
abbrev zR : Value := .agg #[.int .u64 0, .string ⟨#[]⟩, .string ⟨#[]⟩, .int .i64 0, .slice none 0 0, .int .i64 0, .int .u8 0, .int .i64 0, .int .u64 0]
theorem set9 {w1 : World} {r : Nat} {x0 x1 x2 x3 x4 x5 x6 x7 x8 : Value} {T : TypeId} (h : w1.heap[r]? = some (.cells #[x0, x1, x2, x3, x4, x5, x6, x7, x8] T (0, 0))) (a0 a1 a2 a3 a4 a5 a6 a7 a8 : Value) :
    (((((((((w1.setCell ⟨r, 0, none⟩ a0).setCell ⟨r, 1, none⟩ a1).setCell ⟨r, 2, none⟩ a2).setCell ⟨r, 3, none⟩ a3).setCell ⟨r, 4, none⟩ a4).setCell ⟨r, 5, none⟩ a5).setCell ⟨r, 6, none⟩ a6).setCell ⟨r, 7, none⟩ a7).setCell ⟨r, 8, none⟩ a8).heap[r]? = some (.cells #[a0, a1, a2, a3, a4, a5, a6, a7, a8] T (0, 0)) := by
  have h0 := Go.heap_setCell_same _ r 0 _ _ a0 h
  simp only [List.setIfInBounds_toArray, List.set_cons_zero] at h0
  have h1 := Go.heap_setCell_same _ r 1 _ _ a1 h0
  simp only [List.setIfInBounds_toArray, List.set_cons_zero, List.set_cons_succ] at h1
  have h2 := Go.heap_setCell_same _ r 2 _ _ a2 h1
  simp only [List.setIfInBounds_toArray, List.set_cons_zero, List.set_cons_succ] at h2
  have h3 := Go.heap_setCell_same _ r 3 _ _ a3 h2
  simp only [List.setIfInBounds_toArray, List.set_cons_zero, List.set_cons_succ] at h3
  have h4 := Go.heap_setCell_same _ r 4 _ _ a4 h3
  simp only [List.setIfInBounds_toArray, List.set_cons_zero, List.set_cons_succ] at h4
  have h5 := Go.heap_setCell_same _ r 5 _ _ a5 h4
  simp only [List.setIfInBounds_toArray, List.set_cons_zero, List.set_cons_succ] at h5
  have h6 := Go.heap_setCell_same _ r 6 _ _ a6 h5
  simp only [List.setIfInBounds_toArray, List.set_cons_zero, List.set_cons_succ] at h6
  have h7 := Go.heap_setCell_same _ r 7 _ _ a7 h6
  simp only [List.setIfInBounds_toArray, List.set_cons_zero, List.set_cons_succ] at h7
  have h8 := Go.heap_setCell_same _ r 8 _ _ a8 h7
  simp only [List.setIfInBounds_toArray, List.set_cons_zero, List.set_cons_succ] at h8
  exact h8
theorem set9_below {B : Nat} {w w1 : World} {r : Nat} (h : Below B w w1) (hr : B ≤ r) (a0 a1 a2 a3 a4 a5 a6 a7 a8 : Value) :
    Below B w (((((((((w1.setCell ⟨r, 0, none⟩ a0).setCell ⟨r, 1, none⟩ a1).setCell ⟨r, 2, none⟩ a2).setCell ⟨r, 3, none⟩ a3).setCell ⟨r, 4, none⟩ a4).setCell ⟨r, 5, none⟩ a5).setCell ⟨r, 6, none⟩ a6).setCell ⟨r, 7, none⟩ a7).setCell ⟨r, 8, none⟩ a8) := by
  have h0 := h.setCell (p := ⟨r, 0, none⟩) hr a0
  have h1 := h0.setCell (p := ⟨r, 1, none⟩) hr a1
  have h2 := h1.setCell (p := ⟨r, 2, none⟩) hr a2
  have h3 := h2.setCell (p := ⟨r, 3, none⟩) hr a3
  have h4 := h3.setCell (p := ⟨r, 4, none⟩) hr a4
  have h5 := h4.setCell (p := ⟨r, 5, none⟩) hr a5
  have h6 := h5.setCell (p := ⟨r, 6, none⟩) hr a6
  have h7 := h6.setCell (p := ⟨r, 7, none⟩) hr a7
  have h8 := h7.setCell (p := ⟨r, 8, none⟩) hr a8
  exact h8
theorem own_sets9 {w1 : World} {E : TypeId} {v : Value} {n : Nat} {xs : List Value} {B r : Nat} (h : w1.ownsRow B E 1 v n xs) (hr : r < B) (a0 a1 a2 a3 a4 a5 a6 a7 a8 : Value) :
    (((((((((w1.setCell ⟨r, 0, none⟩ a0).setCell ⟨r, 1, none⟩ a1).setCell ⟨r, 2, none⟩ a2).setCell ⟨r, 3, none⟩ a3).setCell ⟨r, 4, none⟩ a4).setCell ⟨r, 5, none⟩ a5).setCell ⟨r, 6, none⟩ a6).setCell ⟨r, 7, none⟩ a7).setCell ⟨r, 8, none⟩ a8).ownsRow B E 1 v n xs := by
  have h0 := own_sets h hr (a := ⟨r, 0, none⟩) rfl a0
  have h1 := own_sets h0 hr (a := ⟨r, 1, none⟩) rfl a1
  have h2 := own_sets h1 hr (a := ⟨r, 2, none⟩) rfl a2
  have h3 := own_sets h2 hr (a := ⟨r, 3, none⟩) rfl a3
  have h4 := own_sets h3 hr (a := ⟨r, 4, none⟩) rfl a4
  have h5 := own_sets h4 hr (a := ⟨r, 5, none⟩) rfl a5
  have h6 := own_sets h5 hr (a := ⟨r, 6, none⟩) rfl a6
  have h7 := own_sets h6 hr (a := ⟨r, 7, none⟩) rfl a7
  have h8 := own_sets h7 hr (a := ⟨r, 8, none⟩) rfl a8
  exact h8
theorem told_end {wz : World} {tmps : Array Value} {x0 x1 x2 x3 x4 x5 x6 x7 x8 : Value} {r : Nat} {T : TypeId} {R : Ending → World → Prop}
    (hr : wz.heap[r]? = some (.cells #[x0, x1, x2, x3, x4, x5, x6, x7, x8] T (0, 0))) (h2 : tmps.getD 2 undef = .pointer (some ⟨r, 0, none⟩)) (hR : R (.returned (.agg #[x0, x1, x2, x3, x4, x5, x6, x7, x8])) wz) :
    bodyPost Try.prog Try.f46 R Exit.ret { tmps := tmps, defers := [] } wz := by
  have c : ∀ o, wz.cell? ⟨r, o, none⟩ = #[x0, x1, x2, x3, x4, x5, x6, x7, x8][o]? := fun o => by simp [World.cell?, hr]
  have c0 := c 0; have c1 := c 1; have c2 := c 2; have c3 := c 3; have c4 := c 4; have c5 := c 5; have c6 := c 6; have c7 := c 7; have c8 := c 8
  simp only [List.getElem?_toArray, List.getElem?_cons_zero, List.getElem?_cons_succ] at c0 c1 c2 c3 c4 c5 c6 c7 c8
  refine bodyPost_ret (v := (.agg #[x0, x1, x2, x3, x4, x5, x6, x7, x8])) ?_ rfl hR
  have h2' : tmps[2]?.getD undef = .pointer (some ⟨r, 0, none⟩) := by simpa using h2
  simp [results, Try.results46, go_sem, h2', c0, c1, c2, c3, c4, c5, c6, c7, c8]
theorem of_end {wz : World} {tmps : Array Value} {x0 x1 x2 x3 x4 x5 x6 x7 x8 : Value} {r : Nat} {T : TypeId} {R : Ending → World → Prop} {b : Bool}
    (hr : wz.heap[r]? = some (.cells #[x0, x1, x2, x3, x4, x5, x6, x7, x8] T (0, 0))) (h2 : tmps.getD 4 undef = .pointer (some ⟨r, 0, none⟩)) (h5 : tmps.getD 5 undef = .bool b) (hR : R (.returned (.tuple #[.agg #[x0, x1, x2, x3, x4, x5, x6, x7, x8], .bool b])) wz) :
    bodyPost Try.prog Try.f29 R Exit.ret { tmps := tmps, defers := [] } wz := by
  have c : ∀ o, wz.cell? ⟨r, o, none⟩ = #[x0, x1, x2, x3, x4, x5, x6, x7, x8][o]? := fun o => by simp [World.cell?, hr]
  have c0 := c 0; have c1 := c 1; have c2 := c 2; have c3 := c 3; have c4 := c 4; have c5 := c 5; have c6 := c 6; have c7 := c 7; have c8 := c 8
  simp only [List.getElem?_toArray, List.getElem?_cons_zero, List.getElem?_cons_succ] at c0 c1 c2 c3 c4 c5 c6 c7 c8
  refine bodyPost_ret (v := (.tuple #[.agg #[x0, x1, x2, x3, x4, x5, x6, x7, x8], .bool b])) ?_ rfl hR
  have h2' : tmps[4]?.getD undef = .pointer (some ⟨r, 0, none⟩) := by simpa using h2
  have h5' : tmps[5]?.getD undef = .bool b := by simpa using h5
  simp [results, Try.results29, go_sem, h2', h5', c0, c1, c2, c3, c4, c5, c6, c7, c8]
theorem aboveA_end {wz : World} {tmps : Array Value} {x0 x1 x2 x3 x4 x5 x6 x7 x8 : Value} {r : Nat} {T : TypeId} {R : Ending → World → Prop} {b : Bool}
    (hr : wz.heap[r]? = some (.cells #[x0, x1, x2, x3, x4, x5, x6, x7, x8] T (0, 0))) (h2 : tmps.getD 4 undef = .pointer (some ⟨r, 0, none⟩)) (h5 : tmps.getD 5 undef = .bool b) (hR : R (.returned (.tuple #[.agg #[x0, x1, x2, x3, x4, x5, x6, x7, x8], .bool b])) wz) :
    bodyPost Try.prog Try.f17 R Exit.ret { tmps := tmps, defers := [] } wz := by
  have c : ∀ o, wz.cell? ⟨r, o, none⟩ = #[x0, x1, x2, x3, x4, x5, x6, x7, x8][o]? := fun o => by simp [World.cell?, hr]
  have c0 := c 0; have c1 := c 1; have c2 := c 2; have c3 := c 3; have c4 := c 4; have c5 := c 5; have c6 := c 6; have c7 := c 7; have c8 := c 8
  simp only [List.getElem?_toArray, List.getElem?_cons_zero, List.getElem?_cons_succ] at c0 c1 c2 c3 c4 c5 c6 c7 c8
  refine bodyPost_ret (v := (.tuple #[.agg #[x0, x1, x2, x3, x4, x5, x6, x7, x8], .bool b])) ?_ rfl hR
  have h2' : tmps[4]?.getD undef = .pointer (some ⟨r, 0, none⟩) := by simpa using h2
  have h5' : tmps[5]?.getD undef = .bool b := by simpa using h5
  simp [results, Try.results17, go_sem, h2', h5', c0, c1, c2, c3, c4, c5, c6, c7, c8]
set_option maxHeartbeats 3200000 in
set_option maxRecDepth 100000 in
theorem told_any (b : Nat) (n : Nm) (r : Rw) (w : World) (h : w.heap[b]? = some (rowO n r)) (ha : Args w r) (hl : r.args.length ≤ 1000000) :
    Calls Try.prog 46 #[.pointer (some ⟨b, 0, none⟩)] w fun e w' => ∃ aa ac, e = .returned (rowV n r aa ac) ∧ w'.ownsRow w.heap.size 2 1 (.slice aa r.args.length ac) r.args.length (r.args.flatMap encI) ∧ Below w.heap.size w w' := by
  have hbl := (Array.getElem?_eq_some_iff.1 h).1
  have hA : Below w.heap.size w ((w.alloc (.cells #[.int .u64 0, .string ⟨#[]⟩, .string ⟨#[]⟩, .int .i64 0, .slice none 0 0, .int .i64 0, .int .u8 0, .int .i64 0, .int .u64 0] 42)).alloc (.cells #[.int .u64 n.1, .string n.2, .string n.2, .int .i64 r.fn, .slice r.aa r.args.length r.ac, .int .i64 r.fuel, .int .u8 r.st, .int .i64 r.wk, .int .u64 r.ep] 42)) := ((Below.refl _ _).alloc (Nat.le_refl _) _).alloc (by simp) _
  have hb1 : ((w.alloc (.cells #[.int .u64 0, .string ⟨#[]⟩, .string ⟨#[]⟩, .int .i64 0, .slice none 0 0, .int .i64 0, .int .u8 0, .int .i64 0, .int .u64 0] 42)).alloc (.cells #[.int .u64 n.1, .string n.2, .string n.2, .int .i64 r.fn, .slice r.aa r.args.length r.ac, .int .i64 r.fuel, .int .u8 r.st, .int .i64 r.wk, .int .u64 r.ep] 42)).heap[w.heap.size]? = some (.cells #[.int .u64 0, .string ⟨#[]⟩, .string ⟨#[]⟩, .int .i64 0, .slice none 0 0, .int .i64 0, .int .u8 0, .int .i64 0, .int .u64 0] 42 (0, 0)) :=
    (((Below.refl (w.alloc (.cells #[.int .u64 0, .string ⟨#[]⟩, .string ⟨#[]⟩, .int .i64 0, .slice none 0 0, .int .i64 0, .int .u8 0, .int .i64 0, .int .u64 0] 42)).heap.size _).alloc (Nat.le_refl _) _).block _ (by simp)).trans (heap_alloc_new _ _)
  have hb2 := heap_alloc_new (w.alloc (.cells #[.int .u64 0, .string ⟨#[]⟩, .string ⟨#[]⟩, .int .i64 0, .slice none 0 0, .int .i64 0, .int .u8 0, .int .i64 0, .int .u64 0] 42)) (.cells #[.int .u64 n.1, .string n.2, .string n.2, .int .i64 r.fn, .slice r.aa r.args.length r.ac, .int .i64 r.fuel, .int .u8 r.st, .int .i64 r.wk, .int .u64 r.ep] 42)
  rw [show (w.alloc (.cells #[.int .u64 0, .string ⟨#[]⟩, .string ⟨#[]⟩, .int .i64 0, .slice none 0 0, .int .i64 0, .int .u8 0, .int .i64 0, .int .u64 0] 42)).heap.size = w.heap.size + 1 by simp] at hb2
  have hk : ∀ o, (w.alloc (.cells #[.int .u64 0, .string ⟨#[]⟩, .string ⟨#[]⟩, .int .i64 0, .slice none 0 0, .int .i64 0, .int .u8 0, .int .i64 0, .int .u64 0] 42)).cell? ⟨b, o, none⟩ = #[Value.int .u64 n.1, .string n.2, .string n.2, .int .i64 r.fn, .slice r.aa r.args.length r.ac, .int .i64 r.fuel, .int .u8 r.st, .int .i64 r.wk, .int .u64 r.ep][o]? := fun o => row_cells ((((Below.refl w.heap.size w).alloc (Nat.le_refl _) _).block b hbl).trans h) o
  have k0 := hk 0; have k1 := hk 1; have k2 := hk 2; have k3 := hk 3; have k4 := hk 4; have k5 := hk 5; have k6 := hk 6; have k7 := hk 7; have k8 := hk 8
  simp only [List.getElem?_toArray, List.getElem?_cons_zero, List.getElem?_cons_succ] at k0 k1 k2 k3 k4 k5 k6 k7 k8
  have H2 := Lib.hid hb2
  have H1 := Lib.hid hb1
  have HB := Lib.hid hA
  have HRD := Lib.hid (args_reads (Args.far ha (fun i cur hi => hA.block i (Array.getElem?_eq_some_iff.1 hi).1)))
  clear hA hb1 hb2 hk h ha
  go_enter Try.func46, Try.ntmps46
  go_wp2_with fail
  refine (clone_any _ r.args _ HRD.out hl).mono ?_
  rintro e w2 ⟨aa, ac, rfl, ho, hB⟩
  have hlt1 := (Array.getElem?_eq_some_iff.1 H1.out).1
  have hlt2 := (Array.getElem?_eq_some_iff.1 H2.out).1
  have j1 := (hB.block _ hlt1).trans H1.out
  have j2 := (hB.block _ hlt2).trans H2.out
  have HO := Lib.hid ho
  have HB2 := Lib.hid (HB.out.trans (hB.mono HB.out.size))
  have hs1 := HB.out.size
  clear ho hB H1 H2 HRD HB k0 k1 k2 k3 k4 k5 k6 k7 k8
  have hc1 : ∀ o, w2.cell? ⟨w.heap.size, o, none⟩ = #[Value.int .u64 0, .string ⟨#[]⟩, .string ⟨#[]⟩, .int .i64 0, .slice none 0 0, .int .i64 0, .int .u8 0, .int .i64 0, .int .u64 0][o]? := fun o => by simp [World.cell?, j1]
  have hz1 : ∀ o, w2.frozen? ⟨w.heap.size, o, none⟩ = false := fun o => by simp [World.frozen?, j1]
  have hc2 : ∀ o, w2.cell? ⟨w.heap.size + 1, o, none⟩ = #[Value.int .u64 n.1, .string n.2, .string n.2, .int .i64 r.fn, .slice r.aa r.args.length r.ac, .int .i64 r.fuel, .int .u8 r.st, .int .i64 r.wk, .int .u64 r.ep][o]? := fun o => by simp [World.cell?, j2]
  have hz2 : ∀ o, w2.frozen? ⟨w.heap.size + 1, o, none⟩ = false := fun o => by simp [World.frozen?, j2]
  have x0 := hc1 0; have x1 := hc1 1; have x2 := hc1 2; have x3 := hc1 3; have x4 := hc1 4; have x5 := hc1 5; have x6 := hc1 6; have x7 := hc1 7; have x8 := hc1 8
  have p0 := hz1 0; have p1 := hz1 1; have p2 := hz1 2; have p3 := hz1 3; have p4 := hz1 4; have p5 := hz1 5; have p6 := hz1 6; have p7 := hz1 7; have p8 := hz1 8
  simp only [List.getElem?_toArray, List.getElem?_cons_zero, List.getElem?_cons_succ] at x0 x1 x2 x3 x4 x5 x6 x7 x8
  have y0 := hc2 0; have y1 := hc2 1; have y2 := hc2 2; have y3 := hc2 3; have y4 := hc2 4; have y5 := hc2 5; have y6 := hc2 6; have y7 := hc2 7; have y8 := hc2 8
  have q4 := hz2 4
  simp only [List.getElem?_toArray, List.getElem?_cons_zero, List.getElem?_cons_succ] at y0 y1 y2 y3 y4 y5 y6 y7 y8
  have J1 := Lib.hid j1
  clear hc1 hz1 hc2 hz2 j1 j2
  go_wp2_with fail
  have hx := set9 (w1 := w2.setCell ⟨w.heap.size + 1, 4, none⟩ (.slice aa r.args.length ac)) (r := w.heap.size) ((Go.heap_setCell_other _ ⟨w.heap.size + 1, 4, none⟩ w.heap.size _ (by show w.heap.size ≠ w.heap.size + 1; omega)).trans J1.out) (.int .u64 n.1) (.string n.2) (.string n.2) (.int .i64 r.fn) (.slice aa r.args.length ac) (.int .i64 r.fuel) (.int .u8 r.st) (.int .i64 r.wk) (.int .u64 r.ep)
  have hB9 := set9_below (HB2.out.setCell (p := ⟨w.heap.size + 1, 4, none⟩) (Nat.le_succ _) (.slice aa r.args.length ac)) (r := w.heap.size) (Nat.le_refl _) (.int .u64 n.1) (.string n.2) (.string n.2) (.int .i64 r.fn) (.slice aa r.args.length ac) (.int .i64 r.fuel) (.int .u8 r.st) (.int .i64 r.wk) (.int .u64 r.ep)
  have hO9 := own_sets9 (own_sets HO.out (r := w.heap.size + 1) (a := ⟨w.heap.size + 1, 4, none⟩) hlt2 rfl (.slice aa r.args.length ac)) (r := w.heap.size) hlt1 (.int .u64 n.1) (.string n.2) (.string n.2) (.int .i64 r.fn) (.slice aa r.args.length ac) (.int .i64 r.fuel) (.int .u8 r.st) (.int .i64 r.wk) (.int .u64 r.ep)
  exact told_end hx rfl ⟨aa, ac, rfl, owns_base hO9 hs1, hB9⟩
def OfR (T : Tb) (n : Nm) (w : World) (e : Ending) (w' : World) : Prop :=
  ((getL T n = none ∧ e = .returned (.tuple #[zR, .bool false])) ∨
    ∃ u b r aa ac, u = n ∧ getL T u = some (b, r) ∧ e = .returned (.tuple #[rowV u r aa ac, .bool true]) ∧ w'.ownsRow w.heap.size 2 1 (.slice aa r.args.length ac) r.args.length (r.args.flatMap encI)) ∧ Below w.heap.size w w'
set_option maxHeartbeats 3200000 in
set_option maxRecDepth 100000 in
theorem ofA_tab (f m : Nat) (T : Tb) (n : Nm) (w : World) (h : Tab w f m T) (hargs : ∀ p ∈ T, p.2.2.args.length ≤ 1000000) :
    Calls Try.prog 29 #[.pointer (some ⟨f, 0, none⟩), .agg #[.int .u64 n.1, .string n.2]] w (OfR T n w) := by
  have hA : Below w.heap.size w ((w.alloc (.cells #[.int .u64 n.1, .string n.2] 29)).alloc (.cells #[.int .u64 0, .string ⟨#[]⟩, .string ⟨#[]⟩, .int .i64 0, .slice none 0 0, .int .i64 0, .int .u8 0, .int .i64 0, .int .u64 0] 42)) := ((Below.refl _ _).alloc (Nat.le_refl _) _).alloc (by simp) _
  have hres := heap_alloc_new (w.alloc (.cells #[.int .u64 n.1, .string n.2] 29)) (.cells #[.int .u64 0, .string ⟨#[]⟩, .string ⟨#[]⟩, .int .i64 0, .slice none 0 0, .int .i64 0, .int .u8 0, .int .i64 0, .int .u64 0] 42)
  rw [show (w.alloc (.cells #[.int .u64 n.1, .string n.2] 29)).heap.size = w.heap.size + 1 by simp] at hres
  have HH := Lib.hid (h.below hA)
  have HA := Lib.hid hA
  have HRES := Lib.hid hres
  clear h hA hres
  go_enter Try.func29, Try.ntmps29
  go_wp2_with fail
  refine (of_tab f m T n _ HH.out).mono ?_
  rintro e w1 ⟨rfl, hB⟩
  have HH1 := Lib.hid (HH.out.below hB)
  have HA1 := Lib.hid (gthen HA.out hB)
  have HR1 := Lib.hid ((hB.block _ (Array.getElem?_eq_some_iff.1 HRES.out).1).trans HRES.out)
  have hlt := (Array.getElem?_eq_some_iff.1 HR1.out).1
  clear hB HH HA HRES
  rcases ofP_cases T n with ⟨hg, ho⟩ | ⟨b, r, hg, ho⟩
  · rw [ho]
    have HG := Lib.hid hg
    have j1 := HR1.out
    have hc1 : ∀ o, w1.cell? ⟨w.heap.size + 1, o, none⟩ = #[Value.int .u64 0, .string ⟨#[]⟩, .string ⟨#[]⟩, .int .i64 0, .slice none 0 0, .int .i64 0, .int .u8 0, .int .i64 0, .int .u64 0][o]? := fun o => by simp [World.cell?, j1]
    have hz1 : ∀ o, w1.frozen? ⟨w.heap.size + 1, o, none⟩ = false := fun o => by simp [World.frozen?, j1]
    have x0 := hc1 0; have x1 := hc1 1; have x2 := hc1 2; have x3 := hc1 3; have x4 := hc1 4; have x5 := hc1 5; have x6 := hc1 6; have x7 := hc1 7; have x8 := hc1 8
    have p0 := hz1 0; have p1 := hz1 1; have p2 := hz1 2; have p3 := hz1 3; have p4 := hz1 4; have p5 := hz1 5; have p6 := hz1 6; have p7 := hz1 7; have p8 := hz1 8
    simp only [List.getElem?_toArray, List.getElem?_cons_zero, List.getElem?_cons_succ] at x0 x1 x2 x3 x4 x5 x6 x7 x8
    have hx := Lib.hid (set9 j1 (.int .u64 0) (.string ⟨#[]⟩) (.string ⟨#[]⟩) (.int .i64 0) (.slice none 0 0) (.int .i64 0) (.int .u8 0) (.int .i64 0) (.int .u64 0))
    have hB9 := Lib.hid (set9_below HA1.out (r := w.heap.size + 1) (Nat.le_succ _) (.int .u64 0) (.string ⟨#[]⟩) (.string ⟨#[]⟩) (.int .i64 0) (.slice none 0 0) (.int .i64 0) (.int .u8 0) (.int .i64 0) (.int .u64 0))
    clear j1 hc1 hz1 hg ho
    go_wp2_with fail
    exact of_end hx.out rfl rfl ⟨.inl ⟨HG.out, rfl⟩, hB9.out⟩
  · rw [ho]
    have HG := Lib.hid hg
    have hrow := HH1.out.at hg
    have hal := hargs _ (getL_mem' hg)
    clear ho hg hargs
    go_wp2_with fail
    refine (told_any b n r w1 hrow.1 hrow.2 hal).mono ?_
    rintro e w2 ⟨aa, ac, rfl, hown, hB⟩
    have HO := Lib.hid hown
    have HA2 := Lib.hid (gthen HA1.out hB)
    have j1 := (hB.block _ hlt).trans HR1.out
    have hs1 := HA1.out.size
    have hc1 : ∀ o, w2.cell? ⟨w.heap.size + 1, o, none⟩ = #[Value.int .u64 0, .string ⟨#[]⟩, .string ⟨#[]⟩, .int .i64 0, .slice none 0 0, .int .i64 0, .int .u8 0, .int .i64 0, .int .u64 0][o]? := fun o => by simp [World.cell?, j1]
    have hz1 : ∀ o, w2.frozen? ⟨w.heap.size + 1, o, none⟩ = false := fun o => by simp [World.frozen?, j1]
    have x0 := hc1 0; have x1 := hc1 1; have x2 := hc1 2; have x3 := hc1 3; have x4 := hc1 4; have x5 := hc1 5; have x6 := hc1 6; have x7 := hc1 7; have x8 := hc1 8
    have p0 := hz1 0; have p1 := hz1 1; have p2 := hz1 2; have p3 := hz1 3; have p4 := hz1 4; have p5 := hz1 5; have p6 := hz1 6; have p7 := hz1 7; have p8 := hz1 8
    simp only [List.getElem?_toArray, List.getElem?_cons_zero, List.getElem?_cons_succ] at x0 x1 x2 x3 x4 x5 x6 x7 x8
    have hx := Lib.hid (set9 j1 (.int .u64 n.1) (.string n.2) (.string n.2) (.int .i64 r.fn) (.slice aa r.args.length ac) (.int .i64 r.fuel) (.int .u8 r.st) (.int .i64 r.wk) (.int .u64 r.ep))
    have hB9 := Lib.hid (set9_below HA2.out (r := w.heap.size + 1) (Nat.le_succ _) (.int .u64 n.1) (.string n.2) (.string n.2) (.int .i64 r.fn) (.slice aa r.args.length ac) (.int .i64 r.fuel) (.int .u8 r.st) (.int .i64 r.wk) (.int .u64 r.ep))
    have hO9 := Lib.hid (own_sets9 HO.out (r := w.heap.size + 1) hlt (.int .u64 n.1) (.string n.2) (.string n.2) (.int .i64 r.fn) (.slice aa r.args.length ac) (.int .i64 r.fuel) (.int .u8 r.st) (.int .i64 r.wk) (.int .u64 r.ep))
    unfold rowV
    clear j1 hc1 hz1 hown hB hrow hal HR1
    go_wp2_with fail
    exact of_end hx.out rfl rfl ⟨.inr ⟨n, b, r, aa, ac, rfl, HG.out, rfl, owns_base hO9.out hs1⟩, hB9.out⟩
def AboveR (T : Tb) (n : Nm) (w : World) (e : Ending) (w' : World) : Prop :=
  ((upN (hasT T) n = none ∧ e = .returned (.tuple #[zR, .bool false])) ∨
    ∃ u b r aa ac, upN (hasT T) n = some u ∧ getL T u = some (b, r) ∧ e = .returned (.tuple #[rowV u r aa ac, .bool true]) ∧ w'.ownsRow w.heap.size 2 1 (.slice aa r.args.length ac) r.args.length (r.args.flatMap encI)) ∧ Below w.heap.size w w'
set_option maxHeartbeats 3200000 in
set_option maxRecDepth 100000 in
theorem aboveA_tab (f m : Nat) (T : Tb) (n : Nm) (w : World) (h : Tab w f m T) (hargs : ∀ p ∈ T, p.2.2.args.length ≤ 1000000) (hn : n.2.size ≤ 9223372036854775807) :
    Calls Try.prog 17 #[.pointer (some ⟨f, 0, none⟩), .agg #[.int .u64 n.1, .string n.2]] w (AboveR T n w) := by
  have hA : Below w.heap.size w ((w.alloc (.cells #[.int .u64 n.1, .string n.2] 29)).alloc (.cells #[.int .u64 0, .string ⟨#[]⟩, .string ⟨#[]⟩, .int .i64 0, .slice none 0 0, .int .i64 0, .int .u8 0, .int .i64 0, .int .u64 0] 42)) := ((Below.refl _ _).alloc (Nat.le_refl _) _).alloc (by simp) _
  have hres := heap_alloc_new (w.alloc (.cells #[.int .u64 n.1, .string n.2] 29)) (.cells #[.int .u64 0, .string ⟨#[]⟩, .string ⟨#[]⟩, .int .i64 0, .slice none 0 0, .int .i64 0, .int .u8 0, .int .i64 0, .int .u64 0] 42)
  rw [show (w.alloc (.cells #[.int .u64 n.1, .string n.2] 29)).heap.size = w.heap.size + 1 by simp] at hres
  have HH := Lib.hid (h.below hA)
  have HA := Lib.hid hA
  have HRES := Lib.hid hres
  clear h hA hres
  go_enter Try.func17, Try.ntmps17
  go_wp2_with fail
  refine (above_tab f m T n _ HH.out hn).mono ?_
  rintro e w1 ⟨rfl, hB⟩
  have HH1 := Lib.hid (HH.out.below hB)
  have HA1 := Lib.hid (gthen HA.out hB)
  have HR1 := Lib.hid ((hB.block _ (Array.getElem?_eq_some_iff.1 HRES.out).1).trans HRES.out)
  have hlt := (Array.getElem?_eq_some_iff.1 HR1.out).1
  clear hB HH HA HRES
  rcases aboveP_cases T n with ⟨hg, ho⟩ | ⟨u, b, r, hu, hg, ho⟩
  · rw [ho]
    have HG := Lib.hid hg
    have j1 := HR1.out
    have hc1 : ∀ o, w1.cell? ⟨w.heap.size + 1, o, none⟩ = #[Value.int .u64 0, .string ⟨#[]⟩, .string ⟨#[]⟩, .int .i64 0, .slice none 0 0, .int .i64 0, .int .u8 0, .int .i64 0, .int .u64 0][o]? := fun o => by simp [World.cell?, j1]
    have hz1 : ∀ o, w1.frozen? ⟨w.heap.size + 1, o, none⟩ = false := fun o => by simp [World.frozen?, j1]
    have x0 := hc1 0; have x1 := hc1 1; have x2 := hc1 2; have x3 := hc1 3; have x4 := hc1 4; have x5 := hc1 5; have x6 := hc1 6; have x7 := hc1 7; have x8 := hc1 8
    have p0 := hz1 0; have p1 := hz1 1; have p2 := hz1 2; have p3 := hz1 3; have p4 := hz1 4; have p5 := hz1 5; have p6 := hz1 6; have p7 := hz1 7; have p8 := hz1 8
    simp only [List.getElem?_toArray, List.getElem?_cons_zero, List.getElem?_cons_succ] at x0 x1 x2 x3 x4 x5 x6 x7 x8
    have hx := Lib.hid (set9 j1 (.int .u64 0) (.string ⟨#[]⟩) (.string ⟨#[]⟩) (.int .i64 0) (.slice none 0 0) (.int .i64 0) (.int .u8 0) (.int .i64 0) (.int .u64 0))
    have hB9 := Lib.hid (set9_below HA1.out (r := w.heap.size + 1) (Nat.le_succ _) (.int .u64 0) (.string ⟨#[]⟩) (.string ⟨#[]⟩) (.int .i64 0) (.slice none 0 0) (.int .i64 0) (.int .u8 0) (.int .i64 0) (.int .u64 0))
    clear j1 hc1 hz1 hg ho
    go_wp2_with fail
    exact aboveA_end hx.out rfl rfl ⟨.inl ⟨HG.out, rfl⟩, hB9.out⟩
  · rw [ho]
    have HG := Lib.hid (show upN (hasT T) n = some u ∧ getL T u = some (b, r) from ⟨hu, hg⟩)
    have hrow := HH1.out.at hg
    have hal := hargs _ (getL_mem' hg)
    clear ho hg hu hargs
    go_wp2_with fail
    refine (told_any b u r w1 hrow.1 hrow.2 hal).mono ?_
    rintro e w2 ⟨aa, ac, rfl, hown, hB⟩
    have HO := Lib.hid hown
    have HA2 := Lib.hid (gthen HA1.out hB)
    have j1 := (hB.block _ hlt).trans HR1.out
    have hs1 := HA1.out.size
    have hc1 : ∀ o, w2.cell? ⟨w.heap.size + 1, o, none⟩ = #[Value.int .u64 0, .string ⟨#[]⟩, .string ⟨#[]⟩, .int .i64 0, .slice none 0 0, .int .i64 0, .int .u8 0, .int .i64 0, .int .u64 0][o]? := fun o => by simp [World.cell?, j1]
    have hz1 : ∀ o, w2.frozen? ⟨w.heap.size + 1, o, none⟩ = false := fun o => by simp [World.frozen?, j1]
    have x0 := hc1 0; have x1 := hc1 1; have x2 := hc1 2; have x3 := hc1 3; have x4 := hc1 4; have x5 := hc1 5; have x6 := hc1 6; have x7 := hc1 7; have x8 := hc1 8
    have p0 := hz1 0; have p1 := hz1 1; have p2 := hz1 2; have p3 := hz1 3; have p4 := hz1 4; have p5 := hz1 5; have p6 := hz1 6; have p7 := hz1 7; have p8 := hz1 8
    simp only [List.getElem?_toArray, List.getElem?_cons_zero, List.getElem?_cons_succ] at x0 x1 x2 x3 x4 x5 x6 x7 x8
    have hx := Lib.hid (set9 j1 (.int .u64 u.1) (.string u.2) (.string u.2) (.int .i64 r.fn) (.slice aa r.args.length ac) (.int .i64 r.fuel) (.int .u8 r.st) (.int .i64 r.wk) (.int .u64 r.ep))
    have hB9 := Lib.hid (set9_below HA2.out (r := w.heap.size + 1) (Nat.le_succ _) (.int .u64 u.1) (.string u.2) (.string u.2) (.int .i64 r.fn) (.slice aa r.args.length ac) (.int .i64 r.fuel) (.int .u8 r.st) (.int .i64 r.wk) (.int .u64 r.ep))
    have hO9 := Lib.hid (own_sets9 HO.out (r := w.heap.size + 1) hlt (.int .u64 u.1) (.string u.2) (.string u.2) (.int .i64 r.fn) (.slice aa r.args.length ac) (.int .i64 r.fuel) (.int .u8 r.st) (.int .i64 r.wk) (.int .u64 r.ep))
    unfold rowV
    clear j1 hc1 hz1 hown hB hrow hal HR1
    go_wp2_with fail
    exact aboveA_end hx.out rfl rfl ⟨.inr ⟨u, b, r, aa, ac, HG.out.1, HG.out.2, rfl, owns_base hO9.out hs1⟩, hB9.out⟩
end Go.Proofs.Ytpdnebimkfejoaa
