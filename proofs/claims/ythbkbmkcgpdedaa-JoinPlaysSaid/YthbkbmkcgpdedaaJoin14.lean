/- told; Get. -/
import Derived.Test.YthbkbmkcgpdedaaJoin13
import Derived.Test.YthbkbmkcgpdedaaJoin10
import Derived.StillTailTactics
namespace Go.Proofs.Ythbkbmkcgpdedaa
open Go.RowKit Go.Sort Go.Lib

/-- A row as it is told. -/
def rowV (n : Nm) (r : Rw) (aa : Option Addr) (ac : Nat) : Value := .agg #[.int .u64 n.1, .string n.2, .string n.2, .int .i64 r.fn, .slice aa r.args.length ac, .int .i64 r.fuel, .int .u8 r.st, .int .i64 r.op, .int .i64 r.val, .int .i64 r.err]
theorem told_end {wz : World} {tmps : Array Value} {x0 x1 x2 x3 x4 x5 x6 x7 x8 x9 : Value} {r : Nat} {T : TypeId} {R : Ending → World → Prop}
    (hr : wz.heap[r]? = some (.cells #[x0, x1, x2, x3, x4, x5, x6, x7, x8, x9] T (0, 0))) (h2 : tmps.getD 2 undef = .pointer (some ⟨r, 0, none⟩)) (hR : R (.returned (.agg #[x0, x1, x2, x3, x4, x5, x6, x7, x8, x9])) wz) :
    bodyPost Try.prog Try.f49 R Exit.ret { tmps := tmps, defers := [] } wz := by
  have c : ∀ o, wz.cell? ⟨r, o, none⟩ = #[x0, x1, x2, x3, x4, x5, x6, x7, x8, x9][o]? := fun o => by simp [World.cell?, hr]
  have c0 := c 0; have c1 := c 1; have c2 := c 2; have c3 := c 3; have c4 := c 4; have c5 := c 5; have c6 := c 6; have c7 := c 7; have c8 := c 8; have c9 := c 9
  simp only [List.getElem?_toArray, List.getElem?_cons_zero, List.getElem?_cons_succ] at c0 c1 c2 c3 c4 c5 c6 c7 c8 c9
  refine bodyPost_ret (v := .agg #[x0, x1, x2, x3, x4, x5, x6, x7, x8, x9]) ?_ rfl hR
  have h2' : tmps[2]?.getD undef = .pointer (some ⟨r, 0, none⟩) := by simpa using h2
  simp [results, Try.results49, go_sem, h2', c0, c1, c2, c3, c4, c5, c6, c7, c8, c9]
theorem own_sets10 {w1 : World} {E : TypeId} {v : Value} {n : Nat} {xs : List Value} {B r : Nat} (h : w1.ownsRow B E 1 v n xs) (hr : r < B) (a0 a1 a2 a3 a4 a5 a6 a7 a8 a9 : Value) :
    ((((((((((w1.setCell ⟨r, 0, none⟩ a0).setCell ⟨r, 1, none⟩ a1).setCell ⟨r, 2, none⟩ a2).setCell ⟨r, 3, none⟩ a3).setCell ⟨r, 4, none⟩ a4).setCell ⟨r, 5, none⟩ a5).setCell ⟨r, 6, none⟩ a6).setCell ⟨r, 7, none⟩ a7).setCell ⟨r, 8, none⟩ a8).setCell ⟨r, 9, none⟩ a9).ownsRow B E 1 v n xs := by
  have h0 := own_sets h hr (a := ⟨r, 0, none⟩) rfl a0
  have h1 := own_sets h0 hr (a := ⟨r, 1, none⟩) rfl a1
  have h2 := own_sets h1 hr (a := ⟨r, 2, none⟩) rfl a2
  have h3 := own_sets h2 hr (a := ⟨r, 3, none⟩) rfl a3
  have h4 := own_sets h3 hr (a := ⟨r, 4, none⟩) rfl a4
  have h5 := own_sets h4 hr (a := ⟨r, 5, none⟩) rfl a5
  have h6 := own_sets h5 hr (a := ⟨r, 6, none⟩) rfl a6
  have h7 := own_sets h6 hr (a := ⟨r, 7, none⟩) rfl a7
  have h8 := own_sets h7 hr (a := ⟨r, 8, none⟩) rfl a8
  have h9 := own_sets h8 hr (a := ⟨r, 9, none⟩) rfl a9
  exact h9
set_option maxHeartbeats 3200000 in
set_option maxRecDepth 100000 in
theorem told_any (b : Nat) (n : Nm) (r : Rw) (w : World) (h : w.heap[b]? = some (rowO n r)) (ha : Args w r) (hl : r.args.length ≤ 1000000) :
    Calls Try.prog 49 #[.pointer (some ⟨b, 0, none⟩)] w fun e w' => ∃ aa ac, e = .returned (rowV n r aa ac) ∧ w'.ownsRow w.heap.size 2 1 (.slice aa r.args.length ac) r.args.length (r.args.flatMap encI) ∧ Below w.heap.size w w' := by
  have hbl := (Array.getElem?_eq_some_iff.1 h).1
  have hA : Below w.heap.size w ((w.alloc (.cells #[.int .u64 0, .string ⟨#[]⟩, .string ⟨#[]⟩, .int .i64 0, .slice none 0 0, .int .i64 0, .int .u8 0, .int .i64 0, .int .i64 0, .int .i64 0] 58)).alloc (.cells #[.int .u64 n.1, .string n.2, .string n.2, .int .i64 r.fn, .slice r.aa r.args.length r.ac, .int .i64 r.fuel, .int .u8 r.st, .int .i64 r.op, .int .i64 r.val, .int .i64 r.err] 58)) := ((Below.refl _ _).alloc (Nat.le_refl _) _).alloc (by simp) _
  have hb1 : ((w.alloc (.cells #[.int .u64 0, .string ⟨#[]⟩, .string ⟨#[]⟩, .int .i64 0, .slice none 0 0, .int .i64 0, .int .u8 0, .int .i64 0, .int .i64 0, .int .i64 0] 58)).alloc (.cells #[.int .u64 n.1, .string n.2, .string n.2, .int .i64 r.fn, .slice r.aa r.args.length r.ac, .int .i64 r.fuel, .int .u8 r.st, .int .i64 r.op, .int .i64 r.val, .int .i64 r.err] 58)).heap[w.heap.size]? = some (.cells #[.int .u64 0, .string ⟨#[]⟩, .string ⟨#[]⟩, .int .i64 0, .slice none 0 0, .int .i64 0, .int .u8 0, .int .i64 0, .int .i64 0, .int .i64 0] 58 (0, 0)) :=
    (((Below.refl (w.alloc (.cells #[.int .u64 0, .string ⟨#[]⟩, .string ⟨#[]⟩, .int .i64 0, .slice none 0 0, .int .i64 0, .int .u8 0, .int .i64 0, .int .i64 0, .int .i64 0] 58)).heap.size _).alloc (Nat.le_refl _) _).block _ (by simp)).trans (heap_alloc_new _ _)
  have hb2 := heap_alloc_new (w.alloc (.cells #[.int .u64 0, .string ⟨#[]⟩, .string ⟨#[]⟩, .int .i64 0, .slice none 0 0, .int .i64 0, .int .u8 0, .int .i64 0, .int .i64 0, .int .i64 0] 58)) (.cells #[.int .u64 n.1, .string n.2, .string n.2, .int .i64 r.fn, .slice r.aa r.args.length r.ac, .int .i64 r.fuel, .int .u8 r.st, .int .i64 r.op, .int .i64 r.val, .int .i64 r.err] 58)
  rw [show (w.alloc (.cells #[.int .u64 0, .string ⟨#[]⟩, .string ⟨#[]⟩, .int .i64 0, .slice none 0 0, .int .i64 0, .int .u8 0, .int .i64 0, .int .i64 0, .int .i64 0] 58)).heap.size = w.heap.size + 1 by simp] at hb2
  have hk : ∀ o, (w.alloc (.cells #[.int .u64 0, .string ⟨#[]⟩, .string ⟨#[]⟩, .int .i64 0, .slice none 0 0, .int .i64 0, .int .u8 0, .int .i64 0, .int .i64 0, .int .i64 0] 58)).cell? ⟨b, o, none⟩ = #[Value.int .u64 n.1, .string n.2, .string n.2, .int .i64 r.fn, .slice r.aa r.args.length r.ac, .int .i64 r.fuel, .int .u8 r.st, .int .i64 r.op, .int .i64 r.val, .int .i64 r.err, .bool r.fk][o]? := fun o => row_cells ((((Below.refl w.heap.size w).alloc (Nat.le_refl _) _).block b hbl).trans h) o
  have k0 := hk 0; have k1 := hk 1; have k2 := hk 2; have k3 := hk 3; have k4 := hk 4; have k5 := hk 5; have k6 := hk 6; have k7 := hk 7; have k8 := hk 8; have k9 := hk 9
  simp only [List.getElem?_toArray, List.getElem?_cons_zero, List.getElem?_cons_succ] at k0 k1 k2 k3 k4 k5 k6 k7 k8 k9
  have H2 := Lib.hid hb2
  have H1 := Lib.hid hb1
  have HB := Lib.hid hA
  have HRD := Lib.hid (args_reads (Args.far ha (fun i cur hi => hA.block i (Array.getElem?_eq_some_iff.1 hi).1)))
  clear hA hb1 hb2 hk h ha
  go_enter Try.func49, Try.ntmps49
  go_upto_region 2 with fail
  generalize hw1 : ((w.alloc (.cells #[.int .u64 0, .string ⟨#[]⟩, .string ⟨#[]⟩, .int .i64 0, .slice none 0 0, .int .i64 0, .int .u8 0, .int .i64 0, .int .i64 0, .int .i64 0] 58)).alloc (.cells #[.int .u64 n.1, .string n.2, .string n.2, .int .i64 r.fn, .slice r.aa r.args.length r.ac, .int .i64 r.fuel, .int .u8 r.st, .int .i64 r.op, .int .i64 r.val, .int .i64 r.err] 58)) = w1 at *
  clear hw1 k0 k1 k2 k3 k4 k5 k6 k7 k8 k9
  have k2 := H2.out
  have hc2 : ∀ o, w1.cell? ⟨w.heap.size + 1, o, none⟩ = #[Value.int .u64 n.1, .string n.2, .string n.2, .int .i64 r.fn, .slice r.aa r.args.length r.ac, .int .i64 r.fuel, .int .u8 r.st, .int .i64 r.op, .int .i64 r.val, .int .i64 r.err][o]? := fun o => by simp [World.cell?, k2]
  have k4 := hc2 2; have k5 := hc2 3; have k6 := hc2 4; have k7 := hc2 5
  simp only [List.getElem?_toArray, List.getElem?_cons_zero, List.getElem?_cons_succ] at k4 k5 k6 k7
  clear hc2 k2
  go_wp2_with fail
  refine (own_any n.2 r.fn r.fuel _ r.args w1 HRD.out hl).mono ?_
  rintro e w2 ⟨aa, ac, rfl, ho, hB⟩
  have hlt1 := (Array.getElem?_eq_some_iff.1 H1.out).1
  have hlt2 := (Array.getElem?_eq_some_iff.1 H2.out).1
  have j1 := (hB.block _ hlt1).trans H1.out
  have j2 := (hB.block _ hlt2).trans H2.out
  have HO := Lib.hid ho
  have HB2 := Lib.hid (HB.out.trans (hB.mono HB.out.size))
  have hs1 := HB.out.size
  clear ho hB H1 H2 HRD k4 k5 k6 k7 HB
  have hc1 : ∀ o, w2.cell? ⟨w.heap.size, o, none⟩ = #[Value.int .u64 0, .string ⟨#[]⟩, .string ⟨#[]⟩, .int .i64 0, .slice none 0 0, .int .i64 0, .int .u8 0, .int .i64 0, .int .i64 0, .int .i64 0][o]? := fun o => by simp [World.cell?, j1]
  have hz1 : ∀ o, w2.frozen? ⟨w.heap.size, o, none⟩ = false := fun o => by simp [World.frozen?, j1]
  have hc2 : ∀ o, w2.cell? ⟨w.heap.size + 1, o, none⟩ = #[Value.int .u64 n.1, .string n.2, .string n.2, .int .i64 r.fn, .slice r.aa r.args.length r.ac, .int .i64 r.fuel, .int .u8 r.st, .int .i64 r.op, .int .i64 r.val, .int .i64 r.err][o]? := fun o => by simp [World.cell?, j2]
  have hz2 : ∀ o, w2.frozen? ⟨w.heap.size + 1, o, none⟩ = false := fun o => by simp [World.frozen?, j2]
  have x0 := hc1 0; have x1 := hc1 1; have x2 := hc1 2; have x3 := hc1 3; have x4 := hc1 4; have x5 := hc1 5; have x6 := hc1 6; have x7 := hc1 7; have x8 := hc1 8; have x9 := hc1 9
  have p0 := hz1 0; have p1 := hz1 1; have p2 := hz1 2; have p3 := hz1 3; have p4 := hz1 4; have p5 := hz1 5; have p6 := hz1 6; have p7 := hz1 7; have p8 := hz1 8; have p9 := hz1 9
  simp only [List.getElem?_toArray, List.getElem?_cons_zero, List.getElem?_cons_succ] at x0 x1 x2 x3 x4 x5 x6 x7 x8 x9
  have y0 := hc2 0; have y1 := hc2 1; have y2 := hc2 2; have y3 := hc2 3; have y4 := hc2 4; have y5 := hc2 5; have y6 := hc2 6; have y7 := hc2 7; have y8 := hc2 8; have y9 := hc2 9
  have q0 := hz2 0; have q1 := hz2 1; have q2 := hz2 2; have q3 := hz2 3; have q4 := hz2 4; have q5 := hz2 5; have q6 := hz2 6; have q7 := hz2 7; have q8 := hz2 8; have q9 := hz2 9
  simp only [List.getElem?_toArray, List.getElem?_cons_zero, List.getElem?_cons_succ] at y0 y1 y2 y3 y4 y5 y6 y7 y8 y9
  have J1 := Lib.hid j1
  have J2 := Lib.hid j2
  clear hc1 hz1 hc2 hz2 j1 j2
  go_wp2_with fail
  have hx := set10 (w1 := ((((w2.setCell ⟨w.heap.size + 1, 2, none⟩ (.string n.2)).setCell ⟨w.heap.size + 1, 3, none⟩ (.int .i64 r.fn)).setCell ⟨w.heap.size + 1, 4, none⟩ (.slice aa r.args.length ac)).setCell ⟨w.heap.size + 1, 5, none⟩ (.int .i64 r.fuel))) (r := w.heap.size) (by
    simp only [Go.heap_setCell_other _ ⟨w.heap.size + 1, _, none⟩ w.heap.size _ (by show w.heap.size ≠ w.heap.size + 1; omega)]
    exact J1.out) (.int .u64 n.1) (.string n.2) (.string n.2) (.int .i64 r.fn) (.slice aa r.args.length ac) (.int .i64 r.fuel) (.int .u8 r.st) (.int .i64 r.op) (.int .i64 r.val) (.int .i64 r.err)
  have hB9 := set10_below ((((HB2.out.setCell (p := ⟨w.heap.size + 1, 2, none⟩) (Nat.le_succ _) (.string n.2)).setCell (p := ⟨w.heap.size + 1, 3, none⟩) (Nat.le_succ _) (.int .i64 r.fn)).setCell (p := ⟨w.heap.size + 1, 4, none⟩) (Nat.le_succ _) (.slice aa r.args.length ac)).setCell (p := ⟨w.heap.size + 1, 5, none⟩) (Nat.le_succ _) (.int .i64 r.fuel)) (r := w.heap.size) (Nat.le_refl _) (.int .u64 n.1) (.string n.2) (.string n.2) (.int .i64 r.fn) (.slice aa r.args.length ac) (.int .i64 r.fuel) (.int .u8 r.st) (.int .i64 r.op) (.int .i64 r.val) (.int .i64 r.err)
  have hO9 := own_sets10 (own_sets (own_sets (own_sets (own_sets HO.out (r := w.heap.size + 1) (a := ⟨w.heap.size + 1, 2, none⟩) hlt2 rfl (.string n.2)) (r := w.heap.size + 1) (a := ⟨w.heap.size + 1, 3, none⟩) hlt2 rfl (.int .i64 r.fn)) (r := w.heap.size + 1) (a := ⟨w.heap.size + 1, 4, none⟩) hlt2 rfl (.slice aa r.args.length ac)) (r := w.heap.size + 1) (a := ⟨w.heap.size + 1, 5, none⟩) hlt2 rfl (.int .i64 r.fuel)) (r := w.heap.size) hlt1 (.int .u64 n.1) (.string n.2) (.string n.2) (.int .i64 r.fn) (.slice aa r.args.length ac) (.int .i64 r.fuel) (.int .u8 r.st) (.int .i64 r.op) (.int .i64 r.val) (.int .i64 r.err)
  exact told_end hx rfl ⟨aa, ac, rfl, owns_base hO9 hs1, hB9⟩
/-- What Get answers. -/
def GetR (T : Tb) (n : Nm) (w : World) (e : Ending) (w' : World) : Prop :=
  ((getL T n = none ∧ e = .returned (.tuple #[zR, .bool false])) ∨
    ∃ b r aa ac, getL T n = some (b, r) ∧ e = .returned (.tuple #[rowV n r aa ac, .bool true]) ∧ w'.ownsRow w.heap.size 2 1 (.slice aa r.args.length ac) r.args.length (r.args.flatMap encI)) ∧ Below w.heap.size w w'
set_option maxHeartbeats 3200000 in
set_option maxRecDepth 100000 in
theorem get_tab (f m : Nat) (most : Int) (T : Tb) (n : Nm) (w : World) (h : Tab w f m most T) (hargs : ∀ p ∈ T, p.2.2.args.length ≤ 1000000) :
    Calls Try.prog 28 #[.pointer (some ⟨f, 0, none⟩), .agg #[.int .u64 n.1, .string n.2]] w (GetR T n w) := by
  have hA : Below w.heap.size w ((w.alloc (.cells #[.int .u64 n.1, .string n.2] 35)).alloc (.cells #[.int .u64 0, .string ⟨#[]⟩, .string ⟨#[]⟩, .int .i64 0, .slice none 0 0, .int .i64 0, .int .u8 0, .int .i64 0, .int .i64 0, .int .i64 0] 58)) := ((Below.refl _ _).alloc (Nat.le_refl _) _).alloc (by simp) _
  have hres := heap_alloc_new (w.alloc (.cells #[.int .u64 n.1, .string n.2] 35)) (.cells #[.int .u64 0, .string ⟨#[]⟩, .string ⟨#[]⟩, .int .i64 0, .slice none 0 0, .int .i64 0, .int .u8 0, .int .i64 0, .int .i64 0, .int .i64 0] 58)
  rw [show (w.alloc (.cells #[.int .u64 n.1, .string n.2] 35)).heap.size = w.heap.size + 1 by simp] at hres
  have n1 : ((w.alloc (.cells #[.int .u64 n.1, .string n.2] 35)).alloc (.cells #[.int .u64 0, .string ⟨#[]⟩, .string ⟨#[]⟩, .int .i64 0, .slice none 0 0, .int .i64 0, .int .u8 0, .int .i64 0, .int .i64 0, .int .i64 0] 58)).cell? ⟨w.heap.size, 0, none⟩ = some (.int .u64 n.1) := by simp
  have n2 : ((w.alloc (.cells #[.int .u64 n.1, .string n.2] 35)).alloc (.cells #[.int .u64 0, .string ⟨#[]⟩, .string ⟨#[]⟩, .int .i64 0, .slice none 0 0, .int .i64 0, .int .u8 0, .int .i64 0, .int .i64 0, .int .i64 0] 58)).cell? ⟨w.heap.size, 1, none⟩ = some (.string n.2) := by simp
  have h1 := h.below hA
  have hl := fun q => (h1.drewN q).look_at rfl n
  have c1 := h1.c1
  have hlt := h1.lt
  have HH := Lib.hid h1
  have HA := Lib.hid hA
  have HRES := Lib.hid hres
  clear h h1 hA hres
  unfold ptrT at hl
  go_enter Try.func28, Try.ntmps28
  generalize hwa : ((w.alloc (.cells #[.int .u64 n.1, .string n.2] 35)).alloc (.cells #[.int .u64 0, .string ⟨#[]⟩, .string ⟨#[]⟩, .int .i64 0, .slice none 0 0, .int .i64 0, .int .u8 0, .int .i64 0, .int .i64 0, .int .i64 0] 58)) = wa at *
  go_upto_region 1 with fail
  clear hwa
  cases hg : getL T n with
  | none =>
    rw [hg] at hl
    simp only [Option.map_none] at hl
    have HG := Lib.hid hg
    go_quiet (fail)
    have hq : Below w.heap.size w (wa.drewN nq) := below_drewN HA.out nq
    have hr2 : (wa.drewN nq).heap[w.heap.size + 1]? = some (.cells #[.int .u64 0, .string ⟨#[]⟩, .string ⟨#[]⟩, .int .i64 0, .slice none 0 0, .int .i64 0, .int .u8 0, .int .i64 0, .int .i64 0, .int .i64 0] 58 (0, 0)) := HRES.out
    generalize wa.drewN nq = w2 at *
    have HA2 := Lib.hid hq
    have hc2 : ∀ o, w2.cell? ⟨w.heap.size + 1, o, none⟩ = #[Value.int .u64 0, .string ⟨#[]⟩, .string ⟨#[]⟩, .int .i64 0, .slice none 0 0, .int .i64 0, .int .u8 0, .int .i64 0, .int .i64 0, .int .i64 0][o]? := fun o => by simp [World.cell?, hr2]
    have hz2 : ∀ o, w2.frozen? ⟨w.heap.size + 1, o, none⟩ = false := fun o => by simp [World.frozen?, hr2]
    have y0 := hc2 0; have y1 := hc2 1; have y2 := hc2 2; have y3 := hc2 3; have y4 := hc2 4; have y5 := hc2 5; have y6 := hc2 6; have y7 := hc2 7; have y8 := hc2 8; have y9 := hc2 9
    have q0 := hz2 0; have q1 := hz2 1; have q2 := hz2 2; have q3 := hz2 3; have q4 := hz2 4; have q5 := hz2 5; have q6 := hz2 6; have q7 := hz2 7; have q8 := hz2 8; have q9 := hz2 9
    simp only [List.getElem?_toArray, List.getElem?_cons_zero, List.getElem?_cons_succ] at y0 y1 y2 y3 y4 y5 y6 y7 y8 y9
    have HR2 := Lib.hid hr2
    clear hq hr2 hc2 hz2 HA HRES hl
    go_wp2_with fail
    exact get_end (set10 HR2.out _ _ _ _ _ _ _ _ _ _) rfl rfl ⟨.inl ⟨HG.out, rfl⟩, set10_below HA2.out (r := w.heap.size + 1) (Nat.le_succ _) _ _ _ _ _ _ _ _ _ _⟩
  | some br =>
    obtain ⟨b, r⟩ := br
    rw [hg] at hl
    simp only [Option.map_some] at hl
    have HG := Lib.hid hg
    have hrow := HH.out.at hg
    have hal := hargs _ (getL_mem' hg)
    have HROW := Lib.hid hrow
    clear hrow
    go_quiet (fail)
    have hq : Below w.heap.size w (wa.drewN nq) := below_drewN HA.out nq
    have hr2 : (wa.drewN nq).heap[w.heap.size + 1]? = some (.cells #[.int .u64 0, .string ⟨#[]⟩, .string ⟨#[]⟩, .int .i64 0, .slice none 0 0, .int .i64 0, .int .u8 0, .int .i64 0, .int .i64 0, .int .i64 0] 58 (0, 0)) := HRES.out
    have hq0 := below_drewN (Below.refl wa.heap.size wa) nq
    have HH2 := Lib.hid (HH.out.below hq0)
    have hl2 := HH2.out.look_at (x := { heap := (wa.drewN nq).heap, tape := (wa.drewN nq).tape, drawn := (wa.drewN nq).drawn + 1, os := (wa.drewN nq).os, output := (wa.drewN nq).output }) rfl n
    unfold ptrT at hl2
    rw [HG.out] at hl2
    simp only [Option.map_some] at hl2
    have hl4 := HH2.out.look_at (x := (wa.drewN nq).drew) rfl n
    unfold ptrT at hl4
    rw [HG.out] at hl4
    simp only [Option.map_some] at hl4
    have hrow2 := HH2.out.at HG.out
    have c1q := HH2.out.c1
    have n1q := cell_keep hq0 n1
    have n2q := cell_keep hq0 n2
    have hlt2 := HH2.out.lt
    generalize wa.drewN nq = w2 at *
    have HA2 := Lib.hid hq
    have HROW2 := Lib.hid hrow2
    have HR2 := Lib.hid hr2
    clear hq hq0 hl n1 n2 c1 HH HA HRES HROW hg hrow2 hr2 hlt hargs
    go_wp2_with fail
    go_still_tail 6, (by kernel_rfl)
    change wpList _ _ _ _ _ w2.drew
    have hB0 : Below w2.heap.size w2 w2.drew := (Below.refl _ _).drew
    have HR3 := Lib.hid (show w2.drew.heap[w.heap.size + 1]? = _ from HR2.out)
    have HROW3 := Lib.hid (show w2.drew.heap[b]? = some (rowO n r) from HROW2.out.1)
    have HAR3 := Lib.hid (show Args w2.drew r from Args.far HROW2.out.2 (fun i _ _ => rfl))
    have HA3 := Lib.hid HA2.out.drew
    clear hB0 HR2 HROW2 HA2 HH2 hl2 hl4 c1q n1q n2q hlt2
    generalize w2.drew = w3 at *
    go_wp2_with fail
    refine (told_any b n r w3 HROW3.out HAR3.out hal).mono ?_
    rintro e w4 ⟨aa, ac, rfl, ho, hB⟩
    have hlt3 := (Array.getElem?_eq_some_iff.1 HR3.out).1
    have hr4 := (hB.block _ hlt3).trans HR3.out
    have HO := Lib.hid ho
    have HA4 := Lib.hid (HA3.out.trans (hB.mono HA3.out.size))
    have hs3 := HA3.out.size
    clear ho hB HR3 HROW3 HAR3 HA3
    have hc2 : ∀ o, w4.cell? ⟨w.heap.size + 1, o, none⟩ = #[Value.int .u64 0, .string ⟨#[]⟩, .string ⟨#[]⟩, .int .i64 0, .slice none 0 0, .int .i64 0, .int .u8 0, .int .i64 0, .int .i64 0, .int .i64 0][o]? := fun o => by simp [World.cell?, hr4]
    have hz2 : ∀ o, w4.frozen? ⟨w.heap.size + 1, o, none⟩ = false := fun o => by simp [World.frozen?, hr4]
    have y0 := hc2 0; have y1 := hc2 1; have y2 := hc2 2; have y3 := hc2 3; have y4 := hc2 4; have y5 := hc2 5; have y6 := hc2 6; have y7 := hc2 7; have y8 := hc2 8; have y9 := hc2 9
    have q0 := hz2 0; have q1 := hz2 1; have q2 := hz2 2; have q3 := hz2 3; have q4 := hz2 4; have q5 := hz2 5; have q6 := hz2 6; have q7 := hz2 7; have q8 := hz2 8; have q9 := hz2 9
    simp only [List.getElem?_toArray, List.getElem?_cons_zero, List.getElem?_cons_succ] at y0 y1 y2 y3 y4 y5 y6 y7 y8 y9
    have HR4 := Lib.hid hr4
    clear hr4 hc2 hz2
    unfold rowV
    go_wp2_with fail
    have hO9 := own_sets10 HO.out (r := w.heap.size + 1) hlt3 (.int .u64 n.1) (.string n.2) (.string n.2) (.int .i64 r.fn) (.slice aa r.args.length ac) (.int .i64 r.fuel) (.int .u8 r.st) (.int .i64 r.op) (.int .i64 r.val) (.int .i64 r.err)
    exact get_end (set10 HR4.out _ _ _ _ _ _ _ _ _ _) rfl rfl ⟨.inr ⟨b, r, aa, ac, HG.out, rfl, owns_base hO9 hs3⟩, set10_below HA4.out (r := w.heap.size + 1) (Nat.le_succ _) _ _ _ _ _ _ _ _ _ _⟩
end Go.Proofs.Ythbkbmkcgpdedaa
