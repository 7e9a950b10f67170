/- parent; Over. -/
import Derived.Test.YthbkbmkcgpdedaaJoin7
namespace Go.Proofs.Ythbkbmkcgpdedaa
open Go.RowKit Go.Sort Go.Lib

theorem set2 {w1 : World} {r : Nat} {x y : Value} {T : TypeId} (h : w1.heap[r]? = some (.cells #[x, y] T (0, 0))) (a b : Value) :
    ((w1.setCell ⟨r, 0, none⟩ a).setCell ⟨r, 1, none⟩ b).heap[r]? = some (.cells #[a, b] T (0, 0)) := by
  have h1 := Go.heap_setCell_same w1 r 0 _ _ a h
  exact Go.heap_setCell_same _ r 1 _ _ b h1
theorem parent_end {wz : World} {tmps : Array Value} {j : Int} {p : ByteArray} {r : Nat} {T : TypeId} {R : Ending → World → Prop}
    (hr : wz.heap[r]? = some (.cells #[.int .u64 j, .string p] T (0, 0))) (h2 : tmps.getD 2 undef = .pointer (some ⟨r, 0, none⟩)) (hR : R (.returned (.agg #[.int .u64 j, .string p])) wz) :
    bodyPost Try.prog Try.f44 R Exit.ret { tmps := tmps, defers := [] } wz := by
  have c0 : wz.cell? ⟨r, 0, none⟩ = some (.int .u64 j) := by simp [World.cell?, hr]
  have c1 : wz.cell? ⟨r, 1, none⟩ = some (.string p) := by simp [World.cell?, hr]
  refine bodyPost_ret (v := .agg #[.int .u64 j, .string p]) ?_ rfl hR
  have h2' : tmps[2]?.getD undef = .pointer (some ⟨r, 0, none⟩) := by simpa using h2
  simp [results, Try.results44, go_sem, h2', c0, c1]
set_option maxHeartbeats 800000 in
set_option maxRecDepth 100000 in
theorem rparent (b : Nat) (n : Nm) (r : Rw) (w : World) (h : w.heap[b]? = some (rowO n r)) (hs : n.2.size ≤ 9223372036854775807) :
    Calls Try.prog 44 #[.pointer (some ⟨b, 0, none⟩)] w fun e w' => e = .returned (.agg #[.int .u64 n.1, .string (parS n.2)]) ∧ Below w.heap.size w w' := by
  have hA : Below w.heap.size w (w.alloc (.cells #[.int .u64 0, .string ⟨#[]⟩] 35)) := (Below.refl _ _).alloc (Nat.le_refl _) _
  have hrow := (hA.block _ (Array.getElem?_eq_some_iff.1 h).1).trans h
  have H1 := Lib.hid hrow
  have HA := Lib.hid hA
  have HRES := Lib.hid (heap_alloc_new w (.cells #[.int .u64 0, .string ⟨#[]⟩] 35))
  have k1 : (w.alloc (.cells #[.int .u64 0, .string ⟨#[]⟩] 35)).cell? ⟨b, 1, none⟩ = some (.string n.2) := row_cells hrow 1
  clear h hrow hA
  go_enter Try.func44, Try.ntmps44
  go_wp2_with fail
  refine (parent_any n.2 _ hs).mono ?_
  rintro e w1 ⟨rfl, hB⟩
  have hrow1 := (hB.block _ (Array.getElem?_eq_some_iff.1 H1.out).1).trans H1.out
  have hr1 := (hB.block _ (Array.getElem?_eq_some_iff.1 HRES.out).1).trans HRES.out
  have k0 : w1.cell? ⟨b, 0, none⟩ = some (.int .u64 n.1) := row_cells hrow1 0
  have y0 : w1.cell? ⟨w.heap.size, 0, none⟩ = some (.int .u64 0) := by simp [World.cell?, hr1]
  have y1 : w1.cell? ⟨w.heap.size, 1, none⟩ = some (.string ⟨#[]⟩) := by simp [World.cell?, hr1]
  have q0 : w1.frozen? ⟨w.heap.size, 0, none⟩ = false := by simp [World.frozen?, hr1]
  have q1 : w1.frozen? ⟨w.heap.size, 1, none⟩ = false := by simp [World.frozen?, hr1]
  have HR1 := Lib.hid hr1
  have HB := Lib.hid (gthen HA.out hB)
  clear hB H1 HA HRES hrow1 hr1 k1
  go_wp2_with fail
  exact parent_end (set2 HR1.out _ _) rfl ⟨rfl, (HB.out.setCell (p := ⟨w.heap.size, 0, none⟩) (Nat.le_refl _) _).setCell (p := ⟨w.heap.size, 1, none⟩) (Nat.le_refl _) _⟩

theorem over_end {wz : World} {tmps : Array Value} {j c : Int} {p : ByteArray} {is : Bool} {r : Nat} {T : TypeId} {R : Ending → World → Prop}
    (hr : wz.heap[r]? = some (.cells #[.int .u64 j, .string p] T (0, 0))) (h6 : tmps.getD 6 undef = .pointer (some ⟨r, 0, none⟩)) (h7 : tmps.getD 7 undef = .bool is) (h8 : tmps.getD 8 undef = .int .i64 c) (hR : R (.returned (.tuple #[.agg #[.int .u64 j, .string p], .bool is, .int .i64 c])) wz) :
    bodyPost Try.prog Try.f23 R Exit.ret { tmps := tmps, defers := [] } wz := by
  have c0 : wz.cell? ⟨r, 0, none⟩ = some (.int .u64 j) := by simp [World.cell?, hr]
  have c1 : wz.cell? ⟨r, 1, none⟩ = some (.string p) := by simp [World.cell?, hr]
  refine bodyPost_ret (v := .tuple #[.agg #[.int .u64 j, .string p], .bool is, .int .i64 c]) ?_ rfl hR
  have h6' : tmps[6]?.getD undef = .pointer (some ⟨r, 0, none⟩) := by simpa using h6
  have h7' : tmps[7]?.getD undef = .bool is := by simpa using h7
  have h8' : tmps[8]?.getD undef = .int .i64 c := by simpa using h8
  simp [results, Try.results23, go_sem, h6', h7', h8', c0, c1]
theorem Tab.other2 {w : World} {f m : Nat} {most : Int} {T : Tb} {r : Nat} {x y : Value} {E : TypeId} (h : Tab w f m most T) (hr : w.heap[r]? = some (.cells #[x, y] E (0, 0))) (a b : Value) (h1 : E ≠ 76) (h2 : E ≠ 85) (h3 : E ≠ 2) :
    Tab ((w.setCell ⟨r, 0, none⟩ a).setCell ⟨r, 1, none⟩ b) f m most T := by
  have hk : ∀ i, i ≠ r → ((w.setCell ⟨r, 0, none⟩ a).setCell ⟨r, 1, none⟩ b).heap[i]? = w.heap[i]? := fun i hi => by
    rw [Go.heap_setCell_other _ ⟨r, 1, none⟩ i _ hi, Go.heap_setCell_other _ ⟨r, 0, none⟩ i _ hi]
  have hne : ∀ (i : Nat) (cs : Array Value) (t : TypeId) (fr : Nat × Nat), w.heap[i]? = some (Obj.cells cs t fr) → t ≠ E → i ≠ r := by
    rintro i cs t fr hi ht rfl
    rw [hr] at hi
    injection hi with hi; injection hi with _ hi _
    exact ht hi.symm
  refine ⟨(hk f (hne _ _ _ _ h.box (fun e => h1 e.symm))).trans h.box, h.map.block (hk m (fun e => h.notMap (i := r) hr e.symm)), fun p hp => ?_, h.nd⟩
  have hrow := h.row p hp
  exact ⟨(hk _ (hne _ _ _ _ hrow.1 (fun e => h2 e.symm))).trans hrow.1, Args.far hrow.2 (fun i cur hi => hk i (hne _ _ _ _ hi (fun e => h3 e.symm)))⟩
theorem getL_upd_ne {T : Tb} {n k : Nm} {r' : Rw} (h : k ≠ n) : getL (updT T n r') k = getL T k := by
  unfold getL updT
  congr 1
  induction T with
  | nil => rfl
  | cons p T ih =>
    rw [List.map_cons, List.find?_cons, List.find?_cons]
    by_cases hp : p.1 = n
    · have e1 : ¬ p.1 = k := fun e => h (e.symm.trans hp)
      rw [if_pos hp]
      simp only [e1, decide_false]
      exact ih
    · rw [if_neg hp]
      by_cases hk : p.1 = k
      · simp [hk]
      · simp only [hk, decide_false]
        exact ih
theorem getL_upd {T : Tb} {n : Nm} {b : Nat} {r r' : Rw} (h : getL T n = some (b, r)) : getL (updT T n r') n = some (b, r') := by
  unfold getL updT at *
  induction T with
  | nil => cases h
  | cons p T ih =>
    rw [List.map_cons, List.find?_cons]
    rw [List.find?_cons] at h
    by_cases hp : p.1 = n
    · rw [if_pos hp]
      simp only [hp, decide_true] at h ⊢
      simp at h
      rw [h]; rfl
    · rw [if_neg hp]
      simp only [hp, decide_false] at h ⊢
      exact ih h
def InRows (T : Tb) (i : Nat) : Prop := ∃ p ∈ T, p.2.1 = i
theorem inRows {T : Tb} {n : Nm} {b i : Nat} {r : Rw} (h : getL T n = some (b, r)) (e : i = b) : InRows T i := ⟨_, getL_mem' h, e.symm⟩
def overR1 (r : Rw) (val err : Int) : Rw := { r with st := 6, val := val, err := err }
/-- What Over answers, and leaves, behind a row that was in one of the two states. -/
def overU (T1 : Tb) (n : Nm) (r : Rw) : Bool × Tb := if r.fk then match getL T1 (n.1, parS n.2) with
    | none => (false, T1)
    | some (_, q) => if 0 < q.op - 1 ∨ q.st ≠ 3 then (false, updT T1 (n.1, parS n.2) { q with op := q.op - 1 }) else (true, updT (updT T1 (n.1, parS n.2) { q with op := q.op - 1 }) (n.1, parS n.2) { q with op := q.op - 1, st := 4 })
  else (false, T1)
def nmV (b : Bool) (n : Nm) : Value := if b then .agg #[.int .u64 n.1, .string n.2] else .agg #[.int .u64 0, .string ⟨#[]⟩]
set_option maxHeartbeats 3200000 in
set_option maxRecDepth 100000 in
theorem over_tab (f m : Nat) (most : Int) (T : Tb) (n : Nm) (val err : Int) (b : Nat) (r : Rw) (w : World) (h : Tab w f m most T) (hg : getL T n = some (b, r)) (hst : r.st ∈ [(2 : Int), 5]) (hs : n.2.size ≤ 9223372036854775807)
    (hfk : r.fk = true → parS n.2 ≠ n.2 ∧ ∃ pb q, getL T (n.1, parS n.2) = some (pb, q) ∧ 1 ≤ q.op ∧ q.op ≤ 1000000) :
    Calls Try.prog 23 #[.pointer (some ⟨f, 0, none⟩), .agg #[.int .u64 n.1, .string n.2], .agg #[.int .i64 val, .int .i64 err]] w fun e w' =>
      e = .returned (.tuple #[nmV (overU (updT T n (overR1 r val err)) n r).1 (n.1, parS n.2), .bool (overU (updT T n (overR1 r val err)) n r).1, .int .i64 0]) ∧ Tab w' f m most (overU (updT T n (overR1 r val err)) n r).2 ∧ Fr (InRows T) w w' := by
  have hA : Below w.heap.size w (((w.alloc (.cells #[.int .u64 n.1, .string n.2] 35)).alloc (.cells #[.int .i64 val, .int .i64 err] 40)).alloc (.cells #[.int .u64 0, .string ⟨#[]⟩] 35)) := (((Below.refl _ _).alloc (Nat.le_refl _) _).alloc (by simp) _).alloc (by simp; omega) _
  have n1 : (((w.alloc (.cells #[.int .u64 n.1, .string n.2] 35)).alloc (.cells #[.int .i64 val, .int .i64 err] 40)).alloc (.cells #[.int .u64 0, .string ⟨#[]⟩] 35)).cell? ⟨w.heap.size, 0, none⟩ = some (.int .u64 n.1) := cell_keep ((Below.refl _ _).alloc (Nat.le_refl _) _) (cell_keep ((Below.refl _ _).alloc (Nat.le_refl _) _) (show (w.alloc (.cells #[.int .u64 n.1, .string n.2] 35)).cell? ⟨w.heap.size, 0, none⟩ = some (.int .u64 n.1) by simp))
  have n2 : (((w.alloc (.cells #[.int .u64 n.1, .string n.2] 35)).alloc (.cells #[.int .i64 val, .int .i64 err] 40)).alloc (.cells #[.int .u64 0, .string ⟨#[]⟩] 35)).cell? ⟨w.heap.size, 1, none⟩ = some (.string n.2) := cell_keep ((Below.refl _ _).alloc (Nat.le_refl _) _) (cell_keep ((Below.refl _ _).alloc (Nat.le_refl _) _) (show (w.alloc (.cells #[.int .u64 n.1, .string n.2] 35)).cell? ⟨w.heap.size, 1, none⟩ = some (.string n.2) by simp))
  have hres := heap_alloc_new ((w.alloc (.cells #[.int .u64 n.1, .string n.2] 35)).alloc (.cells #[.int .i64 val, .int .i64 err] 40)) (.cells #[.int .u64 0, .string ⟨#[]⟩] 35)
  rw [show ((w.alloc (.cells #[.int .u64 n.1, .string n.2] 35)).alloc (.cells #[.int .i64 val, .int .i64 err] 40)).heap.size = w.heap.size + 2 by simp] at hres
  have hv1 : (((w.alloc (.cells #[.int .u64 n.1, .string n.2] 35)).alloc (.cells #[.int .i64 val, .int .i64 err] 40)).alloc (.cells #[.int .u64 0, .string ⟨#[]⟩] 35)).heap[w.heap.size + 1]? = some (.cells #[.int .i64 val, .int .i64 err] 40 (0, 0)) := by
    have h2 := heap_alloc_new (w.alloc (.cells #[.int .u64 n.1, .string n.2] 35)) (.cells #[.int .i64 val, .int .i64 err] 40)
    rw [show (w.alloc (.cells #[.int .u64 n.1, .string n.2] 35)).heap.size = w.heap.size + 1 by simp] at h2
    exact (Below.heap_alloc _ _ _ (by simp)).trans h2
  have HH := Lib.hid (h.below hA)
  have HA := Lib.hid hA
  have HRES := Lib.hid hres
  have HV1 := Lib.hid hv1
  have HG := Lib.hid hg
  have HFK := Lib.hid hfk
  have ho : ofV T n [2, 5] = (.pointer (some ⟨b, 0, none⟩), 0) := by unfold ofV; rw [hg]; simp only []; rw [if_pos hst]
  clear h hA hres hv1 hg hfk
  go_enter Try.func23, Try.ntmps23
  generalize hwa : ((w.alloc (.cells #[.int .u64 n.1, .string n.2] 35)).alloc (.cells #[.int .i64 val, .int .i64 err] 40)).alloc (.cells #[.int .u64 0, .string ⟨#[]⟩] 35) = wa at *
  go_upto_region 1 with fail
  clear hwa
  have hB1 : Below wa.heap.size wa (wa.alloc (.cells #[.int .u8 2, .int .u8 5] 5)) := (Below.refl _ _).alloc (Nat.le_refl _) _
  go_wp2_with fail
  refine (of_tab f m most T n [2, 5] _ _ (HH.out.below hB1) (reads_two wa 2 5 5) (by decide)).mono ?_
  rintro e w2 ⟨rfl, hB⟩
  have hBB := gthen hB1 hB
  replace HH := Lib.hid (HH.out.below hBB)
  replace HA := Lib.hid (gthen HA.out hBB)
  replace HRES := Lib.hid ((hBB.block _ (Array.getElem?_eq_some_iff.1 HRES.out).1).trans HRES.out)
  replace HV1 := Lib.hid ((hBB.block _ (Array.getElem?_eq_some_iff.1 HV1.out).1).trans HV1.out)
  rw [ho]
  clear hB hB1 hBB n1 n2 ho
  go_upto_region 4 with fail
  have hrow := (HH.out.at HG.out).1
  have hbl := (Array.getElem?_eq_some_iff.1 hrow).1
  have hb1 : ¬ w.heap.size + 1 = b := fun e => by
    have h1 := hrow
    rw [← e, HV1.out] at h1
    unfold rowO at h1
    injection h1 with h1; injection h1 with _ h1 _; cases h1
  have hb2 : w.heap.size + 2 ≠ b := fun e => by
    have h1 := hrow
    rw [← e, HRES.out] at h1
    unfold rowO at h1
    injection h1 with h1; injection h1 with _ h1 _; cases h1
  have hl1 : w.heap.size + 1 < w2.heap.size := (Array.getElem?_eq_some_iff.1 HV1.out).1
  have v0 : w2.cell? ⟨w.heap.size + 1, 0, none⟩ = some (.int .i64 val) := by simp [World.cell?, HV1.out]
  have v1 : w2.cell? ⟨w.heap.size + 1, 1, none⟩ = some (.int .i64 err) := by simp [World.cell?, HV1.out]
  have k6 : w2.cell? ⟨b, 6, none⟩ = some (.int .u8 r.st) := row_cells hrow 6
  have k8 : w2.cell? ⟨b, 8, none⟩ = some (.int .i64 r.val) := row_cells hrow 8
  have k9 : w2.cell? ⟨b, 9, none⟩ = some (.int .i64 r.err) := row_cells hrow 9
  have z6 : w2.frozen? ⟨b, 6, none⟩ = false := row_open hrow 6
  have z8 : w2.frozen? ⟨b, 8, none⟩ = false := row_open hrow 8
  have z9 : w2.frozen? ⟨b, 9, none⟩ = false := row_open hrow 9
  refine wp_region_held_drew (S := fun y => Fr (fun i => i = b) w2 y) (by kernel_rfl) ((Fr.refl _ _).drew) (fun hHeld => ?_)
  refine wpAnyH_take (i := 0) (oi := _) (v := ?_) (by rw [List.getElem?_toArray]; exact rfl) (by kernel_rfl) (by kernel_rfl) (by kernel_rfl) (by exact fun _ _ _ h => h) (Or.inl ⟨by rfl, ?_⟩) hHeld ?_
  rotate_left
  · (intro wX hSw; have q0 := (hSw.cell (p := ⟨w.heap.size + 1, 0, none⟩) hl1 hb1).trans v0; have q1 := (hSw.cell (p := ⟨w.heap.size + 1, 1, none⟩) hl1 hb1).trans v1; clear hSw; go_simp; try with_reducible rfl)
  try simp only [Act.put, List.setIfInBounds_toArray, List.set_cons_zero, List.set_cons_succ]
  refine wpAnyH_take (i := 1) (oi := _) (v := ?_) (by rw [List.getElem?_toArray]; exact rfl) (by kernel_rfl) (by kernel_rfl) (by kernel_rfl) (by exact fun _ _ _ h => h) (Or.inl ⟨by rfl, ?_⟩) hHeld ?_
  rotate_left
  · (intro wX hSw; have q0 := (hSw.cell (p := ⟨w.heap.size + 1, 0, none⟩) hl1 hb1).trans v0; have q1 := (hSw.cell (p := ⟨w.heap.size + 1, 1, none⟩) hl1 hb1).trans v1; clear hSw; go_simp; try with_reducible rfl)
  try simp only [Act.put, List.setIfInBounds_toArray, List.set_cons_zero, List.set_cons_succ]
  refine wpAnyH_take (i := 2) (oi := _) (v := ?_) (by rw [List.getElem?_toArray]; exact rfl) (by kernel_rfl) (by kernel_rfl) (by kernel_rfl) (by exact fun _ _ _ h => h) (Or.inl ⟨by rfl, ?_⟩) hHeld ?_
  rotate_left
  · (intro wX hSw; have q0 := (hSw.cell (p := ⟨w.heap.size + 1, 0, none⟩) hl1 hb1).trans v0; have q1 := (hSw.cell (p := ⟨w.heap.size + 1, 1, none⟩) hl1 hb1).trans v1; clear hSw; go_simp; try with_reducible rfl)
  try simp only [Act.put, List.setIfInBounds_toArray, List.set_cons_zero, List.set_cons_succ]
  refine wpAnyH_take (i := 3) (oi := _) (v := ?_) (by rw [List.getElem?_toArray]; exact rfl) (by kernel_rfl) (by kernel_rfl) (by kernel_rfl) (by exact fun _ _ _ h => h) (Or.inl ⟨by rfl, ?_⟩) hHeld ?_
  rotate_left
  · (intro wX hSw; have q0 := (hSw.cell (p := ⟨w.heap.size + 1, 0, none⟩) hl1 hb1).trans v0; have q1 := (hSw.cell (p := ⟨w.heap.size + 1, 1, none⟩) hl1 hb1).trans v1; clear hSw; go_simp; try with_reducible rfl)
  try simp only [Act.put, List.setIfInBounds_toArray, List.set_cons_zero, List.set_cons_succ]
  refine wpAnyH_take (i := 4) (oi := _) (v := ?_) (by rw [List.getElem?_toArray]; exact rfl) (by kernel_rfl) (by kernel_rfl) (by kernel_rfl) (by exact fun _ _ _ h => h) (Or.inl ⟨by rfl, ?_⟩) hHeld ?_
  rotate_left
  · (intro wX hSw; have q0 := (hSw.cell (p := ⟨w.heap.size + 1, 0, none⟩) hl1 hb1).trans v0; have q1 := (hSw.cell (p := ⟨w.heap.size + 1, 1, none⟩) hl1 hb1).trans v1; clear hSw; go_simp; try with_reducible rfl)
  try simp only [Act.put, List.setIfInBounds_toArray, List.set_cons_zero, List.set_cons_succ]
  refine wpAnyH_take (i := 5) (oi := _) (v := ?_) (by rw [List.getElem?_toArray]; exact rfl) (by kernel_rfl) (by kernel_rfl) (by kernel_rfl) (by exact fun _ _ _ h => h) (Or.inl ⟨by rfl, ?_⟩) hHeld ?_
  rotate_left
  · (intro wX hSw; have q0 := (hSw.cell (p := ⟨w.heap.size + 1, 0, none⟩) hl1 hb1).trans v0; have q1 := (hSw.cell (p := ⟨w.heap.size + 1, 1, none⟩) hl1 hb1).trans v1; clear hSw; go_simp; try with_reducible rfl)
  try simp only [Act.put, List.setIfInBounds_toArray, List.set_cons_zero, List.set_cons_succ]
  refine wpAnyH_ready (rs := [6]) (by kernel_rfl) (by simp) ?_
  refine AllReadyH.cons (o := _) (by rw [List.getElem?_toArray]; exact rfl) (fun K hK => ?_) ?_
  · go_simp
    refine hK.out _ _ (hHeld.setCell (p := ⟨b, 6, none⟩) rfl _) (fun hHeld => ?_)
    clear hK K
    try simp only [Act.put, List.setIfInBounds_toArray, List.set_cons_zero, List.set_cons_succ]
    refine wpAnyH_take (i := 7) (oi := _) (v := ?_) (by rw [List.getElem?_toArray]; exact rfl) (by kernel_rfl) (by kernel_rfl) (by kernel_rfl) (by exact fun _ _ _ h => h) (Or.inl ⟨by rfl, ?_⟩) hHeld ?_
    rotate_left
    · (intro wX hSw; have q0 := (hSw.cell (p := ⟨w.heap.size + 1, 0, none⟩) hl1 hb1).trans v0; have q1 := (hSw.cell (p := ⟨w.heap.size + 1, 1, none⟩) hl1 hb1).trans v1; clear hSw; go_simp; try with_reducible rfl)
    try simp only [Act.put, List.setIfInBounds_toArray, List.set_cons_zero, List.set_cons_succ]
    refine wpAnyH_take (i := 8) (oi := _) (v := ?_) (by rw [List.getElem?_toArray]; exact rfl) (by kernel_rfl) (by kernel_rfl) (by kernel_rfl) (by exact fun _ _ _ h => h) (Or.inl ⟨by rfl, ?_⟩) hHeld ?_
    rotate_left
    · (intro wX hSw; have q0 := (hSw.cell (p := ⟨w.heap.size + 1, 0, none⟩) hl1 hb1).trans v0; have q1 := (hSw.cell (p := ⟨w.heap.size + 1, 1, none⟩) hl1 hb1).trans v1; clear hSw; go_simp; try with_reducible rfl)
    try simp only [Act.put, List.setIfInBounds_toArray, List.set_cons_zero, List.set_cons_succ]
    refine wpAnyH_take (i := 9) (oi := _) (v := ?_) (by rw [List.getElem?_toArray]; exact rfl) (by kernel_rfl) (by kernel_rfl) (by kernel_rfl) (by exact fun _ _ _ h => h) (Or.inl ⟨by rfl, ?_⟩) hHeld ?_
    rotate_left
    · (intro wX hSw; have q0 := (hSw.cell (p := ⟨w.heap.size + 1, 0, none⟩) hl1 hb1).trans v0; have q1 := (hSw.cell (p := ⟨w.heap.size + 1, 1, none⟩) hl1 hb1).trans v1; clear hSw; go_simp; try with_reducible rfl)
    try simp only [Act.put, List.setIfInBounds_toArray, List.set_cons_zero, List.set_cons_succ]
    refine wpAnyH_ready (rs := [10]) (by kernel_rfl) (by simp) ?_
    refine AllReadyH.cons (o := _) (by rw [List.getElem?_toArray]; exact rfl) (fun K hK => ?_) ?_
    · go_simp
      refine hK.out _ _ ((hHeld.setCell (p := ⟨b, 8, none⟩) rfl _).setCell (p := ⟨b, 9, none⟩) rfl _) (fun hHeld => ?_)
      clear hK K
      try simp only [Act.put, List.setIfInBounds_toArray, List.set_cons_zero, List.set_cons_succ]
      refine wpAnyH_done (by kernel_rfl) ?_ _
      have hrow3 : ((((w2.setCell ⟨b, 6, none⟩ (.int .u8 6)).setCell ⟨b, 8, none⟩ (.int .i64 val)).setCell ⟨b, 9, none⟩ (.int .i64 err)).drew).heap[b]? = some (rowO n (overR1 r val err)) := by
        have e1 := row_set hrow 6
        unfold rowO at e1 ⊢
        have e2 := Go.heap_setCell_same _ b 8 _ _ (.int .i64 val) e1
        have e3 := Go.heap_setCell_same _ b 9 _ _ (.int .i64 err) e2
        exact e3
      have HT3 := Lib.hid (HH.out.set (r' := overR1 r val err) HG.out hHeld hrow3 ⟨rfl, rfl, rfl⟩)
      have hr3 := (hHeld.block (w.heap.size + 2) (Array.getElem?_eq_some_iff.1 HRES.out).1 hb2).trans HRES.out
      have HF3 := Lib.hid (((Fr.of_below HA.out).trans hHeld).mono (T := InRows T) (fun i hi => inRows HG.out hi))
      have k10 : ((((w2.setCell ⟨b, 6, none⟩ (.int .u8 6)).setCell ⟨b, 8, none⟩ (.int .i64 val)).setCell ⟨b, 9, none⟩ (.int .i64 err)).drew).cell? ⟨b, 10, none⟩ = some (.bool r.fk) := row_cells hrow3 10
      have HRW3 := Lib.hid hrow3
      have HR3 := Lib.hid hr3
      have hs2 : w.heap.size ≤ w2.heap.size := HA.out.size
      clear hHeld hrow3 hr3 HH HA HRES HV1 hrow hbl hl1 v0 v1 k6 k8 k9 z6 z8 z9
      generalize (((w2.setCell ⟨b, 6, none⟩ (.int .u8 6)).setCell ⟨b, 8, none⟩ (.int .i64 val)).setCell ⟨b, 9, none⟩ (.int .i64 err)).drew = w3 at *
      cases hfk : r.fk with
      | false =>
        have hu : Hid (overU (updT T n (overR1 r val err)) n r = (false, updT T n (overR1 r val err))) := by show _ = _; unfold overU; rw [hfk]; rfl
        rw [hfk] at k10
        have y0 : w3.cell? ⟨w.heap.size + 2, 0, none⟩ = some (.int .u64 0) := by simp [World.cell?, HR3.out]
        have y1 : w3.cell? ⟨w.heap.size + 2, 1, none⟩ = some (.string ⟨#[]⟩) := by simp [World.cell?, HR3.out]
        have q0 : w3.frozen? ⟨w.heap.size + 2, 0, none⟩ = false := by simp [World.frozen?, HR3.out]
        have q1 : w3.frozen? ⟨w.heap.size + 2, 1, none⟩ = false := by simp [World.frozen?, HR3.out]
        clear hfk
        go_wp2_with fail
        refine over_end (set2 HR3.out _ _) rfl rfl rfl ⟨by rw [hu.out]; rfl, by rw [hu.out]; exact HT3.out.other2 HR3.out _ _ (by decide) (by decide) (by decide), (HF3.out.setNew (p := ⟨w.heap.size + 2, 0, none⟩) (by show w.heap.size ≤ w.heap.size + 2; omega) _).setNew (p := ⟨w.heap.size + 2, 1, none⟩) (by show w.heap.size ≤ w.heap.size + 2; omega) _⟩
      | true =>
        obtain ⟨hne, pb, q, hpg, hq1, hq2⟩ := HFK.out hfk
        have hpg1 : getL (updT T n (overR1 r val err)) (n.1, parS n.2) = some (pb, q) := by rw [getL_upd_ne (fun e => hne (congrArg Prod.snd e))]; exact hpg
        rw [hfk] at k10
        have d1 := HT3.out.c1
        have hlf := HT3.out.lt
        have hlk := fun y (hy : Below w3.heap.size w3 y) => HT3.out.look_at (x := y) (hy.block m hlf.2.1) (n.1, parS n.2)
        unfold ptrT at hlk
        rw [hpg1] at hlk
        simp only [Option.map_some] at hlk
        go_upto_region 7 with fail
        have hb3 : b < w3.heap.size := (Array.getElem?_eq_some_iff.1 HRW3.out).1
        refine wp_region_held_drew (S := fun y => Below w3.heap.size w3 y) (by kernel_rfl) ((Below.refl _ _).drew) (fun hHeld => ?_)
        refine wpAnyH_take (i := 0) (oi := _) (v := ?_) (by rw [List.getElem?_toArray]; exact rfl) (by kernel_rfl) (by kernel_rfl) (by kernel_rfl) (by exact fun _ _ _ h => h) (Or.inl ⟨by rfl, ?_⟩) hHeld ?_
        rotate_left
        · (intro wX hSw; have q1 := cell_low hSw hlf.1 d1; have q4 := hlk _ hSw; clear hSw; go_simp; try with_reducible rfl)
        try simp only [Act.put, List.setIfInBounds_toArray, List.set_cons_zero, List.set_cons_succ]
        refine wpAnyH_take (i := 1) (oi := _) (v := ?_) (by rw [List.getElem?_toArray]; exact rfl) (by kernel_rfl) (by kernel_rfl) (by kernel_rfl) (by exact fun _ _ _ h => h) (Or.inl ⟨by rfl, ?_⟩) hHeld ?_
        rotate_left
        · (intro wX hSw; have q1 := cell_low hSw hlf.1 d1; have q4 := hlk _ hSw; clear hSw; go_simp; try with_reducible rfl)
        try simp only [Act.put, List.setIfInBounds_toArray, List.set_cons_zero, List.set_cons_succ]
        refine wpAnyH_take (i := 2) (oi := _) (v := ?_) (by rw [List.getElem?_toArray]; exact rfl) (by kernel_rfl) (by kernel_rfl) (by kernel_rfl) (by exact fun _ _ _ h => h) (Or.inl ⟨by rfl, ?_⟩) hHeld ?_
        rotate_left
        · (intro wX hSw; have q1 := cell_low hSw hlf.1 d1; have q4 := hlk _ hSw; clear hSw; go_simp; try with_reducible rfl)
        try simp only [Act.put, List.setIfInBounds_toArray, List.set_cons_zero, List.set_cons_succ]
        refine wpAnyH_take (i := 3) (oi := _) (v := ?_) (by rw [List.getElem?_toArray]; exact rfl) (by kernel_rfl) (by kernel_rfl) (by kernel_rfl) (by exact fun _ _ _ h => h) (Or.inl ⟨by rfl, ?_⟩) hHeld ?_
        rotate_left
        · (intro wX hSw; have q1 := cell_low hSw hlf.1 d1; have q4 := hlk _ hSw; clear hSw; go_simp; try with_reducible rfl)
        try simp only [Act.put, List.setIfInBounds_toArray, List.set_cons_zero, List.set_cons_succ]
        refine wpAnyH_take (i := 4) (oi := _) (v := ?_) (by rw [List.getElem?_toArray]; exact rfl) (by kernel_rfl) (by kernel_rfl) (by kernel_rfl) (by exact fun _ _ _ h => h) (Or.inl ⟨by rfl, ?_⟩) hHeld ?_
        rotate_left
        · (intro wX hSw; have q1 := cell_low hSw hlf.1 d1; have q4 := hlk _ hSw; clear hSw; go_simp; try with_reducible rfl)
        try simp only [Act.put, List.setIfInBounds_toArray, List.set_cons_zero, List.set_cons_succ]
        refine wpAnyH_ready (rs := [5]) (by kernel_rfl) (by simp) ?_
        refine AllReadyH.cons (o := _) (by rw [List.getElem?_toArray]; exact rfl) (fun K hK => ?_) ?_
        · go_simp
          refine (rparent b n (overR1 r val err) _ ((hHeld.block b hb3).trans HRW3.out) hs).mono ?_; rintro e wc ⟨rfl, hB⟩
          go_wp2_with fail
          refine hK.out _ _ (hHeld.trans (hB.mono hHeld.size)) (fun hHeld => ?_)
          clear hK K
          try simp only [Act.put, List.setIfInBounds_toArray, List.set_cons_zero, List.set_cons_succ]
          refine wpAnyH_take (i := 6) (oi := _) (v := ?_) (by rw [List.getElem?_toArray]; exact rfl) (by kernel_rfl) (by kernel_rfl) (by kernel_rfl) (by exact fun _ _ _ h => h) (Or.inl ⟨by rfl, ?_⟩) hHeld ?_
          rotate_left
          · (intro wX hSw; have q1 := cell_low hSw hlf.1 d1; have q4 := hlk _ hSw; clear hSw; go_simp; try with_reducible rfl)
          try simp only [Act.put, List.setIfInBounds_toArray, List.set_cons_zero, List.set_cons_succ]
          refine wpAnyH_take (i := 7) (oi := _) (v := ?_) (by rw [List.getElem?_toArray]; exact rfl) (by kernel_rfl) (by kernel_rfl) (by kernel_rfl) (by exact fun _ _ _ h => h) (Or.inl ⟨by rfl, ?_⟩) hHeld ?_
          rotate_left
          · (intro wX hSw; have q1 := cell_low hSw hlf.1 d1; have q4 := hlk _ hSw; clear hSw; go_simp; try with_reducible rfl)
          try simp only [Act.put, List.setIfInBounds_toArray, List.set_cons_zero, List.set_cons_succ]
          refine wpAnyH_done (by kernel_rfl) ?_ _
          have HT5 := Lib.hid (HT3.out.below hHeld)
          have hrow5 := (HT5.out.at hpg1).1
          have HR5 := Lib.hid ((hHeld.block _ (Array.getElem?_eq_some_iff.1 HR3.out).1).trans HR3.out)
          have HF5 := Lib.hid (HF3.out.then hHeld)
          clear hHeld HT3 HR3 HF3 HRW3 hlk d1 k10 hb3
          generalize hw5 : wc = w5 at *
          clear hw5
          have hpr : pb ≠ w.heap.size + 2 := fun e => by
            have h1 := hrow5
            rw [e, HR5.out] at h1
            unfold rowO at h1
            injection h1 with h1; injection h1 with _ h1 _; cases h1
          have k7 : w5.cell? ⟨pb, 7, none⟩ = some (.int .i64 q.op) := row_cells hrow5 7
          have z7 : w5.frozen? ⟨pb, 7, none⟩ = false := row_open hrow5 7
          have k6 : w5.cell? ⟨pb, 6, none⟩ = some (.int .u8 q.st) := row_cells hrow5 6
          have z6 : w5.frozen? ⟨pb, 6, none⟩ = false := row_open hrow5 6
          have k0 : w5.cell? ⟨pb, 0, none⟩ = some (.int .u64 n.1) := row_cells hrow5 0
          have k1 : w5.cell? ⟨pb, 1, none⟩ = some (.string (parS n.2)) := row_cells hrow5 1
          have hrow6 := row_open7 hrow5 (q.op - 1)
          have HT6 := Lib.hid (HT5.out.set (r' := { q with op := q.op - 1 }) hpg1 (fr_set w5 pb 7 (.int .i64 (q.op - 1))) hrow6 ⟨rfl, rfl, rfl⟩)
          have HPM := Lib.hid hpg
          have HF6 := Lib.hid (HF5.out.trans ((fr_set w5 pb 7 (.int .i64 (q.op - 1))).mono (T := InRows T) (fun i hi => inRows HPM.out hi)))
          have HR6 := Lib.hid ((Go.heap_setCell_other w5 ⟨pb, 7, none⟩ (w.heap.size + 2) (.int .i64 (q.op - 1)) (fun e => hpr e.symm)).trans HR5.out)
          have HG6 := Lib.hid (getL_upd (r' := { q with op := q.op - 1 }) hpg1)
          have HROW6 := Lib.hid hrow6
          have hu : Hid (overU (updT T n (overR1 r val err)) n r = if 0 < q.op - 1 ∨ q.st ≠ 3 then (false, updT (updT T n (overR1 r val err)) (n.1, parS n.2) { q with op := q.op - 1 }) else (true, updT (updT (updT T n (overR1 r val err)) (n.1, parS n.2) { q with op := q.op - 1 }) (n.1, parS n.2) { q with op := q.op - 1, st := 4 })) := by show _ = _; unfold overU; rw [hfk, hpg1]; rfl
          have y0 : w5.cell? ⟨w.heap.size + 2, 0, none⟩ = some (.int .u64 0) := by simp [World.cell?, HR5.out]
          have y1 : w5.cell? ⟨w.heap.size + 2, 1, none⟩ = some (.string ⟨#[]⟩) := by simp [World.cell?, HR5.out]
          have q0 : w5.frozen? ⟨w.heap.size + 2, 0, none⟩ = false := by simp [World.frozen?, HR5.out]
          have q1 : w5.frozen? ⟨w.heap.size + 2, 1, none⟩ = false := by simp [World.frozen?, HR5.out]
          clear hfk hpg hpg1 hrow5 hrow6 HT5 HF5 HR5
          obtain ⟨ov, hov⟩ : ∃ ov, q.op = ov := ⟨_, rfl⟩
          obtain ⟨sv, hsv⟩ : ∃ sv, q.st = sv := ⟨_, rfl⟩
          rw [hov] at k7 hq1 hq2
          rw [hsv] at k6
          have HOV := Lib.hid hov
          have HSV := Lib.hid hsv
          clear hov hsv
          have hq6 : (w5.setCell ⟨pb, 7, none⟩ (.int .i64 (q.op - 1))).frozen? ⟨pb, 6, none⟩ = false := row_open HROW6.out 6
          by_cases hop1 : 0 < ov - 1
          · have hv := Lib.hid (hu.out.trans (if_pos (.inl (by rw [HOV.out]; exact hop1))))
            go_wp2_with fail
            obtain rfl : ov = q.op := HOV.out.symm
            refine over_end (set2 HR6.out _ _) rfl rfl rfl ⟨by rw [hv.out]; rfl, by rw [hv.out]; exact HT6.out.other2 HR6.out _ _ (by decide) (by decide) (by decide), (HF6.out.setNew (p := ⟨w.heap.size + 2, 0, none⟩) (by show w.heap.size ≤ w.heap.size + 2; omega) _).setNew (p := ⟨w.heap.size + 2, 1, none⟩) (by show w.heap.size ≤ w.heap.size + 2; omega) _⟩
          · by_cases hst3 : sv = 3
            · have hv := Lib.hid (hu.out.trans (if_neg (by rw [HOV.out, HSV.out]; intro h; rcases h with h | h; exact hop1 h; exact h hst3)))
              subst hst3
              have HT7 := Lib.hid (HT6.out.set (r' := { q with op := q.op - 1, st := 4 }) HG6.out (fr_set _ pb 6 (.int .u8 4)) (row_set HROW6.out 4) ⟨rfl, rfl, rfl⟩)
              have HF7 := Lib.hid (HF6.out.trans ((fr_set (w5.setCell ⟨pb, 7, none⟩ (.int .i64 (q.op - 1))) pb 6 (.int .u8 4)).mono (T := InRows T) (fun i hi => inRows HPM.out hi)))
              have HR7 := Lib.hid ((Go.heap_setCell_other (w5.setCell ⟨pb, 7, none⟩ (.int .i64 (q.op - 1))) ⟨pb, 6, none⟩ (w.heap.size + 2) (.int .u8 4) (fun e => hpr e.symm)).trans HR6.out)
              have hv2 : Hid (updT (updT (updT T n (overR1 r val err)) (n.1, parS n.2) { q with op := q.op - 1 }) (n.1, parS n.2) { q with op := q.op - 1, st := 4 } = updT (updT (updT T n (overR1 r val err)) (n.1, parS n.2) { q with op := q.op - 1 }) (n.1, parS n.2) { q with op := q.op - 1, st := 4 }) := rfl
              clear hq6
              go_wp2_with fail
              obtain rfl : ov = q.op := HOV.out.symm
              refine over_end (set2 HR7.out _ _) rfl rfl rfl ⟨by rw [hv.out]; rfl, by rw [hv.out]; exact HT7.out.other2 HR7.out _ _ (by decide) (by decide) (by decide), (HF7.out.setNew (p := ⟨w.heap.size + 2, 0, none⟩) (by show w.heap.size ≤ w.heap.size + 2; omega) _).setNew (p := ⟨w.heap.size + 2, 1, none⟩) (by show w.heap.size ≤ w.heap.size + 2; omega) _⟩
            · have hv := Lib.hid (hu.out.trans (if_pos (.inr (by rw [HSV.out]; exact hst3))))
              have hb3 : (sv != 3) = true := by simpa using hst3
              go_wp2_with fail
              obtain rfl : ov = q.op := HOV.out.symm
              refine over_end (set2 HR6.out _ _) rfl rfl rfl ⟨by rw [hv.out]; rfl, by rw [hv.out]; exact HT6.out.other2 HR6.out _ _ (by decide) (by decide) (by decide), (HF6.out.setNew (p := ⟨w.heap.size + 2, 0, none⟩) (by show w.heap.size ≤ w.heap.size + 2; omega) _).setNew (p := ⟨w.heap.size + 2, 1, none⟩) (by show w.heap.size ≤ w.heap.size + 2; omega) _⟩
        exact AllReadyH.nil
    exact AllReadyH.nil
  exact AllReadyH.nil
end Go.Proofs.Ythbkbmkcgpdedaa
