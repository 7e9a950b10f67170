/- Leave; Back. -/
import Derived.Test.YthbkbmkcgpdedaaJoin8
namespace Go.Proofs.Ythbkbmkcgpdedaa
open Go.RowKit Go.Sort Go.Lib

theorem leave_end2 {wz : World} {tmps : Array Value} {p : ByteArray} {fn fuel c : Int} {v : Value} {r : Nat} {T : TypeId} {R : Ending → World → Prop}
    (hr : wz.heap[r]? = some (.cells #[.string p, .int .i64 fn, v, .int .i64 fuel] T (0, 0))) (h4 : tmps.getD 4 undef = .pointer (some ⟨r, 0, none⟩)) (h5 : tmps.getD 5 undef = .int .i64 c) (hR : R (.returned (.tuple #[.agg #[.string p, .int .i64 fn, v, .int .i64 fuel], .int .i64 c])) wz) :
    bodyPost Try.prog Try.f19 R Exit.ret { tmps := tmps, defers := [] } wz := by
  have c0 : wz.cell? ⟨r, 0, none⟩ = some (.string p) := by simp [World.cell?, hr]
  have c1 : wz.cell? ⟨r, 1, none⟩ = some (.int .i64 fn) := by simp [World.cell?, hr]
  have c2 : wz.cell? ⟨r, 2, none⟩ = some v := by simp [World.cell?, hr]
  have c3 : wz.cell? ⟨r, 3, none⟩ = some (.int .i64 fuel) := by simp [World.cell?, hr]
  refine bodyPost_ret (v := .tuple #[.agg #[.string p, .int .i64 fn, v, .int .i64 fuel], .int .i64 c]) ?_ rfl hR
  have h4' : tmps[4]?.getD undef = .pointer (some ⟨r, 0, none⟩) := by simpa using h4
  have h5' : tmps[5]?.getD undef = .int .i64 c := by simpa using h5
  simp [results, Try.results19, go_sem, h4', h5', c0, c1, c2, c3]
/-- How Leave ends. -/
def LeaveR (f m : Nat) (most : Int) (T : Tb) (n : Nm) (w : World) (e : Ending) (w' : World) : Prop :=
  ((ofV T n [1]).2 ≠ 0 ∧ e = .returned (.tuple #[.agg #[.string ⟨#[]⟩, .int .i64 0, .slice none 0 0, .int .i64 0], .int .i64 (ofV T n [1]).2]) ∧ Tab w' f m most T ∧ Below w.heap.size w w') ∨
  ∃ b r aa ac, getL T n = some (b, r) ∧ r.st ∈ [(1 : Int)] ∧ e = .returned (.tuple #[.agg #[.string n.2, .int .i64 r.fn, .slice aa r.args.length ac, .int .i64 r.fuel], .int .i64 0]) ∧
    w'.ownsRow w.heap.size 2 1 (.slice aa r.args.length ac) r.args.length (r.args.flatMap encI) ∧ Tab w' f m most (updT T n { r with st := 5 }) ∧ Fr (fun i => i = b) w w'
set_option maxHeartbeats 1600000 in
set_option maxRecDepth 100000 in
theorem leave_tab (f m : Nat) (most : Int) (T : Tb) (n : Nm) (w : World) (h : Tab w f m most T) (hargs : ∀ p ∈ T, p.2.2.args.length ≤ 1000000) :
    Calls Try.prog 19 #[.pointer (some ⟨f, 0, none⟩), .agg #[.int .u64 n.1, .string n.2]] w (LeaveR f m most T n w) := by
  have hA1 : Below w.heap.size w ((w.alloc (.cells #[.int .u64 n.1, .string n.2] 35)).alloc (.cells #[.string ⟨#[]⟩, .int .i64 0, .slice none 0 0, .int .i64 0] 38)) := ((Below.refl _ _).alloc (Nat.le_refl _) _).alloc (by simp) _
  have hres := heap_alloc_new (w.alloc (.cells #[.int .u64 n.1, .string n.2] 35)) (.cells #[.string ⟨#[]⟩, .int .i64 0, .slice none 0 0, .int .i64 0] 38)
  rw [show (w.alloc (.cells #[.int .u64 n.1, .string n.2] 35)).heap.size = w.heap.size + 1 by simp] at hres
  have n1 : ((w.alloc (.cells #[.int .u64 n.1, .string n.2] 35)).alloc (.cells #[.string ⟨#[]⟩, .int .i64 0, .slice none 0 0, .int .i64 0] 38)).cell? ⟨w.heap.size, 0, none⟩ = some (.int .u64 n.1) := by simp
  have n2 : ((w.alloc (.cells #[.int .u64 n.1, .string n.2] 35)).alloc (.cells #[.string ⟨#[]⟩, .int .i64 0, .slice none 0 0, .int .i64 0] 38)).cell? ⟨w.heap.size, 1, none⟩ = some (.string n.2) := by simp
  have HH := Lib.hid (h.below hA1)
  have HA := Lib.hid hA1
  have HRES := Lib.hid hres
  have HAR := Lib.hid hargs
  clear h hA1 hres hargs
  go_enter Try.func19, Try.ntmps19
  generalize hwa : (w.alloc (.cells #[.int .u64 n.1, .string n.2] 35)).alloc (.cells #[.string ⟨#[]⟩, .int .i64 0, .slice none 0 0, .int .i64 0] 38) = wa at *
  go_upto_region 1 with fail
  have HSZ : Hid (wa.heap.size = w.heap.size + 2) := by show _ = _; rw [← hwa]; simp
  clear hwa
  have hB1 : Below wa.heap.size wa (wa.alloc (.cells #[.int .u8 1] 5)) := (Below.refl _ _).alloc (Nat.le_refl _) _
  go_wp2_with fail
  refine (of_tab f m most T n [1] _ _ (HH.out.below hB1) (reads_one wa 1 5) (by decide)).mono ?_
  rintro e w2 ⟨rfl, hB⟩
  have hBB := gthen hB1 hB
  have HH2 := Lib.hid (HH.out.below hBB)
  have HA2 := Lib.hid (gthen HA.out hBB)
  have hr2 := (hBB.block (w.heap.size + 1) (by have := HSZ.out; omega)).trans HRES.out
  have hc2 : ∀ o, w2.cell? ⟨w.heap.size + 1, o, none⟩ = #[Value.string ⟨#[]⟩, .int .i64 0, .slice none 0 0, .int .i64 0][o]? := fun o => by simp [World.cell?, hr2]
  have hz2 : ∀ o, w2.frozen? ⟨w.heap.size + 1, o, none⟩ = false := fun o => by simp [World.frozen?, hr2]
  have HR2 := Lib.hid hr2
  have hs2 := hBB.size
  clear HH HA HRES hB hB1 hBB hr2 n1 n2
  rcases ofV_cases T n [1] with ⟨h1, h2⟩ | ⟨b, r, hg, hs, ho⟩
  · have H1 := Lib.hid h1
    have y0 := hc2 0; have y1 := hc2 1; have y2 := hc2 2; have y3 := hc2 3
    have q0 := hz2 0; have q1 := hz2 1; have q2 := hz2 2; have q3 := hz2 3
    simp only [List.getElem?_toArray, List.getElem?_cons_zero, List.getElem?_cons_succ] at y0 y1 y2 y3
    rw [h2]
    clear h2 hc2 hz2
    generalize hcc : (ofV T n [1]).2 = c at *
    have HCC := Lib.hid hcc
    clear hcc
    go_wp2_with fail
    have hx := set4 HR2.out (.string ⟨#[]⟩) (.int .i64 0) (.slice none 0 0) (.int .i64 0)
    have hB9 := set4_below HA2.out (r := w.heap.size + 1) (Nat.le_succ _) (.string ⟨#[]⟩) (.int .i64 0) (.slice none 0 0) (.int .i64 0)
    have hnr : ∀ p ∈ T, p.2.1 ≠ w.heap.size + 1 := fun p hp e => by
      have h1 := (HH2.out.row p hp).1
      rw [e, HR2.out] at h1
      unfold rowO at h1
      injection h1 with h1; injection h1 with _ h1 _; cases h1
    have hT9 := HH2.out.other4 (r := w.heap.size + 1) HR2.out (.string ⟨#[]⟩) (.int .i64 0) (.slice none 0 0) (.int .i64 0) (by decide) (by decide) (by decide)
    refine leave_end2 hx rfl rfl (.inl ⟨by rw [HCC.out]; exact H1.out, by rw [HCC.out], hT9, hB9⟩)
  · have hrow := HH2.out.at hg
    have hbl := (Array.getElem?_eq_some_iff.1 hrow.1).1
    have hbr : b ≠ w.heap.size + 1 := fun e => by
      have h1 := hrow.1
      rw [e, HR2.out] at h1
      unfold rowO at h1
      injection h1 with h1; injection h1 with _ h1 _; cases h1
    have z6 : w2.frozen? ⟨b, 6, none⟩ = false := row_open hrow.1 6
    have k6 : w2.cell? ⟨b, 6, none⟩ = some (.int .u8 r.st) := row_cells hrow.1 6
    have HT3 := Lib.hid (HH2.out.set (r' := { r with st := 5 }) hg (fr_set w2 b 6 (.int .u8 5)) (row_set hrow.1 5) ⟨rfl, rfl, rfl⟩)
    have hr3 := (Go.heap_setCell_other w2 ⟨b, 6, none⟩ (w.heap.size + 1) (.int .u8 5) (fun e => hbr e.symm)).trans HR2.out
    have hrow3 := row_set hrow.1 5
    have k2 : (w2.setCell ⟨b, 6, none⟩ (.int .u8 5)).cell? ⟨b, 2, none⟩ = some (.string n.2) := row_cells hrow3 2
    have k3 : (w2.setCell ⟨b, 6, none⟩ (.int .u8 5)).cell? ⟨b, 3, none⟩ = some (.int .i64 r.fn) := row_cells hrow3 3
    have k4 : (w2.setCell ⟨b, 6, none⟩ (.int .u8 5)).cell? ⟨b, 4, none⟩ = some (.slice r.aa r.args.length r.ac) := row_cells hrow3 4
    have k5 : (w2.setCell ⟨b, 6, none⟩ (.int .u8 5)).cell? ⟨b, 5, none⟩ = some (.int .i64 r.fuel) := row_cells hrow3 5
    have HRD := Lib.hid (args_reads ((HT3.out.row (n, b, { r with st := 5 }) (upd_mem HH2.out.keys hg)).2))
    have HF3 := Lib.hid ((Fr.of_below (S := fun i => i = b) HA2.out).trans (fr_set w2 b 6 (.int .u8 5)))
    have HR3 := Lib.hid hr3
    have HG := Lib.hid hg
    have HS := Lib.hid hs
    have hal := HAR.out _ (getL_mem' hg)
    rw [ho]
    clear hc2 hz2 hg hs ho hrow hr3 hrow3
    generalize hw3 : w2.setCell ⟨b, 6, none⟩ (.int .u8 5) = w3 at *
    have hlt3 := (Array.getElem?_eq_some_iff.1 HR3.out).1
    go_wp2_with fail
    clear hw3
    refine (own_any n.2 r.fn r.fuel _ r.args w3 HRD.out hal).mono ?_
    rintro e w4 ⟨aa, ac, rfl, ho, hB⟩
    have HT4 := Lib.hid (HT3.out.below hB)
    have hr4 := (hB.block _ hlt3).trans HR3.out
    have HF4 := Lib.hid (HF3.out.then hB)
    have HO4 := Lib.hid ho
    have HR4 := Lib.hid hr4
    have hs4 := HF4.out.size
    have hs34 : w.heap.size ≤ w3.heap.size := HF3.out.size
    have hc2 : ∀ o, w4.cell? ⟨w.heap.size + 1, o, none⟩ = #[Value.string ⟨#[]⟩, .int .i64 0, .slice none 0 0, .int .i64 0][o]? := fun o => by simp [World.cell?, hr4]
    have hz2 : ∀ o, w4.frozen? ⟨w.heap.size + 1, o, none⟩ = false := fun o => by simp [World.frozen?, hr4]
    have y0 := hc2 0; have y1 := hc2 1; have y2 := hc2 2; have y3 := hc2 3
    have q0 := hz2 0; have q1 := hz2 1; have q2 := hz2 2; have q3 := hz2 3
    simp only [List.getElem?_toArray, List.getElem?_cons_zero, List.getElem?_cons_succ] at y0 y1 y2 y3
    clear hc2 hz2 hr4 ho hB HT3 HF3 HR3 k2 k3 k4 k5 HRD k6 z6
    go_wp2_with fail
    have hx := set4 HR4.out (.string n.2) (.int .i64 r.fn) (.slice aa r.args.length ac) (.int .i64 r.fuel)
    have hT9 := HT4.out.other4 (r := w.heap.size + 1) HR4.out (.string n.2) (.int .i64 r.fn) (.slice aa r.args.length ac) (.int .i64 r.fuel) (by decide) (by decide) (by decide)
    have hF9 := (((HF4.out.setNew (p := ⟨w.heap.size + 1, 0, none⟩) (Nat.le_succ _) (.string n.2)).setNew (p := ⟨w.heap.size + 1, 1, none⟩) (Nat.le_succ _) (.int .i64 r.fn)).setNew (p := ⟨w.heap.size + 1, 2, none⟩) (Nat.le_succ _) (.slice aa r.args.length ac)).setNew (p := ⟨w.heap.size + 1, 3, none⟩) (Nat.le_succ _) (.int .i64 r.fuel)
    have hO9 := own_sets (own_sets (own_sets (own_sets HO4.out (r := w.heap.size + 1) (a := ⟨w.heap.size + 1, 0, none⟩) hlt3 rfl (.string n.2)) (r := w.heap.size + 1) (a := ⟨w.heap.size + 1, 1, none⟩) hlt3 rfl (.int .i64 r.fn)) (r := w.heap.size + 1) (a := ⟨w.heap.size + 1, 2, none⟩) hlt3 rfl (.slice aa r.args.length ac)) (r := w.heap.size + 1) (a := ⟨w.heap.size + 1, 3, none⟩) hlt3 rfl (.int .i64 r.fuel)
    exact leave_end2 hx rfl rfl (.inr ⟨b, r, aa, ac, HG.out, HS.out, rfl, owns_base hO9 hs34, hT9, hF9⟩)

def backE (T : Tb) (n : Nm) : Int := (ofV T n [5]).2
def backT (T : Tb) (n : Nm) : Tb := match getL T n with
  | none => T
  | some (_, r) => if r.st ∈ [(5 : Int)] then updT T n { r with st := 1 } else T
set_option maxHeartbeats 1600000 in
set_option maxRecDepth 100000 in
theorem back_tab (f m : Nat) (most : Int) (T : Tb) (n : Nm) (w : World) (h : Tab w f m most T) :
    Calls Try.prog 21 #[.pointer (some ⟨f, 0, none⟩), .agg #[.int .u64 n.1, .string n.2]] w fun e w' => e = .returned (.int .i64 (backE T n)) ∧ Tab w' f m most (backT T n) ∧ Fr (InRows T) w w' := by
  have hA : Below w.heap.size w ((w.alloc (.cells #[.int .u64 n.1, .string n.2] 35)).alloc (.cells #[.int .u8 5] 5)) := ((Below.refl _ _).alloc (Nat.le_refl _) _).alloc (by simp) _
  have h1 := h.below hA
  have HR := Lib.hid (reads_one (w.alloc (.cells #[.int .u64 n.1, .string n.2] 35)) 5 5)
  have HH := Lib.hid h1
  have HA := Lib.hid hA
  clear h h1 hA
  go_enter Try.func21, Try.ntmps21
  go_wp2_with fail
  refine (of_tab f m most T n [5] _ _ HH.out (by have := HR.out; simpa using this) (by decide)).mono ?_
  rintro e w2 ⟨rfl, hB⟩
  have HH2 := Lib.hid (HH.out.below hB)
  have HA2 := Lib.hid (gthen HA.out hB)
  clear HH HA HR hB
  rcases ofV_cases T n [5] with ⟨h1, h2⟩ | ⟨b, r, hg, hs, ho⟩
  · have hv : Hid (backT T n = T) := by
      show _ = _
      unfold backT ofV at *
      cases hg : getL T n with
      | none => rfl
      | some br =>
        obtain ⟨b, r⟩ := br
        rw [hg] at h1
        by_cases hs : r.st ∈ [(5 : Int)]
        · simp [hs] at h1
        · simp [hs]
    have HE : Hid (backE T n = (ofV T n [5]).2) := rfl
    generalize (ofV T n [5]).2 = c at *
    have hb : (c == 0) = false := by simp [h1]
    rw [h2]
    clear h2
    go_wp2_with fail
    go_ret
    exact ⟨ret_intE HE.out.symm, by rw [hv.out]; exact HH2.out, .of_below HA2.out⟩
  · have HE : Hid (backE T n = 0) := by show _ = _; unfold backE; rw [ho]
    rw [ho]
    have hrow := HH2.out.at hg
    have z6 : w2.frozen? ⟨b, 6, none⟩ = false := row_open hrow.1 6
    have k6 : w2.cell? ⟨b, 6, none⟩ = some (.int .u8 r.st) := row_cells hrow.1 6
    have hv : Hid (backT T n = updT T n { r with st := 1 }) := by show _ = _; unfold backT; rw [hg]; simp only []; rw [if_pos hs]
    have HT := Lib.hid (HH2.out.set (r' := { r with st := 1 }) hg (fr_set w2 b 6 (.int .u8 1)) (row_set hrow.1 1) ⟨rfl, rfl, rfl⟩)
    have HF : Hid (Fr (InRows T) w (w2.setCell ⟨b, 6, none⟩ (.int .u8 1))) := (Fr.of_below HA2.out).trans ((fr_set w2 b 6 _).mono (fun i hi => ⟨_, getL_mem' hg, hi.symm⟩))
    clear hrow hg hs ho
    go_wp2_with fail
    go_ret
    exact ⟨ret_intE HE.out.symm, by rw [hv.out]; exact HT.out, HF.out⟩
end Go.Proofs.Ythbkbmkcgpdedaa
