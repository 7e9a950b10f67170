/- Contract: thresherref13.Run.Step. -/
import Derived.Test.YtdhbjejejeljoaaEv24
import Derived.BigRegion
namespace Go.Proofs.Ytdhbjejejeljoaa
open Go.RowKit Go.Sort Go.Lib

/-- Where the op at hand lies. -/
theorem op_look {w : World} {pv : Value} {p : List Fnc} {t : Tk} {s : St} (hpr : ProgAt w pv p) (h0 : 0 ≤ t.fn) (h1 : t.fn < p.length) (h2 : 0 ≤ s.pc) (h3 : s.pc < (fnAt p t.fn).ops.length) :
    ∃ (pb poff pcap fq b off n oc q : Nat), pv = .slice (some ⟨pb, poff, none⟩) p.length pcap ∧ t.fn = fq ∧ s.pc = q ∧ fq < p.length ∧ q < n ∧
      ∀ y, ProgAt y pv p → y.cell? ⟨pb, poff + fq * 3 + 2, none⟩ = some (.slice (some ⟨b, off, none⟩) n oc) ∧
        y.cell? ⟨b, off + q * 5, none⟩ = some (.int .u8 (opAt p t s).k) ∧ y.cell? ⟨b, off + q * 5 + 1, none⟩ = some (.int .i64 (opAt p t s).d) ∧ y.cell? ⟨b, off + q * 5 + 2, none⟩ = some (.int .i64 (opAt p t s).a) ∧ y.cell? ⟨b, off + q * 5 + 3, none⟩ = some (.int .i64 (opAt p t s).b) ∧ y.cell? ⟨b, off + q * 5 + 4, none⟩ = some (.int .i64 (opAt p t s).n) := by
  obtain ⟨fq, hfq⟩ : ∃ q : Nat, t.fn = q := ⟨t.fn.toNat, by omega⟩
  obtain ⟨q, hq⟩ : ∃ q : Nat, s.pc = q := ⟨s.pc.toNat, by omega⟩
  have hfl : fq < p.length := by omega
  have hfe : fnAt p t.fn = p[fq] := by
    unfold fnAt
    rw [hfq, List.getD_eq_getElem?_getD, Int.toNat_natCast, List.getElem?_eq_getElem hfl]; rfl
  have hfm : p[fq] ∈ p := List.getElem_mem hfl
  have hql : q < p[fq].ops.length := by rw [hfe] at h3; omega
  have hoe : opAt p t s = p[fq].ops[q] := by
    unfold opAt
    rw [hfe, hq, List.getD_eq_getElem?_getD, Int.toNat_natCast, List.getElem?_eq_getElem hql]; rfl
  obtain ⟨pb, poff, pcap, he, hpb, hpc⟩ := hpr.fns.at (by omega)
  obtain ⟨b, off, oc, he2, hb, hoc⟩ := (hpr.ops _ hfm).1.at (by omega)
  injection he2 with he1 _ he3
  refine ⟨pb, poff, pcap, fq, b, off, p[fq].ops.length, p[fq].oc, q, he, hfq, hq, hfl, hql, fun y hy => ?_⟩
  obtain ⟨pb', poff', pcap', he', _, hpc'⟩ := hy.fns.at (by omega)
  rw [he] at he'
  injection he' with hx _ _
  injection hx with hx
  injection hx with ex1 ex2 _
  subst ex1; subst ex2
  obtain ⟨b', off', oc', he2', _, hoc'⟩ := (hy.ops _ hfm).1.at (by omega)
  injection he2' with hx _ _
  rw [he1] at hx
  injection hx with hx
  injection hx with ey1 ey2 _
  subst ey1; subst ey2
  have c2 := (fn_at hpc' hfl).2.2
  rw [he1] at c2
  rw [hoe]
  exact ⟨c2, op_at hoc' hql⟩
/-- The op is paid for and done, if plain. -/
def stpR (p : List Fnc) (t : Tk) (s : St) : Opr × Int × St :=
  if s.left = 0 then (opAt p t s, 130, s)
  else if plainB (opAt p t s).k = true then (opAt p t s, opR { s with left := s.left - 1 } (opAt p t s))
  else (opAt p t s, 0, { s with left := s.left - 1, pc := s.pc + 1 })
def opV (o : Opr) : Value := .agg #[.int .u8 o.k, .int .i64 o.d, .int .i64 o.a, .int .i64 o.b, .int .i64 o.n]
def StpP (w0 : World) (Z q r : Nat) (pv : Value) (t : Tk) (av : Value) (f : Nat) (iv dv : Value) (I : List Int) (nd : List DnA) (R : Opr × Int × St) (w : World) (e : Ending) (w' : World) : Prop :=
  e = .returned (.tuple #[opV R.1, .int .i64 R.2.1]) ∧ Ru w0 Z q r pv t av f iv dv I nd R.2.2 w' ∧ Fr (fun i => i = q ∨ i = r) w w'
theorem step_end {wz : World} {tmps : Array Value} {o : Opr} {x : Int} {b : Nat} {R : Ending → World → Prop}
    (hb : BoxAt wz b (opC o) OpT) (h2 : tmps.getD 2 undef = .pointer (some ⟨b, 0, none⟩)) (h3 : tmps.getD 3 undef = .int .i64 x) (hR : R (.returned (.tuple #[opV o, .int .i64 x])) wz) :
    bodyPost Try.prog Try.f52 R Exit.ret { tmps := tmps, defers := [] } wz := by
  obtain ⟨k0, k1, k2, k3, k4⟩ := op_cells hb
  refine bodyPost_ret (v := .tuple #[opV o, .int .i64 x]) ?_ rfl hR
  have h2' : tmps[2]?.getD undef = .pointer (some ⟨b, 0, none⟩) := by simpa using h2
  have h3' : tmps[3]?.getD undef = .int .i64 x := by simpa using h3
  simp [results, Try.results52, go_sem, h2', h3', k0, k1, k2, k3, k4, opV]
theorem op_set {w : World} {b : Nat} {z : Opr} (h : BoxAt w b (opC z) OpT) (o : Opr) : BoxAt (((((w.setCell ⟨b, 0, none⟩ (.int .u8 o.k)).setCell ⟨b, 1, none⟩ (.int .i64 o.d)).setCell ⟨b, 2, none⟩ (.int .i64 o.a)).setCell ⟨b, 3, none⟩ (.int .i64 o.b)).setCell ⟨b, 4, none⟩ (.int .i64 o.n)) b (opC o) OpT ∧
    Fr (fun i => i = b) w (((((w.setCell ⟨b, 0, none⟩ (.int .u8 o.k)).setCell ⟨b, 1, none⟩ (.int .i64 o.d)).setCell ⟨b, 2, none⟩ (.int .i64 o.a)).setCell ⟨b, 3, none⟩ (.int .i64 o.b)).setCell ⟨b, 4, none⟩ (.int .i64 o.n)) := by
  have h1 := Go.heap_setCell_same w b 0 _ _ (.int .u8 o.k) h
  have h2 := Go.heap_setCell_same _ b 1 _ _ (.int .i64 o.d) h1
  have h3 := Go.heap_setCell_same _ b 2 _ _ (.int .i64 o.a) h2
  have h4 := Go.heap_setCell_same _ b 3 _ _ (.int .i64 o.b) h3
  exact ⟨Go.heap_setCell_same _ b 4 _ _ (.int .i64 o.n) h4, (((((Fr.refl (fun i => i = b) w).setCell (p := ⟨b, 0, none⟩) rfl _).setCell (p := ⟨b, 1, none⟩) rfl _).setCell (p := ⟨b, 2, none⟩) rfl _).setCell (p := ⟨b, 3, none⟩) rfl _).setCell (p := ⟨b, 4, none⟩) rfl _⟩
set_option maxHeartbeats 6400000 in
set_option maxRecDepth 100000 in
theorem rstep_any {w0 : World} {Z q r : Nat} {pv : Value} {t : Tk} {av : Value} {f : Nat} {iv dv : Value} {I : List Int} {nd : List DnA} {s : St} {w : World} {p : List Fnc}
    (h : Ru w0 Z q r pv t av f iv dv I nd s w) (hpr : ProgAt w pv p) (ht0 : 0 ≤ t.fn) (ht1 : t.fn < p.length) (hrl : (s.regs.length : Int) = (fnAt p t.fn).regs) (hpc0 : 0 ≤ s.pc) (hpc1 : s.pc < (fnAt p t.fn).ops.length) (hpc2 : s.pc ≤ 63) (ho : OpOk p (fnAt p t.fn) (opAt p t s)) (hl0 : 0 ≤ s.left) (hl1 : s.left ≤ 100000) :
    Calls Try.prog 52 #[.pointer (some ⟨q, 0, none⟩)] w (StpP w0 Z q r pv t av f iv dv I nd (stpR p t s) w) := by
  have HP1 := Lib.hid (op_look hpr ht0 ht1 hpc0 hpc1)
  obtain ⟨pb, poff, pcap, fq, b, off, n, oc, k, he, hfq, hpk, hfl, hkn, hat⟩ := op_look hpr ht0 ht1 hpc0 hpc1
  have hA : Below w.heap.size w (w.alloc (.cells (opC ⟨0, 0, 0, 0, 0⟩) OpT)) := (Below.refl _ _).alloc (Nat.le_refl _) _
  have hb : BoxAt (w.alloc (.cells (opC ⟨0, 0, 0, 0, 0⟩) OpT)) w.heap.size (opC ⟨0, 0, 0, 0, 0⟩) OpT := heap_alloc_new _ _
  have H := Lib.hid (h.below hA)
  have HB := Lib.hid hb
  have HFA := Lib.hid (show Fr (fun i => i = q ∨ i = r) w (w.alloc (.cells (opC ⟨0, 0, 0, 0, 0⟩) OpT)) from .of_below hA)
  have HPR := Lib.hid (hpr.below hA)
  have HAT := Lib.hid hat
  have HQL := Lib.hid (show q < w.heap.size ∧ r < w.heap.size ∧ Z ≤ q from ⟨(Array.getElem?_eq_some_iff.1 h.box).1, (Array.getElem?_eq_some_iff.1 h.regs).1, h.zq.1⟩)
  have HO := Lib.hid ho
  have HRL := Lib.hid hrl
  have HPC := Lib.hid (show (0 ≤ s.pc ∧ s.pc ≤ 63) ∧ s.pc = k from ⟨⟨hpc0, hpc2⟩, hpk⟩)
  clear h hA hb hpr ht0 ht1 hrl hpc0 hpc1 ho hat HP1 hpc2
  go_enter Try.func52, Try.ntmps52
  go_upto_region 1 with fail
  simp only [opC] at H HB HFA HPR
  generalize w.alloc (.cells #[.int .u8 0, .int .i64 0, .int .i64 0, .int .i64 0, .int .i64 0] OpT) = w1 at *
  obtain ⟨ob, hob⟩ : ∃ ob, w.heap.size = ob := ⟨_, rfl⟩
  rw [hob] at HB ⊢
  have HOB := Lib.hid hob
  clear hob
  subst he
  obtain ⟨x0, x1, x2, x5, x6, x7, x8, x9, x10, x11⟩ := ru_cells H.out
  rw [hfq] at x2
  rw [hpk] at x6
  obtain ⟨c2, k0, k1, k2, k3, k4⟩ := HAT.out _ HPR.out
  have i1 : (fq : Int) < p.length := by omega
  have i2 : (k : Int) < n := by omega
  have i3 : (0 : Int) ≤ fq := by omega
  have i4 : (0 : Int) ≤ k := by omega
  have hal : ∀ (o : Obj) (a : Addr) (v : Value), w1.cell? a = some v → (w1.alloc o).cell? a = some v := fun o a v h => (((Below.refl w1.heap.size w1).alloc (Nat.le_refl _) o).cell (World.block_lt_of_cell? _ _ h)).trans h
  clear HAT
  have a0 := fun o => hal o _ _ x0
  have a1 := fun o => hal o _ _ x2
  have a2 := fun o => hal o _ _ x6
  have a3 := fun o => hal o _ _ c2
  have a4 := fun o => hal o _ _ k0
  have a5 := fun o => hal o _ _ k1
  have a6 := fun o => hal o _ _ k2
  have a7 := fun o => hal o _ _ k3
  have a8 := fun o => hal o _ _ k4
  obtain ⟨o, hoe⟩ : ∃ o, opAt p t s = o := ⟨_, rfl⟩
  rw [hoe] at k0 k1 k2 k3 k4 a4 a5 a6 a7 a8 HO
  have HOE := Lib.hid hoe
  clear hoe
  clear hal x1 x5 x7 x8 x9 x10 x11
  go_region
  have hB2 : Below w1.heap.size w1 (w1.alloc (.cells (opC o) OpT)).drew := ((Below.refl _ _).alloc (Nat.le_refl _) _).drew
  have hlt := (Array.getElem?_eq_some_iff.1 HB.out).1
  have hqt := (Array.getElem?_eq_some_iff.1 H.out.box).1
  have hrt := (Array.getElem?_eq_some_iff.1 H.out.regs).1
  have H2 := Lib.hid (H.out.below hB2)
  have HO2 := Lib.hid (show BoxAt (w1.alloc (.cells (opC o) OpT)).drew w1.heap.size (opC o) OpT from BoxAt.below (heap_alloc_new w1 _) ((Below.refl _ _).drew))
  have HB2 := Lib.hid (BoxAt.below HB.out hB2)
  have HF2 := Lib.hid (HFA.out.trans (.of_below (S := fun i => i = q ∨ i = r) hB2))
  have HNE := Lib.hid (show ob ≠ w1.heap.size ∧ w1.heap.size ≠ q ∧ w1.heap.size ≠ r ∧ w.heap.size ≤ ob ∧ Z ≤ ob ∧ ob ≠ q ∧ ob ≠ r from ⟨by omega, by omega, by omega, Nat.le_of_eq HOB.out, by have := HQL.out; have := HOB.out; omega, by have := HQL.out; have := HOB.out; omega, by have := HQL.out; have := HOB.out; omega⟩)
  clear HOB HQL
  clear hB2 hlt hqt hrt x0 x2 x6 c2 k0 k1 k2 k3 k4 a0 a1 a2 a3 a4 a5 a6 a7 a8 i1 i2 i3 i4 H HB HFA HPR
  simp only [opC] at H2 HO2 HB2 HF2
  generalize (w1.alloc (.cells #[.int .u8 o.k, .int .i64 o.d, .int .i64 o.a, .int .i64 o.b, .int .i64 o.n] OpT)).drew = w2 at *
  generalize w1.heap.size = tb at *
  clear hpk hfq hfl hkn
  obtain ⟨x0, x1, x2, x5, x6, x7, x8, x9, x10, x11⟩ := ru_cells H2.out
  obtain ⟨k0, k1, k2, k3, k4⟩ := op_cells HO2.out
  have f7 := H2.out.box.frozen 7
  obtain ⟨o0, o1, o2, o3, o4⟩ := op_cells (o := ⟨0, 0, 0, 0, 0⟩) HB2.out
  simp only [] at o0 o1 o2 o3 o4
  have fo0 := HB2.out.frozen 0
  have fo1 := HB2.out.frozen 1
  have fo2 := HB2.out.frozen 2
  have fo3 := HB2.out.frozen 3
  have fo4 := HB2.out.frozen 4
  by_cases h0 : s.left = 0
  · have e0 : (s.left == 0) = true := by simp [h0]
    have HE := Lib.hid h0
    clear h0
    go_wp2_with fail
    obtain ⟨hbo, hF⟩ := op_set (z := ⟨0, 0, 0, 0, 0⟩) HB2.out o
    have hR := H2.out.other hF (typed_box HB2.out) (fun i hi => by have := HNE.out.2.2.2.2.1; omega) (by decide) (by decide) (by decide) (by decide)
    refine step_end hbo rfl rfl ⟨?_, ?_, HF2.out.join hF (fun i hi => .inr (by have := HNE.out.2.2.2.1; omega))⟩
    · unfold stpR
      rw [if_pos HE.out, HOE.out]
    · unfold stpR
      rw [if_pos HE.out]
      exact hR
  have e0 : (s.left == 0) = false := by simp [h0]
  have HE := Lib.hid h0
  clear h0
  go_upto_region 5 with fail
  have H3 := Lib.hid (show (Ru w0 Z q r (.slice (some ⟨pb, poff, none⟩) p.length pcap) t av f iv dv I nd { s with left := s.left - 1 } (w2.setCell ⟨q, 7, none⟩ (.int .i64 (s.left - 1))) ∧ BoxAt (w2.setCell ⟨q, 7, none⟩ (.int .i64 (s.left - 1))) tb (opC o) OpT ∧ BoxAt (w2.setCell ⟨q, 7, none⟩ (.int .i64 (s.left - 1))) ob (opC ⟨0, 0, 0, 0, 0⟩) OpT) ∧ Fr (fun i => i = q ∨ i = r) w (w2.setCell ⟨q, 7, none⟩ (.int .i64 (s.left - 1))) from by
    have hF : Fr (fun i => i = q) w2 (w2.setCell ⟨q, 7, none⟩ (.int .i64 (s.left - 1))) := (Fr.refl (fun i => i = q) w2).setCell (p := ⟨q, 7, none⟩) rfl _
    have hb : BoxAt (w2.setCell ⟨q, 7, none⟩ (.int .i64 (s.left - 1))) q (ruC (.slice (some ⟨pb, poff, none⟩) p.length pcap) t av r f { s with left := s.left - 1 } iv dv) RunT := Go.heap_setCell_same w2 q 7 _ _ _ H2.out.box
    exact ⟨⟨H2.out.boxX hF hb rfl rfl H2.out.ik H2.out.ifr, box_typed HO2.out hF (typed_box H2.out.box) (by decide), box_typed (cur := opC ⟨0, 0, 0, 0, 0⟩) HB2.out hF (typed_box H2.out.box) (by decide)⟩, HF2.out.trans (hF.mono fun i hi => .inl hi)⟩)
  generalize w2.setCell ⟨q, 7, none⟩ (.int .i64 (s.left - 1)) = w3 at *
  clear H2 HO2 HB2 HF2 x0 x1 x2 x5 x6 x7 x8 x9 x10 x11 k0 k1 k2 k3 k4 f7 o0 o1 o2 o3 o4 fo0 fo1 fo2 fo3 fo4
  obtain ⟨k0, k1, k2, k3, k4⟩ := op_cells H3.out.1.2.1
  cases hpl : plainB o.k
  · have HPL := Lib.hid hpl
    clear hpl
    go_wp2_with fail
    refine (rplain_any o w3).mono ?_
    rintro e w4 ⟨rfl, hB⟩
    rw [HPL.out]
    have H4 := Lib.hid (show (Ru w0 Z q r (.slice (some ⟨pb, poff, none⟩) p.length pcap) t av f iv dv I nd { s with left := s.left - 1 } w4 ∧ BoxAt w4 tb (opC o) OpT ∧ BoxAt w4 ob (opC ⟨0, 0, 0, 0, 0⟩) OpT) ∧ Fr (fun i => i = q ∨ i = r) w w4 from
      ⟨⟨H3.out.1.1.below hB, H3.out.1.2.1.below hB, H3.out.1.2.2.below hB⟩, H3.out.2.then hB⟩)
    clear H3 k0 k1 k2 k3 k4 hB
    obtain ⟨x0, x1, x2, x5, x6, x7, x8, x9, x10, x11⟩ := ru_cells H4.out.1.1
    have f6 := H4.out.1.1.box.frozen 6
    have p0 := HPC.out.1.1
    have p1 := HPC.out.1.2
    go_upto_region 7 with fail
    have H5 := Lib.hid (show (Ru w0 Z q r (.slice (some ⟨pb, poff, none⟩) p.length pcap) t av f iv dv I nd { s with left := s.left - 1, pc := s.pc + 1 } (w4.setCell ⟨q, 6, none⟩ (.int .i64 (s.pc + 1))) ∧ BoxAt (w4.setCell ⟨q, 6, none⟩ (.int .i64 (s.pc + 1))) tb (opC o) OpT ∧ BoxAt (w4.setCell ⟨q, 6, none⟩ (.int .i64 (s.pc + 1))) ob (opC ⟨0, 0, 0, 0, 0⟩) OpT) ∧ Fr (fun i => i = q ∨ i = r) w (w4.setCell ⟨q, 6, none⟩ (.int .i64 (s.pc + 1))) from by
      have hF : Fr (fun i => i = q) w4 (w4.setCell ⟨q, 6, none⟩ (.int .i64 (s.pc + 1))) := (Fr.refl (fun i => i = q) w4).setCell (p := ⟨q, 6, none⟩) rfl _
      have hb : BoxAt (w4.setCell ⟨q, 6, none⟩ (.int .i64 (s.pc + 1))) q (ruC (.slice (some ⟨pb, poff, none⟩) p.length pcap) t av r f { s with left := s.left - 1, pc := s.pc + 1 } iv dv) RunT := Go.heap_setCell_same w4 q 6 _ _ _ H4.out.1.1.box
      exact ⟨⟨H4.out.1.1.boxX hF hb rfl rfl H4.out.1.1.ik H4.out.1.1.ifr, box_typed H4.out.1.2.1 hF (typed_box H4.out.1.1.box) (by decide), box_typed (cur := opC ⟨0, 0, 0, 0, 0⟩) H4.out.1.2.2 hF (typed_box H4.out.1.1.box) (by decide)⟩, H4.out.2.trans (hF.mono fun i hi => .inl hi)⟩)
    generalize w4.setCell ⟨q, 6, none⟩ (.int .i64 (s.pc + 1)) = w5 at *
    clear H4 x0 x1 x2 x5 x6 x7 x8 x9 x10 x11 f6
    obtain ⟨k0, k1, k2, k3, k4⟩ := op_cells H5.out.1.2.1
    obtain ⟨o0, o1, o2, o3, o4⟩ := op_cells (o := ⟨0, 0, 0, 0, 0⟩) H5.out.1.2.2
    simp only [] at o0 o1 o2 o3 o4
    have fo0 := H5.out.1.2.2.frozen 0
    have fo1 := H5.out.1.2.2.frozen 1
    have fo2 := H5.out.1.2.2.frozen 2
    have fo3 := H5.out.1.2.2.frozen 3
    have fo4 := H5.out.1.2.2.frozen 4
    go_wp2_with fail
    obtain ⟨hbo, hF⟩ := op_set (z := ⟨0, 0, 0, 0, 0⟩) H5.out.1.2.2 o
    have hR := H5.out.1.1.other hF (typed_box H5.out.1.2.2) (fun i hi => by have := HNE.out.2.2.2.2.1; omega) (by decide) (by decide) (by decide) (by decide)
    refine step_end hbo rfl rfl ⟨?_, ?_, H5.out.2.join hF (fun i hi => .inr (by have := HNE.out.2.2.2.1; omega))⟩
    · unfold stpR
      rw [if_neg HE.out, HOE.out, if_neg (by rw [HPL.out]; decide)]
    · unfold stpR
      rw [if_neg HE.out, HOE.out, if_neg (by rw [HPL.out]; decide)]
      exact hR
  · have HPL := Lib.hid hpl
    clear hpl
    go_wp2_with fail
    refine (rplain_any o w3).mono ?_
    rintro e w4 ⟨rfl, hB⟩
    rw [HPL.out]
    have H4 := Lib.hid (show (Ru w0 Z q r (.slice (some ⟨pb, poff, none⟩) p.length pcap) t av f iv dv I nd { s with left := s.left - 1 } w4 ∧ BoxAt w4 tb (opC o) OpT ∧ BoxAt w4 ob (opC ⟨0, 0, 0, 0, 0⟩) OpT) ∧ Fr (fun i => i = q ∨ i = r) w w4 from
      ⟨⟨H3.out.1.1.below hB, H3.out.1.2.1.below hB, H3.out.1.2.2.below hB⟩, H3.out.2.then hB⟩)
    clear H3 k0 k1 k2 k3 k4 hB
    go_upto_region 8 with fail
    have hn : o.k ≠ 12 ∧ o.k ≠ 13 ∧ o.k ≠ 14 := by
      have := HPL.out
      unfold plainB at this
      simp at this
      exact ⟨this.1.1, this.1.2, this.2⟩
    have HN := Lib.hid hn
    clear hn
    obtain ⟨k0, k1, k2, k3, k4⟩ := op_cells H4.out.1.2.1
    have HC := Lib.hid (show ∀ y, Below w4.heap.size w4 y → Calls Try.prog 64 #[.pointer (some ⟨q, 0, none⟩), .agg #[.int .u8 o.k, .int .i64 o.d, .int .i64 o.a, .int .i64 o.b, .int .i64 o.n]] y (fun e w' => e = .returned (.int .i64 (opR { s with left := s.left - 1 } o).1) ∧ Ru w0 Z q r (.slice (some ⟨pb, poff, none⟩) p.length pcap) t av f iv dv I nd (opR { s with left := s.left - 1 } o).2 w' ∧ BoxAt w' tb (opC o) OpT ∧ BoxAt w' ob (opC ⟨0, 0, 0, 0, 0⟩) OpT ∧ Fr (fun i => i = q ∨ i = r) w w') from fun y hy =>
      (ropx_any (H4.out.1.1.below hy) HRL.out HPC.out.1.1 HPC.out.1.2 HO.out HN.out.1 HN.out.2.1 HN.out.2.2).mono fun e w' hh => by
        obtain ⟨he, hRu, hFr⟩ := hh
        have hF4 : Fr (fun i => i = q ∨ i = r) w4 w' := (Fr.of_below hy).trans hFr
        exact ⟨he, hRu, H4.out.1.2.1.fr hF4 (by have := HNE.out; omega), H4.out.1.2.2.fr hF4 (by have := HNE.out; omega), H4.out.2.trans hF4⟩)
    generalize hRR : opR { s with left := s.left - 1 } o = RR at HC
    have HRR := Lib.hid hRR
    clear hRR
    go_region_with (go_at_call 64; refine (HC.out _ (by first | exact Below.refl _ _ | exact (Below.refl _ _).drew)).mono ?_; rintro e w5 ⟨rfl, h5⟩; have H5 := Lib.hid h5; obtain ⟨m0, m1, m2, m3, m4⟩ := op_cells h5.2.1; obtain ⟨o0, o1, o2, o3, o4⟩ := op_cells (o := ⟨0, 0, 0, 0, 0⟩) h5.2.2.1; simp only [] at o0 o1 o2 o3 o4; have fo0 := h5.2.2.1.frozen 0; have fo1 := h5.2.2.1.frozen 1; have fo2 := h5.2.2.1.frozen 2; have fo3 := h5.2.2.1.frozen 3; have fo4 := h5.2.2.1.frozen 4; clear h5)
    all_goals
      go_wp2_with fail
      obtain ⟨hbo, hF⟩ := op_set (z := ⟨0, 0, 0, 0, 0⟩) H5.out.2.2.1 o
      have hR := H5.out.1.other hF (typed_box H5.out.2.2.1) (fun i hi => by have := HNE.out.2.2.2.2.1; omega) (by decide) (by decide) (by decide) (by decide)
      have hG := H5.out.2.2.2.join hF (fun i hi => .inr (by have := HNE.out.2.2.2.1; omega))
      have hE : stpR p t s = (o, RR) := by
        unfold stpR
        rw [if_neg HE.out, HOE.out, if_pos HPL.out, HRR.out]
      first
        | exact step_end hbo rfl rfl ⟨by rw [hE], by rw [hE]; exact hR, hG⟩
        | exact step_end (hbo.below (Below.refl _ _).drew) rfl rfl ⟨by rw [hE], by rw [hE]; exact hR.below (Below.refl _ _).drew, hG.drew⟩
        | done
end Go.Proofs.Ytdhbjejejeljoaa
