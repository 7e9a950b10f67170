/- Contract: thresherref13.Begin. -/
import Derived.Test.YtdhbjejejeljoaaEv26
import Derived.Test.YtdhbjejejeljoaaEv15
namespace Go.Proofs.Ytdhbjejejeljoaa
open Go.RowKit Go.Sort Go.Lib

/-- The registers while the arguments come in. -/
def begR (t : Tk) (R k : Nat) : List Int := t.args.take k ++ List.replicate (R - k) 0
theorem begR_len {t : Tk} {R k : Nat} (h : k ≤ t.args.length) (h2 : t.args.length ≤ R) : (begR t R k).length = R := by
  unfold begR; simp; omega
theorem begR_set {t : Tk} {R k : Nat} (h : k < t.args.length) (h2 : t.args.length ≤ R) : (begR t R k).set k t.args[k] = begR t R (k + 1) := by
  unfold begR
  rw [List.set_append_right _ _ (by simp; omega)]
  have e1 : k - (t.args.take k).length = 0 := by simp; omega
  rw [e1]
  obtain ⟨m, hm⟩ : ∃ m, R - k = m + 1 := ⟨R - k - 1, by omega⟩
  rw [hm, show R - (k + 1) = m by omega, List.replicate_succ, List.set_cons_zero, List.take_succ_eq_append_getElem h, List.append_assoc, List.singleton_append]
abbrev sB (t : Tk) (R k : Nat) : St := { regs := begR t R k, pc := 0, left := t.fuel, kids := 0, into := [], waits := [], done := [] }
def RBegP (p : List Fnc) (pv : Value) (t : Tk) (av : Value) (w : World) (e : Ending) (w' : World) : Prop :=
  ∃ q r, e = .returned (.pointer (some ⟨q, 0, none⟩)) ∧ Ru w w.heap.size q r pv t av 0 (.slice none 0 0) (.slice none 0 0) [] [] (beginS p t) w'
set_option maxHeartbeats 6400000 in
set_option maxRecDepth 100000 in
theorem rbegin_any {pv : Value} {t : Tk} {av : Value} {w : World} {p : List Fnc} (hp : WfP p) (ht : TkOk p t) (hpr : ProgAt w pv p) (hav : ReadsK encN1 1 w av t.args) :
    Calls Try.prog 29 #[.agg #[pv], .agg #[.string t.p, .int .i64 t.fn, av, .int .i64 t.fuel]] w (RBegP p pv t av w) := by
  have hfo := hp.fn ht.f0 ht.f1
  have ht0 := ht.f0
  have ht1 := ht.f1
  obtain ⟨fq, hfq⟩ : ∃ q : Nat, t.fn = q := ⟨t.fn.toNat, by omega⟩
  have hfl : fq < p.length := by omega
  have hfe : fnAt p t.fn = p[fq] := by
    unfold fnAt
    rw [hfq, List.getD_eq_getElem?_getD, Int.toNat_natCast, List.getElem?_eq_getElem hfl]; rfl
  rw [hfe] at hfo
  obtain ⟨R, hR⟩ : ∃ R : Nat, p[fq].regs = R := ⟨p[fq].regs.toNat, by have := hfo.r0; have := hfo.r1; omega⟩
  have hal : t.args.length ≤ R := by have h1 := ht.args; rw [hfe] at h1; have := hfo.r1; omega
  have hR16 : R ≤ 16 := by have := hfo.r2; omega
  have HBE := Lib.hid (show beginS p t = { regs := begR t R t.args.length, pc := 0, left := t.fuel, kids := 0, into := [], waits := [], done := [] } from by
    unfold beginS begR
    rw [hfe, hR, List.take_length]; simp)
  obtain ⟨pb, poff, pcap, rfl, hpb, hpc⟩ := hpr.fns.at (by omega)
  obtain ⟨aa, ac, rfl⟩ := hav.slice
  have HAV := Lib.hid hav
  obtain ⟨c0, c1, c2⟩ := fn_at hpc hfl
  rw [hR] at c1
  generalize p[fq].args = fa at *
  generalize p[fq].oa = oa at *
  generalize p[fq].oc = oc at *
  generalize p[fq].ops.length = ol at *
  have hA : ∀ (x : World) (o : Obj), Below x.heap.size x (x.alloc o) := fun x o => (Below.refl _ _).alloc (Nat.le_refl _) o
  have hB2 : Below w.heap.size w ((w.alloc (.cells #[.slice (some ⟨pb, poff, none⟩) p.length pcap] 24)).alloc (.cells (taC t.p t.fn (.slice aa t.args.length ac) t.fuel) TaskT)) := ((Below.refl _ _).alloc (Nat.le_refl _) _).alloc (by simp) _
  have a0 := cell_of hB2 c0
  have a1 := cell_of hB2 c1
  have a2 := cell_of hB2 c2
  have i1 : (fq : Int) < p.length := by omega
  have i3 : (0 : Int) ≤ fq := by omega
  simp only [taC] at a0 a1 a2
  rw [hfq] at a0 a1 a2 ⊢
  clear hA hB2 c0 c1 c2 hpc hpb hfo hfe
  go_enter Try.func29, Try.ntmps29
  go_upto_region 2 with fail
  have hB3 : Below w.heap.size w (((w.alloc (.cells #[.slice (some ⟨pb, poff, none⟩) p.length pcap] 24)).alloc (.cells (taC t.p fq (.slice aa t.args.length ac) t.fuel) TaskT)).alloc (.cells #[.int .i64 fa, .int .i64 R, .slice oa ol oc] 78)) := (((Below.refl _ _).alloc (Nat.le_refl _) _).alloc (by simp) _).alloc (by simp; omega) _
  have b3 := heap_alloc_new ((w.alloc (.cells #[.slice (some ⟨pb, poff, none⟩) p.length pcap] 24)).alloc (.cells (taC t.p fq (.slice aa t.args.length ac) t.fuel) TaskT)) (.cells #[.int .i64 fa, .int .i64 R, .slice oa ol oc] 78)
  have b2 := BoxAt.below (heap_alloc_new (w.alloc (.cells #[.slice (some ⟨pb, poff, none⟩) p.length pcap] 24)) (.cells (taC t.p fq (.slice aa t.args.length ac) t.fuel) TaskT)) ((Below.refl _ _).alloc (Nat.le_refl _) (.cells #[.int .i64 fa, .int .i64 R, .slice oa ol oc] 78))
  have b1 := BoxAt.below (BoxAt.below (heap_alloc_new w (.cells #[.slice (some ⟨pb, poff, none⟩) p.length pcap] 24)) ((Below.refl _ _).alloc (Nat.le_refl _) (.cells (taC t.p fq (.slice aa t.args.length ac) t.fuel) TaskT))) ((Below.refl _ _).alloc (Nat.le_refl _) (.cells #[.int .i64 fa, .int .i64 R, .slice oa ol oc] 78))
  simp only [World.size_alloc] at b2 b3
  simp only [taC] at b1 b2 b3 hB3
  generalize ((w.alloc (.cells #[.slice (some ⟨pb, poff, none⟩) p.length pcap] 24)).alloc (.cells #[.string t.p, .int .i64 fq, .slice aa t.args.length ac, .int .i64 t.fuel] TaskT)).alloc (.cells #[.int .i64 fa, .int .i64 R, .slice oa ol oc] 78) = y at *
  have b3 : BoxAt y (w.heap.size + 1 + 1) #[.int .i64 fa, .int .i64 R, .slice oa ol oc] 78 := b3
  have d0 := b1.cell 0
  have d1 := b2.cell 0; have d2 := b2.cell 1; have d3 := b2.cell 2; have d4 := b2.cell 3
  have d5 := b3.cell 1
  simp only [List.getElem?_toArray, List.getElem?_cons_zero, List.getElem?_cons_succ] at d0 d1 d2 d3 d4 d5
  have HY := Lib.hid hB3
  have HB2 := Lib.hid b2
  have hal : ∀ (o : Obj) (a : Addr) (v : Value), y.cell? a = some v → (y.alloc o).cell? a = some v := fun o a v h => (((Below.refl y.heap.size y).alloc (Nat.le_refl _) o).cell (World.block_lt_of_cell? _ _ h)).trans h
  have f0 := fun o => hal o _ _ d0
  have f1 := fun o => hal o _ _ d1
  have f2 := fun o => hal o _ _ d2
  have f3 := fun o => hal o _ _ d3
  have f4 := fun o => hal o _ _ d4
  clear hB3 b1 b2 b3 hal a0 a1 a2
  have r0 : (0 : Int) ≤ R := by omega
  have r1 : (R : Int) ≤ 16 := by omega
  have hmk := fun x : World => Go.run_make_row' (P := Try.prog) 25 I64T (.int .i64 0) 8 Try.underlying25 info_i64 rfl .i64 .i64 R (by omega) (by omega) x
  go_region
  have HFQ := Lib.hid hfq
  have hwy := HY.out.size
  have H2 := Lib.hid (show (Ru w w.heap.size (y.heap.size + 1) y.heap.size (.slice (some ⟨pb, poff, none⟩) p.length pcap) t (.slice aa t.args.length ac) 0 (.slice none 0 0) (.slice none 0 0) [] [] (sB t R 0) ((y.alloc (.cells (madeCells #[.int .i64 0] R) I64T)).alloc (.cells #[.slice (some ⟨pb, poff, none⟩) p.length pcap, .string t.p, .int .i64 fq, .slice aa t.args.length ac, .int .i64 t.fuel, .slice (some ⟨y.heap.size, 0, none⟩) R R, .int .i64 0, .int .i64 t.fuel, .int .i64 0, .int .i64 1, .slice none 0 0, .slice none 0 0] RunT)).drew ∧
      BoxAt ((y.alloc (.cells (madeCells #[.int .i64 0] R) I64T)).alloc (.cells #[.slice (some ⟨pb, poff, none⟩) p.length pcap, .string t.p, .int .i64 fq, .slice aa t.args.length ac, .int .i64 t.fuel, .slice (some ⟨y.heap.size, 0, none⟩) R R, .int .i64 0, .int .i64 t.fuel, .int .i64 0, .int .i64 1, .slice none 0 0, .slice none 0 0] RunT)).drew (w.heap.size + 1) (taC t.p fq (.slice aa t.args.length ac) t.fuel) TaskT) from by
    have hB1 : Below y.heap.size y (y.alloc (.cells (madeCells #[.int .i64 0] R) I64T)) := (Below.refl _ _).alloc (Nat.le_refl _) _
    have b1 : BoxAt (y.alloc (.cells (madeCells #[.int .i64 0] R) I64T)) y.heap.size ((List.replicate R (0 : Int)).map (Value.int .i64)).toArray I64T := made_box (heap_alloc_new _ _)
    have e1 : (y.alloc (.cells (madeCells #[.int .i64 0] R) I64T)).heap.size = y.heap.size + 1 := by simp
    have hB2 := ((Below.refl (y.alloc (.cells (madeCells #[.int .i64 0] R) I64T)).heap.size (y.alloc (.cells (madeCells #[.int .i64 0] R) I64T))).alloc (Nat.le_refl _) (.cells #[.slice (some ⟨pb, poff, none⟩) p.length pcap, .string t.p, .int .i64 fq, .slice aa t.args.length ac, .int .i64 t.fuel, .slice (some ⟨y.heap.size, 0, none⟩) R R, .int .i64 0, .int .i64 t.fuel, .int .i64 0, .int .i64 1, .slice none 0 0, .slice none 0 0] RunT)).drew
    have b2 := BoxAt.below (heap_alloc_new (y.alloc (.cells (madeCells #[.int .i64 0] R) I64T)) (.cells #[.slice (some ⟨pb, poff, none⟩) p.length pcap, .string t.p, .int .i64 fq, .slice aa t.args.length ac, .int .i64 t.fuel, .slice (some ⟨y.heap.size, 0, none⟩) R R, .int .i64 0, .int .i64 t.fuel, .int .i64 0, .int .i64 1, .slice none 0 0, .slice none 0 0] RunT)) (Below.refl _ _).drew
    rw [e1] at b2
    have hB := gthen hB1 hB2
    have eb : begR t R 0 = List.replicate R 0 := by unfold begR; simp
    refine ⟨⟨?_, ?_, World.ownsRow_nil _ _ _ _, World.ownsRow_nil _ _ _ _, by simp, by simp, rfl, HY.out.trans (hB.mono hwy), ⟨by omega, hwy⟩, rfl, ⟨Nat.le_refl _, rfl⟩⟩, HB2.out.below hB⟩
    · unfold ruC
      simp only [eb, List.length_replicate]
      rw [HFQ.out]
      exact b2
    · simp only [eb]
      exact b1.below hB2)
  clear HY HB2 d0 d1 d2 d3 d4 d5 f0 f1 f2 f3 f4 hmk hfq
  generalize ((y.alloc (.cells (madeCells #[.int .i64 0] R) I64T)).alloc (.cells #[.slice (some ⟨pb, poff, none⟩) p.length pcap, .string t.p, .int .i64 fq, .slice aa t.args.length ac, .int .i64 t.fuel, .slice (some ⟨y.heap.size, 0, none⟩) R R, .int .i64 0, .int .i64 t.fuel, .int .i64 0, .int .i64 1, .slice none 0 0, .slice none 0 0] RunT)).drew = y2 at *
  generalize y.heap.size = r at *
  obtain ⟨x, hx⟩ : ∃ x, r + 1 = x := ⟨_, rfl⟩
  rw [hx] at H2 ⊢
  clear hx
  go_wp2_with fail
  generalize hNL : t.args.length = NL at *
  have HNL := Lib.hid hNL
  clear hNL hp ht hpr hav
  go_loopg [7] NL (fun gk i wr => ∃ k : Nat, gk + k = NL ∧ i = .int .i64 k ∧ Hid (Ru w w.heap.size x r (.slice (some ⟨pb, poff, none⟩) p.length pcap) t (.slice aa NL ac) 0 (.slice none 0 0) (.slice none 0 0) [] [] (sB t R k) wr ∧ BoxAt wr (w.heap.size + 1) (taC t.p fq (.slice aa NL ac) t.fuel) TaskT))
  case atStart => exact ⟨0, by omega, rfl, H2⟩
  case round =>
    clear H2
    obtain ⟨k, hk, rfl, HR⟩ := hrel
    have t2 := HR.out.2.cell 2
    simp only [taC, List.getElem?_toArray, List.getElem?_cons_zero, List.getElem?_cons_succ] at t2
    by_cases hlt : k < NL
    · have hkl : k < t.args.length := by rw [HNL.out]; exact hlt
      have hal' : t.args.length ≤ R := by rw [HNL.out]; exact hal
      obtain ⟨b, off, c, he, hb, hc⟩ := ((HNL.out ▸ HAV.out : ReadsK encN1 1 w (.slice aa t.args.length ac) t.args).below HR.out.1.low).at (by omega)
      injection he with he1 he2 he3
      subst he1
      have c0 : wr.cell? ⟨b, off + k, none⟩ = some (.int .i64 t.args[k]) := by have h := hc k hkl 0 _ rfl; simpa using h
      have HST := Lib.hid (begR_set hkl hal')
      have hrl := begR_len (t := t) (R := R) (k := k) (by omega) hal'
      obtain ⟨x0, x1, x2, x5, x6, x7, x8, x9, x10, x11⟩ := ru_cells HR.out.1
      simp only [] at x5
      rw [hrl] at x5
      have g0 := regs_cell HR.out.1.regs (q := k) (by simp only []; omega)
      have g1 := HR.out.1.regs.frozen k
      simp only [] at g0
      obtain ⟨u, hu⟩ : ∃ u, (begR t R k)[k]'(by omega) = u := ⟨_, rfl⟩
      rw [hu] at g0
      have q1 : (k : Int) < R := by omega
      have q0 : (0 : Int) ≤ k := by omega
      have q2 : (k : Int) < NL := by omega
      have HRL := Lib.hid hrl
      generalize t.args[k] = v at *
      clear hu hc hb he2 he3 x0 x1 x2 x6 x7 x8 x9 x10 x11 hrl hal'
      go_upto_region 6 with fail
      go_still_tail 11, (by kernel_rfl)
      change wpList _ _ _ _ _ wr.drew
      go_wp2_with fail
      have HN := Lib.hid (show Ru w w.heap.size x r (.slice (some ⟨pb, poff, none⟩) p.length pcap) t (.slice (some ⟨b, off, none⟩) NL ac) 0 (.slice none 0 0) (.slice none 0 0) [] [] (sB t R (k + 1)) (wr.setCell ⟨r, k, none⟩ (.int .i64 v)).drew ∧ BoxAt (wr.setCell ⟨r, k, none⟩ (.int .i64 v)).drew (w.heap.size + 1) (taC t.p fq (.slice (some ⟨b, off, none⟩) NL ac) t.fuel) TaskT from by
        have hF : Fr (fun i => i = r) wr (wr.setCell ⟨r, k, none⟩ (.int .i64 v)) := (Fr.refl (fun i => i = r) wr).setCell (p := ⟨r, k, none⟩) rfl _
        have h1 := HR.out.1.regsX hF (set_box HR.out.1.regs v) (by simp)
        simp only [HST.out] at h1
        exact ⟨h1.below (Below.refl _ _).drew, (box_typed HR.out.2 hF (typed_box HR.out.1.regs) (by decide)).below (Below.refl _ _).drew⟩)
      clear HR x5 g0 g1 t2 c0
      go_roundg (gk - 1)
      case rel => exact ⟨k + 1, by omega, by go_num, HN⟩
      case measure => omega
    · have hkl : k = NL := by omega
      have HF := Lib.hid (show beginS p t = sB t R k from by rw [HBE.out, hkl])
      clear hkl
      go_wp2_with fail
      go_ret
      refine ⟨x, r, rfl, ?_⟩
      rw [HF.out]
      exact HR.out.1
end Go.Proofs.Ytdhbjejejeljoaa
