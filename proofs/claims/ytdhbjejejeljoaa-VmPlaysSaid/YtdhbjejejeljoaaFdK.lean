/- The document's frame: a fork, from Kid on. -/
import Derived.Test.YtdhbjejejeljoaaFd3
import Derived.BigRegion
import Derived.Deep.AppendLies
namespace Go.Proofs.Ytdhbjejejeljoaa
open Go.RowKit Go.Sort Go.Lib

def zOp : Opr := ⟨0, 0, 0, 0, 0⟩
def NewDP (pv : Value) (p : List Fnc) (t : Tk) (w : World) (e : Ending) (w' : World) : Prop :=
  Below w.heap.size w w' ∧ ((newE p t ≠ 0 ∧ e = .returned (.tuple #[.pointer none, .int .i64 (newE p t)])) ∨
    (newE p t = 0 ∧ ∃ Z b q r av, e = .returned (.tuple #[.pointer (some ⟨b, 0, none⟩), .int .i64 0]) ∧ w.heap.size ≤ Z ∧ w'.ownsRow w.heap.size I64T 1 av t.args.length (t.args.flatMap encN1) ∧ (∀ i, av.ownBlock = some i → i < Z) ∧ Fd Z b q r pv t av (.slice none 0 0) (.slice none 0 0) (.slice none 0 0) (newV p t) w'))
theorem NewDP.bad {pv : Value} {p : List Fnc} {t : Tk} {w w' : World} {z : Int} (hB : Below w.heap.size w w') (h : newE p t = z) (hz : z ≠ 0) : NewDP pv p t w (.returned (.tuple #[.pointer none, .int .i64 z])) w' := ⟨hB, .inl ⟨by rw [h]; exact hz, by rw [h]⟩⟩
set_option maxHeartbeats 6400000 in
set_option maxRecDepth 100000 in
theorem dnew_any {pv av : Value} {t : Tk} {w : World} {p : List Fnc} (hpr : ProgAt w pv p) (hav : ReadsK encN1 1 w av t.args) (hps : t.p.size ≤ 9223372036854775807) (hal : t.args.length ≤ 1000) :
    Calls Try.prog 9 #[.agg #[pv], .agg #[.string t.p, .int .i64 t.fn, av, .int .i64 t.fuel]] w (NewDP pv p t w) := by
  obtain ⟨pa, pc, rfl⟩ := hpr.fns.slice
  obtain ⟨aa, ac, rfl⟩ := hav.slice
  have hA1 := alV w (.cells #[.slice pa p.length pc] PrgT)
  have hA2 := alV (w.alloc (.cells #[.slice pa p.length pc] PrgT)) (.cells (taC t.p t.fn (.slice aa t.args.length ac) t.fuel) TaskT)
  have HA := Lib.hid (show Below w.heap.size w ((w.alloc (.cells #[.slice pa p.length pc] PrgT)).alloc (.cells (taC t.p t.fn (.slice aa t.args.length ac) t.fuel) TaskT)) from hA1.trans (hA2.mono hA1.size))
  have HPR := Lib.hid ((hpr.below hA1).below hA2)
  have HAV := Lib.hid ((hav.below hA1).below hA2)
  have HPB := Lib.hid ((show BoxAt (w.alloc (.cells #[.slice pa p.length pc] PrgT)) w.heap.size #[.slice pa p.length pc] PrgT from heap_alloc_new _ _).below hA2)
  have HTB := Lib.hid (show BoxAt ((w.alloc (.cells #[.slice pa p.length pc] PrgT)).alloc (.cells (taC t.p t.fn (.slice aa t.args.length ac) t.fuel) TaskT)) (w.heap.size + 1) (taC t.p t.fn (.slice aa t.args.length ac) t.fuel) TaskT from by
    have := heap_alloc_new (w.alloc (.cells #[.slice pa p.length pc] PrgT)) (.cells (taC t.p t.fn (.slice aa t.args.length ac) t.fuel) TaskT)
    rwa [show (w.alloc (.cells #[.slice pa p.length pc] PrgT)).heap.size = w.heap.size + 1 by simp] at this)
  have HPS := Lib.hid hps
  clear hpr hav hA1 hA2 hps
  go_enter Try.func9, Try.ntmps9
  go_upto_region 1 with fail
  simp only [taC] at HA HPR HAV HPB HTB
  generalize (w.alloc (.cells #[.slice pa p.length pc] PrgT)).alloc (.cells #[.string t.p, .int .i64 t.fn, .slice aa t.args.length ac, .int .i64 t.fuel] TaskT) = wa at *
  obtain ⟨tb, htb⟩ : ∃ n, w.heap.size + 1 = n := ⟨_, rfl⟩
  obtain ⟨pb, hpb⟩ : ∃ n, w.heap.size = n := ⟨_, rfl⟩
  rw [htb] at HTB ⊢
  rw [hpb] at HPB ⊢
  clear htb hpb
  have q0 := prg_cell HPB.out
  obtain ⟨t0, t1, t2, t3⟩ := ta_cells HTB.out
  go_wp2_with fail
  refine (dmay_any HPR.out HAV.out HPS.out).mono ?_
  rintro e w2 ⟨rfl, hB⟩
  have HB := Lib.hid (show Below w.heap.size w w2 from HA.out.trans (hB.mono HA.out.size))
  replace HTB := Lib.hid (HTB.out.below hB)
  replace HPB := Lib.hid (HPB.out.below hB)
  replace HPR := Lib.hid (HPR.out.below hB)
  replace HAV := Lib.hid (HAV.out.below hB)
  clear hB q0 t0 t1 t2 t3
  obtain ⟨ne, hne⟩ : ∃ z, newE p t = z := ⟨_, rfl⟩
  rw [hne]
  have HNE := Lib.hid hne
  clear hne
  by_cases h0 : ne = 0
  · subst h0
    obtain ⟨hwf, htk, hpl⟩ := newE_ok HNE.out
    have HWT := Lib.hid (And.intro hwf htk)
    clear hwf htk hpl
    obtain ⟨t0, t1, t2, t3⟩ := ta_cells HTB.out
    have HPR0 := Lib.hid HPR.out
    have hA3 := alV w2 (.cells (taC t.p t.fn (.slice aa t.args.length ac) t.fuel) TaskT)
    have HU3 := Lib.hid (show BoxAt (w2.alloc (.cells (taC t.p t.fn (.slice aa t.args.length ac) t.fuel) TaskT)) w2.heap.size (taC t.p t.fn (.slice aa t.args.length ac) t.fuel) TaskT from heap_alloc_new _ _)
    have HB3 := Lib.hid (show Below w.heap.size w (w2.alloc (.cells (taC t.p t.fn (.slice aa t.args.length ac) t.fuel) TaskT)) from HB.out.trans (hA3.mono HB.out.size))
    have HSZ := Lib.hid (show w.heap.size ≤ w2.heap.size from HB.out.size)
    replace HTB := Lib.hid (HTB.out.below hA3)
    replace HPB := Lib.hid (HPB.out.below hA3)
    replace HPR := Lib.hid (HPR.out.below hA3)
    replace HAV := Lib.hid (HAV.out.below hA3)
    have HPR2 := Lib.hid HPR0.out
    clear hA3
    go_upto_region 5 with fail
    simp only [taC] at HU3 HB3 HTB HPB HPR HAV
    clear t0 t1 t2 t3
    have HA23 := Lib.hid (show Below w2.heap.size w2 (w2.alloc (.cells #[.string t.p, .int .i64 t.fn, .slice aa t.args.length ac, .int .i64 t.fuel] TaskT)) from alV w2 _)
    have HS3 := Lib.hid (show w2.heap.size < (w2.alloc (.cells #[.string t.p, .int .i64 t.fn, .slice aa t.args.length ac, .int .i64 t.fuel] TaskT)).heap.size from by simp)
    generalize w2.alloc (.cells #[.string t.p, .int .i64 t.fn, .slice aa t.args.length ac, .int .i64 t.fuel] TaskT) = w3 at *
    obtain ⟨ub, hub⟩ : ∃ n, w2.heap.size = n := ⟨_, rfl⟩
    have HUB := Lib.hid (show w2.heap.size = ub from hub)
    have HB23 := Lib.hid (show Below w2.heap.size w2 w3 from HA23.out)
    rw [hub] at HU3 HSZ HS3 ⊢
    clear hub HB
    have t2 : (w3.alloc (.cells #[] I64T)).cell? ⟨tb, 2, none⟩ = some (.slice aa t.args.length ac) := (ta_cells (HTB.out.below (alV w3 (.cells #[] I64T)))).2.2.1
    have u2 : (w3.alloc (.cells #[] I64T)).cell? ⟨ub, 2, none⟩ = some (.slice aa t.args.length ac) := (ta_cells (HU3.out.below (alV w3 (.cells #[] I64T)))).2.2.1
    go_wp2_with (at_builtin; refine wpList_appI rfl _ _ rfl (B := w3.heap.size) (xs := []) (ys := t.args) rfl rfl (World.ownsRow_made w3 #[] 0 (Nat.le_refl _) (Nat.zero_le _) (by simp)) (HAV.out.below ((Below.refl _ _).alloc (Nat.le_refl _) _)) (by simp; omega) (by simp) ?_)
    rintro v' w4 ho hgr
    replace ho : w4.ownsRow w3.heap.size I64T 1 v' t.args.length (t.args.flatMap encN1) := ho
    have hB : Below w3.heap.size w3 w4 := (((Below.refl _ w3).alloc (Nat.le_refl _) _).grown hgr (by simp) (by intro k hk; simp [Value.ownBlock] at hk; omega))
    obtain ⟨va, vc, rfl⟩ := own_slice' ho
    have HO := Lib.hid ho
    have HB4 := Lib.hid (HB3.out.trans (hB.mono HB3.out.size))
    have HLT := Lib.hid (show ub < w3.heap.size from HS3.out)
    have HU4 := Lib.hid (HU3.out.below hB)
    have HP4 := Lib.hid (HPB.out.below hB)
    have HB24 := Lib.hid (show Below w2.heap.size w2 w4 from HB23.out.trans (hB.mono HB23.out.size))
    clear ho hgr hB t2 u2
    have u2 := (ta_cells HU4.out).2.2.1
    have g2 := HU4.out.frozen 2
    go_upto_region 6 with fail
    have hF5 : Fr (fun i => i = ub) w4 (w4.setCell ⟨ub, 2, none⟩ (.slice va t.args.length vc)) := (Fr.refl (fun i => i = ub) w4).setCell (p := ⟨ub, 2, none⟩) rfl _
    have HU5 := Lib.hid (show BoxAt (w4.setCell ⟨ub, 2, none⟩ (.slice va t.args.length vc)) ub (taC t.p t.fn (.slice va t.args.length vc) t.fuel) TaskT from Go.heap_setCell_same w4 ub 2 _ _ _ HU4.out)
    have HP5 := Lib.hid (HP4.out.fr hF5 (box_ne HP4.out HU4.out (by decide)))
    have HO5 := Lib.hid (own_typed HO.out hF5 (typed_box HU4.out) (by decide))
    have HB5 := Lib.hid (show Below w.heap.size w (w4.setCell ⟨ub, 2, none⟩ (.slice va t.args.length vc)) from HB4.out.trans (hF5.below (fun i e => by subst e; exact HSZ.out) HB4.out.size))
    have HR5 := Lib.hid (HPR2.out.below (HB24.out.trans (hF5.below (fun i e => by subst e; exact Nat.le_of_eq HUB.out) HB24.out.size)))
    have HS5 := Lib.hid (show w.heap.size ≤ w3.heap.size from by have := HSZ.out; have := HLT.out; omega)
    clear hF5 u2 g2 HO HU4 HP4 HB4 HB24
    generalize w4.setCell ⟨ub, 2, none⟩ (.slice va t.args.length vc) = w5 at *
    have q0 := prg_cell HP5.out
    obtain ⟨u0, u1, u2, u3⟩ := ta_cells HU5.out
    go_wp2_with fail
    refine (rbegin_any HWT.out.1 HWT.out.2 HR5.out (own_readsK (enc := encN1) (k := 1) (fun _ => rfl) (by decide) HO5.out)).mono ?_
    rintro e w6 ⟨q, r, rfl, hru⟩
    have HRU := Lib.hid hru
    clear hru q0 u0 u1 u2 u3
    have HX := Lib.hid (show NewDP (.slice pa p.length pc) p t w (.returned (.tuple #[.pointer (some ⟨w6.heap.size, 0, none⟩), .int .i64 0])) (w6.alloc (.cells (fdC q (.slice none 0 0) (.slice none 0 0) none zOp none) DFrT)) from by
      have hA := alV w6 (.cells (fdC q (.slice none 0 0) (.slice none 0 0) none zOp none) DFrT)
      have hlow := HRU.out.low
      refine ⟨(HB5.out.trans (hlow.mono HB5.out.size)).trans (hA.mono (Nat.le_trans HB5.out.size hlow.size)), .inr ⟨HNE.out, w5.heap.size, w6.heap.size, q, r, _, rfl, HB5.out.size, own_below (own_below (owns_monoG HO5.out HS5.out) hlow) hA, fun i hi => (HO5.out.lt i hi).2, ?_⟩⟩
      refine ⟨⟨zOp, heap_alloc_new _ _, fun o h => by cases h⟩, ⟨0, ?_, fun _ => rfl⟩, World.ownsRow_nil _ _ _ _, World.ownsRow_nil _ _ _ _, hlow.size, by intro c hc; simp [newV] at hc, Int.le_refl _⟩
      exact (HRU.out.below hA).rebase)
    go_wp2_with fail
    go_ret2
    exact HX.out
  · have hb : (ne != 0) = true := by simpa using h0
    have H0 := Lib.hid h0
    clear h0
    go_wp2_with fail
    go_ret2
    exact NewDP.bad HB.out HNE.out H0.out
end Go.Proofs.Ytdhbjejejeljoaa
namespace Go.Proofs.Ytdhbjejejeljoaa
open Go.RowKit Go.Sort Go.Lib

set_option maxHeartbeats 6400000 in
set_option maxRecDepth 100000 in
theorem rjoinR_any {w0 : World} {Z q r : Nat} {pv : Value} {t : Tk} {av : Value} {f : Nat} {iv dv : Value} {I : List Int} {nd : List DnA} {s : St} {w : World} {p : List Fnc} {wv cv : Value} {n : Nat} {xs : List Value}
    (h : Ru w0 Z q r pv t av f iv dv I nd s w) (hi : InvS p t s) (hw : w.ownsRow Z ResT 2 cv n xs) (hrd : ∀ x : World, x.ownsRow Z ResT 2 cv n xs → ReadsK encRs 2 x wv s.waits) :
    Calls Try.prog 50 #[.pointer (some ⟨q, 0, none⟩), wv] w (RJoinP w0 Z q r pv t av iv dv I nd s w) := by
  obtain ⟨wa, wc, rfl⟩ := (hrd w hw).slice
  obtain ⟨ia, ic, rfl⟩ := (own_readsK (enc := encN1) (k := 1) (fun _ => rfl) (by decide) h.into).slice
  have H := Lib.hid (And.intro h hw)
  have HRD := Lib.hid hrd
  have HI := Lib.hid hi
  have hkids : s.waits.length ≤ 16 := by have h1 := hi.il; have h2 := hi.ik; have h3 := hi.k1; omega
  clear h hi hw hrd
  go_enter Try.func50, Try.ntmps50
  go_wp2_with fail
  go_loopg [5] s.waits.length (fun gk i wr => ∃ k : Nat, gk + k = s.waits.length ∧ i = .int .i64 k ∧ Hid (Below w.heap.size w wr ∧ ∀ j, (hj : j < s.waits.length) → j < k → s.waits[j].e = 0))
  case atStart => exact ⟨0, by omega, rfl, ⟨Below.refl _ _, fun j _ hj => absurd hj (by omega)⟩⟩
  case round =>
    obtain ⟨k, hk, rfl, HB⟩ := hrel
    by_cases hlt : k < s.waits.length
    · obtain ⟨b, off, c, he, hb, hc⟩ := (HRD.out wr (own_below H.out.2 HB.out.1)).at (by omega)
      injection he with he1 he2 he3
      subst he1
      have c0 : wr.cell? ⟨b, off + k * 2, none⟩ = some (.int .i64 s.waits[k].v) := hc k hlt 0 _ rfl
      have c1 : wr.cell? ⟨b, off + k * 2 + 1, none⟩ = some (.int .i64 s.waits[k].e) := hc k hlt 1 _ rfl
      have HFE := Lib.hid (show s.waits[k].e ≠ 0 → joinS s = (s.waits[k].e, s) from fun hne => by
        have h1 := firstE_hit (l := s.waits.map (·.e)) (k := k) (by simpa using hlt) (fun j hj hjk => by simpa using HB.out.2 j (by simpa using hj) hjk) (by simpa using hne)
        unfold joinS
        rw [h1]
        simp only [List.getElem_map]
        rw [if_pos hne])
      have HB2 := Lib.hid (show s.waits[k].e = 0 → ∀ j, (hj : j < s.waits.length) → j < k + 1 → s.waits[j].e = 0 from fun hz j hj hjk => by
        by_cases e : j = k
        · subst e; exact hz
        · exact HB.out.2 j hj (by omega))
      clear hc hb he2 he3
      generalize s.waits[k] = z at *
      by_cases h0 : z.e = 0
      · have h1 : (z.e != 0) = false := by simp [h0]
        have HZ := Lib.hid h0
        clear h0
        go_wp2_with fail
        go_roundg (gk - 1)
        case rel => exact ⟨k + 1, by omega, by go_num, ⟨HB.out.1, HB2.out HZ.out⟩⟩
        case measure => omega
      · have h1 : (z.e != 0) = true := by simpa using h0
        have HZ := Lib.hid h0
        clear h0
        go_wp2_with fail
        go_ret
        refine ⟨ret_int (by rw [HFE.out HZ.out]), ⟨f, ?_⟩, .of_below HB.out.1⟩
        rw [HFE.out HZ.out]
        exact H.out.1.below HB.out.1
    · have HJ := Lib.hid (show joinS s = (0, { s with regs := setAll s.regs s.into s.waits, into := [], waits := [] }) by
        unfold joinS
        have h1 : firstE (s.waits.map (·.e)) = 0 := firstE_none fun j hj => by
          have hj2 : j < s.waits.length := by simpa using hj
          simpa using HB.out.2 j hj2 (by omega)
        rw [if_neg (fun h => h h1)])
      have H2 := Lib.hid (show (Ru w0 Z q r pv t av f (.slice ia I.length ic) dv I nd s wr ∧ wr.ownsRow Z ResT 2 cv n xs) ∧ Fr (fun i => i = q ∨ i = r) w wr from ⟨⟨H.out.1.below HB.out.1, own_below H.out.2 HB.out.1⟩, .of_below HB.out.1⟩)
      clear HB
      go_wp2_with fail
      go_loopg [6] s.waits.length (fun gk i wr => ∃ k : Nat, gk + k = s.waits.length ∧ i = .int .i64 k ∧ Hid ((Ru w0 Z q r pv t av f (.slice ia I.length ic) dv I nd { s with regs := setAll s.regs (s.into.take k) (s.waits.take k) } wr ∧ wr.ownsRow Z ResT 2 cv n xs) ∧ Fr (fun i => i = q ∨ i = r) w wr))
      case atStart => exact ⟨0, by omega, rfl, by rw [List.take_zero, List.take_zero]; unfold setAll; exact H2⟩
      case round =>
        clear H2
        obtain ⟨k, hk, rfl, HR⟩ := hrel
        have HL := Lib.hid (show (setAll s.regs (s.into.take k) (s.waits.take k)).length = s.regs.length from setAll_length _ _ _)
        by_cases hlt : k < s.waits.length
        · have hil : k < s.into.length := by rw [HI.out.il]; exact hlt
          obtain ⟨b, off, c, he, hb, hc⟩ := (HRD.out wr HR.out.1.2).at (by omega)
          injection he with he1 he2 he3
          subst he1
          have hIl : f + k < I.length := by have h1 := hil; rw [H.out.1.ifr.2, List.length_drop] at h1; omega
          have hIe : s.into[k] = I[f + k] := by
            have h1 := H.out.1.ifr.2
            have : s.into[k]? = (I.drop f)[k]? := by rw [← h1]
            rw [List.getElem?_drop, List.getElem?_eq_getElem hil, List.getElem?_eq_getElem hIl] at this
            exact Option.some.inj this
          have hk16 : I.length ≤ 16 := by have h1 := H.out.1.ik; have h3 := HI.out.k1; omega
          obtain ⟨b2, off2, c2, he, hb2, hc2⟩ := (own_readsK (enc := encN1) (k := 1) (fun _ => rfl) (by decide) HR.out.1.1.into).at (by omega)
          injection he with he1 he4 he5
          subst he1
          have c0 : wr.cell? ⟨b, off + k * 2, none⟩ = some (.int .i64 s.waits[k].v) := hc k hlt 0 _ rfl
          have d0 : wr.cell? ⟨b2, off2 + (f + k), none⟩ = some (.int .i64 s.into[k]) := by have h := hc2 (f + k) hIl 0 _ rfl; rw [hIe]; simpa using h
          have hd := HI.out.ir _ (List.getElem_mem hil)
          have hrl := HI.out.rl
          have HST := Lib.hid (setAll_take (r := s.regs) hil hlt)
          obtain ⟨j, hq⟩ : ∃ j : Nat, s.into[k] = j := ⟨s.into[k].toNat, by omega⟩
          rw [hq] at d0
          have hqr : j < s.regs.length := by omega
          have HST2 := Lib.hid (show setAll s.regs (s.into.take (k + 1)) (s.waits.take (k + 1)) = (setAll s.regs (s.into.take k) (s.waits.take k)).set j s.waits[k].v by rw [HST.out, hq]; simp)
          obtain ⟨m, hm⟩ : ∃ m, f + k = m := ⟨_, rfl⟩
          rw [hm] at d0 hIl
          have s1 : IntKind.i64.wrap ((f : Int) + (k : Int)) = (m : Int) := by
            rw [show (f : Int) + k = (m : Int) by omega]
            exact wrapN m (by omega)
          have s2 : IntKind.i64.wrap (f : Int) = (f : Int) := wrapN f (by omega)
          have q3 : (m : Int) < I.length := by omega
          have q4 : (0 : Int) ≤ m := by omega
          clear hc hb he2 he3 hc2 hb2 he4 he5 HST hq hd hrl hIe hm hIl
          generalize s.waits[k] = z at *
          obtain ⟨x0, x1, x2, x5, x6, x7, x8, x9, x10, x11⟩ := ru_cells HR.out.1.1
          have g0 := regs_cell HR.out.1.1.regs (q := j) (by simp only []; rw [HL.out]; exact hqr)
          have g1 := HR.out.1.1.regs.frozen j
          simp only [] at x5
          rw [HL.out] at x5
          have q1 : (j : Int) < s.regs.length := by omega
          have q0 : (0 : Int) ≤ j := by omega
          have k1 : (k : Int) < s.waits.length := by omega
          have k0 : (0 : Int) ≤ k := by omega
          clear x0 x1 x2 x6 x7 x8 x11
          go_upto_region 9 with fail
          go_still_tail 23, (by kernel_rfl)
          change wpList _ _ _ _ _ wr.drew
          go_wp2_with fail
          have HN := Lib.hid (show (Ru w0 Z q r pv t av f (.slice (some ⟨b2, off2, none⟩) I.length ic) dv I nd { s with regs := setAll s.regs (s.into.take (k + 1)) (s.waits.take (k + 1)) } (wr.setCell ⟨r, j, none⟩ (.int .i64 z.v)).drew ∧ (wr.setCell ⟨r, j, none⟩ (.int .i64 z.v)).drew.ownsRow Z ResT 2 cv n xs) ∧ Fr (fun i => i = q ∨ i = r) w (wr.setCell ⟨r, j, none⟩ (.int .i64 z.v)).drew from by
            have hF : Fr (fun i => i = r) wr (wr.setCell ⟨r, j, none⟩ (.int .i64 z.v)) := (Fr.refl (fun i => i = r) wr).setCell (p := ⟨r, j, none⟩) rfl _
            have h1 := HR.out.1.1.regsX hF (set_box HR.out.1.1.regs z.v) (by simp)
            rw [HST2.out]
            exact ⟨⟨h1.below (Below.refl _ _).drew, own_below (own_typed HR.out.1.2 hF (typed_box HR.out.1.1.regs) (by decide)) (Below.refl _ _).drew⟩, (HR.out.2.trans (hF.mono fun i hi => .inr hi)).drew⟩)
          clear HR x5 x9 x10 g0 g1 s1 s2
          go_roundg (gk - 1)
          case rel => exact ⟨k + 1, by omega, by go_num, HN⟩
          case measure => omega
        · have hkl : k = s.waits.length := by omega
          have HF := Lib.hid (show Ru w0 Z q r pv t av f (.slice ia I.length ic) dv I nd { s with regs := setAll s.regs s.into s.waits } wr ∧ Fr (fun i => i = q ∨ i = r) w wr from by
            have h1 := HR.out
            rw [List.take_of_length_le (by rw [HI.out.il]; omega), List.take_of_length_le (by omega)] at h1
            exact ⟨h1.1.1, h1.2⟩)
          clear hkl HR HL
          obtain ⟨x0, x1, x2, x5, x6, x7, x8, x9, x10, x11⟩ := ru_cells HF.out.1
          have f9 := HF.out.1.box.frozen 9
          have hk0 := HI.out.k0
          have hk1 := HI.out.k1
          go_wp2_with fail
          go_ret
          have hF : Fr (fun i => i = q) wr (wr.setCell ⟨q, 9, none⟩ (.int .i64 (s.kids + 1))) := (Fr.refl (fun i => i = q) wr).setCell (p := ⟨q, 9, none⟩) rfl _
          refine ⟨ret_int (by rw [HJ.out]), ⟨I.length, ?_⟩, HF.out.2.trans (hF.mono fun i hi => .inl hi)⟩
          rw [HJ.out]
          have hb : BoxAt (wr.setCell ⟨q, 9, none⟩ (.int .i64 (s.kids + 1))) q (ruC pv t av r I.length { s with regs := setAll s.regs s.into s.waits, into := [], waits := [] } (.slice ia I.length ic) dv) RunT := by
            have h1 := Go.heap_setCell_same wr q 9 _ _ (.int .i64 (s.kids + 1)) HF.out.1.box
            rw [← HF.out.1.ik] at h1
            rw [← HF.out.1.ik]
            exact h1
          exact HF.out.1.boxX (s' := { s with regs := setAll s.regs s.into s.waits, into := [], waits := [] }) hF hb rfl rfl HF.out.1.ik ⟨Nat.le_refl _, by simp⟩
end Go.Proofs.Ytdhbjejejeljoaa
namespace Go.Proofs.Ytdhbjejejeljoaa
open Go.RowKit Go.Sort Go.Lib

theorem readsR_drop {a : Option Addr} {n cap f : Nat} {w : World} {l : List Rs} (hl : l.length = n) (h : ReadsK encRs 2 w (.slice a n cap) l) (hf : f ≤ n) (hc : n ≤ cap) : ReadsK encRs 2 w (.slice (if cap = f then a else a.map (·.add (f * 2))) (n - f) (cap - f)) (l.drop f) := by
  by_cases he : n ≤ f
  · exact .inl ⟨List.drop_eq_nil_of_le (by omega), _, _, by rw [Nat.sub_eq_zero_of_le he]⟩
  rw [if_neg (by omega)]
  rcases h with ⟨h1, _⟩ | ⟨b, off, cap', hv, hb, hc'⟩
  · rw [h1] at hl; simp at hl; omega
  · injection hv with e1 _ _
    subst e1
    refine .inr ⟨b, off + f * 2, cap - f, ?_, hb, fun i hi t u hu => ?_⟩
    · rw [List.length_drop, hl]
      by_cases h0 : f = 0
      · subst h0; rfl
      · have h2 : ¬ f * 2 = 0 := by omega
        simp [Addr.add, h2]
    · rw [List.getElem_drop] at hu
      rw [List.length_drop] at hi
      have := hc' (f + i) (by omega) t u hu
      rwa [show off + ((f + i) * 2 + t) = off + f * 2 + (i * 2 + t) by rw [Nat.add_mul]; omega] at this
theorem runC_last {a : Option Addr} {n cap f : Nat} (hf : f ≤ n) (hc : n ≤ cap) (W : World) : (Instr.slice 54 (.slice a n cap) (some (.int .i64 (f : Int))) none none).run Try.prog W = .ok (.slice (if cap = f then a else a.map (·.add (f * 2))) (n - f) (cap - f)) W := by
  rw [run_slice_l (P := Try.prog) (w := W) (t := 54) (a := a) (len := n) (cap := cap) (by kernel_rfl) .i64 f (by omega) (by omega)]
  have hs : (sizeOf (Try.prog.elem 54)).run Try.prog W = .ok 2 W := by kernel_rfl
  rw [hs]
  simp [Result.andThen, sliced]
theorem djoin_end {wz : World} {tmps : Array Value} {a1 a5 a6 a7 a3 : Int} {a2 : ByteArray} {a4 : Value} {bo : Bool} {r : Nat} {T : TypeId} {R : Ending → World → Prop}
    (hr : BoxAt wz r #[.int .u8 a1, .string a2, .int .i64 a3, a4, .int .i64 a5, .int .i64 a6, .int .i64 a7] T) (h4 : tmps.getD 2 undef = .pointer (some ⟨r, 0, none⟩)) (h5 : tmps.getD 3 undef = .bool bo) (hR : R (.returned (.tuple #[.agg #[.int .u8 a1, .string a2, .int .i64 a3, a4, .int .i64 a5, .int .i64 a6, .int .i64 a7], .bool bo])) wz) :
    bodyPost Try.prog Try.f33 R Exit.ret { tmps := tmps, defers := [] } wz := by
  have c0 : wz.cell? ⟨r, 0, none⟩ = some (.int .u8 a1) := hr.cell 0
  have c1 : wz.cell? ⟨r, 1, none⟩ = some (.string a2) := hr.cell 1
  have c2 : wz.cell? ⟨r, 2, none⟩ = some (.int .i64 a3) := hr.cell 2
  have c3 : wz.cell? ⟨r, 3, none⟩ = some a4 := hr.cell 3
  have c4 : wz.cell? ⟨r, 4, none⟩ = some (.int .i64 a5) := hr.cell 4
  have c5 : wz.cell? ⟨r, 5, none⟩ = some (.int .i64 a6) := hr.cell 5
  have c6 : wz.cell? ⟨r, 6, none⟩ = some (.int .i64 a7) := hr.cell 6
  refine bodyPost_ret (v := .tuple #[.agg #[.int .u8 a1, .string a2, .int .i64 a3, a4, .int .i64 a5, .int .i64 a6, .int .i64 a7], .bool bo]) ?_ rfl hR
  have h4' : tmps[2]?.getD undef = .pointer (some ⟨r, 0, none⟩) := by simpa using h4
  have h5' : tmps[3]?.getD undef = .bool bo := by simpa using h5
  simp [results, Try.results33, go_sem, h4', h5', c0, c1, c2, c3, c4, c5, c6]
/-- What waits: nothing just when all open ones were given. -/
theorem waitsL_nil : ∀ (k : Nat) (l : List Ch), k ≤ l.length → (waitsL k l = [] ↔ ∀ c ∈ l.take k, c.given = true)
  | 0, l, _ => by simp [waitsL]
  | k + 1, l, h => by
    have ih := waitsL_nil k l (by omega)
    have hk : k < l.length := by omega
    have hg : l.getD k default = l[k] := by rw [List.getD_eq_getElem?_getD, List.getElem?_eq_getElem hk]; rfl
    unfold waitsL
    rw [List.append_eq_nil_iff, ih, hg, List.take_succ_eq_append_getElem hk]
    constructor
    · rintro ⟨h1, h2⟩ c hc
      rcases List.mem_append.1 hc with hc | hc
      · exact h1 c hc
      · rw [List.mem_singleton] at hc
        subst hc
        by_cases hg2 : l[k].given = true
        · exact hg2
        · rw [if_neg hg2] at h2; cases h2
    · intro h1
      refine ⟨fun c hc => h1 c (List.mem_append_left _ hc), ?_⟩
      rw [if_pos (h1 _ (List.mem_append_right _ (List.mem_singleton.2 rfl)))]
theorem waits_open {s : Vs} (hj : s.joined ≤ s.kids.length) (hd : ∀ c ∈ s.kids.take s.joined, c.given = true) : waitsV s = [] ↔ (openV s).any (fun c => !c.given) = false := by
  unfold waitsV openV
  rw [waitsL_nil _ _ (Nat.le_refl _), List.take_length, List.any_eq_false]
  constructor
  · intro h c hc
    simp [h c (List.mem_of_mem_drop hc)]
  · intro h c hc
    rw [← List.take_append_drop s.joined s.kids] at hc
    rcases List.mem_append.1 hc with hc | hc
    · exact hd c hc
    · simpa using h c hc
theorem Ru.swap {w0 : World} {Z q r : Nat} {pv : Value} {t : Tk} {av : Value} {f : Nat} {iv dv : Value} {I : List Int} {nd : List DnA} {s s' : St} {w : World} (h : Ru w0 Z q r pv t av f iv dv I nd s w) (e1 : s'.regs = s.regs) (e2 : s'.pc = s.pc) (e3 : s'.left = s.left) (e4 : s'.kids = s.kids) (e5 : s'.into = s.into) (e6 : s'.done = s.done) : Ru w0 Z q r pv t av f iv dv I nd s' w := by
  obtain ⟨g1, g2, g3, g4, g5, g6⟩ := s
  obtain ⟨k1, k2, k3, k4, k5, k6⟩ := s'
  simp only at e1 e2 e3 e4 e5 e6
  subst e1 e2 e3 e4 e5 e6
  exact ⟨h.box, h.regs, h.into, h.done, h.da, h.sep, h.dn, h.low, h.zq, h.ik, h.ifr⟩
section
variable {Z b q r : Nat} {pv : Value} {t : Tk} {av gv cv iv : Value} {s s' : Vs} {w w' : World}
theorem Fd.invS {p : List Fnc} (h : Fd Z b q r pv t av gv cv iv s w) (hi : InvV p t s) {f : Nat} (hf : f ≤ s.kids.length) : InvS p t (stV s f) := by
  have h1 := hi.k1
  have h2 := h.lf
  have h3 := hi.l0
  refine ⟨hi.rl, hi.pc0, hi.pc1, hi.l0, by simp [stV], by simp only [stV]; omega, by simp [stV], by simp [stV], fun d hd => ?_, by simp only [stV, List.length_nil]; omega⟩
  simp only [stV] at hd
  obtain ⟨c, hc, rfl⟩ := List.mem_map.1 (List.mem_of_mem_drop hd)
  exact hi.ir c hc
/-- The task's struct and registers turn. -/
theorem Fd.runX {f : Nat} {iv' : Value} (h : Fd Z b q r pv t av gv cv iv s w) {S : Nat → Prop} {Es : List TypeId} (hF : Fr S w w') (hT : Typed S w Es) (g1 : DFrT ∉ Es) (g2 : BoolT ∉ Es) (g3 : ResT ∉ Es)
    (hr : Ru w' Z q r pv t av f iv' (.slice none 0 0) (s'.kids.map (·.into)) [] (stV s' f) w') (hf : s'.result = none → f = s'.joined) (e1 : s'.kids = s.kids) (e2 : s'.waits = s.waits) (e3 : s'.result = s.result) (hd : ∀ c ∈ s'.kids.take s'.joined, c.given = true) (hl : s'.left ≤ t.fuel) : Fd Z b q r pv t av gv cv iv' s' w' := by
  obtain ⟨wo, hb, hw⟩ := h.box
  refine ⟨⟨wo, by rw [e2, e3]; exact box_typed hb hF hT g1, by rw [e2]; exact hw⟩, ⟨f, hr, hf⟩, ?_, ?_, h.zb, hd, hl⟩
  · rw [e1]; exact own_typed h.gvn hF hT g2
  · rw [e1]; exact own_typed h.cam hF hT g3
theorem Fd.joinedX {k : Nat} (h : Fd Z b q r pv t av gv cv iv s w) (hr : s.result ≠ none) (hd : ∀ c ∈ s.kids.take k, c.given = true) : Fd Z b q r pv t av gv cv iv { s with joined := k } w := by
  obtain ⟨f, h1, _⟩ := h.run
  exact ⟨h.box, ⟨f, h1, fun e => absurd e hr⟩, h.gvn, h.cam, h.zb, hd, h.lf⟩
end
def JoinDP (Z b q r : Nat) (pv : Value) (t : Tk) (av gv cv iv : Value) (R : Option Sp × Vs) (w : World) (e : Ending) (w' : World) : Prop :=
  e = .returned (.tuple #[.agg (match R.1 with | none => zSp | some y => spC y (.slice none 0 0)), .bool R.1.isSome]) ∧ Fd Z b q r pv t av gv cv iv R.2 w' ∧ Fr (fun i => i = b ∨ i = q ∨ i = r) w w'
set_option maxHeartbeats 6400000 in
set_option maxRecDepth 100000 in
theorem djoin_any {Z b q r : Nat} {pv : Value} {t : Tk} {av gv cv iv : Value} {s : Vs} {w : World} {p : List Fnc} (o : Opr) (h : Fd Z b q r pv t av gv cv iv s w) (hbo : BoxAt w b (fdC q gv cv s.waits o s.result) DFrT) (hrs : s.result = none) (hi : InvV p t s) (ho : OpOk p (fnAt p t.fn) o) (hk : o.k = 13 ∨ o.k = 14) :
    Calls Try.prog 33 #[.pointer (some ⟨b, 0, none⟩)] w (JoinDP Z b q r pv t av gv cv iv (joinV s o) w) := by
  have hA := alV w (.cells zSp StopT)
  have HA := Lib.hid hA
  have HZ := Lib.hid h.z
  have H := Lib.hid (h.below hA)
  have HBO := Lib.hid (hbo.below hA)
  have HSB := Lib.hid (show BoxAt (w.alloc (.cells zSp StopT)) w.heap.size zSp StopT from heap_alloc_new _ _)
  have HI := Lib.hid (And.intro hi (And.intro ho hk))
  have HRS := Lib.hid hrs
  have hk16 := hi.k1
  clear h hbo hi ho hA hrs hk
  go_enter Try.func33, Try.ntmps33
  go_upto_region 1 with fail
  simp only [zSp] at HA H HBO HSB
  generalize w.alloc (.cells #[.int .u8 0, .string ⟨#[]⟩, .int .i64 0, .slice none 0 0, .int .i64 0, .int .i64 0, .int .i64 0] StopT) = wa at *
  obtain ⟨sb, hsb⟩ : ∃ n, w.heap.size = n := ⟨_, rfl⟩
  have HLE := Lib.hid (show w.heap.size ≤ sb by omega)
  rw [hsb] at HSB ⊢
  clear hsb
  have k3 := HBO.out.cell 3
  have f3 := HBO.out.frozen 3
  simp only [List.getElem?_toArray, List.getElem?_cons_zero, List.getElem?_cons_succ] at k3
  go_upto_region 2 with fail
  have hF1 : Fr (fun i => i = b) wa (wa.setCell ⟨b, 3, none⟩ (.bool true)) := (Fr.refl (fun i => i = b) wa).setCell (p := ⟨b, 3, none⟩) rfl _
  have hb1 : BoxAt (wa.setCell ⟨b, 3, none⟩ (.bool true)) b (fdC q gv cv (some o) o s.result) DFrT := Go.heap_setCell_same wa b 3 _ _ _ HBO.out
  have HB1 := Lib.hid hb1
  have H1 := Lib.hid (show Fd Z b q r pv t av gv cv iv { s with waits := some o } (wa.setCell ⟨b, 3, none⟩ (.bool true)) from H.out.boxX hF1 hb1 (fun o' e => by injection e) rfl rfl rfl rfl rfl (fun e => e))
  have HS1 := Lib.hid (HSB.out.fr hF1 (fun e => box_ne HBO.out HSB.out (by decide) e.symm))
  have HFR := Lib.hid (show Fr (fun i => i = b ∨ i = q ∨ i = r) w (wa.setCell ⟨b, 3, none⟩ (.bool true)) from (Fr.of_below HA.out).trans (hF1.mono fun i hi => .inl hi))
  clear k3 f3 hF1 hb1
  generalize wa.setCell ⟨b, 3, none⟩ (.bool true) = wb at *
  go_wp2_with fail
  refine (dmissing_any H1.out hk16).mono ?_
  rintro e w2 ⟨va, vc, rfl, ho2, hB⟩
  replace H1 := Lib.hid (H1.out.below hB)
  replace HB1 := Lib.hid (HB1.out.below hB)
  replace HSB := Lib.hid (HS1.out.below hB)
  replace HFR := Lib.hid (HFR.out.then hB)
  have HWO := Lib.hid (waits_open HI.out.1.jl H.out.dn)
  clear ho2 hB HS1 HBO
  rw [show waitsV { s with waits := some o } = waitsV s from rfl]
  obtain ⟨n, hn⟩ : ∃ n, (waitsV s).length = n := ⟨_, rfl⟩
  rw [hn]
  by_cases h0 : n = 0
  · have hany : (openV s).any (fun c => !c.given) = false := HWO.out.1 (List.length_eq_zero_iff.1 (hn.trans h0))
    subst h0
    have HJV := Lib.hid (show joinV s o = (let s1 : Vs := { s with waits := none, joined := s.kids.length }
      if firstE ((openV s).map (·.r.e)) ≠ 0 then endV s1 ⟨0, firstE ((openV s).map (·.r.e))⟩
      else
        let s2 : Vs := { s1 with regs := setAll s.regs ((openV s).map (·.into)) ((openV s).map (·.r)) }
        if o.k = 14 then endV s2 ⟨rg s2.regs o.a, 0⟩ else (none, s2)) from by unfold joinV; rw [if_neg (by rw [hany]; decide)])
    have HALL := Lib.hid (show ∀ c ∈ s.kids, c.given = true from by
      have := (waitsL_nil _ _ (Nat.le_refl s.kids.length)).1 (List.length_eq_zero_iff.1 hn)
      rwa [List.take_length] at this)
    clear hn hany
    have k3 := HB1.out.cell 3
    have f3 := HB1.out.frozen 3
    simp only [List.getElem?_toArray, List.getElem?_cons_zero, List.getElem?_cons_succ] at k3
    go_upto_region 6 with fail
    have hF2 : Fr (fun i => i = b) w2 (w2.setCell ⟨b, 3, none⟩ (.bool false)) := (Fr.refl (fun i => i = b) w2).setCell (p := ⟨b, 3, none⟩) rfl _
    have hb2 : BoxAt (w2.setCell ⟨b, 3, none⟩ (.bool false)) b (fdC q gv cv none o s.result) DFrT := Go.heap_setCell_same w2 b 3 _ _ _ HB1.out
    have HBX := Lib.hid (show BoxAt (w2.setCell ⟨b, 3, none⟩ (.bool false)) b (fdC q gv cv none o none) DFrT from by have h9 := hb2; rw [HRS.out] at h9; exact h9)
    have H2 := Lib.hid (show Fd Z b q r pv t av gv cv iv { s with waits := none } (w2.setCell ⟨b, 3, none⟩ (.bool false)) from H1.out.boxX hF2 hb2 (fun o' e => by cases e) rfl rfl rfl rfl rfl (fun e => e))
    replace HSB := Lib.hid (HSB.out.fr hF2 (fun e => box_ne HB1.out HSB.out (by decide) e.symm))
    replace HFR := Lib.hid (HFR.out.trans (hF2.mono fun i hi => .inl hi))
    clear k3 f3 hF2 hb2 H1 HB1
    generalize w2.setCell ⟨b, 3, none⟩ (.bool false) = w3 at *
    obtain ⟨f, hru, hff⟩ := H2.out.run
    obtain rfl : f = s.joined := hff HRS.out
    have HRU := Lib.hid hru
    have HCM := Lib.hid H2.out.cam
    obtain ⟨ca, cc, hcv⟩ := own_slice H2.out.cam
    subst hcv
    have hcap : s.kids.length ≤ cc := by
      obtain ⟨_, ⟨hv, h0⟩ | ⟨g', c', cur, hv, _, _, h3, _⟩⟩ := H2.out.cam
      · rw [h0]; exact Nat.zero_le _
      · injection hv with _ _ e
        rw [e]; exact h3
    have hjl := HI.out.1.jl
    have hsl := runC_last (a := ca) (n := s.kids.length) (cap := cc) (f := s.joined) hjl hcap
    have HRD := Lib.hid (show ∀ x : World, x.ownsRow Z ResT 2 (.slice ca s.kids.length cc) s.kids.length (s.kids.flatMap encC) → ReadsK encRs 2 x (.slice (if cc = s.joined then ca else ca.map (·.add (s.joined * 2))) (s.kids.length - s.joined) (cc - s.joined)) (stV { s with waits := none } s.joined).waits from fun x hx => by
      have e1 : s.kids.flatMap encC = (s.kids.map (·.r)).flatMap encRs := by rw [List.flatMap_map]; rfl
      rw [e1] at hx
      have hx' : x.ownsRow Z ResT 2 (.slice ca s.kids.length cc) (s.kids.map (·.r)).length ((s.kids.map (·.r)).flatMap encRs) := by rw [List.length_map]; exact hx
      have h5 := own_readsK (enc := encRs) (k := 2) encRs_len (by decide) hx'
      have h6 := readsR_drop (f := s.joined) (by rw [List.length_map]) h5 hjl hcap
      rw [← List.map_drop] at h6
      exact h6)
    have HIS := Lib.hid (H2.out.invS (show InvV p t { s with waits := none } from ⟨HI.out.1.rl, HI.out.1.pc0, HI.out.1.pc1, HI.out.1.l0, HI.out.1.l1, HI.out.1.k1, HI.out.1.jl, HI.out.1.ir, fun o' e => by cases e⟩) hjl)
    obtain ⟨wv, hwv⟩ : ∃ z, Value.slice (if cc = s.joined then ca else ca.map (·.add (s.joined * 2))) (s.kids.length - s.joined) (cc - s.joined) = z := ⟨_, rfl⟩
    rw [hwv] at hsl HRD
    clear hwv
    have HTY := Lib.hid (show Typed (fun i => i = q ∨ i = r) w3 [RunT, I64T] from (typed_box HRU.out.box).or (typed_box HRU.out.regs))
    obtain ⟨⟨je, js⟩, hjs⟩ : ∃ z, joinS (stV { s with waits := none } s.joined) = z := ⟨_, rfl⟩
    have HJS := Lib.hid hjs
    have HC := Lib.hid (show ∀ y, Below w3.heap.size w3 y → Calls Try.prog 50 #[.pointer (some ⟨q, 0, none⟩), wv] y (fun e w' => e = .returned (.int .i64 je) ∧ (∃ f', Ru w3 Z q r pv t av f' iv (.slice none 0 0) (s.kids.map (·.into)) [] js w') ∧ Fr (fun i => i = q ∨ i = r) w3 w') from fun y hy =>
      (rjoinR_any (HRU.out.below hy) HIS.out (own_below HCM.out hy) HRD.out).mono fun e w' hh => by
        obtain ⟨he, hf, hF⟩ := hh
        rw [hjs] at he hf
        exact ⟨he, hf, (Fr.of_below hy).trans hF⟩)
    obtain ⟨k0, _, k2, _, _, _, _, _, _, _, _, _⟩ := fd_cells HBX.out
    obtain ⟨_, _, _, _, _, _, _, x9, _, _⟩ := ru_cells HRU.out
    have s1 : IntKind.i64.wrap (s.joined : Int) = (s.joined : Int) := wrapN _ (by omega)
    have s2 : IntKind.i64.wrap ((s.joined : Int) + 1 - 1) = (s.joined : Int) := by rw [Int.add_sub_cancel]; exact s1
    clear hru hff hjs
    go_still_tail 17, (by kernel_rfl)
    change wpList _ _ _ _ _ w3.drew
    go_wp2_with fail
    refine (HC.out _ (Below.refl _ _).drew).mono ?_
    rintro e w5 ⟨rfl, ⟨f', hru5⟩, hF5⟩
    have HSB5 := Lib.hid (show BoxAt w5 sb #[.int .u8 0, .string ⟨#[]⟩, .int .i64 0, .slice none 0 0, .int .i64 0, .int .i64 0, .int .i64 0] StopT from box_typed HSB.out hF5 HTY.out (by decide))
    have HBX5 := Lib.hid (show BoxAt w5 b (fdC q gv (.slice ca s.kids.length cc) none o none) DFrT from box_typed HBX.out hF5 HTY.out (by decide))
    have HF5 := Lib.hid hF5
    replace HFR := Lib.hid (HFR.out.trans (hF5.mono fun i hi => .inr hi))
    have HR5 := Lib.hid hru5
    clear k0 k2 x9 s1 s2 hsl hF5 hru5 HSB HC
    by_cases h0 : je = 0
    · subst h0
      obtain ⟨s2, hs2⟩ : ∃ z : Vs, ({ s with waits := none, joined := s.kids.length, regs := setAll s.regs ((openV s).map (·.into)) ((openV s).map (·.r)) } : Vs) = z := ⟨_, rfl⟩
      have HE := Lib.hid (show firstE ((openV s).map (·.r.e)) = 0 ∧ js = stV s2 s.kids.length from by
        have h1 := HJS.out
        unfold joinS at h1
        have e1 : (stV { s with waits := none } s.joined).waits.map (·.e) = (openV s).map (·.r.e) := by unfold stV openV; simp only [List.map_map]; rfl
        rw [e1] at h1
        by_cases h2 : firstE ((openV s).map (·.r.e)) ≠ 0
        · rw [if_pos h2] at h1
          injection h1 with h3 h4
          exact absurd h3 h2
        · rw [if_neg h2] at h1
          injection h1 with h3 h4
          refine ⟨by simpa using h2, ?_⟩
          rw [← h4, ← hs2]
          have e2 : (s.kids.map (·.into)).drop s.joined = (openV s).map (·.into) := by unfold openV; rw [List.map_drop]
          have e3 : (s.kids.map (·.into)).drop s.kids.length = [] := List.drop_eq_nil_of_le (by simp)
          have e4 : (s.kids.drop s.kids.length).map (·.r) = [] := by rw [List.drop_length]; rfl
          unfold stV
          simp only [e2, e3, e4]
          rfl)
      have HD5 := Lib.hid (show Fd Z b q r pv t av gv (.slice ca s.kids.length cc) iv s2 w5 from by
        have h1 := HR5.out
        rw [HE.out.2] at h1
        have h3 : f' = s.kids.length := by
          have h4 := congrArg List.length h1.ifr.2
          have h5 := h1.ifr.1
          simp only [stV, List.length_drop, List.length_map] at h4 h5
          have h6 : s2.kids = s.kids := by rw [← hs2]
          rw [h6] at h4
          omega
        subst h3
        have e6 : s2.kids = s.kids := by rw [← hs2]
        refine H2.out.runX (s' := s2) HF5.out HTY.out (by decide) (by decide) (by decide) (f := s.kids.length) (by rw [e6]; exact h1.rebase) (fun _ => by rw [← hs2]) e6 (by rw [← hs2]) (by rw [← hs2]) (fun c hc => HALL.out c (by rw [← e6]; exact List.mem_of_mem_take hc)) (by rw [← hs2]; exact H2.out.lf))
      have HJ2 := Lib.hid (show joinV s o = if o.k = 14 then endV s2 ⟨rg s2.regs o.a, 0⟩ else (none, s2) from by
        rw [HJV.out]
        show (if firstE ((openV s).map (·.r.e)) ≠ 0 then _ else _) = _
        rw [if_neg (by rw [HE.out.1]; decide), ← hs2])
      have HS2 := Lib.hid (show s2.regs.length = s.regs.length ∧ s2.result = none ∧ s2.waits = none ∧ s2.kids = s.kids from by rw [← hs2]; exact ⟨setAll_length _ _ _, HRS.out, rfl, rfl⟩)
      clear hs2
      obtain ⟨k0, _, _, _, k4, _, k6, _, _, _, _, _⟩ := fd_cells HBX5.out
      by_cases h14 : o.k = 14
      · have h14b : (o.k == 14) = true := by simp [h14]
        rw [if_pos h14] at HJ2
        obtain ⟨f2, hru2, _⟩ := HD5.out.run
        have hrl : (s2.regs.length : Int) = (fnAt p t.fn).regs := by rw [HS2.out.1]; exact HI.out.1.rl
        have hoa := HI.out.2.1.a (.inr (.inr h14))
        have hoa0 := HI.out.2.1.a0
        obtain ⟨j, hj⟩ : ∃ j : Nat, o.a = j := ⟨o.a.toNat, by omega⟩
        have hjr : j < s2.regs.length := by omega
        have g0 := regs_cell hru2.regs (q := j) hjr
        obtain ⟨_, _, _, x5, _, _, _, _, _, _⟩ := ru_cells hru2
        have HRG := Lib.hid (show rg s2.regs o.a = s2.regs[j] from by unfold rg; rw [hj, Int.toNat_natCast, List.getD_eq_getElem?_getD, List.getElem?_eq_getElem hjr]; rfl)
        simp only [stV] at x5 g0
        generalize s2.regs[j] = rv at *
        have hj0 : (0 : Int) ≤ (j : Int) := by omega
        have hj1 : (j : Int) < (s2.regs.length : Int) := by omega
        have HBQ := Lib.hid hj
        rw [hj] at k6
        clear hrl hoa hoa0 hjr hj h14
        go_upto_region 10 with fail
        have HCE := Lib.hid (show ∀ y, Below w5.heap.size w5 y → Calls Try.prog 51 #[.pointer (some ⟨b, 0, none⟩), .agg #[.int .i64 rv, .int .i64 0]] y (fun e w' => e = .returned (.agg (spC (spDone ⟨rv, 0⟩) (.slice none 0 0))) ∧ Fd Z b q r pv t av gv (.slice ca s.kids.length cc) iv { s2 with result := some ⟨rv, 0⟩ } w' ∧ Fr (fun i => i = b) w5 w') from fun y hy =>
          (dends_any (⟨rv, 0⟩ : Rs) (HD5.out.below hy)).mono fun e w' hh => ⟨hh.1, hh.2.1, (Fr.of_below hy).trans hh.2.2⟩)
        clear k4 h14b
        go_still_tail 16, (by kernel_rfl)
        change wpList _ _ _ _ _ w5.drew
        go_wp2_with fail
        refine (HCE.out _ (Below.refl _ _).drew).mono ?_
        rintro e w6 ⟨rfl, hd6, hF6⟩
        have HD6 := Lib.hid hd6
        have HSB := Lib.hid (HSB5.out.fr hF6 (fun e => box_ne HBX5.out HSB5.out (by decide) e.symm))
        replace HFR := Lib.hid (HFR.out.trans (hF6.mono fun i hi => .inl hi))
        clear hd6 hF6 k0 k6 x5 g0
        have x0 := HSB.out.cell 0; have x1 := HSB.out.cell 1; have x2 := HSB.out.cell 2; have x3 := HSB.out.cell 3; have x4 := HSB.out.cell 4; have x5 := HSB.out.cell 5; have x6 := HSB.out.cell 6
        have g0 := HSB.out.frozen 0; have g1 := HSB.out.frozen 1; have g2 := HSB.out.frozen 2; have g3 := HSB.out.frozen 3; have g4 := HSB.out.frozen 4; have g5 := HSB.out.frozen 5; have g6 := HSB.out.frozen 6
        simp only [List.getElem?_toArray, List.getElem?_cons_zero, List.getElem?_cons_succ] at x0 x1 x2 x3 x4 x5 x6
        unfold spDone spC noTk
        go_wp2_with fail
        refine djoin_end (set7_box HSB.out _ _ _ _ _ _ _) rfl rfl ?_
        have hF := set7_fr w6 sb (.int .u8 4) (.string ⟨#[]⟩) (.int .i64 0) (.slice none 0 0) (.int .i64 0) (.int .i64 rv) (.int .i64 0)
        rw [HJ2.out, HRG.out]
        exact ⟨rfl, HD6.out.side HSB.out (Nat.le_trans HZ.out HLE.out) (by decide) hF, HFR.out.join hF (fun i hi => .inr (by subst hi; exact HLE.out))⟩
      · have h14b : (o.k == 14) = false := by simp [h14]
        rw [if_neg h14] at HJ2
        have HSB := Lib.hid HSB5.out
        clear h14
        have x0 := HSB.out.cell 0; have x1 := HSB.out.cell 1; have x2 := HSB.out.cell 2; have x3 := HSB.out.cell 3; have x4 := HSB.out.cell 4; have x5 := HSB.out.cell 5; have x6 := HSB.out.cell 6
        have g0 := HSB.out.frozen 0; have g1 := HSB.out.frozen 1; have g2 := HSB.out.frozen 2; have g3 := HSB.out.frozen 3; have g4 := HSB.out.frozen 4; have g5 := HSB.out.frozen 5; have g6 := HSB.out.frozen 6
        simp only [List.getElem?_toArray, List.getElem?_cons_zero, List.getElem?_cons_succ] at x0 x1 x2 x3 x4 x5 x6
        go_wp2_with fail
        refine djoin_end (set7_box HSB.out _ _ _ _ _ _ _) rfl rfl ?_
        have hF := set7_fr w5 sb (.int .u8 0) (.string ⟨#[]⟩) (.int .i64 0) (.slice none 0 0) (.int .i64 0) (.int .i64 0) (.int .i64 0)
        rw [HJ2.out]
        exact ⟨rfl, HD5.out.side HSB.out (Nat.le_trans HZ.out HLE.out) (by decide) hF, HFR.out.join hF (fun i hi => .inr (by subst hi; exact HLE.out))⟩
    · have h0b : (je != 0) = true := by simpa using h0
      have HE := Lib.hid (show js = stV { s with waits := none } s.joined ∧ je = firstE ((openV s).map (·.r.e)) ∧ je ≠ 0 from by
        have h1 := HJS.out
        unfold joinS at h1
        have e1 : (stV { s with waits := none } s.joined).waits.map (·.e) = (openV s).map (·.r.e) := by unfold stV openV; simp only [List.map_map]; rfl
        rw [e1] at h1
        by_cases h2 : firstE ((openV s).map (·.r.e)) ≠ 0
        · rw [if_pos h2] at h1
          injection h1 with h3 h4
          exact ⟨h4.symm, h3.symm, h0⟩
        · rw [if_neg h2] at h1
          injection h1 with h3 h4
          exact absurd h3.symm h0)
      have HJ2 := Lib.hid (show joinV s o = (some (spDone ⟨0, je⟩), { s with waits := none, joined := s.kids.length, result := some ⟨0, je⟩ }) from by
        rw [HJV.out]
        show (if firstE ((openV s).map (·.r.e)) ≠ 0 then _ else _) = _
        rw [← HE.out.2.1, if_pos HE.out.2.2]
        rfl)
      have HD5 := Lib.hid (show Fd Z b q r pv t av gv (.slice ca s.kids.length cc) iv { s with waits := none } w5 from by
        have h1 := HR5.out
        rw [HE.out.1] at h1
        have h2 := h1.ifr
        have h3 : f' = s.joined := by
          have h4 := congrArg List.length h2.2
          have h5 := h2.1
          simp only [stV, List.length_drop, List.length_map] at h4 h5
          omega
        subst h3
        exact H2.out.runX HF5.out HTY.out (by decide) (by decide) (by decide) h1.rebase (fun _ => rfl) rfl rfl rfl H2.out.dn H2.out.lf)
      clear h0
      go_wp2_with fail
      refine (dends_any (⟨0, je⟩ : Rs) HD5.out).mono ?_
      rintro e w6 ⟨rfl, hd6, hF6⟩
      have HD6 := Lib.hid (show Fd Z b q r pv t av gv (.slice ca s.kids.length cc) iv { s with waits := none, joined := s.kids.length, result := some ⟨0, je⟩ } w6 from hd6.joinedX (k := s.kids.length) (by simp) (by rw [List.take_length]; exact HALL.out))
      have HSB := Lib.hid (HSB5.out.fr hF6 (fun e => box_ne HBX5.out HSB5.out (by decide) e.symm))
      replace HFR := Lib.hid (HFR.out.trans (hF6.mono fun i hi => .inl hi))
      clear hd6 hF6
      have x0 := HSB.out.cell 0; have x1 := HSB.out.cell 1; have x2 := HSB.out.cell 2; have x3 := HSB.out.cell 3; have x4 := HSB.out.cell 4; have x5 := HSB.out.cell 5; have x6 := HSB.out.cell 6
      have g0 := HSB.out.frozen 0; have g1 := HSB.out.frozen 1; have g2 := HSB.out.frozen 2; have g3 := HSB.out.frozen 3; have g4 := HSB.out.frozen 4; have g5 := HSB.out.frozen 5; have g6 := HSB.out.frozen 6
      simp only [List.getElem?_toArray, List.getElem?_cons_zero, List.getElem?_cons_succ] at x0 x1 x2 x3 x4 x5 x6
      unfold spDone spC noTk
      go_wp2_with fail
      refine djoin_end (set7_box HSB.out _ _ _ _ _ _ _) rfl rfl ?_
      have hF := set7_fr w6 sb (.int .u8 4) (.string ⟨#[]⟩) (.int .i64 0) (.slice none 0 0) (.int .i64 0) (.int .i64 0) (.int .i64 je)
      rw [HJ2.out]
      exact ⟨rfl, HD6.out.side HSB.out (Nat.le_trans HZ.out HLE.out) (by decide) hF, HFR.out.join hF (fun i hi => .inr (by subst hi; exact HLE.out))⟩
  · have h1 : (0 : Int) < n := by omega
    have hany : (openV s).any (fun c => !c.given) = true := by
      cases ha : (openV s).any (fun c => !c.given)
      · have := HWO.out.2 ha
        rw [this] at hn
        exact absurd hn.symm h0
      · rfl
    have HJV := Lib.hid (show joinV s o = (some ⟨3, noTk, ⟨0, 0⟩⟩, { s with waits := some o }) from by unfold joinV; rw [if_pos hany])
    clear hn h0 hany
    have x0 := HSB.out.cell 0; have x1 := HSB.out.cell 1; have x2 := HSB.out.cell 2; have x3 := HSB.out.cell 3; have x4 := HSB.out.cell 4; have x5 := HSB.out.cell 5; have x6 := HSB.out.cell 6
    have g0 := HSB.out.frozen 0; have g1 := HSB.out.frozen 1; have g2 := HSB.out.frozen 2; have g3 := HSB.out.frozen 3; have g4 := HSB.out.frozen 4; have g5 := HSB.out.frozen 5; have g6 := HSB.out.frozen 6
    simp only [List.getElem?_toArray, List.getElem?_cons_zero, List.getElem?_cons_succ] at x0 x1 x2 x3 x4 x5 x6
    go_wp2_with fail
    refine djoin_end (set7_box HSB.out _ _ _ _ _ _ _) rfl rfl ?_
    have hF := set7_fr w2 sb (.int .u8 3) (.string ⟨#[]⟩) (.int .i64 0) (.slice none 0 0) (.int .i64 0) (.int .i64 0) (.int .i64 0)
    rw [HJV.out]
    exact ⟨rfl, H1.out.side HSB.out (Nat.le_trans HZ.out HLE.out) (by decide) hF, HFR.out.join hF (fun i hi => .inr (by subst hi; exact HLE.out))⟩
end Go.Proofs.Ytdhbjejejeljoaa
namespace Go.Proofs.Ytdhbjejejeljoaa
open Go.RowKit Go.Sort Go.Lib

theorem flat_setB (L : List Ch) (i : Nat) (h : i < L.length) (z : Rs) : (L.flatMap encB).set i (.bool true) = (L.set i ⟨L[i].into, true, z⟩).flatMap encB := by
  induction L generalizing i with
  | nil => simp at h
  | cons g L ih =>
    cases i with
    | zero => simp [encB]
    | succ i =>
      rw [List.flatMap_cons, List.set_cons_succ, List.flatMap_cons, List.set_append_right _ _ (by simp [encB])]
      rw [show i + 1 - (encB g).length = i by simp [encB], ih i (by simpa using h)]
      simp
theorem flat_setC (L : List Ch) (i : Nat) (h : i < L.length) (z : Rs) : ((L.flatMap encC).set (i * 2) (.int .i64 z.v)).set (i * 2 + 1) (.int .i64 z.e) = (L.set i ⟨L[i].into, true, z⟩).flatMap encC := by
  induction L generalizing i with
  | nil => simp at h
  | cons g L ih =>
    cases i with
    | zero => simp [encC, encRs]
    | succ i =>
      rw [List.flatMap_cons, List.set_cons_succ, List.flatMap_cons, List.set_append_right _ _ (by simp [encC, encRs]; omega)]
      rw [show (i + 1) * 2 - (encC g).length = i * 2 by simp [encC, encRs]; omega]
      rw [List.set_append_right _ _ (by simp [encC, encRs]; omega)]
      rw [show (i + 1) * 2 + 1 - (encC g).length = i * 2 + 1 by simp [encC, encRs]; omega, ih i (by simpa using h)]
      simp
theorem map_into (L : List Ch) (i : Nat) (h : i < L.length) (z : Rs) : (L.set i ⟨L[i].into, true, z⟩).map (·.into) = L.map (·.into) := by
  apply List.ext_getElem
  · simp
  · intro j h1 h2
    rw [List.getElem_map, List.getElem_map, List.getElem_set]
    by_cases e : i = j
    · subst e; simp
    · rw [if_neg e]
/-- A child's result is laid. -/
theorem Fd.give {Z b q r g c gc cc k : Nat} {pv : Value} {t : Tk} {av iv : Value} {s : Vs} {w : World} {z : Rs} (h : Fd Z b q r pv t av (.slice (some ⟨g, 0, none⟩) s.kids.length gc) (.slice (some ⟨c, 0, none⟩) s.kids.length cc) iv s w) (hk : k < s.kids.length) :
    Fd Z b q r pv t av (.slice (some ⟨g, 0, none⟩) s.kids.length gc) (.slice (some ⟨c, 0, none⟩) s.kids.length cc) iv { s with kids := s.kids.set k ⟨s.kids[k].into, true, z⟩ } (((w.setCell ⟨g, k, none⟩ (.bool true)).setCell ⟨c, k * 2, none⟩ (.int .i64 z.v)).setCell ⟨c, k * 2 + 1, none⟩ (.int .i64 z.e)) ∧
    Fr (fun i => i = g ∨ i = c) w (((w.setCell ⟨g, k, none⟩ (.bool true)).setCell ⟨c, k * 2, none⟩ (.int .i64 z.v)).setCell ⟨c, k * 2 + 1, none⟩ (.int .i64 z.e)) := by
  have hF1 : Fr (fun i => i = g) w (w.setCell ⟨g, k, none⟩ (.bool true)) := (Fr.refl (fun i => i = g) w).setCell (p := ⟨g, k, none⟩) rfl _
  have hT1 : Typed (fun i => i = g) w [BoolT] := fun i hi hl => typed_own h.gvn i (by rw [hi]; rfl) hl
  have hg1 := own_set h.gvn (j := k) (v := .bool true)
  have hc1 := own_typed h.cam hF1 hT1 (by decide)
  have hF2 : Fr (fun i => i = c) (w.setCell ⟨g, k, none⟩ (.bool true)) (((w.setCell ⟨g, k, none⟩ (.bool true)).setCell ⟨c, k * 2, none⟩ (.int .i64 z.v)).setCell ⟨c, k * 2 + 1, none⟩ (.int .i64 z.e)) := ((Fr.refl (fun i => i = c) _).setCell (p := ⟨c, k * 2, none⟩) rfl _).setCell (p := ⟨c, k * 2 + 1, none⟩) rfl _
  have hT2 : Typed (fun i => i = c) (w.setCell ⟨g, k, none⟩ (.bool true)) [ResT] := fun i hi hl => typed_own hc1 i (by rw [hi]; rfl) hl
  have hc2 := own_set (own_set hc1 (j := k * 2) (v := .int .i64 z.v)) (j := k * 2 + 1) (v := .int .i64 z.e)
  have hg2 := own_typed hg1 hF2 hT2 (by decide)
  rw [flat_setB _ _ hk z] at hg2
  rw [flat_setC _ _ hk] at hc2
  have hF : Fr (fun i => i = g ∨ i = c) w (((w.setCell ⟨g, k, none⟩ (.bool true)).setCell ⟨c, k * 2, none⟩ (.int .i64 z.v)).setCell ⟨c, k * 2 + 1, none⟩ (.int .i64 z.e)) := (hF1.mono fun i hi => .inl hi).trans (hF2.mono fun i hi => .inr hi)
  obtain ⟨wo, hb, hw⟩ := h.box
  obtain ⟨f, hr, hf⟩ := h.run
  have hz1 : ∀ i, i = g → Z ≤ i := fun i hi => (h.gvn.lt i (by rw [hi]; rfl)).1
  have hz2 : ∀ i, i = c → Z ≤ i := fun i hi => (hc1.lt i (by rw [hi]; rfl)).1
  have hr2 := (hr.other hF1 hT1 hz1 (by decide) (by decide) (by decide) (by decide)).other hF2 hT2 hz2 (by decide) (by decide) (by decide) (by decide)
  have hm := map_into s.kids k hk z
  refine ⟨⟨⟨wo, box_typed (box_typed hb hF1 hT1 (by decide)) hF2 hT2 (by decide), hw⟩, ⟨f, ?_, hf⟩, by simpa using hg2, by simpa using hc2, h.zb, fun x hx => ?_, h.lf⟩, hF⟩
  · simp only [hm]
    exact (hr2.rebase).swap rfl rfl rfl (by simp [stV]) (by simp only [stV, hm]) rfl
  · simp only at hx
    rw [List.take_set] at hx
    rcases List.mem_or_eq_of_mem_set hx with e | e
    · exact h.dn x e
    · rw [e]
def GiveDP (Z b q r : Nat) (pv : Value) (t : Tk) (av gv cv iv : Value) (s : Vs) (R : Int × Vs) (w : World) (e : Ending) (w' : World) : Prop :=
  e = .returned (.int .i64 R.1) ∧ Fd Z b q r pv t av gv cv iv R.2 w' ∧ Fr (fun i => gv.ownBlock = some i ∨ cv.ownBlock = some i) w w' ∧ (s.result ≠ none → Below w.heap.size w w')
theorem GiveDP.bad {Z b q r : Nat} {pv : Value} {t : Tk} {av gv cv iv : Value} {s : Vs} {n : Int} {R : Int × Vs} {w w' : World} (h : Fd Z b q r pv t av gv cv iv s w') (hB : Below w.heap.size w w') (hR : R = (n, s)) : GiveDP Z b q r pv t av gv cv iv s R w (.returned (.int .i64 n)) w' := by
  rw [hR]; exact ⟨rfl, h, .of_below hB, fun _ => hB⟩
set_option maxHeartbeats 6400000 in
set_option maxRecDepth 100000 in
theorem dgive_any {Z b q r : Nat} {pv : Value} {t : Tk} {av gv cv iv : Value} {s : Vs} {w : World} (c : Int) (z : Rs) (h : Fd Z b q r pv t av gv cv iv s w) (hk16 : s.kids.length ≤ 16) :
    Calls Try.prog 14 #[.pointer (some ⟨b, 0, none⟩), .int .i64 c, .agg #[.int .i64 z.v, .int .i64 z.e]] w (GiveDP Z b q r pv t av gv cv iv s (giveV s c z) w) := by
  have hA := alV w (.cells (resC z) ResT)
  have HA := Lib.hid hA
  have H := Lib.hid (h.below hA)
  have HRB := Lib.hid (show BoxAt (w.alloc (.cells (resC z) ResT)) w.heap.size (resC z) ResT from heap_alloc_new _ _)
  obtain ⟨ga, gc, hgv⟩ := own_slice h.gvn
  subst hgv
  obtain ⟨ca, cc, hcv⟩ := own_slice h.cam
  subst hcv
  clear h hA
  go_enter Try.func14, Try.ntmps14
  go_upto_region 1 with fail
  simp only [resC] at HA H HRB
  generalize w.alloc (.cells #[.int .i64 z.v, .int .i64 z.e] ResT) = wa at *
  obtain ⟨rb, hrb⟩ : ∃ n, w.heap.size = n := ⟨_, rfl⟩
  rw [hrb] at HRB ⊢
  clear hrb
  obtain ⟨wo, hbx, hwo⟩ := H.out.box
  have HBX := Lib.hid hbx
  obtain ⟨_, k1, k2, _, _, _, _, _, _, k9, _, _⟩ := fd_cells hbx
  clear hbx hwo
  by_cases h1 : c < 1 ∨ (s.kids.length : Int) < c
  · have HG := Lib.hid (show giveV s c z = (5, s) by unfold giveV; rw [if_pos h1])
    by_cases h2 : c < 1
    · have q1 : decide (c < 1) = true := by simpa using h2
      clear h1 h2
      go_wp2_with fail
      go_ret
      exact GiveDP.bad H.out HA.out HG.out
    · have q1 : decide (c < 1) = false := by simp; omega
      have q2 : (s.kids.length : Int) < c := by omega
      clear h1 h2
      go_wp2_with fail
      go_ret
      exact GiveDP.bad H.out HA.out HG.out
  · obtain ⟨k, hk⟩ : ∃ k : Nat, (k : Int) = c - 1 := ⟨(c - 1).toNat, by omega⟩
    have hkl : k < s.kids.length := by omega
    obtain ⟨g, cap1, cur1, hv, _, _, hgb, _, _, _, _⟩ := own_blockK H.out.gvn (by omega)
    injection hv with hv1 hv2 hv3
    subst hv1
    obtain ⟨cg, cap2, cur2, hv, _, _, hcb, _, _, _, _⟩ := own_blockK H.out.cam (by omega)
    injection hv with hv4 hv5 hv6
    subst hv4
    clear hv2 hv3 hv5 hv6
    have hkg : s.kids.getD (c - 1).toNat default = s.kids[k] := by
      rw [List.getD_eq_getElem?_getD, show (c - 1).toNat = k by omega, List.getElem?_eq_getElem hkl]; rfl
    have HGG := Lib.hid (show ∀ R, (if s.kids[k].given then (7, s) else if s.result.isSome then (3, s) else (0, { s with kids := s.kids.set k ⟨s.kids[k].into, true, z⟩ })) = R → giveV s c z = R from by
      intro R hR
      unfold giveV
      rw [if_neg h1, hkg, show (c - 1).toNat = k by omega]
      exact hR)
    have q1 : decide (c < 1) = false := by simp; omega
    have q2 : ¬ (s.kids.length : Int) < c := by omega
    have q3 : IntKind.i64.wrap (c - 1) = (k : Int) := by rw [← hk]; exact IntWalk.i64_in _ (by omega)
    have q4 : (k : Int) < s.kids.length := by omega
    have q5 : (0 : Int) ≤ k := by omega
    obtain ⟨b3, off3, c3, he3, _, hc3⟩ := (own_readsK (enc := encB) (k := 1) (fun _ => rfl) (by decide) H.out.gvn).at (by omega)
    injection he3 with he3 he31 he32
    injection he3 with he3
    injection he3 with e31 e32 _
    subst e31; subst e32
    have d1 : wa.cell? ⟨g, k, none⟩ = some (.bool s.kids[k].given) := by have := hc3 k hkl 0 _ rfl; simpa using this
    obtain ⟨b4, off4, c4, he4, _, hc4⟩ := (own_readsK (enc := encC) (k := 2) (fun _ => rfl) (by decide) H.out.cam).at (by omega)
    injection he4 with he4 he41 he42
    injection he4 with he4
    injection he4 with e41 e42 _
    subst e41; subst e42
    have m0 : wa.cell? ⟨cg, k * 2, none⟩ = some (.int .i64 s.kids[k].r.v) := by have := hc4 k hkl 0 _ rfl; simpa using this
    have m1 : wa.cell? ⟨cg, k * 2 + 1, none⟩ = some (.int .i64 s.kids[k].r.e) := by have := hc4 k hkl 1 _ rfl; simpa using this
    have f1 : wa.frozen? ⟨g, k, none⟩ = false := by simp [World.frozen?, hgb]
    have fc0 : wa.frozen? ⟨cg, k * 2, none⟩ = false := by simp [World.frozen?, hcb]
    have fc1 : wa.frozen? ⟨cg, k * 2 + 1, none⟩ = false := by simp [World.frozen?, hcb]
    have r0 := HRB.out.cell 0; have r1 := HRB.out.cell 1
    simp only [List.getElem?_toArray, List.getElem?_cons_zero, List.getElem?_cons_succ] at r0 r1
    have HV := Lib.hid (H.out.give (z := z) hkl)
    have HNE := Lib.hid (show g ≠ b ∧ g ≠ cg ∧ g ≠ rb from ⟨fun e => own_not_box H.out.gvn HBX.out (by decide) (by rw [e]; rfl), fun e => own_not_own H.out.gvn H.out.cam (by decide) (i := g) rfl (by rw [e]; rfl), fun e => own_not_box H.out.gvn HRB.out (by decide) (by rw [e]; rfl)⟩)
    clear hc3 hc4 h1 hkg he31 he32 he41 he42 hgb hcb
    obtain ⟨G, hG⟩ : ∃ G, s.kids[k].given = G := ⟨_, rfl⟩
    rw [hG] at d1 HGG
    clear hG
    cases G
    · cases hrs : s.result with
      | some zz =>
        rw [hrs] at k9
        have k9b : wa.cell? ⟨b, 9, none⟩ = some (.bool true) := k9
        have HE := Lib.hid (HGG.out _ rfl)
        rw [hrs] at HE
        clear hk r0 r1 m0 m1 f1 fc0 fc1 k9
        go_wp2_with fail
        go_ret
        exact GiveDP.bad H.out HA.out HE.out
      | none =>
        rw [hrs] at k9
        have k9b : wa.cell? ⟨b, 9, none⟩ = some (.bool false) := k9
        have HE := Lib.hid (show giveV s c z = (0, { s with kids := s.kids.set k ⟨s.kids[k].into, true, z⟩ }) from HGG.out _ (by rw [if_neg (by simp), if_neg (by rw [hrs]; simp)]))
        have HRS := Lib.hid hrs
        clear k9 hrs hk
        go_upto_region 8 with fail
        have hF4 : Fr (fun i => i = g) wa (wa.setCell ⟨g, k, none⟩ (.bool true)) := (Fr.refl (fun i => i = g) wa).setCell (p := ⟨g, k, none⟩) rfl _
        have keep : ∀ {p : Addr} {v : Value}, p.block ≠ g → wa.cell? p = some v → (wa.setCell ⟨g, k, none⟩ (.bool true)).cell? p = some v := fun hp hv => (World.cell?_setCell_far _ _ _ _ (fun e => hp e.symm)).trans hv
        replace k2 := keep (fun e => HNE.out.1 e.symm) k2
        replace m0 := keep (p := ⟨cg, k * 2, none⟩) (fun e => HNE.out.2.1 e.symm) m0
        replace m1 := keep (p := ⟨cg, k * 2 + 1, none⟩) (fun e => HNE.out.2.1 e.symm) m1
        replace r0 := keep (p := ⟨rb, 0, none⟩) (fun e => HNE.out.2.2 e.symm) r0
        replace r1 := keep (p := ⟨rb, 1, none⟩) (fun e => HNE.out.2.2 e.symm) r1
        have hcb4 := own_typed H.out.cam hF4 (fun i hi hl => typed_own H.out.gvn i (by rw [hi]; rfl) hl) (by decide)
        have fz : ∀ j, (wa.setCell ⟨g, k, none⟩ (.bool true)).frozen? ⟨cg, j, none⟩ = false := fun j => by
          obtain ⟨g', cap', cur', hv', _, _, hb', _⟩ := own_blockK hcb4 (by omega)
          injection hv' with hv' _ _
          injection hv' with hv'
          injection hv' with hv' _ _
          subst hv'
          simp [World.frozen?, hb']
        replace fc0 := fz (k * 2)
        replace fc1 := fz (k * 2 + 1)
        clear k1 k9b d1 f1 hF4 keep hcb4 fz
        generalize hw4 : wa.setCell ⟨g, k, none⟩ (.bool true) = w4 at *
        go_still_tail 8, (by kernel_rfl)
        change wpList _ _ _ _ _ w4.drew
        go_wp2_with fail
        go_ret
        have hX := HV.out
        try rw [hw4] at hX
        rw [HE.out]
        refine ⟨rfl, hX.1.below (Below.refl _ _).drew, ?_, fun h => absurd HRS.out h⟩
        exact ((Fr.of_below HA.out).trans (hX.2.mono fun i hi => by rcases hi with e | e <;> subst e; exact .inl rfl; exact .inr rfl)).drew
    · have HE := Lib.hid (HGG.out _ rfl)
      clear hk r0 r1 m0 m1 f1 fc0 fc1
      go_wp2_with fail
      go_ret
      exact GiveDP.bad H.out HA.out HE.out
end Go.Proofs.Ytdhbjejejeljoaa
namespace Go.Proofs.Ytdhbjejejeljoaa
open Go.RowKit Go.Sort Go.Lib

/-- What a step of the document's task leaves, against the plain frame. -/
theorem stp_end {p : List Fnc} {t : Tk} {s : Vs} (j : Nat) (h : s.left = 0) : stpR p t (stV s j) = (atV p t s, 130, stV s j) ∧ stepV p t s = endV s ⟨0, 130⟩ := by
  unfold stpR stepV
  rw [if_pos (show (stV s j).left = 0 from h), if_pos h]
  exact ⟨rfl, rfl⟩
theorem stp_other {p : List Fnc} {t : Tk} {s : Vs} (j : Nat) (h : s.left ≠ 0) (hp : plainB (atV p t s).k = false) :
    stpR p t (stV s j) = (atV p t s, 0, stV { s with left := s.left - 1, pc := s.pc + 1 } j) ∧ stepV p t s = opV2 p t { s with left := s.left - 1, pc := s.pc + 1 } (atV p t s) := by
  unfold stpR stepV
  have e : opAt p t (stV s j) = atV p t s := rfl
  rw [if_neg (show ¬ (stV s j).left = 0 from h), if_neg h, e, if_neg (by rw [hp]; decide)]
  exact ⟨rfl, rfl⟩
theorem stp_plain {p : List Fnc} {t : Tk} {s : Vs} (j : Nat) (h : s.left ≠ 0) (hp : plainB (atV p t s).k = true) :
    ∃ e s', stpR p t (stV s j) = (atV p t s, e, stV s' j) ∧ s'.kids = s.kids ∧ s'.joined = s.joined ∧ s'.waits = s.waits ∧ s'.result = s.result ∧ s'.left = s.left - 1 ∧ ((e = 0 ∧ stepV p t s = (none, s')) ∨ (e = 131 ∧ stepV p t s = endV s' ⟨0, e⟩)) := by
  have e0 : opAt p t (stV s j) = atV p t s := rfl
  have e1 : stpR p t (stV s j) = (atV p t s, opR { stV s j with left := s.left - 1 } (atV p t s)) := by
    unfold stpR
    rw [if_neg (show ¬ (stV s j).left = 0 from h), e0, if_pos hp]
    rfl
  have e2 : stepV p t s = opV2 p t { s with left := s.left - 1, pc := s.pc + 1 } (atV p t s) := by
    unfold stepV
    rw [if_neg h]
  rw [e1, e2]
  have hn : (atV p t s).k ≠ 12 ∧ (atV p t s).k ≠ 13 ∧ (atV p t s).k ≠ 14 := by
    unfold plainB at hp
    simp at hp
    exact ⟨hp.1.1, hp.1.2, hp.2⟩
  generalize atV p t s = o at hn ⊢
  unfold opR opV2
  by_cases h1 : o.k = 1
  · rw [if_pos h1, if_pos h1]
    exact ⟨0, { s with left := s.left - 1, pc := s.pc + 1, regs := s.regs.set o.d.toNat o.n }, rfl, rfl, rfl, rfl, rfl, rfl, .inl ⟨rfl, rfl⟩⟩
  rw [if_neg h1, if_neg h1]
  by_cases h10 : o.k = 10
  · rw [if_pos h10, if_pos h10]
    exact ⟨0, { s with left := s.left - 1, pc := o.n }, rfl, rfl, rfl, rfl, rfl, rfl, .inl ⟨rfl, rfl⟩⟩
  rw [if_neg h10, if_neg h10]
  by_cases h11 : o.k = 11
  · rw [if_pos h11, if_pos h11]
    by_cases hz : rg s.regs o.a = 0
    · refine ⟨0, { s with left := s.left - 1, pc := s.pc + 1 }, ?_, rfl, rfl, rfl, rfl, rfl, .inl ⟨rfl, ?_⟩⟩
      · show (o, 0, (if rg s.regs o.a = 0 then _ else _)) = _
        rw [if_pos hz]; rfl
      · show ((none : Option Sp), (if rg s.regs o.a = 0 then _ else _)) = _
        rw [if_pos hz]
    · refine ⟨0, { s with left := s.left - 1, pc := o.n }, ?_, rfl, rfl, rfl, rfl, rfl, .inl ⟨rfl, ?_⟩⟩
      · show (o, 0, (if rg s.regs o.a = 0 then _ else _)) = _
        rw [if_neg hz]; rfl
      · show ((none : Option Sp), (if rg s.regs o.a = 0 then _ else _)) = _
        rw [if_neg hz]
  rw [if_neg h11, if_neg h11, if_neg hn.1, if_neg (by rintro (e | e); exact hn.2.1 e; exact hn.2.2 e)]
  cases hc : calcP o.k (rg s.regs o.a) (rg s.regs o.b) with
  | none =>
    refine ⟨131, { s with left := s.left - 1, pc := s.pc + 1 }, ?_, rfl, rfl, rfl, rfl, rfl, .inr ⟨rfl, ?_⟩⟩
    · show (o, (match calcP o.k (rg s.regs o.a) (rg s.regs o.b) with | none => _ | some x => _)) = _
      rw [hc]; rfl
    · rfl
  | some x =>
    refine ⟨0, { s with left := s.left - 1, pc := s.pc + 1, regs := s.regs.set o.d.toNat x }, ?_, rfl, rfl, rfl, rfl, rfl, .inl ⟨rfl, ?_⟩⟩
    · show (o, (match calcP o.k (rg s.regs o.a) (rg s.regs o.b) with | none => _ | some x => _)) = _
      rw [hc]; rfl
    · rfl
/-- The frame's blocks but Given's and Came's. -/
def SmS (b q r : Nat) (iv : Value) : Nat → Prop := fun i => i = b ∨ i = q ∨ i = r ∨ iv.ownBlock = some i
theorem SmS.up {b q r : Nat} {gv cv iv : Value} : ∀ i, SmS b q r iv i → FdS b q r gv cv iv i := fun i h => by
  rcases h with e | e | e | e
  · exact .inl e
  · exact .inr (.inl e)
  · exact .inr (.inr (.inl e))
  · exact .inr (.inr (.inr (.inr (.inr e))))
/-- What a call leaves of the frame's own slices. -/
def KeepB (v v' : Value) (w : World) : Prop := v'.ownBlock = v.ownBlock ∨ ∀ i, v'.ownBlock = some i → w.heap.size ≤ i
structure FdL (b q r : Nat) (gv cv iv : Value) (w : World) (gv' cv' iv' : Value) (w' : World) : Prop where
  fr : Fr (FdS b q r gv cv iv) w w'
  og : KeepB gv gv' w
  oc : KeepB cv cv' w
  oi : KeepB iv iv' w
section
variable {b q r : Nat} {gv cv iv gv1 cv1 iv1 gv2 cv2 iv2 : Value} {w w1 w2 : World}
theorem KeepB.trans {a v c : Value} (h : KeepB a v w) (k : KeepB v c w1) (hs : w.heap.size ≤ w1.heap.size) : KeepB a c w := by
  rcases k with k | k
  · rcases h with h | h
    · exact .inl (k.trans h)
    · exact .inr (by rw [k]; exact h)
  · exact .inr (fun i hi => Nat.le_trans hs (k i hi))
theorem FdL.stay (hF : Fr (FdS b q r gv cv iv) w w1) : FdL b q r gv cv iv w gv cv iv w1 := ⟨hF, .inl rfl, .inl rfl, .inl rfl⟩
theorem FdL.trans (h : FdL b q r gv cv iv w gv1 cv1 iv1 w1) (k : FdL b q r gv1 cv1 iv1 w1 gv2 cv2 iv2 w2) : FdL b q r gv cv iv w gv2 cv2 iv2 w2 := by
  refine ⟨h.fr.join k.fr (fun i hi => ?_), h.og.trans k.og h.fr.size, h.oc.trans k.oc h.fr.size, h.oi.trans k.oi h.fr.size⟩
  have one : ∀ {v v' : Value}, KeepB v v' w → v'.ownBlock = some i → v.ownBlock = some i ∨ w.heap.size ≤ i := fun hk hv => by
    rcases hk with e | e
    · exact .inl (by rw [← e]; exact hv)
    · exact .inr (e i hv)
  unfold FdS at hi ⊢
  rcases hi with e | e | e | e | e | e
  · exact .inl (.inl e)
  · exact .inl (.inr (.inl e))
  · exact .inl (.inr (.inr (.inl e)))
  · rcases one h.og e with e | e
    · exact .inl (.inr (.inr (.inr (.inl e))))
    · exact .inr e
  · rcases one h.oc e with e | e
    · exact .inl (.inr (.inr (.inr (.inr (.inl e)))))
    · exact .inr e
  · rcases one h.oi e with e | e
    · exact .inl (.inr (.inr (.inr (.inr (.inr e)))))
    · exact .inr e
theorem SmS.trans {iv1 : Value} (h : Fr (SmS b q r iv) w w1) (hk : KeepB iv iv1 w) (k : Fr (SmS b q r iv1) w1 w2) : Fr (SmS b q r iv) w w2 := by
  refine h.join k (fun i hi => ?_)
  rcases hi with e | e | e | e
  · exact .inl (.inl e)
  · exact .inl (.inr (.inl e))
  · exact .inl (.inr (.inr (.inl e)))
  · rcases hk with k | k
    · exact .inl (.inr (.inr (.inr (by rw [← k]; exact e))))
    · exact .inr (k i e)
theorem FdL.more (h : FdL b q r gv cv iv w gv1 cv1 iv1 w1) (hB : Below w1.heap.size w1 w2) : FdL b q r gv cv iv w gv1 cv1 iv1 w2 := ⟨h.fr.then hB, h.og, h.oc, h.oi⟩
end
end Go.Proofs.Ytdhbjejejeljoaa
namespace Go.Proofs.Ytdhbjejejeljoaa
open Go.RowKit Go.Sort Go.Lib

abbrev BoolsT : TypeId := 53
abbrev RessT : TypeId := 54
theorem info_bool : (Try.prog.info? BoolT).map (fun i => (i.zero, i.size, i.bytes)) = some (some (.bool false), 1, 1) := by kernel_rfl
/-- Given holds G, Came holds C. -/
structure FdK (Z b q r : Nat) (pv : Value) (t : Tk) (av gv cv iv : Value) (G C : List Ch) (s : Vs) (w : World) : Prop where
  box : ∃ wo, BoxAt w b (fdC q gv cv s.waits wo s.result) DFrT ∧ ∀ o, s.waits = some o → wo = o
  run : Ru w Z q r pv t av s.joined iv (.slice none 0 0) (s.kids.map (·.into)) [] (stV s s.joined) w
  gvn : w.ownsRow Z BoolT 1 gv G.length (G.flatMap encB)
  cam : w.ownsRow Z ResT 2 cv C.length (C.flatMap encC)
  zb : Z ≤ b
  dn : ∀ c ∈ s.kids.take s.joined, c.given = true
  lf : s.left ≤ t.fuel
section
variable {Z b q r : Nat} {pv : Value} {t : Tk} {av gv cv iv : Value} {G C : List Ch} {s : Vs} {w w' : World}
theorem FdK.full (h : FdK Z b q r pv t av gv cv iv s.kids s.kids s w) : Fd Z b q r pv t av gv cv iv s w := ⟨h.box, ⟨s.joined, h.run, fun _ => rfl⟩, h.gvn, h.cam, h.zb, h.dn, h.lf⟩
theorem FdK.below (h : FdK Z b q r pv t av gv cv iv G C s w) (hB : Below w.heap.size w w') : FdK Z b q r pv t av gv cv iv G C s w' := by
  obtain ⟨wo, hb, hw⟩ := h.box
  exact ⟨⟨wo, hb.below hB, hw⟩, (h.run.below hB).rebase, own_below h.gvn hB, own_below h.cam hB, h.zb, h.dn, h.lf⟩
theorem FdK.side {x : Nat} {c : Array Value} {E : TypeId} (h : FdK Z b q r pv t av gv cv iv G C s w) (hb : BoxAt w x c E) (hx : Z ≤ x) (hE : E ∉ [DFrT, RunT, I64T, IntT, DoneT, BoolT, ResT]) (hF : Fr (fun i => i = x) w w') : FdK Z b q r pv t av gv cv iv G C s w' := by
  simp only [List.mem_cons, List.not_mem_nil, or_false, not_or] at hE
  obtain ⟨e1, e2, e3, e4, e5, e6, e7⟩ := hE
  obtain ⟨wo, hbx, hw⟩ := h.box
  have hT := typed_box hb
  have ne : ∀ {A : TypeId}, E ≠ A → A ∉ [E] := fun h e => h (List.mem_singleton.1 e).symm
  exact ⟨⟨wo, box_typed hbx hF hT (ne e1), hw⟩, (h.run.other hF hT (fun i hi => by subst hi; exact hx) (ne e2) (ne e3) (ne e4) (ne e5)).rebase, own_typed h.gvn hF hT (ne e6), own_typed h.cam hF hT (ne e7), h.zb, h.dn, h.lf⟩
theorem FdK.pushG {gv' : Value} {c : Ch} (h : FdK Z b q r pv t av gv cv iv G C s w) (hF : Fr (fun i => gv.ownBlock = some i) w w') (ho : w'.ownsRow Z BoolT 1 gv' (G.length + 1) (G.flatMap encB ++ encB c)) :
    FdK Z b q r pv t av gv' cv iv (G ++ [c]) C s (w'.setCell ⟨b, 1, none⟩ gv') ∧ Fr (fun i => i = b ∨ gv.ownBlock = some i) w (w'.setCell ⟨b, 1, none⟩ gv') ∧ Typed (fun i => i = b ∨ gv.ownBlock = some i) w [DFrT, BoolT] := by
  obtain ⟨wo, hb, hw⟩ := h.box
  have hTo := typed_own h.gvn
  have hb1 := box_typed hb hF hTo (by decide)
  have hF2 : Fr (fun i => i = b) w' (w'.setCell ⟨b, 1, none⟩ gv') := (Fr.refl (fun i => i = b) w').setCell (p := ⟨b, 1, none⟩) rfl gv'
  have hb2 : BoxAt (w'.setCell ⟨b, 1, none⟩ gv') b (fdC q gv' cv s.waits wo s.result) DFrT := Go.heap_setCell_same w' b 1 _ _ gv' hb1
  have hFa : Fr (fun i => i = b ∨ gv.ownBlock = some i) w (w'.setCell ⟨b, 1, none⟩ gv') := (hF.mono fun i hi => .inr hi).trans (hF2.mono fun i hi => .inl hi)
  have hTa : Typed (fun i => i = b ∨ gv.ownBlock = some i) w [DFrT, BoolT] := (typed_box hb).or hTo
  have hoo := own_typed ho hF2 (typed_box hb1) (by decide)
  refine ⟨⟨⟨wo, hb2, hw⟩, (h.run.other hFa hTa (fun i hi => ?_) (by decide) (by decide) (by decide) (by decide)).rebase, by simpa [List.flatMap_append] using hoo, own_typed h.cam hFa hTa (by decide), h.zb, h.dn, h.lf⟩, hFa, hTa⟩
  rcases hi with hi | hi
  · subst hi; exact h.zb
  · exact (h.gvn.lt i hi).1
theorem FdK.pushC {cv' : Value} {c : Ch} (h : FdK Z b q r pv t av gv cv iv G C s w) (hF : Fr (fun i => cv.ownBlock = some i) w w') (ho : w'.ownsRow Z ResT 2 cv' (C.length + 1) (C.flatMap encC ++ encC c)) :
    FdK Z b q r pv t av gv cv' iv G (C ++ [c]) s (w'.setCell ⟨b, 2, none⟩ cv') ∧ Fr (fun i => i = b ∨ cv.ownBlock = some i) w (w'.setCell ⟨b, 2, none⟩ cv') ∧ Typed (fun i => i = b ∨ cv.ownBlock = some i) w [DFrT, ResT] := by
  obtain ⟨wo, hb, hw⟩ := h.box
  have hTo := typed_own h.cam
  have hb1 := box_typed hb hF hTo (by decide)
  have hF2 : Fr (fun i => i = b) w' (w'.setCell ⟨b, 2, none⟩ cv') := (Fr.refl (fun i => i = b) w').setCell (p := ⟨b, 2, none⟩) rfl cv'
  have hb2 : BoxAt (w'.setCell ⟨b, 2, none⟩ cv') b (fdC q gv cv' s.waits wo s.result) DFrT := Go.heap_setCell_same w' b 2 _ _ cv' hb1
  have hFa : Fr (fun i => i = b ∨ cv.ownBlock = some i) w (w'.setCell ⟨b, 2, none⟩ cv') := (hF.mono fun i hi => .inr hi).trans (hF2.mono fun i hi => .inl hi)
  have hTa : Typed (fun i => i = b ∨ cv.ownBlock = some i) w [DFrT, ResT] := (typed_box hb).or hTo
  have hoo := own_typed ho hF2 (typed_box hb1) (by decide)
  refine ⟨⟨⟨wo, hb2, hw⟩, (h.run.other hFa hTa (fun i hi => ?_) (by decide) (by decide) (by decide) (by decide)).rebase, own_typed h.gvn hFa hTa (by decide), by simpa [List.flatMap_append] using hoo, h.zb, h.dn, h.lf⟩, hFa, hTa⟩
  rcases hi with hi | hi
  · subst hi; exact h.zb
  · exact (h.cam.lt i hi).1
/-- The frame's blocks lie from Z on. -/
theorem Fd.lo (h : Fd Z b q r pv t av gv cv iv s w) : ∀ i, FdS b q r gv cv iv i → Z ≤ i := by
  obtain ⟨f, hr, _⟩ := h.run
  intro i hi
  unfold FdS at hi
  rcases hi with e | e | e | e | e | e
  · rw [e]; exact h.zb
  · rw [e]; exact hr.zq.1
  · rw [e]; exact hr.zq.2
  · exact (h.gvn.lt i e).1
  · exact (h.cam.lt i e).1
  · exact (hr.into.lt i e).1
end
def fkV (s : Vs) (o : Opr) : Vs := { s with left := s.left - s.left / 2, kids := s.kids ++ [⟨o.d, false, ⟨0, 0⟩⟩] }
/-- Behind Kid. -/
def KidK (Z b q r sb : Nat) (pv : Value) (p : List Fnc) (t : Tk) (av gv cv iv : Value) (s : Vs) (o : Opr) (w0 : World) (ke : Int) (a : ByteArray) (n : Int) (v : Value) (u : Int) (w : World) : Prop :=
  BoxAt w sb zSp StopT ∧ Fr (SmS b q r iv) w0 w ∧
    ((ke ≠ 0 ∧ forkV p t s o = endV s ⟨0, ke⟩ ∧ Fd Z b q r pv t av gv cv iv s w) ∨
     (ke = 0 ∧ forkV p t s o = (some ⟨2, kidV p t s o, ⟨0, 0⟩⟩, fkV s o) ∧ a = (kidV p t s o).p ∧ n = (kidV p t s o).fn ∧ u = (kidV p t s o).fuel ∧ w.ownsRow w0.heap.size I64T 1 v (kidV p t s o).args.length ((kidV p t s o).args.flatMap encN1) ∧
       ∃ iv', KeepB iv iv' w0 ∧ FdK Z b q r pv t av gv cv iv' s.kids s.kids (fkV s o) w))
section
variable {Z b q r sb : Nat} {pv : Value} {p : List Fnc} {t : Tk} {av gv cv iv : Value} {s : Vs} {o : Opr} {w0 w w' : World} {ke : Int} {a : ByteArray} {n : Int} {v : Value} {u : Int}
theorem KidK.below (h : KidK Z b q r sb pv p t av gv cv iv s o w0 ke a n v u w) (hB : Below w.heap.size w w') : KidK Z b q r sb pv p t av gv cv iv s o w0 ke a n v u w' := by
  obtain ⟨h1, h2, h3⟩ := h
  refine ⟨h1.below hB, h2.then hB, ?_⟩
  rcases h3 with ⟨h3, h4, h5⟩ | ⟨h3, h4, h5, h6, h7, h8, iv', h9, h10⟩
  · exact .inl ⟨h3, h4, h5.below hB⟩
  · exact .inr ⟨h3, h4, h5, h6, h7, own_below h8 hB, iv', h9, h10.below hB⟩
theorem KidK.side {x : Nat} {c : Array Value} (h : KidK Z b q r sb pv p t av gv cv iv s o w0 ke a n v u w) (hb : BoxAt w x c TaskT) (hx : Z ≤ x) (hx0 : w0.heap.size ≤ x) (hF : Fr (fun i => i = x) w w') : KidK Z b q r sb pv p t av gv cv iv s o w0 ke a n v u w' := by
  obtain ⟨h1, h2, h3⟩ := h
  have hT := typed_box hb
  refine ⟨box_typed h1 hF hT (by decide), h2.join hF (fun i hi => .inr (by subst hi; exact hx0)), ?_⟩
  rcases h3 with ⟨h3, h4, h5⟩ | ⟨h3, h4, h5, h6, h7, h8, iv', h9, h10⟩
  · exact .inl ⟨h3, h4, h5.side hb hx (by decide) hF⟩
  · exact .inr ⟨h3, h4, h5, h6, h7, own_typed h8 hF hT (by decide), iv', h9, h10.side hb hx (by decide) hF⟩
/-- Kid against the plain frame. -/
theorem kid_fork (j : Nat) : (kidR t (stV s j) o = (132, stV s j) ∧ forkV p t s o = endV s ⟨0, 132⟩) ∨ (kidR t (stV s j) o = (133, stV s j) ∧ forkV p t s o = endV s ⟨0, 133⟩) ∨
    ((kidR t (stV s j) o).1 = 0 ∧ (kidR t (stV s j) o).2 = { stV s j with left := s.left - s.left / 2, kids := (s.kids.length : Int) + 1, into := (s.kids.map (·.into)).drop j ++ [o.d] } ∧ forkV p t s o = (some ⟨2, kidV p t s o, ⟨0, 0⟩⟩, fkV s o)) := by
  unfold kidR forkV
  by_cases h1 : 16 ≤ s.kids.length
  · rw [if_pos (show (16 : Int) ≤ (stV s j).kids by simp only [stV]; omega), if_pos h1]
    exact .inl ⟨rfl, rfl⟩
  · rw [if_neg (show ¬ (16 : Int) ≤ (stV s j).kids by simp only [stV]; omega), if_neg h1]
    by_cases h2 : kidB t.p ((s.kids.length : Int) + 1) = false
    · rw [if_pos (show kidB t.p ((stV s j).kids + 1) = false from h2), if_pos h2]
      exact .inr (.inl ⟨rfl, rfl⟩)
    · rw [if_neg (show ¬ kidB t.p ((stV s j).kids + 1) = false from h2), if_neg h2]
      exact .inr (.inr ⟨rfl, rfl, rfl⟩)
theorem dkid_any (h : Fd Z b q r pv t av gv cv iv s w) (hsb : BoxAt w sb zSp StopT) (hF0 : Fr (SmS b q r iv) w0 w) (hpr : ProgAt w pv p) (hwf : WfP p) (htk : TkOk p t) (hi : InvV p t s) (hl : s.left ≤ 100000) (ho : OpOk p (fnAt p t.fn) o) (hk : o.k = 12) (hrs : s.result = none) :
    Calls Try.prog 54 #[.pointer (some ⟨q, 0, none⟩), .agg #[.int .u8 o.k, .int .i64 o.d, .int .i64 o.a, .int .i64 o.b, .int .i64 o.n]] w fun e w' =>
      ∃ a n va vn vc u ke, e = .returned (.tuple #[.agg #[.string a, .int .i64 n, .slice va vn vc, .int .i64 u], .int .i64 ke]) ∧ KidK Z b q r sb pv p t av gv cv iv s o w0 ke a n (.slice va vn vc) u w' ∧ ∀ x c T, BoxAt w x c T → T ∉ [RunT, IntT] → BoxAt w' x c T := by
  obtain ⟨f, hru, hff⟩ := h.run
  obtain rfl : f = s.joined := hff hrs
  refine (rkidx_any (o := o) hru hwf htk hpr (h.invS hi hi.jl) hl ho hk).mono ?_
  rintro e w' ⟨a, n, v, u, ⟨va, vn, vc, rfl⟩, rfl, hF, he1, he2⟩
  have hT : Typed (fun i => i = q ∨ iv.ownBlock = some i) w [RunT, IntT] := (typed_box hru.box).or (typed_own hru.into)
  obtain ⟨wo, hbx, hwo⟩ := h.box
  refine ⟨a, n, va, vn, vc, u, _, rfl, ⟨box_typed hsb hF hT (by decide), hF0.trans (hF.mono fun i hi => by rcases hi with e | e; exact .inr (.inl e); exact .inr (.inr (.inr e))), ?_⟩, fun x c T hb hT' => box_typed hb hF hT hT'⟩
  have bad : ∀ k : Int, k ≠ 0 → kidR t (stV s s.joined) o = (k, stV s s.joined) → Fd Z b q r pv t av gv cv iv s w' := fun k hk0 hkr => by
    have h1 := he1 (by rw [hkr]; exact hk0)
    exact ⟨⟨wo, box_typed hbx hF hT (by decide), hwo⟩, ⟨s.joined, h1.rebase, fun _ => rfl⟩, own_typed h.gvn hF hT (by decide), own_typed h.cam hF hT (by decide), h.zb, h.dn, h.lf⟩
  rcases kid_fork (p := p) (t := t) (s := s) (o := o) s.joined with ⟨h1, h2⟩ | ⟨h1, h2⟩ | ⟨h1, h2, h3⟩
  · exact .inl ⟨by rw [h1]; show (132 : Int) ≠ 0; decide, by rw [h1]; exact h2, bad 132 (by decide) h1⟩
  · exact .inl ⟨by rw [h1]; show (133 : Int) ≠ 0; decide, by rw [h1]; exact h2, bad 133 (by decide) h1⟩
  · obtain ⟨g1, g2, g3, g4, iv', g5, g6⟩ := he2 h1
    rw [h2] at g5
    have hj := hi.jl
    refine .inr ⟨h1, h3, g1, g2, g3, owns_base g4 hF0.size, iv', ?_, ⟨⟨wo, box_typed hbx hF hT (by decide), hwo⟩, ?_, own_typed h.gvn hF hT (by decide), own_typed h.cam hF hT (by decide), h.zb, fun c hc => ?_, ?_⟩⟩
    · rcases g6 with e | e
      · exact .inl e
      · exact .inr (fun i hi => Nat.le_trans hF0.size (e i hi))
    · have e1 : (fkV s o).kids.map (·.into) = s.kids.map (·.into) ++ [o.d] := by unfold fkV; simp
      rw [e1]
      refine g5.rebase.swap rfl rfl rfl ?_ ?_ rfl
      · simp [stV, fkV]
      · simp only [stV]
        rw [e1, List.drop_append_of_le_length (by rw [List.length_map]; exact hj)]
        rfl
    · have : (fkV s o).kids.take (fkV s o).joined = s.kids.take s.joined := by
        unfold fkV
        simp only []
        rw [List.take_append_of_le_length hj]
      rw [this] at hc
      exact h.dn c hc
    · have h8 := h.lf
      have h9 := hi.l0
      show s.left - s.left / 2 ≤ t.fuel
      omega
end
end Go.Proofs.Ytdhbjejejeljoaa
