/- Contract: thresherref13.Run.Joined. -/
import Derived.Test.YtdhbjejejeljoaaEv25
namespace Go.Proofs.Ytdhbjejejeljoaa
open Go.RowKit Go.Sort Go.Lib

def RJoinP (w0 : World) (Z q r : Nat) (pv : Value) (t : Tk) (av : Value) (iv dv : Value) (I : List Int) (nd : List DnA) (s : St) (w : World) (e : Ending) (w' : World) : Prop :=
  e = .returned (.int .i64 (joinS s).1) ∧ (∃ f', Ru w0 Z q r pv t av f' iv dv I nd (joinS s).2 w') ∧ Fr (fun i => i = q ∨ i = r) w w'
theorem wrapN (m : Nat) (h : m ≤ 1000000) : IntKind.i64.wrap (m : Int) = m := by simp [IntKind.wrap, go_sem]; omega
set_option maxHeartbeats 6400000 in
set_option maxRecDepth 100000 in
theorem rjoin_any {w0 : World} {Z q r : Nat} {pv : Value} {t : Tk} {av : Value} {f : Nat} {iv dv : Value} {I : List Int} {nd : List DnA} {s : St} {w : World} {p : List Fnc} {wv : Value}
    (h : Ru w0 Z q r pv t av f iv dv I nd s w) (hi : InvS p t s) (hw : w.ownsRow Z ResT 2 wv s.waits.length (s.waits.flatMap encRs)) :
    Calls Try.prog 50 #[.pointer (some ⟨q, 0, none⟩), wv] w (RJoinP w0 Z q r pv t av iv dv I nd s w) := by
  obtain ⟨wa, wc, rfl⟩ := (own_readsK (enc := encRs) (k := 2) encRs_len (by decide) hw).slice
  obtain ⟨ia, ic, rfl⟩ := (own_readsK (enc := encN1) (k := 1) (fun _ => rfl) (by decide) h.into).slice
  have H := Lib.hid (And.intro h hw)
  have HI := Lib.hid hi
  have hkids : s.waits.length ≤ 16 := by have h1 := hi.il; have h2 := hi.ik; have h3 := hi.k1; omega
  clear h hi hw
  go_enter Try.func50, Try.ntmps50
  go_wp2_with fail
  go_loopg [5] s.waits.length (fun gk i wr => ∃ k : Nat, gk + k = s.waits.length ∧ i = .int .i64 k ∧ Hid (Below w.heap.size w wr ∧ ∀ j, (hj : j < s.waits.length) → j < k → s.waits[j].e = 0))
  case atStart => exact ⟨0, by omega, rfl, ⟨Below.refl _ _, fun j _ hj => absurd hj (by omega)⟩⟩
  case round =>
    obtain ⟨k, hk, rfl, HB⟩ := hrel
    by_cases hlt : k < s.waits.length
    · obtain ⟨b, off, c, he, hb, hc⟩ := (own_readsK (enc := encRs) (k := 2) encRs_len (by decide) (own_below H.out.2 HB.out.1)).at (by omega)
      injection he with he1 he2 he3
      subst he1
      have c0 : wr.cell? ⟨b, off + k * 2, none⟩ = some (.int .i64 s.waits[k].v) := hc k hlt 0 _ rfl
      have c1 : wr.cell? ⟨b, off + k * 2 + 1, none⟩ = some (.int .i64 s.waits[k].e) := hc k hlt 1 _ rfl
      have HFE := Lib.hid (show s.waits[k].e ≠ 0 → joinS s = (s.waits[k].e, s) from fun hne => by
        have h1 := firstE_hit (l := s.waits.map (·.e)) (k := k) (by simpa using hlt) (fun j hj hjk => by simpa using HB.out.2 j (by simpa using hj) hjk) (by simpa using hne)
        unfold joinS
        rw [h1]
        simp only [List.getElem_map]
        rw [if_pos hne])
      have HB2 := Lib.hid (show s.waits[k].e = 0 → ∀ j, (hj : j < s.waits.length) → j < k + 1 → s.waits[j].e = 0 from fun hz j hj hjk => by
        by_cases e : j = k
        · subst e; exact hz
        · exact HB.out.2 j hj (by omega))
      clear hc hb he2 he3
      generalize s.waits[k] = z at *
      by_cases h0 : z.e = 0
      · have h1 : (z.e != 0) = false := by simp [h0]
        have HZ := Lib.hid h0
        clear h0
        go_wp2_with fail
        go_roundg (gk - 1)
        case rel => exact ⟨k + 1, by omega, by go_num, ⟨HB.out.1, HB2.out HZ.out⟩⟩
        case measure => omega
      · have h1 : (z.e != 0) = true := by simpa using h0
        have HZ := Lib.hid h0
        clear h0
        go_wp2_with fail
        go_ret
        refine ⟨ret_int (by rw [HFE.out HZ.out]), ⟨f, ?_⟩, .of_below HB.out.1⟩
        rw [HFE.out HZ.out]
        exact H.out.1.below HB.out.1
    · have HJ := Lib.hid (show joinS s = (0, { s with regs := setAll s.regs s.into s.waits, into := [], waits := [] }) by
        unfold joinS
        have h1 : firstE (s.waits.map (·.e)) = 0 := firstE_none fun j hj => by
          have hj2 : j < s.waits.length := by simpa using hj
          simpa using HB.out.2 j hj2 (by omega)
        rw [if_neg (fun h => h h1)])
      have H2 := Lib.hid (show (Ru w0 Z q r pv t av f (.slice ia I.length ic) dv I nd s wr ∧ wr.ownsRow Z ResT 2 (.slice wa s.waits.length wc) s.waits.length (s.waits.flatMap encRs)) ∧ Fr (fun i => i = q ∨ i = r) w wr from ⟨⟨H.out.1.below HB.out.1, own_below H.out.2 HB.out.1⟩, .of_below HB.out.1⟩)
      clear HB
      go_wp2_with fail
      go_loopg [6] s.waits.length (fun gk i wr => ∃ k : Nat, gk + k = s.waits.length ∧ i = .int .i64 k ∧ Hid ((Ru w0 Z q r pv t av f (.slice ia I.length ic) dv I nd { s with regs := setAll s.regs (s.into.take k) (s.waits.take k) } wr ∧ wr.ownsRow Z ResT 2 (.slice wa s.waits.length wc) s.waits.length (s.waits.flatMap encRs)) ∧ Fr (fun i => i = q ∨ i = r) w wr))
      case atStart => exact ⟨0, by omega, rfl, by rw [List.take_zero, List.take_zero]; unfold setAll; exact H2⟩
      case round =>
        clear H2
        obtain ⟨k, hk, rfl, HR⟩ := hrel
        have HL := Lib.hid (show (setAll s.regs (s.into.take k) (s.waits.take k)).length = s.regs.length from setAll_length _ _ _)
        by_cases hlt : k < s.waits.length
        · have hil : k < s.into.length := by rw [HI.out.il]; exact hlt
          obtain ⟨b, off, c, he, hb, hc⟩ := (own_readsK (enc := encRs) (k := 2) encRs_len (by decide) HR.out.1.2).at (by omega)
          injection he with he1 he2 he3
          subst he1
          have hIl : f + k < I.length := by have h1 := hil; rw [H.out.1.ifr.2, List.length_drop] at h1; omega
          have hIe : s.into[k] = I[f + k] := by
            have h1 := H.out.1.ifr.2
            have : s.into[k]? = (I.drop f)[k]? := by rw [← h1]
            rw [List.getElem?_drop, List.getElem?_eq_getElem hil, List.getElem?_eq_getElem hIl] at this
            exact Option.some.inj this
          have hk16 : I.length ≤ 16 := by have h1 := H.out.1.ik; have h3 := HI.out.k1; omega
          obtain ⟨b2, off2, c2, he, hb2, hc2⟩ := (own_readsK (enc := encN1) (k := 1) (fun _ => rfl) (by decide) HR.out.1.1.into).at (by omega)
          injection he with he1 he4 he5
          subst he1
          have c0 : wr.cell? ⟨b, off + k * 2, none⟩ = some (.int .i64 s.waits[k].v) := hc k hlt 0 _ rfl
          have d0 : wr.cell? ⟨b2, off2 + (f + k), none⟩ = some (.int .i64 s.into[k]) := by have h := hc2 (f + k) hIl 0 _ rfl; rw [hIe]; simpa using h
          have hd := HI.out.ir _ (List.getElem_mem hil)
          have hrl := HI.out.rl
          have HST := Lib.hid (setAll_take (r := s.regs) hil hlt)
          obtain ⟨j, hq⟩ : ∃ j : Nat, s.into[k] = j := ⟨s.into[k].toNat, by omega⟩
          rw [hq] at d0
          have hqr : j < s.regs.length := by omega
          have HST2 := Lib.hid (show setAll s.regs (s.into.take (k + 1)) (s.waits.take (k + 1)) = (setAll s.regs (s.into.take k) (s.waits.take k)).set j s.waits[k].v by rw [HST.out, hq]; simp)
          obtain ⟨m, hm⟩ : ∃ m, f + k = m := ⟨_, rfl⟩
          rw [hm] at d0 hIl
          have s1 : IntKind.i64.wrap ((f : Int) + (k : Int)) = (m : Int) := by
            rw [show (f : Int) + k = (m : Int) by omega]
            exact wrapN m (by omega)
          have s2 : IntKind.i64.wrap (f : Int) = (f : Int) := wrapN f (by omega)
          have q3 : (m : Int) < I.length := by omega
          have q4 : (0 : Int) ≤ m := by omega
          clear hc hb he2 he3 hc2 hb2 he4 he5 HST hq hd hrl hIe hm hIl
          generalize s.waits[k] = z at *
          obtain ⟨x0, x1, x2, x5, x6, x7, x8, x9, x10, x11⟩ := ru_cells HR.out.1.1
          have g0 := regs_cell HR.out.1.1.regs (q := j) (by simp only []; rw [HL.out]; exact hqr)
          have g1 := HR.out.1.1.regs.frozen j
          simp only [] at x5
          rw [HL.out] at x5
          have q1 : (j : Int) < s.regs.length := by omega
          have q0 : (0 : Int) ≤ j := by omega
          have k1 : (k : Int) < s.waits.length := by omega
          have k0 : (0 : Int) ≤ k := by omega
          clear x0 x1 x2 x6 x7 x8 x11
          go_upto_region 9 with fail
          go_still_tail 23, (by kernel_rfl)
          change wpList _ _ _ _ _ wr.drew
          go_wp2_with fail
          have HN := Lib.hid (show (Ru w0 Z q r pv t av f (.slice (some ⟨b2, off2, none⟩) I.length ic) dv I nd { s with regs := setAll s.regs (s.into.take (k + 1)) (s.waits.take (k + 1)) } (wr.setCell ⟨r, j, none⟩ (.int .i64 z.v)).drew ∧ (wr.setCell ⟨r, j, none⟩ (.int .i64 z.v)).drew.ownsRow Z ResT 2 (.slice (some ⟨b, off, none⟩) s.waits.length wc) s.waits.length (s.waits.flatMap encRs)) ∧ Fr (fun i => i = q ∨ i = r) w (wr.setCell ⟨r, j, none⟩ (.int .i64 z.v)).drew from by
            have hF : Fr (fun i => i = r) wr (wr.setCell ⟨r, j, none⟩ (.int .i64 z.v)) := (Fr.refl (fun i => i = r) wr).setCell (p := ⟨r, j, none⟩) rfl _
            have h1 := HR.out.1.1.regsX hF (set_box HR.out.1.1.regs z.v) (by simp)
            rw [HST2.out]
            exact ⟨⟨h1.below (Below.refl _ _).drew, own_below (own_typed HR.out.1.2 hF (typed_box HR.out.1.1.regs) (by decide)) (Below.refl _ _).drew⟩, (HR.out.2.trans (hF.mono fun i hi => .inr hi)).drew⟩)
          clear HR x5 x9 x10 g0 g1 s1 s2
          go_roundg (gk - 1)
          case rel => exact ⟨k + 1, by omega, by go_num, HN⟩
          case measure => omega
        · have hkl : k = s.waits.length := by omega
          have HF := Lib.hid (show Ru w0 Z q r pv t av f (.slice ia I.length ic) dv I nd { s with regs := setAll s.regs s.into s.waits } wr ∧ Fr (fun i => i = q ∨ i = r) w wr from by
            have h1 := HR.out
            rw [List.take_of_length_le (by rw [HI.out.il]; omega), List.take_of_length_le (by omega)] at h1
            exact ⟨h1.1.1, h1.2⟩)
          clear hkl HR HL
          obtain ⟨x0, x1, x2, x5, x6, x7, x8, x9, x10, x11⟩ := ru_cells HF.out.1
          have f9 := HF.out.1.box.frozen 9
          have hk0 := HI.out.k0
          have hk1 := HI.out.k1
          go_wp2_with fail
          go_ret
          have hF : Fr (fun i => i = q) wr (wr.setCell ⟨q, 9, none⟩ (.int .i64 (s.kids + 1))) := (Fr.refl (fun i => i = q) wr).setCell (p := ⟨q, 9, none⟩) rfl _
          refine ⟨ret_int (by rw [HJ.out]), ⟨I.length, ?_⟩, HF.out.2.trans (hF.mono fun i hi => .inl hi)⟩
          rw [HJ.out]
          have hb : BoxAt (wr.setCell ⟨q, 9, none⟩ (.int .i64 (s.kids + 1))) q (ruC pv t av r I.length { s with regs := setAll s.regs s.into s.waits, into := [], waits := [] } (.slice ia I.length ic) dv) RunT := by
            have h1 := Go.heap_setCell_same wr q 9 _ _ (.int .i64 (s.kids + 1)) HF.out.1.box
            rw [← HF.out.1.ik] at h1
            rw [← HF.out.1.ik]
            exact h1
          exact HF.out.1.boxX (s' := { s with regs := setAll s.regs s.into s.waits, into := [], waits := [] }) hF hb rfl rfl HF.out.1.ik ⟨Nat.le_refl _, by simp⟩
end Go.Proofs.Ytdhbjejejeljoaa
