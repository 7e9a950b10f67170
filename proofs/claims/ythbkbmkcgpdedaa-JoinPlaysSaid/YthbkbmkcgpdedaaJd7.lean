/- The document's table: a row's parent; Fork; rows that are the same. -/
import Derived.Test.YthbkbmkcgpdedaaJd3
namespace Go.Proofs.Ythbkbmkcgpdedaa
open Go.RowKit Go.Sort Go.Lib

abbrev TaskT : TypeId := 38
theorem getL_find {l : List Rl} {n : Nm} {j : Nat} (hj : j < l.length) (he : l[j].1 = n) : (getL l n).isSome = true := by
  cases hg : getL l n with
  | none => exact absurd he (getL_none_iffV.1 hg _ (List.getElem_mem hj))
  | some _ => rfl
set_option maxHeartbeats 3200000 in
set_option maxRecDepth 100000 in
theorem dfresh_any {Z r : Nat} {mo : Int} {lv : Value} {l : List Rl} {w : World} (n : Nm) (h : Dt Z r mo lv l w) (hm : l.length ≤ 100000) :
    Calls Try.prog 38 #[RP r, nmA n] w fun e w' => e = .returned (.int .i64 (freshE l mo n)) ∧ Below w.heap.size w w' := by
  have hA := alD w (cellsM n)
  have H0 := Lib.hid (h.below hA)
  have HA := Lib.hid hA
  have hn0 : (w.alloc (cellsM n)).cell? ⟨w.heap.size, 0, none⟩ = some (.int .u64 n.1) := by simp [go_sem]
  have hn1 : (w.alloc (cellsM n)).cell? ⟨w.heap.size, 1, none⟩ = some (.string n.2) := by simp [go_sem]
  obtain ⟨la, lc, hlv⟩ := own_slice h.own
  have HLV := Lib.hid hlv
  obtain ⟨N, hN⟩ : ∃ N, l.length = N := ⟨_, rfl⟩
  have HN := Lib.hid hN
  clear h hA hlv
  go_enter Try.func38, Try.ntmps38
  go_wp2_with fail
  refine (dfind_any n H0.out hm).mono ?_
  rintro e w2 ⟨⟨i, rfl, hF⟩, hB⟩
  have H2 := Lib.hid (H0.out.below hB)
  have HB := Lib.hid (gthenD HA.out hB)
  clear hB HA H0 hn0 hn1 hN
  rcases hF with ⟨rfl, hno⟩ | ⟨j, hj, rfl, hjn⟩
  · have HG := Lib.hid (getL_noneV hno)
    clear hno
    have y0 := H2.out.cell
    have y1 := H2.out.cellM
    rw [HLV.out, HN.out] at y0
    by_cases hf : mo ≤ (N : Int)
    · have HE := Lib.hid (show freshE l mo n = 6 from by unfold freshE; rw [HG.out, HN.out]; simp [hf])
      go_wp2_with fail
      go_quiet (fail)
      have HB3 := Lib.hid (gthenD HB.out (below_drewN (Below.refl w2.heap.size w2) nq))
      clear y0 y1
      go_wp2_with fail
      go_ret
      exact ⟨by rw [HE.out]; first | done | rfl, HB3.out⟩
    · have HE := Lib.hid (show freshE l mo n = 0 from by unfold freshE; rw [HG.out, HN.out]; simp [hf])
      go_wp2_with fail
      go_quiet (fail)
      have HB3 := Lib.hid (gthenD HB.out (below_drewN (Below.refl w2.heap.size w2) nq))
      clear y0 y1
      go_wp2_with fail
      go_ret
      exact ⟨by rw [HE.out]; first | done | rfl, HB3.out⟩
  · have HE := Lib.hid (show freshE l mo n = 7 from by unfold freshE; rw [if_pos (getL_find hj hjn)])
    have hj0 : (0 : Int) ≤ j := by omega
    clear hjn
    go_wp2_with fail
    go_ret
    exact ⟨by rw [HE.out]; first | done | rfl, HB.out⟩
def dputE (l : List Rl) (mo : Int) (n : Nm) : Int := if mayS n.2 then freshE l mo n else 2
def PutDP (Z r : Nat) (mo : Int) (lv : Value) (l : List Rl) (n : Nm) (c : Rw) (w : World) (e : Ending) (w' : World) : Prop := e = .returned (.int .i64 (dputE l mo n)) ∧
  ((dputE l mo n ≠ 0 ∧ Dt Z r mo lv l w' ∧ DL r lv w lv w') ∨ (dputE l mo n = 0 ∧ ∃ lv' k, InsN l n k ∧ Dt Z r mo lv' (l.take k ++ [(n, c)] ++ l.drop k) w' ∧ DL r lv w lv' w'))
theorem PutDP.bad {Z r : Nat} {mo : Int} {lv : Value} {l : List Rl} {n : Nm} {c : Rw} {q : Int} {w w' : World} (h : Dt Z r mo lv l w) (hB : Below w.heap.size w w') (hc : dputE l mo n = q) (h0 : q ≠ 0) : PutDP Z r mo lv l n c w (.returned (.int .i64 q)) w' := ⟨by rw [hc], .inl ⟨by rw [hc]; exact h0, h.below hB, DL.below hB⟩⟩
theorem ArgsZ.up {Z r : Nat} {mo : Int} {lv : Value} {l : List Rl} {w w' : World} {c : Rw} (h : ArgsZ Z w c) (hd : Dt Z r mo lv l w) (hB : Below w.heap.size w w') : ArgsZ Z w' c := h.keep (hB.mono (by
  have h1 : r < w.heap.size := (Array.getElem?_eq_some_iff.1 hd.box).1
  have h2 := hd.zr
  omega))
set_option maxHeartbeats 6400000 in
set_option maxRecDepth 100000 in
theorem dput_any {Z r : Nat} {mo : Int} {lv : Value} {l : List Rl} {w : World} (job : Int) (p : ByteArray) (fn fuel : Int) (aa : Option Addr) (ac : Nat) (args : List Int) (h : Dt Z r mo lv l w) (hm : l.length ≤ 100000) (hps : p.size ≤ 9223372036854775807) (hml : ∀ q ∈ l, q.1.2.size ≤ 9223372036854775807) (ha : ArgsZ Z w ⟨fn, aa, ac, args, fuel, 1, 0, 0, 0, false⟩) :
    Calls Try.prog 11 #[RP r, .int .u64 job, .agg #[.string p, .int .i64 fn, .slice aa args.length ac, .int .i64 fuel]] w (PutDP Z r mo lv l (job, p) ⟨fn, aa, ac, args, fuel, 1, 0, 0, 0, false⟩ w) := by
  have HT := Lib.hid h
  have HML := Lib.hid hml
  have HPS := Lib.hid hps
  have HAZ := Lib.hid ha
  have hA1 := alD w (.cells #[.string p, .int .i64 fn, .slice aa args.length ac, .int .i64 fuel] TaskT)
  have hA2 := alD (w.alloc (.cells #[.string p, .int .i64 fn, .slice aa args.length ac, .int .i64 fuel] TaskT)) (cellsM (job, p))
  have HA1 := Lib.hid hA1
  have HA := Lib.hid (gthenD hA1 hA2)
  have H0 := Lib.hid ((h.below hA1).below hA2)
  have hbt0 : BoxAt (w.alloc (.cells #[.string p, .int .i64 fn, .slice aa args.length ac, .int .i64 fuel] TaskT)) w.heap.size #[.string p, .int .i64 fn, .slice aa args.length ac, .int .i64 fuel] TaskT := heap_alloc_new _ _
  have HBT := Lib.hid (hbt0.below hA2)
  have hbn0 : BoxAt ((w.alloc (.cells #[.string p, .int .i64 fn, .slice aa args.length ac, .int .i64 fuel] TaskT)).alloc (cellsM (job, p))) (w.heap.size + 1) #[.int .u64 job, .string p] NmT := by
    have := heap_alloc_new (w.alloc (.cells #[.string p, .int .i64 fn, .slice aa args.length ac, .int .i64 fuel] TaskT)) (cellsM (job, p))
    rwa [show (w.alloc (.cells #[.string p, .int .i64 fn, .slice aa args.length ac, .int .i64 fuel] TaskT)).heap.size = w.heap.size + 1 by simp] at this
  have HBN := Lib.hid hbn0
  have q0 : (w.alloc (.cells #[.string p, .int .i64 fn, .slice aa args.length ac, .int .i64 fuel] TaskT)).cell? ⟨w.heap.size, 0, none⟩ = some (.string p) := hbt0.cell 0
  clear h hml ha hA1 hA2 hbt0 hbn0 hps
  go_enter Try.func11, Try.ntmps11
  go_wp2_with fail
  refine (rmay_any p _ HPS.out).mono ?_
  rintro e w2 ⟨rfl, hw2⟩
  subst hw2
  cases hmy : mayS p
  · have HE := Lib.hid (show dputE l mo (job, p) = 2 from by unfold dputE; rw [hmy]; rfl)
    clear hmy
    go_wp2_with fail
    go_ret
    exact PutDP.bad HT.out HA1.out HE.out (by decide)
  · have HE := Lib.hid (show dputE l mo (job, p) = freshE l mo (job, p) from by unfold dputE; rw [hmy]; rfl)
    clear hmy
    go_upto_region 4 with fail
    clear q0
    simp only [cellsM] at HBT HBN HA H0
    generalize (w.alloc (.cells #[.string p, .int .i64 fn, .slice aa args.length ac, .int .i64 fuel] TaskT)).alloc (.cells #[.int .u64 job, .string p] NmT) = wa at *
    obtain ⟨nb, hnb⟩ : ∃ nb, w.heap.size + 1 = nb := ⟨_, rfl⟩
    obtain ⟨tb, htb⟩ : ∃ tb, w.heap.size = tb := ⟨_, rfl⟩
    rw [hnb] at HBN ⊢
    rw [htb] at HBT ⊢
    clear hnb htb
    have m0 := HBN.out.cell 0
    have m1 := HBN.out.cell 1
    simp only [List.getElem?_toArray, List.getElem?_cons_zero, List.getElem?_cons_succ] at m0 m1
    go_wp2_with fail
    refine (dfresh_any (job, p) H0.out hm).mono ?_
    rintro e w3 ⟨rfl, hB⟩
    have HB := Lib.hid hB
    have H3 := Lib.hid (H0.out.below hB)
    have HAZ3 := Lib.hid ((HAZ.out.up HT.out HA.out).up H0.out hB)
    have k0 := (HBN.out.below hB).cell 0
    have k1 := (HBN.out.below hB).cell 1
    have k2 := (HBT.out.below hB).cell 0
    have k3 := (HBT.out.below hB).cell 1
    have k4 := (HBT.out.below hB).cell 2
    have k5 := (HBT.out.below hB).cell 3
    simp only [List.getElem?_toArray, List.getElem?_cons_zero, List.getElem?_cons_succ] at k0 k1 k2 k3 k4 k5
    clear hB m0 m1
    obtain ⟨fe, hfe⟩ : ∃ z, freshE l mo (job, p) = z := ⟨_, rfl⟩
    rw [hfe] at HE ⊢
    clear hfe
    by_cases hz : fe = 0
    · subst hz
      go_wp2_with fail
      refine (dadd_any (((job, p), ⟨fn, aa, ac, args, fuel, 1, 0, 0, 0, false⟩) : Rl) H3.out hm HPS.out HML.out HAZ3.out).mono ?_
      rintro e w4 ⟨rfl, lv', k, hk, hd, hl⟩
      have HX := Lib.hid (show PutDP Z r mo lv l (job, p) ⟨fn, aa, ac, args, fuel, 1, 0, 0, 0, false⟩ w (.returned (.int .i64 0)) w4 from ⟨by rw [HE.out], .inr ⟨HE.out, lv', k, hk, hd, hl.from (gthenD HA.out HB.out)⟩⟩)
      clear hk hd hl k0 k1 k2 k3 k4 k5
      go_wp2_with fail
      go_ret
      exact HX.out
    · have hzb : (fe == 0) = false := by rw [beq_eq_false_iff_ne]; exact hz
      have HZ := Lib.hid hz
      clear hz k0 k1 k2 k3 k4 k5
      go_wp2_with fail
      go_ret
      exact PutDP.bad HT.out (gthenD HA.out HB.out) HE.out HZ.out
end Go.Proofs.Ythbkbmkcgpdedaa
namespace Go.Proofs.Ythbkbmkcgpdedaa
open Go.RowKit Go.Sort Go.Lib

abbrev taskA (n : Nm) (c : Rw) : Value := .agg #[.string n.2, .int .i64 c.fn, .slice c.aa c.args.length c.ac, .int .i64 c.fuel]
theorem getL_here {l : List Rl} {n : Nm} {j : Nat} (hn : (l.map (·.1)).Nodup) (hj : j < l.length) (he : l[j].1 = n) : getL l n = some l[j].2 := (getL_memV hn _ _).2 (by rw [← he]; exact List.getElem_mem hj)
section
variable {Z r : Nat} {mo : Int} {lv lv' : Value} {l l' : List Rl} {w w' w2 : World}
/-- A box of another type turns: the table stays. -/
theorem Dt.other {s : Nat} {c : Array Value} {E : TypeId} (h : Dt Z r mo lv l w) (hb : BoxAt w s c E) (hE : E ∉ [TrT, RowT]) (hz : Z ≤ s) (hF : Fr (fun i => i = s) w w') : Dt Z r mo lv l w' := by
  have h1 : E ≠ TrT := fun e => hE (by rw [e]; simp)
  have h2 : E ≠ RowT := fun e => hE (by rw [e]; simp)
  have hzw : Z ≤ w.heap.size := by
    have h1 : r < w.heap.size := (Array.getElem?_eq_some_iff.1 h.box).1
    have h2 := h.zr
    omega
  exact ⟨box_typed h.box hF (typed_box hb) (by simp; exact fun e => h1 e.symm), own_typed h.own hF (typed_box hb) (by simp; exact fun e => h2 e.symm), h.zr, fun p hp => (h.args p hp).keep (hF.below (fun i e => by subst e; exact hz) hzw)⟩
/-- The table turns: a box of another type stays. -/
theorem box_dl {s : Nat} {c : Array Value} {E : TypeId} (hb : BoxAt w s c E) (hd : Dt Z r mo lv l w) (hL : DL r lv w lv' w') (hE : E ∉ [TrT, RowT]) : BoxAt w' s c E :=
  box_typed hb hL.fr ((typed_box hd.box).or (typed_own hd.own)) hE
theorem DL.then {S : Nat → Prop} (h : DL r lv w lv' w2) (hF : Fr S w2 w') (hS : ∀ i, S i → w.heap.size ≤ i) : DL r lv w lv' w' := ⟨h.fr.join hF (fun i hi => .inr (hS i hi)), h.own⟩
theorem fr4 (w1 : World) (s : Nat) (a b c d : Value) : Fr (fun i => i = s) w1 ((((w1.setCell ⟨s, 0, none⟩ a).setCell ⟨s, 1, none⟩ b).setCell ⟨s, 2, none⟩ c).setCell ⟨s, 3, none⟩ d) :=
  ((((Fr.refl (fun i => i = s) w1).setCell (p := ⟨s, 0, none⟩) rfl a).setCell (p := ⟨s, 1, none⟩) rfl b).setCell (p := ⟨s, 2, none⟩) rfl c).setCell (p := ⟨s, 3, none⟩) rfl d
end
/-- How a change of a row's state ends. -/
def StateP (Z r : Nat) (mo : Int) (lv : Value) (l : List Rl) (n : Nm) (a b tz : Int) (w : World) (e : Ending) (w' : World) : Prop :=
  (ofE l n [a, b] ≠ 0 ∧ e = .returned (.tuple #[zT, .int .i64 (ofE l n [a, b])]) ∧ Dt Z r mo lv l w' ∧ DL r lv w lv w') ∨
  (ofE l n [a, b] = 0 ∧ ∃ c, getL l n = some c ∧ c.st ∈ [a, b] ∧ e = .returned (.tuple #[taskA n c, .int .i64 0]) ∧ Dt Z r mo lv (updA l n { c with st := tz }) w' ∧ DL r lv w lv w')
theorem StateP.bad {Z r : Nat} {mo : Int} {lv : Value} {l : List Rl} {n : Nm} {a b tz q : Int} {w w' : World} (h : Dt Z r mo lv l w) (hB : Below w.heap.size w w') (hc : ofE l n [a, b] = q) (h0 : q ≠ 0) : StateP Z r mo lv l n a b tz w (.returned (.tuple #[zT, .int .i64 q])) w' :=
  .inl ⟨by rw [hc]; exact h0, by rw [hc], h.below hB, DL.below hB⟩
theorem StateP.good {Z r : Nat} {mo : Int} {lv : Value} {l : List Rl} {n : Nm} {a b tz : Int} {c : Rw} {w w' : World} (hg : getL l n = some c) (hs : c.st ∈ [a, b]) (h : Dt Z r mo lv (updA l n { c with st := tz }) w') (hL : DL r lv w lv w') : StateP Z r mo lv l n a b tz w (.returned (.tuple #[taskA n c, .int .i64 0])) w' :=
  .inr ⟨by unfold ofE; rw [hg]; simp only []; rw [if_pos hs], c, hg, hs, rfl, h, hL⟩
theorem dstate_end {wz : World} {tmps : Array Value} {p : ByteArray} {fn fuel c : Int} {v : Value} {r : Nat} {T : TypeId} {R : Ending → World → Prop}
    (hr : wz.heap[r]? = some (.cells #[.string p, .int .i64 fn, v, .int .i64 fuel] T (0, 0))) (h4 : tmps.getD 10 undef = .pointer (some ⟨r, 0, none⟩)) (h5 : tmps.getD 11 undef = .int .i64 c) (hR : R (.returned (.tuple #[.agg #[.string p, .int .i64 fn, v, .int .i64 fuel], .int .i64 c])) wz) :
    bodyPost Try.prog Try.f43 R Exit.ret { tmps := tmps, defers := [] } wz := by
  have c0 : wz.cell? ⟨r, 0, none⟩ = some (.string p) := by simp [World.cell?, hr]
  have c1 : wz.cell? ⟨r, 1, none⟩ = some (.int .i64 fn) := by simp [World.cell?, hr]
  have c2 : wz.cell? ⟨r, 2, none⟩ = some v := by simp [World.cell?, hr]
  have c3 : wz.cell? ⟨r, 3, none⟩ = some (.int .i64 fuel) := by simp [World.cell?, hr]
  refine bodyPost_ret (v := .tuple #[.agg #[.string p, .int .i64 fn, v, .int .i64 fuel], .int .i64 c]) ?_ rfl hR
  have h4' : tmps[10]?.getD undef = .pointer (some ⟨r, 0, none⟩) := by simpa using h4
  have h5' : tmps[11]?.getD undef = .int .i64 c := by simpa using h5
  simp [results, Try.results43, go_sem, h4', h5', c0, c1, c2, c3]
theorem dbegin_end {wz : World} {tmps : Array Value} {p : ByteArray} {fn fuel c : Int} {v : Value} {r : Nat} {T : TypeId} {R : Ending → World → Prop}
    (hr : wz.heap[r]? = some (.cells #[.string p, .int .i64 fn, v, .int .i64 fuel] T (0, 0))) (h4 : tmps.getD 4 undef = .pointer (some ⟨r, 0, none⟩)) (h5 : tmps.getD 5 undef = .int .i64 c) (hR : R (.returned (.tuple #[.agg #[.string p, .int .i64 fn, v, .int .i64 fuel], .int .i64 c])) wz) :
    bodyPost Try.prog Try.f15 R Exit.ret { tmps := tmps, defers := [] } wz := by
  have c0 : wz.cell? ⟨r, 0, none⟩ = some (.string p) := by simp [World.cell?, hr]
  have c1 : wz.cell? ⟨r, 1, none⟩ = some (.int .i64 fn) := by simp [World.cell?, hr]
  have c2 : wz.cell? ⟨r, 2, none⟩ = some v := by simp [World.cell?, hr]
  have c3 : wz.cell? ⟨r, 3, none⟩ = some (.int .i64 fuel) := by simp [World.cell?, hr]
  refine bodyPost_ret (v := .tuple #[.agg #[.string p, .int .i64 fn, v, .int .i64 fuel], .int .i64 c]) ?_ rfl hR
  have h4' : tmps[4]?.getD undef = .pointer (some ⟨r, 0, none⟩) := by simpa using h4
  have h5' : tmps[5]?.getD undef = .int .i64 c := by simpa using h5
  simp [results, Try.results15, go_sem, h4', h5', c0, c1, c2, c3]
theorem dleave_end {wz : World} {tmps : Array Value} {p : ByteArray} {fn fuel c : Int} {v : Value} {r : Nat} {T : TypeId} {R : Ending → World → Prop}
    (hr : wz.heap[r]? = some (.cells #[.string p, .int .i64 fn, v, .int .i64 fuel] T (0, 0))) (h4 : tmps.getD 4 undef = .pointer (some ⟨r, 0, none⟩)) (h5 : tmps.getD 5 undef = .int .i64 c) (hR : R (.returned (.tuple #[.agg #[.string p, .int .i64 fn, v, .int .i64 fuel], .int .i64 c])) wz) :
    bodyPost Try.prog Try.f20 R Exit.ret { tmps := tmps, defers := [] } wz := by
  have c0 : wz.cell? ⟨r, 0, none⟩ = some (.string p) := by simp [World.cell?, hr]
  have c1 : wz.cell? ⟨r, 1, none⟩ = some (.int .i64 fn) := by simp [World.cell?, hr]
  have c2 : wz.cell? ⟨r, 2, none⟩ = some v := by simp [World.cell?, hr]
  have c3 : wz.cell? ⟨r, 3, none⟩ = some (.int .i64 fuel) := by simp [World.cell?, hr]
  refine bodyPost_ret (v := .tuple #[.agg #[.string p, .int .i64 fn, v, .int .i64 fuel], .int .i64 c]) ?_ rfl hR
  have h4' : tmps[4]?.getD undef = .pointer (some ⟨r, 0, none⟩) := by simpa using h4
  have h5' : tmps[5]?.getD undef = .int .i64 c := by simpa using h5
  simp [results, Try.results20, go_sem, h4', h5', c0, c1, c2, c3]
set_option maxHeartbeats 6400000 in
set_option maxRecDepth 100000 in
theorem dstate_any {Z r : Nat} {mo : Int} {lv : Value} {l : List Rl} {w : World} (n : Nm) (a b tz : Int) (h : Dt Z r mo lv l w) (hm : l.length ≤ 100000) (hnd : (l.map (·.1)).Nodup) :
    Calls Try.prog 43 #[RP r, nmA n, .int .u8 a, .int .u8 b, .int .u8 tz] w (StateP Z r mo lv l n a b tz w) := by
  have hA1 := alD w (cellsM n)
  have hA2 := alD (w.alloc (cellsM n)) (.cells #[.string ⟨#[]⟩, .int .i64 0, .slice none 0 0, .int .i64 0] TaskT)
  have HT := Lib.hid h
  have HA := Lib.hid (gthenD hA1 hA2)
  have H0 := Lib.hid ((h.below hA1).below hA2)
  have HND := Lib.hid hnd
  have hrb : BoxAt ((w.alloc (cellsM n)).alloc (.cells #[.string ⟨#[]⟩, .int .i64 0, .slice none 0 0, .int .i64 0] TaskT)) (w.heap.size + 1) #[.string ⟨#[]⟩, .int .i64 0, .slice none 0 0, .int .i64 0] TaskT := by
    have := heap_alloc_new (w.alloc (cellsM n)) (.cells #[.string ⟨#[]⟩, .int .i64 0, .slice none 0 0, .int .i64 0] TaskT)
    rwa [show (w.alloc (cellsM n)).heap.size = w.heap.size + 1 by simp] at this
  have hn : BoxAt ((w.alloc (cellsM n)).alloc (.cells #[.string ⟨#[]⟩, .int .i64 0, .slice none 0 0, .int .i64 0] TaskT)) w.heap.size #[.int .u64 n.1, .string n.2] NmT := (show BoxAt (w.alloc (cellsM n)) w.heap.size #[.int .u64 n.1, .string n.2] NmT from heap_alloc_new _ _).below hA2
  have HRB := Lib.hid hrb
  have hn0 := hn.cell 0
  have hn1 := hn.cell 1
  simp only [List.getElem?_toArray, List.getElem?_cons_zero, List.getElem?_cons_succ] at hn0 hn1
  have hz : Z ≤ w.heap.size := by
    have h1 : r < w.heap.size := (Array.getElem?_eq_some_iff.1 h.box).1
    have h2 := h.zr
    omega
  have HZ := Lib.hid hz
  clear h hA1 hA2 hrb hn hnd hz
  go_enter Try.func43, Try.ntmps43
  go_upto_region 1 with fail
  simp only [cellsM] at HRB HA H0 hn0 hn1
  generalize (w.alloc (.cells #[.int .u64 n.1, .string n.2] NmT)).alloc (.cells #[.string ⟨#[]⟩, .int .i64 0, .slice none 0 0, .int .i64 0] TaskT) = wa at *
  obtain ⟨rb, hrbe⟩ : ∃ t, w.heap.size + 1 = t := ⟨_, rfl⟩
  have HRL := Lib.hid (show w.heap.size ≤ rb by omega)
  rw [hrbe] at HRB ⊢
  clear hrbe
  go_wp2_with fail
  refine (dfind_any n H0.out hm).mono ?_
  rintro e w2 ⟨⟨i, rfl, hF⟩, hB⟩
  have H2 := Lib.hid (H0.out.below hB)
  have HR2 := Lib.hid (HRB.out.below hB)
  have HB := Lib.hid (show Below w.heap.size w w2 from gthenD HA.out hB)
  clear hB HA H0 HRB hn0 hn1
  rcases hF with ⟨rfl, hno⟩ | ⟨j, hj, rfl, hjn⟩
  · have HE := Lib.hid (show ofE l n [a, b] = 5 from by unfold ofE; rw [getL_noneV hno])
    clear hno
    have y0 := HR2.out.cell 0; have y1 := HR2.out.cell 1; have y2 := HR2.out.cell 2; have y3 := HR2.out.cell 3
    have f0 := HR2.out.frozen 0; have f1 := HR2.out.frozen 1; have f2 := HR2.out.frozen 2; have f3 := HR2.out.frozen 3
    simp only [List.getElem?_toArray, List.getElem?_cons_zero, List.getElem?_cons_succ] at y0 y1 y2 y3
    go_wp2_with fail
    exact dstate_end (set4 HR2.out (.string ⟨#[]⟩) (.int .i64 0) (.slice none 0 0) (.int .i64 0)) rfl rfl (StateP.bad HT.out (set4_below HB.out HRL.out (.string ⟨#[]⟩) (.int .i64 0) (.slice none 0 0) (.int .i64 0)) HE.out (by decide))
  · have hg := getL_here HND.out hj hjn
    obtain ⟨g, cap, e, hc⟩ := H2.out.at hj
    have y0 := H2.out.cell
    rw [e] at y0
    have HLVG := Lib.hid e
    obtain ⟨N, hN⟩ : ∃ N, l.length = N := ⟨_, rfl⟩
    rw [hN] at y0
    obtain ⟨x, hx⟩ : ∃ x, l[j] = x := ⟨_, rfl⟩
    rw [hx] at hc hg hjn
    have c0 : w2.cell? ⟨g, j * 11, none⟩ = some (.int .u64 x.1.1) := hc 0 _ rfl
    have c1 : w2.cell? ⟨g, j * 11 + 1, none⟩ = some (.string x.1.2) := hc 1 _ rfl
    have c2 : w2.cell? ⟨g, j * 11 + 2, none⟩ = some (.string x.1.2) := hc 2 _ rfl
    have c3 : w2.cell? ⟨g, j * 11 + 3, none⟩ = some (.int .i64 x.2.fn) := hc 3 _ rfl
    have c4 : w2.cell? ⟨g, j * 11 + 4, none⟩ = some (.slice x.2.aa x.2.args.length x.2.ac) := hc 4 _ rfl
    have c5 : w2.cell? ⟨g, j * 11 + 5, none⟩ = some (.int .i64 x.2.fuel) := hc 5 _ rfl
    have c6 : w2.cell? ⟨g, j * 11 + 6, none⟩ = some (.int .u8 x.2.st) := hc 6 _ rfl
    have c7 : w2.cell? ⟨g, j * 11 + 7, none⟩ = some (.int .i64 x.2.op) := hc 7 _ rfl
    have c8 : w2.cell? ⟨g, j * 11 + 8, none⟩ = some (.int .i64 x.2.val) := hc 8 _ rfl
    have c9 : w2.cell? ⟨g, j * 11 + 9, none⟩ = some (.int .i64 x.2.err) := hc 9 _ rfl
    have c10 : w2.cell? ⟨g, j * 11 + 10, none⟩ = some (.bool x.2.fk) := hc 10 _ rfl
    have hj0 : ¬ (j : Int) < 0 := by omega
    have hj1 : (0 : Int) ≤ j := by omega
    have hj2 : (j : Int) < N := by omega
    have HJ := Lib.hid hj
    have HXE := Lib.hid (show ∀ h : j < l.length, l[j] = x from fun _ => hx)
    have HJN := Lib.hid hjn
    have HG := Lib.hid hg
    clear hc e hx hj hjn hg hN
    by_cases hst : x.2.st = a ∨ x.2.st = b
    · have HST := Lib.hid (show x.2.st ∈ [a, b] by simpa using hst)
      have hsab : (x.2.st != a) = false ∨ ((x.2.st != a) = true ∧ (x.2.st != b) = false) := by
        by_cases h1 : x.2.st = a
        · exact .inl (by simp [h1])
        · exact .inr ⟨by simp [h1], by rcases hst with h | h; exact absurd h h1; simp [h]⟩
      clear hst
      have hA2 := alD w2 (cellsR ((x.1, { x.2 with st := tz }) : Rl))
      have HD := Lib.hid (H2.out.below hA2)
      have HB2 := Lib.hid (gthenD HB.out hA2)
      have HR3 := Lib.hid (HR2.out.below hA2)
      have HGX := Lib.hid (show g < w2.heap.size ∧ rb < w2.heap.size from ⟨World.block_lt_of_cell? _ _ c0, (Array.getElem?_eq_some_iff.1 HR2.out).1⟩)
      rcases hsab with hsa | ⟨hsa, hsb⟩
      all_goals
        go_upto_region 8 with fail
        have hbx : (w2.alloc (cellsR ((x.1, { x.2 with st := tz }) : Rl))).heap[w2.heap.size]? = some (cellsR ((x.1, { x.2 with st := tz }) : Rl)) := heap_alloc_new _ _
        simp only at hbx hA2 HD HB2 HR3
        replace y0 := (hA2.cell (p := ⟨r, 1, none⟩) (World.block_lt_of_cell? _ _ y0)).trans y0
        replace c0 := (hA2.cell (p := ⟨g, j * 11, none⟩) (World.block_lt_of_cell? _ _ c0)).trans c0
        replace c1 := (hA2.cell (p := ⟨g, j * 11 + 1, none⟩) (World.block_lt_of_cell? _ _ c1)).trans c1
        replace c2 := (hA2.cell (p := ⟨g, j * 11 + 2, none⟩) (World.block_lt_of_cell? _ _ c2)).trans c2
        replace c3 := (hA2.cell (p := ⟨g, j * 11 + 3, none⟩) (World.block_lt_of_cell? _ _ c3)).trans c3
        replace c4 := (hA2.cell (p := ⟨g, j * 11 + 4, none⟩) (World.block_lt_of_cell? _ _ c4)).trans c4
        replace c5 := (hA2.cell (p := ⟨g, j * 11 + 5, none⟩) (World.block_lt_of_cell? _ _ c5)).trans c5
        replace c6 := (hA2.cell (p := ⟨g, j * 11 + 6, none⟩) (World.block_lt_of_cell? _ _ c6)).trans c6
        replace c7 := (hA2.cell (p := ⟨g, j * 11 + 7, none⟩) (World.block_lt_of_cell? _ _ c7)).trans c7
        replace c8 := (hA2.cell (p := ⟨g, j * 11 + 8, none⟩) (World.block_lt_of_cell? _ _ c8)).trans c8
        replace c9 := (hA2.cell (p := ⟨g, j * 11 + 9, none⟩) (World.block_lt_of_cell? _ _ c9)).trans c9
        replace c10 := (hA2.cell (p := ⟨g, j * 11 + 10, none⟩) (World.block_lt_of_cell? _ _ c10)).trans c10
        generalize w2.alloc (Obj.cells #[.int .u64 x.1.1, .string x.1.2, .string x.1.2, .int .i64 x.2.fn, .slice x.2.aa x.2.args.length x.2.ac, .int .i64 x.2.fuel, .int .u8 tz, .int .i64 x.2.op, .int .i64 x.2.val, .int .i64 x.2.err, .bool x.2.fk] RowT) = wq at *
        obtain ⟨xb, hxb⟩ : ∃ t, w2.heap.size = t := ⟨_, rfl⟩
        rw [hxb] at hbx HGX ⊢
        clear hxb
        have b0 : wq.cell? ⟨xb, 0, none⟩ = some (.int .u64 x.1.1) := by simp [World.cell?, hbx]
        have b1 : wq.cell? ⟨xb, 1, none⟩ = some (.string x.1.2) := by simp [World.cell?, hbx]
        have b2 : wq.cell? ⟨xb, 2, none⟩ = some (.string x.1.2) := by simp [World.cell?, hbx]
        have b3 : wq.cell? ⟨xb, 3, none⟩ = some (.int .i64 x.2.fn) := by simp [World.cell?, hbx]
        have b4 : wq.cell? ⟨xb, 4, none⟩ = some (.slice x.2.aa x.2.args.length x.2.ac) := by simp [World.cell?, hbx]
        have b5 : wq.cell? ⟨xb, 5, none⟩ = some (.int .i64 x.2.fuel) := by simp [World.cell?, hbx]
        have b6 : wq.cell? ⟨xb, 6, none⟩ = some (.int .u8 tz) := by simp [World.cell?, hbx]
        have b7 : wq.cell? ⟨xb, 7, none⟩ = some (.int .i64 x.2.op) := by simp [World.cell?, hbx]
        have b8 : wq.cell? ⟨xb, 8, none⟩ = some (.int .i64 x.2.val) := by simp [World.cell?, hbx]
        have b9 : wq.cell? ⟨xb, 9, none⟩ = some (.int .i64 x.2.err) := by simp [World.cell?, hbx]
        have b10 : wq.cell? ⟨xb, 10, none⟩ = some (.bool x.2.fk) := by simp [World.cell?, hbx]
        have hfz : ∀ i, wq.frozen? ⟨g, i, none⟩ = false := fun i => by
          have ho := HD.out.own
          have hlvg := HLVG.out
          obtain ⟨_, ⟨hv, h0⟩ | ⟨g', cap', cur, hv, _, hh, _⟩⟩ := ho
          · exfalso; rw [hv] at hlvg; cases hlvg
          · have e1 : g' = g := by rw [hv] at hlvg; injection hlvg with e1 _ _; injection e1 with e1; injection e1
            subst e1
            simp [World.frozen?, hh]
        have HX := Lib.hid (show Dt Z r mo lv (updA l n { x.2 with st := tz }) (wrt11 wq g (j * 11) ((x.1, { x.2 with st := tz }) : Rl)).drew ∧ DL r lv w lv (wrt11 wq g (j * 11) ((x.1, { x.2 with st := tz }) : Rl)).drew from by
          obtain ⟨h1, h2⟩ := HD.out.set (x := ((x.1, { x.2 with st := tz }) : Rl)) HLVG.out HJ.out (by rw [HXE.out HJ.out]) (by rw [HXE.out HJ.out]) (by rw [HXE.out HJ.out])
          refine ⟨?_, h2.from HB2.out⟩
          have e2 : l.set j ((x.1, { x.2 with st := tz }) : Rl) = updA l n { x.2 with st := tz } := by
            rw [show ((x.1, { x.2 with st := tz }) : Rl) = (n, ((x.1, { x.2 with st := tz }) : Rl).2) from Prod.ext HJN.out rfl, set_upd HND.out HJ.out (by rw [HXE.out HJ.out]; exact HJN.out)]
          rw [← e2]
          exact h1)
        have HXB := Lib.hid (show BoxAt (wrt11 wq g (j * 11) ((x.1, { x.2 with st := tz }) : Rl)).drew xb #[.int .u64 x.1.1, .string x.1.2, .string x.1.2, .int .i64 x.2.fn, .slice x.2.aa x.2.args.length x.2.ac, .int .i64 x.2.fuel, .int .u8 tz, .int .i64 x.2.op, .int .i64 x.2.val, .int .i64 x.2.err, .bool x.2.fk] RowT from BoxAt.below ((show BoxAt wq xb #[.int .u64 x.1.1, .string x.1.2, .string x.1.2, .int .i64 x.2.fn, .slice x.2.aa x.2.args.length x.2.ac, .int .i64 x.2.fuel, .int .u8 tz, .int .i64 x.2.op, .int .i64 x.2.val, .int .i64 x.2.err, .bool x.2.fk] RowT from hbx).fr (wrt11_fr wq g _ _) (fun e => by have := HGX.out; omega)) (Below.refl _ _).drew)
        have HR4 := Lib.hid (BoxAt.below (HR3.out.fr (wrt11_fr wq g (j * 11) ((x.1, { x.2 with st := tz }) : Rl)) (fun e => by
          have h1 := own_not_box HD.out.own HR3.out (by decide)
          apply h1
          rw [HLVG.out, e]; rfl)) (Below.refl _ _).drew)
        clear hbx hA2
        go_still_tail 7, (by kernel_rfl)
        change wpList _ _ _ _ _ wq.drew
        go_upto_region 9 with fail
        clear c0 c1 c2 c3 c4 c5 c6 c7 c8 c9 c10 b0 b1 b2 b3 b4 b5 b6 b7 b8 b9 b10 y0 hfz
        generalize hwd : (wrt11 wq g (j * 11) ((x.1, { x.2 with st := tz }) : Rl)).drew = wd at *
        unfold wrt11 at hwd
        first | rw [hwd] | (simp only at hwd; rw [hwd])
        clear hwd
        have y0 := HR4.out.cell 0; have y1 := HR4.out.cell 1; have y2 := HR4.out.cell 2; have y3 := HR4.out.cell 3
        have f0 := HR4.out.frozen 0; have f1 := HR4.out.frozen 1; have f2 := HR4.out.frozen 2; have f3 := HR4.out.frozen 3
        have k2 := HXB.out.cell 2; have k3 := HXB.out.cell 3; have k4 := HXB.out.cell 4; have k5 := HXB.out.cell 5
        simp only [List.getElem?_toArray, List.getElem?_cons_zero, List.getElem?_cons_succ] at y0 y1 y2 y3 k2 k3 k4 k5
        go_wp2_with fail
        refine dstate_end (set4 HR4.out (.string x.1.2) (.int .i64 x.2.fn) (.slice x.2.aa x.2.args.length x.2.ac) (.int .i64 x.2.fuel)) rfl rfl ?_
        have hF := fr4 wd rb (.string x.1.2) (.int .i64 x.2.fn) (.slice x.2.aa x.2.args.length x.2.ac) (.int .i64 x.2.fuel)
        have := StateP.good (tz := tz) HG.out HST.out (HX.out.1.other HR4.out (by decide) (Nat.le_trans HZ.out HRL.out) hF) (HX.out.2.then hF (fun i e => by subst e; exact HRL.out))
        rw [show taskA n x.2 = taskA x.1 x.2 by rw [HJN.out]] at this
        exact this
    · have hsa : (x.2.st != a) = true := by simp; exact fun e => hst (.inl e)
      have hsb : (x.2.st != b) = true := by simp; exact fun e => hst (.inr e)
      have HE := Lib.hid (show ofE l n [a, b] = 3 from by unfold ofE; rw [HG.out]; simp only []; rw [if_neg (by simpa using hst)])
      have hA2 := alD w2 (cellsR x)
      have HB2 := Lib.hid (gthenD HB.out hA2)
      have HR3 := Lib.hid (HR2.out.below hA2)
      clear hst hA2
      go_upto_region 6 with fail
      try simp only at HB2 HR3
      generalize w2.alloc (Obj.cells #[.int .u64 x.1.1, .string x.1.2, .string x.1.2, .int .i64 x.2.fn, .slice x.2.aa x.2.args.length x.2.ac, .int .i64 x.2.fuel, .int .u8 x.2.st, .int .i64 x.2.op, .int .i64 x.2.val, .int .i64 x.2.err, .bool x.2.fk] RowT) = wq at *
      clear y0
      have y0 := HR3.out.cell 0; have y1 := HR3.out.cell 1; have y2 := HR3.out.cell 2; have y3 := HR3.out.cell 3
      have f0 := HR3.out.frozen 0; have f1 := HR3.out.frozen 1; have f2 := HR3.out.frozen 2; have f3 := HR3.out.frozen 3
      simp only [List.getElem?_toArray, List.getElem?_cons_zero, List.getElem?_cons_succ] at y0 y1 y2 y3
      clear c0 c1 c2 c3 c4 c5 c6 c7 c8 c9 c10
      go_wp2_with fail
      exact dstate_end (set4 HR3.out (.string ⟨#[]⟩) (.int .i64 0) (.slice none 0 0) (.int .i64 0)) rfl rfl (StateP.bad HT.out (set4_below HB2.out HRL.out (.string ⟨#[]⟩) (.int .i64 0) (.slice none 0 0) (.int .i64 0)) HE.out (by decide))
end Go.Proofs.Ythbkbmkcgpdedaa
namespace Go.Proofs.Ythbkbmkcgpdedaa
open Go.RowKit Go.Sort Go.Lib

set_option maxHeartbeats 6400000 in
set_option maxRecDepth 100000 in
theorem dbegin_any {Z r : Nat} {mo : Int} {lv : Value} {l : List Rl} {w : World} (n : Nm) (h : Dt Z r mo lv l w) (hm : l.length ≤ 100000) (hnd : (l.map (·.1)).Nodup) :
    Calls Try.prog 15 #[RP r, nmA n] w (StateP Z r mo lv l n 1 4 2 w) := by
  have hA1 := alD w (cellsM n)
  have hA2 := alD (w.alloc (cellsM n)) (.cells #[.string ⟨#[]⟩, .int .i64 0, .slice none 0 0, .int .i64 0] TaskT)
  have HT := Lib.hid h
  have HA := Lib.hid (gthenD hA1 hA2)
  have H0 := Lib.hid ((h.below hA1).below hA2)
  have HND := Lib.hid hnd
  have hrb : BoxAt ((w.alloc (cellsM n)).alloc (.cells #[.string ⟨#[]⟩, .int .i64 0, .slice none 0 0, .int .i64 0] TaskT)) (w.heap.size + 1) #[.string ⟨#[]⟩, .int .i64 0, .slice none 0 0, .int .i64 0] TaskT := by
    have := heap_alloc_new (w.alloc (cellsM n)) (.cells #[.string ⟨#[]⟩, .int .i64 0, .slice none 0 0, .int .i64 0] TaskT)
    rwa [show (w.alloc (cellsM n)).heap.size = w.heap.size + 1 by simp] at this
  have hn : BoxAt ((w.alloc (cellsM n)).alloc (.cells #[.string ⟨#[]⟩, .int .i64 0, .slice none 0 0, .int .i64 0] TaskT)) w.heap.size #[.int .u64 n.1, .string n.2] NmT := (show BoxAt (w.alloc (cellsM n)) w.heap.size #[.int .u64 n.1, .string n.2] NmT from heap_alloc_new _ _).below hA2
  have HRB := Lib.hid hrb
  have hn0 := hn.cell 0
  have hn1 := hn.cell 1
  simp only [List.getElem?_toArray, List.getElem?_cons_zero, List.getElem?_cons_succ] at hn0 hn1
  have hz : Z ≤ w.heap.size := by
    have h1 : r < w.heap.size := (Array.getElem?_eq_some_iff.1 h.box).1
    have h2 := h.zr
    omega
  have HZ := Lib.hid hz
  clear h hA1 hA2 hrb hn hnd hz
  go_enter Try.func15, Try.ntmps15
  go_upto_region 1 with fail
  simp only [cellsM] at HRB HA H0 hn0 hn1
  generalize (w.alloc (.cells #[.int .u64 n.1, .string n.2] NmT)).alloc (.cells #[.string ⟨#[]⟩, .int .i64 0, .slice none 0 0, .int .i64 0] TaskT) = wa at *
  obtain ⟨rb, hrbe⟩ : ∃ t, w.heap.size + 1 = t := ⟨_, rfl⟩
  have HRL := Lib.hid (show w.heap.size ≤ rb by omega)
  rw [hrbe] at HRB ⊢
  clear hrbe
  go_wp2_with fail
  refine (dstate_any n 1 4 2 H0.out hm HND.out).mono ?_
  rintro e w2 hS
  have HS := Lib.hid hS
  obtain ⟨q, hq⟩ : ∃ q, ofE l n [1, 4] = q := ⟨_, rfl⟩
  rcases hS with ⟨h0, rfl, hd, hl⟩ | ⟨h0, c, hg, hs, rfl, hd, hl⟩
  · have HR2 := Lib.hid (box_dl HRB.out H0.out hl (by decide))
    have HD := Lib.hid hd
    have HL := Lib.hid (hl.from HA.out)
    rw [hq] at h0 ⊢
    have HQ := Lib.hid (And.intro hq h0)
    clear hd hl h0 hq hn0 hn1
    unfold zT
    have y0 := HR2.out.cell 0; have y1 := HR2.out.cell 1; have y2 := HR2.out.cell 2; have y3 := HR2.out.cell 3
    have f0 := HR2.out.frozen 0; have f1 := HR2.out.frozen 1; have f2 := HR2.out.frozen 2; have f3 := HR2.out.frozen 3
    simp only [List.getElem?_toArray, List.getElem?_cons_zero, List.getElem?_cons_succ] at y0 y1 y2 y3
    go_wp2_with fail
    refine dbegin_end (set4 HR2.out (.string ⟨#[]⟩) (.int .i64 0) (.slice none 0 0) (.int .i64 0)) rfl rfl ?_
    have hF := fr4 w2 rb (.string ⟨#[]⟩) (.int .i64 0) (.slice none 0 0) (.int .i64 0)
    exact .inl ⟨by rw [HQ.out.1]; exact HQ.out.2, by rw [HQ.out.1]; rfl, HD.out.other HR2.out (by decide) (Nat.le_trans HZ.out HRL.out) hF, HL.out.then hF (fun i e => by subst e; exact HRL.out)⟩
  · have HR2 := Lib.hid (box_dl HRB.out H0.out hl (by decide))
    have HD := Lib.hid hd
    have HL := Lib.hid (hl.from HA.out)
    have HG := Lib.hid (And.intro hg hs)
    clear hd hl h0 hq hn0 hn1 hg hs HS
    have y0 := HR2.out.cell 0; have y1 := HR2.out.cell 1; have y2 := HR2.out.cell 2; have y3 := HR2.out.cell 3
    have f0 := HR2.out.frozen 0; have f1 := HR2.out.frozen 1; have f2 := HR2.out.frozen 2; have f3 := HR2.out.frozen 3
    simp only [List.getElem?_toArray, List.getElem?_cons_zero, List.getElem?_cons_succ] at y0 y1 y2 y3
    go_wp2_with fail
    refine dbegin_end (set4 HR2.out (.string n.2) (.int .i64 c.fn) (.slice c.aa c.args.length c.ac) (.int .i64 c.fuel)) rfl rfl ?_
    have hF := fr4 w2 rb (.string n.2) (.int .i64 c.fn) (.slice c.aa c.args.length c.ac) (.int .i64 c.fuel)
    exact StateP.good HG.out.1 HG.out.2 (HD.out.other HR2.out (by decide) (Nat.le_trans HZ.out HRL.out) hF) (HL.out.then hF (fun i e => by subst e; exact HRL.out))
set_option maxHeartbeats 6400000 in
set_option maxRecDepth 100000 in
theorem dleave_any {Z r : Nat} {mo : Int} {lv : Value} {l : List Rl} {w : World} (n : Nm) (h : Dt Z r mo lv l w) (hm : l.length ≤ 100000) (hnd : (l.map (·.1)).Nodup) :
    Calls Try.prog 20 #[RP r, nmA n] w (StateP Z r mo lv l n 1 1 5 w) := by
  have hA1 := alD w (cellsM n)
  have hA2 := alD (w.alloc (cellsM n)) (.cells #[.string ⟨#[]⟩, .int .i64 0, .slice none 0 0, .int .i64 0] TaskT)
  have HT := Lib.hid h
  have HA := Lib.hid (gthenD hA1 hA2)
  have H0 := Lib.hid ((h.below hA1).below hA2)
  have HND := Lib.hid hnd
  have hrb : BoxAt ((w.alloc (cellsM n)).alloc (.cells #[.string ⟨#[]⟩, .int .i64 0, .slice none 0 0, .int .i64 0] TaskT)) (w.heap.size + 1) #[.string ⟨#[]⟩, .int .i64 0, .slice none 0 0, .int .i64 0] TaskT := by
    have := heap_alloc_new (w.alloc (cellsM n)) (.cells #[.string ⟨#[]⟩, .int .i64 0, .slice none 0 0, .int .i64 0] TaskT)
    rwa [show (w.alloc (cellsM n)).heap.size = w.heap.size + 1 by simp] at this
  have hn : BoxAt ((w.alloc (cellsM n)).alloc (.cells #[.string ⟨#[]⟩, .int .i64 0, .slice none 0 0, .int .i64 0] TaskT)) w.heap.size #[.int .u64 n.1, .string n.2] NmT := (show BoxAt (w.alloc (cellsM n)) w.heap.size #[.int .u64 n.1, .string n.2] NmT from heap_alloc_new _ _).below hA2
  have HRB := Lib.hid hrb
  have hn0 := hn.cell 0
  have hn1 := hn.cell 1
  simp only [List.getElem?_toArray, List.getElem?_cons_zero, List.getElem?_cons_succ] at hn0 hn1
  have hz : Z ≤ w.heap.size := by
    have h1 : r < w.heap.size := (Array.getElem?_eq_some_iff.1 h.box).1
    have h2 := h.zr
    omega
  have HZ := Lib.hid hz
  clear h hA1 hA2 hrb hn hnd hz
  go_enter Try.func20, Try.ntmps20
  go_upto_region 1 with fail
  simp only [cellsM] at HRB HA H0 hn0 hn1
  generalize (w.alloc (.cells #[.int .u64 n.1, .string n.2] NmT)).alloc (.cells #[.string ⟨#[]⟩, .int .i64 0, .slice none 0 0, .int .i64 0] TaskT) = wa at *
  obtain ⟨rb, hrbe⟩ : ∃ t, w.heap.size + 1 = t := ⟨_, rfl⟩
  have HRL := Lib.hid (show w.heap.size ≤ rb by omega)
  rw [hrbe] at HRB ⊢
  clear hrbe
  go_wp2_with fail
  refine (dstate_any n 1 1 5 H0.out hm HND.out).mono ?_
  rintro e w2 hS
  have HS := Lib.hid hS
  obtain ⟨q, hq⟩ : ∃ q, ofE l n [1, 1] = q := ⟨_, rfl⟩
  rcases hS with ⟨h0, rfl, hd, hl⟩ | ⟨h0, c, hg, hs, rfl, hd, hl⟩
  · have HR2 := Lib.hid (box_dl HRB.out H0.out hl (by decide))
    have HD := Lib.hid hd
    have HL := Lib.hid (hl.from HA.out)
    rw [hq] at h0 ⊢
    have HQ := Lib.hid (And.intro hq h0)
    clear hd hl h0 hq hn0 hn1
    unfold zT
    have y0 := HR2.out.cell 0; have y1 := HR2.out.cell 1; have y2 := HR2.out.cell 2; have y3 := HR2.out.cell 3
    have f0 := HR2.out.frozen 0; have f1 := HR2.out.frozen 1; have f2 := HR2.out.frozen 2; have f3 := HR2.out.frozen 3
    simp only [List.getElem?_toArray, List.getElem?_cons_zero, List.getElem?_cons_succ] at y0 y1 y2 y3
    go_wp2_with fail
    refine dleave_end (set4 HR2.out (.string ⟨#[]⟩) (.int .i64 0) (.slice none 0 0) (.int .i64 0)) rfl rfl ?_
    have hF := fr4 w2 rb (.string ⟨#[]⟩) (.int .i64 0) (.slice none 0 0) (.int .i64 0)
    exact .inl ⟨by rw [HQ.out.1]; exact HQ.out.2, by rw [HQ.out.1]; rfl, HD.out.other HR2.out (by decide) (Nat.le_trans HZ.out HRL.out) hF, HL.out.then hF (fun i e => by subst e; exact HRL.out)⟩
  · have HR2 := Lib.hid (box_dl HRB.out H0.out hl (by decide))
    have HD := Lib.hid hd
    have HL := Lib.hid (hl.from HA.out)
    have HG := Lib.hid (And.intro hg hs)
    clear hd hl h0 hq hn0 hn1 hg hs HS
    have y0 := HR2.out.cell 0; have y1 := HR2.out.cell 1; have y2 := HR2.out.cell 2; have y3 := HR2.out.cell 3
    have f0 := HR2.out.frozen 0; have f1 := HR2.out.frozen 1; have f2 := HR2.out.frozen 2; have f3 := HR2.out.frozen 3
    simp only [List.getElem?_toArray, List.getElem?_cons_zero, List.getElem?_cons_succ] at y0 y1 y2 y3
    go_wp2_with fail
    refine dleave_end (set4 HR2.out (.string n.2) (.int .i64 c.fn) (.slice c.aa c.args.length c.ac) (.int .i64 c.fuel)) rfl rfl ?_
    have hF := fr4 w2 rb (.string n.2) (.int .i64 c.fn) (.slice c.aa c.args.length c.ac) (.int .i64 c.fuel)
    exact StateP.good HG.out.1 HG.out.2 (HD.out.other HR2.out (by decide) (Nat.le_trans HZ.out HRL.out) hF) (HL.out.then hF (fun i e => by subst e; exact HRL.out))
/-- A row's state is set, if it is one of some. -/
def stL (l : List Rl) (n : Nm) (L : List Int) (tz : Int) : List Rl := match getL l n with
  | none => l
  | some c => if c.st ∈ L then updA l n { c with st := tz } else l
theorem StateP.st {Z r : Nat} {mo : Int} {lv : Value} {l : List Rl} {n : Nm} {a b tz : Int} {w : World} {e : Ending} {w' : World} (h : StateP Z r mo lv l n a b tz w e w') : (∃ p fn fuel va vk vc, e = .returned (.tuple #[.agg #[.string p, .int .i64 fn, .slice va vk vc, .int .i64 fuel], .int .i64 (ofE l n [a, b])])) ∧ Dt Z r mo lv (stL l n [a, b] tz) w' ∧ DL r lv w lv w' := by
  rcases h with ⟨h0, he, hd, hl⟩ | ⟨h0, c, hg, hs, he, hd, hl⟩
  · have e : stL l n [a, b] tz = l := by
      unfold stL ofE at *
      cases hg : getL l n with
      | none => rfl
      | some c =>
        rw [hg] at h0
        simp only [] at h0 ⊢
        by_cases hs : c.st ∈ [a, b]
        · rw [if_pos hs] at h0; exact absurd rfl h0
        · rw [if_neg hs]
    rw [e]
    exact ⟨⟨_, _, _, _, _, _, he⟩, hd, hl⟩
  · have e : stL l n [a, b] tz = updA l n { c with st := tz } := by unfold stL; rw [hg]; simp only []; rw [if_pos hs]
    rw [e]
    exact ⟨⟨_, _, _, _, _, _, by rw [h0]; exact he⟩, hd, hl⟩
set_option maxHeartbeats 6400000 in
set_option maxRecDepth 100000 in
theorem dback_any {Z r : Nat} {mo : Int} {lv : Value} {l : List Rl} {w : World} (n : Nm) (h : Dt Z r mo lv l w) (hm : l.length ≤ 100000) (hnd : (l.map (·.1)).Nodup) :
    Calls Try.prog 22 #[RP r, nmA n] w fun e w' => e = .returned (.int .i64 (ofE l n [5, 5])) ∧ Dt Z r mo lv (stL l n [5, 5] 1) w' ∧ DL r lv w lv w' := by
  have hA := alD w (cellsM n)
  have HT := Lib.hid h
  have HA := Lib.hid hA
  have H0 := Lib.hid (h.below hA)
  have HND := Lib.hid hnd
  have hn : BoxAt (w.alloc (cellsM n)) w.heap.size #[.int .u64 n.1, .string n.2] NmT := heap_alloc_new _ _
  have hn0 := hn.cell 0
  have hn1 := hn.cell 1
  simp only [List.getElem?_toArray, List.getElem?_cons_zero, List.getElem?_cons_succ] at hn0 hn1
  clear h hA hn hnd
  go_enter Try.func22, Try.ntmps22
  go_wp2_with fail
  refine (dstate_any n 5 5 1 H0.out hm HND.out).mono ?_
  rintro e w2 hS
  obtain ⟨⟨p, fn, fuel, va, vk, vc, rfl⟩, hd, hl⟩ := hS.st
  obtain ⟨q, hq⟩ : ∃ q, ofE l n [5, 5] = q := ⟨_, rfl⟩
  rw [hq]
  have HQ := Lib.hid hq
  have HD := Lib.hid hd
  have HL := Lib.hid (hl.from HA.out)
  clear hS hd hl hq hn0 hn1
  have hA3 := alD w2 (.cells #[.string p, .int .i64 fn, .slice va vk vc, .int .i64 fuel] TaskT)
  have HD3 := Lib.hid (HD.out.below hA3)
  have HL3 := Lib.hid (show DL r lv w lv (w2.alloc (.cells #[.string p, .int .i64 fn, .slice va vk vc, .int .i64 fuel] TaskT)) from ⟨HL.out.fr.then hA3, HL.out.own⟩)
  clear hA3
  go_wp2_with fail
  go_ret
  exact ⟨by rw [HQ.out]; first | done | rfl, HD3.out, HL3.out⟩
def dwaitV (l : List Rl) (n : Nm) : Bool × Int := match getL l n with
  | none => (false, 5)
  | some c => if c.st ∈ [(2 : Int)] then (if c.op = 0 then (false, 0) else (true, 0)) else (false, 3)
def dwaitL (l : List Rl) (n : Nm) : List Rl := match getL l n with
  | none => l
  | some c => if (dwaitV l n).1 then updA l n { c with st := 3 } else l
def WaitDP (Z r : Nat) (mo : Int) (lv : Value) (l : List Rl) (n : Nm) (w : World) (e : Ending) (w' : World) : Prop := e = .returned (.tuple #[.bool (dwaitV l n).1, .int .i64 (dwaitV l n).2]) ∧ Dt Z r mo lv (dwaitL l n) w' ∧ DL r lv w lv w'
theorem WaitDP.bad {Z r : Nat} {mo : Int} {lv : Value} {l : List Rl} {n : Nm} {q : Int} {w w' : World} (h : Dt Z r mo lv l w) (hB : Below w.heap.size w w') (hc : dwaitV l n = (false, q)) : WaitDP Z r mo lv l n w (.returned (.tuple #[.bool false, .int .i64 q])) w' := by
  refine ⟨by rw [hc], ?_, DL.below hB⟩
  have e : dwaitL l n = l := by
    unfold dwaitL
    rw [hc]
    cases getL l n <;> rfl
  rw [e]
  exact h.below hB
set_option maxHeartbeats 6400000 in
set_option maxRecDepth 100000 in
theorem dwait_any {Z r : Nat} {mo : Int} {lv : Value} {l : List Rl} {w : World} (n : Nm) (h : Dt Z r mo lv l w) (hm : l.length ≤ 100000) (hnd : (l.map (·.1)).Nodup) :
    Calls Try.prog 18 #[RP r, nmA n] w (WaitDP Z r mo lv l n w) := by
  have hA := alD w (cellsM n)
  have HT := Lib.hid h
  have HA := Lib.hid hA
  have H0 := Lib.hid (h.below hA)
  have HND := Lib.hid hnd
  have hn : BoxAt (w.alloc (cellsM n)) w.heap.size #[.int .u64 n.1, .string n.2] NmT := heap_alloc_new _ _
  have hn0 := hn.cell 0
  have hn1 := hn.cell 1
  simp only [List.getElem?_toArray, List.getElem?_cons_zero, List.getElem?_cons_succ] at hn0 hn1
  clear h hA hn hnd
  go_enter Try.func18, Try.ntmps18
  go_wp2_with fail
  refine (dfind_any n H0.out hm).mono ?_
  rintro e w2 ⟨⟨i, rfl, hF⟩, hB⟩
  have H2 := Lib.hid (H0.out.below hB)
  have HB := Lib.hid (gthenD HA.out hB)
  clear hB HA H0 hn0 hn1
  rcases hF with ⟨rfl, hno⟩ | ⟨j, hj, rfl, hjn⟩
  · have HE := Lib.hid (show dwaitV l n = (false, 5) from by unfold dwaitV; rw [getL_noneV hno])
    clear hno
    go_wp2_with fail
    go_ret2
    exact WaitDP.bad HT.out HB.out HE.out
  · have hg := getL_here HND.out hj hjn
    obtain ⟨g, cap, e, hc⟩ := H2.out.at hj
    have y0 := H2.out.cell
    rw [e] at y0
    have HLVG := Lib.hid e
    obtain ⟨N, hN⟩ : ∃ N, l.length = N := ⟨_, rfl⟩
    rw [hN] at y0
    obtain ⟨x, hx⟩ : ∃ x, l[j] = x := ⟨_, rfl⟩
    rw [hx] at hc hg hjn
    have c0 : w2.cell? ⟨g, j * 11, none⟩ = some (.int .u64 x.1.1) := hc 0 _ rfl
    have c1 : w2.cell? ⟨g, j * 11 + 1, none⟩ = some (.string x.1.2) := hc 1 _ rfl
    have c2 : w2.cell? ⟨g, j * 11 + 2, none⟩ = some (.string x.1.2) := hc 2 _ rfl
    have c3 : w2.cell? ⟨g, j * 11 + 3, none⟩ = some (.int .i64 x.2.fn) := hc 3 _ rfl
    have c4 : w2.cell? ⟨g, j * 11 + 4, none⟩ = some (.slice x.2.aa x.2.args.length x.2.ac) := hc 4 _ rfl
    have c5 : w2.cell? ⟨g, j * 11 + 5, none⟩ = some (.int .i64 x.2.fuel) := hc 5 _ rfl
    have c6 : w2.cell? ⟨g, j * 11 + 6, none⟩ = some (.int .u8 x.2.st) := hc 6 _ rfl
    have c7 : w2.cell? ⟨g, j * 11 + 7, none⟩ = some (.int .i64 x.2.op) := hc 7 _ rfl
    have c8 : w2.cell? ⟨g, j * 11 + 8, none⟩ = some (.int .i64 x.2.val) := hc 8 _ rfl
    have c9 : w2.cell? ⟨g, j * 11 + 9, none⟩ = some (.int .i64 x.2.err) := hc 9 _ rfl
    have c10 : w2.cell? ⟨g, j * 11 + 10, none⟩ = some (.bool x.2.fk) := hc 10 _ rfl
    have hj0 : ¬ (j : Int) < 0 := by omega
    have hj1 : (0 : Int) ≤ j := by omega
    have hj2 : (j : Int) < N := by omega
    have HJ := Lib.hid hj
    have HXE := Lib.hid (show ∀ h : j < l.length, l[j] = x from fun _ => hx)
    have HJN := Lib.hid hjn
    have HG := Lib.hid hg
    clear hc e hx hj hjn hg hN
    by_cases hst : x.2.st = 2
    · have hsb : (x.2.st != 2) = false := by simp [hst]
      have HST := Lib.hid hst
      clear hst
      by_cases hop : x.2.op = 0
      · have hob : (x.2.op == 0) = true := by simp [hop]
        have HE := Lib.hid (show dwaitV l n = (false, 0) from by unfold dwaitV; rw [HG.out]; simp [HST.out, hop])
        clear hop
        have hA2 := alD w2 (cellsR x)
        have HB2 := Lib.hid (gthenD HB.out hA2)
        clear hA2
        go_wp2_with fail
        go_ret2
        exact WaitDP.bad HT.out HB2.out HE.out
      · have hob : (x.2.op == 0) = false := by simp [hop]
        have HE := Lib.hid (show dwaitV l n = (true, 0) from by unfold dwaitV; rw [HG.out]; simp [HST.out, hop])
        have HO := Lib.hid (show dwaitL l n = updA l n { x.2 with st := 3 } from by unfold dwaitL; rw [HE.out, HG.out]; rfl)
        clear hop
        have hA2 := alD w2 (cellsR ((x.1, ({ x.2 with st := 3 })) : Rl))
        have HD := Lib.hid (H2.out.below hA2)
        have HB2 := Lib.hid (gthenD HB.out hA2)
        go_upto_region 10 with fail
        have hbx : (w2.alloc (cellsR ((x.1, ({ x.2 with st := 3 })) : Rl))).heap[w2.heap.size]? = some (cellsR ((x.1, ({ x.2 with st := 3 })) : Rl)) := heap_alloc_new _ _
        simp only at hbx hA2 HD HB2
        replace y0 := (hA2.cell (p := ⟨r, 1, none⟩) (World.block_lt_of_cell? _ _ y0)).trans y0
        replace c0 := (hA2.cell (p := ⟨g, j * 11, none⟩) (World.block_lt_of_cell? _ _ c0)).trans c0
        replace c1 := (hA2.cell (p := ⟨g, j * 11 + 1, none⟩) (World.block_lt_of_cell? _ _ c1)).trans c1
        replace c2 := (hA2.cell (p := ⟨g, j * 11 + 2, none⟩) (World.block_lt_of_cell? _ _ c2)).trans c2
        replace c3 := (hA2.cell (p := ⟨g, j * 11 + 3, none⟩) (World.block_lt_of_cell? _ _ c3)).trans c3
        replace c4 := (hA2.cell (p := ⟨g, j * 11 + 4, none⟩) (World.block_lt_of_cell? _ _ c4)).trans c4
        replace c5 := (hA2.cell (p := ⟨g, j * 11 + 5, none⟩) (World.block_lt_of_cell? _ _ c5)).trans c5
        replace c6 := (hA2.cell (p := ⟨g, j * 11 + 6, none⟩) (World.block_lt_of_cell? _ _ c6)).trans c6
        replace c7 := (hA2.cell (p := ⟨g, j * 11 + 7, none⟩) (World.block_lt_of_cell? _ _ c7)).trans c7
        replace c8 := (hA2.cell (p := ⟨g, j * 11 + 8, none⟩) (World.block_lt_of_cell? _ _ c8)).trans c8
        replace c9 := (hA2.cell (p := ⟨g, j * 11 + 9, none⟩) (World.block_lt_of_cell? _ _ c9)).trans c9
        replace c10 := (hA2.cell (p := ⟨g, j * 11 + 10, none⟩) (World.block_lt_of_cell? _ _ c10)).trans c10
        generalize w2.alloc (Obj.cells #[.int .u64 x.1.1, .string x.1.2, .string x.1.2, .int .i64 x.2.fn, .slice x.2.aa x.2.args.length x.2.ac, .int .i64 x.2.fuel, .int .u8 3, .int .i64 x.2.op, .int .i64 x.2.val, .int .i64 x.2.err, .bool x.2.fk] RowT) = wq at *
        generalize w2.heap.size = xb at *
        have b0 : wq.cell? ⟨xb, 0, none⟩ = some (.int .u64 x.1.1) := by simp [World.cell?, hbx]
        have b1 : wq.cell? ⟨xb, 1, none⟩ = some (.string x.1.2) := by simp [World.cell?, hbx]
        have b2 : wq.cell? ⟨xb, 2, none⟩ = some (.string x.1.2) := by simp [World.cell?, hbx]
        have b3 : wq.cell? ⟨xb, 3, none⟩ = some (.int .i64 x.2.fn) := by simp [World.cell?, hbx]
        have b4 : wq.cell? ⟨xb, 4, none⟩ = some (.slice x.2.aa x.2.args.length x.2.ac) := by simp [World.cell?, hbx]
        have b5 : wq.cell? ⟨xb, 5, none⟩ = some (.int .i64 x.2.fuel) := by simp [World.cell?, hbx]
        have b6 : wq.cell? ⟨xb, 6, none⟩ = some (.int .u8 3) := by simp [World.cell?, hbx]
        have b7 : wq.cell? ⟨xb, 7, none⟩ = some (.int .i64 x.2.op) := by simp [World.cell?, hbx]
        have b8 : wq.cell? ⟨xb, 8, none⟩ = some (.int .i64 x.2.val) := by simp [World.cell?, hbx]
        have b9 : wq.cell? ⟨xb, 9, none⟩ = some (.int .i64 x.2.err) := by simp [World.cell?, hbx]
        have b10 : wq.cell? ⟨xb, 10, none⟩ = some (.bool x.2.fk) := by simp [World.cell?, hbx]
        have hfz : ∀ i, wq.frozen? ⟨g, i, none⟩ = false := fun i => by
          have ho := HD.out.own
          have hlvg := HLVG.out
          obtain ⟨_, ⟨hv, h0⟩ | ⟨g', cap', cur, hv, _, hh, _⟩⟩ := ho
          · exfalso; rw [hv] at hlvg; cases hlvg
          · have e1 : g' = g := by rw [hv] at hlvg; injection hlvg with e1 _ _; injection e1 with e1; injection e1
            subst e1
            simp [World.frozen?, hh]
        have HX := Lib.hid (show Dt Z r mo lv (updA l n ({ x.2 with st := 3 })) (wrt11 wq g (j * 11) ((x.1, ({ x.2 with st := 3 })) : Rl)).drew ∧ DL r lv w lv (wrt11 wq g (j * 11) ((x.1, ({ x.2 with st := 3 })) : Rl)).drew from by
          obtain ⟨h1, h2⟩ := HD.out.set (x := ((x.1, ({ x.2 with st := 3 })) : Rl)) HLVG.out HJ.out (by rw [HXE.out HJ.out]) (by rw [HXE.out HJ.out]) (by rw [HXE.out HJ.out])
          refine ⟨?_, h2.from HB2.out⟩
          have e2 : l.set j ((x.1, ({ x.2 with st := 3 })) : Rl) = updA l n ({ x.2 with st := 3 }) := by
            rw [show ((x.1, ({ x.2 with st := 3 })) : Rl) = (n, ((x.1, ({ x.2 with st := 3 })) : Rl).2) from Prod.ext HJN.out rfl, set_upd HND.out HJ.out (by rw [HXE.out HJ.out]; exact HJN.out)]
          rw [← e2]
          exact h1)
        clear hbx hA2
        go_still_tail 7, (by kernel_rfl)
        change wpList _ _ _ _ _ wq.drew
        go_wp2_with fail
        go_ret2
        exact ⟨by rw [HE.out]; first | done | rfl, by rw [HO.out]; exact HX.out.1, HX.out.2⟩
    · have hsb : (x.2.st != 2) = true := by simp [hst]
      have HE := Lib.hid (show dwaitV l n = (false, 3) from by unfold dwaitV; rw [HG.out]; simp [hst])
      clear hst
      have hA2 := alD w2 (cellsR x)
      have HB2 := Lib.hid (gthenD HB.out hA2)
      clear hA2
      go_wp2_with fail
      go_ret2
      exact WaitDP.bad HT.out HB2.out HE.out
end Go.Proofs.Ythbkbmkcgpdedaa
namespace Go.Proofs.Ythbkbmkcgpdedaa
open Go.RowKit Go.Sort Go.Lib

def ParP (l : List Rl) (x : Rl) (i : Int) : Prop := (x.2.fk = false ∧ i = -1) ∨ (x.2.fk = true ∧ FindN l (x.1.1, parS x.1.2) i)
set_option maxHeartbeats 6400000 in
set_option maxRecDepth 100000 in
theorem dparent_any {Z r : Nat} {mo : Int} {lv : Value} {l : List Rl} {w : World} (x : Rl) (h : Dt Z r mo lv l w) (hm : l.length ≤ 100000) (hps : x.1.2.size ≤ 9223372036854775807) (hpb : x.2.fk = true → parB x.1.2 = true) :
    Calls Try.prog 45 #[RP r, rowA x] w fun e w' => ∃ i, e = .returned (.int .i64 i) ∧ ParP l x i ∧ Below w.heap.size w w' := by
  have hA := alD w (cellsR x)
  have HA := Lib.hid hA
  have H0 := Lib.hid (h.below hA)
  have hbx : BoxAt (w.alloc (cellsR x)) w.heap.size (encD x).toArray RowT := heap_alloc_new _ _
  have HBX := Lib.hid hbx
  obtain ⟨z0, z1, z2, z3, z4, z5, z6, z7, z8, z9, z10⟩ := encD_cells hbx
  clear h hA hbx z0 z2 z3 z4 z5 z6 z7 z8 z9
  go_enter Try.func45, Try.ntmps45
  go_upto_region 1 with fail
  generalize w.alloc (Obj.cells #[.int .u64 x.1.1, .string x.1.2, .string x.1.2, .int .i64 x.2.fn, .slice x.2.aa x.2.args.length x.2.ac, .int .i64 x.2.fuel, .int .u8 x.2.st, .int .i64 x.2.op, .int .i64 x.2.val, .int .i64 x.2.err, .bool x.2.fk] RowT) = wa at *
  obtain ⟨xb, hxb⟩ : ∃ t, w.heap.size = t := ⟨_, rfl⟩
  rw [hxb] at HBX z1 z10 ⊢
  clear hxb
  by_cases hfk : x.2.fk = true
  · have HFK := Lib.hid hfk
    have hyes := hpb hfk
    have HP := Lib.hid (parS_yes hyes)
    have hsz := parB_size hyes
    obtain ⟨k, hk⟩ : ∃ k, x.1.2.size - 1 = k := ⟨_, rfl⟩
    have hwr : IntKind.i64.wrap ((x.1.2.size : Int) - 1) = (k : Int) := by
      rw [show ((x.1.2.size : Int) - 1) = (k : Int) by omega]
      exact IntWalk.i64_in _ (by omega)
    have hk1 : (0 : Int) ≤ (k : Int) := by omega
    have hk2 : (k : Int) ≤ (x.1.2.size : Int) := by omega
    have hpk : x.1.2.extract 0 k = parS x.1.2 := by rw [← hk]; exact HP.out
    rw [hfk] at z10
    clear hpb hyes hfk hk
    go_upto_region 4 with fail
    refine wp_region_held_drew (S := fun y => Below wa.heap.size wa y) (by kernel_rfl) ((Below.refl _ _).drew) (fun hHeld => ?_)
    refine wpAnyH_take (i := 0) (oi := _) (v := ?_) (by rw [List.getElem?_toArray]; exact rfl) (by kernel_rfl) (by kernel_rfl) (by kernel_rfl) (by exact fun _ _ _ h => h) (Or.inl ⟨by rfl, ?_⟩) hHeld ?_
    rotate_left
    · (intro wX hSw; clear hSw; go_simp; try with_reducible rfl)
    try simp only [Act.put, List.setIfInBounds_toArray, List.set_cons_zero, List.set_cons_succ]
    refine wpAnyH_take (i := 1) (oi := _) (v := ?_) (by rw [List.getElem?_toArray]; exact rfl) (by kernel_rfl) (by kernel_rfl) (by kernel_rfl) (by exact fun _ _ _ h => h) (Or.inl ⟨by rfl, ?_⟩) hHeld ?_
    rotate_left
    · (intro wX hSw; clear hSw; go_simp; try with_reducible rfl)
    try simp only [Act.put, List.setIfInBounds_toArray, List.set_cons_zero, List.set_cons_succ]
    refine wpAnyH_take (i := 2) (oi := _) (v := ?_) (by rw [List.getElem?_toArray]; exact rfl) (by kernel_rfl) (by kernel_rfl) (by kernel_rfl) (by exact fun _ _ _ h => h) (Or.inl ⟨by rfl, ?_⟩) hHeld ?_
    rotate_left
    · (intro wX hSw; clear hSw; go_simp; try with_reducible rfl)
    try simp only [Act.put, List.setIfInBounds_toArray, List.set_cons_zero, List.set_cons_succ]
    refine wpAnyH_take (i := 3) (oi := _) (v := ?_) (by rw [List.getElem?_toArray]; exact rfl) (by kernel_rfl) (by kernel_rfl) (by kernel_rfl) (by exact fun _ _ _ h => h) (Or.inl ⟨by rfl, ?_⟩) hHeld ?_
    rotate_left
    · (intro wX hSw; clear hSw; go_simp; try with_reducible rfl)
    try simp only [Act.put, List.setIfInBounds_toArray, List.set_cons_zero, List.set_cons_succ]
    refine wpAnyH_take (i := 4) (oi := _) (v := ?_) (by rw [List.getElem?_toArray]; exact rfl) (by kernel_rfl) (by kernel_rfl) (by kernel_rfl) (by exact fun _ _ _ h => h) (Or.inl ⟨by rfl, ?_⟩) hHeld ?_
    rotate_left
    · (intro wX hSw; obtain ⟨z0, z1, z2, z3, z4, z5, z6, z7, z8, z9, z10⟩ := encD_cells (HBX.out.below hSw); clear hSw; go_simp; try with_reducible rfl)
    try simp only [Act.put, List.setIfInBounds_toArray, List.set_cons_zero, List.set_cons_succ]
    refine wpAnyH_take (i := 5) (oi := _) (v := ?_) (by rw [List.getElem?_toArray]; exact rfl) (by kernel_rfl) (by kernel_rfl) (by kernel_rfl) (by exact fun _ _ _ h => h) (Or.inl ⟨by rfl, ?_⟩) hHeld ?_
    rotate_left
    · (intro wX hSw; clear hSw; go_simp; try with_reducible rfl)
    try simp only [Act.put, List.setIfInBounds_toArray, List.set_cons_zero, List.set_cons_succ]
    refine wpAnyH_take (i := 6) (oi := _) (v := ?_) (by rw [List.getElem?_toArray]; exact rfl) (by kernel_rfl) (by kernel_rfl) (by kernel_rfl) (by exact fun _ _ _ h => h) (Or.inl ⟨by rfl, ?_⟩) hHeld ?_
    rotate_left
    · (intro wX hSw; clear hSw; go_simp; try with_reducible rfl)
    try simp only [Act.put, List.setIfInBounds_toArray, List.set_cons_zero, List.set_cons_succ]
    refine wpAnyH_take (i := 7) (oi := _) (v := ?_) (by rw [List.getElem?_toArray]; exact rfl) (by kernel_rfl) (by kernel_rfl) (by kernel_rfl) (by exact fun _ _ _ h => h) (Or.inl ⟨by rfl, ?_⟩) hHeld ?_
    rotate_left
    · (intro wX hSw; clear hSw; go_simp; try with_reducible rfl)
    try simp only [Act.put, List.setIfInBounds_toArray, List.set_cons_zero, List.set_cons_succ]
    refine wpAnyH_take (i := 8) (oi := _) (v := ?_) (by rw [List.getElem?_toArray]; exact rfl) (by kernel_rfl) (by kernel_rfl) (by kernel_rfl) (by exact fun _ _ _ h => h) (Or.inl ⟨by rfl, ?_⟩) hHeld ?_
    rotate_left
    · (intro wX hSw; clear hSw; go_simp; try with_reducible rfl)
    try simp only [Act.put, List.setIfInBounds_toArray, List.set_cons_zero, List.set_cons_succ]
    refine wpAnyH_take (i := 9) (oi := _) (v := ?_) (by rw [List.getElem?_toArray]; exact rfl) (by kernel_rfl) (by kernel_rfl) (by kernel_rfl) (by exact fun _ _ _ h => h) (Or.inl ⟨by rfl, ?_⟩) hHeld ?_
    rotate_left
    · (intro wX hSw; clear hSw; go_simp; try with_reducible rfl)
    try simp only [Act.put, List.setIfInBounds_toArray, List.set_cons_zero, List.set_cons_succ]
    refine wpAnyH_take (i := 10) (oi := _) (v := ?_) (by rw [List.getElem?_toArray]; exact rfl) (by kernel_rfl) (by kernel_rfl) (by kernel_rfl) (by exact fun _ _ _ h => h) (Or.inl ⟨by rfl, ?_⟩) hHeld ?_
    rotate_left
    · (intro wX hSw; clear hSw; go_simp; try with_reducible rfl)
    try simp only [Act.put, List.setIfInBounds_toArray, List.set_cons_zero, List.set_cons_succ]
    refine wpAnyH_ready (rs := [11]) (by kernel_rfl) (by simp) ?_
    refine AllReadyH.cons (o := _) (by rw [List.getElem?_toArray]; exact rfl) (fun K hK => ?_) AllReadyH.nil
    go_simp
    refine (dfind_any (x.1.1, parS x.1.2) (H0.out.below hHeld) hm).mono ?_; rintro e w6 ⟨⟨i, rfl, hF⟩, hB6⟩; have HF := Lib.hid hF; have hB7 := hHeld.trans (hB6.mono hHeld.size); clear hB6 hF
    go_wp2_with fail
    refine hK.out _ _ (hB7) (fun hHeld => ?_)
    clear hK K
    try simp only [Act.put, List.setIfInBounds_toArray, List.set_cons_zero, List.set_cons_succ]
    refine wpAnyH_take (i := 12) (oi := _) (v := ?_) (by rw [List.getElem?_toArray]; exact rfl) (by kernel_rfl) (by kernel_rfl) (by kernel_rfl) (by exact fun _ _ _ h => h) (Or.inl ⟨by rfl, ?_⟩) hHeld ?_
    rotate_left
    · (intro wX hSw; clear hSw; go_simp; try with_reducible rfl)
    try simp only [Act.put, List.setIfInBounds_toArray, List.set_cons_zero, List.set_cons_succ]
    refine wpAnyH_done (by kernel_rfl) ?_ _
    have HB := Lib.hid (gthenD HA.out hHeld)
    clear hHeld
    go_wp2_with fail
    go_ret
    exact ⟨_, rfl, .inr ⟨HFK.out, HF.out⟩, HB.out⟩
  · have hf2 : x.2.fk = false := by simpa using hfk
    have HFK := Lib.hid hf2
    rw [hf2] at z10
    clear hfk hf2 hpb
    go_wp2_with fail
    go_ret
    exact ⟨_, rfl, .inl ⟨HFK.out, rfl⟩, HA.out⟩
set_option maxHeartbeats 3200000 in
set_option maxRecDepth 100000 in
theorem same_row (n : Nm) (x y : Rw) (w : World) (hc : core x = core y) (hx : ReadsK encI 1 w (.slice x.aa x.args.length x.ac) x.args) (hy : ReadsK encI 1 w (.slice y.aa y.args.length y.ac) y.args) (hl : x.args.length ≤ 1000000) :
    Calls Try.prog 30 #[.agg (encT (n, x)).toArray, .agg (encT (n, y)).toArray] w fun e w' => e = .returned (.bool true) ∧ Below w.heap.size w w' := by
  obtain ⟨fn, aa, ac, args, fuel, st, op, val, err, fk⟩ := x
  obtain ⟨fn', aa', ac', args', fuel', st', op', val', err', fk'⟩ := y
  unfold core at hc
  injection hc with e1 e2 e3 e4 e5 e6 e7 e8 e9 e10
  subst e1 e4 e5 e6 e7 e8 e9 e10
  clear e2 e3
  simp only at hx hy hl
  unfold encT
  have eN := fun w => eqlN n n w
  have eR := fun w => eqlR val err val err w
  have hA1 := alD w (.cells #[.int .u64 n.1, .string n.2, .string n.2, .int .i64 fn, .slice aa args.length ac, .int .i64 fuel, .int .u8 st, .int .i64 op, .int .i64 val, .int .i64 err] 58)
  have hA2 := alD (w.alloc (.cells #[.int .u64 n.1, .string n.2, .string n.2, .int .i64 fn, .slice aa args.length ac, .int .i64 fuel, .int .u8 st, .int .i64 op, .int .i64 val, .int .i64 err] 58)) (.cells #[.int .u64 n.1, .string n.2, .string n.2, .int .i64 fn, .slice aa' args.length ac', .int .i64 fuel, .int .u8 st, .int .i64 op, .int .i64 val, .int .i64 err] 58)
  have HA := Lib.hid (gthenD hA1 hA2)
  have HX := Lib.hid ((hx.below hA1).below hA2)
  have HY := Lib.hid ((hy.below hA1).below hA2)
  have HL := Lib.hid hl
  clear hA1 hA2 hx hy hl
  go_enter Try.func30, Try.ntmps30
  go_wp2_with fail
  have h := same_task n.2 n.2 fn fn fuel fuel _ _ args args _ HX.out HY.out HL.out
  rw [show sameT n.2 n.2 fn fn fuel fuel args args = true from by unfold sameT; exact decide_eq_true ⟨rfl, rfl, rfl, rfl⟩] at h
  refine h.mono ?_
  rintro e w1 ⟨rfl, hB⟩
  have HB := Lib.hid (gthenD HA.out hB)
  clear hB h
  go_wp2_with fail
  go_ret
  exact ⟨rfl, HB.out⟩
end Go.Proofs.Ythbkbmkcgpdedaa
