/- Contracts: check.Input, eval.Root. -/
import Derived.Test.YtdhbjejejeljoaaGreatEv7
import Derived.OwnWalk
import Derived.Sort.OwnSorted
import Derived.Lib.SliceRun
import Derived.Laws.AppendOwn
namespace Go.Proofs.YtdhbjejejeljoaaGreat
open Go.RowKit Go.Sort Go.Lib

set_option maxHeartbeats 1600000 in
theorem input_any {e : Int} (pv : Value) (p : List Fnc) (a : Option Addr) (n cap : Nat) (w : World) (hp : ProgAt w pv p) (_hn : n ≤ 1000) (he : inputE p n = e) :
    Calls Tryz.prog 22 #[.agg #[pv], .slice a n cap] w fun r w' => r = .returned (.int .i64 e) ∧ Below w.heap.size w w' := by
  obtain ⟨pa, pc, rfl⟩ := hp.fns.slice
  have hA1 : Below w.heap.size w (w.alloc (.cells #[.slice pa p.length pc] 24)) := (Below.refl _ _).alloc (Nat.le_refl _) _
  have b1 : BoxAt (w.alloc (.cells #[.slice pa p.length pc] 24)) w.heap.size #[.slice pa p.length pc] 24 := heap_alloc_new _ _
  have HP := Lib.hid hp
  have HA := Lib.hid hA1
  have HB := Lib.hid b1
  have HE := Lib.hid he
  have hpl := hp.len
  clear hp hA1 b1 he
  go_enter Tryz.func22, Tryz.ntmps22
  go_wp2_with fail
  refine (look_any _ p _ (HP.out.below HA.out)).mono ?_
  rintro r w2 ⟨fn, op, rfl, hB⟩
  have HB2 := Lib.hid (HB.out.below hB)
  have HF := Lib.hid (gthen HA.out hB)
  have HG := Lib.hid ((HF.out).alloc HF.out.size (.cells #[.int .i64 (progE p), .int .i64 fn, .int .i64 op] FaultT))
  clear hB HB HA
  obtain ⟨pe, hpe⟩ : ∃ pe, progE p = pe := ⟨_, rfl⟩
  rw [hpe] at HG ⊢
  have HPE := Lib.hid hpe
  clear hpe
  by_cases h0 : pe = 0
  · have h1 : (pe != 0) = false := by simp [h0]
    have H0 := Lib.hid (HPE.out.trans h0)
    clear h0
    have hpos := (progE_ok H0.out).2
    obtain ⟨b, off, c, he, hb, hc⟩ := (HP.out.below HF.out).fns.at (by omega)
    injection he with he1 he2 he3
    subst he1
    have HA2 := Lib.hid (show Below w2.heap.size w2 (w2.alloc (.cells #[.int .i64 pe, .int .i64 fn, .int .i64 op] FaultT)) from (Below.refl _ _).alloc (Nat.le_refl _) _)
    have g0 := cell_of HA2.out (fn_at hc hpos).1
    have b0 := cell_of HA2.out (HB2.out.cell 0)
    simp only [Nat.zero_mul, Nat.add_zero] at g0
    have HIN := Lib.hid (show inputE p n = if (n : Int) = p[0].args then 0 else 114 by
      unfold inputE
      rw [H0.out, if_neg (by simp)]
      have e1 : fnAt p 0 = p[0] := by
        unfold fnAt
        rw [List.getD_eq_getElem?_getD, Int.toNat_zero, List.getElem?_eq_getElem hpos]; rfl
      rw [e1])
    have hge : (0 : Int) < p.length := by omega
    clear hc hb he2 he3
    generalize p[0].args = m at *
    by_cases hm : (n : Int) = m
    · have h2 : ((n : Int) != m) = false := by simp [hm]
      have HM := Lib.hid hm
      clear hm
      go_wp2_with fail
      go_ret
      exact ⟨ret_int (by rw [← HE.out, HIN.out, if_pos HM.out]), HG.out⟩
    · have h2 : ((n : Int) != m) = true := by simpa using hm
      have HM := Lib.hid hm
      clear hm
      go_wp2_with fail
      go_ret
      exact ⟨ret_int (by rw [← HE.out, HIN.out, if_neg HM.out]), HG.out⟩
  · have h1 : (pe != 0) = true := by simpa using h0
    have H0 := Lib.hid h0
    clear h0
    go_wp2_with fail
    go_ret
    exact ⟨ret_int (by rw [← HE.out]; unfold inputE; rw [HPE.out, if_pos H0.out]), HG.out⟩
theorem owns_base {w : World} {B B' : Nat} {E : TypeId} {size : Nat} {v : Value} {n : Nat} {xs : List Value} (h : w.ownsRow B E size v n xs) (hb : B' ≤ B) : w.ownsRow B' E size v n xs := by
  obtain ⟨h0, h | ⟨g, cap, cur, hv, h1, h2⟩⟩ := h
  · exact ⟨h0, .inl h⟩
  · exact ⟨h0, .inr ⟨g, cap, cur, hv, Nat.le_trans hb h1, h2⟩⟩
theorem info_i64 : (Tryz.prog.info? 2).map (fun i => (i.zero, i.size, i.bytes)) = some (some (.int .i64 0), 1, 8) := by kernel_rfl

set_option maxHeartbeats 800000 in
set_option maxRecDepth 100000 in
theorem clone_any (v : Value) (l : List Int) (w : World) (h : ReadsK encN1 1 w v l) (hl : l.length ≤ 1000000) :
    Calls Tryz.prog 23 #[v] w fun e w' => ∃ aa ac, e = .returned (.slice aa l.length ac) ∧ w'.ownsRow w.heap.size 2 1 (.slice aa l.length ac) l.length (l.flatMap encN1) ∧ Below w.heap.size w w' := by
  obtain ⟨ig, hig, hg0, hg1, hg2⟩ := info_parts info_i64
  have q36 : ∀ (w : World) (a : Option Addr) (n c n' c' : Nat), (binOp .eql 25 (.slice a n c) (.slice none n' c')).run Tryz.prog w = .ok (.bool a.isNone) w := fun w a n c n' c' => Lib.run_eql_slice_nil w _ _ a n c n' c' Tryz.underlying25
  have main : ∀ (ad : Addr) (cap : Nat), v = .slice (some ad) l.length cap → (∀ j u, (l.flatMap encN1)[j]? = some u → w.cell? (ad.add j) = some u) →
      Calls Tryz.prog 23 #[v] w fun e w' => ∃ aa ac, e = .returned (.slice aa l.length ac) ∧ w'.ownsRow w.heap.size 2 1 (.slice aa l.length ac) l.length (l.flatMap encN1) ∧ Below w.heap.size w w' := by
    rintro ad cap rfl hc
    have HC := Lib.hid hc
    clear hc h
    go_enter Tryz.func23, Tryz.ntmps23
    go_wp2_with (at_builtin; refine wpList_append_own _ rfl _ _ 25 rfl w.heap.size 2 ig (.int .i64 0) 1 8 Tryz.underlying25 hig hg0 hg1 hg2 rfl (by decide) _ _ _ rfl (World.ownsRow_made w #[] 0 (Nat.le_refl _) (Nat.zero_le _) (by simp)) ad l.length cap (l.flatMap encN1) rfl ?qc1 ?qc2 ?qc3 ?qc4 ?qc5 ?qc6 ?_)
    case qc1 => rw [flat_len (k := 1) (fun _ => rfl)]
    case qc2 => exact fun j u hj => Lib.cell?_alloc_some _ (HC.out j u hj)
    case qc3 =>
      intro u hu
      obtain ⟨x, _, hx⟩ := List.mem_flatMap.1 hu
      simp [encN1] at hx
      rw [hx]; rfl
    case qc4 => unfold maxLen; omega
    case qc5 => omega
    case qc6 => simp
    intro v' w1 hown hgrow hnil
    have hB : Below w.heap.size w w1 := ((Below.refl _ w).alloc (Nat.le_refl _) _).grown hgrow (by simp) (by intro k hk; simp [Value.ownBlock] at hk; omega)
    have HO := Lib.hid hown
    have HB := Lib.hid hB
    obtain ⟨a, c, rfl⟩ := (own_readsK (enc := encN1) (k := 1) (fun _ => rfl) (by decide) hown).slice
    clear hown hB hgrow hnil
    go_wp2_with fail
    go_ret
    exact ⟨a, c, rfl, HO.out, HB.out⟩
  rcases h with ⟨rfl, a, cap, rfl⟩ | ⟨b, off, cap, rfl, hb, hc⟩
  · cases a with
    | none =>
      clear main
      go_enter Tryz.func23, Tryz.ntmps23
      go_wp2_with fail
      go_ret
      exact ⟨none, 0, rfl, World.ownsRow_nil _ _ _ _, Below.refl _ _⟩
    | some ad => exact main ad cap rfl (by simp)
  · refine main ⟨b, off, none⟩ cap rfl fun j u hj => ?_
    have hjl : j < l.length := by have := (List.getElem?_eq_some_iff.1 hj).1; rwa [flat_len (k := 1) (fun _ => rfl), Nat.mul_one] at this
    have h2 := hc j hjl 0 (.int .i64 l[j]) rfl
    rw [Nat.mul_one, Nat.add_zero] at h2
    have h3 : (l.flatMap encN1)[j]? = some (.int .i64 l[j]) := by
      have : l.flatMap encN1 = l.map (fun x => Value.int .i64 x) := by rw [List.map_eq_flatMap]; rfl
      rw [this, List.getElem?_map, List.getElem?_eq_getElem hjl]; rfl
    rw [h3] at hj
    injection hj with hj
    subst hj
    rw [Addr.add_lit]
    exact h2

abbrev TaskT : TypeId := 34
abbrev taC (p : ByteArray) (fn : Int) (v : Value) (fuel : Int) : Array Value := #[.string p, .int .i64 fn, v, .int .i64 fuel]
theorem root_end {wz : World} {tmps : Array Value} {p : ByteArray} {fn fuel err : Int} {v : Value} {r : Nat} {R : Ending → World → Prop}
    (hr : BoxAt wz r (taC p fn v fuel) TaskT) (h2 : tmps.getD 6 undef = .pointer (some ⟨r, 0, none⟩)) (h3 : tmps.getD 7 undef = .int .i64 err) (hR : R (.returned (.tuple #[.agg #[.string p, .int .i64 fn, v, .int .i64 fuel], .int .i64 err])) wz) :
    bodyPost Tryz.prog Tryz.f7 R Exit.ret { tmps := tmps, defers := [] } wz := by
  have c0 := hr.cell 0
  have c1 := hr.cell 1
  have c2 := hr.cell 2
  have c3 := hr.cell 3
  simp only [taC, List.getElem?_toArray, List.getElem?_cons_zero, List.getElem?_cons_succ] at c0 c1 c2 c3
  refine bodyPost_ret (v := .tuple #[.agg #[.string p, .int .i64 fn, v, .int .i64 fuel], .int .i64 err]) ?_ rfl hR
  have h2' : tmps[6]?.getD undef = .pointer (some ⟨r, 0, none⟩) := by simpa using h2
  have h3' : tmps[7]?.getD undef = .int .i64 err := by simpa using h3
  simp [results, Tryz.results7, go_sem, h2', h3', c0, c1, c2, c3]
def rootE (p : List Fnc) (n : Nat) (fuel : Int) : Int := if inputE p n ≠ 0 then inputE p n else if 0 ≤ fuel ∧ fuel ≤ 65536 then 0 else 2
def noTask : Value := .agg #[.string ⟨#[]⟩, .int .i64 0, .slice none 0 0, .int .i64 0]
/-- What Root answers. -/
def RootP (B : Nat) (w0 : World) (l : List Int) (fuel err : Int) (e : Ending) (w' : World) : Prop :=
  Below w0.heap.size w0 w' ∧ if err = 0 then ∃ aa ac, e = .returned (.tuple #[.agg #[.string ⟨#[]⟩, .int .i64 0, .slice aa l.length ac, .int .i64 fuel], .int .i64 0]) ∧ w'.ownsRow B 2 1 (.slice aa l.length ac) l.length (l.flatMap encN1)
    else e = .returned (.tuple #[noTask, .int .i64 err])
theorem set4_box {w : World} {q : Nat} {a b c d : Value} {T : TypeId} (h : BoxAt w q #[a, b, c, d] T) (x y z u : Value) : BoxAt ((((w.setCell ⟨q, 0, none⟩ x).setCell ⟨q, 1, none⟩ y).setCell ⟨q, 2, none⟩ z).setCell ⟨q, 3, none⟩ u) q #[x, y, z, u] T := set4 h x y z u
theorem set4_below {B : Nat} {w w1 : World} {r : Nat} (h : Below B w w1) (hr : B ≤ r) (a b c d : Value) :
    Below B w ((((w1.setCell ⟨r, 0, none⟩ a).setCell ⟨r, 1, none⟩ b).setCell ⟨r, 2, none⟩ c).setCell ⟨r, 3, none⟩ d) :=
  (((h.setCell hr _).setCell hr _).setCell hr _).setCell hr _
theorem own_sets {w1 : World} {E : TypeId} {v : Value} {n k : Nat} {xs : List Value} {B r : Nat} (h : w1.ownsRow B E k v n xs) (hr : r < B) {a : Addr} (ha : a.block = r) (u : Value) : (w1.setCell a u).ownsRow B E k v n xs := by
  refine ⟨h.1, h.2.imp id ?_⟩
  rintro ⟨g, cap, cur, hv, h1, h2, h3⟩
  exact ⟨g, cap, cur, hv, h1, (Go.heap_setCell_other w1 a g u (by omega)).trans h2, h3⟩
theorem own_sets4 {w1 : World} {E : TypeId} {v : Value} {n k : Nat} {xs : List Value} {B r : Nat} (h : w1.ownsRow B E k v n xs) (hr : r < B) (a b c d : Value) : ((((w1.setCell ⟨r, 0, none⟩ a).setCell ⟨r, 1, none⟩ b).setCell ⟨r, 2, none⟩ c).setCell ⟨r, 3, none⟩ d).ownsRow B E k v n xs :=
  own_sets (own_sets (own_sets (own_sets h hr (a := ⟨r, 0, none⟩) rfl a) hr (a := ⟨r, 1, none⟩) rfl b) hr (a := ⟨r, 2, none⟩) rfl c) hr (a := ⟨r, 3, none⟩) rfl d
set_option maxHeartbeats 1600000 in
set_option maxRecDepth 100000 in
theorem root_any {err : Int} (pv : Value) (p : List Fnc) (v : Value) (l : List Int) (fuel : Int) (w : World) (hp : ProgAt w pv p) (hv : ReadsK encN1 1 w v l) (hn : l.length ≤ 1000) (he : rootE p l.length fuel = err) :
    Calls Tryz.prog 7 #[.agg #[pv], v, .int .i64 fuel] w (RootP w.heap.size w l fuel err) := by
  obtain ⟨pa, pc, rfl⟩ := hp.fns.slice
  obtain ⟨va, vc, rfl⟩ := hv.slice
  have hA1 : Below w.heap.size w (w.alloc (.cells #[.slice pa p.length pc] 24)) := (Below.refl _ _).alloc (Nat.le_refl _) _
  have hA2 : Below (w.alloc (.cells #[.slice pa p.length pc] 24)).heap.size _ ((w.alloc (.cells #[.slice pa p.length pc] 24)).alloc (.cells (taC ⟨#[]⟩ 0 (.slice none 0 0) 0) TaskT)) := (Below.refl _ _).alloc (Nat.le_refl _) _
  have b1 : BoxAt (w.alloc (.cells #[.slice pa p.length pc] 24)) w.heap.size #[.slice pa p.length pc] 24 := heap_alloc_new _ _
  have b2 : BoxAt ((w.alloc (.cells #[.slice pa p.length pc] 24)).alloc (.cells (taC ⟨#[]⟩ 0 (.slice none 0 0) 0) TaskT)) (w.heap.size + 1) (taC ⟨#[]⟩ 0 (.slice none 0 0) 0) TaskT := by
    have := heap_alloc_new (w.alloc (.cells #[.slice pa p.length pc] 24)) (.cells (taC ⟨#[]⟩ 0 (.slice none 0 0) 0) TaskT)
    rwa [show (w.alloc (.cells #[.slice pa p.length pc] 24)).heap.size = w.heap.size + 1 by simp] at this
  have HB := Lib.hid (gthen hA1 hA2)
  have HX := Lib.hid b2
  have HP := Lib.hid hp
  have HV := Lib.hid hv
  have HE := Lib.hid he
  clear hp hv he hA1 hA2 b1 b2
  go_enter Tryz.func7, Tryz.ntmps7
  go_wp2_with fail
  refine (input_any (e := inputE p l.length) _ p _ l.length _ _ (HP.out.below HB.out) hn rfl).mono ?_
  rintro r w2 ⟨rfl, hB⟩
  have HB2 := Lib.hid (gthen HB.out hB)
  have HX2 := Lib.hid (HX.out.below hB)
  have HV2 := Lib.hid (HV.out.below HB2.out)
  clear hB HB HX
  have r0 := HX2.out.cell 0; have r1 := HX2.out.cell 1; have r2 := HX2.out.cell 2; have r3 := HX2.out.cell 3
  have z0 := HX2.out.frozen 0; have z1 := HX2.out.frozen 1; have z2 := HX2.out.frozen 2; have z3 := HX2.out.frozen 3
  simp only [taC, List.getElem?_toArray, List.getElem?_cons_zero, List.getElem?_cons_succ] at r0 r1 r2 r3
  have hsz : w.heap.size ≤ w.heap.size + 1 := by omega
  obtain ⟨ie, hie⟩ : ∃ ie, inputE p l.length = ie := ⟨_, rfl⟩
  rw [hie]
  have HIE := Lib.hid (show err = if ie ≠ 0 then ie else if 0 ≤ fuel ∧ fuel ≤ 65536 then 0 else 2 by rw [← HE.out]; unfold rootE; rw [hie])
  clear hie HE
  by_cases h0 : ie = 0
  · have h1 : (ie != 0) = false := by simp [h0]
    have H0 := Lib.hid h0
    clear h0
    by_cases hf : 0 ≤ fuel ∧ fuel ≤ 65536
    · obtain ⟨hf0, hf1⟩ := hf
      have HE := Lib.hid (show err = 0 by rw [HIE.out, if_neg (fun h => h H0.out), if_pos ⟨hf0, hf1⟩])
      have g1 : ¬ fuel < 0 := by omega
      have g2 : ¬ 65536 < fuel := by omega
      clear r0 r1 r2 r3 z0 z1 z2 z3
      go_wp2_with fail
      refine (clone_any _ l _ HV2.out (by omega)).mono ?_
      rintro r w3 ⟨aa, ac, rfl, ho, hB⟩
      have HB3 := Lib.hid (gthen HB2.out hB)
      have HX3 := Lib.hid (HX2.out.below hB)
      have HO := Lib.hid ho
      have HLT := Lib.hid (show w.heap.size + 1 < w2.heap.size from (Array.getElem?_eq_some_iff.1 HX2.out).1)
      clear ho hB
      have r0 := HX3.out.cell 0; have r1 := HX3.out.cell 1; have r2 := HX3.out.cell 2; have r3 := HX3.out.cell 3
      have z0 := HX3.out.frozen 0; have z1 := HX3.out.frozen 1; have z2 := HX3.out.frozen 2; have z3 := HX3.out.frozen 3
      simp only [taC, List.getElem?_toArray, List.getElem?_cons_zero, List.getElem?_cons_succ] at r0 r1 r2 r3
      go_wp2_with fail
      refine root_end (set4_box HX3.out _ _ _ _) rfl rfl ⟨set4_below HB3.out hsz _ _ _ _, ?_⟩
      rw [if_pos HE.out]
      exact ⟨aa, ac, rfl, owns_base (own_sets4 HO.out HLT.out _ _ _ _) HB2.out.size⟩
    · have HE := Lib.hid (show err = 2 by rw [HIE.out, if_neg (fun h => h H0.out), if_neg hf])
      by_cases hf0 : fuel < 0
      · go_wp2_with fail
        refine root_end (set4_box HX2.out _ _ _ _) rfl rfl ⟨set4_below HB2.out hsz _ _ _ _, ?_⟩
        rw [if_neg (by rw [HE.out]; decide), HE.out]; rfl
      · have hf1 : 65536 < fuel := by omega
        go_wp2_with fail
        refine root_end (set4_box HX2.out _ _ _ _) rfl rfl ⟨set4_below HB2.out hsz _ _ _ _, ?_⟩
        rw [if_neg (by rw [HE.out]; decide), HE.out]; rfl
  · have h1 : (ie != 0) = true := by simpa using h0
    have HE := Lib.hid (show err = ie by rw [HIE.out, if_pos h0])
    have H0 := Lib.hid h0
    clear h0
    go_wp2_with fail
    refine root_end (set4_box HX2.out _ _ _ _) rfl rfl ⟨set4_below HB2.out hsz _ _ _ _, ?_⟩
    rw [if_neg (by rw [HE.out]; exact H0.out), HE.out]; rfl
end Go.Proofs.YtdhbjejejeljoaaGreat
