/- Contracts: thresherref11.Input, thresherref13.Root. -/
import Derived.Test.YtihadknnmkblcaaEv20
namespace Go.Proofs.Ytihadknnmkblcaa
open Go.RowKit Go.Sort Go.Lib

set_option maxHeartbeats 1600000 in
theorem rinput_any {e : Int} (pv : Value) (p : List Fnc) (a : Option Addr) (n cap : Nat) (w : World) (hp : ProgAt w pv p) (_hn : n ≤ 1000) (he : inputE p n = e) :
    Calls Try.prog 27 #[.agg #[pv], .slice a n cap] w fun r w' => r = .returned (.int .i64 e) ∧ Below w.heap.size w w' := by
  obtain ⟨pa, pc, rfl⟩ := hp.fns.slice
  have hA1 : Below w.heap.size w (w.alloc (.cells #[.slice pa p.length pc] 24)) := (Below.refl _ _).alloc (Nat.le_refl _) _
  have b1 : BoxAt (w.alloc (.cells #[.slice pa p.length pc] 24)) w.heap.size #[.slice pa p.length pc] 24 := heap_alloc_new _ _
  have HP := Lib.hid hp
  have HA := Lib.hid hA1
  have HB := Lib.hid b1
  have HE := Lib.hid he
  have hpl := hp.len
  clear hp hA1 b1 he
  go_enter Try.func27, Try.ntmps27
  go_wp2_with fail
  refine (rmay11_any _ p _ (HP.out.below HA.out)).mono ?_
  rintro r w2 ⟨fn, op, rfl, hB⟩
  have HB2 := Lib.hid (HB.out.below hB)
  have HF := Lib.hid (gthen HA.out hB)
  clear hB HB HA
  obtain ⟨pe, hpe⟩ : ∃ pe, progE p = pe := ⟨_, rfl⟩
  rw [hpe]
  have HPE := Lib.hid hpe
  clear hpe
  by_cases h0 : pe = 0
  · have h1 : (pe == 0) = true := by simp [h0]
    have H0 := Lib.hid (HPE.out.trans h0)
    have HZ := Lib.hid h0
    clear h0
    have hpos := (progE_ok H0.out).2
    obtain ⟨b, off, c, he, hb, hc⟩ := (HP.out.below HF.out).fns.at (by omega)
    injection he with he1 he2 he3
    subst he1
    have g0 := (fn_at hc hpos).1
    have b0 := HB2.out.cell 0
    simp only [List.getElem?_toArray, List.getElem?_cons_zero] at b0
    simp only [Nat.zero_mul, Nat.add_zero] at g0
    have HIN := Lib.hid (show inputE p n = if (n : Int) = p[0].args then 0 else 114 by
      unfold inputE
      rw [H0.out, if_neg (by simp)]
      have e1 : fnAt p 0 = p[0] := by
        unfold fnAt
        rw [List.getD_eq_getElem?_getD, Int.toNat_zero, List.getElem?_eq_getElem hpos]; rfl
      rw [e1])
    have hge : (0 : Int) < p.length := by omega
    clear hc hb he2 he3
    generalize p[0].args = m at *
    by_cases hm : (n : Int) = m
    · have h2 : ((n : Int) != m) = false := by simp [hm]
      have HM := Lib.hid hm
      clear hm
      go_wp2_with fail
      go_ret
      exact ⟨ret_int (by rw [← HE.out, HIN.out, if_pos HM.out, HZ.out]), HF.out⟩
    · have h2 : ((n : Int) != m) = true := by simpa using hm
      have HM := Lib.hid hm
      clear hm
      go_wp2_with fail
      go_ret
      exact ⟨ret_int (by rw [← HE.out, HIN.out, if_neg HM.out]), HF.out⟩
  · have h1 : (pe == 0) = false := by simpa using h0
    have H0 := Lib.hid h0
    clear h0
    go_wp2_with fail
    go_ret
    exact ⟨ret_int (by rw [← HE.out]; unfold inputE; rw [HPE.out, if_pos H0.out]), HF.out⟩
theorem encN1_one (y : Int) : ∀ x ∈ encN1 y, x.oneCell' = true := by
  intro x hx
  simp [encN1] at hx
  subst hx; rfl
/-- 'append(own, part...)'. -/
theorem run_appI {w : World} {B : Nat} {v u : Value} {xs ys : List Int} (ty : TypeId) (ho : w.ownsRow B 2 1 v xs.length (xs.flatMap encN1)) (hu : ReadsK encN1 1 w u ys) (hl : xs.length + ys.length ≤ 1000000) (hB : B ≤ w.heap.size) :
    ∃ v' w', (Builtin.append_ #[25, 25] ty #[v, u]).run Try.prog w = .ok v' w' ∧ w'.ownsRow B 2 1 v' (xs ++ ys).length ((xs ++ ys).flatMap encN1) ∧ w.grownBy w' v.ownBlock := by
  obtain ⟨ig, hig, hg0, hg1, hg2⟩ := info_parts info_i64
  have big : ∀ (ad : Addr) c, (u = .slice (some ad) ys.length c) → (∀ j x, (ys.flatMap encN1)[j]? = some x → w.cell? (ad.add j) = some x) → ∃ v' w', (Builtin.append_ #[25, 25] ty #[v, u]).run Try.prog w = .ok v' w' ∧ w'.ownsRow B 2 1 v' (xs ++ ys).length ((xs ++ ys).flatMap encN1) ∧ w.grownBy w' v.ownBlock := by
    intro ad c he hc
    subst he
    obtain ⟨v', w', hr, h2, h3, _⟩ := run_append_own (P := Try.prog) w B 25 ty 2 ig (.int .i64 0) 1 8 Try.underlying25 hig hg0 hg1 hg2 rfl (by decide) v xs.length (xs.flatMap encN1) ho ad ys.length c (ys.flatMap encN1) (flat_len (enc := encN1) (fun _ => rfl) ys) hc
      (fun x hx => by obtain ⟨y, _, hy⟩ := List.mem_flatMap.1 hx; exact encN1_one y x hy) (by unfold maxLen; omega) (by omega) hB
    exact ⟨v', w', hr, by rw [List.length_append, List.flatMap_append]; exact h2, h3⟩
  rcases hu with ⟨rfl, a, cap, rfl⟩ | ⟨b, off, cap, rfl, hb, hc⟩
  · cases a with
    | some ad => exact big ad cap rfl (fun j x h => by simp at h)
    | none =>
      refine ⟨v, w, ?_, by simpa using ho, ⟨rfl, rfl, rfl, Nat.le_refl _, fun _ _ _ => rfl⟩⟩
      obtain ⟨_, ⟨rfl, _⟩ | ⟨g, cap2, cur, rfl, _, _, h1, _⟩⟩ := ho
      · simp [Builtin.append_, run_underlying Try.underlying25, sizeOf, typeInfo, hig, Builtin.lenOf, Builtin.firstCells]
      · simp [Builtin.append_, run_underlying Try.underlying25, sizeOf, typeInfo, hig, Builtin.lenOf, Builtin.firstCells, h1, storeCells]
  · refine big ⟨b, off, none⟩ cap rfl (fun j x h => ?_)
    have hj : j < ys.length * 1 := by
      have := (List.getElem?_eq_some_iff.1 h).1
      rwa [flat_len (enc := encN1) (k := 1) (fun _ => rfl)] at this
    have h2 := flat_get (enc := encN1) (k := 1) (fun _ => rfl) (by decide) ys j hj
    obtain ⟨_, h4⟩ := List.getElem?_eq_some_iff.1 h
    rw [h2] at h4
    have h3 := hc (j / 1) (by omega) (j % 1) x (by rw [← h4]; exact List.getElem?_eq_getElem _)
    rw [show j / 1 * 1 + j % 1 = j by omega] at h3
    rw [← h3]
    by_cases h0 : j = 0
    · subst h0; rfl
    · simp [Addr.add, h0]
theorem wpList_appI {w : World} {ops : Array Oper} {rest : List Oper} {o : Oper} {a : Act} {Q : Exit → Act → World → Prop} (hgd : o.guard = none) (s x : Operand)
    (ho : o.op = .call { callee := .builtin .append, args := #[s, x], argTypes := #[25, 25] }) {B : Nat} {v u : Value} {xs ys : List Int} (hs : a.eval s = v) (hx : a.eval x = u)
    (hown : w.ownsRow B 2 1 v xs.length (xs.flatMap encN1)) (hu : ReadsK encN1 1 w u ys) (hl : xs.length + ys.length ≤ 1000000) (hB : B ≤ w.heap.size)
    (h : ∀ v' w', w'.ownsRow B 2 1 v' (xs ++ ys).length ((xs ++ ys).flatMap encN1) → w.grownBy w' v.ownBlock → wpList Try.prog ops Q rest (a.put o.dst v') w') : wpList Try.prog ops Q (o :: rest) a w := by
  refine wpList_plain hgd fun _ hK => ?_
  obtain ⟨v', w', hr, h2, h3⟩ := run_appI (w := w) o.type hown hu hl hB
  unfold Oper.wp execOp
  simp only [ho, resolve, invoke, builtin, Sem.run_bind, Sem.run_pure, Result.andThen_ok, List.map_toArray, List.map_cons, List.map_nil, hs, hx, hr]
  exact hK _ _ (h v' w' h2 h3)
theorem own_slice' {w : World} {Z k n : Nat} {E : TypeId} {v : Value} {xs : List Value} (h : w.ownsRow Z E k v n xs) : ∃ a c, v = .slice a n c := by
  obtain ⟨_, ⟨rfl, rfl⟩ | ⟨g, cap, cur, rfl, _⟩⟩ := h
  · exact ⟨_, _, rfl⟩
  · exact ⟨_, _, rfl⟩
theorem rroot_end {wz : World} {tmps : Array Value} {p : ByteArray} {fn fuel err : Int} {v : Value} {r : Nat} {R : Ending → World → Prop}
    (hr : BoxAt wz r (taC p fn v fuel) TaskT) (h2 : tmps.getD 6 undef = .pointer (some ⟨r, 0, none⟩)) (h3 : tmps.getD 7 undef = .int .i64 err) (hR : R (.returned (.tuple #[.agg #[.string p, .int .i64 fn, v, .int .i64 fuel], .int .i64 err])) wz) :
    bodyPost Try.prog Try.f13 R Exit.ret { tmps := tmps, defers := [] } wz := by
  have c0 := hr.cell 0
  have c1 := hr.cell 1
  have c2 := hr.cell 2
  have c3 := hr.cell 3
  simp only [taC, List.getElem?_toArray, List.getElem?_cons_zero, List.getElem?_cons_succ] at c0 c1 c2 c3
  refine bodyPost_ret (v := .tuple #[.agg #[.string p, .int .i64 fn, v, .int .i64 fuel], .int .i64 err]) ?_ rfl hR
  have h2' : tmps[6]?.getD undef = .pointer (some ⟨r, 0, none⟩) := by simpa using h2
  have h3' : tmps[7]?.getD undef = .int .i64 err := by simpa using h3
  simp [results, Try.results13, go_sem, h2', h3', c0, c1, c2, c3]
set_option maxHeartbeats 3200000 in
set_option maxRecDepth 100000 in
theorem rroot_any {err : Int} (pv : Value) (p : List Fnc) (v : Value) (l : List Int) (fuel : Int) (w : World) (hp : ProgAt w pv p) (hv : ReadsK encN1 1 w v l) (hn : l.length ≤ 1000) (he : rootE p l.length fuel = err) :
    Calls Try.prog 13 #[.agg #[pv], v, .int .i64 fuel] w (RootP w.heap.size w l fuel err) := by
  obtain ⟨pa, pc, rfl⟩ := hp.fns.slice
  obtain ⟨va, vc, rfl⟩ := hv.slice
  obtain ⟨ig, hig, hg0, hg1, hg2⟩ := info_parts info_i64
  have hA1 : Below w.heap.size w (w.alloc (.cells #[.slice pa p.length pc] 24)) := (Below.refl _ _).alloc (Nat.le_refl _) _
  have hA2 : Below (w.alloc (.cells #[.slice pa p.length pc] 24)).heap.size _ ((w.alloc (.cells #[.slice pa p.length pc] 24)).alloc (.cells (taC ⟨#[]⟩ 0 (.slice none 0 0) 0) TaskT)) := (Below.refl _ _).alloc (Nat.le_refl _) _
  have b2 : BoxAt ((w.alloc (.cells #[.slice pa p.length pc] 24)).alloc (.cells (taC ⟨#[]⟩ 0 (.slice none 0 0) 0) TaskT)) (w.heap.size + 1) (taC ⟨#[]⟩ 0 (.slice none 0 0) 0) TaskT := by
    have := heap_alloc_new (w.alloc (.cells #[.slice pa p.length pc] 24)) (.cells (taC ⟨#[]⟩ 0 (.slice none 0 0) 0) TaskT)
    rwa [show (w.alloc (.cells #[.slice pa p.length pc] 24)).heap.size = w.heap.size + 1 by simp] at this
  have HB := Lib.hid (gthen hA1 hA2)
  have HX := Lib.hid b2
  have HP := Lib.hid hp
  have HV := Lib.hid hv
  have HE := Lib.hid he
  clear hp hv he hA1 hA2 b2
  go_enter Try.func13, Try.ntmps13
  go_wp2_with fail
  refine (rinput_any (e := inputE p l.length) _ p _ l.length _ _ (HP.out.below HB.out) hn rfl).mono ?_
  rintro r w2 ⟨rfl, hB⟩
  have HB2 := Lib.hid (gthen HB.out hB)
  have HX2 := Lib.hid (HX.out.below hB)
  have HV2 := Lib.hid (HV.out.below HB2.out)
  clear hB HB HX
  have r0 := HX2.out.cell 0; have r1 := HX2.out.cell 1; have r2 := HX2.out.cell 2; have r3 := HX2.out.cell 3
  have z0 := HX2.out.frozen 0; have z1 := HX2.out.frozen 1; have z2 := HX2.out.frozen 2; have z3 := HX2.out.frozen 3
  simp only [taC, List.getElem?_toArray, List.getElem?_cons_zero, List.getElem?_cons_succ] at r0 r1 r2 r3
  have hsz : w.heap.size ≤ w.heap.size + 1 := by omega
  obtain ⟨ie, hie⟩ : ∃ ie, inputE p l.length = ie := ⟨_, rfl⟩
  rw [hie]
  have HIE := Lib.hid (show err = if ie ≠ 0 then ie else if 0 ≤ fuel ∧ fuel ≤ 65536 then 0 else 2 by rw [← HE.out]; unfold rootE; rw [hie])
  clear hie HE
  by_cases h0 : ie = 0
  · have h1 : (ie != 0) = false := by simp [h0]
    have H0 := Lib.hid h0
    clear h0
    by_cases hf : 0 ≤ fuel ∧ fuel ≤ 65536
    · obtain ⟨hf0, hf1⟩ := hf
      have HE := Lib.hid (show err = 0 by rw [HIE.out, if_neg (fun h => h H0.out), if_pos ⟨hf0, hf1⟩])
      have g1 : ¬ fuel < 0 := by omega
      have g2 : ¬ 65536 < fuel := by omega
      clear r0 r1 r2 r3 z0 z1 z2 z3
      go_wp2_with (at_builtin; refine wpList_appI rfl _ _ rfl (B := w2.heap.size) (xs := []) (ys := l) rfl rfl (World.ownsRow_made w2 #[] 0 (Nat.le_refl _) (Nat.zero_le _) (by simp)) (HV2.out.below ((Below.refl _ _).alloc (Nat.le_refl _) _)) (by simp; omega) (by simp) ?_)
      rintro v' w3 ho hgr
      replace ho : w3.ownsRow w2.heap.size 2 1 v' l.length (l.flatMap encN1) := ho
      have hB : Below w2.heap.size w2 w3 := (((Below.refl _ w2).alloc (Nat.le_refl _) _).grown hgr (by simp) (by intro k hk; simp [Value.ownBlock] at hk; omega))
      obtain ⟨aa, ac, rfl⟩ := own_slice' ho
      have HB3 := Lib.hid (gthen HB2.out hB)
      have HX3 := Lib.hid (HX2.out.below hB)
      have HO := Lib.hid ho
      have HLT := Lib.hid (show w.heap.size + 1 < w2.heap.size from (Array.getElem?_eq_some_iff.1 HX2.out).1)
      clear ho hB hgr
      have r0 := HX3.out.cell 0; have r1 := HX3.out.cell 1; have r2 := HX3.out.cell 2; have r3 := HX3.out.cell 3
      have z0 := HX3.out.frozen 0; have z1 := HX3.out.frozen 1; have z2 := HX3.out.frozen 2; have z3 := HX3.out.frozen 3
      simp only [taC, List.getElem?_toArray, List.getElem?_cons_zero, List.getElem?_cons_succ] at r0 r1 r2 r3
      go_wp2_with fail
      refine rroot_end (set4_box HX3.out _ _ _ _) rfl rfl ⟨set4_below HB3.out hsz _ _ _ _, ?_⟩
      rw [if_pos HE.out]
      exact ⟨aa, ac, rfl, owns_base (own_sets4 HO.out HLT.out _ _ _ _) HB2.out.size⟩
    · have HE := Lib.hid (show err = 2 by rw [HIE.out, if_neg (fun h => h H0.out), if_neg hf])
      by_cases hf0 : fuel < 0
      · go_wp2_with fail
        refine rroot_end (set4_box HX2.out _ _ _ _) rfl rfl ⟨set4_below HB2.out hsz _ _ _ _, ?_⟩
        rw [if_neg (by rw [HE.out]; decide), HE.out]; rfl
      · have hf1 : 65536 < fuel := by omega
        go_wp2_with fail
        refine rroot_end (set4_box HX2.out _ _ _ _) rfl rfl ⟨set4_below HB2.out hsz _ _ _ _, ?_⟩
        rw [if_neg (by rw [HE.out]; decide), HE.out]; rfl
  · have h1 : (ie != 0) = true := by simpa using h0
    have HE := Lib.hid (show err = ie by rw [HIE.out, if_pos h0])
    have H0 := Lib.hid h0
    clear h0
    go_wp2_with fail
    refine rroot_end (set4_box HX2.out _ _ _ _) rfl rfl ⟨set4_below HB2.out hsz _ _ _ _, ?_⟩
    rw [if_neg (by rw [HE.out]; exact H0.out), HE.out]; rfl
end Go.Proofs.Ytihadknnmkblcaa
