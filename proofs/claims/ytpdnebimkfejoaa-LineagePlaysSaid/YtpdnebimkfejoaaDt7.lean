/- The document's tree: Lost. -/
import Derived.Test.YtpdnebimkfejoaaDt6
namespace Go.Proofs.Ytpdnebimkfejoaa
open Go.RowKit Go.Sort Go.Lib

abbrev IntT : TypeId := 3
def lostN (m : Al) (ks : List Int) : List Nm := (m.filter fun p => lostB ks p.2).map (·.1)
def lostK (l : Al) (ks : List Int) (k : Nat) : Al := lostA (l.take k) ks ++ l.drop k
theorem lostK_len (l : Al) (ks : List Int) (k : Nat) : (lostK l ks k).length = l.length := by
  unfold lostK lostA
  simp
  omega
theorem lostK_get {l : Al} {ks : List Int} {k : Nat} (hk : k < l.length) : (lostK l ks k)[k]'(by rw [lostK_len]; exact hk) = l[k] := by
  unfold lostK
  have e : (lostA (l.take k) ks).length = k := by unfold lostA; rw [List.length_map, List.length_take]; omega
  rw [List.getElem_append_right (by omega)]
  simp [e]
theorem lostK_step {l : Al} {ks : List Int} {k : Nat} (hk : k < l.length) : lostK l ks (k + 1) = if lostB ks l[k].2 = true then (lostK l ks k).set k (l[k].1, freeR l[k].2) else lostK l ks k := by
  have e : (lostA (l.take k) ks).length = k := by unfold lostA; rw [List.length_map, List.length_take]; omega
  have h1 : lostK l ks (k + 1) = lostA (l.take k) ks ++ ((if lostB ks l[k].2 = true then (l[k].1, freeR l[k].2) else l[k]) :: l.drop (k + 1)) := by
    unfold lostK
    rw [List.take_succ_eq_append_getElem hk]
    unfold lostA
    rw [List.map_append, List.append_assoc]
    rfl
  have h2 : lostK l ks k = lostA (l.take k) ks ++ (l[k] :: l.drop (k + 1)) := by unfold lostK; rw [← List.drop_eq_getElem_cons hk]
  rw [h1, h2]
  split
  · rw [List.set_append_right _ _ (by omega), e, Nat.sub_self, List.set_cons_zero]
  · rfl
theorem lostN_take {l : Al} {ks : List Int} {k : Nat} (hk : k < l.length) : lostN (l.take (k + 1)) ks = lostN (l.take k) ks ++ (if lostB ks l[k].2 = true then [l[k].1] else []) := by
  unfold lostN
  rw [List.take_succ_eq_append_getElem hk, List.filter_append, List.map_append]
  congr 1
  by_cases h : lostB ks l[k].2 = true <;> simp [h]
/-- The names' list is not turned by a root's store. -/
theorem own_wrt {Z n g o : Nat} {v : Value} {xs : List Value} {w : World} {x : Rl} {cur : Array Value} {fz : Nat × Nat} (h : w.ownsRow Z NmT 2 v n xs) (hg : w.heap[g]? = some (.cells cur RootT fz)) : (wrt9 w g o x).drew.ownsRow Z NmT 2 v n xs := by
  have := own_typed h (wrt9_fr w g o x) (Es := [RootT]) (fun i hi _ => ⟨RootT, cur, fz, List.mem_singleton.2 rfl, by rw [hi]; exact hg⟩) (by decide)
  exact own_below this (Below.refl _ _).drew
theorem four (c : Bool) (a b d : Int) : c = true ∨ (c = false ∧ a ≠ 2) ∨ (c = false ∧ a = 2 ∧ b = d) ∨ (c = false ∧ a = 2 ∧ b ≠ d) := by
  cases c <;> by_cases e1 : a = 2 <;> by_cases e2 : b = d <;> simp [e1, e2]
def LostDP (Z r : Nat) (lv : Value) (l : Al) (ks : List Int) (w : World) (e : Ending) (w' : World) : Prop := ∃ v, e = .returned v ∧ w'.ownsRow w.heap.size NmT 2 v (lostN l ks).length ((lostN l ks).flatMap encM) ∧ Dt Z r lv (lostA l ks) w' ∧ DL r lv w lv w'
set_option maxHeartbeats 12800000 in
set_option maxRecDepth 100000 in
theorem dlost_any {Z r kb : Nat} {lv : Value} {l : Al} {w : World} (k1 k2 : Int) (h : Dt Z r lv l w) (hm : l.length ≤ 100000) (hks : BoxAt w kb #[.int .i64 k1, .int .i64 k2] IntT) :
    Calls Try.prog 27 #[RP r, .slice (some ⟨kb, 0, none⟩) 2 2] w (LostDP Z r lv l [k1, k2] w) := by
  have H0 := Lib.hid h
  have HK := Lib.hid hks
  obtain ⟨la, lc, hlv⟩ := own_slice h.own
  have HLV := Lib.hid hlv
  obtain ⟨N, hN⟩ : ∃ N, l.length = N := ⟨_, rfl⟩
  clear h hlv hks
  have HN := Lib.hid hN
  have hN1 : N ≤ 100000 := by omega
  go_enter Try.func27, Try.ntmps27
  go_wp2_with fail
  go_loopg [5, 6] N (fun gk t5 t6 wr => ∃ (k : Nat) (va : Option Addr) (vn vc : Nat), gk + k = N ∧ t6 = .int .i64 k ∧ t5 = .slice va vn vc ∧ (lostN (l.take k) [k1, k2]).length = vn ∧ vn ≤ k ∧ Hid (Dt Z r lv (lostK l [k1, k2] k) wr ∧ DL r lv w lv wr ∧ BoxAt wr kb #[.int .i64 k1, .int .i64 k2] IntT ∧ wr.ownsRow w.heap.size NmT 2 (.slice va vn vc) (lostN (l.take k) [k1, k2]).length ((lostN (l.take k) [k1, k2]).flatMap encM)))
  case atStart => exact ⟨0, none, 0, 0, by omega, rfl, rfl, rfl, by omega, by unfold lostK lostA; simpa using H0.out, DL.below (Below.refl _ _), HK.out, World.ownsRow_nil _ _ _ _⟩
  case round =>
    obtain ⟨k, va, vn, vc, hkk, rfl, rfl, hvn, hvk, HR⟩ := hrel
    have y0 := HR.out.1.cell
    rw [HLV.out, hN] at y0
    have HVN := Lib.hid hvn
    clear hvn
    by_cases hlt : k < N
    · have hkl : k < l.length := by omega
      have hkl2 : k < (lostK l [k1, k2] k).length := by rw [lostK_len]; exact hkl
      obtain ⟨g, cap, e, hc⟩ := HR.out.1.at hkl2
      rw [lostK_get hkl] at hc
      have HLVG := Lib.hid e
      rw [HLV.out] at e
      injection e with e1 _ e3
      subst e1
      have HT := Lib.hid (lostN_take (ks := [k1, k2]) hkl)
      have HS := Lib.hid (lostK_step (ks := [k1, k2]) hkl)
      have HLX := Lib.hid (show ∀ h : k < l.length, l[k] = l[k] from fun _ => rfl)
      obtain ⟨x, hx⟩ : ∃ x, l[k] = x := ⟨_, rfl⟩
      have HXE := Lib.hid (show ∀ h : k < l.length, l[k] = x from fun _ => hx)
      rw [hx] at hc HT HS
      have c0 : wr.cell? ⟨g, k * 9, none⟩ = some (.int .u64 x.1.1) := hc 0 _ rfl
      have c1 : wr.cell? ⟨g, k * 9 + 1, none⟩ = some (.string x.1.2) := hc 1 _ rfl
      have c2 : wr.cell? ⟨g, k * 9 + 2, none⟩ = some (.string x.1.2) := hc 2 _ rfl
      have c3 : wr.cell? ⟨g, k * 9 + 3, none⟩ = some (.int .i64 x.2.fn) := hc 3 _ rfl
      have c4 : wr.cell? ⟨g, k * 9 + 4, none⟩ = some (.slice x.2.aa x.2.args.length x.2.ac) := hc 4 _ rfl
      have c5 : wr.cell? ⟨g, k * 9 + 5, none⟩ = some (.int .i64 x.2.fuel) := hc 5 _ rfl
      have c6 : wr.cell? ⟨g, k * 9 + 6, none⟩ = some (.int .u8 x.2.st) := hc 6 _ rfl
      have c7 : wr.cell? ⟨g, k * 9 + 7, none⟩ = some (.int .i64 x.2.wk) := hc 7 _ rfl
      have c8 : wr.cell? ⟨g, k * 9 + 8, none⟩ = some (.int .u64 x.2.ep) := hc 8 _ rfl
      have hkn : (k : Int) < N := by omega
      clear e3 hc hx HLX hN
      have hA2 := alD wr (cellsR x)
      have HBA := Lib.hid hA2
      have hbx : BoxAt (wr.alloc (cellsR x)) wr.heap.size #[.int .u64 x.1.1, .string x.1.2, .string x.1.2, .int .i64 x.2.fn, .slice x.2.aa x.2.args.length x.2.ac, .int .i64 x.2.fuel, .int .u8 x.2.st, .int .i64 x.2.wk, .int .u64 x.2.ep] RootT := heap_alloc_new _ _
      simp only [cellsR] at hbx HBA
      have HXB := Lib.hid hbx
      go_upto_region 6 with fail
      obtain ⟨wo, rfl⟩ : ∃ t, t = wr := ⟨_, rfl⟩
      obtain ⟨go0, rfl⟩ : ∃ t, t = gk := ⟨_, rfl⟩
      generalize wo.alloc (.cells #[.int .u64 x.1.1, .string x.1.2, .string x.1.2, .int .i64 x.2.fn, .slice x.2.aa x.2.args.length x.2.ac, .int .i64 x.2.fuel, .int .u8 x.2.st, .int .i64 x.2.wk, .int .u64 x.2.ep] RootT) = wa at *
      obtain ⟨xb, hxb⟩ : ∃ xb, wo.heap.size = xb := ⟨_, rfl⟩
      rw [hxb] at HXB ⊢
      have HXBE := Lib.hid hxb
      clear hbx hA2 hxb c0 c1 c2 c3 c4 c5 c6 c7 c8 y0
      go_wp2_with fail
      go_loopg [8, 9] 2 (fun gj t8 t9 wi => ∃ (j : Nat) (c : Bool), gj + j = 2 ∧ t9 = .int .i64 j ∧ t8 = .bool c ∧ Hid (Below wa.heap.size wa wi) ∧ Hid (c = lostB (([k1, k2] : List Int).take j) x.2))
      case atStart => exact ⟨0, false, rfl, rfl, rfl, Below.refl _ _, (show false = lostB (([k1, k2] : List Int).take 0) x.2 from by unfold lostB; simp)⟩
      case round =>
        obtain ⟨j, c, hjj, rfl, rfl, HI, HCB⟩ := hrel
        have hbx := HXB.out.below HI.out
        have b6 := hbx.cell 6
        have b7 := hbx.cell 7
        have hkx := (HR.out.2.2.1.below HBA.out).below HI.out
        simp only [List.getElem?_toArray, List.getElem?_cons_zero, List.getElem?_cons_succ] at b6 b7
        by_cases hj2 : j < 2
        · obtain ⟨kj, hkj⟩ : ∃ kj, kj = ([k1, k2] : List Int).getD j 0 := ⟨_, rfl⟩
          have q0 : wr.cell? ⟨kb, j, none⟩ = some (.int .i64 kj) := by
            have := hkx.cell j
            rw [this, hkj]
            match j, hj2 with
            | 0, _ => rfl
            | 1, _ => rfl
          have HNX := Lib.hid (show lostB (([k1, k2] : List Int).take (j + 1)) x.2 = (lostB (([k1, k2] : List Int).take j) x.2 || (decide (x.2.st = 2) && decide (x.2.wk = kj))) from by
            rw [hkj]
            unfold lostB
            match j, hj2 with
            | 0, _ => simp
            | 1, _ => by_cases e1 : x.2.st = 2 <;> simp [e1])
          have hj3 : (j : Int) < 2 := by omega
          clear hkx hkj hbx
          rcases four c x.2.st x.2.wk kj with h1 | ⟨h1, h2⟩ | ⟨h1, h2, h3⟩ | ⟨h1, h2, h3⟩
          · subst h1
            have HN2 := Lib.hid (show true = lostB (([k1, k2] : List Int).take (j + 1)) x.2 from by rw [HNX.out, ← HCB.out]; rfl)
            go_wp2_with fail
            go_quiet (fail)
            have HB2 := Lib.hid (HI.out.trans ((below_drewN (Below.refl wr.heap.size wr) nq).mono HI.out.size))
            clear HI b6 b7 q0
            go_wp2_with fail
            go_roundg (gk - 1)
            case rel => exact ⟨j + 1, true, by omega, by go_num, rfl, HB2.out, HN2.out⟩
            case measure => omega
          · subst h1
            have HN2 := Lib.hid (show false = lostB (([k1, k2] : List Int).take (j + 1)) x.2 from by rw [HNX.out, ← HCB.out, decide_eq_false h2]; rfl)
            have hb : (x.2.st == 2) = false := by rw [beq_eq_false_iff_ne]; exact h2
            clear h2
            go_wp2_with fail
            go_quiet (fail)
            have HB2 := Lib.hid (HI.out.trans ((below_drewN (Below.refl wr.heap.size wr) nq).mono HI.out.size))
            clear HI b6 b7 q0
            go_wp2_with fail
            go_roundg (gk - 1)
            case rel => exact ⟨j + 1, false, by omega, by go_num, rfl, HB2.out, HN2.out⟩
            case measure => omega
          · subst h1
            have HN2 := Lib.hid (show true = lostB (([k1, k2] : List Int).take (j + 1)) x.2 from by rw [HNX.out, ← HCB.out, decide_eq_true h2, decide_eq_true h3]; rfl)
            have hb : (x.2.st == 2) = true := by rw [beq_iff_eq]; exact h2
            have hb2 : (x.2.wk == kj) = true := by rw [beq_iff_eq]; exact h3
            clear h2 h3
            go_wp2_with fail
            go_quiet (fail)
            have HB2 := Lib.hid (HI.out.trans ((below_drewN (Below.refl wr.heap.size wr) nq).mono HI.out.size))
            clear HI b6 b7 q0
            go_wp2_with fail
            go_roundg (gk - 1)
            case rel => exact ⟨j + 1, true, by omega, by go_num, rfl, HB2.out, HN2.out⟩
            case measure => omega
          · subst h1
            have HN2 := Lib.hid (show false = lostB (([k1, k2] : List Int).take (j + 1)) x.2 from by rw [HNX.out, ← HCB.out, decide_eq_true h2, decide_eq_false h3]; rfl)
            have hb : (x.2.st == 2) = true := by rw [beq_iff_eq]; exact h2
            have hb2 : (x.2.wk == kj) = false := by rw [beq_eq_false_iff_ne]; exact h3
            clear h2 h3
            go_wp2_with fail
            go_quiet (fail)
            have HB2 := Lib.hid (HI.out.trans ((below_drewN (Below.refl wr.heap.size wr) nq).mono HI.out.size))
            clear HI b6 b7 q0
            go_wp2_with fail
            go_roundg (gk - 1)
            case rel => exact ⟨j + 1, false, by omega, by go_num, rfl, HB2.out, HN2.out⟩
            case measure => omega
        · have hje : j = 2 := by omega
          subst hje
          have HCX := Lib.hid (show c = lostB [k1, k2] x.2 from HCB.out)
          have HBW := Lib.hid (show Below wo.heap.size wo wr from gthenD HBA.out HI.out)
          have HR2 := Lib.hid (show Dt Z r lv (lostK l [k1, k2] k) wr ∧ DL r lv w lv wr ∧ BoxAt wr kb #[.int .i64 k1, .int .i64 k2] IntT ∧ wr.ownsRow w.heap.size NmT 2 (.slice va vn vc) (lostN (l.take k) [k1, k2]).length ((lostN (l.take k) [k1, k2]).flatMap encM) from
            ⟨HR.out.1.below HBW.out, ⟨HR.out.2.1.fr.then HBW.out, HR.out.2.1.own⟩, HR.out.2.2.1.below HBW.out, own_below HR.out.2.2.2 HBW.out⟩)
          have HBXI := Lib.hid hbx
          clear HI HCB b6 b7 hkx hbx
          cases c
          · have HT2 := Lib.hid (show lostN (l.take (k + 1)) [k1, k2] = lostN (l.take k) [k1, k2] ∧ lostK l [k1, k2] (k + 1) = lostK l [k1, k2] k from by rw [HT.out, HS.out, ← HCX.out]; simp)
            clear HR HBW
            go_wp2_with fail
            go_roundg (go0 - 1)
            case rel => exact ⟨k + 1, va, vn, vc, by omega, by go_num, rfl, by rw [HT2.out.1]; exact HVN.out, by omega, by rw [HT2.out.2]; exact HR2.out.1, HR2.out.2.1, HR2.out.2.2.1, by rw [HT2.out.1]; exact HR2.out.2.2.2⟩
            case measure => omega
          · have HT2 := Lib.hid (show lostN (l.take (k + 1)) [k1, k2] = lostN (l.take k) [k1, k2] ++ [x.1] ∧ lostK l [k1, k2] (k + 1) = (lostK l [k1, k2] k).set k (x.1, freeR x.2) from by rw [HT.out, HS.out, ← HCX.out]; simp)
            have hzf : ∀ i, wr.frozen? ⟨xb, i, none⟩ = false := fun i => HBXI.out.frozen i
            have b6 := HBXI.out.cell 6
            have b7 := HBXI.out.cell 7
            have b8 := HBXI.out.cell 8
            simp only [List.getElem?_toArray, List.getElem?_cons_zero, List.getElem?_cons_succ] at b6 b7 b8
            clear HR2
            go_upto_region 15 with fail
            have hbb : BoxAt (((wr.setCell ⟨xb, 6, none⟩ (.int .u8 1)).setCell ⟨xb, 7, none⟩ (.int .i64 0)).setCell ⟨xb, 8, none⟩ (.int .u64 0)) xb #[.int .u64 x.1.1, .string x.1.2, .string x.1.2, .int .i64 x.2.fn, .slice x.2.aa x.2.args.length x.2.ac, .int .i64 x.2.fuel, .int .u8 1, .int .i64 0, .int .u64 0] RootT :=
              Go.heap_setCell_same _ xb 8 _ _ _ (Go.heap_setCell_same _ xb 7 _ _ _ (Go.heap_setCell_same wr xb 6 _ _ _ HBXI.out))
            have hF3 : Fr (fun i => i = xb) wr (((wr.setCell ⟨xb, 6, none⟩ (.int .u8 1)).setCell ⟨xb, 7, none⟩ (.int .i64 0)).setCell ⟨xb, 8, none⟩ (.int .u64 0)) := (((Fr.refl (fun i => i = xb) wr).setCell (p := ⟨xb, 6, none⟩) rfl _).setCell (p := ⟨xb, 7, none⟩) rfl _).setCell (p := ⟨xb, 8, none⟩) rfl _
            have HBW2 := Lib.hid (HBW.out.trans (hF3.below (fun i e => by rw [e, ← HXBE.out]; exact Nat.le_refl _) HBW.out.size))
            clear hF3 b6 b7 b8 hzf HBXI
            obtain ⟨wq, hwq⟩ : ∃ t, ((wr.setCell ⟨xb, 6, none⟩ (.int .u8 1)).setCell ⟨xb, 7, none⟩ (.int .i64 0)).setCell ⟨xb, 8, none⟩ (.int .u64 0) = t := ⟨_, rfl⟩
            rw [hwq] at hbb HBW2 ⊢
            clear hwq HBW
            have HR2 := Lib.hid (show Dt Z r lv (lostK l [k1, k2] k) wq ∧ DL r lv w lv wq ∧ BoxAt wq kb #[.int .i64 k1, .int .i64 k2] IntT ∧ wq.ownsRow w.heap.size NmT 2 (.slice va vn vc) (lostN (l.take k) [k1, k2]).length ((lostN (l.take k) [k1, k2]).flatMap encM) from
              ⟨HR.out.1.below HBW2.out, ⟨HR.out.2.1.fr.then HBW2.out, HR.out.2.1.own⟩, HR.out.2.2.1.below HBW2.out, own_below HR.out.2.2.2 HBW2.out⟩)
            have y0 := HR2.out.1.cell
            rw [HLV.out, HN.out] at y0
            obtain ⟨g2, cap2, e2, hc2⟩ := HR2.out.1.at hkl2
            rw [lostK_get hkl, HXE.out hkl] at hc2
            have e2b := e2
            rw [HLVG.out] at e2b
            injection e2b with e2b _ _
            injection e2b with e2b
            injection e2b with e2b _ _
            subst e2b
            clear e2
            have c0 : wq.cell? ⟨g, k * 9, none⟩ = some (.int .u64 x.1.1) := hc2 0 _ rfl
            have c1 : wq.cell? ⟨g, k * 9 + 1, none⟩ = some (.string x.1.2) := hc2 1 _ rfl
            have c2 : wq.cell? ⟨g, k * 9 + 2, none⟩ = some (.string x.1.2) := hc2 2 _ rfl
            have c3 : wq.cell? ⟨g, k * 9 + 3, none⟩ = some (.int .i64 x.2.fn) := hc2 3 _ rfl
            have c4 : wq.cell? ⟨g, k * 9 + 4, none⟩ = some (.slice x.2.aa x.2.args.length x.2.ac) := hc2 4 _ rfl
            have c5 : wq.cell? ⟨g, k * 9 + 5, none⟩ = some (.int .i64 x.2.fuel) := hc2 5 _ rfl
            have c6 : wq.cell? ⟨g, k * 9 + 6, none⟩ = some (.int .u8 x.2.st) := hc2 6 _ rfl
            have c7 : wq.cell? ⟨g, k * 9 + 7, none⟩ = some (.int .i64 x.2.wk) := hc2 7 _ rfl
            have c8 : wq.cell? ⟨g, k * 9 + 8, none⟩ = some (.int .u64 x.2.ep) := hc2 8 _ rfl
            have b0 : wq.cell? ⟨xb, 0, none⟩ = some (.int .u64 x.1.1) := hbb.cell 0
            have b1 : wq.cell? ⟨xb, 1, none⟩ = some (.string x.1.2) := hbb.cell 1
            have b2 : wq.cell? ⟨xb, 2, none⟩ = some (.string x.1.2) := hbb.cell 2
            have b3 : wq.cell? ⟨xb, 3, none⟩ = some (.int .i64 x.2.fn) := hbb.cell 3
            have b4 : wq.cell? ⟨xb, 4, none⟩ = some (.slice x.2.aa x.2.args.length x.2.ac) := hbb.cell 4
            have b5 : wq.cell? ⟨xb, 5, none⟩ = some (.int .i64 x.2.fuel) := hbb.cell 5
            have b6 : wq.cell? ⟨xb, 6, none⟩ = some (.int .u8 1) := hbb.cell 6
            have b7 : wq.cell? ⟨xb, 7, none⟩ = some (.int .i64 0) := hbb.cell 7
            have b8 : wq.cell? ⟨xb, 8, none⟩ = some (.int .u64 0) := hbb.cell 8
            have hgb : ∃ cur fz, wq.heap[g]? = some (.cells cur RootT fz) := by
              have ho := HR2.out.1.own
              have hlvg := HLVG.out
              obtain ⟨_, ⟨hv, h0⟩ | ⟨g', cap', cur, hv, _, hh, _⟩⟩ := ho
              · exfalso; rw [hv] at hlvg; cases hlvg
              · have e1 : g' = g := by rw [hv] at hlvg; injection hlvg with e1 _ _; injection e1 with e1; injection e1
                subst e1
                exact ⟨cur, _, hh⟩
            have hfz : ∀ i, wq.frozen? ⟨g, i, none⟩ = false := fun i => by
              have ho := HR2.out.1.own
              have hlvg := HLVG.out
              obtain ⟨_, ⟨hv, h0⟩ | ⟨g', cap', cur, hv, _, hh, _⟩⟩ := ho
              · exfalso; rw [hv] at hlvg; cases hlvg
              · have e1 : g' = g := by rw [hv] at hlvg; injection hlvg with e1 _ _; injection e1 with e1; injection e1
                subst e1
                simp [World.frozen?, hh]
            have hgx : g ≠ xb := by
              intro e
              have h1 : g < wo.heap.size := (HR.out.1.own.lt g (by rw [HLVG.out]; rfl)).2
              rw [HXBE.out] at h1
              omega
            obtain ⟨hD4, hL4⟩ := HR2.out.1.set (x := ((x.1, freeR x.2) : Rl)) HLVG.out hkl2 (by rw [lostK_get hkl, HXE.out hkl]; rfl) (by rw [lostK_get hkl, HXE.out hkl]; rfl) (by rw [lostK_get hkl, HXE.out hkl]; rfl)
            obtain ⟨gcur, gfz, hgc⟩ := hgb
            have ho4 := own_wrt (g := g) (o := k * 9) (x := ((x.1, freeR x.2) : Rl)) HR2.out.2.2.2 hgc
            have hkb4 : BoxAt (wrt9 wq g (k * 9) ((x.1, freeR x.2) : Rl)).drew kb #[.int .i64 k1, .int .i64 k2] IntT := BoxAt.below (box_typed HR2.out.2.2.1 (wrt9_fr wq g (k * 9) ((x.1, freeR x.2) : Rl)) (Es := [RootT]) (fun i hi _ => ⟨RootT, gcur, gfz, List.mem_singleton.2 rfl, by rw [hi]; exact hgc⟩) (by decide)) (Below.refl _ _).drew
            have hxb4 : BoxAt (wrt9 wq g (k * 9) ((x.1, freeR x.2) : Rl)).drew xb #[.int .u64 x.1.1, .string x.1.2, .string x.1.2, .int .i64 x.2.fn, .slice x.2.aa x.2.args.length x.2.ac, .int .i64 x.2.fuel, .int .u8 1, .int .i64 0, .int .u64 0] RootT := BoxAt.below (BoxAt.fr hbb (wrt9_fr wq g (k * 9) ((x.1, freeR x.2) : Rl)) (fun e => hgx e.symm)) (Below.refl _ _).drew
            have H4 := Lib.hid (show Dt Z r lv (lostK l [k1, k2] (k + 1)) (wrt9 wq g (k * 9) ((x.1, freeR x.2) : Rl)).drew ∧ DL r lv w lv (wrt9 wq g (k * 9) ((x.1, freeR x.2) : Rl)).drew from ⟨by rw [HT2.out.2]; exact hD4, ⟨HR2.out.2.1.fr.trans hL4.fr, .inl rfl⟩⟩)
            have HO4 := Lib.hid (And.intro ho4 (And.intro hkb4 hxb4))
            clear hD4 hL4 ho4 hkb4 hxb4 hgc hc2 hbb
            have HGX := Lib.hid hgx
            go_still_tail 7, (by kernel_rfl)
            change wpList _ _ _ _ _ wq.drew
            go_upto_region 16 with fail
            clear c0 c1 c2 c3 c4 c5 c6 c7 c8 b0 b1 b2 b3 b4 b5 b6 b7 b8 hfz y0
            obtain ⟨w5, hw5⟩ : ∃ t, (wrt9 wq g (k * 9) ((x.1, freeR x.2) : Rl)).drew = t := ⟨_, rfl⟩
            rw [hw5] at H4 HO4
            unfold wrt9 at hw5
            simp only [freeR] at hw5
            rw [hw5]
            clear hw5 hgx
            have x0 := HO4.out.2.2.cell 0
            have x1 := HO4.out.2.2.cell 1
            simp only [List.getElem?_toArray, List.getElem?_cons_zero, List.getElem?_cons_succ] at x0 x1
            have hz5 : w.heap.size ≤ w5.heap.size := H4.out.2.fr.size
            obtain ⟨g7, c7, w7, hap, ho7, hF7⟩ := app_nm x.1 HO4.out.1 HVN.out (by omega) hz5
            have HN7 := Lib.hid (show Dt Z r lv (lostK l [k1, k2] (k + 1)) w7 ∧ DL r lv w lv w7 ∧ BoxAt w7 kb #[.int .i64 k1, .int .i64 k2] IntT ∧ w7.ownsRow w.heap.size NmT 2 (.slice (some ⟨g7, 0, none⟩) (vn + 1) c7) (lostN (l.take (k + 1)) [k1, k2]).length ((lostN (l.take (k + 1)) [k1, k2]).flatMap encM) from by
              refine ⟨?_, ⟨H4.out.2.fr.join hF7 (fun i hi => .inr (HO4.out.1.lt i hi).1), H4.out.2.own⟩, BoxAt.fr HO4.out.2.1 hF7 (own_not_box HO4.out.1 HO4.out.2.1 (by decide)), by rw [HT2.out.1]; exact ho7⟩
              have hD := H4.out.1
              have hz : Z ≤ w.heap.size := by
                have h1 : r < w.heap.size := (Array.getElem?_eq_some_iff.1 H0.out.box).1
                have h2 := H0.out.zr
                omega
              exact ⟨BoxAt.fr hD.box hF7 (own_not_box HO4.out.1 hD.box (by decide)), own_fr hD.own hF7 (fun i hi hs => own_not_own HO4.out.1 hD.own (by decide) hs hi), hD.zr, fun p hp => (hD.args p hp).keep (hF7.below (fun i hi => Nat.le_trans hz (HO4.out.1.lt i hi).1) (Nat.le_trans hz hz5))⟩)
            have HL7 := Lib.hid (show (lostN (l.take (k + 1)) [k1, k2]).length = vn + 1 from by rw [HT2.out.1, List.length_append, HVN.out]; rfl)
            obtain ⟨v7, hv7⟩ : ∃ n, vn + 1 = n := ⟨_, rfl⟩
            rw [hv7] at hap HL7 HN7
            have hv8 : v7 ≤ k + 1 := by omega
            clear ho7 hF7 hv7 hz5 H4 HO4 HR HR2
            go_wp2_with (at_builtin; refine wpList_arunC rfl _ _ _ _ rfl rfl rfl hap ?_)
            go_roundg (go0 - 1)
            case rel => exact ⟨k + 1, _, v7, c7, by omega, by go_num, rfl, HL7.out, hv8, HN7.out⟩
            case measure => omega
    · have hke : k = l.length := by omega
      subst hke
      have HX := Lib.hid (show LostDP Z r lv l [k1, k2] w (.returned (.slice va vn vc)) wr from by
        have h1 := HR.out.1
        have h4 := HR.out.2.2.2
        have e : lostK l [k1, k2] l.length = lostA l [k1, k2] := by unfold lostK; rw [List.take_length, List.drop_length, List.append_nil]
        rw [e] at h1
        rw [List.take_length] at h4
        exact ⟨_, rfl, h4, h1, HR.out.2.1⟩)
      clear hN HR
      go_wp2_with fail
      go_ret
      exact HX.out
end Go.Proofs.Ytpdnebimkfejoaa
