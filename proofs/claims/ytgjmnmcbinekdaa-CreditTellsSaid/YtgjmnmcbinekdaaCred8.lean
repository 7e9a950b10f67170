/- Credits: several together. -/
import Derived.Test.YtgjmnmcbinekdaaCred7
namespace Go.Proofs.Ytgjmnmcbinekdaa
open Go.RowKit Go.Sort Go.Lib Go.Shelf

/-- Numbers in order, within bounds. -/
def SC (c : List Int) : Prop := c.Pairwise (· < ·) ∧ ∀ x ∈ c, 0 ≤ x ∧ x ≤ 4096
theorem sc_ge : ∀ (l : List Int) (a : Int), l.Pairwise (· < ·) → (∀ x ∈ l, a ≤ x) → ∀ x ∈ l.getLast?, a + (l.length : Int) - 1 ≤ x
  | [], _, _, _, x, hx => by cases hx
  | [y], a, _, h, x, hx => by
    simp at hx
    subst hx
    have := h y (by simp)
    simp; omega
  | y :: z :: l, a, hp, h, x, hx => by
    have h1 := List.pairwise_cons.1 hp
    have := sc_ge (z :: l) (a + 1) h1.2 (fun t ht => by have := h1.1 t ht; have := h y (by simp); omega) x (by simpa using hx)
    simp only [List.length_cons] at *
    omega
theorem SC.len {c : List Int} (h : SC c) : c.length ≤ 4097 := by
  cases hl : c.getLast? with
  | none => rw [List.getLast?_eq_none_iff] at hl; subst hl; simp
  | some x =>
    have h1 := sc_ge c 0 h.1 (fun x hx => (h.2 x hx).1) x (by rw [hl]; rfl)
    have h2 := (h.2 x (List.mem_of_getLast? hl)).2
    omega
theorem SC.nil : SC [] := ⟨List.Pairwise.nil, by simp⟩
theorem mem_insAt {l : List Int} {i : Nat} {k x : Int} (h : x ∈ insAt l i k) : x = k ∨ x ∈ l := by
  unfold insAt at h
  rcases List.mem_append.1 h with h | h
  · exact .inr (List.mem_of_mem_take h)
  · rcases List.mem_cons.1 h with h | h
    · exact .inl h
    · exact .inr (List.mem_of_mem_drop h)
theorem mem_delC {l : List Int} {k x : Int} (h : x ∈ delC l k) : x ∈ l := by
  unfold delC at h
  rcases List.mem_append.1 h with h | h
  · exact List.mem_of_mem_take h
  · exact List.mem_of_mem_drop h
theorem SC.del {c : List Int} (h : SC c) (k : Int) : SC (delC c k) := ⟨delC_sorted h.1, fun x hx => h.2 x (mem_delC hx)⟩
theorem SC.ins {c : List Int} (h : SC c) {k : Int} (hk : 0 ≤ k ∧ k ≤ 4096) (hc : c.contains k = false) : SC (insAt c (atC c k) k) :=
  ⟨insAt_sorted h.1 (by simpa using hc), fun x hx => by rcases mem_insAt hx with rfl | hx; exact hk; exact h.2 x hx⟩
theorem plusN_sc : ∀ (k : Nat) (c r : List Int), SC c → k ≤ 4096 → plusN c k = some r → SC r := by
  intro k
  induction k with
  | zero =>
    intro c r h hk hr
    cases hc : c.contains ((0 : Nat) : Int)
    · rw [plusN_no hc] at hr
      injection hr with hr
      subst hr
      exact h.ins ⟨by omega, by omega⟩ hc
    · rw [plusN_zero hc] at hr; cases hr
  | succ k ih =>
    intro c r h hk hr
    cases hc : c.contains ((k + 1 : Nat) : Int)
    · rw [plusN_no hc] at hr
      injection hr with hr
      subst hr
      exact h.ins ⟨by omega, by omega⟩ hc
    · rw [plusN_succ hc] at hr
      exact ih _ _ (h.del _) (by omega) hr
theorem mayC_sc {l : List Int} (h : mayC l = true) : SC l := by
  have hg := mayC_iff.1 h
  have hget : ∀ j (hj : j < l.length), l.getD j 0 = l[j] := fun j hj => by simp [List.getD_eq_getElem?_getD, hj]
  have hstep : ∀ j (hj : j + 1 < l.length), l[j] < l[j + 1] := fun j hj => by
    have := ((hg (j + 1) hj).2.2 (by omega)).1
    rw [hget (j + 1) hj, Nat.add_sub_cancel, hget j (by omega)] at this
    omega
  have hmono : ∀ d i (hd : i + d + 1 < l.length), l[i] < l[i + d + 1] := by
    intro d
    induction d with
    | zero => intro i hd; exact hstep i (by omega)
    | succ d ih =>
      intro i hd
      have h1 := ih i (by omega)
      have h2 := hstep (i + d + 1) (by omega)
      exact Int.lt_trans h1 h2
  refine ⟨List.pairwise_iff_getElem.2 fun i j hi hj hij => ?_, fun x hx => ?_⟩
  · obtain ⟨d, rfl⟩ : ∃ d, j = i + d + 1 := ⟨j - i - 1, by omega⟩
    exact hmono d i hj
  · obtain ⟨j, hj, rfl⟩ := List.getElem_of_mem hx
    have := hg j hj
    have h1 := this.1
    have h2 := this.2.1
    rw [hget j hj] at h1 h2
    omega
def foldP (s : List Int) : List Int → Option (List Int)
  | [] => some s
  | k :: r => match plusN s k.toNat with
    | none => none
    | some s' => foldP s' r
theorem foldP_sc : ∀ (t s r : List Int), SC s → (∀ x ∈ t, 0 ≤ x ∧ x ≤ 4096) → foldP s t = some r → SC r
  | [], s, r, h, _, e => by injection e with e; subst e; exact h
  | k :: t, s, r, h, ht, e => by
    unfold foldP at e
    cases hp : plusN s k.toNat with
    | none => rw [hp] at e; cases e
    | some s' =>
      rw [hp] at e
      exact foldP_sc t s' r (plusN_sc _ _ _ h (by have := ht k (by simp); omega) hp) (fun x hx => ht x (by simp [hx])) e
def finL : Option (List Int) → Int × List Int
  | none => (9, [])
  | some s => if mayC s then (0, s) else (9, [])
/-- What Add answers: its errno, its credit. -/
def addL (L : List (List Int)) : Int × List Int := if L.all mayC then finL (foldP [] L.flatten) else (8, [])
def AddR (L : List (List Int)) (w : World) (e : Ending) (w' : World) : Prop := ∃ v, e = .returned (.tuple #[v, .int .i64 (addL L).1]) ∧ COwn w' w.heap.size v (addL L).2 ∧ Below w.heap.size w w'
theorem addL_form {L : List (List Int)} {l : List Int} (hl : l ∈ L) (h : mayC l = false) : addL L = (8, []) := by
  unfold addL
  rw [if_neg]
  intro ha
  rw [List.all_eq_true] at ha
  rw [ha l hl] at h; cases h
theorem addL_ok {L : List (List Int)} (h : ∀ l ∈ L, mayC l = true) : addL L = finL (foldP [] L.flatten) := by
  unfold addL; rw [if_pos (List.all_eq_true.2 h)]
abbrev encV (x : Value × List Int) : List Value := [x.1]
set_option maxHeartbeats 4000000 in
set_option maxRecDepth 100000 in
theorem add_any (L : List (Value × List Int)) (v : Value) (w : World) (h : ReadsK encV 1 w v L) (hL : L.length ≤ 1000000) (hr : ∀ p ∈ L, ReadsK encC 1 w p.1 p.2 ∧ p.2.length ≤ 1000000) :
    Calls Try.prog 20 #[v] w (AddR (L.map (·.2)) w) := by
  obtain ⟨a, c, rfl⟩ := h.slice
  have HR := Lib.hid h
  have HP := Lib.hid hr
  clear h hr
  go_enter Try.func20, Try.ntmps20
  go_wp2_with fail
  go_loopg [14] L.length (fun gk i wr => ∃ k : Nat, gk + k = L.length ∧ i = .int .i64 k ∧ wr = w ∧ ∀ j (hj : j < L.length), j < k → mayC L[j].2 = true)
  case atStart => exact ⟨0, by omega, rfl, rfl, fun j hj h0 => by omega⟩
  case round =>
    obtain ⟨k, hk, rfl, hwr, hall⟩ := hrel
    have hwr := hwr.symm
    subst hwr
    have HALL := Lib.hid hall
    clear hall
    by_cases hlt : k < L.length
    · obtain ⟨b, off, cc, he, hb, hc⟩ := HR.out.at (by omega)
      injection he with he1 he2 he3
      subst he1
      have k1 : w.cell? ⟨b, off + k, none⟩ = some L[k].1 := by have h := hc k hlt 0 _ rfl; rw [Nat.mul_one, Nat.add_zero] at h; exact h
      clear hc hb he2 he3
      have hpk := HP.out L[k] (List.getElem_mem hlt)
      have HPK := Lib.hid hpk
      clear hpk
      go_wp2_with fail
      refine (cmay_any L[k].2 L[k].1 w HPK.out.1 HPK.out.2).mono ?_
      rintro e w1 ⟨rfl, hw1⟩
      subst hw1
      clear k1
      cases hm : mayC L[k].2
      · have HF := Lib.hid (addL_form (L := L.map (·.2)) (l := L[k].2) (List.mem_map.2 ⟨L[k], List.getElem_mem hlt, rfl⟩) hm)
        clear hm
        go_wp2_with fail
        go_ret2
        exact ⟨.slice none 0 0, by rw [HF.out]; rfl, by rw [HF.out]; exact COwn.nil _ _, Below.refl _ _⟩
      · have HM := Lib.hid hm
        clear hm
        go_wp2_with fail
        go_roundg (gk - 1)
        case rel => exact ⟨k + 1, by omega, by go_num, rfl, fun j hj h0 => by
          by_cases e : j = k
          · subst e; exact HM.out
          · exact HALL.out j hj (by omega)⟩
        case measure => omega
    · have HM : Hid (∀ p ∈ L, mayC p.2 = true) := by
        intro p hp
        obtain ⟨j, hj, rfl⟩ := List.getElem_of_mem hp
        exact HALL.out j hj (by omega)
      have HF := Lib.hid (addL_ok (L := L.map (·.2)) (fun l hl => by obtain ⟨p, hp, rfl⟩ := List.mem_map.1 hl; exact HM.out p hp))
      have HBD : Hid (∀ p ∈ L, ∀ x ∈ p.2, 0 ≤ x ∧ x ≤ 4096) := fun p hp x hx => (mayC_sc (HM.out p hp)).2 x hx
      obtain ⟨R, hR⟩ : ∃ R, foldP [] (L.map (·.2)).flatten = R := ⟨_, rfl⟩
      have HRR := Lib.hid hR
      replace HF : Hid (addL (L.map (·.2)) = finL R) := by show _ = _; rw [← hR]; exact HF.out
      have HB := Lib.hid (show Below w.heap.size w w from Below.refl _ _)
      clear hR HALL
      go_wp2_with fail
      clear hk hlt
      go_loopg [6, 24] L.length (fun gk sv i wr => ∃ (k : Nat) (s : List Int), gk + k = L.length ∧ i = .int .i64 k ∧ COwn wr w.heap.size sv s ∧ SC s ∧ foldP s ((L.map (·.2)).drop k).flatten = R ∧ Below w.heap.size w wr)
      case atStart => exact ⟨0, [], by omega, rfl, COwn.nil _ _, SC.nil, HRR.out, HB.out⟩
      case round =>
        obtain ⟨k, s, hk, rfl, ho, hsc, hr, hB⟩ := hrel
        have HO := Lib.hid ho
        have HSC := Lib.hid hsc
        have HR2 := Lib.hid hr
        have HB2 := Lib.hid hB
        have hslen : s.length ≤ 4097 := hsc.len
        generalize hwo : wr = wo at *
        generalize hgo : gk = go at *
        clear hgo ho hsc hr hB hwo HB HRR
        by_cases hlt : k < L.length
        · obtain ⟨b, off, cc, he, hb, hc⟩ := (HR.out.below HB2.out).at (by omega)
          injection he with he1 he2 he3
          subst he1
          have k1 : wo.cell? ⟨b, off + k, none⟩ = some L[k].1 := by have h := hc k hlt 0 _ rfl; rw [Nat.mul_one, Nat.add_zero] at h; exact h
          clear hc hb he2 he3
          obtain ⟨p, hp⟩ : ∃ p, L[k] = p := ⟨_, rfl⟩
          have hmem : p ∈ L := by rw [← hp]; exact List.getElem_mem hlt
          have HPR := Lib.hid (HP.out p hmem)
          have HPB := Lib.hid (HBD.out p hmem)
          have HDR : Hid (((L.map (·.2)).drop k).flatten = p.2 ++ ((L.map (·.2)).drop (k + 1)).flatten) := by
            show _ = _
            rw [List.drop_eq_getElem_cons (by simpa using hlt), List.flatten_cons, List.getElem_map, hp]
          obtain ⟨pa, pc, hpv⟩ := HPR.out.1.slice
          have hpl := HPR.out.2
          have HPV := Lib.hid hpv
          rw [hp, hpv] at k1
          clear hp hpv hmem
          obtain ⟨pv, pl⟩ := p
          simp only at *
          go_wp2_with fail
          clear k1
          go_loopg [6, 30] pl.length (fun g2 sv i wr => ∃ (j : Nat) (s : List Int), g2 + j = pl.length ∧ i = .int .i64 j ∧ COwn wr w.heap.size sv s ∧ SC s ∧ foldP s (pl.drop j ++ ((L.map (·.2)).drop (k + 1)).flatten) = R ∧ Below w.heap.size w wr)
          case atStart => exact ⟨0, s, by omega, rfl, HO.out, HSC.out, by rw [List.drop_zero, ← HDR.out]; exact HR2.out, HB2.out⟩
          case round =>
            obtain ⟨j, s2, hj, rfl, ho, hsc, hr, hB⟩ := hrel
            have HO3 := Lib.hid ho
            have HSC3 := Lib.hid hsc
            have HR3 := Lib.hid hr
            have HB3 := Lib.hid hB
            have hslen3 : s2.length ≤ 4097 := hsc.len
            generalize hwi : wr = wi at *
            clear ho hsc hr hB hwi
            by_cases hjl : j < pl.length
            · obtain ⟨b2, off2, cc2, he, hb, hc⟩ := (HPR.out.1.below HB3.out).at (by omega)
              rw [HPV.out] at he
              injection he with he1 he2 he3
              subst he1
              have k2 : wi.cell? ⟨b2, off2 + j, none⟩ = some (.int .i64 pl[j]) := by have h := hc j hjl 0 _ rfl; rw [Nat.mul_one, Nat.add_zero] at h; exact h
              have hx := HPB.out pl[j] (List.getElem_mem hjl)
              obtain ⟨n, hn⟩ : ∃ n : Nat, pl[j] = (n : Int) := ⟨pl[j].toNat, by omega⟩
              have HD2 : Hid (pl.drop j = (n : Int) :: pl.drop (j + 1)) := by show _ = _; rw [List.drop_eq_getElem_cons hjl, hn]
              rw [hn] at k2 hx
              clear hc hb he2 he3 hn
              go_wp2_with fail
              refine (plus_own s2 n _ w.heap.size wi HO3.out HSC3.out.1 (by omega) (by omega) HB3.out.size).mono ?_
              rintro e w5 hP
              cases hpn : plusN s2 n with
              | none =>
                rw [hpn] at hP
                obtain ⟨rfl, hB5⟩ := hP
                have HB5 := Lib.hid (HB3.out.trans hB5)
                have HRN : Hid (R = none) := by
                  show _ = _
                  rw [← HR3.out, HD2.out, List.cons_append]
                  unfold foldP
                  rw [show ((n : Int)).toNat = n by omega, hpn]
                clear hB5 k2
                go_wp2_with fail
                go_ret2
                exact ⟨.slice none 0 0, by rw [HF.out, HRN.out]; rfl, by rw [HF.out, HRN.out]; exact COwn.nil _ _, HB5.out⟩
              | some s3 =>
                rw [hpn] at hP
                obtain ⟨v5, rfl, ho5, hB5⟩ := hP
                have HO5 := Lib.hid ho5
                have HB5 := Lib.hid (HB3.out.trans hB5)
                have HS5 := Lib.hid (plusN_sc n s2 s3 HSC3.out (by omega) hpn)
                have HR5 : Hid (foldP s3 (pl.drop (j + 1) ++ ((L.map (·.2)).drop (k + 1)).flatten) = R) := by
                  show _ = _
                  rw [← HR3.out, HD2.out, List.cons_append]
                  conv => rhs; unfold foldP
                  rw [show ((n : Int)).toNat = n by omega, hpn]
                clear ho5 hB5 k2 hpn
                go_wp2_with fail
                go_roundg (gk - 1)
                case rel => exact ⟨j + 1, s3, by omega, by go_num, HO5.out, HS5.out, HR5.out, HB5.out⟩
                case measure => omega
            · have HR5 : Hid (foldP s2 ((L.map (·.2)).drop (k + 1)).flatten = R) := by
                show _ = _
                have e9 : pl.drop j = [] := List.drop_eq_nil_of_le (by omega)
                rw [← HR3.out, e9, List.nil_append]
              go_wp2_with fail
              go_roundg (go - 1)
              case rel => exact ⟨k + 1, s2, by omega, by go_num, HO3.out, HSC3.out, HR5.out, HB3.out⟩
              case measure => omega
        · have HR5 : Hid (R = some s) := by
            show _ = _
            have e9 : (L.map (·.2)).drop k = [] := List.drop_eq_nil_of_le (by simp; omega)
            rw [← HR2.out, e9]
            rfl
          go_wp2_with fail
          refine (cmay_any s _ wo HO.out.reads (by omega)).mono ?_
          rintro e w5 ⟨rfl, rfl⟩
          cases hm : mayC s
          · have HA : Hid (addL (L.map (·.2)) = (9, [])) := by
              show _ = _
              rw [HF.out, HR5.out]
              show (if mayC s = true then ((0 : Int), s) else (9, [])) = _
              rw [hm]; rfl
            clear hm
            go_wp2_with fail
            go_ret2
            exact ⟨.slice none 0 0, by rw [HA.out]; rfl, by rw [HA.out]; exact COwn.nil _ _, HB2.out⟩
          · have HA : Hid (addL (L.map (·.2)) = (0, s)) := by
              show _ = _
              rw [HF.out, HR5.out]
              show (if mayC s = true then ((0 : Int), s) else (9, [])) = _
              rw [hm]; rfl
            clear hm
            go_wp2_with fail
            go_ret2
            exact ⟨_, by rw [HA.out]; rfl, by rw [HA.out]; exact HO.out, HB2.out⟩
end Go.Proofs.Ytgjmnmcbinekdaa
