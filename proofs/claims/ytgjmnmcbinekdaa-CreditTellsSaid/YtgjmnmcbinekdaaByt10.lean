/- Contract: Decode. -/
import Derived.Test.YtgjmnmcbinekdaaByt9
import Derived.Test.YtgjmnmcbinekdaaByt7
namespace Go.Proofs.Ytgjmnmcbinekdaa
open Go.RowKit Go.Lib

def decM (l : List UInt8) : List Int × List UInt8 × Int := manyS (cntS 4097 (l, 0)).1 (cntS 4097 (l, 0)).2
def decA (l : List UInt8) : List Int × Int := if endE (decM l).2 = 0 ∧ mayC (decM l).1 = true then ((decM l).1, 0) else ([], 8)
def DecR (l : List UInt8) (w : World) (e : Ending) (w' : World) : Prop := ∃ v, e = .returned (.tuple #[v, .int .i64 (decA l).2]) ∧ COwn w' w.heap.size v (decA l).1 ∧ Below w.heap.size w w'
theorem manyS_succ (k : Nat) (s : List UInt8 × Int) : manyS (k + 1) s = ((((uintS 4096 s).1 : Nat) : Int) :: (manyS k (uintS 4096 s).2).1, (manyS k (uintS 4096 s).2).2) := rfl
theorem COwn.snoc {w : World} {B : Nat} {v : Value} {l : List Int} {x : Int} (h : w.ownsRow B 3 1 v (l.length + 1) (l.flatMap encC ++ [.int .i64 x])) : COwn w B v (l ++ [x]) := by
  unfold COwn
  rw [List.length_append, List.flatMap_append]
  exact h
theorem int_cell {w : World} {x : Int} {E : TypeId} : ∀ j u, ([.int .i64 x] : List Value)[j]? = some u → (w.alloc (.cells #[.int .i64 x] E (0, 0))).cell? ((⟨w.heap.size, 0, none⟩ : Addr).add j) = some u := by
  intro j u hj
  match j with
  | 0 => simp at hj; subst hj; simp [go_sem, Addr.add]
  | j + 1 => simp at hj
theorem int_one (x : Int) : ∀ u ∈ ([.int .i64 x] : List Value), u.oneCell' = true := by intro u hu; simp at hu; subst hu; rfl
theorem own_off {wr w' : World} {B : Nat} {E : TypeId} {v : Value} {n : Nat} {xs : List Value} {o : Obj} (hown : wr.ownsRow (B + 1) E 1 v n xs) (hB : B < wr.heap.size) (hg : (wr.alloc o).grownBy w' v.ownBlock) : w'.heap[B]? = wr.heap[B]? := by
  rw [hg.block B (by simp; omega) (fun e => ?_), Lib.alloc_old wr o B hB]
  have := (hown.lt B e.symm).1
  omega
theorem uint_cell {w wr : World} {B : Nat} {E : TypeId} {v : Value} {n : Nat} {xs : List Value} (hown : w.ownsRow (B + 1) E 1 v n xs) (hF : Fr (fun i => i = B) w wr) : wr.ownsRow (B + 1) E 1 v n xs := by
  have hl := hown.lt
  obtain ⟨h0, h | ⟨g, cap, cur, rfl, h1, h2, h3⟩⟩ := hown
  · exact ⟨h0, .inl h⟩
  · exact ⟨h0, .inr ⟨g, cap, cur, rfl, h1, (hF.block g (hl g rfl).2 (by omega)).trans h2, h3⟩⟩
set_option maxHeartbeats 1600000 in
set_option maxRecDepth 100000 in
theorem decode_any (l : List UInt8) (w : World) (hl : (l.length : Int) ≤ 9223372036854775807) :
    Calls Try.prog 11 #[.string ⟨l.toArray⟩] w (DecR l w) := by
  obtain ⟨ig, hig, hg0, hg1, hg2⟩ := info_parts info_int
  go_enter Try.func11, Try.ntmps11
  go_wp2_with fail
  refine (rdNew_any l w).mono ?_
  rintro e w1 ⟨rfl, hr, hB⟩
  have HR := Lib.hid hr
  have HB := Lib.hid hB
  have hsz := hr.lt
  clear hr hB
  go_wp2_with fail
  refine (rdCount_any 4097 w.heap.size l 0 w1 HR.out (by omega) hl).mono ?_
  rintro e w2 ⟨rfl, hr, hf⟩
  obtain ⟨⟨N, s0⟩, hN⟩ : ∃ r, cntS 4097 (l, 0) = r := ⟨_, rfl⟩
  have HN := Lib.hid hN
  have hNle := cntS_le 4097 (l, 0)
  have hsl := numS_len (chkC 4097 l) (l, 0)
  rw [show numS (chkC 4097 l) (l, 0) = cntS 4097 (l, 0) from rfl, hN] at hsl
  rw [hN] at hr hNle ⊢
  simp only at hr hNle hsl ⊢
  have HR2 := Lib.hid hr
  have HB2 := Lib.hid (HB.out.trans (hf.below (fun i h => by rw [h]; exact Nat.le_refl _) (Nat.le_of_lt hsz)))
  have HM : Hid (decM l = manyS N s0) := by show _ = _; unfold decM; rw [HN.out]
  have HSL := Lib.hid hsl
  obtain ⟨r0, e0⟩ := s0
  clear hN hr hf hsl hsz
  go_wp2_with fail
  generalize hBB : w.heap.size = B at *
  go_loopg [2, 9] N (fun gk sv si wr => ∃ (k : Nat) (cs : List Int) (rest : List UInt8) (e : Int), gk + k = N ∧ si = .int .i64 k ∧ cs.length = k ∧ COwn wr (B + 1) sv cs ∧ RdAt wr B rest e ∧ rest.length ≤ l.length ∧ manyS N (r0, e0) = (cs ++ (manyS gk (rest, e)).1, (manyS gk (rest, e)).2) ∧ Below B w wr)
  case atStart => exact ⟨0, [], r0, e0, by omega, rfl, rfl, COwn.nil _ _, HR2.out, HSL.out, by simp, HB2.out⟩
  case round =>
    obtain ⟨k, cs, rest, e, hk, rfl, hcs, ho, hr, hrl, hm, hB⟩ := hrel
    have HO := Lib.hid ho
    have HRD := Lib.hid hr
    have HRL := Lib.hid hrl
    have HMM := Lib.hid hm
    have HBB := Lib.hid hB
    clear ho hr hrl hm hB HR2 HB2
    by_cases hkn : k < N
    · obtain ⟨j, rfl⟩ : ∃ j, gk = j + 1 := ⟨gk - 1, by omega⟩
      have HM2 := Lib.hid (manyS_succ j (rest, e))
      have hx := uintS_le 4096 (rest, e)
      have hl2 := numS_len (chkU 4096) (rest, e)
      rw [show numS (chkU 4096) (rest, e) = uintS 4096 (rest, e) from rfl] at hl2
      have HRU := Lib.hid (rdUint_any 4096 B rest e wr HRD.out (by have := HRL.out; omega))
      obtain ⟨⟨x, r1, e1⟩, hu⟩ : ∃ r, uintS 4096 (rest, e) = r := ⟨_, rfl⟩
      rw [hu] at HM2 hx hl2 HRU
      simp only at hx hl2
      have HL2 := Lib.hid (Nat.le_trans hl2 HRL.out)
      have wx : IntKind.i64.wrap (x : Int) = x := by rw [IntKind.wrap_i64]; omega
      clear hu hl2
      go_wp2_with fail
      refine HRU.out.mono ?_
      rintro e w3 ⟨rfl, hr3, hf3⟩
      have HR3 := Lib.hid hr3
      have HO3 := Lib.hid (uint_cell HO.out hf3)
      have HB3 := Lib.hid (HBB.out.trans (hf3.below (fun i h => by rw [h]; exact Nat.le_refl _) (Nat.le_of_lt HRD.out.lt)))
      clear hr3 hf3 HO HBB HRD HRU
      simp only
      go_wp2_with (at_builtin; refine wpList_append_own _ rfl _ _ 23 rfl (B + 1) 3 ig (.int .i64 0) 1 8 Try.underlying23 hig hg0 hg1 hg2 rfl (by decide) _ _ _ rfl (HO3.out.alloc _) ⟨w3.heap.size, 0, none⟩ 1 1 [.int .i64 (x : Int)] rfl rfl ?c1 ?c2 ?c3 ?c4 ?c5 ?_)
      case c2 => first | exact int_one _ | rfl
      case c3 => unfold maxLen; omega
      case c4 => omega
      case c5 => have := HR3.out.lt; simp; omega
      intro v' w4 hown hgrow _
      have HO4 := Lib.hid (COwn.snoc (l := cs) (by rw [hcs]; exact hown))
      have HR4 := Lib.hid (HR3.out.block (own_off HO3.out HR3.out.lt hgrow))
      have HB4 : Hid (Below B w w4) := by
        have h1 := owns_low HO3.out (show w.heap.size ≤ B + 1 by omega)
        have h2 := own_grown (w := w) h1 (by rw [hBB]; exact HB3.out) hgrow
        rwa [hBB] at h2
      clear hown hgrow HO3 HR3 HB3
      go_wp2_with fail
      go_roundg j
      case rel => exact ⟨k + 1, cs ++ [(x : Int)], r1, e1, by omega, by go_num, by simp [hcs], HO4.out, HR4.out, HL2.out, by rw [HMM.out, HM2.out, List.append_assoc]; rfl, HB4.out⟩
      case measure => omega
    · have hg0 : gk = 0 := by omega
      subst hg0
      have HM3 : Hid (decM l = (cs, rest, e)) := by show _ = _; rw [HM.out, HMM.out]; simp [manyS]
      clear HMM HM
      go_wp2_with fail
      refine (rdEnd_any B rest e wr HRD.out).mono ?_
      rintro en w3 ⟨rfl, hf3⟩
      have HO3 := Lib.hid (show COwn w3 (B + 1) _ cs from uint_cell HO.out hf3)
      have HB3 := Lib.hid (HBB.out.trans (hf3.below (fun i h => by rw [h]; exact Nat.le_refl _) (Nat.le_of_lt HRD.out.lt)))
      clear hf3 HO HBB HRD
      by_cases hen : endE (rest, e) = 0
      · have hb : (endE (rest, e) != 0) = false := by simp [hen]
        have HEN := Lib.hid hen
        clear hen
        have hcl : cs.length ≤ 1000000 := by omega
        cases hma : mayC cs with
        | false =>
          have HF : Hid (decA l = ([], 8)) := by show _ = _; unfold decA; rw [HM3.out, if_neg (by simp [hma])]
          go_wp2_with fail
          refine (cmay_any cs _ w3 HO3.out.reads hcl).mono ?_
          rintro en w4 ⟨rfl, hw⟩
          have hw := hw.symm
          subst hw
          rw [hma]
          clear hma
          go_wp2_with fail
          go_ret2
          exact ⟨_, ret_pairI (by rw [HF.out]), by rw [HF.out]; exact COwn.nil _ _, by rw [hBB]; exact HB3.out⟩
        | true =>
          have HF : Hid (decA l = (cs, 0)) := by show _ = _; unfold decA; rw [HM3.out, if_pos ⟨HEN.out, hma⟩]
          go_wp2_with fail
          refine (cmay_any cs _ w3 HO3.out.reads hcl).mono ?_
          rintro en w4 ⟨rfl, hw⟩
          have hw := hw.symm
          subst hw
          rw [hma]
          clear hma
          go_wp2_with fail
          go_ret2
          exact ⟨_, ret_pairI (by rw [HF.out]), by rw [HF.out, hBB]; exact owns_low HO3.out (by omega), by rw [hBB]; exact HB3.out⟩
      · have hb : (endE (rest, e) != 0) = true := by simp [hen]
        have HF : Hid (decA l = ([], 8)) := by show _ = _; unfold decA; rw [HM3.out, if_neg (by simp [hen])]
        clear hen
        go_wp2_with fail
        go_ret2
        exact ⟨_, ret_pairI (by rw [HF.out]), by rw [HF.out]; exact COwn.nil _ _, by rw [hBB]; exact HB3.out⟩
end Go.Proofs.Ytgjmnmcbinekdaa
