/- Credits: minus. -/
import Derived.Test.YtgjmnmcbinekdaaCredT
namespace Go.Proofs.Ytgjmnmcbinekdaa
open Go.RowKit Go.Sort Go.Lib

theorem COwn.slice0 {w : World} {B : Nat} {v : Value} {l : List Int} (h : COwn w B v l) : ∃ a c, v = .slice a l.length c := h.reads.slice
theorem runC_ins (a b : List Int) (f : Int) (n : Nat) : insAt (a ++ runC f n ++ b) (a.length + n) (f + (n + 1 : Nat)) = a ++ runC f (n + 1) ++ b := by
  have hl : (a ++ runC f n).length = a.length + n := by rw [List.length_append, runC_len]
  unfold insAt
  rw [List.take_left' hl, List.drop_left' hl]
  conv => rhs; unfold runC
  simp
set_option maxHeartbeats 1600000 in
set_option maxRecDepth 100000 in
theorem min_own (c : List Int) (k : Int) (v : Value) (B : Nat) (w : World) (h : COwn w B v c) (hs : SC c) (hk : 0 ≤ k ∧ k ≤ 4096) (hv : pw k ≤ vC c) (hB0 : B ≤ w.heap.size) :
    Calls Try.prog 41 #[v, .int .i64 k] w fun e w' => ∃ v', e = .returned v' ∧ COwn w' B v' (minC c k) ∧ Below B w w' := by
  have hlen := hs.len
  obtain ⟨va, vc, rfl⟩ := COwn.slice0 h
  have H := Lib.hid h
  have HS := Lib.hid hs
  have HV := Lib.hid hv
  have hle := atC_le c k
  clear h hs hv
  go_enter Try.func41, Try.ntmps41
  go_wp2_with fail
  refine (bs_own c k _ B w H.out (by omega) HS.out.1).mono ?_
  rintro e w1 ⟨rfl, hB1⟩
  have H1 := Lib.hid (cowns H.out hB1)
  have HB1 := Lib.hid (hB1.mono hB0)
  have hlow1 : B ≤ w1.heap.size := Nat.le_trans hB0 hB1.size
  clear hB1
  cases hc : c.contains k with
  | true =>
    have hlt := (drop_at HS.out.1 (k := k) (by simpa using hc)).1
    have HM := Lib.hid (show minC c k = delC c k by unfold minC; rw [hc]; rfl)
    clear hc
    go_wp2_with fail
    refine (del_own c (atC c k) _ B w1 H1.out hlt hlow1).mono ?_
    rintro e w2 ⟨v', rfl, hO2, hB2⟩
    have HO2 : Hid (COwn w2 B v' (delC c k)) := hO2
    have HB2 := Lib.hid (HB1.out.trans hB2)
    clear hO2 hB2
    go_wp2_with fail
    go_ret
    exact ⟨_, rfl, by rw [HM.out]; exact HO2.out, HB2.out⟩
  | false =>
    have hpos := atC_pos HS.out hk hc HV.out
    obtain ⟨i, hi⟩ : ∃ i, atC c k = i + 1 := ⟨atC c k - 1, by omega⟩
    have hil : i < c.length := by omega
    have hfk : c[i] < k ∧ 0 ≤ c[i] := by
      refine ⟨(split_at (k := k) HS.out.1).1 _ ?_, (HS.out.2 _ (List.getElem_mem hil)).1⟩
      rw [hi]
      have : (c.take (i + 1))[i]'(by rw [List.length_take]; omega) = c[i] := List.getElem_take
      rw [← this]; exact List.getElem_mem _
    have HM := Lib.hid (show minC c k = c.take i ++ runC c[i] (k - c[i]).toNat ++ c.drop (i + 1) by
      unfold minC
      rw [hc, if_neg (by simp), hi, Nat.add_sub_cancel]
      have : c.getD i 0 = c[i] := by simp [List.getD_eq_getElem?_getD, hil]
      rw [this])
    obtain ⟨b, off, cc, he, hb, hcc⟩ := (COwn.reads H1.out).at (by omega)
    injection he with he1 he2 he3
    subst he1
    have k1 : w1.cell? ⟨b, off + i, none⟩ = some (.int .i64 c[i]) := by have h := hcc i hil 0 _ rfl; rw [Nat.mul_one, Nat.add_zero] at h; exact h
    rw [hi]
    obtain ⟨f, hf⟩ : ∃ f, c[i] = f := ⟨_, rfl⟩
    rw [hf] at k1 hfk HM
    obtain ⟨n, hn⟩ : ∃ n : Nat, k = f + n := ⟨(k - f).toNat, by omega⟩
    have hnn : (k - f).toNat = n := by omega
    rw [hnn] at HM
    have e1 : (((i + 1 : Nat) : Int) - 1) = (i : Int) := by omega
    have HTL : Hid ((c.take i).length = i) := by show _ = _; rw [List.length_take]; omega
    have HN := Lib.hid hn
    have hnk : n ≤ 4096 := by omega
    clear hc hpos hf hcc he2 he3 hb hnn hn
    go_wp2_with fail
    refine (del_own c i _ B w1 H1.out hil hlow1).mono ?_
    rintro e w2 ⟨v', rfl, hO2, hB2⟩
    have HO2 := Lib.hid hO2
    have HB2 := Lib.hid (HB1.out.trans hB2)
    have hlow2 : B ≤ w2.heap.size := Nat.le_trans hB0 HB2.out.size
    clear hO2 hB2 k1
    go_wp2_with fail
    go_loopg [0, 5, 8] n (fun gk vv ia pp wr => ∃ (j : Nat) (v2 : Value), gk + j = n ∧ vv = v2 ∧ ia = .int .i64 ((i + 1 + j : Nat) : Int) ∧ pp = .int .i64 (f + (j + 1 : Nat)) ∧ COwn wr B v2 (c.take i ++ runC f j ++ c.drop (i + 1)) ∧ Below B w wr)
    case atStart => exact ⟨0, v', by omega, rfl, by go_num, by go_num, by simpa [runC] using HO2.out, HB2.out⟩
    case round =>
      obtain ⟨j, v2, hj, rfl, rfl, rfl, hO, hB⟩ := hrel
      have HO := Lib.hid hO
      have HB := Lib.hid hB
      have hlow : B ≤ wr.heap.size := Nat.le_trans hB0 hB.size
      clear hO hB HO2 HB2
      obtain ⟨P, hP⟩ : ∃ P : Int, f + ((j + 1 : Nat) : Int) = P := ⟨_, rfl⟩
      obtain ⟨q, hq⟩ : ∃ q : Nat, i + 1 + j = q + 1 := ⟨i + j, by omega⟩
      rw [hP, hq]
      have HLL : Hid ((c.take i ++ runC f j ++ c.drop (i + 1)).length ≤ 100000) := by
        show _ ≤ _
        rw [List.length_append, List.length_append, runC_len, List.length_take, List.length_drop]; omega
      have HQL : Hid (q ≤ (c.take i ++ runC f j ++ c.drop (i + 1)).length) := by
        show _ ≤ _
        rw [List.length_append, List.length_append, runC_len, HTL.out]; omega
      by_cases hjn : j < n
      · have hPk : P ≤ k := by have := HN.out; omega
        have e2 : (((q + 1 : Nat) : Int) - 1) = (q : Int) := by omega
        have HIN : Hid (insAt (c.take i ++ runC f j ++ c.drop (i + 1)) q P = c.take i ++ runC f (j + 1) ++ c.drop (i + 1)) := by
          show _ = _
          have := runC_ins (c.take i) (c.drop (i + 1)) f j
          rw [HTL.out, show i + j = q by omega, hP] at this
          exact this
        have hA : Below wr.heap.size wr (wr.alloc (.cells #[.int .i64 P] 3)) := below_allocC _ _
        have HA := Lib.hid hA
        have HNEW := Lib.hid (heap_alloc_new wr (.cells #[.int .i64 P] 3))
        have HNE := Lib.hid (show u0.ownBlock ≠ some wr.heap.size from fun e => by have := (owns_lt HO.out _ e).2; omega)
        have HP := Lib.hid hP
        clear hA hP
        go_wp2_with fail
        refine (ins_own _ q P u0 B wr.heap.size _ (cowns HO.out HA.out) HQL.out HLL.out (Nat.le_trans hlow HA.out.size) HNEW.out HNE.out).mono ?_
        rintro e w3 ⟨v3, rfl, hO3, hB3⟩
        rw [HIN.out] at hO3
        have HO3 := Lib.hid hO3
        have HB3 := Lib.hid ((cthen HB.out hB0 HA.out).trans hB3)
        clear hO3 hB3
        go_wp2_with fail
        go_roundg (gk - 1)
        case rel => exact ⟨j + 1, v3, by omega, rfl, (by rw [show i + 1 + (j + 1) = q + 2 by omega]; go_num), (by
          have h9 := HP.out
          have h8 : 0 < P := by omega
          have h7 : wrap64 (P + 1) = P + 1 := IntWalk.wrap64_in _ (by omega)
          rw [h7]
          congr 1
          omega), HO3.out, HB3.out⟩
        case measure => omega
      · obtain rfl : j = n := by omega
        have hPk : ¬ P ≤ k := by have := HN.out; omega
        clear hP hq
        go_wp2_with fail
        go_ret
        exact ⟨_, rfl, by rw [HM.out]; exact HO.out, HB.out⟩
end Go.Proofs.Ytgjmnmcbinekdaa
