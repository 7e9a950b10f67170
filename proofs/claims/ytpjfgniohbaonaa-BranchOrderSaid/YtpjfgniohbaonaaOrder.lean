/- BranchOrder: plain laws and the walk. -/
import Derived.Test.YtpjfgniohbaonaaSorts
namespace Go.Proofs.Ytpjfgniohbaonaa
open Go.RowKit

theorem Drew.cell {w w' : World} (h : Drew w w') (a : Addr) : w'.cell? a = w.cell? a := by obtain ⟨n, rfl⟩ := h; rfl
theorem compare_q (a b : ByteArray) (w : World) : Calls Try.prog 18 #[.string a, .string b] w fun e w' => e = .returned (.int .i64 (cmpS a b)) ∧ w' = w :=
  (compare_any a b w).mono fun _ _ h => ⟨h.1, h.2.symm⟩

def cnt (x : ByteArray) (l : List ByteArray) : Int := (l.countP (fun y => y.toList == x.toList) : Nat)
theorem cnt_le (x : ByteArray) (l : List ByteArray) : 0 ≤ cnt x l ∧ cnt x l ≤ l.length := by
  unfold cnt; exact ⟨by omega, by have := List.countP_le_length (p := fun y : ByteArray => y.toList == x.toList) (l := l); omega⟩
theorem cnt_hit {x : ByteArray} {l : List ByteArray} {k : Nat} (h : k < l.length) (e : (l[k].toList == x.toList) = true) : cnt x (l.take (k + 1)) = cnt x (l.take k) + 1 := by
  unfold cnt; rw [List.take_succ_eq_append_getElem h, List.countP_append]; simp [e]
theorem cnt_miss {x : ByteArray} {l : List ByteArray} {k : Nat} (h : k < l.length) (e : (l[k].toList == x.toList) = false) : cnt x (l.take (k + 1)) = cnt x (l.take k) := by
  unfold cnt; rw [List.take_succ_eq_append_getElem h, List.countP_append]; simp [e]
theorem cnt_perm {x : ByteArray} {l m : List ByteArray} (h : l.Perm m) : cnt x l = cnt x m := by unfold cnt; rw [h.countP_eq]
theorem ba_beq' (a b : ByteArray) : (a.toList == b.toList) = decide (a.data.toList = b.data.toList) := by
  rw [Lib.toList_data, Lib.toList_data]; rw [Bool.eq_iff_iff]; simp
theorem cmp_zero_eq (a b : ByteArray) : (cmpS a b == 0) = (a.toList == b.toList) := by
  rw [ba_beq', Bool.eq_iff_iff, beq_iff_eq, decide_eq_true_eq]
  constructor
  · intro h; rw [cmpS_zero h]
  · intro h; rw [ba_eq h, cmpS_refl]
theorem cmp_trans {a b c : ByteArray} (h : cmpS a b ≤ 0) (k : cmpS b c ≤ 0) : ¬ 0 < cmpS a c := by
  rw [cmpS_eq] at *; have := cmpL_le_trans h k; omega
theorem sorted_adj (l : List ByteArray) (i : Nat) (h : i + 1 < (sortS l).length) : ¬ 0 < cmpS ((sortS l)[i]'(by omega)) (sortS l)[i + 1] := by
  have := (List.pairwise_iff_getElem.1 (sortS_sorted l)) i (i + 1) (by omega) h (by omega)
  rw [leS_iff] at this; omega

set_option maxHeartbeats 400000 in
set_option maxRecDepth 100000 in
theorem order_long (a b c : ByteArray) (va : Option Addr) (n vc : Nat) (w : World) (h : 1024 < wrap64 (wrap64 ((a.size : Int) + b.size) + c.size) ∨ (¬ 1024 < wrap64 (wrap64 ((a.size : Int) + b.size) + c.size) ∧ 40 < (n : Int))) :
    Calls Try.prog 6 #[.string a, .string b, .string c, .slice va n vc] w fun e w' => e = .returned (.bool true) ∧ Below w.heap.size w w' := by
  rcases h with h1 | ⟨h1, h2⟩
  all_goals
    go_enter Try.func6, Try.ntmps6
    go_wp2_with fail
    refine (alive_any _).mono ?_; rintro e w1 ⟨rfl, hB⟩
    go_wp2
    go_ret
    exact ⟨ret_bool rfl, hB⟩

set_option maxHeartbeats 3200000 in
set_option maxRecDepth 100000 in
theorem order_walk (a b c : ByteArray) (v : Value) (ss : List ByteArray) (w : World) (hv : ReadsS w v ss) (hsz : ∀ x ∈ ss, x.size ≤ 9223372036854775807) :
    Calls Try.prog 6 #[.string a, .string b, .string c, v] w fun e w' => e = .returned (.bool true) ∧ Below w.heap.size w w' := by
  obtain ⟨va, vc, hform⟩ := reads_form hv
  subst hform
  by_cases hA : 1024 < wrap64 (wrap64 ((a.size : Int) + b.size) + c.size)
  · exact order_long a b c va _ vc w (.inl hA)
  · by_cases hN : 40 < (ss.length : Int)
    · exact order_long a b c va _ vc w (.inr ⟨hA, hN⟩)
    · have hl : ss.length ≤ 1000 := by omega
      have HS := Lib.hid (And.intro hv hsz)
      clear hsz hv
      go_enter Try.func6, Try.ntmps6
      go_wp2_with fail
      clear hA
      go_loop [9] (fun i => ∃ k : Nat, k ≤ ss.length ∧ i = .int .i64 k) (fun i => ss.length - (intOf i).toNat)
      case atStart => exact ⟨0, Nat.zero_le _, rfl⟩
      case round =>
        obtain ⟨k, hk, rfl⟩ := hrel
        by_cases hlt : k < ss.length
        · obtain ⟨b1, off, cap, he, hb, hc⟩ := reads_cell HS.out.1 (by omega)
          injection he with he1 he2 he3
          subst he1
          have hcell := hc k hlt
          have hz := HS.out.2 ss[k] (List.getElem_mem _)
          clear hc he3
          by_cases hbig : 256 < (ss[k].size : Int)
          · go_wp2_with fail
            refine (alive_any _).mono ?_; rintro e w1 ⟨rfl, hB⟩
            go_wp2
            go_ret
            exact ⟨ret_bool rfl, hB⟩
          · go_wp2_with fail
            go_round
            case rel => exact ⟨k + 1, by omega, by go_num⟩
            case measure => first | (simp [intOf]; done) | (simp [intOf]; omega)
        · have hke : k = ss.length := by omega
          subst hke
          clear hlt hk
          go_upto_region 8 with fail
          go_cut [67] (fun s wc => s = .bool false ∧ wc = w)
          case first =>
            go_wp2_with fail
            refine (compare_any a b _).mono ?_; rintro e w1 ⟨rfl, rfl⟩
            have hz := cmp_zero_eq a b
            obtain ⟨eb, hb⟩ : ∃ eb, (a.toList == b.toList) = eb := ⟨_, rfl⟩
            rw [hb] at hz
            have hzz := Lib.hid (cmp_trans (a := a) (b := b) (c := c))
            cases eb
            all_goals
              go_wp2_with fail
              refine (compare_any a b _).mono ?_; rintro e w1 ⟨rfl, rfl⟩
              by_cases g1 : cmpS a b ≤ 0
              · have G1 := Lib.hid g1
                go_wp2_with fail
                refine (compare_any b c _).mono ?_; rintro e w1 ⟨rfl, rfl⟩
                by_cases g2 : cmpS b c ≤ 0
                · have g3 : decide (0 < cmpS a c) = false := by simpa using hzz.out g1 g2
                  go_wp2_with fail
                  refine (compare_any a c _).mono ?_; rintro e w1 ⟨rfl, rfl⟩
                  go_wp2_with fail
                  go_meet
                  exact ⟨rfl, rfl⟩
                · go_wp2_with fail
                  go_meet
                  exact ⟨rfl, rfl⟩
              · go_wp2_with fail
                go_meet
                exact ⟨rfl, rfl⟩
          case rest =>
            obtain ⟨rfl, rfl⟩ := hcut
            go_wp2_with fail
            refine (sort_any _ ss _ HS.out.1 hl).mono ?_
            rintro e w2 ⟨x, rfl, hox, hB⟩
            have hO := Lib.hid (And.intro (reads_own hox) (HS.out.1.below hB))
            obtain ⟨xa, xc, hx⟩ := reads_form hO.out.1
            have hll := (sortS_perm ss).length_eq
            rw [hll] at hx
            subst hx
            have HLL := Lib.hid hll
            clear hll hox
            go_wp2_with fail
            go_loopw [11] (fun i wr => ∃ k : Nat, k ≤ ss.length ∧ i = .int .i64 k ∧ Drew w2 wr) (fun i _ => ss.length - (intOf i).toNat)
            case atStart => exact ⟨0, Nat.zero_le _, rfl, Drew.refl _⟩
            case round =>
              obtain ⟨i, hi, rfl, hD⟩ := hrel
              by_cases hlt : i < ss.length
              · obtain ⟨b1, o1, c1, e1, _, hc1⟩ := reads_cell hO.out.1 (by rw [HLL.out]; omega)
                obtain ⟨b4, o4, c4, e4, _, hc4⟩ := reads_cell hO.out.2 (by omega)
                injection e1 with x1 x2 x3
                injection e4 with u1 u2 u3
                subst x1 u1
                clear x2 x3 u2 u3
                have HC := Lib.hid (And.intro hc1 hc4)
                clear hc1 hc4 hO
                go_upto_region 16 with fail
                go_cut [95] (fun s wc => s = .bool false ∧ Drew w2 wc)
                case first =>
                  by_cases h0 : 0 < i
                  · obtain ⟨j, rfl⟩ : ∃ j, i = j + 1 := ⟨i - 1, by omega⟩
                    have f1 := HC.out.1 (j + 1) (by rw [HLL.out]; exact hlt)
                    have f0 := HC.out.1 j (by rw [HLL.out]; omega)
                    have hn := sorted_adj ss j (by rw [HLL.out]; omega)
                    generalize (sortS ss)[j + 1]'(by rw [HLL.out]; exact hlt) = s1 at *
                    generalize (sortS ss)[j]'(by rw [HLL.out]; omega) = s0 at *
                    have hn2 : decide (0 < cmpS s0 s1) = false := by simpa using hn
                    have f1' : wr.cell? ⟨b1, o1 + (j + 1), none⟩ = some (.string s1) := (hD.cell _).trans f1
                    have f0' : wr.cell? ⟨b1, o1 + j, none⟩ = some (.string s0) := (hD.cell _).trans f0
                    clear f1 f0
                    rw [show ((j + 1 : Nat) : Int) = (j : Int) + 1 from by omega]
                    have i0 : (j : Int) < (ss.length : Int) := by omega
                    have i1 : (j : Int) + 1 < (ss.length : Int) := by omega
                    have i2 : j < ss.length := by omega
                    have iw : IntKind.i64.wrap ((j : Int) + 1 - 1) = j := by rw [show ((j : Int) + 1 - 1) = j from by omega]; exact IntWalk.i64_in _ (by omega)
                    have it : ((j : Int) + 1).toNat = j + 1 := by omega
                    have ip : 0 ≤ (j : Int) + 1 := by omega
                    have iv : IntKind.i64.wrap (j : Int) = j := IntWalk.i64_in _ (by omega)
                    go_wp2_with fail
                    go_quiet ((go_at_call 18; exact Calls.quiet_of_same (compare_q _ _ _)))
                    go_wp2_with fail
                    go_meet
                    exact ⟨rfl, hD.drewN _⟩
                  · have h5 : decide (0 < (i : Int)) = false := by simp; omega
                    obtain ⟨q, rfl⟩ := hD
                    go_wp2_with fail
                    go_quiet (fail)
                    go_wp2_with fail
                    go_meet
                    exact ⟨rfl, by first | exact ⟨_, rfl⟩ | exact Drew.drewN ⟨_, rfl⟩ _⟩
                case rest =>
                  obtain ⟨rfl, hD2⟩ := hcut
                  clear hD
                  go_wp2_with fail
                  obtain ⟨wo, rfl⟩ : ∃ wo : World, wo = wr := ⟨_, rfl⟩
                  obtain ⟨q0, rfl⟩ := hD2
                  generalize hs1 : (sortS ss)[i]'(by rw [HLL.out]; exact hlt) = s1
                  go_loopw [12, 13] (fun n k wr => ∃ k0 : Nat, k0 ≤ ss.length ∧ k = .int .i64 k0 ∧ n = .int .i64 (cnt s1 (ss.take k0) - cnt s1 ((sortS ss).take k0)) ∧ Drew w2 wr) (fun _ k _ => ss.length - (intOf k).toNat)
                  case atStart => exact ⟨0, Nat.zero_le _, rfl, rfl, ⟨_, rfl⟩⟩
                  case round =>
                    obtain ⟨k, hk, rfl, rfl, hD⟩ := hrel
                    have hI := hs1 ▸ HC.out.1 i (by rw [HLL.out]; exact hlt)
                    by_cases hkt : k < ss.length
                    · have f1 := HC.out.1 k (by rw [HLL.out]; exact hkt)
                      have f2 := HC.out.2 k hkt
                      have k1 := cnt_le s1 (ss.take k); have k2 := cnt_le s1 ((sortS ss).take k)
                      rw [List.length_take] at k1 k2
                      have T := Lib.hid (And.intro (And.intro (cnt_hit (x := s1) (l := ss) hkt) (cnt_miss (x := s1) (l := ss) hkt)) (And.intro (cnt_hit (x := s1) (l := sortS ss) (by rw [HLL.out]; exact hkt)) (cnt_miss (x := s1) (l := sortS ss) (by rw [HLL.out]; exact hkt))))
                      generalize hS : sortS ss = S at *
                      clear HC
                      generalize (S[k]'(by rw [HLL.out]; exact hkt)) = y1 at *
                      generalize ss[k] = y2 at *
                      obtain ⟨q, rfl⟩ := hD
                      cases e2 : (y2.toList == s1.toList)
                      all_goals
                        cases e1 : (y1.toList == s1.toList)
                        all_goals
                          first
                            | have t2 := Lib.hid (T.out.1.1 e2)
                            | have t2 := Lib.hid (T.out.1.2 e2)
                          first
                            | have t1 := Lib.hid (T.out.2.1 e1)
                            | have t1 := Lib.hid (T.out.2.2 e1)
                          go_wp2_with fail
                          go_quiet (fail)
                          go_wp2_with fail
                          go_quiet (fail)
                          go_wp2
                          go_roundw
                          case rel => exact ⟨k + 1, by omega, by go_num, by rw [t1.out, t2.out]; first | go_num | skip, by first | exact ⟨_, rfl⟩ | exact Drew.drewN ⟨_, rfl⟩ _ | exact Drew.drewN (Drew.drewN ⟨_, rfl⟩ _) _⟩
                          case measure => first | (simp [intOf]; done) | (simp [intOf]; omega)
                    · obtain rfl : k = ss.length := by omega
                      have hz : cnt s1 (ss.take ss.length) - cnt s1 ((sortS ss).take ss.length) = 0 := by
                        rw [List.take_of_length_le (Nat.le_refl _), List.take_of_length_le (by rw [HLL.out]; exact Nat.le_refl _), cnt_perm (sortS_perm ss)]; omega
                      rw [hz]
                      clear hz
                      go_wp2
                      go_roundw
                      case rel => exact ⟨i + 1, by omega, by go_num, hD⟩
                      case measure => first | (simp [intOf]; done) | (simp [intOf]; omega)
              · obtain ⟨q, rfl⟩ := hD
                go_wp2_with fail
                refine (alive_any _).mono ?_; rintro e w4 ⟨rfl, hB2⟩
                go_wp2
                go_ret
                exact ⟨ret_bool rfl, gthen (below_drewN hB q) hB2⟩
theorem order_row (a b c : ByteArray) (v : Value) (w : World) (_ha : a.size ≤ maxLen) (_hb : b.size ≤ maxLen) (_hc : c.size ≤ maxLen) (rd : ∃ ss, ReadsS w v ss ∧ ∀ x ∈ ss, x.size ≤ maxLen) :
    Calls Try.prog 6 #[.string a, .string b, .string c, v] w fun e w' => e = .returned (.bool true) ∧ Below w.heap.size w w' := by
  obtain ⟨ss, h1, h2⟩ := rd
  exact order_walk a b c v ss w h1 h2
end Go.Proofs.Ytpjfgniohbaonaa
