/- Contract: num.Read: a number out of bytes. -/
import Derived.Test.YtgjmnmcbinekdaaByt1
import Derived.Deep.QuietTactic
import Derived.BigQuiet
namespace Go.Proofs.Ytgjmnmcbinekdaa
open Go.RowKit Go.Lib

theorem rd_or (X c k : Nat) (hX : X < 18446744073709551616) (hc : c < 256) : bits .or .u64 (X : Int) (IntKind.u64.wrap (IntKind.u64.wrap (bits .and .u8 (c : Int) 127) * 2 ^ (7 * k))) = ((X ||| (c % 128 * 2 ^ (7 * k) % 18446744073709551616) : Nat) : Int) := by
  have h1 : bits .and .u8 (c : Int) 127 = ((c % 128 : Nat) : Int) := by
    rw [show (127 : Int) = ((127 : Nat) : Int) from rfl, u8_and_nat c 127 hc (by omega)]
    congr 1
    exact Nat.and_two_pow_sub_one_eq_mod c 7
  have h2 : IntKind.u64.wrap ((c % 128 : Nat) : Int) = ((c % 128 : Nat) : Int) := by rw [IntKind.wrap_u64]; omega
  have h3 : IntKind.u64.wrap (((c % 128 : Nat) : Int) * 2 ^ (7 * k)) = ((c % 128 * 2 ^ (7 * k) % 18446744073709551616 : Nat) : Int) := by
    have e : (2 ^ (7 * k) : Int) = ((2 ^ (7 * k) : Nat) : Int) := by rw [Int.natCast_pow]; rfl
    rw [IntKind.wrap_u64, e, ← Int.natCast_mul]
    generalize c % 128 * 2 ^ (7 * k) = z
    omega
  rw [h1, h2, h3, u64_or_nat _ _ hX (Nat.mod_lt _ (by omega))]
theorem rd_or_lt (X c k : Nat) (hX : X < 18446744073709551616) : (X ||| (c % 128 * 2 ^ (7 * k) % 18446744073709551616)) < 18446744073709551616 := by
  have h := Nat.or_lt_two_pow (n := 64) (x := X) (y := c % 128 * 2 ^ (7 * k) % 18446744073709551616) hX (Nat.mod_lt _ (by omega))
  exact h
def RdR (l : List UInt8) (w : World) (e : Ending) (w' : World) : Prop := e = .returned (.tuple #[.int .u64 (rdN l).1, .int .i64 (rdN l).2.1, .int .i64 (rdN l).2.2]) ∧ w' = w
theorem rdR_of {l : List UInt8} {w w' : World} {x n : Int} {e : Int} {r : Nat × Nat × Int} (h : rdN l = r) (hx : x = (r.1 : Int)) (hn : n = (r.2.1 : Int)) (he : e = r.2.2) (hB : w' = w) : RdR l w (.returned (.tuple #[.int .u64 x, .int .i64 n, .int .i64 e])) w' := by
  unfold RdR; rw [h, hx, hn, he]; exact ⟨rfl, hB⟩
set_option maxHeartbeats 1600000 in
set_option maxRecDepth 100000 in
theorem numRead_any (l : List UInt8) (w : World) (hl : (l.length : Int) ≤ 9223372036854775807) :
    Calls Try.prog 57 #[.string ⟨l.toArray⟩] w (RdR l w) := by
  have HL := Lib.hid hl
  go_enter Try.func57, Try.ntmps57
  go_wp2_with fail
  go_step3
  go_wp2_with fail
  go_step3
  go_wp2_with fail
  go_loopg [2, 3, 5] (l.length + 1) (fun gk sx sn sl wr => ∃ (k X last : Nat) (r : List UInt8), gk + k = l.length + 1 ∧ r = l.drop k ∧ sx = .int .u64 X ∧ sn = .int .i64 k ∧ sl = .int .u8 last ∧ k ≤ 10 ∧ k ≤ l.length ∧ X < 18446744073709551616 ∧ 128 ≤ last ∧ last < 256 ∧ rdGo l 0 0 128 = rdGo r k X last ∧ wr = w)
  case atStart => exact ⟨0, 0, 128, l, by omega, by simp, rfl, rfl, rfl, by omega, by omega, by omega, by omega, by omega, rfl, rfl⟩
  case round =>
    obtain ⟨k, X, last, r, hgk, hr, rfl, rfl, rfl, hk, hkl, hX, hlo, hlast, hd, rfl⟩ := hrel
    have HD := Lib.hid hd
    have HX := Lib.hid hX
    have HR := Lib.hid hr
    have hge : 128 ≤ (last : Int) := by omega
    clear hd hX hr
    by_cases hlt : (k : Int) < l.length
    · have hkn : k < l.length := by omega
      by_cases h10 : (k : Int) < 10
      · obtain ⟨c, hc⟩ : ∃ c : Nat, (⟨l.toArray⟩ : ByteArray)[k].toNat = c := ⟨_, rfl⟩
        have hc256 : c < 256 := by rw [← hc]; exact UInt8.toNat_lt _
        have hcl : l[k].toNat = c := hc
        have HCONS : Hid (r = l[k] :: l.drop (k + 1)) := by show _ = _; rw [HR.out]; exact List.drop_eq_getElem_cons hkn
        have HST : Hid (rdGo l 0 0 128 = if c < 128 then (k + 1, X ||| (c % 128 * 2 ^ (7 * k) % 18446744073709551616), c) else rdGo (l.drop (k + 1)) (k + 1) (X ||| (c % 128 * 2 ^ (7 * k) % 18446744073709551616)) c) := by
          show _ = _
          rw [HD.out, HCONS.out]
          conv => lhs; unfold rdGo
          rw [hcl, if_pos (by omega)]
        have HOR := Lib.hid (rd_or X c k HX.out hc256)
        have HOL := Lib.hid (rd_or_lt X c k HX.out)
        clear hcl
        by_cases hc128 : (c : Int) < 128
        · have HS2 : Hid (rdN l = rdEnd (k + 1, X ||| (c % 128 * 2 ^ (7 * k) % 18446744073709551616), c)) := by
            show _ = _
            unfold rdN
            rw [HST.out, if_pos (by omega)]
          by_cases hc0 : c = 0
          · have hb0 : ((c : Int) == 0) = true := by simp [hc0]
            by_cases hk0 : (1 : Int) < (k : Int) + 1
            · have HF : Hid (rdN l = (0, 0, 8)) := by show _ = _; rw [HS2.out]; unfold rdEnd; rw [if_neg (by simp only; omega), if_pos (by simp only; omega)]
              clear hc0
              go_wp2_with fail
              go_ret3
              exact rdR_of HF.out rfl rfl rfl rfl
            · have HF : Hid (rdN l = (X ||| (c % 128 * 2 ^ (7 * k) % 18446744073709551616), k + 1, 0)) := by show _ = _; rw [HS2.out]; unfold rdEnd; rw [if_neg (by simp only; omega), if_neg (by simp only; omega)]
              have hb10 : ((k : Int) + 1 == 10) = false := by simp; omega
              clear hc0
              go_wp2_with fail
              go_ret3
              exact rdR_of HF.out HOR.out (by simp) rfl rfl
          · have hb0 : ((c : Int) == 0) = false := by simp; omega
            by_cases hk9 : k = 9
            · have hb10 : ((k : Int) + 1 == 10) = true := by simp; omega
              by_cases hc1 : 1 < (c : Int)
              · have HF : Hid (rdN l = (0, 0, 8)) := by show _ = _; rw [HS2.out]; unfold rdEnd; rw [if_neg (by simp only; omega), if_pos (by simp only; omega)]
                clear hc0 hk9
                go_wp2_with fail
                go_ret3
                exact rdR_of HF.out rfl rfl rfl rfl
              · have HF : Hid (rdN l = (X ||| (c % 128 * 2 ^ (7 * k) % 18446744073709551616), k + 1, 0)) := by show _ = _; rw [HS2.out]; unfold rdEnd; rw [if_neg (by simp only; omega), if_neg (by simp only; omega)]
                clear hc0 hk9
                go_wp2_with fail
                go_ret3
                exact rdR_of HF.out HOR.out (by simp) rfl rfl
            · have hb10 : ((k : Int) + 1 == 10) = false := by simp; omega
              have HF : Hid (rdN l = (X ||| (c % 128 * 2 ^ (7 * k) % 18446744073709551616), k + 1, 0)) := by show _ = _; rw [HS2.out]; unfold rdEnd; rw [if_neg (by simp only; omega), if_neg (by simp only; omega)]
              clear hc0 hk9
              go_wp2_with fail
              go_ret3
              exact rdR_of HF.out HOR.out (by simp) rfl rfl
        · have HS2 : Hid (rdGo l 0 0 128 = rdGo (l.drop (k + 1)) (k + 1) (X ||| (c % 128 * 2 ^ (7 * k) % 18446744073709551616)) c) := by show _ = _; rw [HST.out, if_neg (by omega)]
          have HC := Lib.hid hc256
          have HC1 := Lib.hid (show 128 ≤ c by omega)
          go_wp2_with fail
          go_roundg (gk - 1)
          case rel => exact ⟨k + 1, _, c, _, by omega, rfl, congrArg (Value.int .u64) HOR.out, by go_num, rfl, by omega, by omega, HOL.out, HC1.out, HC.out, HS2.out, rfl⟩
          case measure => omega
      · have HS2 : Hid (rdN l = rdEnd (k, X, last)) := by
          show _ = _
          unfold rdN
          rw [HD.out, HR.out, List.drop_eq_getElem_cons hkn]
          unfold rdGo
          rw [if_neg (by omega)]
        have HF : Hid (rdN l = (0, 0, 8)) := by show _ = _; rw [HS2.out]; unfold rdEnd; rw [if_neg (by simp only; omega), if_pos (by simp only; omega)]
        go_wp2_with fail
        go_ret3
        exact rdR_of HF.out rfl rfl rfl rfl
    · have HS2 : Hid (rdN l = rdEnd (k, X, last)) := by
        show _ = _
        unfold rdN
        rw [HD.out, HR.out, List.drop_eq_nil_of_le (by omega)]
        unfold rdGo
        rfl
      by_cases h10 : (k : Int) < 10
      · have HF : Hid (rdN l = (0, 0, 10)) := by show _ = _; rw [HS2.out]; unfold rdEnd; rw [if_pos (by simp only; omega)]
        go_wp2_with fail
        go_ret3
        exact rdR_of HF.out rfl rfl rfl rfl
      · have HF : Hid (rdN l = (0, 0, 8)) := by show _ = _; rw [HS2.out]; unfold rdEnd; rw [if_neg (by simp only; omega), if_pos (by simp only; omega)]
        go_wp2_with fail
        go_ret3
        exact rdR_of HF.out rfl rfl rfl rfl
end Go.Proofs.Ytgjmnmcbinekdaa
