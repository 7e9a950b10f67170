/- Contracts: the checks of a reader's numbers. -/
import Derived.Test.YtgjmnmcbinekdaaByt4
namespace Go.Proofs.Ytgjmnmcbinekdaa
open Go.RowKit Go.Lib

theorem rpE {n e n' e' : Int} (h : n = n') (k : e = e') : Ending.returned (.tuple #[.int .i64 n, .int .i64 e]) = Ending.returned (.tuple #[.int .i64 n', .int .i64 e']) := by rw [h, k]
def ChkR (r : Nat × Int) (w : World) (e : Ending) (w' : World) : Prop := e = .returned (.tuple #[.int .i64 r.1, .int .i64 r.2]) ∧ Below w.heap.size w w'
set_option maxHeartbeats 400000 in
theorem rdU1_any (m x n most : Nat) (w : World) (h : w.cell? ⟨m, 0, none⟩ = some (.int .u64 most)) :
    Calls Try.prog 47 #[.int .u64 x, .int .i64 n, .pointer (some ⟨m, 0, none⟩)] w (ChkR (chkU most x n) w) := by
  go_enter Try.func47, Try.ntmps47
  by_cases hlt : (most : Int) < x
  · have HS : Hid (chkU most x n = (n, 9)) := by show _ = _; unfold chkU; rw [if_pos (by omega)]
    go_wp2_with fail
    go_ret2
    exact ⟨rpE (by rw [HS.out]) (by rw [HS.out]), Below.refl _ _⟩
  · have HS : Hid (chkU most x n = (n, 0)) := by show _ = _; unfold chkU; rw [if_neg (by omega)]
    go_wp2_with fail
    go_ret2
    exact ⟨rpE (by rw [HS.out]) (by rw [HS.out]), Below.refl _ _⟩
set_option maxHeartbeats 800000 in
theorem rdC1_any (m p b x n most : Nat) (rest : List UInt8) (e : Int) (w : World) (h : w.cell? ⟨m, 0, none⟩ = some (.int .i64 most)) (hp : w.cell? ⟨p, 0, none⟩ = some (.pointer (some ⟨b, 0, none⟩))) (hr : RdAt w b rest e)
    (hm : most ≤ 1000000) (hn : n ≤ rest.length) (hl : (rest.length : Int) ≤ 9223372036854775807) (hx : x < 18446744073709551616) :
    Calls Try.prog 56 #[.int .u64 x, .int .i64 n, .pointer (some ⟨m, 0, none⟩), .pointer (some ⟨p, 0, none⟩)] w (ChkR (chkC most rest x n) w) := by
  have c0 := hr.c0
  clear hr
  go_enter Try.func56, Try.ntmps56
  have w1 : IntKind.u64.wrap (most : Int) = most := by rw [IntKind.wrap_u64]; omega
  by_cases hlt : (most : Int) < x
  · have HS : Hid (chkC most rest x n = (n, 4)) := by show _ = _; unfold chkC; rw [if_pos (by omega)]
    go_wp2_with fail
    go_ret2
    exact ⟨rpE (by rw [HS.out]) (by rw [HS.out]), Below.refl _ _⟩
  · have w2 : IntKind.i64.wrap (x : Int) = x := by rw [IntKind.wrap_i64]; omega
    by_cases hs : (rest.length : Int) - n < x
    · have HS : Hid (chkC most rest x n = (n, 10)) := by show _ = _; unfold chkC; rw [if_neg (by omega), if_pos (by omega)]
      go_wp2_with fail
      go_ret2
      exact ⟨rpE (by rw [HS.out]) (by rw [HS.out]), Below.refl _ _⟩
    · have HS : Hid (chkC most rest x n = (n, 0)) := by show _ = _; unfold chkC; rw [if_neg (by omega), if_neg (by omega)]
      go_wp2_with fail
      go_ret2
      exact ⟨rpE (by rw [HS.out]) (by rw [HS.out]), Below.refl _ _⟩
end Go.Proofs.Ytgjmnmcbinekdaa
