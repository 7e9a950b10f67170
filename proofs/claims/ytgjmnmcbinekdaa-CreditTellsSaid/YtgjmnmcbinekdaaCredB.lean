/- Numbers as bytes, plainly: written, read. -/
import Derived.Test.YtgjmnmcbinekdaaRows
import Derived.WalkKit
import Derived.Laws.BitsAllLaws
namespace Go.Proofs.Ytgjmnmcbinekdaa
open Go.RowKit

def uBytes (n : Nat) : List UInt8 := if n < 128 then [UInt8.ofNat n] else UInt8.ofNat (n % 128 + 128) :: uBytes (n / 128)
termination_by n
decreasing_by omega
theorem uBytes_small {n : Nat} (h : n < 128) : uBytes n = [UInt8.ofNat n] := by rw [uBytes, if_pos h]
theorem uBytes_big {n : Nat} (h : ¬ n < 128) : uBytes n = UInt8.ofNat (n % 128 + 128) :: uBytes (n / 128) := by rw [uBytes, if_neg h]
theorem uBytes_len : ∀ (k n : Nat), n < 128 ^ (k + 1) → (uBytes n).length ≤ k + 1 := by
  intro k
  induction k with
  | zero => intro n h; rw [uBytes_small (by omega)]; simp
  | succ k ih =>
    intro n h
    by_cases hn : n < 128
    · rw [uBytes_small hn]; simp
    · rw [uBytes_big hn, List.length_cons]
      have h2 : n / 128 < 128 ^ (k + 1) := by
        rw [Nat.div_lt_iff_lt_mul (by omega)]
        rw [Nat.pow_succ] at h
        exact h
      have := ih _ h2
      omega
theorem uBytes_len10 {n : Nat} (h : n < 18446744073709551616) : (uBytes n).length ≤ 10 := uBytes_len 9 n (Nat.lt_of_lt_of_le h (by decide))
/-- What is read: bytes read up to now, the number, the last byte. -/
def rdGo : List UInt8 → Nat → Nat → Nat → Nat × Nat × Nat
  | [], n, x, last => (n, x, last)
  | b :: t, n, x, last => if n < 10 then (if b.toNat < 128 then (n + 1, x ||| (b.toNat % 128 * 2 ^ (7 * n) % 18446744073709551616), b.toNat) else rdGo t (n + 1) (x ||| (b.toNat % 128 * 2 ^ (7 * n) % 18446744073709551616)) b.toNat) else (n, x, last)
/-- What Read answers: the number, how many bytes, its errno. -/
def rdEnd (r : Nat × Nat × Nat) : Nat × Nat × Int :=
  if 128 ≤ r.2.2 ∧ r.1 < 10 then (0, 0, 10)
  else if 128 ≤ r.2.2 ∨ (r.2.2 = 0 ∧ 1 < r.1) ∨ (r.1 = 10 ∧ 1 < r.2.2) then (0, 0, 8)
  else (r.2.1, r.1, 0)
def rdN (l : List UInt8) : Nat × Nat × Int := rdEnd (rdGo l 0 0 128)
theorem rdGo_small {m : Nat} (h : m < 128) (t : List UInt8) (last : Nat) : rdGo (UInt8.ofNat m :: t) 0 0 last = (1, m, m) := by
  have e : (UInt8.ofNat m).toNat = m := by rw [UInt8.toNat_ofNat']; omega
  unfold rdGo
  rw [e, if_pos (by omega), if_pos h]
  simp
  omega
theorem rdN_small {m : Nat} (h : m < 128) (t : List UInt8) : rdN (uBytes m ++ t) = (m, 1, 0) := by
  unfold rdN
  rw [uBytes_small h, List.singleton_append, rdGo_small h]
  unfold rdEnd
  rw [if_neg (by simp only; omega), if_neg (by simp only; omega)]
theorem rdN_two {m : Nat} (h : ¬ m < 128) (h2 : m < 16384) (t : List UInt8) : rdN (uBytes m ++ t) = (m, 2, 0) := by
  have e1 : (UInt8.ofNat (m % 128 + 128)).toNat = m % 128 + 128 := by rw [UInt8.toNat_ofNat']; omega
  have e2 : (UInt8.ofNat (m / 128)).toNat = m / 128 := by rw [UInt8.toNat_ofNat']; omega
  unfold rdN
  rw [uBytes_big h, uBytes_small (by omega), List.cons_append, List.singleton_append]
  unfold rdGo
  rw [e1, if_pos (by omega), if_neg (by omega)]
  unfold rdGo
  rw [e2, if_pos (by omega), if_pos (by omega)]
  have e3 : ((0 ||| ((m % 128 + 128) % 128 * 2 ^ (7 * 0) % 18446744073709551616)) ||| (m / 128 % 128 * 2 ^ (7 * (0 + 1)) % 18446744073709551616)) = m := by
    have a1 : (m % 128 + 128) % 128 * 2 ^ (7 * 0) % 18446744073709551616 = m % 128 := by simp; omega
    have a2 : m / 128 % 128 * 2 ^ (7 * (0 + 1)) % 18446744073709551616 = m / 128 * 128 := by simp; omega
    rw [a1, a2, Nat.zero_or, Nat.or_comm, nat_join 7 _ _ (by omega) (by omega)]
    omega
  rw [e3]
  unfold rdEnd
  rw [if_neg (by simp only; omega), if_neg (by simp only; omega)]
theorem rdN_back {m : Nat} (h : m < 16384) (t : List UInt8) : rdN (uBytes m ++ t) = (m, (uBytes m).length, 0) := by
  by_cases hm : m < 128
  · rw [rdN_small hm, uBytes_small hm]; rfl
  · rw [rdN_two hm h, uBytes_big hm, uBytes_small (by omega)]; rfl
/-- A reader: what is left, and its errno. Here one number that a check allows. -/
def numS (chk : Nat → Nat → Nat × Int) (s : List UInt8 × Int) : Nat × List UInt8 × Int :=
  let r := rdN s.1
  let c : Nat × Int := if r.2.2 = 0 then chk r.1 r.2.1 else (r.2.1, r.2.2)
  if s.2 ≠ 0 then (0, s) else if c.2 ≠ 0 then (0, s.1, c.2) else (r.1, s.1.drop c.1, 0)
def chkU (most : Nat) (x n : Nat) : Nat × Int := if most < x then (n, 9) else (n, 0)
def chkC (most : Nat) (rest : List UInt8) (x n : Nat) : Nat × Int := if most < x then (n, 4) else if rest.length - n < x then (n, 10) else (n, 0)
def cntS (most : Nat) (s : List UInt8 × Int) : Nat × List UInt8 × Int := numS (chkC most s.1) s
def uintS (most : Nat) (s : List UInt8 × Int) : Nat × List UInt8 × Int := numS (chkU most) s
def manyS : Nat → List UInt8 × Int → List Int × List UInt8 × Int
  | 0, s => ([], s)
  | k + 1, s => let r := uintS 4096 s; let q := manyS k r.2; ((r.1 : Int) :: q.1, q.2)
end Go.Proofs.Ytgjmnmcbinekdaa
