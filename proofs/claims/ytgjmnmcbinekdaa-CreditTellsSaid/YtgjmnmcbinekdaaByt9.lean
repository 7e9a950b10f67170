/- Contract: Encode. -/
import Derived.Test.YtgjmnmcbinekdaaByt8
import Derived.Test.YtgjmnmcbinekdaaSame20
namespace Go.Proofs.Ytgjmnmcbinekdaa
open Go.RowKit Go.Lib

theorem one_n8 (n : Nat) (w : World) : ReadsK encN8 1 (w.alloc (.cells #[.int .u64 n] 55)) (.slice (some ⟨w.heap.size, 0, none⟩) 1 1) [n] := by
  refine .inr ⟨w.heap.size, 0, 1, rfl, by simp, ?_⟩
  intro i hi t u hu
  have hi0 : i = 0 := by simpa using hi
  subst hi0
  match t with
  | 0 => simp [encN8] at hu; subst hu; simp
  | t + 1 => simp [encN8] at hu
theorem ba_append (a b : List UInt8) : (⟨a.toArray⟩ : ByteArray) ++ (⟨b.toArray⟩ : ByteArray) = ⟨(a ++ b).toArray⟩ := by
  apply ByteArray.ext
  simp
def natC (c : List Int) : List Nat := c.map Int.toNat
def encB (c : List Int) : List UInt8 := uBytes c.length ++ allB (natC c)
def encA (c : List Int) : List UInt8 × Int := if mayC c then (encB c, 0) else ([], 8)
def EncR (c : List Int) (w : World) (e : Ending) (w' : World) : Prop := e = .returned (.tuple #[.string ⟨(encA c).1.toArray⟩, .int .i64 (encA c).2]) ∧ Below w.heap.size w w'
theorem rtE {a a' : List UInt8} {e e' : Int} (h : a = a') (k : e = e') : Ending.returned (.tuple #[.string ⟨a.toArray⟩, .int .i64 e]) = Ending.returned (.tuple #[.string ⟨a'.toArray⟩, .int .i64 e']) := by rw [h, k]
theorem natC_le {c : List Int} (h : mayC c = true) : ∀ n ∈ natC c, n ≤ 4096 := by
  intro n hn
  obtain ⟨x, hx, rfl⟩ := List.mem_map.1 hn
  obtain ⟨j, hj, rfl⟩ := List.getElem_of_mem hx
  have h2 := (mayC_iff.1 h j hj).2.1
  rw [List.getD_eq_getElem?_getD, List.getElem?_eq_getElem hj] at h2
  simp only [Option.getD_some] at h2
  omega
theorem mayC_ge {c : List Int} (h : mayC c = true) : ∀ x ∈ c, 0 ≤ x ∧ x ≤ 4096 := by
  intro x hx
  obtain ⟨j, hj, rfl⟩ := List.getElem_of_mem hx
  have h2 := mayC_iff.1 h j hj
  unfold GoodC at h2
  rw [List.getD_eq_getElem?_getD, List.getElem?_eq_getElem hj] at h2
  simp only [Option.getD_some] at h2
  omega
set_option maxHeartbeats 1600000 in
set_option maxRecDepth 100000 in
theorem encode_any (c : List Int) (v : Value) (w : World) (h : ReadsK encC 1 w v c) (hl : c.length ≤ 1000000) :
    Calls Try.prog 9 #[v] w (EncR c w) := by
  obtain ⟨va, vc, rfl⟩ := h.slice
  have HV := Lib.hid h
  clear h
  go_enter Try.func9, Try.ntmps9
  go_wp2_with fail
  refine (cmay_any c _ w HV.out hl).mono ?_
  rintro e w1 ⟨rfl, hw⟩
  have hw := hw.symm
  subst hw
  cases hma : mayC c with
  | false =>
    have HF := Lib.hid (show encA c = ([], 8) by unfold encA; rw [hma]; rfl)
    clear hma
    go_wp2_with fail
    go_ret2
    exact ⟨rtE (by rw [HF.out]) (by rw [HF.out]), Below.refl _ _⟩
  | true =>
    have HF := Lib.hid (show encA c = (encB c, 0) by unfold encA; rw [hma]; rfl)
    have HGE := Lib.hid (mayC_ge hma)
    have HNL := Lib.hid (natC_le hma)
    clear hma
    have w1 : IntKind.u64.wrap (c.length : Int) = c.length := by rw [IntKind.wrap_u64]; omega
    have H1 := Lib.hid (one_n8 c.length w)
    have B1 : Hid (Below w.heap.size w (w.alloc (.cells #[.int .u64 c.length] 55))) := (Below.refl _ _).alloc (Nat.le_refl _) _
    go_wp2_with fail
    refine (uints_any [c.length] _ _ H1.out (by simp) (by simp; omega)).mono ?_
    rintro e w2 ⟨rfl, hB2⟩
    have HB2 := Lib.hid (B1.out.trans (hB2.mono B1.out.size))
    have e0 : allB [c.length] = uBytes c.length ++ allB ((natC c).take 0) := by simp [allB]
    clear hB2 H1 B1
    rw [e0]
    clear e0
    go_wp2_with fail
    go_loopg [4, 17] c.length (fun gk ss si wr => ∃ k : Nat, gk + k = c.length ∧ si = .int .i64 k ∧ ss = .string ⟨(uBytes c.length ++ allB ((natC c).take k)).toArray⟩ ∧ Below w.heap.size w wr)
    case atStart => exact ⟨0, by omega, rfl, rfl, HB2.out⟩
    case round =>
      obtain ⟨k, hk, rfl, rfl, hB⟩ := hrel
      have HB := Lib.hid hB
      clear hB HB2
      by_cases hkl : k < c.length
      · obtain ⟨g, off, cc, he, hg, hc⟩ := (HV.out.below HB.out).at (by omega)
        injection he with he1 he2 he3
        subst he1
        have k1 : wr.cell? ⟨g, off + k, none⟩ = some (.int .i64 c[k]) := by have h := hc k hkl 0 _ rfl; rw [Nat.mul_one, Nat.add_zero] at h; exact h
        have hx := HGE.out c[k] (List.getElem_mem hkl)
        have hkn : k < (natC c).length := by unfold natC; rw [List.length_map]; exact hkl
        have HT := Lib.hid (allB_take hkn)
        have hnx : (natC c)[k] = c[k].toNat := List.getElem_map _
        rw [hnx] at HT
        obtain ⟨x, hxx⟩ : ∃ x : Nat, c[k] = (x : Int) := ⟨c[k].toNat, by omega⟩
        rw [hxx] at k1 hx HT
        rw [Int.toNat_natCast] at HT
        have w2 : IntKind.u64.wrap (x : Int) = x := by rw [IntKind.wrap_u64]; omega
        have H1 := Lib.hid (one_n8 x wr)
        have B1 : Hid (Below w.heap.size w (wr.alloc (.cells #[.int .u64 x] 55))) := HB.out.alloc HB.out.size _
        have HLA := Lib.hid (allB_len (l := (natC c).take k) (fun n hn => by have := HNL.out n (List.mem_of_mem_take hn); omega))
        have HXL := Lib.hid (uBytes_len10 (n := x) (by omega))
        have HLL := Lib.hid (uBytes_len10 (n := c.length) (by omega))
        clear hc he2 he3 hg hxx hnx hkn
        go_wp2_with fail
        refine (uints_any [x] _ _ H1.out (by simp) (by simp; omega)).mono ?_
        rintro e w3 ⟨rfl, hB3⟩
        have HB3 := Lib.hid (B1.out.trans (hB3.mono B1.out.size))
        have e1 : allB [x] = uBytes x := by simp [allB]
        clear hB3 H1 B1 k1
        rw [e1]
        clear e1
        have hsz : (uBytes c.length).length + (allB ((natC c).take k)).length + (uBytes x).length ≤ 9223372036854775807 := by
          have h1 := HLA.out
          have h2 := HXL.out
          have h3 := HLL.out
          rw [List.length_take] at h1
          omega
        have HAP : Hid ((⟨(uBytes c.length ++ allB ((natC c).take k)).toArray⟩ : ByteArray) ++ (⟨(uBytes x).toArray⟩ : ByteArray) = ⟨(uBytes c.length ++ allB ((natC c).take (k + 1))).toArray⟩) := by show _ = _; rw [ba_append, List.append_assoc, HT.out]
        clear HLA HXL HLL
        go_wp2_with fail
        go_roundg (gk - 1)
        case rel => exact ⟨k + 1, by omega, by go_num, congrArg Value.string HAP.out, HB3.out⟩
        case measure => omega
      · have HE : Hid (encB c = uBytes c.length ++ allB ((natC c).take k)) := by show _ = _; unfold encB; rw [List.take_of_length_le]; unfold natC; rw [List.length_map]; omega
        go_wp2_with fail
        go_ret2
        exact ⟨rtE (by rw [HF.out, HE.out]) (by rw [HF.out]), HB.out⟩
end Go.Proofs.Ytgjmnmcbinekdaa
