/- The document's answers: numbers as bytes; Encode. -/
import Derived.Test.YtgjmnmcbinekdaaRefC1
import Derived.Test.YtgjmnmcbinekdaaRdLaw20
namespace Go.Proofs.Ytgjmnmcbinekdaa
open Go.RowKit Go.Lib

theorem bytes_one (w : World) (b : Nat) (hb : b < 256) : (convert 49 9 (.slice (some ⟨w.heap.size, 0, none⟩) 1 1)).run Try.prog (w.alloc (.cells #[.int .u8 b] 5)) = .ok (.string ⟨[UInt8.ofNat b].toArray⟩) (w.alloc (.cells #[.int .u8 b] 5)) := by
  have h := run_convert_bytes_back (P := Try.prog) (w.alloc (.cells #[.int .u8 b] 5)) 49 9 5 ⟨w.heap.size, 0, none⟩ 1 [UInt8.ofNat b] Try.underlying49 Try.underlying5 Try.underlying9 (fun j hj => by
    have h0 : j = 0 := by simpa using hj
    subst h0
    have e : (UInt8.ofNat b).toNat = b := by rw [UInt8.toNat_ofNat']; omega
    simp [Addr.add, e])
  exact h
theorem bytes_at (w : World) (g b : Nat) (hb : b < 256) (h : w.cell? ⟨g, 0, none⟩ = some (.int .u8 b)) : (convert 49 9 (.slice (some ⟨g, 0, none⟩) 1 1)).run Try.prog w = .ok (.string ⟨[UInt8.ofNat b].toArray⟩) w := by
  have h := run_convert_bytes_back (P := Try.prog) w 49 9 5 ⟨g, 0, none⟩ 1 [UInt8.ofNat b] Try.underlying49 Try.underlying5 Try.underlying9 (fun j hj => by
    have h0 : j = 0 := by simpa using hj
    subst h0
    have e : (UInt8.ofNat b).toNat = b := by rw [UInt8.toNat_ofNat']; omega
    simpa [Addr.add, e] using h)
  exact h
theorem lt_ad (w : World) (o : Obj) : w.heap.size < (w.alloc o).drew.heap.size := by simp
theorem cell_ad (w : World) (v : Value) (E : TypeId) : (w.alloc (.cells #[v] E (0, 0))).drew.cell? ⟨w.heap.size, 0, none⟩ = some v := by simp
set_option maxHeartbeats 1600000 in
set_option maxRecDepth 100000 in
theorem r1Uint_any : ∀ (n : Nat), n < 18446744073709551616 → ∀ w : World,
    Calls Try.prog 44 #[.int .u64 n] w fun e w' => e = .returned (.string ⟨(uBytes n).toArray⟩) ∧ Below w.heap.size w w' := by
  intro n
  induction n using Nat.strongRecOn with
  | _ n ih =>
    intro hn w
    by_cases h : n < 128
    · have HU := Lib.hid (uBytes_small h)
      have HC := Lib.hid (bytes_one w n (by omega))
      have hc := HC.out
      have w8 : IntKind.u8.wrap (n : Int) = n := by rw [IntKind.wrap_u8]; omega
      go_enter Try.func44, Try.ntmps44
      go_wp2_with fail
      go_ret
      exact ⟨congrArg (fun l => Ending.returned (.string ⟨List.toArray l⟩)) HU.out.symm, (Below.refl _ _).alloc (Nat.le_refl _) _⟩
    · obtain ⟨q, hq⟩ : ∃ q, n / 128 = q := ⟨_, rfl⟩
      obtain ⟨r, hr⟩ : ∃ r, n % 128 = r := ⟨_, rfl⟩
      obtain ⟨m, hm⟩ : ∃ m, n % 128 + 128 = m := ⟨_, rfl⟩
      have hU := uBytes_big h
      rw [hm, hq] at hU
      have HU := Lib.hid hU
      have HIH := Lib.hid (fun w => ih q (by omega) (by omega) w)
      have hn128 : ¬ (n : Int) < 128 := by omega
      have tm : (n : Int).tmod 128 = (r : Int) := by rw [Int.tmod_eq_emod_of_nonneg (by omega)]; omega
      have w1 : IntKind.u64.wrap (128 + (r : Int)) = (m : Int) := by rw [IntKind.wrap_u64]; omega
      have w2 : IntKind.u8.wrap (m : Int) = (m : Int) := by rw [IntKind.wrap_u8]; omega
      have w3 : (n : Int) / 128 = (q : Int) := by omega
      have w4 : IntKind.u64.wrap (q : Int) = (q : Int) := by rw [IntKind.wrap_u64]; omega
      have hm256 : m < 256 := by omega
      have hcv := fun W g => bytes_at W g m hm256
      have hql := uBytes_len10 (n := q) (by omega)
      have hsz : (1 : Int) + ((uBytes q).length : Int) ≤ 9223372036854775807 := by omega
      clear hU h ih hq hr hm
      go_enter Try.func44, Try.ntmps44
      go_wp2_with fail
      go_region_with (go_at_call 44; refine (HIH.out _).mono ?_; rintro e w' ⟨rfl, hB⟩; first | (have hcc : w'.cell? ⟨w.heap.size, 0, none⟩ = some (.int .u8 m) := (hB.cell (p := ⟨w.heap.size, 0, none⟩) (lt_ad _ _)).trans (cell_ad _ _ _)) | skip)
      all_goals (go_wp2_with fail)
      all_goals go_ret
      all_goals refine ⟨show Ending.returned (.string ((⟨[UInt8.ofNat m].toArray⟩ : ByteArray) ++ (⟨(uBytes q).toArray⟩ : ByteArray))) = _ from by rw [ba_append, HU.out]; rfl, ?_⟩
      all_goals first
        | exact ((Below.refl w.heap.size w).alloc (Nat.le_refl _) _).drew.trans (hB.mono (by simp))
        | exact ((Below.refl w.heap.size w).drew.trans (hB.mono (by simp))).alloc (by have := hB.size; simpa using this) _
set_option maxHeartbeats 400000 in
theorem r3Uint_any (n : Nat) (hn : n < 18446744073709551616) (w : World) :
    Calls Try.prog 28 #[.int .u64 n] w fun e w' => e = .returned (.string ⟨(uBytes n).toArray⟩) ∧ Below w.heap.size w w' := by
  have H := Lib.hid hn
  clear hn
  go_enter Try.func28, Try.ntmps28
  go_wp2_with fail
  refine (r1Uint_any n H.out w).mono ?_
  rintro e w2 ⟨rfl, hB⟩
  go_wp2_with fail
  go_ret
  exact ⟨rfl, hB⟩
set_option maxHeartbeats 1600000 in
set_option maxRecDepth 100000 in
theorem rencode_any (c : List Int) (v : Value) (w : World) (h : ReadsK encC 1 w v c) (hl : c.length ≤ 1000000) :
    Calls Try.prog 10 #[v] w (EncR c w) := by
  obtain ⟨va, vc, rfl⟩ := h.slice
  have HV := Lib.hid h
  clear h
  go_enter Try.func10, Try.ntmps10
  go_wp2_with fail
  refine (rmay_any c _ w HV.out hl).mono ?_
  rintro e w1 ⟨rfl, hB⟩
  have HV := Lib.hid (HV.out.below hB)
  have HB := Lib.hid hB
  clear hB
  cases hma : mayC c with
  | false =>
    have HF := Lib.hid (show encA c = ([], 8) by unfold encA; rw [hma]; rfl)
    clear hma
    go_wp2_with fail
    go_ret2
    exact ⟨rtE (by rw [HF.out]) (by rw [HF.out]), HB.out⟩
  | true =>
    have HF := Lib.hid (show encA c = (encB c, 0) by unfold encA; rw [hma]; rfl)
    have HGE := Lib.hid (mayC_ge hma)
    have HNL := Lib.hid (natC_le hma)
    clear hma
    have wr1 : IntKind.u64.wrap (c.length : Int) = c.length := by rw [IntKind.wrap_u64]; omega
    go_wp2_with fail
    refine (r3Uint_any c.length (by omega) w1).mono ?_
    rintro e w2 ⟨rfl, hB2⟩
    have HV := Lib.hid (HV.out.below hB2)
    have HB2 := Lib.hid (HB.out.trans (hB2.mono HB.out.size))
    have e0 : uBytes c.length = uBytes c.length ++ allB ((natC c).take 0) := by simp [allB]
    clear hB2 HB
    rw [e0]
    clear e0
    go_wp2_with fail
    go_loopg [4, 5] c.length (fun gk ss si wr => ∃ k : Nat, gk + k = c.length ∧ si = .int .i64 k ∧ ss = .string ⟨(uBytes c.length ++ allB ((natC c).take k)).toArray⟩ ∧ Below w.heap.size w wr ∧ Below w2.heap.size w2 wr)
    case atStart => exact ⟨0, by omega, rfl, rfl, HB2.out, Below.refl _ _⟩
    case round =>
      obtain ⟨k, hk, rfl, rfl, hB, hB2⟩ := hrel
      have HB := Lib.hid hB
      have HBW := Lib.hid hB2
      clear hB HB2 hB2
      by_cases hkl : k < c.length
      · obtain ⟨g, off, cc, he, hg, hc⟩ := (HV.out.below HBW.out).at (by omega)
        injection he with he1 he2 he3
        subst he1
        have k1 : wr.cell? ⟨g, off + k, none⟩ = some (.int .i64 c[k]) := by have h := hc k hkl 0 _ rfl; rw [Nat.mul_one, Nat.add_zero] at h; exact h
        have hx := HGE.out c[k] (List.getElem_mem hkl)
        have hkn : k < (natC c).length := by unfold natC; rw [List.length_map]; exact hkl
        have HT := Lib.hid (allB_take hkn)
        have hnx : (natC c)[k] = c[k].toNat := List.getElem_map _
        rw [hnx] at HT
        obtain ⟨x, hxx⟩ : ∃ x : Nat, c[k] = (x : Int) := ⟨c[k].toNat, by omega⟩
        rw [hxx] at k1 hx HT
        rw [Int.toNat_natCast] at HT
        have wr2 : IntKind.u64.wrap (x : Int) = x := by rw [IntKind.wrap_u64]; omega
        have HLA := Lib.hid (allB_len (l := (natC c).take k) (fun n hn => by have := HNL.out n (List.mem_of_mem_take hn); omega))
        have HXL := Lib.hid (uBytes_len10 (n := x) (by omega))
        have HLL := Lib.hid (uBytes_len10 (n := c.length) (by omega))
        clear hc he2 he3 hg hxx hnx hkn
        go_wp2_with fail
        refine (r3Uint_any x (by omega) wr).mono ?_
        rintro e w3 ⟨rfl, hB3⟩
        have HB3 := Lib.hid (HB.out.trans (hB3.mono HB.out.size))
        have HBW3 := Lib.hid (HBW.out.trans (hB3.mono HBW.out.size))
        clear hB3 k1
        have hsz : (uBytes c.length).length + (allB ((natC c).take k)).length + (uBytes x).length ≤ 9223372036854775807 := by
          have h1 := HLA.out
          have h2 := HXL.out
          have h3 := HLL.out
          rw [List.length_take] at h1
          omega
        have HAP : Hid ((⟨(uBytes c.length ++ allB ((natC c).take k)).toArray⟩ : ByteArray) ++ (⟨(uBytes x).toArray⟩ : ByteArray) = ⟨(uBytes c.length ++ allB ((natC c).take (k + 1))).toArray⟩) := by show _ = _; rw [ba_append, List.append_assoc, HT.out]
        clear HLA HXL HLL
        go_wp2_with fail
        go_roundg (gk - 1)
        case rel => exact ⟨k + 1, by omega, by go_num, congrArg Value.string HAP.out, HB3.out, HBW3.out⟩
        case measure => omega
      · have HE : Hid (encB c = uBytes c.length ++ allB ((natC c).take k)) := by show _ = _; unfold encB; rw [List.take_of_length_le]; unfold natC; rw [List.length_map]; omega
        go_wp2_with fail
        go_ret2
        exact ⟨rtE (by rw [HF.out, HE.out]) (by rw [HF.out]), HB.out⟩
end Go.Proofs.Ytgjmnmcbinekdaa
