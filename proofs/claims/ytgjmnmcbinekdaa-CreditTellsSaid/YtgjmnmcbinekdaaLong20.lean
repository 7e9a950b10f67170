/- long: more than a statement looks at. -/
import Derived.Test.YtgjmnmcbinekdaaSame20
namespace Go.Proofs.Ytgjmnmcbinekdaa
open Go.RowKit Go.Sort Go.Lib

def LongP (L : List (Value × List Int)) (w : World) (e : Ending) (w' : World) : Prop := ∃ b, e = .returned (.bool b) ∧ Below w.heap.size w w' ∧ (b = false → L.length ≤ 20 ∧ ∀ p ∈ L, p.2.length ≤ 8192)
set_option maxHeartbeats 1600000 in
set_option maxRecDepth 100000 in
theorem long_any (L : List (Value × List Int)) (v : Value) (w : World) (h : ReadsK encV 1 w v L) (hL : (L.length : Int) ≤ 9223372036854775807) (hp : ∀ p ∈ L, ∃ a c, p.1 = .slice a p.2.length c) :
    Calls Try.prog 7 #[v] w (LongP L w) := by
  obtain ⟨va, vc, rfl⟩ := h.slice
  have HV := Lib.hid h
  have HP := Lib.hid hp
  clear h hp
  go_enter Try.func7, Try.ntmps7
  by_cases hl : (20 : Int) < L.length
  · go_wp2_with fail
    go_ret
    exact ⟨true, ret_boolE rfl, Below.refl _ _, by simp⟩
  · have hl20 : L.length ≤ 20 := by omega
    go_wp2_with fail
    go_loopg [3] L.length (fun gk si wr => ∃ j : Nat, gk + j = L.length ∧ si = .int .i64 j ∧ Below w.heap.size w wr ∧ ∀ i (hi : i < L.length), i < j → L[i].2.length ≤ 8192)
    case atStart => exact ⟨0, by omega, rfl, Below.refl _ _, fun i _ h => by omega⟩
    case round =>
      obtain ⟨j, hj, rfl, hB, hall⟩ := hrel
      have HB := Lib.hid hB
      have HALL := Lib.hid hall
      clear hB hall
      by_cases hjl : j < L.length
      · obtain ⟨b, off, cc, he, hb, hc⟩ := (HV.out.below HB.out).at (by omega)
        injection he with he1 he2 he3
        subst he1
        have k1 : wr.cell? ⟨b, off + j, none⟩ = some L[j].1 := by have h := hc j hjl 0 _ rfl; rw [Nat.mul_one, Nat.add_zero] at h; exact h
        obtain ⟨pa, pc, hpv⟩ := HP.out L[j] (List.getElem_mem hjl)
        rw [hpv] at k1
        obtain ⟨n, hn⟩ : ∃ n, L[j].2.length = n := ⟨_, rfl⟩
        rw [hn] at k1
        have HN := Lib.hid hn
        clear hc he2 he3 hb hpv hn
        by_cases hlong : (8192 : Int) < n
        · go_wp2_with fail
          go_ret
          exact ⟨true, ret_boolE rfl, HB.out, by simp⟩
        · have HLG := Lib.hid (show n ≤ 8192 by omega)
          go_wp2_with fail
          go_roundg (gk - 1)
          case rel => exact ⟨j + 1, by omega, by go_num, HB.out, fun i hi hij => by
            by_cases e : i = j
            · subst e; rw [HN.out]; exact HLG.out
            · exact HALL.out i hi (by omega)⟩
          case measure => omega
      · go_wp2_with fail
        go_ret
        exact ⟨false, ret_boolE rfl, HB.out, fun _ => ⟨hl20, fun p hp => by
          obtain ⟨i, hi, rfl⟩ := List.getElem_of_mem hp
          exact HALL.out i hi (by omega)⟩⟩
end Go.Proofs.Ytgjmnmcbinekdaa
