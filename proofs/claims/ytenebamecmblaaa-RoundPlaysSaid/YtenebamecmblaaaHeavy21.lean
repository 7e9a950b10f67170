/- Contract: heavy. -/
import Derived.Test.YtenebamecmblaaaOpen21
import Derived.Test.YtenebamecmblaaaRnd13
namespace Go.Proofs.Ytenebamecmblaaa
open Go.RowKit Go.Sort Go.Lib

def HeavyP (n : Nat) (w : World) (e : Ending) (w' : World) : Prop := ∃ b, e = .returned (.bool b) ∧ Below w.heap.size w w' ∧ (b = false → n ≤ 200)
theorem HeavyP.yes {n : Nat} {w w' : World} {e : Ending} (h : e = .returned (.bool true)) (hB : Below w.heap.size w w') : HeavyP n w e w' := ⟨true, h, hB, by simp⟩
theorem HeavyP.no {n : Nat} {w w' : World} {e : Ending} (h : e = .returned (.bool false)) (hB : Below w.heap.size w w') (hn : n ≤ 200) : HeavyP n w e w' := ⟨false, h, hB, fun _ => hn⟩
set_option maxHeartbeats 1600000 in
set_option maxRecDepth 100000 in
theorem heavy_any (v : Value) (l : List Sp) (w : World) (hv : ReadsK encS 5 w v l) (hl : (l.length : Int) ≤ 9223372036854775807) :
    Calls Try.prog 11 #[v] w (HeavyP l.length w) := by
  obtain ⟨a, cap, rfl⟩ := hv.slice
  have HV := Lib.hid hv
  clear hv
  go_enter Try.func11, Try.ntmps11
  go_wp2_with fail
  go_loopg [3, 4] l.length (fun gk s i wr => ∃ (x : Int) (k : Nat), gk + k = l.length ∧ s = .int .i64 x ∧ i = .int .i64 k ∧ Below w.heap.size w wr)
  case atStart => exact ⟨0, 0, by omega, rfl, rfl, Below.refl _ _⟩
  case round =>
    obtain ⟨x, k, hk, rfl, rfl, hB⟩ := hrel
    have HB := Lib.hid hB
    clear hB
    by_cases h1 : k < l.length
    · by_cases h2 : k < 300
      · obtain ⟨b, off, c, he, hb, hc⟩ := (HV.out.below HB.out).at (by omega)
        injection he with he1 he2 he3
        subst he1
        have hcc := hc k h1
        clear hc he3 hb
        generalize l[k] = y at hcc
        have c2 : wr.cell? ⟨b, off + k * 5 + 1 + 1, none⟩ = some (.string y.2.1.2) := hcc 2 _ rfl
        have c4 : wr.cell? ⟨b, off + k * 5 + 3 + 1, none⟩ = some (.string y.2.2.2) := hcc 4 _ rfl
        clear hcc
        go_wp2_with fail
        go_quiet (fail)
        have HB2 := Lib.hid (HB.out.trans ((below_drewN (Below.refl wr.heap.size wr) nq).mono HB.out.size))
        clear HB
        go_wp2_with fail
        go_roundg (gk - 1)
        case rel => exact ⟨_, k + 1, by omega, rfl, by go_num, HB2.out⟩
        case measure => omega
      · by_cases h4 : (200 : Int) < l.length
        · go_wp2_with fail
          go_ret
          exact HeavyP.yes (ret_boolE rfl) HB.out
        · omega
    · by_cases h4 : (200 : Int) < l.length
      · go_wp2_with fail
        go_ret
        exact HeavyP.yes (ret_boolE rfl) HB.out
      · by_cases h6 : (8192 : Int) < x
        · go_wp2_with fail
          go_ret
          exact HeavyP.yes (ret_boolE rfl) HB.out
        · go_wp2_with fail
          go_ret
          exact HeavyP.no (ret_boolE rfl) HB.out (by omega)
end Go.Proofs.Ytenebamecmblaaa
