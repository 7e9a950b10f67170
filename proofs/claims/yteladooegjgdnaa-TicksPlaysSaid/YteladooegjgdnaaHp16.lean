/- Contracts: the law's heavy, near; the document's Same. -/
import Derived.Test.YteladooegjgdnaaHp15
import Derived.Test.YteladooegjgdnaaOpen08
namespace Go.Proofs.Yteladooegjgdnaa
open Go.RowKit Go.Sort Go.Lib

def HeavyP (n : Nat) (w : World) (e : Ending) (w' : World) : Prop := ∃ b, e = .returned (.bool b) ∧ Below w.heap.size w w' ∧ (b = false → n ≤ 300)
theorem HeavyP.yes {n : Nat} {w w' : World} {e : Ending} (h : e = .returned (.bool true)) (hB : Below w.heap.size w w') : HeavyP n w e w' := ⟨true, h, hB, by simp⟩
theorem HeavyP.no {n : Nat} {w w' : World} {e : Ending} (h : e = .returned (.bool false)) (hB : Below w.heap.size w w') (hn : n ≤ 300) : HeavyP n w e w' := ⟨false, h, hB, fun _ => hn⟩
set_option maxHeartbeats 1600000 in
set_option maxRecDepth 100000 in
theorem heavy_any (v : Value) (l : List Stp) (w : World) (hv : ReadsK encS 4 w v l) (hl : (l.length : Int) ≤ 9223372036854775807) :
    Calls Try.prog 8 #[v] w (HeavyP l.length w) := by
  obtain ⟨a, cap, rfl⟩ := hv.slice
  have HV := Lib.hid hv
  clear hv
  go_enter Try.func8, Try.ntmps8
  go_wp2_with fail
  go_loopg [3, 4] l.length (fun gk s i wr => ∃ (x : Int) (k : Nat), gk + k = l.length ∧ s = .int .i64 x ∧ i = .int .i64 k ∧ Below w.heap.size w wr)
  case atStart => exact ⟨0, 0, by omega, rfl, rfl, Below.refl _ _⟩
  case round =>
    obtain ⟨x, k, hk, rfl, rfl, hB⟩ := hrel
    have HB := Lib.hid hB
    clear hB
    by_cases h1 : k < l.length
    · by_cases h2 : k < 400
      · obtain ⟨b, off, c, he, hb, hc⟩ := (HV.out.below HB.out).at (by omega)
        injection he with he1 he2 he3
        subst he1
        have hcc := hc k h1
        clear hc he3 hb
        generalize l[k] = y at hcc
        have c2 : wr.cell? ⟨b, off + k * 4 + 1, none⟩ = some (.string y.2.1) := hcc 1 _ rfl
        have c7 : wr.cell? ⟨b, off + k * 4 + 2, none⟩ = some (.string y.2.2.1) := hcc 2 _ rfl
        clear hcc
        go_wp2_with fail
        go_quiet (fail)
        have HB2 := Lib.hid (HB.out.trans ((below_drewN (Below.refl wr.heap.size wr) nq).mono HB.out.size))
        clear HB
        go_wp2_with fail
        go_roundg (gk - 1)
        case rel => exact ⟨_, k + 1, by omega, rfl, by go_num, HB2.out⟩
        case measure => omega
      · by_cases h4 : (300 : Int) < l.length
        · go_wp2_with fail
          go_ret
          exact HeavyP.yes rfl HB.out
        · omega
    · by_cases h4 : (300 : Int) < l.length
      · go_wp2_with fail
        go_ret
        exact HeavyP.yes rfl HB.out
      · by_cases h6 : (16384 : Int) < x
        · go_wp2_with fail
          go_ret
          exact HeavyP.yes rfl HB.out
        · go_wp2_with fail
          go_ret
          exact HeavyP.no rfl HB.out (by omega)
def nearV (now a : Int) : Int := wrap64 (now + bits BinOp.and IntKind.i64 a 65535)
theorem near_any (now a : Int) (w : World) : Calls Try.prog 12 #[.int .i64 now, .int .i64 a] w fun e w' => e = .returned (.int .i64 (nearV now a)) ∧ w' = w := by
  go_enter Try.func12, Try.ntmps12
  go_wp2_with fail
  go_ret
  exact ⟨rfl, rfl⟩
set_option maxHeartbeats 1600000 in
set_option maxRecDepth 100000 in
theorem same_any (v u : Value) (l : List Tm) (w : World) (hv : ReadsK encT 2 w v l) (hu : ReadsK encT 2 w u l) (hl : (l.length : Int) ≤ 9223372036854775807) :
    Calls Try.prog 14 #[v, u] w fun e w' => e = .returned (.bool true) ∧ Below w.heap.size w w' := by
  obtain ⟨a, cap, rfl⟩ := hv.slice
  obtain ⟨a2, cap2, rfl⟩ := hu.slice
  have HV := Lib.hid hv
  have HU := Lib.hid hu
  clear hv hu
  go_enter Try.func14, Try.ntmps14
  go_wp2_with fail
  go_loopg [5] l.length (fun gk i wr => ∃ (k : Nat), gk + k = l.length ∧ i = .int .i64 k ∧ Below w.heap.size w wr)
  case atStart => exact ⟨0, by omega, rfl, Below.refl _ _⟩
  case round =>
    obtain ⟨k, hk, rfl, hB⟩ := hrel
    have HB := Lib.hid hB
    clear hB
    by_cases h1 : k < l.length
    · obtain ⟨b, off, c, he, hb, hc⟩ := (HV.out.below HB.out).at (by omega)
      injection he with he1 he2 he3
      subst he1
      obtain ⟨b2, off2, c2, hf, hb2, hc2⟩ := (HU.out.below HB.out).at (by omega)
      injection hf with hf1 hf2 hf3
      subst hf1
      have hcc := hc k h1
      have hcc2 := hc2 k h1
      clear hc hc2 he3 hb hf3 hb2
      generalize l[k] = y at hcc hcc2
      have c0 : wr.cell? ⟨b, off + k * 2, none⟩ = some (.string y.k) := hcc 0 _ rfl
      have c1 : wr.cell? ⟨b, off + k * 2 + 1, none⟩ = some (.int .i64 y.a) := hcc 1 _ rfl
      have d0 : wr.cell? ⟨b2, off2 + k * 2, none⟩ = some (.string y.k) := hcc2 0 _ rfl
      have d1 : wr.cell? ⟨b2, off2 + k * 2 + 1, none⟩ = some (.int .i64 y.a) := hcc2 1 _ rfl
      clear hcc hcc2
      go_wp2_with fail
      go_quiet (fail)
      have HB2 := Lib.hid (HB.out.trans ((below_drewN (Below.refl wr.heap.size wr) nq).mono HB.out.size))
      clear HB
      go_wp2_with fail
      go_roundg (gk - 1)
      case rel => exact ⟨k + 1, by omega, by go_num, HB2.out⟩
      case measure => omega
    · go_wp2_with fail
      go_ret
      exact ⟨rfl, HB.out⟩
end Go.Proofs.Yteladooegjgdnaa
