/- names, roots: two lists that are the same. -/
import Derived.Test.YtpdnebimkfejoaaHeavy25
import Derived.Test.YtpdnebimkfejoaaLin16
import Derived.Test.YtpdnebimkfejoaaOwn25
namespace Go.Proofs.Ytpdnebimkfejoaa
open Go.RowKit Go.Sort Go.Lib

set_option maxRecDepth 100000 in
theorem neqSame (a : Nm) (w : World) : (binOp .neq 29 (.agg #[.int .u64 a.1, .string a.2]) (.agg #[.int .u64 a.1, .string a.2])).run Try.prog w = .ok (.bool false) w := by
  go_simp
  try simp
set_option maxHeartbeats 1600000 in
set_option maxRecDepth 100000 in
theorem sameNames (l : List Nm) (v u : Value) (w : World) (hv : ReadsK encM 2 w v l) (hu : ReadsK encM 2 w u l) (hl : l.length ≤ 1000000) :
    Calls Try.prog 15 #[v, u] w fun e w' => e = .returned (.bool true) ∧ Below w.heap.size w w' := by
  obtain ⟨va, vc, rfl⟩ := hv.slice
  obtain ⟨ua, uc, rfl⟩ := hu.slice
  have HV := Lib.hid hv
  have HU := Lib.hid hu
  clear hv hu
  have hll : (l.length != l.length) = false := by simp
  go_enter Try.func15, Try.ntmps15
  go_wp2_with fail
  go_loopg [5] l.length (fun gk i wr => ∃ k : Nat, gk + k = l.length ∧ i = .int .i64 k ∧ Below w.heap.size w wr)
  case atStart => exact ⟨0, by omega, rfl, Below.refl _ _⟩
  case round =>
    obtain ⟨k, hk, rfl, hB⟩ := hrel
    have HB := Lib.hid hB
    clear hB
    by_cases hlt : k < l.length
    · obtain ⟨b, off, c, he, hb, hc⟩ := (HV.out.below HB.out).at (by omega)
      injection he with he1 he2 he3
      subst he1
      obtain ⟨b2, off2, c2, he, hb2, hc2⟩ := (HU.out.below HB.out).at (by omega)
      injection he with he1 he4 he5
      subst he1
      have k0 : wr.cell? ⟨b, off + k * 2, none⟩ = some (.int .u64 l[k].1) := hc k hlt 0 _ rfl
      have k1 : wr.cell? ⟨b, off + k * 2 + 1, none⟩ = some (.string l[k].2) := hc k hlt 1 _ rfl
      have j0 : wr.cell? ⟨b2, off2 + k * 2, none⟩ = some (.int .u64 l[k].1) := hc2 k hlt 0 _ rfl
      have j1 : wr.cell? ⟨b2, off2 + k * 2 + 1, none⟩ = some (.string l[k].2) := hc2 k hlt 1 _ rfl
      generalize l[k] = n at *
      have hne := neqSame n
      clear hc hc2 hb hb2 he2 he3 he4 he5
      go_wp2_with fail
      go_quiet (fail)
      have HB2 := Lib.hid (HB.out.trans ((below_drewN (Below.refl wr.heap.size wr) nq).mono HB.out.size))
      clear HB
      go_wp2_with fail
      go_roundg (gk - 1)
      case rel => exact ⟨k + 1, by omega, by go_num, HB2.out⟩
      case measure => omega
    · go_wp2_with fail
      go_ret
      exact ⟨rfl, HB.out⟩
def ArgsR (w : World) (r : Rw) : Prop := ReadsK encI 1 w (.slice r.aa r.args.length r.ac) r.args
theorem ArgsR.below {w w' : World} {r : Rw} (h : ArgsR w r) (hB : Below w.heap.size w w') : ArgsR w' r := ReadsK.below h hB
theorem argsB_reads {B : Nat} {w : World} {r : Rw} (h : ArgsB B w r) : ArgsR w r := own_readsK (enc := encI) (k := 1) (fun _ => rfl) (by decide) h
set_option maxHeartbeats 1600000 in
set_option maxRecDepth 100000 in
theorem sameRoots (l m : List Rl) (v u : Value) (w : World) (hv : ReadsK encT 9 w v l) (hu : ReadsK encT 9 w u m) (ha : ∀ p ∈ l, ArgsR w p.2) (hb : ∀ p ∈ m, ArgsR w p.2) (hs : l.map coreP = m.map coreP) (hl : l.length ≤ 1000000) (hal : ∀ p ∈ l, p.2.args.length ≤ 1000000) :
    Calls Try.prog 14 #[v, u] w fun e w' => e = .returned (.bool true) ∧ Below w.heap.size w w' := by
  obtain ⟨va, vc, rfl⟩ := hv.slice
  obtain ⟨ua, uc, rfl⟩ := hu.slice
  have hlen : m.length = l.length := by have := congrArg List.length hs; simpa using this.symm
  have HV := Lib.hid hv
  have HU := Lib.hid hu
  have HA := Lib.hid ha
  have HB0 := Lib.hid hb
  have HS := Lib.hid hs
  have HL := Lib.hid hlen
  have HAL := Lib.hid hal
  rw [hlen]
  clear hv hu ha hb hs hlen hal
  have hll : (l.length != l.length) = false := by simp
  go_enter Try.func14, Try.ntmps14
  go_wp2_with fail
  go_loopg [5] l.length (fun gk i wr => ∃ k : Nat, gk + k = l.length ∧ i = .int .i64 k ∧ Below w.heap.size w wr)
  case atStart => exact ⟨0, by omega, rfl, Below.refl _ _⟩
  case round =>
    obtain ⟨k, hk, rfl, hB⟩ := hrel
    have HB := Lib.hid hB
    clear hB
    by_cases hlt : k < l.length
    · have hlt2 : k < m.length := by rw [HL.out]; exact hlt
      obtain ⟨b, off, c, he, hb, hc⟩ := (HV.out.below HB.out).at (by omega)
      injection he with he1 he2 he3
      subst he1
      obtain ⟨b2, off2, c2, he, hb2, hc2⟩ := (HU.out.below HB.out).at (by omega)
      injection he with he1 he4 he5
      subst he1
      have hck := hc k hlt
      have hck2 := hc2 k hlt2
      have HX := Lib.hid (HA.out _ (List.getElem_mem hlt))
      have HY := Lib.hid (HB0.out _ (List.getElem_mem hlt2))
      have hxl := HAL.out _ (List.getElem_mem hlt)
      have HE := Lib.hid (show coreP l[k] = coreP m[k] by
        have h1 : (l.map coreP)[k]? = (m.map coreP)[k]? := by rw [HS.out]
        rw [List.getElem?_map, List.getElem?_map, List.getElem?_eq_getElem hlt, List.getElem?_eq_getElem hlt2] at h1
        simpa using h1)
      generalize l[k] = x at *
      generalize m[k] = y at *
      have k0 : wr.cell? ⟨b, off + k * 9, none⟩ = some (.int .u64 x.1.1) := hck 0 _ rfl
      have k1 : wr.cell? ⟨b, off + k * 9 + 1, none⟩ = some (.string x.1.2) := hck 1 _ rfl
      have k2 : wr.cell? ⟨b, off + k * 9 + 2, none⟩ = some (.string x.1.2) := hck 2 _ rfl
      have k3 : wr.cell? ⟨b, off + k * 9 + 3, none⟩ = some (.int .i64 x.2.fn) := hck 3 _ rfl
      have k4 : wr.cell? ⟨b, off + k * 9 + 4, none⟩ = some (.slice x.2.aa x.2.args.length x.2.ac) := hck 4 _ rfl
      have k5 : wr.cell? ⟨b, off + k * 9 + 5, none⟩ = some (.int .i64 x.2.fuel) := hck 5 _ rfl
      have k6 : wr.cell? ⟨b, off + k * 9 + 6, none⟩ = some (.int .u8 x.2.st) := hck 6 _ rfl
      have k7 : wr.cell? ⟨b, off + k * 9 + 7, none⟩ = some (.int .i64 x.2.wk) := hck 7 _ rfl
      have k8 : wr.cell? ⟨b, off + k * 9 + 8, none⟩ = some (.int .u64 x.2.ep) := hck 8 _ rfl
      have j0 : wr.cell? ⟨b2, off2 + k * 9, none⟩ = some (.int .u64 y.1.1) := hck2 0 _ rfl
      have j1 : wr.cell? ⟨b2, off2 + k * 9 + 1, none⟩ = some (.string y.1.2) := hck2 1 _ rfl
      have j2 : wr.cell? ⟨b2, off2 + k * 9 + 2, none⟩ = some (.string y.1.2) := hck2 2 _ rfl
      have j3 : wr.cell? ⟨b2, off2 + k * 9 + 3, none⟩ = some (.int .i64 y.2.fn) := hck2 3 _ rfl
      have j4 : wr.cell? ⟨b2, off2 + k * 9 + 4, none⟩ = some (.slice y.2.aa y.2.args.length y.2.ac) := hck2 4 _ rfl
      have j5 : wr.cell? ⟨b2, off2 + k * 9 + 5, none⟩ = some (.int .i64 y.2.fuel) := hck2 5 _ rfl
      have j6 : wr.cell? ⟨b2, off2 + k * 9 + 6, none⟩ = some (.int .u8 y.2.st) := hck2 6 _ rfl
      have j7 : wr.cell? ⟨b2, off2 + k * 9 + 7, none⟩ = some (.int .i64 y.2.wk) := hck2 7 _ rfl
      have j8 : wr.cell? ⟨b2, off2 + k * 9 + 8, none⟩ = some (.int .u64 y.2.ep) := hck2 8 _ rfl
      clear hc hc2 hb hb2 he2 he3 he4 he5 hck hck2
      go_wp2_with fail
      go_still_tail 8, (by kernel_rfl)
      change wpList _ _ _ _ _ wr.drew
      go_wp2_with fail
      have hsame := same_any x y wr.drew ((HX.out.below HB.out).below ((Below.refl _ _).drew)) ((HY.out.below HB.out).below ((Below.refl _ _).drew)) hxl
      rw [(sameR_iff x y).2 HE.out] at hsame
      unfold encT at hsame
      refine hsame.mono ?_
      rintro e w2 ⟨rfl, hB⟩
      have HB2 := Lib.hid (HB.out.trans ((gdrew hB).mono HB.out.size))
      clear HB hB hsame k0 k1 k2 k3 k4 k5 k6 k7 k8 j0 j1 j2 j3 j4 j5 j6 j7 j8
      go_wp2_with fail
      go_roundg (gk - 1)
      case rel => exact ⟨k + 1, by omega, by go_num, HB2.out⟩
      case measure => omega
    · go_wp2_with fail
      go_ret
      exact ⟨rfl, HB.out⟩
end Go.Proofs.Ytpdnebimkfejoaa
