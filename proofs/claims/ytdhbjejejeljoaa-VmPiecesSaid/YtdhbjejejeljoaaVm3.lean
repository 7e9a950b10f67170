/- Contract: vm.Frame.calc. -/
import Derived.Test.YtdhbjejejeljoaaVm2
namespace Go.Proofs.Ytdhbjejejeljoaa
open Go.RowKit Go.Sort Go.Lib

def calcV (c : Option Int) : Value := .tuple #[.int .i64 (c.getD 0), .bool c.isSome]
theorem calcV_some {c : Option Int} {v : Int} (h : c = some v) : Ending.returned (.tuple #[.int .i64 v, .bool true]) = .returned (calcV c) := by subst h; rfl
theorem calcV_none {c : Option Int} (h : c = none) : Ending.returned (.tuple #[.int .i64 0, .bool false]) = .returned (calcV c) := by subst h; rfl
set_option maxHeartbeats 6400000 in
set_option maxRecDepth 100000 in
theorem vcalc_any {x r : Nat} {pv : Value} {t : Tk} {av kv wv rv : Value} {s : Vs} {w : World} {p : List Fnc} {o : Opr} (h : Vm x r pv t av kv wv rv s w) (hrl : (s.regs.length : Int) = (fnAt p t.fn).regs) (ho : OpOk p (fnAt p t.fn) o) (h1 : 2 ≤ o.k) (h2 : o.k ≤ 9) :
    Calls Try.prog 49 #[.pointer (some ⟨x, 0, none⟩), .agg #[.int .u8 o.k, .int .i64 o.d, .int .i64 o.a, .int .i64 o.b, .int .i64 o.n]] w fun e w' => e = .returned (calcV (calcP o.k (rg s.regs o.a) (rg s.regs o.b))) ∧ Below w.heap.size w w' := by
  have hA := alV w (.cells (opC o) OpT)
  have hb := heap_alloc_new w (.cells (opC o) OpT)
  have HA := Lib.hid hA
  obtain ⟨x0, x1, x2, x5, x6, x7, x8, x9, x10, x11⟩ := vm_cells (h.below hA)
  obtain ⟨k0, k1, k2, k3, k4⟩ := op_cells (show BoxAt _ _ _ _ from hb)
  have hregs := (h.below hA).regs
  have ha0 := ho.a0
  have har := ho.a (.inl ⟨h1, h2⟩)
  obtain ⟨qa, hqa⟩ : ∃ q : Nat, o.a = q := ⟨o.a.toNat, by omega⟩
  have ha1 : qa < s.regs.length := by omega
  have ha2 : (qa : Int) < s.regs.length := by omega
  have ha3 : (0 : Int) ≤ qa := by omega
  have hga : rg s.regs o.a = s.regs[qa] := by
    unfold rg
    rw [hqa, List.getD_eq_getElem?_getD, Int.toNat_natCast, List.getElem?_eq_getElem ha1]; rfl
  have g0 := regs_cell hregs (q := qa) ha1
  rw [hqa] at k2
  rw [hga]
  have hbq : ∃ (qb : Nat) (hqb : qb < s.regs.length), o.k ≠ 2 → o.b = qb ∧ rg s.regs o.b = s.regs[qb] := by
    by_cases hk : o.k = 2
    · exact ⟨qa, ha1, fun h => absurd hk h⟩
    · have hbr := ho.b ⟨by omega, h2⟩
      have hb0 := ho.b0
      have hqb : o.b.toNat < s.regs.length := by omega
      refine ⟨o.b.toNat, hqb, fun _ => ⟨by omega, ?_⟩⟩
      unfold rg
      rw [List.getD_eq_getElem?_getD, List.getElem?_eq_getElem hqb]; rfl
  obtain ⟨qb, hb1, hqb⟩ := hbq
  have g1 := regs_cell hregs (q := qb) hb1
  have hb2 : (qb : Int) < s.regs.length := by omega
  have hb3 : (0 : Int) ≤ qb := by omega
  generalize s.regs[qa] = a at *
  obtain ⟨b, hbb⟩ : ∃ b, s.regs[qb] = b := ⟨_, rfl⟩
  rw [hbb] at g1 hqb
  generalize rg s.regs o.b = b' at *
  clear h hA hb hregs har hqa hga hbb ho x0 x1 x2 x6 x7 x8 x9 x10 x11 k1 k4 hrl ha0
  go_enter Try.func49, Try.ntmps49
  go_upto_region 1 with fail
  simp only [opC] at HA k0 k2 k3 x5 g0 g1
  generalize w.alloc (.cells #[.int .u8 o.k, .int .i64 o.d, .int .i64 o.a, .int .i64 o.b, .int .i64 o.n] OpT) = w1 at *
  have HB := Lib.hid (show ∀ y z, Below w.heap.size w ((w1.drewN y).drewN z) from fun y z => below_drewN (below_drewN HA.out y) z)
  have HB1 := Lib.hid (show ∀ y, Below w.heap.size w (w1.drewN y) from fun y => below_drewN HA.out y)
  clear HA
  generalize w.heap.size = ob at k0 k2 k3 ⊢
  go_upto_region 2 with fail
  go_quiet (fail)
  have hkk : o.k = 2 ∨ o.k = 3 ∨ o.k = 4 ∨ o.k = 5 ∨ o.k = 6 ∨ o.k = 7 ∨ o.k = 8 ∨ o.k = 9 := by omega
  obtain ⟨k, hk⟩ : ∃ k, o.k = k := ⟨_, rfl⟩
  rw [hk] at k0 hqb hkk
  have HK := Lib.hid hk
  clear hk h1 h2
  rcases hkk with rfl | rfl | rfl | rfl | rfl | rfl | rfl | rfl
  · go_wp2_with fail
    go_ret2
    exact ⟨calcV_some (by rw [HK.out]; rfl), HB1.out _⟩
  · obtain ⟨e1, rfl⟩ := hqb (by decide)
    rw [e1] at k3
    clear e1 hqb
    go_upto_region 5 with fail
    go_quiet (fail)
    go_wp2_with fail
    go_ret2
    exact ⟨calcV_some (by rw [HK.out]; rfl), by first | exact HB.out _ _ | exact HB1.out _⟩
  · obtain ⟨e1, rfl⟩ := hqb (by decide)
    rw [e1] at k3
    clear e1 hqb
    go_upto_region 5 with fail
    go_quiet (fail)
    go_wp2_with fail
    go_ret2
    exact ⟨calcV_some (by rw [HK.out]; rfl), by first | exact HB.out _ _ | exact HB1.out _⟩
  · obtain ⟨e1, rfl⟩ := hqb (by decide)
    rw [e1] at k3
    clear e1 hqb
    go_upto_region 5 with fail
    go_quiet (fail)
    go_wp2_with fail
    go_ret2
    exact ⟨calcV_some (by rw [HK.out]; rfl), by first | exact HB.out _ _ | exact HB1.out _⟩
  · obtain ⟨e1, rfl⟩ := hqb (by decide)
    rw [e1] at k3
    clear e1 hqb
    go_upto_region 5 with fail
    go_quiet (fail)
    by_cases hz : b' = 0
    · have hz1 : (b' == 0) = true := by simp [hz]
      have HC := Lib.hid (show calcP 6 a b' = none by unfold calcP; simp [hz])
      clear hz
      go_wp2_with fail
      go_ret2
      exact ⟨calcV_none (by rw [HK.out]; exact HC.out), by first | exact HB.out _ _ | exact HB1.out _⟩
    · have hz1 : (b' == 0) = false := by simpa using hz
      have HC := Lib.hid (show calcP 6 a b' = some (wrap64 (a.tdiv b')) by unfold calcP; simp [hz])
      go_wp2_with fail
      go_ret2
      exact ⟨calcV_some (by rw [HK.out]; exact HC.out), by first | exact HB.out _ _ | exact HB1.out _⟩
  · obtain ⟨e1, rfl⟩ := hqb (by decide)
    rw [e1] at k3
    clear e1 hqb
    go_upto_region 5 with fail
    go_quiet (fail)
    by_cases hz : b' = 0
    · have hz1 : (b' == 0) = true := by simp [hz]
      have HC := Lib.hid (show calcP 7 a b' = none by unfold calcP; simp [hz])
      clear hz
      go_wp2_with fail
      go_ret2
      exact ⟨calcV_none (by rw [HK.out]; exact HC.out), by first | exact HB.out _ _ | exact HB1.out _⟩
    · have hz1 : (b' == 0) = false := by simpa using hz
      have HC := Lib.hid (show calcP 7 a b' = some (a.tmod b') by unfold calcP; simp [hz])
      go_wp2_with fail
      go_ret2
      exact ⟨calcV_some (by rw [HK.out]; exact HC.out), by first | exact HB.out _ _ | exact HB1.out _⟩
  · obtain ⟨e1, rfl⟩ := hqb (by decide)
    rw [e1] at k3
    clear e1 hqb
    go_upto_region 5 with fail
    go_quiet (fail)
    by_cases hz : a < b'
    · have hz1 : (decide (a < b')) = true := by simpa using hz
      have HC := Lib.hid (show calcP 8 a b' = some 1 by unfold calcP; simp [hz])
      clear hz
      go_wp2_with fail
      refine (vtruth_any _ _).mono ?_
      rintro e w3 ⟨rfl, rfl⟩
      go_wp2_with fail
      go_ret2
      exact ⟨calcV_some (by rw [HK.out]; exact HC.out), by first | exact HB.out _ _ | exact HB1.out _⟩
    · have hz1 : (decide (a < b')) = false := by simpa using hz
      have HC := Lib.hid (show calcP 8 a b' = some 0 by unfold calcP; simp [hz])
      clear hz
      go_wp2_with fail
      refine (vtruth_any _ _).mono ?_
      rintro e w3 ⟨rfl, rfl⟩
      go_wp2_with fail
      go_ret2
      exact ⟨calcV_some (by rw [HK.out]; exact HC.out), by first | exact HB.out _ _ | exact HB1.out _⟩
  · obtain ⟨e1, rfl⟩ := hqb (by decide)
    rw [e1] at k3
    clear e1 hqb
    go_upto_region 5 with fail
    go_quiet (fail)
    by_cases hz : a = b'
    · have hz1 : (a == b') = true := by simpa using hz
      have HC := Lib.hid (show calcP 9 a b' = some 1 by unfold calcP; simp [hz])
      clear hz
      go_wp2_with fail
      refine (vtruth_any _ _).mono ?_
      rintro e w3 ⟨rfl, rfl⟩
      go_wp2_with fail
      go_ret2
      exact ⟨calcV_some (by rw [HK.out]; exact HC.out), by first | exact HB.out _ _ | exact HB1.out _⟩
    · have hz1 : (a == b') = false := by simpa using hz
      have HC := Lib.hid (show calcP 9 a b' = some 0 by unfold calcP; simp [hz])
      clear hz
      go_wp2_with fail
      refine (vtruth_any _ _).mono ?_
      rintro e w3 ⟨rfl, rfl⟩
      go_wp2_with fail
      go_ret2
      exact ⟨calcV_some (by rw [HK.out]; exact HC.out), by first | exact HB.out _ _ | exact HB1.out _⟩
end Go.Proofs.Ytdhbjejejeljoaa
