/- The closures of Rows, Waits, Within, Lost: of which roots they are so. -/
import Derived.Test.YtpdnebimkfejoaaNmOrd
import Derived.Deep.QuietTactic
import Derived.StillTailTactics
namespace Go.Proofs.Ytpdnebimkfejoaa
open Go.RowKit Go.Sort Go.Lib

set_option maxHeartbeats 400000 in
theorem soAll (b : Nat) (w : World) :
    Calls Try.prog 43 #[.pointer (some ⟨b, 0, none⟩)] w fun e w' => e = .returned (.bool true) ∧ Below w.heap.size w w' := by
  go_enter Try.func43, Try.ntmps43
  go_wp2_with fail
  go_ret
  exact ⟨rfl, Below.refl _ _⟩
set_option maxHeartbeats 400000 in
theorem soWaits (b : Nat) (n : Nm) (r : Rw) (w : World) (h : w.heap[b]? = some (rowO n r)) :
    Calls Try.prog 45 #[.pointer (some ⟨b, 0, none⟩)] w fun e w' => e = .returned (.bool (decide (r.st = 1))) ∧ Below w.heap.size w w' := by
  have k6 : w.cell? ⟨b, 6, none⟩ = some (.int .u8 r.st) := row_cells h 6
  have hx : Hid ((r.st == 1) = decide (r.st = 1)) := rfl
  clear h
  go_enter Try.func45, Try.ntmps45
  go_wp2_with fail
  go_ret
  exact ⟨ret_boolE hx.out, Below.refl _ _⟩
def withinB (T : Tb) (n a : Nm) : Bool := decide (upN (hasT T) a = some n)
set_option maxRecDepth 100000 in
theorem eqlN (a b : Nm) (w : World) : (binOp .eql 29 (.agg #[.int .u64 a.1, .string a.2]) (.agg #[.int .u64 b.1, .string b.2])).run Try.prog w = .ok (.bool (decide (a = b))) w := by
  have hba := ba_beq_dec a.2 b.2
  go_simp
  by_cases h1 : a.1 = b.1
  · by_cases h2 : a.2 = b.2
    · have : a = b := Prod.ext h1 h2
      subst this
      simp
    · have h3 : ¬ a = b := fun e => h2 (by rw [e])
      have h4 : ¬ a.2.data = b.2.data := fun e => h2 (by cases ha : a.2; cases hb : b.2; rw [ha, hb] at e; exact congrArg _ e)
      simp [h1, h2, h3]
  · have h3 : ¬ a = b := fun e => h1 (by rw [e])
    simp [h1, h3]
def encU64 (x : Int) : List Value := [.int .u64 x]
set_option maxHeartbeats 800000 in
set_option maxRecDepth 100000 in
theorem containsI_any (l : List Int) (x : Int) (v : Value) (w : World) (h : ReadsK encI 1 w v l) (hl : l.length ≤ 1000000) :
    Calls Try.prog 52 #[v, .int .i64 x] w fun e w' => e = .returned (.bool (decide (x ∈ l))) ∧ w' = w := by
  have hidx : Calls Try.prog 63 #[v, .int .i64 x] w fun e w' => (∃ i : Int, e = .returned (.int .i64 i) ∧ (x ∈ l → 0 ≤ i) ∧ (x ∉ l → i = -1)) ∧ w' = w := by
    obtain ⟨a, c, rfl⟩ := h.slice
    have HR := Lib.hid h
    clear h
    go_enter Try.func63, Try.ntmps63
    go_wp2_with fail
    go_loopg [8] l.length (fun gk i wr => ∃ k : Nat, gk + k = l.length ∧ i = .int .i64 k ∧ wr = w ∧ ∀ j (hj : j < l.length), j < k → l[j] ≠ x)
    case atStart => exact ⟨0, by omega, rfl, rfl, fun j hj h0 => by omega⟩
    case round =>
      obtain ⟨k, hk, rfl, rfl, hno⟩ := hrel
      have HNO := Lib.hid hno
      clear hno
      by_cases hlt : k < l.length
      · obtain ⟨b, off, cc, he, hb, hc⟩ := HR.out.at (by omega)
        injection he with he1 he2 he3
        subst he1
        have hcc : wr.cell? ⟨b, off + k, none⟩ = some (.int .i64 l[k]) := by have h := hc k hlt 0 _ rfl; rw [Nat.mul_one, Nat.add_zero] at h; exact h
        clear hc hb he2 he3
        by_cases hx : x = l[k]
        · have hm : Hid (x ∈ l) := by rw [hx]; exact List.getElem_mem hlt
          have hb : (x == l[k]) = true := by simp [hx]
          clear hx
          generalize l[k] = y at hcc hb
          go_wp2_with fail
          go_ret
          exact ⟨⟨_, rfl, fun _ => by omega, fun h => absurd hm.out h⟩, rfl⟩
        · have HX := Lib.hid (show l[k] ≠ x from fun e => hx e.symm)
          have hb : (x == l[k]) = false := by simpa using hx
          clear hx
          generalize hy : l[k] = y at hcc hb
          have HY := Lib.hid hy
          clear hy
          go_wp2_with fail
          go_roundg (gk - 1)
          case rel => exact ⟨k + 1, by omega, by go_num, rfl, fun j hj h0 => by
            by_cases e : j = k
            · subst e; exact HX.out
            · exact HNO.out j hj (by omega)⟩
          case measure => omega
      · have hm : Hid (x ∉ l) := by
          show ¬ x ∈ l
          intro hx
          obtain ⟨j, hj, e⟩ := List.getElem_of_mem hx
          exact HNO.out j hj (by omega) e
        go_wp2_with fail
        go_ret
        exact ⟨⟨-1, rfl, fun h => absurd h hm.out, fun _ => rfl⟩, rfl⟩
  clear h
  go_enter Try.func52, Try.ntmps52
  go_wp2_with fail
  refine hidx.mono ?_
  rintro e w1 ⟨⟨i, rfl, h1, h2⟩, rfl⟩
  clear hidx
  by_cases hx : x ∈ l
  · have hi := h1 hx
    have HX := Lib.hid hx
    clear h1 h2 hx
    go_wp2_with fail
    go_ret
    exact ⟨ret_boolE (decide_eq_true HX.out).symm, rfl⟩
  · have hi := h2 hx
    have HX := Lib.hid hx
    clear h1 h2 hx
    subst hi
    go_wp2_with fail
    go_ret
    exact ⟨ret_boolE (decide_eq_false HX.out).symm, rfl⟩
set_option maxHeartbeats 800000 in
set_option maxRecDepth 100000 in
theorem containsU_any (l : List Int) (x : Int) (v : Value) (w : World) (h : ReadsK encU64 1 w v l) (hl : l.length ≤ 1000000) :
    Calls Try.prog 40 #[v, .int .u64 x] w fun e w' => e = .returned (.bool (decide (x ∈ l))) ∧ w' = w := by
  have hidx : Calls Try.prog 57 #[v, .int .u64 x] w fun e w' => (∃ i : Int, e = .returned (.int .i64 i) ∧ (x ∈ l → 0 ≤ i) ∧ (x ∉ l → i = -1)) ∧ w' = w := by
    obtain ⟨a, c, rfl⟩ := h.slice
    have HR := Lib.hid h
    clear h
    go_enter Try.func57, Try.ntmps57
    go_wp2_with fail
    go_loopg [8] l.length (fun gk i wr => ∃ k : Nat, gk + k = l.length ∧ i = .int .i64 k ∧ wr = w ∧ ∀ j (hj : j < l.length), j < k → l[j] ≠ x)
    case atStart => exact ⟨0, by omega, rfl, rfl, fun j hj h0 => by omega⟩
    case round =>
      obtain ⟨k, hk, rfl, rfl, hno⟩ := hrel
      have HNO := Lib.hid hno
      clear hno
      by_cases hlt : k < l.length
      · obtain ⟨b, off, cc, he, hb, hc⟩ := HR.out.at (by omega)
        injection he with he1 he2 he3
        subst he1
        have hcc : wr.cell? ⟨b, off + k, none⟩ = some (.int .u64 l[k]) := by have h := hc k hlt 0 _ rfl; rw [Nat.mul_one, Nat.add_zero] at h; exact h
        clear hc hb he2 he3
        by_cases hx : x = l[k]
        · have hm : Hid (x ∈ l) := by rw [hx]; exact List.getElem_mem hlt
          have hb : (x == l[k]) = true := by simp [hx]
          clear hx
          generalize l[k] = y at hcc hb
          go_wp2_with fail
          go_ret
          exact ⟨⟨_, rfl, fun _ => by omega, fun h => absurd hm.out h⟩, rfl⟩
        · have HX := Lib.hid (show l[k] ≠ x from fun e => hx e.symm)
          have hb : (x == l[k]) = false := by simpa using hx
          clear hx
          generalize hy : l[k] = y at hcc hb
          have HY := Lib.hid hy
          clear hy
          go_wp2_with fail
          go_roundg (gk - 1)
          case rel => exact ⟨k + 1, by omega, by go_num, rfl, fun j hj h0 => by
            by_cases e : j = k
            · subst e; exact HX.out
            · exact HNO.out j hj (by omega)⟩
          case measure => omega
      · have hm : Hid (x ∉ l) := by
          show ¬ x ∈ l
          intro hx
          obtain ⟨j, hj, e⟩ := List.getElem_of_mem hx
          exact HNO.out j hj (by omega) e
        go_wp2_with fail
        go_ret
        exact ⟨⟨-1, rfl, fun h => absurd h hm.out, fun _ => rfl⟩, rfl⟩
  clear h
  go_enter Try.func40, Try.ntmps40
  go_wp2_with fail
  refine hidx.mono ?_
  rintro e w1 ⟨⟨i, rfl, h1, h2⟩, rfl⟩
  clear hidx
  by_cases hx : x ∈ l
  · have hi := h1 hx
    have HX := Lib.hid hx
    clear h1 h2 hx
    go_wp2_with fail
    go_ret
    exact ⟨ret_boolE (decide_eq_true HX.out).symm, rfl⟩
  · have hi := h2 hx
    have HX := Lib.hid hx
    clear h1 h2 hx
    subst hi
    go_wp2_with fail
    go_ret
    exact ⟨ret_boolE (decide_eq_false HX.out).symm, rfl⟩
def lostB (ks : List Int) (r : Rw) : Bool := decide (r.st = 2) && decide (r.wk ∈ ks)
set_option maxHeartbeats 800000 in
set_option maxRecDepth 100000 in
theorem soLost (b : Nat) (n : Nm) (r : Rw) (kb : Nat) (v : Value) (ks : List Int) (w : World) (h : w.heap[b]? = some (rowO n r)) (hk : w.cell? ⟨kb, 0, none⟩ = some v) (hv : ReadsK encI 1 w v ks) (hl : ks.length ≤ 1000000) :
    Calls Try.prog 51 #[.pointer (some ⟨b, 0, none⟩), .pointer (some ⟨kb, 0, none⟩)] w fun e w' => e = .returned (.bool (lostB ks r)) ∧ Below w.heap.size w w' := by
  have k6 : w.cell? ⟨b, 6, none⟩ = some (.int .u8 r.st) := row_cells h 6
  have k7 : w.cell? ⟨b, 7, none⟩ = some (.int .i64 r.wk) := row_cells h 7
  have HV := Lib.hid hv
  obtain ⟨va, vc, rfl⟩ := hv.slice
  clear h hv
  by_cases h2 : r.st = 2
  · have hb : (r.st == 2) = true := by simp [h2]
    have hx := Lib.hid (show decide (r.wk ∈ ks) = lostB ks r by unfold lostB; rw [decide_eq_true h2]; rfl)
    clear h2
    go_enter Try.func51, Try.ntmps51
    go_wp2_with fail
    go_still_tail 13, (by kernel_rfl)
    change wpList _ _ _ _ _ w.drew
    go_wp2_with fail
    refine (containsI_any ks r.wk _ _ (HV.out.below ((Below.refl _ _).drew)) hl).mono ?_
    rintro e w2 ⟨rfl, rfl⟩
    go_wp2_with fail
    go_ret
    exact ⟨ret_boolE hx.out, (Below.refl _ _).drew⟩
  · have hb : (r.st == 2) = false := by simpa using h2
    have hx := Lib.hid (show lostB ks r = false by unfold lostB; rw [decide_eq_false h2]; rfl)
    clear h2
    go_enter Try.func51, Try.ntmps51
    go_wp2_with fail
    go_quiet (fail)
    go_wp2_with fail
    go_ret
    exact ⟨ret_boolE hx.out.symm, below_drewN (Below.refl _ _) _⟩
set_option maxHeartbeats 800000 in
set_option maxRecDepth 100000 in
theorem soWithin (f m : Nat) (T : Tb) (n a : Nm) (b tb nb : Nat) (r : Rw) (w : World) (h : Tab w f m T) (hr : w.heap[b]? = some (rowO a r)) (h1 : w.cell? ⟨tb, 0, none⟩ = some (.pointer (some ⟨f, 0, none⟩))) (h2 : w.cell? ⟨nb, 0, none⟩ = some (.int .u64 n.1)) (h3 : w.cell? ⟨nb, 1, none⟩ = some (.string n.2)) (ha : a.2.size ≤ 9223372036854775807) :
    Calls Try.prog 48 #[.pointer (some ⟨b, 0, none⟩), .pointer (some ⟨tb, 0, none⟩), .pointer (some ⟨nb, 0, none⟩)] w fun e w' => e = .returned (.bool (withinB T n a)) ∧ Below w.heap.size w w' := by
  have k0 : w.cell? ⟨b, 0, none⟩ = some (.int .u64 a.1) := row_cells hr 0
  have k1 : w.cell? ⟨b, 1, none⟩ = some (.string a.2) := row_cells hr 1
  have HH := Lib.hid (h.below ((Below.refl _ _).drew))
  have H2 := Lib.hid h2
  have H3 := Lib.hid h3
  clear h hr h2 h3
  go_enter Try.func48, Try.ntmps48
  go_wp2_with fail
  go_still_tail 6, (by kernel_rfl)
  change wpList _ _ _ _ _ w.drew
  go_wp2_with fail
  refine (above_tab f m T a w.drew HH.out ha).mono ?_
  rintro e w2 ⟨rfl, hB⟩
  have HH2 := Lib.hid (HH.out.below hB)
  have HB2 := Lib.hid (gdrew hB)
  have j2 := cell_keep HB2.out H2.out
  have j3 := cell_keep HB2.out H3.out
  clear hB HH H2 H3 k0 k1 h1
  rcases aboveP_cases T a with ⟨hu, ho⟩ | ⟨u, ub, ur, hu, hg, ho⟩
  · have hx := Lib.hid (show withinB T n a = false by unfold withinB; rw [hu]; rfl)
    rw [ho]
    clear ho hu
    go_wp2_with fail
    go_quiet (fail)
    go_wp2_with fail
    go_ret
    exact ⟨ret_boolE hx.out.symm, below_drewN HB2.out _⟩
  · have hrow := HH2.out.at hg
    have k0 : w2.cell? ⟨ub, 0, none⟩ = some (.int .u64 u.1) := row_cells hrow.1 0
    have k1 : w2.cell? ⟨ub, 1, none⟩ = some (.string u.2) := row_cells hrow.1 1
    have hx := Lib.hid (show withinB T n a = decide (u = n) by unfold withinB; rw [hu]; simp)
    have he := fun w => eqlN u n w
    generalize decide (u = n) = bb at *
    rw [ho]
    clear ho hu hrow hg
    cases bb
    · go_wp2_with fail
      go_quiet (fail)
      go_wp2_with fail
      go_ret
      exact ⟨ret_boolE hx.out.symm, below_drewN HB2.out _⟩
    · go_wp2_with fail
      go_quiet (fail)
      go_wp2_with fail
      go_ret
      exact ⟨ret_boolE hx.out.symm, below_drewN HB2.out _⟩
end Go.Proofs.Ytpdnebimkfejoaa
