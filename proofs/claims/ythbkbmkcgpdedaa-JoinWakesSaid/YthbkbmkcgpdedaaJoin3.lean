/- of: a row in one of some states; add. -/
import Derived.Test.YthbkbmkcgpdedaaJoin2
namespace Go.Proofs.Ythbkbmkcgpdedaa
open Go.RowKit Go.Sort Go.Lib

theorem nameTyT : NameTy Try.prog 35 := nameTy
theorem zeroT (w : World) : (zeroValue 79).run Try.prog w = .ok (.pointer none) w := by kernel_rfl
def ptrT (T : Tb) (n : Nm) : Value := .pointer ((getL T n).map fun p => ⟨p.1, 0, none⟩)
theorem Tab.look_at {w x : World} {f m : Nat} {most : Int} {T : Tb} (h : Tab w f m most T) (hx : x.heap[m]? = w.heap[m]?) (n : Nm) :
    (Instr.lookup 74 (.map (some m)) (.agg #[.int .u64 n.1, .string n.2]) false).run Try.prog x = .ok (ptrT T n) x := by
  have := (h.map.block hx).lookup nameTy Try.underlying74 (zeroT x) n
  rw [getL_mapT] at this
  rw [show (((getL T n).map (·.1)).map evP).getD (.pointer none) = ptrT T n by unfold ptrT; cases getL T n <;> rfl] at this
  exact this
theorem mapNilT (w : World) (r : Option Nat) : (binOp .eql 74 (.map r) (.map none)).run Try.prog w = .ok (.bool r.isNone) w :=
  run_eql_map_nil w _ _ _ r Try.underlying74
theorem Tab.at {w : World} {f m : Nat} {most : Int} {T : Tb} (h : Tab w f m most T) {n : Nm} {b : Nat} {r : Rw} (hg : getL T n = some (b, r)) : w.heap[b]? = some (rowO n r) ∧ Args w r := h.row (n, b, r) (getL_mem' hg)
theorem row_cells {w : World} {b : Nat} {n : Nm} {r : Rw} (h : w.heap[b]? = some (rowO n r)) (o : Nat) : w.cell? ⟨b, o, none⟩ = #[Value.int .u64 n.1, .string n.2, .string n.2, .int .i64 r.fn, .slice r.aa r.args.length r.ac, .int .i64 r.fuel, .int .u8 r.st, .int .i64 r.op, .int .i64 r.val, .int .i64 r.err, .bool r.fk][o]? := by
  unfold rowO at h; simp [World.cell?, h]
theorem row_open {w : World} {b : Nat} {n : Nm} {r : Rw} (h : w.heap[b]? = some (rowO n r)) (o : Nat) : w.frozen? ⟨b, o, none⟩ = false := by
  unfold rowO at h; simp [World.frozen?, h]

set_option maxHeartbeats 800000 in
set_option maxRecDepth 100000 in
theorem contains_any (l : List Int) (x : Int) (v : Value) (w : World) (h : ReadsK (fun x => [.int .u8 x]) 1 w v l) (hl : l.length ≤ 1000000) :
    Calls Try.prog 57 #[v, .int .u8 x] w fun e w' => e = .returned (.bool (decide (x ∈ l))) ∧ w' = w := by
  have hidx : Calls Try.prog 67 #[v, .int .u8 x] w fun e w' => (∃ i : Int, e = .returned (.int .i64 i) ∧ (x ∈ l → 0 ≤ i) ∧ (x ∉ l → i = -1)) ∧ w' = w := by
    obtain ⟨a, c, rfl⟩ := h.slice
    have HR := Lib.hid h
    clear h
    go_enter Try.func67, Try.ntmps67
    go_wp2_with fail
    go_loopg [8] l.length (fun gk i wr => ∃ k : Nat, gk + k = l.length ∧ i = .int .i64 k ∧ wr = w ∧ ∀ j (hj : j < l.length), j < k → l[j] ≠ x)
    case atStart => exact ⟨0, by omega, rfl, rfl, fun j hj h0 => by omega⟩
    case round =>
      obtain ⟨k, hk, rfl, rfl, hno⟩ := hrel
      have HNO := Lib.hid hno
      clear hno
      by_cases hlt : k < l.length
      · obtain ⟨b, off, cc, he, hb, hc⟩ := HR.out.at (by omega)
        injection he with he1 he2 he3
        subst he1
        have hcc : wr.cell? ⟨b, off + k, none⟩ = some (.int .u8 l[k]) := by have h := hc k hlt 0 _ rfl; rw [Nat.mul_one, Nat.add_zero] at h; exact h
        clear hc hb he2 he3
        by_cases hx : x = l[k]
        · have hm : Hid (x ∈ l) := by rw [hx]; exact List.getElem_mem hlt
          have hb : (x == l[k]) = true := by simp [hx]
          clear hx
          generalize l[k] = y at hcc hb
          go_wp2_with fail
          go_ret
          exact ⟨⟨_, rfl, fun _ => by omega, fun h => absurd hm.out h⟩, rfl⟩
        · have HX := Lib.hid (show l[k] ≠ x from fun e => hx e.symm)
          have hb : (x == l[k]) = false := by simpa using hx
          clear hx
          generalize hy : l[k] = y at hcc hb
          have HY := Lib.hid hy
          clear hy
          go_wp2_with fail
          go_roundg (gk - 1)
          case rel => exact ⟨k + 1, by omega, by go_num, rfl, fun j hj h0 => by
            by_cases e : j = k
            · subst e; exact HX.out
            · exact HNO.out j hj (by omega)⟩
          case measure => omega
      · have hm : Hid (x ∉ l) := by
          show ¬ x ∈ l
          intro hx
          obtain ⟨j, hj, e⟩ := List.getElem_of_mem hx
          exact HNO.out j hj (by omega) e
        go_wp2_with fail
        go_ret
        exact ⟨⟨-1, rfl, fun h => absurd h hm.out, fun _ => rfl⟩, rfl⟩
  clear h
  go_enter Try.func57, Try.ntmps57
  go_wp2_with fail
  refine hidx.mono ?_
  rintro e w1 ⟨⟨i, rfl, h1, h2⟩, rfl⟩
  clear hidx
  by_cases hx : x ∈ l
  · have hi := h1 hx
    have HX := Lib.hid hx
    clear h1 h2 hx
    go_wp2_with fail
    go_ret
    exact ⟨ret_boolE (decide_eq_true HX.out).symm, rfl⟩
  · have hi := h2 hx
    have HX := Lib.hid hx
    clear h1 h2 hx
    subst hi
    go_wp2_with fail
    go_ret
    exact ⟨ret_boolE (decide_eq_false HX.out).symm, rfl⟩

def ofV (T : Tb) (n : Nm) (L : List Int) : Value × Int := match getL T n with
  | none => (.pointer none, 5)
  | some (b, r) => if r.st ∈ L then (.pointer (some ⟨b, 0, none⟩), 0) else (.pointer none, 3)
theorem Tab.drewN {w : World} {f m : Nat} {most : Int} {T : Tb} (h : Tab w f m most T) (q : Nat) : Tab (w.drewN q) f m most T := h.below (below_drewN (Below.refl _ _) q)
set_option maxHeartbeats 1600000 in
set_option maxRecDepth 100000 in
theorem of_tab (f m : Nat) (most : Int) (T : Tb) (n : Nm) (L : List Int) (v : Value) (w : World) (h : Tab w f m most T) (hv : ReadsK (fun x => [.int .u8 x]) 1 w v L) (hL : L.length ≤ 1000000) :
    Calls Try.prog 40 #[.pointer (some ⟨f, 0, none⟩), .agg #[.int .u64 n.1, .string n.2], v] w fun e w' => e = .returned (.tuple #[(ofV T n L).1, .int .i64 (ofV T n L).2]) ∧ Below w.heap.size w w' := by
  have hB1 : Below w.heap.size w (w.alloc (.cells #[.int .u64 n.1, .string n.2] 35)) := (Below.refl _ _).alloc (Nat.le_refl _) _
  have h1 := h.below hB1
  have hl := fun q => (h1.drewN q).look_at rfl n
  have c1 := h1.c1
  have hlt := h.lt
  have hmn := mapNilT
  have HH := Lib.hid h1
  have HV := Lib.hid (hv.below hB1)
  obtain ⟨va, vc, rfl⟩ := hv.slice
  have HB1 := Lib.hid hB1
  clear h h1 hv hB1
  unfold ptrT at hl
  cases hg : getL T n with
  | none =>
    rw [hg] at hl
    have ho := Lib.hid (show ofV T n L = (.pointer none, 5) by unfold ofV; rw [hg])
    clear hg
    simp only [Option.map_none] at hl
    go_enter Try.func40, Try.ntmps40
    go_wp2_with fail
    go_quiet (fail)
    go_wp2_with fail
    go_ret2
    exact ⟨by rw [ho.out]; rfl, below_drewN HB1.out _⟩
  | some br =>
    obtain ⟨b, r⟩ := br
    rw [hg] at hl
    simp only [Option.map_some] at hl
    have hrow := (HH.out.at hg).1
    have hblt := (Array.getElem?_eq_some_iff.1 hrow).1
    have HROW := Lib.hid hrow
    have hst : Hid (ofV T n L = if r.st ∈ L then (.pointer (some ⟨b, 0, none⟩), 0) else (.pointer none, 3)) := by show _ = _; unfold ofV; rw [hg]
    clear hg hrow
    go_enter Try.func40, Try.ntmps40
    go_wp2_with fail
    go_quiet (fail)
    have HB2 := Lib.hid (below_drewN HB1.out nq)
    have HV2 := Lib.hid (HV.out.below (below_drewN (Below.refl _ _) nq))
    have k6 : ((w.alloc (.cells #[.int .u64 n.1, .string n.2] 35)).drewN nq).cell? ⟨b, 6, none⟩ = some (.int .u8 r.st) := row_cells HROW.out 6
    generalize (w.alloc (.cells #[.int .u64 n.1, .string n.2] 35)).drewN nq = wq at *
    clear hl c1 HH HV HB1 HROW hblt
    go_wp2_with fail
    refine (contains_any L r.st _ wq HV2.out hL).mono ?_
    rintro e w2 ⟨rfl, rfl⟩
    by_cases hs : r.st ∈ L
    · have ho := Lib.hid (hst.out.trans (if_pos hs))
      rw [decide_eq_true hs]
      clear hs hst
      go_wp2_with fail
      go_ret2
      exact ⟨by rw [ho.out]; rfl, HB2.out⟩
    · have ho := Lib.hid (hst.out.trans (if_neg hs))
      rw [decide_eq_false hs]
      clear hs hst
      go_wp2_with fail
      go_ret2
      exact ⟨by rw [ho.out]; rfl, HB2.out⟩
end Go.Proofs.Ythbkbmkcgpdedaa
