/- New; of: a root; to. -/
import Derived.Test.YtpdnebimkfejoaaLin1
namespace Go.Proofs.Ytpdnebimkfejoaa
open Go.RowKit Go.Sort Go.Lib

theorem zeroT (w : World) : (zeroValue 69).run Try.prog w = .ok (.pointer none) w := by kernel_rfl
def ptrT (T : Tb) (n : Nm) : Value := .pointer ((getL T n).map fun p => ⟨p.1, 0, none⟩)
theorem Tab.look_at {w x : World} {f m : Nat} {T : Tb} (h : Tab w f m T) (hx : x.heap[m]? = w.heap[m]?) (n : Nm) :
    (Instr.lookup 65 (.map (some m)) (.agg #[.int .u64 n.1, .string n.2]) false).run Try.prog x = .ok (ptrT T n) x := by
  have := (h.map.block hx).lookup nameTy Try.underlying65 (zeroT x) n
  rw [getL_mapT] at this
  rw [show (((getL T n).map (·.1)).map evP).getD (.pointer none) = ptrT T n by unfold ptrT; cases getL T n <;> rfl] at this
  exact this
theorem mapNilT (w : World) (r : Option Nat) : (binOp .eql 65 (.map r) (.map none)).run Try.prog w = .ok (.bool r.isNone) w :=
  run_eql_map_nil w _ _ _ r Try.underlying65
theorem Tab.at {w : World} {f m : Nat} {T : Tb} (h : Tab w f m T) {n : Nm} {b : Nat} {r : Rw} (hg : getL T n = some (b, r)) : w.heap[b]? = some (rowO n r) ∧ Args w r := h.row (n, b, r) (getL_mem' hg)
theorem row_cells {w : World} {b : Nat} {n : Nm} {r : Rw} (h : w.heap[b]? = some (rowO n r)) (o : Nat) : w.cell? ⟨b, o, none⟩ = #[Value.int .u64 n.1, .string n.2, .string n.2, .int .i64 r.fn, .slice r.aa r.args.length r.ac, .int .i64 r.fuel, .int .u8 r.st, .int .i64 r.wk, .int .u64 r.ep][o]? := by
  unfold rowO at h; simp [World.cell?, h]
theorem row_open {w : World} {b : Nat} {n : Nm} {r : Rw} (h : w.heap[b]? = some (rowO n r)) (o : Nat) : w.frozen? ⟨b, o, none⟩ = false := by
  unfold rowO at h; simp [World.frozen?, h]
theorem Tab.drewN {w : World} {f m : Nat} {T : Tb} (h : Tab w f m T) (q : Nat) : Tab (w.drewN q) f m T := h.below (below_drewN (Below.refl _ _) q)

def MadeT (w : World) (e : Ending) (w' : World) : Prop := ∃ f m, e = .returned (.pointer (some ⟨f, 0, none⟩)) ∧ w.heap.size ≤ f ∧ w.heap.size ≤ m ∧ Tab w' f m [] ∧ Below w.heap.size w w'
theorem tab_made (w : World) : Tab ((w.alloc (.map #[] 0)).alloc (.cells #[.map (some w.heap.size)] 67)) (w.heap.size + 1) w.heap.size [] := by
  refine ⟨?_, (MapL.made evP w).block (Below.heap_alloc _ _ _ (by simp)), (by intro p hp; cases hp), List.nodup_nil⟩
  have := heap_alloc_new (w.alloc (.map #[] 0)) (.cells #[.map (some w.heap.size)] 67)
  rw [show (w.alloc (.map #[] 0)).heap.size = w.heap.size + 1 by simp] at this
  exact this
set_option maxHeartbeats 800000 in
set_option maxRecDepth 100000 in
theorem new_tab (w : World) :
    Calls Try.prog 9 #[] w fun e w' => MadeT w e w' := by
  have hmm := @Go.RowKit.run_makeMap Try.prog
  have hL := Lib.hid (tab_made w)
  go_enter Try.func9, Try.ntmps9
  go_wp2_with fail
  go_ret
  exact ⟨w.heap.size + 1, w.heap.size, rfl, Nat.le_succ _, Nat.le_refl _, hL.out, ((Below.refl _ _).alloc (Nat.le_refl _) _).alloc (by simp) _⟩

def ofP (T : Tb) (n : Nm) : Value × Int := match getL T n with
  | none => (.pointer none, 5)
  | some (b, _) => (.pointer (some ⟨b, 0, none⟩), 0)
set_option maxHeartbeats 1600000 in
set_option maxRecDepth 100000 in
theorem of_tab (f m : Nat) (T : Tb) (n : Nm) (w : World) (h : Tab w f m T) :
    Calls Try.prog 49 #[.pointer (some ⟨f, 0, none⟩), .agg #[.int .u64 n.1, .string n.2]] w fun e w' => e = .returned (.tuple #[(ofP T n).1, .int .i64 (ofP T n).2]) ∧ Below w.heap.size w w' := by
  have hB1 : Below w.heap.size w (w.alloc (.cells #[.int .u64 n.1, .string n.2] 29)) := (Below.refl _ _).alloc (Nat.le_refl _) _
  have h1 := h.below hB1
  have hl := fun q => (h1.drewN q).look_at rfl n
  have c0 := h1.c0
  have hlt := h.lt
  have hmn := mapNilT
  have HH := Lib.hid h1
  have HB1 := Lib.hid hB1
  clear h h1 hB1
  unfold ptrT at hl
  cases hg : getL T n with
  | none =>
    rw [hg] at hl
    have ho := Lib.hid (show ofP T n = (.pointer none, 5) by unfold ofP; rw [hg])
    clear hg
    simp only [Option.map_none] at hl
    go_enter Try.func49, Try.ntmps49
    go_wp2_with fail
    go_quiet (fail)
    go_wp2_with fail
    go_ret2
    exact ⟨by rw [ho.out]; rfl, below_drewN HB1.out _⟩
  | some br =>
    obtain ⟨b, r⟩ := br
    rw [hg] at hl
    simp only [Option.map_some] at hl
    have ho := Lib.hid (show ofP T n = (.pointer (some ⟨b, 0, none⟩), 0) by unfold ofP; rw [hg])
    clear hg
    go_enter Try.func49, Try.ntmps49
    go_wp2_with fail
    go_quiet (fail)
    have HB2 := Lib.hid (below_drewN HB1.out nq)
    have HH2 := Lib.hid (HH.out.drewN nq)
    have hl2 := fun q => hl (nq + q)
    have c2 := HH2.out.c0
    go_wp2_with fail
    go_quiet (fail)
    go_wp2_with fail
    go_ret2
    exact ⟨by rw [ho.out]; rfl, below_drewN HB2.out _⟩
theorem rw_set {w : World} {b : Nat} {n : Nm} {r : Rw} (h : w.heap[b]? = some (rowO n r)) (s k : Int) (e : Int) : (((w.setCell ⟨b, 6, none⟩ (.int .u8 s)).setCell ⟨b, 7, none⟩ (.int .i64 k)).setCell ⟨b, 8, none⟩ (.int .u64 e)).heap[b]? = some (rowO n { r with st := s, wk := k, ep := e }) := by
  unfold rowO at h ⊢
  have h1 := Go.heap_setCell_same w b 6 _ _ (.int .u8 s) h
  have h2 := Go.heap_setCell_same _ b 7 _ _ (.int .i64 k) h1
  exact Go.heap_setCell_same _ b 8 _ _ (.int .u64 e) h2
set_option maxHeartbeats 800000 in
set_option maxRecDepth 100000 in
theorem to_any (b : Nat) (n : Nm) (r : Rw) (s k e : Int) (w : World) (h : w.heap[b]? = some (rowO n r)) :
    Calls Try.prog 50 #[.pointer (some ⟨b, 0, none⟩), .int .u8 s, .int .i64 k, .int .u64 e] w fun e' w' => e' = .returned (.tuple #[]) ∧ w'.heap[b]? = some (rowO n { r with st := s, wk := k, ep := e }) ∧ Fr (fun i => i = b) w w' := by
  have k6 : w.cell? ⟨b, 6, none⟩ = some (.int .u8 r.st) := row_cells h 6
  have k7 : w.cell? ⟨b, 7, none⟩ = some (.int .i64 r.wk) := row_cells h 7
  have k8 : w.cell? ⟨b, 8, none⟩ = some (.int .u64 r.ep) := row_cells h 8
  have z6 : w.frozen? ⟨b, 6, none⟩ = false := row_open h 6
  have z7 : w.frozen? ⟨b, 7, none⟩ = false := row_open h 7
  have z8 : w.frozen? ⟨b, 8, none⟩ = false := row_open h 8
  have H := Lib.hid (rw_set h s k e)
  have HF : Hid (Fr (fun i => i = b) w (((w.setCell ⟨b, 6, none⟩ (.int .u8 s)).setCell ⟨b, 7, none⟩ (.int .i64 k)).setCell ⟨b, 8, none⟩ (.int .u64 e))) := (((Fr.refl (fun i => i = b) w).setCell (S := fun i => i = b) (p := ⟨b, 6, none⟩) rfl _).setCell (S := fun i => i = b) (p := ⟨b, 7, none⟩) rfl _).setCell (S := fun i => i = b) (p := ⟨b, 8, none⟩) rfl _
  clear h
  go_enter Try.func50, Try.ntmps50
  go_wp2_with fail
  go_end0
  exact ⟨rfl, H.out, HF.out⟩
end Go.Proofs.Ytpdnebimkfejoaa
