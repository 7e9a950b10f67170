/- Rounds: what their struct holds; New, of. -/
import Derived.Test.YtenebamecmblaaaCred10
import Derived.Test.YtenebamecmblaaaMapLawU
import Derived.Test.YtenebamecmblaaaMapLaw
import Derived.Test.YtenebamecmblaaaIter
import Derived.Test.YtenebamecmblaaaBranch3
namespace Go.Proofs.Ytenebamecmblaaa
open Go.RowKit Go.Sort Go.Lib

structure Cr where
  a : Option Addr
  c : Nat
  l : List Int
def evC (x : Cr) : Value := .slice x.a x.l.length x.c
def CrOk (w : World) (x : Cr) : Prop := COwn w 0 (evC x) x.l
def evP (b : Nat) : Value := .pointer (some ⟨b, 0, none⟩)
/-- A job's round: its block, its map's, what is held, what is out. -/
structure On where
  b : Nat
  o : Nat
  held : Cr
  out : List (Nm × Cr)
abbrev Rd := List (Int × On)
def mapR (L : Rd) : List (Int × Nat) := L.map fun p => (p.1, p.2.b)
def onO (x : On) : Obj := .cells #[evC x.held, .map (some x.o)] 65 (0, 0)
structure OnOk (w : World) (x : On) : Prop where
  box : w.heap[x.b]? = some (onO x)
  map : MapL evC w x.o x.out
  held : CrOk w x.held
  out : ∀ p ∈ x.out, CrOk w p.2
  outn : ∀ p ∈ x.out, p.2.a ≠ none
structure Rds (w : World) (r m : Nat) (L : Rd) : Prop where
  box : w.heap[r]? = some (.cells #[.map (some m)] 62 (0, 0))
  map : U.MapL evP w m (mapR L)
  one : ∀ p ∈ L, OnOk w p.2
  ndb : (L.map (·.2.b)).Nodup
  ndo : (L.map (·.2.o)).Nodup
  mo : ∀ p ∈ L, p.2.o ≠ m
def IntB (w : World) (i : Nat) : Prop := ∃ cur, w.heap[i]? = some (Obj.cells cur 3 (0, 0))
section
variable {w w' : World} {r m : Nat} {L : Rd} {x : On}
theorem CrOk.keep {y : Cr} (h : CrOk w y) (hb : ∀ i, IntB w i → w'.heap[i]? = w.heap[i]?) : CrOk w' y := by
  obtain ⟨h0, h1 | ⟨g, cap, cur, hv, h1, h2, h3⟩⟩ := h
  · exact ⟨h0, .inl h1⟩
  · exact ⟨h0, .inr ⟨g, cap, cur, hv, h1, (hb g ⟨cur, h2⟩).trans h2, h3⟩⟩
theorem OnOk.keep (h : OnOk w x) (hb : ∀ i, i = x.b ∨ i = x.o ∨ IntB w i → w'.heap[i]? = w.heap[i]?) : OnOk w' x :=
  ⟨(hb _ (.inl rfl)).trans h.box, h.map.block (hb _ (.inr (.inl rfl))), h.held.keep fun i hi => hb i (.inr (.inr hi)), fun p hp => (h.out p hp).keep fun i hi => hb i (.inr (.inr hi)), h.outn⟩
theorem OnOk.lt (h : OnOk w x) : x.b < w.heap.size ∧ x.o < w.heap.size := ⟨(Array.getElem?_eq_some_iff.1 h.box).1, h.map.lt⟩
theorem IntB.lt {i : Nat} (h : IntB w i) : i < w.heap.size := by obtain ⟨_, h⟩ := h; exact (Array.getElem?_eq_some_iff.1 h).1
theorem Rds.lt (h : Rds w r m L) : r < w.heap.size ∧ m < w.heap.size := ⟨(Array.getElem?_eq_some_iff.1 h.box).1, h.map.lt⟩
theorem Rds.below (h : Rds w r m L) (hB : Below w.heap.size w w') : Rds w' r m L :=
  ⟨(hB.block _ h.lt.1).trans h.box, h.map.block (hB.block _ h.lt.2), fun p hp => (h.one p hp).keep fun i hi => hB.block i (by
    rcases hi with rfl | rfl | hi
    · exact (h.one p hp).lt.1
    · exact (h.one p hp).lt.2
    · exact hi.lt), h.ndb, h.ndo, h.mo⟩
/-- Blocks of cells are no maps. -/
theorem MapL.no_cells {V : Type} {ev : V → Value} {b : Nat} {l : List (Nm × V)} (h : MapL ev w b l) {c : Array Value} {E : TypeId} {f : Nat × Nat} : w.heap[b]? ≠ some (Obj.cells c E f) := by
  intro e
  obtain ⟨es, c', hb, _⟩ := h
  rw [e] at hb; cases hb
theorem U.MapL.no_cells {V : Type} {ev : V → Value} {b : Nat} {l : List (Int × V)} (h : U.MapL ev w b l) {c : Array Value} {E : TypeId} {f : Nat × Nat} : w.heap[b]? ≠ some (Obj.cells c E f) := by
  intro e
  obtain ⟨es, c', hb, _⟩ := h
  rw [e] at hb; cases hb
theorem mapR_keys (L : Rd) : (mapR L).map (·.1) = L.map (·.1) := by unfold mapR; rw [List.map_map]; rfl
theorem getL_mapR (L : Rd) (n : Int) : U.getL (mapR L) n = (U.getL L n).map (·.b) := by
  unfold U.getL mapR
  rw [List.find?_map, Option.map_map, Option.map_map]
  rfl
theorem Rds.keys (h : Rds w r m L) : (L.map (·.1)).Nodup := by
  obtain ⟨_, _, _, _, hn, _⟩ := h.map
  rwa [mapR_keys] at hn
theorem Rds.at (h : Rds w r m L) {n : Int} (hg : U.getL L n = some x) : (n, x) ∈ L ∧ OnOk w x := by
  have := (U.getL_memV h.keys n x).1 hg
  exact ⟨this, h.one _ this⟩
theorem Rds.c0 (h : Rds w r m L) : w.cell? ⟨r, 0, none⟩ = some (.map (some m)) := by simp [World.cell?, h.box]
end
def ptrR (L : Rd) (n : Int) : Value := .pointer ((U.getL L n).map fun x => ⟨x.b, 0, none⟩)
theorem zeroR (w : World) : (zeroValue 63).run Try.prog w = .ok (.pointer none) w := by kernel_rfl
theorem Rds.look_at {w x : World} {r m : Nat} {L : Rd} (h : Rds w r m L) (hx : x.heap[m]? = w.heap[m]?) (n : Int) :
    (Instr.lookup 60 (.map (some m)) (.int .u64 n) false).run Try.prog x = .ok (ptrR L n) x := by
  have := (h.map.block hx).lookup U.nameTy Try.underlying60 (zeroR x) n
  rw [getL_mapR] at this
  unfold ptrR
  cases hg : U.getL L n with
  | none => rw [hg] at this; exact this
  | some y => rw [hg] at this; exact this
theorem mapNilR (w : World) (r : Option Nat) : (binOp .eql 60 (.map r) (.map none)).run Try.prog w = .ok (.bool r.isNone) w :=
  run_eql_map_nil w _ _ _ r Try.underlying60
theorem Rds.made (w : World) : Rds ((w.alloc (.map #[] 0)).alloc (.cells #[.map (some w.heap.size)] 62)) (w.heap.size + 1) w.heap.size [] := by
  refine ⟨?_, (U.MapL.made evP w).block (Below.heap_alloc _ _ _ (by simp)), (by intro p hp; cases hp), List.nodup_nil, List.nodup_nil, (by intro p hp; cases hp)⟩
  have := heap_alloc_new (w.alloc (.map #[] 0)) (.cells #[.map (some w.heap.size)] 62)
  rw [show (w.alloc (.map #[] 0)).heap.size = w.heap.size + 1 by simp] at this
  exact this
set_option maxHeartbeats 800000 in
set_option maxRecDepth 100000 in
theorem new_rnd (w : World) : Calls Try.prog 7 #[] w fun e w' => ∃ r m, e = .returned (.pointer (some ⟨r, 0, none⟩)) ∧ w.heap.size ≤ r ∧ w.heap.size ≤ m ∧ Rds w' r m [] ∧ Below w.heap.size w w' := by
  have hmm := @Go.RowKit.run_makeMap Try.prog
  have hL := Lib.hid (Rds.made w)
  go_enter Try.func7, Try.ntmps7
  go_wp2_with fail
  go_ret
  exact ⟨w.heap.size + 1, w.heap.size, rfl, Nat.le_succ _, Nat.le_refl _, hL.out, ((Below.refl _ _).alloc (Nat.le_refl _) _).alloc (by simp) _⟩
set_option maxHeartbeats 800000 in
set_option maxRecDepth 100000 in
theorem of_rnd (r m : Nat) (L : Rd) (n : Int) (w : World) (h : Rds w r m L) : Calls Try.prog 25 #[.pointer (some ⟨r, 0, none⟩), .int .u64 n] w fun e w' => e = .returned (ptrR L n) ∧ w' = w := by
  have hl := h.look_at rfl n
  have c0 := h.c0
  clear h
  go_enter Try.func25, Try.ntmps25
  go_wp2_with fail
  go_ret
  exact ⟨rfl, rfl⟩
end Go.Proofs.Ytenebamecmblaaa
