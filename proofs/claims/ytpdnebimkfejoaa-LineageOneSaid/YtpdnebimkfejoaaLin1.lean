/- The tree of roots: what it is; clones. -/
import Derived.Test.YtpdnebimkfejoaaReads
import Derived.Test.YtpdnebimkfejoaaBranch3
import Derived.Test.YtpdnebimkfejoaaMapLaw
import Derived.OwnWalk
import Derived.Sort.OwnSorted
import Derived.BigQuiet
import Derived.Carry
import Derived.Deep.DeepCutAuto
import Derived.Deep.CutBlock
import Derived.Deep.RegionHeld3
import Derived.Lib.SliceRun
namespace Go.Proofs.Ytpdnebimkfejoaa
open Go.RowKit Go.Sort Go.Lib

def encI (x : Int) : List Value := [.int .i64 x]
/-- A row, but its name. -/
structure Rw where
  fn : Int
  aa : Option Addr
  ac : Nat
  args : List Int
  fuel : Int
  st : Int
  wk : Int
  ep : Int
def rowO (n : Nm) (r : Rw) : Obj := .cells #[.int .u64 n.1, .string n.2, .string n.2, .int .i64 r.fn, .slice r.aa r.args.length r.ac, .int .i64 r.fuel, .int .u8 r.st, .int .i64 r.wk, .int .u64 r.ep] 73 (0, 0)
/-- The arguments lie in a block of numbers. -/
def Args (w : World) (r : Rw) : Prop := w.ownsRow 0 2 1 (.slice r.aa r.args.length r.ac) r.args.length (r.args.flatMap encI)
def evP (b : Nat) : Value := .pointer (some ⟨b, 0, none⟩)
abbrev Tb := List (Nm × Nat × Rw)
def mapT (T : Tb) : List (Nm × Nat) := T.map fun p => (p.1, p.2.1)
structure Tab (w : World) (f m : Nat) (T : Tb) : Prop where
  box : w.heap[f]? = some (.cells #[.map (some m)] 67 (0, 0))
  map : MapL evP w m (mapT T)
  row : ∀ p ∈ T, w.heap[p.2.1]? = some (rowO p.1 p.2.2) ∧ Args w p.2.2
  nd : (T.map (·.2.1)).Nodup
section
variable {w w' : World} {f m : Nat} {T : Tb}
theorem Tab.c0 (h : Tab w f m T) : w.cell? ⟨f, 0, none⟩ = some (.map (some m)) := by simp [World.cell?, h.box]
theorem Tab.lt (h : Tab w f m T) : f < w.heap.size ∧ m < w.heap.size ∧ f ≠ m := by
  refine ⟨(Array.getElem?_eq_some_iff.1 h.box).1, h.map.lt, ?_⟩
  rintro rfl
  obtain ⟨es, c, hb, _⟩ := h.map
  rw [h.box] at hb; cases hb
theorem Args.far {r : Rw} (h : Args w r) (hb : ∀ (i : Nat) (cur : Array Value), w.heap[i]? = some (Obj.cells cur 2 (0, 0)) → w'.heap[i]? = w.heap[i]?) : Args w' r := by
  obtain ⟨h0, h1 | ⟨g, cap, cur, hv, h1, h2, h3⟩⟩ := h
  · exact ⟨h0, .inl h1⟩
  · exact ⟨h0, .inr ⟨g, cap, cur, hv, h1, (hb g cur h2).trans h2, h3⟩⟩
theorem Tab.below (h : Tab w f m T) (hB : Below w.heap.size w w') : Tab w' f m T :=
  ⟨(hB.block _ h.lt.1).trans h.box, h.map.block (hB.block _ h.lt.2.1), fun p hp => ⟨(hB.block _ (Array.getElem?_eq_some_iff.1 (h.row p hp).1).1).trans (h.row p hp).1, Args.far (h.row p hp).2 (fun i _cur hi => hB.block i (Array.getElem?_eq_some_iff.1 hi).1)⟩, h.nd⟩
/-- The table's blocks. -/
def InT (f m : Nat) (T : Tb) : Nat → Prop := fun i => i = f ∨ i = m ∨ ∃ p ∈ T, p.2.1 = i
end
theorem mapT_keys (T : Tb) : (mapT T).map (·.1) = T.map (·.1) := by unfold mapT; rw [List.map_map]; rfl
/-- A row of a name. -/
def findT (T : Tb) (n : Nm) : Option (Nat × Rw) := getL T n
theorem getL_mapT (T : Tb) (n : Nm) : getL (mapT T) n = (getL T n).map (·.1) := by
  unfold getL mapT
  rw [List.find?_map]
  rw [Option.map_map, Option.map_map]
  rfl
theorem getL_mem' {V : Type} {l : List (Nm × V)} {n : Nm} {v : V} (h : getL l n = some v) : (n, v) ∈ l := by
  unfold getL at h
  obtain ⟨p, hp, hv⟩ := Option.map_eq_some_iff.1 h
  have h1 := List.mem_of_find?_eq_some hp
  have h2 : p.1 = n := by simpa using List.find?_some hp
  rw [← h2, ← hv]; exact h1

theorem cell_keep {w w' : World} {a : Addr} {v : Value} (hB : Below w.heap.size w w') (h : w.cell? a = some v) : w'.cell? a = some v := (hB.cell (World.block_lt_of_cell? _ _ h)).trans h
theorem cell_low {B : Nat} {w x : World} (h : Below B w x) {a : Addr} {v : Value} (hl : a.block < B) (hc : w.cell? a = some v) : x.cell? a = some v := (h.cell hl).trans hc
theorem ret_boolE {b c : Bool} (h : b = c) : Ending.returned (.bool b) = Ending.returned (.bool c) := by rw [h]
theorem ret_intE {k : IntKind} {b c : Int} (h : b = c) : Ending.returned (.int k b) = Ending.returned (.int k c) := by rw [h]
theorem owns_base {w : World} {B B' : Nat} {E : TypeId} {size : Nat} {v : Value} {n : Nat} {xs : List Value} (h : w.ownsRow B E size v n xs) (hb : B' ≤ B) : w.ownsRow B' E size v n xs := by
  obtain ⟨h0, h | ⟨g, cap, cur, hv, h1, h2⟩⟩ := h
  · exact ⟨h0, .inl h⟩
  · exact ⟨h0, .inr ⟨g, cap, cur, hv, Nat.le_trans hb h1, h2⟩⟩
theorem info_i64 : (Try.prog.info? 2).map (fun i => (i.zero, i.size, i.bytes)) = some (some (.int .i64 0), 1, 8) := by kernel_rfl

set_option maxHeartbeats 800000 in
set_option maxRecDepth 100000 in
theorem clone_any (v : Value) (l : List Int) (w : World) (h : ReadsK encI 1 w v l) (hl : l.length ≤ 1000000) :
    Calls Try.prog 37 #[v] w fun e w' => ∃ aa ac, e = .returned (.slice aa l.length ac) ∧ w'.ownsRow w.heap.size 2 1 (.slice aa l.length ac) l.length (l.flatMap encI) ∧ Below w.heap.size w w' := by
  obtain ⟨ig, hig, hg0, hg1, hg2⟩ := info_parts info_i64
  have q36 : ∀ (w : World) (a : Option Addr) (n c n' c' : Nat), (binOp .eql 30 (.slice a n c) (.slice none n' c')).run Try.prog w = .ok (.bool a.isNone) w := fun w a n c n' c' => Lib.run_eql_slice_nil w _ _ a n c n' c' Try.underlying30
  have main : ∀ (ad : Addr) (cap : Nat), v = .slice (some ad) l.length cap → (∀ j u, (l.flatMap encI)[j]? = some u → w.cell? (ad.add j) = some u) →
      Calls Try.prog 37 #[v] w fun e w' => ∃ aa ac, e = .returned (.slice aa l.length ac) ∧ w'.ownsRow w.heap.size 2 1 (.slice aa l.length ac) l.length (l.flatMap encI) ∧ Below w.heap.size w w' := by
    rintro ad cap rfl hc
    have HC := Lib.hid hc
    clear hc h
    go_enter Try.func37, Try.ntmps37
    go_wp2_with (at_builtin; refine wpList_append_own _ rfl _ _ 30 rfl w.heap.size 2 ig (.int .i64 0) 1 8 Try.underlying30 hig hg0 hg1 hg2 rfl (by decide) _ _ _ rfl (World.ownsRow_made w #[] 0 (Nat.le_refl _) (Nat.zero_le _) (by simp)) ad l.length cap (l.flatMap encI) rfl ?qc1 ?qc2 ?qc3 ?qc4 ?qc5 ?qc6 ?_)
    case qc1 => rw [flat_len (k := 1) (fun _ => rfl)]
    case qc2 => exact fun j u hj => Lib.cell?_alloc_some _ (HC.out j u hj)
    case qc3 =>
      intro u hu
      obtain ⟨x, _, hx⟩ := List.mem_flatMap.1 hu
      simp [encI] at hx
      rw [hx]; rfl
    case qc4 => unfold maxLen; omega
    case qc5 => omega
    case qc6 => simp
    intro v' w1 hown hgrow hnil
    have hB : Below w.heap.size w w1 := ((Below.refl _ w).alloc (Nat.le_refl _) _).grown hgrow (by simp) (by intro k hk; simp [Value.ownBlock] at hk; omega)
    have HO := Lib.hid hown
    have HB := Lib.hid hB
    obtain ⟨a, c, rfl⟩ := (own_readsK (enc := encI) (k := 1) (fun _ => rfl) (by decide) hown).slice
    clear hown hB hgrow hnil
    go_wp2_with fail
    go_ret
    exact ⟨a, c, rfl, HO.out, HB.out⟩
  rcases h with ⟨rfl, a, cap, rfl⟩ | ⟨b, off, cap, rfl, hb, hc⟩
  · cases a with
    | none =>
      clear main
      go_enter Try.func37, Try.ntmps37
      go_wp2_with fail
      go_ret
      exact ⟨none, 0, rfl, World.ownsRow_nil _ _ _ _, Below.refl _ _⟩
    | some ad => exact main ad cap rfl (by simp)
  · refine main ⟨b, off, none⟩ cap rfl fun j u hj => ?_
    have hjl : j < l.length := by have := (List.getElem?_eq_some_iff.1 hj).1; rwa [flat_len (k := 1) (fun _ => rfl), Nat.mul_one] at this
    have h2 := hc j hjl 0 (.int .i64 l[j]) rfl
    rw [Nat.mul_one, Nat.add_zero] at h2
    have h3 : (l.flatMap encI)[j]? = some (.int .i64 l[j]) := by
      have : l.flatMap encI = l.map (fun x => Value.int .i64 x) := by rw [List.map_eq_flatMap]; rfl
      rw [this, List.getElem?_map, List.getElem?_eq_getElem hjl]; rfl
    rw [h3] at hj
    injection hj with hj
    subst hj
    rw [Addr.add_lit]
    exact h2
end Go.Proofs.Ytpdnebimkfejoaa
