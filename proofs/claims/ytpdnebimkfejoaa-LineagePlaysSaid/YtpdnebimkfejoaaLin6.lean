/- told; Of; Above. -/
import Derived.Test.YtpdnebimkfejoaaReads
import Derived.Test.YtpdnebimkfejoaaBranch3
import Derived.Test.YtpdnebimkfejoaaMapLaw
import Derived.OwnWalk
import Derived.Sort.OwnSorted
import Derived.BigQuiet
import Derived.Carry
import Derived.Deep.DeepCutAuto
import Derived.Deep.CutBlock
import Derived.Deep.RegionHeld3
import Derived.Lib.SliceRun
namespace Go.Proofs.Ytpdnebimkfejoaa
open Go.RowKit Go.Sort Go.Lib

def encI (x : Int) : List Value := [.int .i64 x]
/-- A row, but its name. -/
structure Rw where
  fn : Int
  aa : Option Addr
  ac : Nat
  args : List Int
  fuel : Int
  st : Int
  wk : Int
  ep : Int
def rowO (n : Nm) (r : Rw) : Obj := .cells #[.int .u64 n.1, .string n.2, .string n.2, .int .i64 r.fn, .slice r.aa r.args.length r.ac, .int .i64 r.fuel, .int .u8 r.st, .int .i64 r.wk, .int .u64 r.ep] 73 (0, 0)
/-- The arguments lie in a block of numbers. -/
def Args (w : World) (r : Rw) : Prop := w.ownsRow 0 2 1 (.slice r.aa r.args.length r.ac) r.args.length (r.args.flatMap encI)
def evP (b : Nat) : Value := .pointer (some ⟨b, 0, none⟩)
abbrev Tb := List (Nm × Nat × Rw)
def mapT (T : Tb) : List (Nm × Nat) := T.map fun p => (p.1, p.2.1)
structure Tab (w : World) (f m : Nat) (T : Tb) : Prop where
  box : w.heap[f]? = some (.cells #[.map (some m)] 67 (0, 0))
  map : MapL evP w m (mapT T)
  row : ∀ p ∈ T, w.heap[p.2.1]? = some (rowO p.1 p.2.2) ∧ Args w p.2.2
  nd : (T.map (·.2.1)).Nodup
section
variable {w w' : World} {f m : Nat} {T : Tb}
theorem Tab.c0 (h : Tab w f m T) : w.cell? ⟨f, 0, none⟩ = some (.map (some m)) := by simp [World.cell?, h.box]
theorem Tab.lt (h : Tab w f m T) : f < w.heap.size ∧ m < w.heap.size ∧ f ≠ m := by
  refine ⟨(Array.getElem?_eq_some_iff.1 h.box).1, h.map.lt, ?_⟩
  rintro rfl
  obtain ⟨es, c, hb, _⟩ := h.map
  rw [h.box] at hb; cases hb
theorem Args.far {r : Rw} (h : Args w r) (hb : ∀ (i : Nat) (cur : Array Value), w.heap[i]? = some (Obj.cells cur 2 (0, 0)) → w'.heap[i]? = w.heap[i]?) : Args w' r := by
  obtain ⟨h0, h1 | ⟨g, cap, cur, hv, h1, h2, h3⟩⟩ := h
  · exact ⟨h0, .inl h1⟩
  · exact ⟨h0, .inr ⟨g, cap, cur, hv, h1, (hb g cur h2).trans h2, h3⟩⟩
theorem Tab.below (h : Tab w f m T) (hB : Below w.heap.size w w') : Tab w' f m T :=
  ⟨(hB.block _ h.lt.1).trans h.box, h.map.block (hB.block _ h.lt.2.1), fun p hp => ⟨(hB.block _ (Array.getElem?_eq_some_iff.1 (h.row p hp).1).1).trans (h.row p hp).1, Args.far (h.row p hp).2 (fun i _cur hi => hB.block i (Array.getElem?_eq_some_iff.1 hi).1)⟩, h.nd⟩
/-- The table's blocks. -/
def InT (f m : Nat) (T : Tb) : Nat → Prop := fun i => i = f ∨ i = m ∨ ∃ p ∈ T, p.2.1 = i
end
theorem mapT_keys (T : Tb) : (mapT T).map (·.1) = T.map (·.1) := by unfold mapT; rw [List.map_map]; rfl
/-- A row of a name. -/
def findT (T : Tb) (n : Nm) : Option (Nat × Rw) := getL T n
theorem getL_mapT (T : Tb) (n : Nm) : getL (mapT T) n = (getL T n).map (·.1) := by
  unfold getL mapT
  rw [List.find?_map]
  rw [Option.map_map, Option.map_map]
  rfl
theorem getL_mem' {V : Type} {l : List (Nm × V)} {n : Nm} {v : V} (h : getL l n = some v) : (n, v) ∈ l := by
  unfold getL at h
  obtain ⟨p, hp, hv⟩ := Option.map_eq_some_iff.1 h
  have h1 := List.mem_of_find?_eq_some hp
  have h2 : p.1 = n := by simpa using List.find?_some hp
  rw [← h2, ← hv]; exact h1

theorem cell_keep {w w' : World} {a : Addr} {v : Value} (hB : Below w.heap.size w w') (h : w.cell? a = some v) : w'.cell? a = some v := (hB.cell (World.block_lt_of_cell? _ _ h)).trans h
theorem cell_low {B : Nat} {w x : World} (h : Below B w x) {a : Addr} {v : Value} (hl : a.block < B) (hc : w.cell? a = some v) : x.cell? a = some v := (h.cell hl).trans hc
theorem ret_boolE {b c : Bool} (h : b = c) : Ending.returned (.bool b) = Ending.returned (.bool c) := by rw [h]
theorem ret_intE {k : IntKind} {b c : Int} (h : b = c) : Ending.returned (.int k b) = Ending.returned (.int k c) := by rw [h]
theorem owns_base {w : World} {B B' : Nat} {E : TypeId} {size : Nat} {v : Value} {n : Nat} {xs : List Value} (h : w.ownsRow B E size v n xs) (hb : B' ≤ B) : w.ownsRow B' E size v n xs := by
  obtain ⟨h0, h | ⟨g, cap, cur, hv, h1, h2⟩⟩ := h
  · exact ⟨h0, .inl h⟩
  · exact ⟨h0, .inr ⟨g, cap, cur, hv, Nat.le_trans hb h1, h2⟩⟩
theorem info_i64 : (Try.prog.info? 2).map (fun i => (i.zero, i.size, i.bytes)) = some (some (.int .i64 0), 1, 8) := by kernel_rfl

set_option maxHeartbeats 800000 in
set_option maxRecDepth 100000 in
theorem clone_any (v : Value) (l : List Int) (w : World) (h : ReadsK encI 1 w v l) (hl : l.length ≤ 1000000) :
    Calls Try.prog 37 #[v] w fun e w' => ∃ aa ac, e = .returned (.slice aa l.length ac) ∧ w'.ownsRow w.heap.size 2 1 (.slice aa l.length ac) l.length (l.flatMap encI) ∧ Below w.heap.size w w' := by
  obtain ⟨ig, hig, hg0, hg1, hg2⟩ := info_parts info_i64
  have q36 : ∀ (w : World) (a : Option Addr) (n c n' c' : Nat), (binOp .eql 30 (.slice a n c) (.slice none n' c')).run Try.prog w = .ok (.bool a.isNone) w := fun w a n c n' c' => Lib.run_eql_slice_nil w _ _ a n c n' c' Try.underlying30
  have main : ∀ (ad : Addr) (cap : Nat), v = .slice (some ad) l.length cap → (∀ j u, (l.flatMap encI)[j]? = some u → w.cell? (ad.add j) = some u) →
      Calls Try.prog 37 #[v] w fun e w' => ∃ aa ac, e = .returned (.slice aa l.length ac) ∧ w'.ownsRow w.heap.size 2 1 (.slice aa l.length ac) l.length (l.flatMap encI) ∧ Below w.heap.size w w' := by
    rintro ad cap rfl hc
    have HC := Lib.hid hc
    clear hc h
    go_enter Try.func37, Try.ntmps37
    go_wp2_with (at_builtin; refine wpList_append_own _ rfl _ _ 30 rfl w.heap.size 2 ig (.int .i64 0) 1 8 Try.underlying30 hig hg0 hg1 hg2 rfl (by decide) _ _ _ rfl (World.ownsRow_made w #[] 0 (Nat.le_refl _) (Nat.zero_le _) (by simp)) ad l.length cap (l.flatMap encI) rfl ?qc1 ?qc2 ?qc3 ?qc4 ?qc5 ?qc6 ?_)
    case qc1 => rw [flat_len (k := 1) (fun _ => rfl)]
    case qc2 => exact fun j u hj => Lib.cell?_alloc_some _ (HC.out j u hj)
    case qc3 =>
      intro u hu
      obtain ⟨x, _, hx⟩ := List.mem_flatMap.1 hu
      simp [encI] at hx
      rw [hx]; rfl
    case qc4 => unfold maxLen; omega
    case qc5 => omega
    case qc6 => simp
    intro v' w1 hown hgrow hnil
    have hB : Below w.heap.size w w1 := ((Below.refl _ w).alloc (Nat.le_refl _) _).grown hgrow (by simp) (by intro k hk; simp [Value.ownBlock] at hk; omega)
    have HO := Lib.hid hown
    have HB := Lib.hid hB
    obtain ⟨a, c, rfl⟩ := (own_readsK (enc := encI) (k := 1) (fun _ => rfl) (by decide) hown).slice
    clear hown hB hgrow hnil
    go_wp2_with fail
    go_ret
    exact ⟨a, c, rfl, HO.out, HB.out⟩
  rcases h with ⟨rfl, a, cap, rfl⟩ | ⟨b, off, cap, rfl, hb, hc⟩
  · cases a with
    | none =>
      clear main
      go_enter Try.func37, Try.ntmps37
      go_wp2_with fail
      go_ret
      exact ⟨none, 0, rfl, World.ownsRow_nil _ _ _ _, Below.refl _ _⟩
    | some ad => exact main ad cap rfl (by simp)
  · refine main ⟨b, off, none⟩ cap rfl fun j u hj => ?_
    have hjl : j < l.length := by have := (List.getElem?_eq_some_iff.1 hj).1; rwa [flat_len (k := 1) (fun _ => rfl), Nat.mul_one] at this
    have h2 := hc j hjl 0 (.int .i64 l[j]) rfl
    rw [Nat.mul_one, Nat.add_zero] at h2
    have h3 : (l.flatMap encI)[j]? = some (.int .i64 l[j]) := by
      have : l.flatMap encI = l.map (fun x => Value.int .i64 x) := by rw [List.map_eq_flatMap]; rfl
      rw [this, List.getElem?_map, List.getElem?_eq_getElem hjl]; rfl
    rw [h3] at hj
    injection hj with hj
    subst hj
    rw [Addr.add_lit]
    exact h2
end Go.Proofs.Ytpdnebimkfejoaa
namespace Go.Proofs.Ytpdnebimkfejoaa
open Go.RowKit Go.Sort Go.Lib

theorem zeroT (w : World) : (zeroValue 69).run Try.prog w = .ok (.pointer none) w := by kernel_rfl
def ptrT (T : Tb) (n : Nm) : Value := .pointer ((getL T n).map fun p => ⟨p.1, 0, none⟩)
theorem Tab.look_at {w x : World} {f m : Nat} {T : Tb} (h : Tab w f m T) (hx : x.heap[m]? = w.heap[m]?) (n : Nm) :
    (Instr.lookup 65 (.map (some m)) (.agg #[.int .u64 n.1, .string n.2]) false).run Try.prog x = .ok (ptrT T n) x := by
  have := (h.map.block hx).lookup nameTy Try.underlying65 (zeroT x) n
  rw [getL_mapT] at this
  rw [show (((getL T n).map (·.1)).map evP).getD (.pointer none) = ptrT T n by unfold ptrT; cases getL T n <;> rfl] at this
  exact this
theorem mapNilT (w : World) (r : Option Nat) : (binOp .eql 65 (.map r) (.map none)).run Try.prog w = .ok (.bool r.isNone) w :=
  run_eql_map_nil w _ _ _ r Try.underlying65
theorem Tab.at {w : World} {f m : Nat} {T : Tb} (h : Tab w f m T) {n : Nm} {b : Nat} {r : Rw} (hg : getL T n = some (b, r)) : w.heap[b]? = some (rowO n r) ∧ Args w r := h.row (n, b, r) (getL_mem' hg)
theorem row_cells {w : World} {b : Nat} {n : Nm} {r : Rw} (h : w.heap[b]? = some (rowO n r)) (o : Nat) : w.cell? ⟨b, o, none⟩ = #[Value.int .u64 n.1, .string n.2, .string n.2, .int .i64 r.fn, .slice r.aa r.args.length r.ac, .int .i64 r.fuel, .int .u8 r.st, .int .i64 r.wk, .int .u64 r.ep][o]? := by
  unfold rowO at h; simp [World.cell?, h]
theorem row_open {w : World} {b : Nat} {n : Nm} {r : Rw} (h : w.heap[b]? = some (rowO n r)) (o : Nat) : w.frozen? ⟨b, o, none⟩ = false := by
  unfold rowO at h; simp [World.frozen?, h]
theorem Tab.drewN {w : World} {f m : Nat} {T : Tb} (h : Tab w f m T) (q : Nat) : Tab (w.drewN q) f m T := h.below (below_drewN (Below.refl _ _) q)

def MadeT (w : World) (e : Ending) (w' : World) : Prop := ∃ f m, e = .returned (.pointer (some ⟨f, 0, none⟩)) ∧ w.heap.size ≤ f ∧ w.heap.size ≤ m ∧ Tab w' f m [] ∧ Below w.heap.size w w'
theorem tab_made (w : World) : Tab ((w.alloc (.map #[] 0)).alloc (.cells #[.map (some w.heap.size)] 67)) (w.heap.size + 1) w.heap.size [] := by
  refine ⟨?_, (MapL.made evP w).block (Below.heap_alloc _ _ _ (by simp)), (by intro p hp; cases hp), List.nodup_nil⟩
  have := heap_alloc_new (w.alloc (.map #[] 0)) (.cells #[.map (some w.heap.size)] 67)
  rw [show (w.alloc (.map #[] 0)).heap.size = w.heap.size + 1 by simp] at this
  exact this
set_option maxHeartbeats 800000 in
set_option maxRecDepth 100000 in
theorem new_tab (w : World) :
    Calls Try.prog 9 #[] w fun e w' => MadeT w e w' := by
  have hmm := @Go.RowKit.run_makeMap Try.prog
  have hL := Lib.hid (tab_made w)
  go_enter Try.func9, Try.ntmps9
  go_wp2_with fail
  go_ret
  exact ⟨w.heap.size + 1, w.heap.size, rfl, Nat.le_succ _, Nat.le_refl _, hL.out, ((Below.refl _ _).alloc (Nat.le_refl _) _).alloc (by simp) _⟩

def ofP (T : Tb) (n : Nm) : Value × Int := match getL T n with
  | none => (.pointer none, 5)
  | some (b, _) => (.pointer (some ⟨b, 0, none⟩), 0)
set_option maxHeartbeats 1600000 in
set_option maxRecDepth 100000 in
theorem of_tab (f m : Nat) (T : Tb) (n : Nm) (w : World) (h : Tab w f m T) :
    Calls Try.prog 49 #[.pointer (some ⟨f, 0, none⟩), .agg #[.int .u64 n.1, .string n.2]] w fun e w' => e = .returned (.tuple #[(ofP T n).1, .int .i64 (ofP T n).2]) ∧ Below w.heap.size w w' := by
  have hB1 : Below w.heap.size w (w.alloc (.cells #[.int .u64 n.1, .string n.2] 29)) := (Below.refl _ _).alloc (Nat.le_refl _) _
  have h1 := h.below hB1
  have hl := fun q => (h1.drewN q).look_at rfl n
  have c0 := h1.c0
  have hlt := h.lt
  have hmn := mapNilT
  have HH := Lib.hid h1
  have HB1 := Lib.hid hB1
  clear h h1 hB1
  unfold ptrT at hl
  cases hg : getL T n with
  | none =>
    rw [hg] at hl
    have ho := Lib.hid (show ofP T n = (.pointer none, 5) by unfold ofP; rw [hg])
    clear hg
    simp only [Option.map_none] at hl
    go_enter Try.func49, Try.ntmps49
    go_wp2_with fail
    go_quiet (fail)
    go_wp2_with fail
    go_ret2
    exact ⟨by rw [ho.out]; rfl, below_drewN HB1.out _⟩
  | some br =>
    obtain ⟨b, r⟩ := br
    rw [hg] at hl
    simp only [Option.map_some] at hl
    have ho := Lib.hid (show ofP T n = (.pointer (some ⟨b, 0, none⟩), 0) by unfold ofP; rw [hg])
    clear hg
    go_enter Try.func49, Try.ntmps49
    go_wp2_with fail
    go_quiet (fail)
    have HB2 := Lib.hid (below_drewN HB1.out nq)
    have HH2 := Lib.hid (HH.out.drewN nq)
    have hl2 := fun q => hl (nq + q)
    have c2 := HH2.out.c0
    go_wp2_with fail
    go_quiet (fail)
    go_wp2_with fail
    go_ret2
    exact ⟨by rw [ho.out]; rfl, below_drewN HB2.out _⟩
theorem rw_set {w : World} {b : Nat} {n : Nm} {r : Rw} (h : w.heap[b]? = some (rowO n r)) (s k : Int) (e : Int) : (((w.setCell ⟨b, 6, none⟩ (.int .u8 s)).setCell ⟨b, 7, none⟩ (.int .i64 k)).setCell ⟨b, 8, none⟩ (.int .u64 e)).heap[b]? = some (rowO n { r with st := s, wk := k, ep := e }) := by
  unfold rowO at h ⊢
  have h1 := Go.heap_setCell_same w b 6 _ _ (.int .u8 s) h
  have h2 := Go.heap_setCell_same _ b 7 _ _ (.int .i64 k) h1
  exact Go.heap_setCell_same _ b 8 _ _ (.int .u64 e) h2
set_option maxHeartbeats 800000 in
set_option maxRecDepth 100000 in
theorem to_any (b : Nat) (n : Nm) (r : Rw) (s k e : Int) (w : World) (h : w.heap[b]? = some (rowO n r)) :
    Calls Try.prog 50 #[.pointer (some ⟨b, 0, none⟩), .int .u8 s, .int .i64 k, .int .u64 e] w fun e' w' => e' = .returned (.tuple #[]) ∧ w'.heap[b]? = some (rowO n { r with st := s, wk := k, ep := e }) ∧ Fr (fun i => i = b) w w' := by
  have k6 : w.cell? ⟨b, 6, none⟩ = some (.int .u8 r.st) := row_cells h 6
  have k7 : w.cell? ⟨b, 7, none⟩ = some (.int .i64 r.wk) := row_cells h 7
  have k8 : w.cell? ⟨b, 8, none⟩ = some (.int .u64 r.ep) := row_cells h 8
  have z6 : w.frozen? ⟨b, 6, none⟩ = false := row_open h 6
  have z7 : w.frozen? ⟨b, 7, none⟩ = false := row_open h 7
  have z8 : w.frozen? ⟨b, 8, none⟩ = false := row_open h 8
  have H := Lib.hid (rw_set h s k e)
  have HF : Hid (Fr (fun i => i = b) w (((w.setCell ⟨b, 6, none⟩ (.int .u8 s)).setCell ⟨b, 7, none⟩ (.int .i64 k)).setCell ⟨b, 8, none⟩ (.int .u64 e))) := (((Fr.refl (fun i => i = b) w).setCell (S := fun i => i = b) (p := ⟨b, 6, none⟩) rfl _).setCell (S := fun i => i = b) (p := ⟨b, 7, none⟩) rfl _).setCell (S := fun i => i = b) (p := ⟨b, 8, none⟩) rfl _
  clear h
  go_enter Try.func50, Try.ntmps50
  go_wp2_with fail
  go_end0
  exact ⟨rfl, H.out, HF.out⟩
end Go.Proofs.Ytpdnebimkfejoaa
namespace Go.Proofs.Ytpdnebimkfejoaa
open Go.RowKit Go.Sort Go.Lib

/-- The first of a path's parents that is there. -/
def upF (has : Nm → Bool) (job : Int) : Nat → ByteArray → Option Nm
  | 0, _ => none
  | k + 1, p => if parB p then (if has (job, parS p) then some (job, parS p) else upF has job k (parS p)) else none
def upN (has : Nm → Bool) (n : Nm) : Option Nm := if mayS n.2 then upF has n.1 n.2.size n.2 else none
def hasT (T : Tb) (n : Nm) : Bool := (getL T n).isSome
def aboveP (T : Tb) (n : Nm) : Value := match upN (hasT T) n with
  | none => .pointer none
  | some u => ptrT T u
theorem parB_pos {p : ByteArray} (h : parB p = true) : 0 < p.size := by
  unfold parB at h
  simp only [Bool.and_eq_true] at h
  exact size_pos (by simpa using h.1)
theorem parS_size {p : ByteArray} (h : parB p = true) : (parS p).size + 1 = p.size := by
  have := parB_pos h
  unfold parS
  rw [if_pos h, ByteArray.size_extract]
  omega
theorem upF_step (has : Nm → Bool) (job : Int) (p : ByteArray) : upF has job p.size p = if parB p then (if has (job, parS p) then some (job, parS p) else upF has job (parS p).size (parS p)) else none := by
  cases hp : parB p
  · cases p.size with
    | zero => rfl
    | succ k => unfold upF; rw [hp]; rfl
  · have h := parS_size hp
    rw [← h]
    conv => lhs; unfold upF
    rw [hp]
set_option maxHeartbeats 1600000 in
set_option maxRecDepth 100000 in
theorem above_tab (f m : Nat) (T : Tb) (n : Nm) (w : World) (h : Tab w f m T) (hn : n.2.size ≤ 9223372036854775807) :
    Calls Try.prog 36 #[.pointer (some ⟨f, 0, none⟩), .agg #[.int .u64 n.1, .string n.2]] w fun e w' => e = .returned (aboveP T n) ∧ Below w.heap.size w w' := by
  have hA : Below w.heap.size w (w.alloc (.cells #[.int .u64 n.1, .string n.2] 29)) := (Below.refl _ _).alloc (Nat.le_refl _) _
  have hb := heap_alloc_new w (.cells #[.int .u64 n.1, .string n.2] 29)
  have HH := Lib.hid (h.below hA)
  have HA := Lib.hid hA
  have HB := Lib.hid hb
  clear h hA hb
  go_enter Try.func36, Try.ntmps36
  go_wp2_with fail
  refine (may_any n.2 _ hn).mono ?_
  rintro e w1 ⟨rfl, hB⟩
  cases hm : mayS n.2
  · have ho := Lib.hid (show aboveP T n = .pointer none by unfold aboveP upN; rw [hm]; rfl)
    have HF := Lib.hid (gthen HA.out hB)
    clear hm hB
    go_wp2_with fail
    go_ret
    exact ⟨by rw [ho.out]; rfl, HF.out⟩
  · have ho := Lib.hid (show upN (hasT T) n = upF (hasT T) n.1 n.2.size n.2 by unfold upN; rw [hm]; rfl)
    have HA1 := Lib.hid (gthen HA.out hB)
    have HH1 := Lib.hid (HH.out.below hB)
    have hb1 := (hB.block _ (by simp)).trans HB.out
    have k0 : w1.cell? ⟨w.heap.size, 0, none⟩ = some (.int .u64 n.1) := by simp [World.cell?, hb1]
    have k1 : w1.cell? ⟨w.heap.size, 1, none⟩ = some (.string n.2) := by simp [World.cell?, hb1]
    have HB1 := Lib.hid hb1
    clear hm hB HB HH HA hb1
    go_wp2_with fail
    refine (parent_any n.2 _ hn).mono ?_
    rintro e w2 ⟨rfl, hB⟩
    have HA2 := Lib.hid (gthen HA1.out hB)
    have HH2 := Lib.hid (HH1.out.below hB)
    have HB2 := Lib.hid ((hB.block _ (Array.getElem?_eq_some_iff.1 HB1.out).1).trans HB1.out)
    clear hB HB1 HH1 HA1 k0 k1
    go_wp2_with fail
    go_loopg [5, 6] n.2.size (fun gk up is wr => ∃ p : ByteArray, gk = p.size ∧ up = .string (parS p) ∧ is = .bool (parB p) ∧ p.size ≤ n.2.size ∧ Hid (upN (hasT T) n = upF (hasT T) n.1 p.size p) ∧ Below w2.heap.size w2 wr)
    case atStart => exact ⟨n.2, rfl, rfl, rfl, Nat.le_refl _, ho, Below.refl _ _⟩
    case round =>
      obtain ⟨p, rfl, rfl, rfl, hps, HU, hBw⟩ := hrel
      have HHr := Lib.hid (HH2.out.below hBw)
      have HAr := Lib.hid (gthen HA2.out hBw)
      have hbr := (hBw.block _ (Array.getElem?_eq_some_iff.1 HB2.out).1).trans HB2.out
      have k0 : wr.cell? ⟨w.heap.size, 0, none⟩ = some (.int .u64 n.1) := by simp [World.cell?, hbr]
      have HBw := Lib.hid hBw
      clear hbr hBw
      cases hp : parB p
      · have hz := Lib.hid (show aboveP T n = .pointer none by unfold aboveP; rw [HU.out, upF_step, hp]; rfl)
        clear hp
        go_wp2_with fail
        go_ret
        exact ⟨by rw [hz.out]; rfl, HAr.out⟩
      · have hl := fun q => (HHr.out.drewN q).look_at rfl (n.1, parS p)
        have c0 := HHr.out.c0
        have hsz := parS_size hp
        have HP := Lib.hid hp
        clear hp
        generalize hup : parS p = up at *
        have HUP := Lib.hid hup
        clear hup
        unfold ptrT at hl
        cases hg : getL T (n.1, up) with
        | some br =>
          obtain ⟨b, r⟩ := br
          rw [hg] at hl
          simp only [Option.map_some] at hl
          have hz := Lib.hid (show aboveP T n = .pointer (some ⟨b, 0, none⟩) by
            have h1 : upN (hasT T) n = some (n.1, up) := by rw [HU.out, upF_step, HP.out, HUP.out]; unfold hasT; rw [hg]; rfl
            unfold aboveP; rw [h1]; unfold ptrT; simp only; rw [hg]; rfl)
          clear hg
          go_wp2_with fail
          go_quiet (fail)
          go_wp2_with fail
          go_ret
          exact ⟨by rw [hz.out]; rfl, below_drewN HAr.out _⟩
        | none =>
          rw [hg] at hl
          simp only [Option.map_none] at hl
          have HU2 := Lib.hid (show upN (hasT T) n = upF (hasT T) n.1 up.size up by
            rw [HU.out, upF_step, HP.out, HUP.out]; unfold hasT; rw [hg]; rfl)
          clear hg
          go_wp2_with fail
          go_quiet (fail)
          have HBq := Lib.hid (below_drewN HBw.out nq)
          clear hl c0
          go_wp2_with fail
          refine (parent_any up _ (by omega)).mono ?_
          rintro e w3 ⟨rfl, hB⟩
          have HB3 := Lib.hid (gthen HBq.out hB)
          clear hB
          go_wp2_with fail
          go_roundg up.size
          case rel => exact ⟨up, rfl, rfl, rfl, by omega, HU2, HB3.out⟩
          case measure => omega
end Go.Proofs.Ytpdnebimkfejoaa
namespace Go.Proofs.Ytpdnebimkfejoaa
open Go.RowKit Go.Sort Go.Lib

def addE (T : Tb) (n : Nm) : Int := if mayS n.2 = false then 2 else if (getL T n).isSome then 7 else if n.2.toList ≠ [] ∧ upN (hasT T) n = none then 5 else if 1024 ≤ T.length then 6 else 0
theorem Tab.notMap {w : World} {f m : Nat} {T : Tb} (h : Tab w f m T) {i : Nat} {c : Array Value} {t : TypeId} {fr : Nat × Nat} (hi : w.heap[i]? = some (Obj.cells c t fr)) : i ≠ m := by
  rintro rfl
  obtain ⟨es, c, hb, _⟩ := h.map
  rw [hb] at hi; cases hi
theorem Tab.more {wc w9 : World} {f m : Nat} {T : Tb} {n : Nm} {r : Rw} (h : Tab wc f m T) (hg : getL T n = none) (ho : Args wc r) (hM : MapL evP w9 m (putL (mapT T) n wc.heap.size)) (hO : OnlyAt (wc.alloc (rowO n r)) w9 m) :
    Tab w9 f m (T ++ [(n, wc.heap.size, r)]) := by
  have hk : ∀ (i : Nat) (c : Array Value) (t : TypeId) (fr : Nat × Nat), wc.heap[i]? = some (Obj.cells c t fr) → w9.heap[i]? = some (Obj.cells c t fr) := fun i c t fr hi =>
    (hO.2.2.2.2.1 i (h.notMap hi)).trans ((Below.heap_alloc _ _ _ (Array.getElem?_eq_some_iff.1 hi).1).trans hi)
  have ha : ∀ r, Args wc r → Args w9 r := fun r hr => Args.far hr (fun i cur hi => (hk i _ _ _ hi).trans hi.symm)
  have hnew : w9.heap[wc.heap.size]? = some (rowO n r) := (hO.2.2.2.2.1 _ (by have := h.lt.2.1; omega)).trans (heap_alloc_new _ _)
  refine ⟨hk f _ _ _ h.box, ?_, ?_, ?_⟩
  · rw [putL_newV (by rw [getL_mapT, hg]; rfl)] at hM
    rw [show mapT (T ++ [(n, wc.heap.size, r)]) = mapT T ++ [(n, wc.heap.size)] by unfold mapT; simp]
    exact hM
  · intro p hp
    rcases List.mem_append.1 hp with hp | hp
    · exact ⟨hk _ _ _ _ (h.row p hp).1, ha _ (h.row p hp).2⟩
    · rw [List.mem_singleton] at hp
      rw [hp]
      exact ⟨hnew, ha _ ho⟩
  · rw [List.map_append, List.nodup_append]
    refine ⟨h.nd, by simp, fun a ha b hb e => ?_⟩
    obtain ⟨p, hp, rfl⟩ := List.mem_map.1 ha
    simp at hb
    have := (Array.getElem?_eq_some_iff.1 (h.row p hp).1).1
    omega
theorem gdrew {n : Nat} {w y : World} (h : Below n w.drew y) : Below n w y := ⟨h.os, h.tape, h.output, h.size, h.block⟩
theorem aboveP_cases (T : Tb) (n : Nm) : (upN (hasT T) n = none ∧ aboveP T n = .pointer none) ∨ ∃ u b r, upN (hasT T) n = some u ∧ getL T u = some (b, r) ∧ aboveP T n = .pointer (some ⟨b, 0, none⟩) := by
  have key : ∀ (k : Nat) (p : ByteArray) (u : Nm), upF (hasT T) n.1 k p = some u → hasT T u = true := by
    intro k
    induction k with
    | zero => intro p u h; cases h
    | succ k ih =>
      intro p u h
      unfold upF at h
      split at h
      · split at h
        · rename_i h1
          injection h with h; subst h; exact h1
        · exact ih _ _ h
      · cases h
  cases hu : upN (hasT T) n with
  | none => exact .inl ⟨rfl, by unfold aboveP; rw [hu]⟩
  | some u =>
    have h1 : hasT T u = true := by
      unfold upN at hu
      split at hu
      · exact key _ _ _ hu
      · cases hu
    obtain ⟨⟨b, r⟩, hg⟩ := Option.isSome_iff_exists.1 (show (getL T u).isSome = true from h1)
    exact .inr ⟨u, b, r, rfl, hg, by unfold aboveP; rw [hu]; simp only; unfold ptrT; rw [hg]; rfl⟩
theorem own_sets {w1 : World} {E : TypeId} {v : Value} {n : Nat} {xs : List Value} {B r : Nat} (h : w1.ownsRow B E 1 v n xs) (hr : r < B) {a : Addr} (ha : a.block = r) (u : Value) : (w1.setCell a u).ownsRow B E 1 v n xs := by
  refine ⟨h.1, h.2.imp id ?_⟩
  rintro ⟨g, cap, cur, hv, h1, h2, h3⟩
  exact ⟨g, cap, cur, hv, h1, (Go.heap_setCell_other w1 a g u (by omega)).trans h2, h3⟩
set_option maxHeartbeats 3200000 in
set_option maxRecDepth 100000 in
theorem add_tab (f m : Nat) (T : Tb) (job : Int) (p : ByteArray) (fn fuel : Int) (v : Value) (l : List Int) (w : World) (h : Tab w f m T) (hv : ReadsK encI 1 w v l) (hl : l.length ≤ 1000000) (hT : T.length ≤ 1000000) (hp : p.size ≤ 9223372036854775807) :
    Calls Try.prog 10 #[.pointer (some ⟨f, 0, none⟩), .int .u64 job, .agg #[.string p, .int .i64 fn, v, .int .i64 fuel]] w fun e w' => e = .returned (.int .i64 (addE T (job, p))) ∧
      ((addE T (job, p) ≠ 0 ∧ Tab w' f m T ∧ Below w.heap.size w w') ∨ (addE T (job, p) = 0 ∧ ∃ b aa ac, w.heap.size ≤ b ∧ Tab w' f m (T ++ [((job, p), b, ⟨fn, aa, ac, l, fuel, 1, 0, 0⟩)]) ∧ Fr (fun i => i = m) w w')) := by
  obtain ⟨va, vc, rfl⟩ := hv.slice
  have hA : Below w.heap.size w ((w.alloc (.cells #[.string p, .int .i64 fn, .slice va l.length vc, .int .i64 fuel] 32)).alloc (.cells #[.int .u64 job, .string p] 29)) := ((Below.refl _ _).alloc (Nat.le_refl _) _).alloc (by simp) _
  have k0 : ((w.alloc (.cells #[.string p, .int .i64 fn, .slice va l.length vc, .int .i64 fuel] 32)).alloc (.cells #[.int .u64 job, .string p] 29)).heap[w.heap.size]? = some (.cells #[.string p, .int .i64 fn, .slice va l.length vc, .int .i64 fuel] 32 (0, 0)) :=
    (((Below.refl (w.alloc (.cells #[.string p, .int .i64 fn, .slice va l.length vc, .int .i64 fuel] 32)).heap.size _).alloc (Nat.le_refl _) _).block _ (by simp)).trans (heap_alloc_new _ _)
  have k1 : ((w.alloc (.cells #[.string p, .int .i64 fn, .slice va l.length vc, .int .i64 fuel] 32)).alloc (.cells #[.int .u64 job, .string p] 29)).heap[w.heap.size + 1]? = some (.cells #[.int .u64 job, .string p] 29 (0, 0)) := by
    have h2 := heap_alloc_new (w.alloc (.cells #[.string p, .int .i64 fn, .slice va l.length vc, .int .i64 fuel] 32)) (.cells #[.int .u64 job, .string p] 29)
    rw [show (w.alloc (.cells #[.string p, .int .i64 fn, .slice va l.length vc, .int .i64 fuel] 32)).heap.size = w.heap.size + 1 by simp] at h2
    exact h2
  have HT0 := Lib.hid h
  have HH := Lib.hid (h.below hA)
  have HV := Lib.hid (hv.below hA)
  have HA := Lib.hid hA
  have c0 := HH.out.c0
  have hmn := mapNilT
  have HK0 := Lib.hid k0
  have HK1 := Lib.hid k1
  clear h hv hA k0 k1
  go_enter Try.func10, Try.ntmps10
  go_wp2_with fail
  refine (may_any p _ hp).mono ?_
  rintro e w1 ⟨rfl, hB⟩
  have hlt0 := (Array.getElem?_eq_some_iff.1 HK0.out).1
  have hlt1 := (Array.getElem?_eq_some_iff.1 HK1.out).1
  have HH1 := Lib.hid (HH.out.below hB)
  have HV1 := Lib.hid (HV.out.below hB)
  have HA1 := Lib.hid (gthen HA.out hB)
  have k0 := (hB.block _ hlt0).trans HK0.out
  have k1 := (hB.block _ hlt1).trans HK1.out
  clear hB HH HV HA c0 HK0 HK1 hlt0 hlt1
  cases hm : mayS p
  · have he := Lib.hid (show addE T (job, p) = 2 by unfold addE; rw [if_pos hm])
    clear hm k0 k1
    go_wp2_with fail
    go_ret
    exact ⟨ret_intE he.out.symm, .inl ⟨by rw [he.out]; decide, HH1.out, HA1.out⟩⟩
  · have hl1 := fun q => (HH1.out.drewN q).look_at rfl (job, p)
    have c0 := HH1.out.c0
    have HM := Lib.hid hm
    have b0 : w1.cell? ⟨w.heap.size + 1, 0, none⟩ = some (.int .u64 job) := by simp [World.cell?, k1]
    have b1 : w1.cell? ⟨w.heap.size + 1, 1, none⟩ = some (.string p) := by simp [World.cell?, k1]
    have HK0 := Lib.hid k0
    have HK1 := Lib.hid k1
    unfold ptrT at hl1
    clear hm k0 k1
    cases hg : getL T (job, p) with
    | some br =>
      obtain ⟨b, r⟩ := br
      rw [hg] at hl1
      simp only [Option.map_some] at hl1
      have he := Lib.hid (show addE T (job, p) = 7 by unfold addE; rw [if_neg (by show ¬ mayS p = false; rw [HM.out]; decide), hg]; rfl)
      clear hg
      go_wp2_with fail
      go_quiet (fail)
      go_wp2_with fail
      go_ret
      exact ⟨ret_intE he.out.symm, .inl ⟨by rw [he.out]; decide, HH1.out.drewN _, below_drewN HA1.out _⟩⟩
    | none =>
      rw [hg] at hl1
      simp only [Option.map_none] at hl1
      have HG := Lib.hid hg
      clear hg
      go_wp2_with fail
      go_quiet (fail)
      have HH2 := Lib.hid (HH1.out.drewN nq)
      have HV2 := Lib.hid (HV1.out.below (below_drewN (Below.refl _ _) nq))
      have HA2 := Lib.hid (below_drewN HA1.out nq)
      have HK02 := Lib.hid (show (w1.drewN nq).heap[w.heap.size]? = some (.cells #[.string p, .int .i64 fn, .slice va l.length vc, .int .i64 fuel] 32 (0, 0)) from HK0.out)
      have HK12 := Lib.hid (show (w1.drewN nq).heap[w.heap.size + 1]? = some (.cells #[.int .u64 job, .string p] 29 (0, 0)) from HK1.out)
      generalize w1.drewN nq = w2 at *
      clear hl1 c0 HH1 HV1 HA1 HK0 HK1 b0 b1
      have hlt0 := (Array.getElem?_eq_some_iff.1 HK02.out).1
      have hlt1 := (Array.getElem?_eq_some_iff.1 HK12.out).1
      have a1 : w2.cell? ⟨w.heap.size, 0, none⟩ = some (.string p) := by have := HK02.out; simp [World.cell?, this]
      have b0 : w2.cell? ⟨w.heap.size + 1, 0, none⟩ = some (.int .u64 job) := by have := HK12.out; simp [World.cell?, this]
      have b1 : w2.cell? ⟨w.heap.size + 1, 1, none⟩ = some (.string p) := by have := HK12.out; simp [World.cell?, this]
      by_cases hpe : p.toList = []
      · have hpe2 : (!p.toList.isEmpty) = false := by simp [hpe]
        have HU := Lib.hid (show ¬ (((job, p) : Nm).2.toList ≠ [] ∧ upN (hasT T) (job, p) = none) from fun h => h.1 hpe)
        clear b0 b1
        go_upto_region 10 with fail
        clear hpe hpe2 a1 hlt0 hlt1
        have HH3 := HH2; have HV3 := HV2; have HA3 := HA2; have HK03 := HK02; have HK13 := HK12
        clear HH2 HV2 HA2 HK02 HK12
        generalize w2 = w3 at *
        have hln := fun ty => HH3.out.map.len (P := Try.prog) (k := 29) Try.underlying65 ty
        have hll : ((mapT T).length : Int) = T.length := by unfold mapT; simp
        rw [hll] at hln
        have c0 := HH3.out.c0
        by_cases hf : 1024 ≤ T.length
        · have he := Lib.hid (show addE T (job, p) = 6 by unfold addE; rw [if_neg (by show ¬ mayS p = false; rw [HM.out]; decide), HG.out, if_neg (by decide), if_neg HU.out, if_pos hf])
          go_wp2_with fail
          go_ret
          exact ⟨ret_intE he.out.symm, .inl ⟨by rw [he.out]; decide, HH3.out, HA3.out⟩⟩
        · have he := Lib.hid (show addE T (job, p) = 0 by unfold addE; rw [if_neg (by show ¬ mayS p = false; rw [HM.out]; decide), HG.out, if_neg (by decide), if_neg HU.out, if_neg hf])
          have j0 := HK03.out
          have hlt0 := (Array.getElem?_eq_some_iff.1 j0).1
          have hlt1 := (Array.getElem?_eq_some_iff.1 HK13.out).1
          have a2 : w3.cell? ⟨w.heap.size, 2, none⟩ = some (.slice va l.length vc) := by simp [World.cell?, j0]
          clear j0
          go_wp2_with fail
          refine (clone_any _ l _ HV3.out hl).mono ?_
          rintro e w4 ⟨aa, ac, rfl, ho, hB⟩
          have hsz := hB.size
          have HB4 := Lib.hid (gthen HA3.out hB)
          have HO4 := Lib.hid ho
          have HK04 := Lib.hid ((hB.block _ hlt0).trans HK03.out)
          have HK14 := Lib.hid ((hB.block _ hlt1).trans HK13.out)
          have y2 : w4.cell? ⟨w.heap.size, 2, none⟩ = some (.slice va l.length vc) := by have := HK04.out; simp [World.cell?, this]
          have z2 : w4.frozen? ⟨w.heap.size, 2, none⟩ = false := by have := HK04.out; simp [World.frozen?, this]
          clear ho hB HV3 HK03 HK13 hln hll c0 a2 HH3 HA3
          go_upto_region 13 with fail
          have HA5 := Lib.hid (HB4.out.setCell (p := ⟨w.heap.size, 2, none⟩) (Nat.le_refl _) (.slice aa l.length ac))
          have HT5 := Lib.hid (HT0.out.below HA5.out)
          have HO5 : Hid (Args (w4.setCell ⟨w.heap.size, 2, none⟩ (.slice aa l.length ac)) ⟨fn, aa, ac, l, fuel, 1, 0, 0⟩) := owns_base (own_sets HO4.out (r := w.heap.size) (a := ⟨w.heap.size, 2, none⟩) hlt0 rfl (.slice aa l.length ac)) (Nat.zero_le _)
          have j0 := Go.heap_setCell_same w4 w.heap.size 2 _ _ (.slice aa l.length ac) HK04.out
          have j1 : (w4.setCell ⟨w.heap.size, 2, none⟩ (.slice aa l.length ac)).heap[w.heap.size + 1]? = _ := (Go.heap_setCell_other w4 ⟨w.heap.size, 2, none⟩ (w.heap.size + 1) (.slice aa l.length ac) (by show w.heap.size + 1 ≠ w.heap.size; omega)).trans HK14.out
          generalize w4.setCell ⟨w.heap.size, 2, none⟩ (.slice aa l.length ac) = w5 at *
          have d0 := HT5.out.c0
          have hlf : f < w5.heap.size ∧ ¬ f = m := ⟨HT5.out.lt.1, HT5.out.lt.2.2⟩
          have hmw := HT0.out.lt.2.1
          have hl0 : w.heap.size < w5.heap.size ∧ ¬ w.heap.size = m := ⟨(Array.getElem?_eq_some_iff.1 j0).1, by omega⟩
          have hl1 : w.heap.size + 1 < w5.heap.size ∧ ¬ w.heap.size + 1 = m := ⟨(Array.getElem?_eq_some_iff.1 j1).1, by omega⟩
          have a0 : w5.cell? ⟨w.heap.size, 0, none⟩ = some (.string p) := by simp [World.cell?, j0]
          have a1 : w5.cell? ⟨w.heap.size, 1, none⟩ = some (.int .i64 fn) := by simp [World.cell?, j0]
          have a2 : w5.cell? ⟨w.heap.size, 2, none⟩ = some (.slice aa l.length ac) := by simp [World.cell?, j0]
          have a3 : w5.cell? ⟨w.heap.size, 3, none⟩ = some (.int .i64 fuel) := by simp [World.cell?, j0]
          have b0 : w5.cell? ⟨w.heap.size + 1, 0, none⟩ = some (.int .u64 job) := by simp [World.cell?, j1]
          have b1 : w5.cell? ⟨w.heap.size + 1, 1, none⟩ = some (.string p) := by simp [World.cell?, j1]
          clear j0 j1 y2 z2 HK04 HK14 HO4 HB4 hsz hlt0 hlt1
          refine wp_region_held_drew (S := fun y => Fr (fun i => i = m) w5 y) (by kernel_rfl) ((Fr.refl _ _).drew) (fun hHeld => ?_)
          have HTD := Lib.hid (HT5.out.below ((Below.refl _ _).drew))
          have HOD := Lib.hid (Args.far HO5.out (w' := w5.drew) (fun i cur hi => rfl))
          have HAD := Lib.hid (gthen HA5.out ((Below.refl _ _).drew))
          clear HT5 HO5
          generalize w5.drew = wd at *
          refine wpAnyH_take (i := 0) (oi := _) (v := ?_) (by rw [List.getElem?_toArray]; exact rfl) (by kernel_rfl) (by kernel_rfl) (by kernel_rfl) (by exact fun _ _ _ h => h) (Or.inl ⟨by rfl, ?_⟩) hHeld ?_
          rotate_left
          · (intro wX hSw; have q0 := (hSw.cell (p := ⟨f, 0, none⟩) hlf.1 hlf.2).trans d0; have q1 := (hSw.cell (p := ⟨w.heap.size, 0, none⟩) hl0.1 hl0.2).trans a0; have q2 := (hSw.cell (p := ⟨w.heap.size, 1, none⟩) hl0.1 hl0.2).trans a1; have q3 := (hSw.cell (p := ⟨w.heap.size, 2, none⟩) hl0.1 hl0.2).trans a2; have q4 := (hSw.cell (p := ⟨w.heap.size, 3, none⟩) hl0.1 hl0.2).trans a3; have q5 := (hSw.cell (p := ⟨w.heap.size + 1, 0, none⟩) hl1.1 hl1.2).trans b0; have q6 := (hSw.cell (p := ⟨w.heap.size + 1, 1, none⟩) hl1.1 hl1.2).trans b1; clear hSw; go_simp; try with_reducible rfl)
          try simp only [Act.put, List.setIfInBounds_toArray, List.set_cons_zero, List.set_cons_succ]
          refine wpAnyH_take (i := 1) (oi := _) (v := ?_) (by rw [List.getElem?_toArray]; exact rfl) (by kernel_rfl) (by kernel_rfl) (by kernel_rfl) (by exact fun _ _ _ h => h) (Or.inl ⟨by rfl, ?_⟩) hHeld ?_
          rotate_left
          · (intro wX hSw; have q0 := (hSw.cell (p := ⟨f, 0, none⟩) hlf.1 hlf.2).trans d0; have q1 := (hSw.cell (p := ⟨w.heap.size, 0, none⟩) hl0.1 hl0.2).trans a0; have q2 := (hSw.cell (p := ⟨w.heap.size, 1, none⟩) hl0.1 hl0.2).trans a1; have q3 := (hSw.cell (p := ⟨w.heap.size, 2, none⟩) hl0.1 hl0.2).trans a2; have q4 := (hSw.cell (p := ⟨w.heap.size, 3, none⟩) hl0.1 hl0.2).trans a3; have q5 := (hSw.cell (p := ⟨w.heap.size + 1, 0, none⟩) hl1.1 hl1.2).trans b0; have q6 := (hSw.cell (p := ⟨w.heap.size + 1, 1, none⟩) hl1.1 hl1.2).trans b1; clear hSw; go_simp; try with_reducible rfl)
          try simp only [Act.put, List.setIfInBounds_toArray, List.set_cons_zero, List.set_cons_succ]
          refine wpAnyH_take (i := 2) (oi := _) (v := ?_) (by rw [List.getElem?_toArray]; exact rfl) (by kernel_rfl) (by kernel_rfl) (by kernel_rfl) (by exact fun _ _ _ h => h) (Or.inl ⟨by rfl, ?_⟩) hHeld ?_
          rotate_left
          · (intro wX hSw; have q0 := (hSw.cell (p := ⟨f, 0, none⟩) hlf.1 hlf.2).trans d0; have q1 := (hSw.cell (p := ⟨w.heap.size, 0, none⟩) hl0.1 hl0.2).trans a0; have q2 := (hSw.cell (p := ⟨w.heap.size, 1, none⟩) hl0.1 hl0.2).trans a1; have q3 := (hSw.cell (p := ⟨w.heap.size, 2, none⟩) hl0.1 hl0.2).trans a2; have q4 := (hSw.cell (p := ⟨w.heap.size, 3, none⟩) hl0.1 hl0.2).trans a3; have q5 := (hSw.cell (p := ⟨w.heap.size + 1, 0, none⟩) hl1.1 hl1.2).trans b0; have q6 := (hSw.cell (p := ⟨w.heap.size + 1, 1, none⟩) hl1.1 hl1.2).trans b1; clear hSw; go_simp; try with_reducible rfl)
          try simp only [Act.put, List.setIfInBounds_toArray, List.set_cons_zero, List.set_cons_succ]
          refine wpAnyH_take (i := 3) (oi := _) (v := ?_) (by rw [List.getElem?_toArray]; exact rfl) (by kernel_rfl) (by kernel_rfl) (by kernel_rfl) (by exact fun _ _ _ h => h) (Or.inl ⟨by rfl, ?_⟩) hHeld ?_
          rotate_left
          · (intro wX hSw; have q0 := (hSw.cell (p := ⟨f, 0, none⟩) hlf.1 hlf.2).trans d0; have q1 := (hSw.cell (p := ⟨w.heap.size, 0, none⟩) hl0.1 hl0.2).trans a0; have q2 := (hSw.cell (p := ⟨w.heap.size, 1, none⟩) hl0.1 hl0.2).trans a1; have q3 := (hSw.cell (p := ⟨w.heap.size, 2, none⟩) hl0.1 hl0.2).trans a2; have q4 := (hSw.cell (p := ⟨w.heap.size, 3, none⟩) hl0.1 hl0.2).trans a3; have q5 := (hSw.cell (p := ⟨w.heap.size + 1, 0, none⟩) hl1.1 hl1.2).trans b0; have q6 := (hSw.cell (p := ⟨w.heap.size + 1, 1, none⟩) hl1.1 hl1.2).trans b1; clear hSw; go_simp; try with_reducible rfl)
          try simp only [Act.put, List.setIfInBounds_toArray, List.set_cons_zero, List.set_cons_succ]
          refine wpAnyH_take (i := 4) (oi := _) (v := ?_) (by rw [List.getElem?_toArray]; exact rfl) (by kernel_rfl) (by kernel_rfl) (by kernel_rfl) (by exact fun _ _ _ h => h) (Or.inl ⟨by rfl, ?_⟩) hHeld ?_
          rotate_left
          · (intro wX hSw; have q0 := (hSw.cell (p := ⟨f, 0, none⟩) hlf.1 hlf.2).trans d0; have q1 := (hSw.cell (p := ⟨w.heap.size, 0, none⟩) hl0.1 hl0.2).trans a0; have q2 := (hSw.cell (p := ⟨w.heap.size, 1, none⟩) hl0.1 hl0.2).trans a1; have q3 := (hSw.cell (p := ⟨w.heap.size, 2, none⟩) hl0.1 hl0.2).trans a2; have q4 := (hSw.cell (p := ⟨w.heap.size, 3, none⟩) hl0.1 hl0.2).trans a3; have q5 := (hSw.cell (p := ⟨w.heap.size + 1, 0, none⟩) hl1.1 hl1.2).trans b0; have q6 := (hSw.cell (p := ⟨w.heap.size + 1, 1, none⟩) hl1.1 hl1.2).trans b1; clear hSw; go_simp; try with_reducible rfl)
          try simp only [Act.put, List.setIfInBounds_toArray, List.set_cons_zero, List.set_cons_succ]
          refine wpAnyH_take (i := 5) (oi := _) (v := ?_) (by rw [List.getElem?_toArray]; exact rfl) (by kernel_rfl) (by kernel_rfl) (by kernel_rfl) (by exact fun _ _ _ h => h) (Or.inl ⟨by rfl, ?_⟩) hHeld ?_
          rotate_left
          · (intro wX hSw; have q0 := (hSw.cell (p := ⟨f, 0, none⟩) hlf.1 hlf.2).trans d0; have q1 := (hSw.cell (p := ⟨w.heap.size, 0, none⟩) hl0.1 hl0.2).trans a0; have q2 := (hSw.cell (p := ⟨w.heap.size, 1, none⟩) hl0.1 hl0.2).trans a1; have q3 := (hSw.cell (p := ⟨w.heap.size, 2, none⟩) hl0.1 hl0.2).trans a2; have q4 := (hSw.cell (p := ⟨w.heap.size, 3, none⟩) hl0.1 hl0.2).trans a3; have q5 := (hSw.cell (p := ⟨w.heap.size + 1, 0, none⟩) hl1.1 hl1.2).trans b0; have q6 := (hSw.cell (p := ⟨w.heap.size + 1, 1, none⟩) hl1.1 hl1.2).trans b1; clear hSw; go_simp; try with_reducible rfl)
          try simp only [Act.put, List.setIfInBounds_toArray, List.set_cons_zero, List.set_cons_succ]
          refine wpAnyH_take (i := 6) (oi := _) (v := ?_) (by rw [List.getElem?_toArray]; exact rfl) (by kernel_rfl) (by kernel_rfl) (by kernel_rfl) (by exact fun _ _ _ h => h) (Or.inl ⟨by rfl, ?_⟩) hHeld ?_
          rotate_left
          · (intro wX hSw; have q0 := (hSw.cell (p := ⟨f, 0, none⟩) hlf.1 hlf.2).trans d0; have q1 := (hSw.cell (p := ⟨w.heap.size, 0, none⟩) hl0.1 hl0.2).trans a0; have q2 := (hSw.cell (p := ⟨w.heap.size, 1, none⟩) hl0.1 hl0.2).trans a1; have q3 := (hSw.cell (p := ⟨w.heap.size, 2, none⟩) hl0.1 hl0.2).trans a2; have q4 := (hSw.cell (p := ⟨w.heap.size, 3, none⟩) hl0.1 hl0.2).trans a3; have q5 := (hSw.cell (p := ⟨w.heap.size + 1, 0, none⟩) hl1.1 hl1.2).trans b0; have q6 := (hSw.cell (p := ⟨w.heap.size + 1, 1, none⟩) hl1.1 hl1.2).trans b1; clear hSw; go_simp; try with_reducible rfl)
          try simp only [Act.put, List.setIfInBounds_toArray, List.set_cons_zero, List.set_cons_succ]
          refine wpAnyH_take (i := 7) (oi := _) (v := ?_) (by rw [List.getElem?_toArray]; exact rfl) (by kernel_rfl) (by kernel_rfl) (by kernel_rfl) (by exact fun _ _ _ h => h) (Or.inl ⟨by rfl, ?_⟩) hHeld ?_
          rotate_left
          · (intro wX hSw; have q0 := (hSw.cell (p := ⟨f, 0, none⟩) hlf.1 hlf.2).trans d0; have q1 := (hSw.cell (p := ⟨w.heap.size, 0, none⟩) hl0.1 hl0.2).trans a0; have q2 := (hSw.cell (p := ⟨w.heap.size, 1, none⟩) hl0.1 hl0.2).trans a1; have q3 := (hSw.cell (p := ⟨w.heap.size, 2, none⟩) hl0.1 hl0.2).trans a2; have q4 := (hSw.cell (p := ⟨w.heap.size, 3, none⟩) hl0.1 hl0.2).trans a3; have q5 := (hSw.cell (p := ⟨w.heap.size + 1, 0, none⟩) hl1.1 hl1.2).trans b0; have q6 := (hSw.cell (p := ⟨w.heap.size + 1, 1, none⟩) hl1.1 hl1.2).trans b1; clear hSw; go_simp; try with_reducible rfl)
          try simp only [Act.put, List.setIfInBounds_toArray, List.set_cons_zero, List.set_cons_succ]
          refine wpAnyH_take (i := 8) (oi := _) (v := ?_) (by rw [List.getElem?_toArray]; exact rfl) (by kernel_rfl) (by kernel_rfl) (by kernel_rfl) (by exact fun _ _ _ h => h) (Or.inl ⟨by rfl, ?_⟩) hHeld ?_
          rotate_left
          · (intro wX hSw; have q0 := (hSw.cell (p := ⟨f, 0, none⟩) hlf.1 hlf.2).trans d0; have q1 := (hSw.cell (p := ⟨w.heap.size, 0, none⟩) hl0.1 hl0.2).trans a0; have q2 := (hSw.cell (p := ⟨w.heap.size, 1, none⟩) hl0.1 hl0.2).trans a1; have q3 := (hSw.cell (p := ⟨w.heap.size, 2, none⟩) hl0.1 hl0.2).trans a2; have q4 := (hSw.cell (p := ⟨w.heap.size, 3, none⟩) hl0.1 hl0.2).trans a3; have q5 := (hSw.cell (p := ⟨w.heap.size + 1, 0, none⟩) hl1.1 hl1.2).trans b0; have q6 := (hSw.cell (p := ⟨w.heap.size + 1, 1, none⟩) hl1.1 hl1.2).trans b1; clear hSw; go_simp; try with_reducible rfl)
          try simp only [Act.put, List.setIfInBounds_toArray, List.set_cons_zero, List.set_cons_succ]
          refine wpAnyH_ready (rs := [9]) (by kernel_rfl) (by simp) ?_
          refine AllReadyH.cons (o := _) (by rw [List.getElem?_toArray]; exact rfl) (fun K hK => ?_) ?_
          · go_simp
            refine hK.out _ _ (hHeld.alloc _) (fun hHeld => ?_)
            clear hK K
            try simp only [Act.put, List.setIfInBounds_toArray, List.set_cons_zero, List.set_cons_succ]
            refine wpAnyH_ready (rs := [10]) (by kernel_rfl) (by simp) ?_
            refine AllReadyH.cons (o := _) (by rw [List.getElem?_toArray]; exact rfl) (fun K hK => ?_) ?_
            · obtain ⟨w9, hrun, hM, hO⟩ := (HTD.out.map.block (Below.heap_alloc wd (rowO (job, p) ⟨fn, aa, ac, l, fuel, 1, 0, 0⟩) _ HTD.out.lt.2.1)).update (P := Try.prog) nameTy Try.underlying65 (job, p) wd.heap.size
              unfold rowO encN evP at hrun
              go_simp
              refine hK.out _ _ (hHeld.only hO rfl) (fun hHeld => ?_)
              clear hK K
              try simp only [Act.put, List.setIfInBounds_toArray, List.set_cons_zero, List.set_cons_succ]
              refine wpAnyH_done (by kernel_rfl) ?_ _
              have HT := Lib.hid (HTD.out.more (r := ⟨fn, aa, ac, l, fuel, 1, 0, 0⟩) HG.out HOD.out hM hO)
              have HF := Lib.hid ((Fr.of_below HA5.out).trans hHeld)
              have hbs : w.heap.size ≤ wd.heap.size := HAD.out.size
              clear hHeld hM hO hrun HTD HOD HAD HA5 HG
              go_wp2_with fail
              go_ret
              exact ⟨ret_intE he.out.symm, .inr ⟨he.out, wd.heap.size, aa, ac, hbs, HT.out, HF.out⟩⟩
            exact AllReadyH.nil
          exact AllReadyH.nil
      · have hpe2 : (!p.toList.isEmpty) = true := by simpa using hpe
        have HPE := Lib.hid hpe
        clear hpe
        go_wp2_with fail
        refine (above_tab f m T (job, p) w2 HH2.out hp).mono ?_
        rintro e w3 ⟨rfl, hB⟩
        have HH3 := Lib.hid (HH2.out.below hB)
        have HV3 := Lib.hid (HV2.out.below hB)
        have HA3 := Lib.hid (gthen HA2.out hB)
        have HK03 := Lib.hid ((hB.block _ hlt0).trans HK02.out)
        have HK13 := Lib.hid ((hB.block _ hlt1).trans HK12.out)
        clear hB HH2 HV2 HA2 HK02 HK12 a1 b0 b1 hlt0 hlt1
        rcases aboveP_cases T (job, p) with ⟨hu, ha⟩ | ⟨u, ub, ur, hu, _, ha⟩
        · have he := Lib.hid (show addE T (job, p) = 5 by unfold addE; rw [if_neg (by show ¬ mayS p = false; rw [HM.out]; decide), HG.out, if_neg (by decide), if_pos ⟨HPE.out, hu⟩])
          rw [ha]
          clear ha hu
          go_wp2_with fail
          go_ret
          exact ⟨ret_intE he.out.symm, .inl ⟨by rw [he.out]; decide, HH3.out, HA3.out⟩⟩
        · have HU := Lib.hid (show ¬ (((job, p) : Nm).2.toList ≠ [] ∧ upN (hasT T) (job, p) = none) from fun h => by rw [hu] at h; cases h.2)
          rw [ha]
          clear ha hu hpe2
          go_upto_region 10 with fail
          have hln := fun ty => HH3.out.map.len (P := Try.prog) (k := 29) Try.underlying65 ty
          have hll : ((mapT T).length : Int) = T.length := by unfold mapT; simp
          rw [hll] at hln
          have c0 := HH3.out.c0
          by_cases hf : 1024 ≤ T.length
          · have he := Lib.hid (show addE T (job, p) = 6 by unfold addE; rw [if_neg (by show ¬ mayS p = false; rw [HM.out]; decide), HG.out, if_neg (by decide), if_neg HU.out, if_pos hf])
            go_wp2_with fail
            go_ret
            exact ⟨ret_intE he.out.symm, .inl ⟨by rw [he.out]; decide, HH3.out, HA3.out⟩⟩
          · have he := Lib.hid (show addE T (job, p) = 0 by unfold addE; rw [if_neg (by show ¬ mayS p = false; rw [HM.out]; decide), HG.out, if_neg (by decide), if_neg HU.out, if_neg hf])
            have j0 := HK03.out
            have hlt0 := (Array.getElem?_eq_some_iff.1 j0).1
            have hlt1 := (Array.getElem?_eq_some_iff.1 HK13.out).1
            have a2 : w3.cell? ⟨w.heap.size, 2, none⟩ = some (.slice va l.length vc) := by simp [World.cell?, j0]
            clear j0
            go_wp2_with fail
            refine (clone_any _ l _ HV3.out hl).mono ?_
            rintro e w4 ⟨aa, ac, rfl, ho, hB⟩
            have hsz := hB.size
            have HB4 := Lib.hid (gthen HA3.out hB)
            have HO4 := Lib.hid ho
            have HK04 := Lib.hid ((hB.block _ hlt0).trans HK03.out)
            have HK14 := Lib.hid ((hB.block _ hlt1).trans HK13.out)
            have y2 : w4.cell? ⟨w.heap.size, 2, none⟩ = some (.slice va l.length vc) := by have := HK04.out; simp [World.cell?, this]
            have z2 : w4.frozen? ⟨w.heap.size, 2, none⟩ = false := by have := HK04.out; simp [World.frozen?, this]
            clear ho hB HV3 HK03 HK13 hln hll c0 a2 HH3 HA3
            go_upto_region 13 with fail
            have HA5 := Lib.hid (HB4.out.setCell (p := ⟨w.heap.size, 2, none⟩) (Nat.le_refl _) (.slice aa l.length ac))
            have HT5 := Lib.hid (HT0.out.below HA5.out)
            have HO5 : Hid (Args (w4.setCell ⟨w.heap.size, 2, none⟩ (.slice aa l.length ac)) ⟨fn, aa, ac, l, fuel, 1, 0, 0⟩) := owns_base (own_sets HO4.out (r := w.heap.size) (a := ⟨w.heap.size, 2, none⟩) hlt0 rfl (.slice aa l.length ac)) (Nat.zero_le _)
            have j0 := Go.heap_setCell_same w4 w.heap.size 2 _ _ (.slice aa l.length ac) HK04.out
            have j1 : (w4.setCell ⟨w.heap.size, 2, none⟩ (.slice aa l.length ac)).heap[w.heap.size + 1]? = _ := (Go.heap_setCell_other w4 ⟨w.heap.size, 2, none⟩ (w.heap.size + 1) (.slice aa l.length ac) (by show w.heap.size + 1 ≠ w.heap.size; omega)).trans HK14.out
            generalize w4.setCell ⟨w.heap.size, 2, none⟩ (.slice aa l.length ac) = w5 at *
            have d0 := HT5.out.c0
            have hlf : f < w5.heap.size ∧ ¬ f = m := ⟨HT5.out.lt.1, HT5.out.lt.2.2⟩
            have hmw := HT0.out.lt.2.1
            have hl0 : w.heap.size < w5.heap.size ∧ ¬ w.heap.size = m := ⟨(Array.getElem?_eq_some_iff.1 j0).1, by omega⟩
            have hl1 : w.heap.size + 1 < w5.heap.size ∧ ¬ w.heap.size + 1 = m := ⟨(Array.getElem?_eq_some_iff.1 j1).1, by omega⟩
            have a0 : w5.cell? ⟨w.heap.size, 0, none⟩ = some (.string p) := by simp [World.cell?, j0]
            have a1 : w5.cell? ⟨w.heap.size, 1, none⟩ = some (.int .i64 fn) := by simp [World.cell?, j0]
            have a2 : w5.cell? ⟨w.heap.size, 2, none⟩ = some (.slice aa l.length ac) := by simp [World.cell?, j0]
            have a3 : w5.cell? ⟨w.heap.size, 3, none⟩ = some (.int .i64 fuel) := by simp [World.cell?, j0]
            have b0 : w5.cell? ⟨w.heap.size + 1, 0, none⟩ = some (.int .u64 job) := by simp [World.cell?, j1]
            have b1 : w5.cell? ⟨w.heap.size + 1, 1, none⟩ = some (.string p) := by simp [World.cell?, j1]
            clear j0 j1 y2 z2 HK04 HK14 HO4 HB4 hsz hlt0 hlt1
            refine wp_region_held_drew (S := fun y => Fr (fun i => i = m) w5 y) (by kernel_rfl) ((Fr.refl _ _).drew) (fun hHeld => ?_)
            have HTD := Lib.hid (HT5.out.below ((Below.refl _ _).drew))
            have HOD := Lib.hid (Args.far HO5.out (w' := w5.drew) (fun i cur hi => rfl))
            have HAD := Lib.hid (gthen HA5.out ((Below.refl _ _).drew))
            clear HT5 HO5
            generalize w5.drew = wd at *
            refine wpAnyH_take (i := 0) (oi := _) (v := ?_) (by rw [List.getElem?_toArray]; exact rfl) (by kernel_rfl) (by kernel_rfl) (by kernel_rfl) (by exact fun _ _ _ h => h) (Or.inl ⟨by rfl, ?_⟩) hHeld ?_
            rotate_left
            · (intro wX hSw; have q0 := (hSw.cell (p := ⟨f, 0, none⟩) hlf.1 hlf.2).trans d0; have q1 := (hSw.cell (p := ⟨w.heap.size, 0, none⟩) hl0.1 hl0.2).trans a0; have q2 := (hSw.cell (p := ⟨w.heap.size, 1, none⟩) hl0.1 hl0.2).trans a1; have q3 := (hSw.cell (p := ⟨w.heap.size, 2, none⟩) hl0.1 hl0.2).trans a2; have q4 := (hSw.cell (p := ⟨w.heap.size, 3, none⟩) hl0.1 hl0.2).trans a3; have q5 := (hSw.cell (p := ⟨w.heap.size + 1, 0, none⟩) hl1.1 hl1.2).trans b0; have q6 := (hSw.cell (p := ⟨w.heap.size + 1, 1, none⟩) hl1.1 hl1.2).trans b1; clear hSw; go_simp; try with_reducible rfl)
            try simp only [Act.put, List.setIfInBounds_toArray, List.set_cons_zero, List.set_cons_succ]
            refine wpAnyH_take (i := 1) (oi := _) (v := ?_) (by rw [List.getElem?_toArray]; exact rfl) (by kernel_rfl) (by kernel_rfl) (by kernel_rfl) (by exact fun _ _ _ h => h) (Or.inl ⟨by rfl, ?_⟩) hHeld ?_
            rotate_left
            · (intro wX hSw; have q0 := (hSw.cell (p := ⟨f, 0, none⟩) hlf.1 hlf.2).trans d0; have q1 := (hSw.cell (p := ⟨w.heap.size, 0, none⟩) hl0.1 hl0.2).trans a0; have q2 := (hSw.cell (p := ⟨w.heap.size, 1, none⟩) hl0.1 hl0.2).trans a1; have q3 := (hSw.cell (p := ⟨w.heap.size, 2, none⟩) hl0.1 hl0.2).trans a2; have q4 := (hSw.cell (p := ⟨w.heap.size, 3, none⟩) hl0.1 hl0.2).trans a3; have q5 := (hSw.cell (p := ⟨w.heap.size + 1, 0, none⟩) hl1.1 hl1.2).trans b0; have q6 := (hSw.cell (p := ⟨w.heap.size + 1, 1, none⟩) hl1.1 hl1.2).trans b1; clear hSw; go_simp; try with_reducible rfl)
            try simp only [Act.put, List.setIfInBounds_toArray, List.set_cons_zero, List.set_cons_succ]
            refine wpAnyH_take (i := 2) (oi := _) (v := ?_) (by rw [List.getElem?_toArray]; exact rfl) (by kernel_rfl) (by kernel_rfl) (by kernel_rfl) (by exact fun _ _ _ h => h) (Or.inl ⟨by rfl, ?_⟩) hHeld ?_
            rotate_left
            · (intro wX hSw; have q0 := (hSw.cell (p := ⟨f, 0, none⟩) hlf.1 hlf.2).trans d0; have q1 := (hSw.cell (p := ⟨w.heap.size, 0, none⟩) hl0.1 hl0.2).trans a0; have q2 := (hSw.cell (p := ⟨w.heap.size, 1, none⟩) hl0.1 hl0.2).trans a1; have q3 := (hSw.cell (p := ⟨w.heap.size, 2, none⟩) hl0.1 hl0.2).trans a2; have q4 := (hSw.cell (p := ⟨w.heap.size, 3, none⟩) hl0.1 hl0.2).trans a3; have q5 := (hSw.cell (p := ⟨w.heap.size + 1, 0, none⟩) hl1.1 hl1.2).trans b0; have q6 := (hSw.cell (p := ⟨w.heap.size + 1, 1, none⟩) hl1.1 hl1.2).trans b1; clear hSw; go_simp; try with_reducible rfl)
            try simp only [Act.put, List.setIfInBounds_toArray, List.set_cons_zero, List.set_cons_succ]
            refine wpAnyH_take (i := 3) (oi := _) (v := ?_) (by rw [List.getElem?_toArray]; exact rfl) (by kernel_rfl) (by kernel_rfl) (by kernel_rfl) (by exact fun _ _ _ h => h) (Or.inl ⟨by rfl, ?_⟩) hHeld ?_
            rotate_left
            · (intro wX hSw; have q0 := (hSw.cell (p := ⟨f, 0, none⟩) hlf.1 hlf.2).trans d0; have q1 := (hSw.cell (p := ⟨w.heap.size, 0, none⟩) hl0.1 hl0.2).trans a0; have q2 := (hSw.cell (p := ⟨w.heap.size, 1, none⟩) hl0.1 hl0.2).trans a1; have q3 := (hSw.cell (p := ⟨w.heap.size, 2, none⟩) hl0.1 hl0.2).trans a2; have q4 := (hSw.cell (p := ⟨w.heap.size, 3, none⟩) hl0.1 hl0.2).trans a3; have q5 := (hSw.cell (p := ⟨w.heap.size + 1, 0, none⟩) hl1.1 hl1.2).trans b0; have q6 := (hSw.cell (p := ⟨w.heap.size + 1, 1, none⟩) hl1.1 hl1.2).trans b1; clear hSw; go_simp; try with_reducible rfl)
            try simp only [Act.put, List.setIfInBounds_toArray, List.set_cons_zero, List.set_cons_succ]
            refine wpAnyH_take (i := 4) (oi := _) (v := ?_) (by rw [List.getElem?_toArray]; exact rfl) (by kernel_rfl) (by kernel_rfl) (by kernel_rfl) (by exact fun _ _ _ h => h) (Or.inl ⟨by rfl, ?_⟩) hHeld ?_
            rotate_left
            · (intro wX hSw; have q0 := (hSw.cell (p := ⟨f, 0, none⟩) hlf.1 hlf.2).trans d0; have q1 := (hSw.cell (p := ⟨w.heap.size, 0, none⟩) hl0.1 hl0.2).trans a0; have q2 := (hSw.cell (p := ⟨w.heap.size, 1, none⟩) hl0.1 hl0.2).trans a1; have q3 := (hSw.cell (p := ⟨w.heap.size, 2, none⟩) hl0.1 hl0.2).trans a2; have q4 := (hSw.cell (p := ⟨w.heap.size, 3, none⟩) hl0.1 hl0.2).trans a3; have q5 := (hSw.cell (p := ⟨w.heap.size + 1, 0, none⟩) hl1.1 hl1.2).trans b0; have q6 := (hSw.cell (p := ⟨w.heap.size + 1, 1, none⟩) hl1.1 hl1.2).trans b1; clear hSw; go_simp; try with_reducible rfl)
            try simp only [Act.put, List.setIfInBounds_toArray, List.set_cons_zero, List.set_cons_succ]
            refine wpAnyH_take (i := 5) (oi := _) (v := ?_) (by rw [List.getElem?_toArray]; exact rfl) (by kernel_rfl) (by kernel_rfl) (by kernel_rfl) (by exact fun _ _ _ h => h) (Or.inl ⟨by rfl, ?_⟩) hHeld ?_
            rotate_left
            · (intro wX hSw; have q0 := (hSw.cell (p := ⟨f, 0, none⟩) hlf.1 hlf.2).trans d0; have q1 := (hSw.cell (p := ⟨w.heap.size, 0, none⟩) hl0.1 hl0.2).trans a0; have q2 := (hSw.cell (p := ⟨w.heap.size, 1, none⟩) hl0.1 hl0.2).trans a1; have q3 := (hSw.cell (p := ⟨w.heap.size, 2, none⟩) hl0.1 hl0.2).trans a2; have q4 := (hSw.cell (p := ⟨w.heap.size, 3, none⟩) hl0.1 hl0.2).trans a3; have q5 := (hSw.cell (p := ⟨w.heap.size + 1, 0, none⟩) hl1.1 hl1.2).trans b0; have q6 := (hSw.cell (p := ⟨w.heap.size + 1, 1, none⟩) hl1.1 hl1.2).trans b1; clear hSw; go_simp; try with_reducible rfl)
            try simp only [Act.put, List.setIfInBounds_toArray, List.set_cons_zero, List.set_cons_succ]
            refine wpAnyH_take (i := 6) (oi := _) (v := ?_) (by rw [List.getElem?_toArray]; exact rfl) (by kernel_rfl) (by kernel_rfl) (by kernel_rfl) (by exact fun _ _ _ h => h) (Or.inl ⟨by rfl, ?_⟩) hHeld ?_
            rotate_left
            · (intro wX hSw; have q0 := (hSw.cell (p := ⟨f, 0, none⟩) hlf.1 hlf.2).trans d0; have q1 := (hSw.cell (p := ⟨w.heap.size, 0, none⟩) hl0.1 hl0.2).trans a0; have q2 := (hSw.cell (p := ⟨w.heap.size, 1, none⟩) hl0.1 hl0.2).trans a1; have q3 := (hSw.cell (p := ⟨w.heap.size, 2, none⟩) hl0.1 hl0.2).trans a2; have q4 := (hSw.cell (p := ⟨w.heap.size, 3, none⟩) hl0.1 hl0.2).trans a3; have q5 := (hSw.cell (p := ⟨w.heap.size + 1, 0, none⟩) hl1.1 hl1.2).trans b0; have q6 := (hSw.cell (p := ⟨w.heap.size + 1, 1, none⟩) hl1.1 hl1.2).trans b1; clear hSw; go_simp; try with_reducible rfl)
            try simp only [Act.put, List.setIfInBounds_toArray, List.set_cons_zero, List.set_cons_succ]
            refine wpAnyH_take (i := 7) (oi := _) (v := ?_) (by rw [List.getElem?_toArray]; exact rfl) (by kernel_rfl) (by kernel_rfl) (by kernel_rfl) (by exact fun _ _ _ h => h) (Or.inl ⟨by rfl, ?_⟩) hHeld ?_
            rotate_left
            · (intro wX hSw; have q0 := (hSw.cell (p := ⟨f, 0, none⟩) hlf.1 hlf.2).trans d0; have q1 := (hSw.cell (p := ⟨w.heap.size, 0, none⟩) hl0.1 hl0.2).trans a0; have q2 := (hSw.cell (p := ⟨w.heap.size, 1, none⟩) hl0.1 hl0.2).trans a1; have q3 := (hSw.cell (p := ⟨w.heap.size, 2, none⟩) hl0.1 hl0.2).trans a2; have q4 := (hSw.cell (p := ⟨w.heap.size, 3, none⟩) hl0.1 hl0.2).trans a3; have q5 := (hSw.cell (p := ⟨w.heap.size + 1, 0, none⟩) hl1.1 hl1.2).trans b0; have q6 := (hSw.cell (p := ⟨w.heap.size + 1, 1, none⟩) hl1.1 hl1.2).trans b1; clear hSw; go_simp; try with_reducible rfl)
            try simp only [Act.put, List.setIfInBounds_toArray, List.set_cons_zero, List.set_cons_succ]
            refine wpAnyH_take (i := 8) (oi := _) (v := ?_) (by rw [List.getElem?_toArray]; exact rfl) (by kernel_rfl) (by kernel_rfl) (by kernel_rfl) (by exact fun _ _ _ h => h) (Or.inl ⟨by rfl, ?_⟩) hHeld ?_
            rotate_left
            · (intro wX hSw; have q0 := (hSw.cell (p := ⟨f, 0, none⟩) hlf.1 hlf.2).trans d0; have q1 := (hSw.cell (p := ⟨w.heap.size, 0, none⟩) hl0.1 hl0.2).trans a0; have q2 := (hSw.cell (p := ⟨w.heap.size, 1, none⟩) hl0.1 hl0.2).trans a1; have q3 := (hSw.cell (p := ⟨w.heap.size, 2, none⟩) hl0.1 hl0.2).trans a2; have q4 := (hSw.cell (p := ⟨w.heap.size, 3, none⟩) hl0.1 hl0.2).trans a3; have q5 := (hSw.cell (p := ⟨w.heap.size + 1, 0, none⟩) hl1.1 hl1.2).trans b0; have q6 := (hSw.cell (p := ⟨w.heap.size + 1, 1, none⟩) hl1.1 hl1.2).trans b1; clear hSw; go_simp; try with_reducible rfl)
            try simp only [Act.put, List.setIfInBounds_toArray, List.set_cons_zero, List.set_cons_succ]
            refine wpAnyH_ready (rs := [9]) (by kernel_rfl) (by simp) ?_
            refine AllReadyH.cons (o := _) (by rw [List.getElem?_toArray]; exact rfl) (fun K hK => ?_) ?_
            · go_simp
              refine hK.out _ _ (hHeld.alloc _) (fun hHeld => ?_)
              clear hK K
              try simp only [Act.put, List.setIfInBounds_toArray, List.set_cons_zero, List.set_cons_succ]
              refine wpAnyH_ready (rs := [10]) (by kernel_rfl) (by simp) ?_
              refine AllReadyH.cons (o := _) (by rw [List.getElem?_toArray]; exact rfl) (fun K hK => ?_) ?_
              · obtain ⟨w9, hrun, hM, hO⟩ := (HTD.out.map.block (Below.heap_alloc wd (rowO (job, p) ⟨fn, aa, ac, l, fuel, 1, 0, 0⟩) _ HTD.out.lt.2.1)).update (P := Try.prog) nameTy Try.underlying65 (job, p) wd.heap.size
                unfold rowO encN evP at hrun
                go_simp
                refine hK.out _ _ (hHeld.only hO rfl) (fun hHeld => ?_)
                clear hK K
                try simp only [Act.put, List.setIfInBounds_toArray, List.set_cons_zero, List.set_cons_succ]
                refine wpAnyH_done (by kernel_rfl) ?_ _
                have HT := Lib.hid (HTD.out.more (r := ⟨fn, aa, ac, l, fuel, 1, 0, 0⟩) HG.out HOD.out hM hO)
                have HF := Lib.hid ((Fr.of_below HA5.out).trans hHeld)
                have hbs : w.heap.size ≤ wd.heap.size := HAD.out.size
                clear hHeld hM hO hrun HTD HOD HAD HA5 HG
                go_wp2_with fail
                go_ret
                exact ⟨ret_intE he.out.symm, .inr ⟨he.out, wd.heap.size, aa, ac, hbs, HT.out, HF.out⟩⟩
              exact AllReadyH.nil
            exact AllReadyH.nil
end Go.Proofs.Ytpdnebimkfejoaa
namespace Go.Proofs.Ytpdnebimkfejoaa
open Go.RowKit Go.Sort Go.Lib

def updT (T : Tb) (n : Nm) (r' : Rw) : Tb := T.map fun p => if p.1 = n then (p.1, p.2.1, r') else p
theorem updT_len (T : Tb) (n : Nm) (r : Rw) : (updT T n r).length = T.length := by unfold updT; simp
theorem mapT_upd (T : Tb) (n : Nm) (r : Rw) : mapT (updT T n r) = mapT T := by
  unfold mapT updT
  rw [List.map_map]
  apply List.map_congr_left
  intro p _
  simp only [Function.comp]
  split <;> rfl
theorem Tab.keys {w : World} {f m : Nat} {T : Tb} (h : Tab w f m T) : (T.map (·.1)).Nodup := by
  obtain ⟨_, _, _, _, hn, _⟩ := h.map
  rwa [mapT_keys] at hn
theorem Tab.set {w w' : World} {f m : Nat} {T : Tb} {n : Nm} {b : Nat} {r r' : Rw} (h : Tab w f m T) (hg : getL T n = some (b, r)) (hF : Fr (fun i => i = b) w w') (hb : w'.heap[b]? = some (rowO n r'))
    (ha : r'.aa = r.aa ∧ r'.ac = r.ac ∧ r'.args = r.args) : Tab w' f m (updT T n r') := by
  have hmem := getL_mem' hg
  have hrow := h.row _ hmem
  have hbm : b ≠ m := h.notMap hrow.1
  have hbf : b ≠ f := by
    rintro rfl
    have h1 := hrow.1
    rw [h.box] at h1
    simp [rowO] at h1
  have hk : ∀ i, i < w.heap.size → i ≠ b → w'.heap[i]? = w.heap[i]? := fun i hi hn => hF.block i hi hn
  have hargs : ∀ q : Rw, Args w q → Args w' q := fun q hq => Args.far hq (fun i cur hi => hk i (Array.getElem?_eq_some_iff.1 hi).1 (by
    rintro rfl
    have h1 := hrow.1
    rw [hi] at h1
    unfold rowO at h1
    injection h1 with h1; injection h1 with _ h1 _; cases h1))
  refine ⟨(hk f h.lt.1 (fun e => hbf e.symm)).trans h.box, by rw [mapT_upd]; exact h.map.block (hk m h.lt.2.1 (fun e => hbm e.symm)), ?_, ?_⟩
  · intro p hp
    unfold updT at hp
    obtain ⟨q, hq, rfl⟩ := List.mem_map.1 hp
    by_cases hqn : q.1 = n
    · rw [if_pos hqn]
      have hqe : q = (n, b, r) := eq_of_keyV h.keys hq hmem hqn
      subst hqe
      refine ⟨hb, ?_⟩
      have := hargs _ hrow.2
      unfold Args at this ⊢
      rw [ha.1, ha.2.1, ha.2.2]
      exact this
    · rw [if_neg hqn]
      have hqb : q.2.1 ≠ b := by
        intro e
        have hnd := h.nd
        obtain ⟨i, hi, hqi⟩ := List.getElem_of_mem hq
        obtain ⟨j, hj, hmj⟩ := List.getElem_of_mem hmem
        have : i = j := by
          by_cases hij : i = j
          · exact hij
          · have hpw := List.pairwise_iff_getElem.1 hnd
            rcases Nat.lt_or_gt_of_ne hij with hl | hl
            · exact absurd (by rw [List.getElem_map, List.getElem_map, hqi, hmj]; exact e) (hpw i j (by simpa using hi) (by simpa using hj) hl)
            · exact absurd (by rw [List.getElem_map, List.getElem_map, hqi, hmj]; exact e.symm) (hpw j i (by simpa using hj) (by simpa using hi) hl)
        subst this
        rw [hqi] at hmj
        rw [hmj] at hqn
        exact hqn rfl
      have hr := h.row q hq
      exact ⟨(hk _ (Array.getElem?_eq_some_iff.1 hr.1).1 hqb).trans hr.1, hargs _ hr.2⟩
  · have : (updT T n r').map (·.2.1) = T.map (·.2.1) := by
      unfold updT
      rw [List.map_map]
      apply List.map_congr_left
      intro p _
      simp only [Function.comp]
      split <;> rfl
    rw [this]; exact h.nd
theorem args_reads {w : World} {r : Rw} (h : Args w r) : ReadsK encI 1 w (.slice r.aa r.args.length r.ac) r.args := own_readsK (enc := encI) (k := 1) (fun _ => rfl) (by decide) h
theorem ofP_cases (T : Tb) (n : Nm) : (getL T n = none ∧ ofP T n = (.pointer none, 5)) ∨ ∃ b r, getL T n = some (b, r) ∧ ofP T n = (.pointer (some ⟨b, 0, none⟩), 0) := by
  unfold ofP
  cases hg : getL T n with
  | none => exact .inl ⟨rfl, rfl⟩
  | some br => exact .inr ⟨br.1, br.2, rfl, rfl⟩
def InRows (T : Tb) (i : Nat) : Prop := ∃ p ∈ T, p.2.1 = i
theorem inRows {T : Tb} {n : Nm} {b : Nat} {r : Rw} (h : getL T n = some (b, r)) {i : Nat} (e : i = b) : InRows T i := ⟨_, getL_mem' h, e.symm⟩
def holdE (T : Tb) (n : Nm) (k e : Int) : Int := match getL T n with
  | none => 5
  | some (_, r) => if k < 1 ∨ 32 < k ∨ e < 1 ∨ 281474976710656 < e then 2 else if r.st ≠ 1 then 3 else 0
def holdT (T : Tb) (n : Nm) (k e : Int) : Tb := match getL T n with
  | none => T
  | some (_, r) => if holdE T n k e = 0 then updT T n { r with st := 2, wk := k, ep := e } else T
def overE (T : Tb) (n : Nm) : Int := match getL T n with
  | none => 5
  | some (_, r) => if r.st = 3 then 3 else 0
def overT (T : Tb) (n : Nm) : Tb := match getL T n with
  | none => T
  | some (_, r) => if r.st = 3 then T else updT T n { r with st := 3, wk := 0, ep := 0 }
set_option maxHeartbeats 1600000 in
set_option maxRecDepth 100000 in
theorem hold_tab (f m : Nat) (T : Tb) (n : Nm) (k e : Int) (w : World) (h : Tab w f m T) :
    Calls Try.prog 20 #[.pointer (some ⟨f, 0, none⟩), .agg #[.int .u64 n.1, .string n.2], .int .i64 k, .int .u64 e] w fun e' w' => e' = .returned (.int .i64 (holdE T n k e)) ∧ Tab w' f m (holdT T n k e) ∧ Fr (InRows T) w w' := by
  have hA : Below w.heap.size w (w.alloc (.cells #[.int .u64 n.1, .string n.2] 29)) := (Below.refl _ _).alloc (Nat.le_refl _) _
  have HH := Lib.hid (h.below hA)
  have HA := Lib.hid hA
  clear h hA
  go_enter Try.func20, Try.ntmps20
  go_wp2_with fail
  refine (of_tab f m T n _ HH.out).mono ?_
  rintro e' w2 ⟨rfl, hB⟩
  have HH2 := Lib.hid (HH.out.below hB)
  have HA2 := Lib.hid (gthen HA.out hB)
  clear HH HA hB
  rcases ofP_cases T n with ⟨hg, ho⟩ | ⟨b, r, hg, ho⟩
  · rw [ho]
    have hv : Hid (holdE T n k e = 5 ∧ holdT T n k e = T) := by
      refine ⟨?_, ?_⟩
      · unfold holdE; rw [hg]
      · unfold holdT; rw [hg]
    clear hg ho
    go_wp2_with fail
    go_ret
    exact ⟨ret_intE hv.out.1.symm, by rw [hv.out.2]; exact HH2.out, .of_below HA2.out⟩
  · rw [ho]
    have hrow := HH2.out.at hg
    have k6 : w2.cell? ⟨b, 6, none⟩ = some (.int .u8 r.st) := row_cells hrow.1 6
    have HROW := Lib.hid hrow.1
    have HG := Lib.hid hg
    clear hrow hg ho
    by_cases hx : k < 1 ∨ 32 < k ∨ e < 1 ∨ 281474976710656 < e
    · have hv : Hid (holdE T n k e = 2 ∧ holdT T n k e = T) := by
        have key : holdE T n k e = 2 := by unfold holdE; rw [HG.out]; exact if_pos hx
        refine ⟨key, ?_⟩
        unfold holdT; rw [HG.out]; simp only; rw [key]; rfl
      by_cases x1 : k < 1
      · clear hx
        go_wp2_with fail
        go_ret
        exact ⟨ret_intE hv.out.1.symm, by rw [hv.out.2]; exact HH2.out, .of_below HA2.out⟩
      by_cases x2 : 32 < k
      · clear hx
        go_wp2_with fail
        go_ret
        exact ⟨ret_intE hv.out.1.symm, by rw [hv.out.2]; exact HH2.out, .of_below HA2.out⟩
      by_cases x3 : e < 1
      · clear hx
        go_wp2_with fail
        go_ret
        exact ⟨ret_intE hv.out.1.symm, by rw [hv.out.2]; exact HH2.out, .of_below HA2.out⟩
      have x4 : 281474976710656 < e := by omega
      clear hx
      go_wp2_with fail
      go_ret
      exact ⟨ret_intE hv.out.1.symm, by rw [hv.out.2]; exact HH2.out, .of_below HA2.out⟩
    · have x1 : ¬ k < 1 := by omega
      have x2 : ¬ 32 < k := by omega
      have x3 : ¬ e < 1 := by omega
      have x4 : ¬ 281474976710656 < e := by omega
      have HX := Lib.hid hx
      clear hx
      by_cases h1 : r.st = 1
      · have hv : Hid (holdE T n k e = 0 ∧ holdT T n k e = updT T n { r with st := 2, wk := k, ep := e }) := by
          have key : holdE T n k e = 0 := by unfold holdE; rw [HG.out]; simp only; rw [if_neg HX.out, if_neg (by omega)]
          refine ⟨key, ?_⟩
          unfold holdT; rw [HG.out]; simp only; rw [key]; rfl
        have hb1 : (r.st != 1) = false := by simp [h1]
        clear h1
        go_wp2_with fail
        refine (to_any b n r 2 k e w2 HROW.out).mono ?_
        rintro e' w3 ⟨rfl, hrow, hF⟩
        have HT := Lib.hid (HH2.out.set (r' := { r with st := 2, wk := k, ep := e }) HG.out hF hrow ⟨rfl, rfl, rfl⟩)
        have HF := Lib.hid ((Fr.of_below HA2.out).trans (hF.mono (fun i hi => inRows HG.out hi)))
        clear hF hrow
        go_wp2_with fail
        go_ret
        exact ⟨ret_intE hv.out.1.symm, by rw [hv.out.2]; exact HT.out, HF.out⟩
      · have hv : Hid (holdE T n k e = 3 ∧ holdT T n k e = T) := by
          have key : holdE T n k e = 3 := by unfold holdE; rw [HG.out]; simp only; rw [if_neg HX.out, if_pos h1]
          refine ⟨key, ?_⟩
          unfold holdT; rw [HG.out]; simp only; rw [key]; rfl
        have hb1 : (r.st != 1) = true := by simpa using h1
        clear h1
        go_wp2_with fail
        go_ret
        exact ⟨ret_intE hv.out.1.symm, by rw [hv.out.2]; exact HH2.out, .of_below HA2.out⟩
set_option maxHeartbeats 1600000 in
set_option maxRecDepth 100000 in
theorem over_tab (f m : Nat) (T : Tb) (n : Nm) (w : World) (h : Tab w f m T) :
    Calls Try.prog 21 #[.pointer (some ⟨f, 0, none⟩), .agg #[.int .u64 n.1, .string n.2]] w fun e' w' => e' = .returned (.int .i64 (overE T n)) ∧ Tab w' f m (overT T n) ∧ Fr (InRows T) w w' := by
  have hA : Below w.heap.size w (w.alloc (.cells #[.int .u64 n.1, .string n.2] 29)) := (Below.refl _ _).alloc (Nat.le_refl _) _
  have HH := Lib.hid (h.below hA)
  have HA := Lib.hid hA
  clear h hA
  go_enter Try.func21, Try.ntmps21
  go_wp2_with fail
  refine (of_tab f m T n _ HH.out).mono ?_
  rintro e' w2 ⟨rfl, hB⟩
  have HH2 := Lib.hid (HH.out.below hB)
  have HA2 := Lib.hid (gthen HA.out hB)
  clear HH HA hB
  rcases ofP_cases T n with ⟨hg, ho⟩ | ⟨b, r, hg, ho⟩
  · rw [ho]
    have hv : Hid (overE T n = 5 ∧ overT T n = T) := by
      refine ⟨?_, ?_⟩
      · unfold overE; rw [hg]
      · unfold overT; rw [hg]
    clear hg ho
    go_wp2_with fail
    go_ret
    exact ⟨ret_intE hv.out.1.symm, by rw [hv.out.2]; exact HH2.out, .of_below HA2.out⟩
  · rw [ho]
    have hrow := HH2.out.at hg
    have k6 : w2.cell? ⟨b, 6, none⟩ = some (.int .u8 r.st) := row_cells hrow.1 6
    have HROW := Lib.hid hrow.1
    have HG := Lib.hid hg
    clear hrow hg ho
    by_cases h1 : r.st = 3
    · have hv : Hid (overE T n = 3 ∧ overT T n = T) := by
        refine ⟨?_, ?_⟩
        · unfold overE; rw [HG.out]; exact if_pos h1
        · unfold overT; rw [HG.out]; exact if_pos h1
      have hb1 : (r.st == 3) = true := by simp [h1]
      clear h1
      go_wp2_with fail
      go_ret
      exact ⟨ret_intE hv.out.1.symm, by rw [hv.out.2]; exact HH2.out, .of_below HA2.out⟩
    · have hv : Hid (overE T n = 0 ∧ overT T n = updT T n { r with st := 3, wk := 0, ep := 0 }) := by
        refine ⟨?_, ?_⟩
        · unfold overE; rw [HG.out]; exact if_neg h1
        · unfold overT; rw [HG.out]; exact if_neg h1
      have hb1 : (r.st == 3) = false := by simpa using h1
      clear h1
      go_wp2_with fail
      refine (to_any b n r 3 0 0 w2 HROW.out).mono ?_
      rintro e' w3 ⟨rfl, hrow, hF⟩
      have HT := Lib.hid (HH2.out.set (r' := { r with st := 3, wk := 0, ep := 0 }) HG.out hF hrow ⟨rfl, rfl, rfl⟩)
      have HF := Lib.hid ((Fr.of_below HA2.out).trans (hF.mono (fun i hi => inRows HG.out hi)))
      clear hF hrow
      go_wp2_with fail
      go_ret
      exact ⟨ret_intE hv.out.1.symm, by rw [hv.out.2]; exact HT.out, HF.out⟩
end Go.Proofs.Ytpdnebimkfejoaa
namespace Go.Proofs.Ytpdnebimkfejoaa
open Go.RowKit Go.Sort Go.Lib

/-- A root as it is told. -/
def rowV (n : Nm) (r : Rw) (aa : Option Addr) (ac : Nat) : Value := .agg #[.int .u64 n.1, .string n.2, .string n.2, .int .i64 r.fn, .slice aa r.args.length ac, .int .i64 r.fuel, .int .u8 r.st, .int .i64 r.wk, .int .u64 r.ep]
abbrev zR : Value := .agg #[.int .u64 0, .string ⟨#[]⟩, .string ⟨#[]⟩, .int .i64 0, .slice none 0 0, .int .i64 0, .int .u8 0, .int .i64 0, .int .u64 0]
theorem set9 {w1 : World} {r : Nat} {x0 x1 x2 x3 x4 x5 x6 x7 x8 : Value} {T : TypeId} (h : w1.heap[r]? = some (.cells #[x0, x1, x2, x3, x4, x5, x6, x7, x8] T (0, 0))) (a0 a1 a2 a3 a4 a5 a6 a7 a8 : Value) :
    (((((((((w1.setCell ⟨r, 0, none⟩ a0).setCell ⟨r, 1, none⟩ a1).setCell ⟨r, 2, none⟩ a2).setCell ⟨r, 3, none⟩ a3).setCell ⟨r, 4, none⟩ a4).setCell ⟨r, 5, none⟩ a5).setCell ⟨r, 6, none⟩ a6).setCell ⟨r, 7, none⟩ a7).setCell ⟨r, 8, none⟩ a8).heap[r]? = some (.cells #[a0, a1, a2, a3, a4, a5, a6, a7, a8] T (0, 0)) := by
  have h0 := Go.heap_setCell_same _ r 0 _ _ a0 h
  simp only [List.setIfInBounds_toArray, List.set_cons_zero] at h0
  have h1 := Go.heap_setCell_same _ r 1 _ _ a1 h0
  simp only [List.setIfInBounds_toArray, List.set_cons_zero, List.set_cons_succ] at h1
  have h2 := Go.heap_setCell_same _ r 2 _ _ a2 h1
  simp only [List.setIfInBounds_toArray, List.set_cons_zero, List.set_cons_succ] at h2
  have h3 := Go.heap_setCell_same _ r 3 _ _ a3 h2
  simp only [List.setIfInBounds_toArray, List.set_cons_zero, List.set_cons_succ] at h3
  have h4 := Go.heap_setCell_same _ r 4 _ _ a4 h3
  simp only [List.setIfInBounds_toArray, List.set_cons_zero, List.set_cons_succ] at h4
  have h5 := Go.heap_setCell_same _ r 5 _ _ a5 h4
  simp only [List.setIfInBounds_toArray, List.set_cons_zero, List.set_cons_succ] at h5
  have h6 := Go.heap_setCell_same _ r 6 _ _ a6 h5
  simp only [List.setIfInBounds_toArray, List.set_cons_zero, List.set_cons_succ] at h6
  have h7 := Go.heap_setCell_same _ r 7 _ _ a7 h6
  simp only [List.setIfInBounds_toArray, List.set_cons_zero, List.set_cons_succ] at h7
  have h8 := Go.heap_setCell_same _ r 8 _ _ a8 h7
  simp only [List.setIfInBounds_toArray, List.set_cons_zero, List.set_cons_succ] at h8
  exact h8
theorem set9_below {B : Nat} {w w1 : World} {r : Nat} (h : Below B w w1) (hr : B ≤ r) (a0 a1 a2 a3 a4 a5 a6 a7 a8 : Value) :
    Below B w (((((((((w1.setCell ⟨r, 0, none⟩ a0).setCell ⟨r, 1, none⟩ a1).setCell ⟨r, 2, none⟩ a2).setCell ⟨r, 3, none⟩ a3).setCell ⟨r, 4, none⟩ a4).setCell ⟨r, 5, none⟩ a5).setCell ⟨r, 6, none⟩ a6).setCell ⟨r, 7, none⟩ a7).setCell ⟨r, 8, none⟩ a8) := by
  have h0 := h.setCell (p := ⟨r, 0, none⟩) hr a0
  have h1 := h0.setCell (p := ⟨r, 1, none⟩) hr a1
  have h2 := h1.setCell (p := ⟨r, 2, none⟩) hr a2
  have h3 := h2.setCell (p := ⟨r, 3, none⟩) hr a3
  have h4 := h3.setCell (p := ⟨r, 4, none⟩) hr a4
  have h5 := h4.setCell (p := ⟨r, 5, none⟩) hr a5
  have h6 := h5.setCell (p := ⟨r, 6, none⟩) hr a6
  have h7 := h6.setCell (p := ⟨r, 7, none⟩) hr a7
  have h8 := h7.setCell (p := ⟨r, 8, none⟩) hr a8
  exact h8
theorem own_sets9 {w1 : World} {E : TypeId} {v : Value} {n : Nat} {xs : List Value} {B r : Nat} (h : w1.ownsRow B E 1 v n xs) (hr : r < B) (a0 a1 a2 a3 a4 a5 a6 a7 a8 : Value) :
    (((((((((w1.setCell ⟨r, 0, none⟩ a0).setCell ⟨r, 1, none⟩ a1).setCell ⟨r, 2, none⟩ a2).setCell ⟨r, 3, none⟩ a3).setCell ⟨r, 4, none⟩ a4).setCell ⟨r, 5, none⟩ a5).setCell ⟨r, 6, none⟩ a6).setCell ⟨r, 7, none⟩ a7).setCell ⟨r, 8, none⟩ a8).ownsRow B E 1 v n xs := by
  have h0 := own_sets h hr (a := ⟨r, 0, none⟩) rfl a0
  have h1 := own_sets h0 hr (a := ⟨r, 1, none⟩) rfl a1
  have h2 := own_sets h1 hr (a := ⟨r, 2, none⟩) rfl a2
  have h3 := own_sets h2 hr (a := ⟨r, 3, none⟩) rfl a3
  have h4 := own_sets h3 hr (a := ⟨r, 4, none⟩) rfl a4
  have h5 := own_sets h4 hr (a := ⟨r, 5, none⟩) rfl a5
  have h6 := own_sets h5 hr (a := ⟨r, 6, none⟩) rfl a6
  have h7 := own_sets h6 hr (a := ⟨r, 7, none⟩) rfl a7
  have h8 := own_sets h7 hr (a := ⟨r, 8, none⟩) rfl a8
  exact h8
theorem told_end {wz : World} {tmps : Array Value} {x0 x1 x2 x3 x4 x5 x6 x7 x8 : Value} {r : Nat} {T : TypeId} {R : Ending → World → Prop}
    (hr : wz.heap[r]? = some (.cells #[x0, x1, x2, x3, x4, x5, x6, x7, x8] T (0, 0))) (h2 : tmps.getD 2 undef = .pointer (some ⟨r, 0, none⟩)) (hR : R (.returned (.agg #[x0, x1, x2, x3, x4, x5, x6, x7, x8])) wz) :
    bodyPost Try.prog Try.f46 R Exit.ret { tmps := tmps, defers := [] } wz := by
  have c : ∀ o, wz.cell? ⟨r, o, none⟩ = #[x0, x1, x2, x3, x4, x5, x6, x7, x8][o]? := fun o => by simp [World.cell?, hr]
  have c0 := c 0; have c1 := c 1; have c2 := c 2; have c3 := c 3; have c4 := c 4; have c5 := c 5; have c6 := c 6; have c7 := c 7; have c8 := c 8
  simp only [List.getElem?_toArray, List.getElem?_cons_zero, List.getElem?_cons_succ] at c0 c1 c2 c3 c4 c5 c6 c7 c8
  refine bodyPost_ret (v := (.agg #[x0, x1, x2, x3, x4, x5, x6, x7, x8])) ?_ rfl hR
  have h2' : tmps[2]?.getD undef = .pointer (some ⟨r, 0, none⟩) := by simpa using h2
  simp [results, Try.results46, go_sem, h2', c0, c1, c2, c3, c4, c5, c6, c7, c8]
theorem of_end {wz : World} {tmps : Array Value} {x0 x1 x2 x3 x4 x5 x6 x7 x8 : Value} {r : Nat} {T : TypeId} {R : Ending → World → Prop} {b : Bool}
    (hr : wz.heap[r]? = some (.cells #[x0, x1, x2, x3, x4, x5, x6, x7, x8] T (0, 0))) (h2 : tmps.getD 4 undef = .pointer (some ⟨r, 0, none⟩)) (h5 : tmps.getD 5 undef = .bool b) (hR : R (.returned (.tuple #[.agg #[x0, x1, x2, x3, x4, x5, x6, x7, x8], .bool b])) wz) :
    bodyPost Try.prog Try.f29 R Exit.ret { tmps := tmps, defers := [] } wz := by
  have c : ∀ o, wz.cell? ⟨r, o, none⟩ = #[x0, x1, x2, x3, x4, x5, x6, x7, x8][o]? := fun o => by simp [World.cell?, hr]
  have c0 := c 0; have c1 := c 1; have c2 := c 2; have c3 := c 3; have c4 := c 4; have c5 := c 5; have c6 := c 6; have c7 := c 7; have c8 := c 8
  simp only [List.getElem?_toArray, List.getElem?_cons_zero, List.getElem?_cons_succ] at c0 c1 c2 c3 c4 c5 c6 c7 c8
  refine bodyPost_ret (v := (.tuple #[.agg #[x0, x1, x2, x3, x4, x5, x6, x7, x8], .bool b])) ?_ rfl hR
  have h2' : tmps[4]?.getD undef = .pointer (some ⟨r, 0, none⟩) := by simpa using h2
  have h5' : tmps[5]?.getD undef = .bool b := by simpa using h5
  simp [results, Try.results29, go_sem, h2', h5', c0, c1, c2, c3, c4, c5, c6, c7, c8]
theorem aboveA_end {wz : World} {tmps : Array Value} {x0 x1 x2 x3 x4 x5 x6 x7 x8 : Value} {r : Nat} {T : TypeId} {R : Ending → World → Prop} {b : Bool}
    (hr : wz.heap[r]? = some (.cells #[x0, x1, x2, x3, x4, x5, x6, x7, x8] T (0, 0))) (h2 : tmps.getD 4 undef = .pointer (some ⟨r, 0, none⟩)) (h5 : tmps.getD 5 undef = .bool b) (hR : R (.returned (.tuple #[.agg #[x0, x1, x2, x3, x4, x5, x6, x7, x8], .bool b])) wz) :
    bodyPost Try.prog Try.f17 R Exit.ret { tmps := tmps, defers := [] } wz := by
  have c : ∀ o, wz.cell? ⟨r, o, none⟩ = #[x0, x1, x2, x3, x4, x5, x6, x7, x8][o]? := fun o => by simp [World.cell?, hr]
  have c0 := c 0; have c1 := c 1; have c2 := c 2; have c3 := c 3; have c4 := c 4; have c5 := c 5; have c6 := c 6; have c7 := c 7; have c8 := c 8
  simp only [List.getElem?_toArray, List.getElem?_cons_zero, List.getElem?_cons_succ] at c0 c1 c2 c3 c4 c5 c6 c7 c8
  refine bodyPost_ret (v := (.tuple #[.agg #[x0, x1, x2, x3, x4, x5, x6, x7, x8], .bool b])) ?_ rfl hR
  have h2' : tmps[4]?.getD undef = .pointer (some ⟨r, 0, none⟩) := by simpa using h2
  have h5' : tmps[5]?.getD undef = .bool b := by simpa using h5
  simp [results, Try.results17, go_sem, h2', h5', c0, c1, c2, c3, c4, c5, c6, c7, c8]
set_option maxHeartbeats 3200000 in
set_option maxRecDepth 100000 in
theorem told_any (b : Nat) (n : Nm) (r : Rw) (w : World) (h : w.heap[b]? = some (rowO n r)) (ha : Args w r) (hl : r.args.length ≤ 1000000) :
    Calls Try.prog 46 #[.pointer (some ⟨b, 0, none⟩)] w fun e w' => ∃ aa ac, e = .returned (rowV n r aa ac) ∧ w'.ownsRow w.heap.size 2 1 (.slice aa r.args.length ac) r.args.length (r.args.flatMap encI) ∧ Below w.heap.size w w' := by
  have hbl := (Array.getElem?_eq_some_iff.1 h).1
  have hA : Below w.heap.size w ((w.alloc (.cells #[.int .u64 0, .string ⟨#[]⟩, .string ⟨#[]⟩, .int .i64 0, .slice none 0 0, .int .i64 0, .int .u8 0, .int .i64 0, .int .u64 0] 42)).alloc (.cells #[.int .u64 n.1, .string n.2, .string n.2, .int .i64 r.fn, .slice r.aa r.args.length r.ac, .int .i64 r.fuel, .int .u8 r.st, .int .i64 r.wk, .int .u64 r.ep] 42)) := ((Below.refl _ _).alloc (Nat.le_refl _) _).alloc (by simp) _
  have hb1 : ((w.alloc (.cells #[.int .u64 0, .string ⟨#[]⟩, .string ⟨#[]⟩, .int .i64 0, .slice none 0 0, .int .i64 0, .int .u8 0, .int .i64 0, .int .u64 0] 42)).alloc (.cells #[.int .u64 n.1, .string n.2, .string n.2, .int .i64 r.fn, .slice r.aa r.args.length r.ac, .int .i64 r.fuel, .int .u8 r.st, .int .i64 r.wk, .int .u64 r.ep] 42)).heap[w.heap.size]? = some (.cells #[.int .u64 0, .string ⟨#[]⟩, .string ⟨#[]⟩, .int .i64 0, .slice none 0 0, .int .i64 0, .int .u8 0, .int .i64 0, .int .u64 0] 42 (0, 0)) :=
    (((Below.refl (w.alloc (.cells #[.int .u64 0, .string ⟨#[]⟩, .string ⟨#[]⟩, .int .i64 0, .slice none 0 0, .int .i64 0, .int .u8 0, .int .i64 0, .int .u64 0] 42)).heap.size _).alloc (Nat.le_refl _) _).block _ (by simp)).trans (heap_alloc_new _ _)
  have hb2 := heap_alloc_new (w.alloc (.cells #[.int .u64 0, .string ⟨#[]⟩, .string ⟨#[]⟩, .int .i64 0, .slice none 0 0, .int .i64 0, .int .u8 0, .int .i64 0, .int .u64 0] 42)) (.cells #[.int .u64 n.1, .string n.2, .string n.2, .int .i64 r.fn, .slice r.aa r.args.length r.ac, .int .i64 r.fuel, .int .u8 r.st, .int .i64 r.wk, .int .u64 r.ep] 42)
  rw [show (w.alloc (.cells #[.int .u64 0, .string ⟨#[]⟩, .string ⟨#[]⟩, .int .i64 0, .slice none 0 0, .int .i64 0, .int .u8 0, .int .i64 0, .int .u64 0] 42)).heap.size = w.heap.size + 1 by simp] at hb2
  have hk : ∀ o, (w.alloc (.cells #[.int .u64 0, .string ⟨#[]⟩, .string ⟨#[]⟩, .int .i64 0, .slice none 0 0, .int .i64 0, .int .u8 0, .int .i64 0, .int .u64 0] 42)).cell? ⟨b, o, none⟩ = #[Value.int .u64 n.1, .string n.2, .string n.2, .int .i64 r.fn, .slice r.aa r.args.length r.ac, .int .i64 r.fuel, .int .u8 r.st, .int .i64 r.wk, .int .u64 r.ep][o]? := fun o => row_cells ((((Below.refl w.heap.size w).alloc (Nat.le_refl _) _).block b hbl).trans h) o
  have k0 := hk 0; have k1 := hk 1; have k2 := hk 2; have k3 := hk 3; have k4 := hk 4; have k5 := hk 5; have k6 := hk 6; have k7 := hk 7; have k8 := hk 8
  simp only [List.getElem?_toArray, List.getElem?_cons_zero, List.getElem?_cons_succ] at k0 k1 k2 k3 k4 k5 k6 k7 k8
  have H2 := Lib.hid hb2
  have H1 := Lib.hid hb1
  have HB := Lib.hid hA
  have HRD := Lib.hid (args_reads (Args.far ha (fun i cur hi => hA.block i (Array.getElem?_eq_some_iff.1 hi).1)))
  clear hA hb1 hb2 hk h ha
  go_enter Try.func46, Try.ntmps46
  go_wp2_with fail
  refine (clone_any _ r.args _ HRD.out hl).mono ?_
  rintro e w2 ⟨aa, ac, rfl, ho, hB⟩
  have hlt1 := (Array.getElem?_eq_some_iff.1 H1.out).1
  have hlt2 := (Array.getElem?_eq_some_iff.1 H2.out).1
  have j1 := (hB.block _ hlt1).trans H1.out
  have j2 := (hB.block _ hlt2).trans H2.out
  have HO := Lib.hid ho
  have HB2 := Lib.hid (HB.out.trans (hB.mono HB.out.size))
  have hs1 := HB.out.size
  clear ho hB H1 H2 HRD HB k0 k1 k2 k3 k4 k5 k6 k7 k8
  have hc1 : ∀ o, w2.cell? ⟨w.heap.size, o, none⟩ = #[Value.int .u64 0, .string ⟨#[]⟩, .string ⟨#[]⟩, .int .i64 0, .slice none 0 0, .int .i64 0, .int .u8 0, .int .i64 0, .int .u64 0][o]? := fun o => by simp [World.cell?, j1]
  have hz1 : ∀ o, w2.frozen? ⟨w.heap.size, o, none⟩ = false := fun o => by simp [World.frozen?, j1]
  have hc2 : ∀ o, w2.cell? ⟨w.heap.size + 1, o, none⟩ = #[Value.int .u64 n.1, .string n.2, .string n.2, .int .i64 r.fn, .slice r.aa r.args.length r.ac, .int .i64 r.fuel, .int .u8 r.st, .int .i64 r.wk, .int .u64 r.ep][o]? := fun o => by simp [World.cell?, j2]
  have hz2 : ∀ o, w2.frozen? ⟨w.heap.size + 1, o, none⟩ = false := fun o => by simp [World.frozen?, j2]
  have x0 := hc1 0; have x1 := hc1 1; have x2 := hc1 2; have x3 := hc1 3; have x4 := hc1 4; have x5 := hc1 5; have x6 := hc1 6; have x7 := hc1 7; have x8 := hc1 8
  have p0 := hz1 0; have p1 := hz1 1; have p2 := hz1 2; have p3 := hz1 3; have p4 := hz1 4; have p5 := hz1 5; have p6 := hz1 6; have p7 := hz1 7; have p8 := hz1 8
  simp only [List.getElem?_toArray, List.getElem?_cons_zero, List.getElem?_cons_succ] at x0 x1 x2 x3 x4 x5 x6 x7 x8
  have y0 := hc2 0; have y1 := hc2 1; have y2 := hc2 2; have y3 := hc2 3; have y4 := hc2 4; have y5 := hc2 5; have y6 := hc2 6; have y7 := hc2 7; have y8 := hc2 8
  have q4 := hz2 4
  simp only [List.getElem?_toArray, List.getElem?_cons_zero, List.getElem?_cons_succ] at y0 y1 y2 y3 y4 y5 y6 y7 y8
  have J1 := Lib.hid j1
  clear hc1 hz1 hc2 hz2 j1 j2
  go_wp2_with fail
  have hx := set9 (w1 := w2.setCell ⟨w.heap.size + 1, 4, none⟩ (.slice aa r.args.length ac)) (r := w.heap.size) ((Go.heap_setCell_other _ ⟨w.heap.size + 1, 4, none⟩ w.heap.size _ (by show w.heap.size ≠ w.heap.size + 1; omega)).trans J1.out) (.int .u64 n.1) (.string n.2) (.string n.2) (.int .i64 r.fn) (.slice aa r.args.length ac) (.int .i64 r.fuel) (.int .u8 r.st) (.int .i64 r.wk) (.int .u64 r.ep)
  have hB9 := set9_below (HB2.out.setCell (p := ⟨w.heap.size + 1, 4, none⟩) (Nat.le_succ _) (.slice aa r.args.length ac)) (r := w.heap.size) (Nat.le_refl _) (.int .u64 n.1) (.string n.2) (.string n.2) (.int .i64 r.fn) (.slice aa r.args.length ac) (.int .i64 r.fuel) (.int .u8 r.st) (.int .i64 r.wk) (.int .u64 r.ep)
  have hO9 := own_sets9 (own_sets HO.out (r := w.heap.size + 1) (a := ⟨w.heap.size + 1, 4, none⟩) hlt2 rfl (.slice aa r.args.length ac)) (r := w.heap.size) hlt1 (.int .u64 n.1) (.string n.2) (.string n.2) (.int .i64 r.fn) (.slice aa r.args.length ac) (.int .i64 r.fuel) (.int .u8 r.st) (.int .i64 r.wk) (.int .u64 r.ep)
  exact told_end hx rfl ⟨aa, ac, rfl, owns_base hO9 hs1, hB9⟩
def OfR (T : Tb) (n : Nm) (w : World) (e : Ending) (w' : World) : Prop :=
  ((getL T n = none ∧ e = .returned (.tuple #[zR, .bool false])) ∨
    ∃ u b r aa ac, u = n ∧ getL T u = some (b, r) ∧ e = .returned (.tuple #[rowV u r aa ac, .bool true]) ∧ w'.ownsRow w.heap.size 2 1 (.slice aa r.args.length ac) r.args.length (r.args.flatMap encI)) ∧ Below w.heap.size w w'
set_option maxHeartbeats 3200000 in
set_option maxRecDepth 100000 in
theorem ofA_tab (f m : Nat) (T : Tb) (n : Nm) (w : World) (h : Tab w f m T) (hargs : ∀ p ∈ T, p.2.2.args.length ≤ 1000000) :
    Calls Try.prog 29 #[.pointer (some ⟨f, 0, none⟩), .agg #[.int .u64 n.1, .string n.2]] w (OfR T n w) := by
  have hA : Below w.heap.size w ((w.alloc (.cells #[.int .u64 n.1, .string n.2] 29)).alloc (.cells #[.int .u64 0, .string ⟨#[]⟩, .string ⟨#[]⟩, .int .i64 0, .slice none 0 0, .int .i64 0, .int .u8 0, .int .i64 0, .int .u64 0] 42)) := ((Below.refl _ _).alloc (Nat.le_refl _) _).alloc (by simp) _
  have hres := heap_alloc_new (w.alloc (.cells #[.int .u64 n.1, .string n.2] 29)) (.cells #[.int .u64 0, .string ⟨#[]⟩, .string ⟨#[]⟩, .int .i64 0, .slice none 0 0, .int .i64 0, .int .u8 0, .int .i64 0, .int .u64 0] 42)
  rw [show (w.alloc (.cells #[.int .u64 n.1, .string n.2] 29)).heap.size = w.heap.size + 1 by simp] at hres
  have HH := Lib.hid (h.below hA)
  have HA := Lib.hid hA
  have HRES := Lib.hid hres
  clear h hA hres
  go_enter Try.func29, Try.ntmps29
  go_wp2_with fail
  refine (of_tab f m T n _ HH.out).mono ?_
  rintro e w1 ⟨rfl, hB⟩
  have HH1 := Lib.hid (HH.out.below hB)
  have HA1 := Lib.hid (gthen HA.out hB)
  have HR1 := Lib.hid ((hB.block _ (Array.getElem?_eq_some_iff.1 HRES.out).1).trans HRES.out)
  have hlt := (Array.getElem?_eq_some_iff.1 HR1.out).1
  clear hB HH HA HRES
  rcases ofP_cases T n with ⟨hg, ho⟩ | ⟨b, r, hg, ho⟩
  · rw [ho]
    have HG := Lib.hid hg
    have j1 := HR1.out
    have hc1 : ∀ o, w1.cell? ⟨w.heap.size + 1, o, none⟩ = #[Value.int .u64 0, .string ⟨#[]⟩, .string ⟨#[]⟩, .int .i64 0, .slice none 0 0, .int .i64 0, .int .u8 0, .int .i64 0, .int .u64 0][o]? := fun o => by simp [World.cell?, j1]
    have hz1 : ∀ o, w1.frozen? ⟨w.heap.size + 1, o, none⟩ = false := fun o => by simp [World.frozen?, j1]
    have x0 := hc1 0; have x1 := hc1 1; have x2 := hc1 2; have x3 := hc1 3; have x4 := hc1 4; have x5 := hc1 5; have x6 := hc1 6; have x7 := hc1 7; have x8 := hc1 8
    have p0 := hz1 0; have p1 := hz1 1; have p2 := hz1 2; have p3 := hz1 3; have p4 := hz1 4; have p5 := hz1 5; have p6 := hz1 6; have p7 := hz1 7; have p8 := hz1 8
    simp only [List.getElem?_toArray, List.getElem?_cons_zero, List.getElem?_cons_succ] at x0 x1 x2 x3 x4 x5 x6 x7 x8
    have hx := Lib.hid (set9 j1 (.int .u64 0) (.string ⟨#[]⟩) (.string ⟨#[]⟩) (.int .i64 0) (.slice none 0 0) (.int .i64 0) (.int .u8 0) (.int .i64 0) (.int .u64 0))
    have hB9 := Lib.hid (set9_below HA1.out (r := w.heap.size + 1) (Nat.le_succ _) (.int .u64 0) (.string ⟨#[]⟩) (.string ⟨#[]⟩) (.int .i64 0) (.slice none 0 0) (.int .i64 0) (.int .u8 0) (.int .i64 0) (.int .u64 0))
    clear j1 hc1 hz1 hg ho
    go_wp2_with fail
    exact of_end hx.out rfl rfl ⟨.inl ⟨HG.out, rfl⟩, hB9.out⟩
  · rw [ho]
    have HG := Lib.hid hg
    have hrow := HH1.out.at hg
    have hal := hargs _ (getL_mem' hg)
    clear ho hg hargs
    go_wp2_with fail
    refine (told_any b n r w1 hrow.1 hrow.2 hal).mono ?_
    rintro e w2 ⟨aa, ac, rfl, hown, hB⟩
    have HO := Lib.hid hown
    have HA2 := Lib.hid (gthen HA1.out hB)
    have j1 := (hB.block _ hlt).trans HR1.out
    have hs1 := HA1.out.size
    have hc1 : ∀ o, w2.cell? ⟨w.heap.size + 1, o, none⟩ = #[Value.int .u64 0, .string ⟨#[]⟩, .string ⟨#[]⟩, .int .i64 0, .slice none 0 0, .int .i64 0, .int .u8 0, .int .i64 0, .int .u64 0][o]? := fun o => by simp [World.cell?, j1]
    have hz1 : ∀ o, w2.frozen? ⟨w.heap.size + 1, o, none⟩ = false := fun o => by simp [World.frozen?, j1]
    have x0 := hc1 0; have x1 := hc1 1; have x2 := hc1 2; have x3 := hc1 3; have x4 := hc1 4; have x5 := hc1 5; have x6 := hc1 6; have x7 := hc1 7; have x8 := hc1 8
    have p0 := hz1 0; have p1 := hz1 1; have p2 := hz1 2; have p3 := hz1 3; have p4 := hz1 4; have p5 := hz1 5; have p6 := hz1 6; have p7 := hz1 7; have p8 := hz1 8
    simp only [List.getElem?_toArray, List.getElem?_cons_zero, List.getElem?_cons_succ] at x0 x1 x2 x3 x4 x5 x6 x7 x8
    have hx := Lib.hid (set9 j1 (.int .u64 n.1) (.string n.2) (.string n.2) (.int .i64 r.fn) (.slice aa r.args.length ac) (.int .i64 r.fuel) (.int .u8 r.st) (.int .i64 r.wk) (.int .u64 r.ep))
    have hB9 := Lib.hid (set9_below HA2.out (r := w.heap.size + 1) (Nat.le_succ _) (.int .u64 n.1) (.string n.2) (.string n.2) (.int .i64 r.fn) (.slice aa r.args.length ac) (.int .i64 r.fuel) (.int .u8 r.st) (.int .i64 r.wk) (.int .u64 r.ep))
    have hO9 := Lib.hid (own_sets9 HO.out (r := w.heap.size + 1) hlt (.int .u64 n.1) (.string n.2) (.string n.2) (.int .i64 r.fn) (.slice aa r.args.length ac) (.int .i64 r.fuel) (.int .u8 r.st) (.int .i64 r.wk) (.int .u64 r.ep))
    unfold rowV
    clear j1 hc1 hz1 hown hB hrow hal HR1
    go_wp2_with fail
    exact of_end hx.out rfl rfl ⟨.inr ⟨n, b, r, aa, ac, rfl, HG.out, rfl, owns_base hO9.out hs1⟩, hB9.out⟩
def AboveR (T : Tb) (n : Nm) (w : World) (e : Ending) (w' : World) : Prop :=
  ((upN (hasT T) n = none ∧ e = .returned (.tuple #[zR, .bool false])) ∨
    ∃ u b r aa ac, upN (hasT T) n = some u ∧ getL T u = some (b, r) ∧ e = .returned (.tuple #[rowV u r aa ac, .bool true]) ∧ w'.ownsRow w.heap.size 2 1 (.slice aa r.args.length ac) r.args.length (r.args.flatMap encI)) ∧ Below w.heap.size w w'
set_option maxHeartbeats 3200000 in
set_option maxRecDepth 100000 in
theorem aboveA_tab (f m : Nat) (T : Tb) (n : Nm) (w : World) (h : Tab w f m T) (hargs : ∀ p ∈ T, p.2.2.args.length ≤ 1000000) (hn : n.2.size ≤ 9223372036854775807) :
    Calls Try.prog 17 #[.pointer (some ⟨f, 0, none⟩), .agg #[.int .u64 n.1, .string n.2]] w (AboveR T n w) := by
  have hA : Below w.heap.size w ((w.alloc (.cells #[.int .u64 n.1, .string n.2] 29)).alloc (.cells #[.int .u64 0, .string ⟨#[]⟩, .string ⟨#[]⟩, .int .i64 0, .slice none 0 0, .int .i64 0, .int .u8 0, .int .i64 0, .int .u64 0] 42)) := ((Below.refl _ _).alloc (Nat.le_refl _) _).alloc (by simp) _
  have hres := heap_alloc_new (w.alloc (.cells #[.int .u64 n.1, .string n.2] 29)) (.cells #[.int .u64 0, .string ⟨#[]⟩, .string ⟨#[]⟩, .int .i64 0, .slice none 0 0, .int .i64 0, .int .u8 0, .int .i64 0, .int .u64 0] 42)
  rw [show (w.alloc (.cells #[.int .u64 n.1, .string n.2] 29)).heap.size = w.heap.size + 1 by simp] at hres
  have HH := Lib.hid (h.below hA)
  have HA := Lib.hid hA
  have HRES := Lib.hid hres
  clear h hA hres
  go_enter Try.func17, Try.ntmps17
  go_wp2_with fail
  refine (above_tab f m T n _ HH.out hn).mono ?_
  rintro e w1 ⟨rfl, hB⟩
  have HH1 := Lib.hid (HH.out.below hB)
  have HA1 := Lib.hid (gthen HA.out hB)
  have HR1 := Lib.hid ((hB.block _ (Array.getElem?_eq_some_iff.1 HRES.out).1).trans HRES.out)
  have hlt := (Array.getElem?_eq_some_iff.1 HR1.out).1
  clear hB HH HA HRES
  rcases aboveP_cases T n with ⟨hg, ho⟩ | ⟨u, b, r, hu, hg, ho⟩
  · rw [ho]
    have HG := Lib.hid hg
    have j1 := HR1.out
    have hc1 : ∀ o, w1.cell? ⟨w.heap.size + 1, o, none⟩ = #[Value.int .u64 0, .string ⟨#[]⟩, .string ⟨#[]⟩, .int .i64 0, .slice none 0 0, .int .i64 0, .int .u8 0, .int .i64 0, .int .u64 0][o]? := fun o => by simp [World.cell?, j1]
    have hz1 : ∀ o, w1.frozen? ⟨w.heap.size + 1, o, none⟩ = false := fun o => by simp [World.frozen?, j1]
    have x0 := hc1 0; have x1 := hc1 1; have x2 := hc1 2; have x3 := hc1 3; have x4 := hc1 4; have x5 := hc1 5; have x6 := hc1 6; have x7 := hc1 7; have x8 := hc1 8
    have p0 := hz1 0; have p1 := hz1 1; have p2 := hz1 2; have p3 := hz1 3; have p4 := hz1 4; have p5 := hz1 5; have p6 := hz1 6; have p7 := hz1 7; have p8 := hz1 8
    simp only [List.getElem?_toArray, List.getElem?_cons_zero, List.getElem?_cons_succ] at x0 x1 x2 x3 x4 x5 x6 x7 x8
    have hx := Lib.hid (set9 j1 (.int .u64 0) (.string ⟨#[]⟩) (.string ⟨#[]⟩) (.int .i64 0) (.slice none 0 0) (.int .i64 0) (.int .u8 0) (.int .i64 0) (.int .u64 0))
    have hB9 := Lib.hid (set9_below HA1.out (r := w.heap.size + 1) (Nat.le_succ _) (.int .u64 0) (.string ⟨#[]⟩) (.string ⟨#[]⟩) (.int .i64 0) (.slice none 0 0) (.int .i64 0) (.int .u8 0) (.int .i64 0) (.int .u64 0))
    clear j1 hc1 hz1 hg ho
    go_wp2_with fail
    exact aboveA_end hx.out rfl rfl ⟨.inl ⟨HG.out, rfl⟩, hB9.out⟩
  · rw [ho]
    have HG := Lib.hid (show upN (hasT T) n = some u ∧ getL T u = some (b, r) from ⟨hu, hg⟩)
    have hrow := HH1.out.at hg
    have hal := hargs _ (getL_mem' hg)
    clear ho hg hu hargs
    go_wp2_with fail
    refine (told_any b u r w1 hrow.1 hrow.2 hal).mono ?_
    rintro e w2 ⟨aa, ac, rfl, hown, hB⟩
    have HO := Lib.hid hown
    have HA2 := Lib.hid (gthen HA1.out hB)
    have j1 := (hB.block _ hlt).trans HR1.out
    have hs1 := HA1.out.size
    have hc1 : ∀ o, w2.cell? ⟨w.heap.size + 1, o, none⟩ = #[Value.int .u64 0, .string ⟨#[]⟩, .string ⟨#[]⟩, .int .i64 0, .slice none 0 0, .int .i64 0, .int .u8 0, .int .i64 0, .int .u64 0][o]? := fun o => by simp [World.cell?, j1]
    have hz1 : ∀ o, w2.frozen? ⟨w.heap.size + 1, o, none⟩ = false := fun o => by simp [World.frozen?, j1]
    have x0 := hc1 0; have x1 := hc1 1; have x2 := hc1 2; have x3 := hc1 3; have x4 := hc1 4; have x5 := hc1 5; have x6 := hc1 6; have x7 := hc1 7; have x8 := hc1 8
    have p0 := hz1 0; have p1 := hz1 1; have p2 := hz1 2; have p3 := hz1 3; have p4 := hz1 4; have p5 := hz1 5; have p6 := hz1 6; have p7 := hz1 7; have p8 := hz1 8
    simp only [List.getElem?_toArray, List.getElem?_cons_zero, List.getElem?_cons_succ] at x0 x1 x2 x3 x4 x5 x6 x7 x8
    have hx := Lib.hid (set9 j1 (.int .u64 u.1) (.string u.2) (.string u.2) (.int .i64 r.fn) (.slice aa r.args.length ac) (.int .i64 r.fuel) (.int .u8 r.st) (.int .i64 r.wk) (.int .u64 r.ep))
    have hB9 := Lib.hid (set9_below HA2.out (r := w.heap.size + 1) (Nat.le_succ _) (.int .u64 u.1) (.string u.2) (.string u.2) (.int .i64 r.fn) (.slice aa r.args.length ac) (.int .i64 r.fuel) (.int .u8 r.st) (.int .i64 r.wk) (.int .u64 r.ep))
    have hO9 := Lib.hid (own_sets9 HO.out (r := w.heap.size + 1) hlt (.int .u64 u.1) (.string u.2) (.string u.2) (.int .i64 r.fn) (.slice aa r.args.length ac) (.int .i64 r.fuel) (.int .u8 r.st) (.int .i64 r.wk) (.int .u64 r.ep))
    unfold rowV
    clear j1 hc1 hz1 hown hB hrow hal HR1
    go_wp2_with fail
    exact aboveA_end hx.out rfl rfl ⟨.inr ⟨u, b, r, aa, ac, HG.out.1, HG.out.2, rfl, owns_base hO9.out hs1⟩, hB9.out⟩
end Go.Proofs.Ytpdnebimkfejoaa
