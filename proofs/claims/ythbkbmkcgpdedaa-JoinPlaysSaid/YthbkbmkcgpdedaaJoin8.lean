/- parent; Over. -/
import Derived.Test.YthbkbmkcgpdedaaReads
import Derived.Test.YthbkbmkcgpdedaaBranch3
import Derived.Test.YthbkbmkcgpdedaaMapLaw
import Derived.OwnWalk
import Derived.Sort.OwnSorted
import Derived.BigQuiet
import Derived.Carry
import Derived.Deep.DeepCutAuto
import Derived.Deep.CutBlock
import Derived.Deep.RegionHeld3
import Derived.Lib.SliceRun
namespace Go.Proofs.Ythbkbmkcgpdedaa
open Go.RowKit Go.Sort Go.Lib

def encI (x : Int) : List Value := [.int .i64 x]
/-- A row, but its name. -/
structure Rw where
  fn : Int
  aa : Option Addr
  ac : Nat
  args : List Int
  fuel : Int
  st : Int
  op : Int
  val : Int
  err : Int
  fk : Bool
def rowO (n : Nm) (r : Rw) : Obj := .cells #[.int .u64 n.1, .string n.2, .string n.2, .int .i64 r.fn, .slice r.aa r.args.length r.ac, .int .i64 r.fuel, .int .u8 r.st, .int .i64 r.op, .int .i64 r.val, .int .i64 r.err, .bool r.fk] 85 (0, 0)
/-- The arguments lie in a block of numbers. -/
def Args (w : World) (r : Rw) : Prop := w.ownsRow 0 2 1 (.slice r.aa r.args.length r.ac) r.args.length (r.args.flatMap encI)
def evP (b : Nat) : Value := .pointer (some ⟨b, 0, none⟩)
abbrev Tb := List (Nm × Nat × Rw)
def mapT (T : Tb) : List (Nm × Nat) := T.map fun p => (p.1, p.2.1)
structure Tab (w : World) (f m : Nat) (most : Int) (T : Tb) : Prop where
  box : w.heap[f]? = some (.cells #[.int .i64 most, .map (some m)] 76 (0, 0))
  map : MapL evP w m (mapT T)
  row : ∀ p ∈ T, w.heap[p.2.1]? = some (rowO p.1 p.2.2) ∧ Args w p.2.2
  nd : (T.map (·.2.1)).Nodup
section
variable {w w' : World} {f m : Nat} {most : Int} {T : Tb}
theorem Tab.c0 (h : Tab w f m most T) : w.cell? ⟨f, 0, none⟩ = some (.int .i64 most) := by simp [World.cell?, h.box]
theorem Tab.c1 (h : Tab w f m most T) : w.cell? ⟨f, 1, none⟩ = some (.map (some m)) := by simp [World.cell?, h.box]
theorem Tab.lt (h : Tab w f m most T) : f < w.heap.size ∧ m < w.heap.size ∧ f ≠ m := by
  refine ⟨(Array.getElem?_eq_some_iff.1 h.box).1, h.map.lt, ?_⟩
  rintro rfl
  obtain ⟨es, c, hb, _⟩ := h.map
  rw [h.box] at hb; cases hb
theorem Args.far {r : Rw} (h : Args w r) (hb : ∀ (i : Nat) (cur : Array Value), w.heap[i]? = some (Obj.cells cur 2 (0, 0)) → w'.heap[i]? = w.heap[i]?) : Args w' r := by
  obtain ⟨h0, h1 | ⟨g, cap, cur, hv, h1, h2, h3⟩⟩ := h
  · exact ⟨h0, .inl h1⟩
  · exact ⟨h0, .inr ⟨g, cap, cur, hv, h1, (hb g cur h2).trans h2, h3⟩⟩
theorem Tab.below (h : Tab w f m most T) (hB : Below w.heap.size w w') : Tab w' f m most T :=
  ⟨(hB.block _ h.lt.1).trans h.box, h.map.block (hB.block _ h.lt.2.1), fun p hp => ⟨(hB.block _ (Array.getElem?_eq_some_iff.1 (h.row p hp).1).1).trans (h.row p hp).1, Args.far (h.row p hp).2 (fun i _cur hi => hB.block i (Array.getElem?_eq_some_iff.1 hi).1)⟩, h.nd⟩
/-- The table's blocks. -/
def InT (f m : Nat) (T : Tb) : Nat → Prop := fun i => i = f ∨ i = m ∨ ∃ p ∈ T, p.2.1 = i
end
theorem mapT_keys (T : Tb) : (mapT T).map (·.1) = T.map (·.1) := by unfold mapT; rw [List.map_map]; rfl
/-- A row of a name. -/
def findT (T : Tb) (n : Nm) : Option (Nat × Rw) := getL T n
theorem getL_mapT (T : Tb) (n : Nm) : getL (mapT T) n = (getL T n).map (·.1) := by
  unfold getL mapT
  rw [List.find?_map]
  rw [Option.map_map, Option.map_map]
  rfl
theorem getL_mem' {V : Type} {l : List (Nm × V)} {n : Nm} {v : V} (h : getL l n = some v) : (n, v) ∈ l := by
  unfold getL at h
  obtain ⟨p, hp, hv⟩ := Option.map_eq_some_iff.1 h
  have h1 := List.mem_of_find?_eq_some hp
  have h2 : p.1 = n := by simpa using List.find?_some hp
  rw [← h2, ← hv]; exact h1

theorem cell_keep {w w' : World} {a : Addr} {v : Value} (hB : Below w.heap.size w w') (h : w.cell? a = some v) : w'.cell? a = some v := (hB.cell (World.block_lt_of_cell? _ _ h)).trans h
theorem cell_low {B : Nat} {w x : World} (h : Below B w x) {a : Addr} {v : Value} (hl : a.block < B) (hc : w.cell? a = some v) : x.cell? a = some v := (h.cell hl).trans hc
theorem ret_boolE {b c : Bool} (h : b = c) : Ending.returned (.bool b) = Ending.returned (.bool c) := by rw [h]
theorem ret_intE {k : IntKind} {b c : Int} (h : b = c) : Ending.returned (.int k b) = Ending.returned (.int k c) := by rw [h]
theorem owns_base {w : World} {B B' : Nat} {E : TypeId} {size : Nat} {v : Value} {n : Nat} {xs : List Value} (h : w.ownsRow B E size v n xs) (hb : B' ≤ B) : w.ownsRow B' E size v n xs := by
  obtain ⟨h0, h | ⟨g, cap, cur, hv, h1, h2⟩⟩ := h
  · exact ⟨h0, .inl h⟩
  · exact ⟨h0, .inr ⟨g, cap, cur, hv, Nat.le_trans hb h1, h2⟩⟩
theorem info_i64 : (Try.prog.info? 2).map (fun i => (i.zero, i.size, i.bytes)) = some (some (.int .i64 0), 1, 8) := by kernel_rfl

set_option maxHeartbeats 800000 in
set_option maxRecDepth 100000 in
theorem clone_any (v : Value) (l : List Int) (w : World) (h : ReadsK encI 1 w v l) (hl : l.length ≤ 1000000) :
    Calls Try.prog 59 #[v] w fun e w' => ∃ aa ac, e = .returned (.slice aa l.length ac) ∧ w'.ownsRow w.heap.size 2 1 (.slice aa l.length ac) l.length (l.flatMap encI) ∧ Below w.heap.size w w' := by
  obtain ⟨ig, hig, hg0, hg1, hg2⟩ := info_parts info_i64
  have q36 : ∀ (w : World) (a : Option Addr) (n c n' c' : Nat), (binOp .eql 36 (.slice a n c) (.slice none n' c')).run Try.prog w = .ok (.bool a.isNone) w := fun w a n c n' c' => Lib.run_eql_slice_nil w _ _ a n c n' c' Try.underlying36
  have main : ∀ (ad : Addr) (cap : Nat), v = .slice (some ad) l.length cap → (∀ j u, (l.flatMap encI)[j]? = some u → w.cell? (ad.add j) = some u) →
      Calls Try.prog 59 #[v] w fun e w' => ∃ aa ac, e = .returned (.slice aa l.length ac) ∧ w'.ownsRow w.heap.size 2 1 (.slice aa l.length ac) l.length (l.flatMap encI) ∧ Below w.heap.size w w' := by
    rintro ad cap rfl hc
    have HC := Lib.hid hc
    clear hc h
    go_enter Try.func59, Try.ntmps59
    go_wp2_with (at_builtin; refine wpList_append_own _ rfl _ _ 36 rfl w.heap.size 2 ig (.int .i64 0) 1 8 Try.underlying36 hig hg0 hg1 hg2 rfl (by decide) _ _ _ rfl (World.ownsRow_made w #[] 0 (Nat.le_refl _) (Nat.zero_le _) (by simp)) ad l.length cap (l.flatMap encI) rfl ?qc1 ?qc2 ?qc3 ?qc4 ?qc5 ?qc6 ?_)
    case qc1 => rw [flat_len (k := 1) (fun _ => rfl)]
    case qc2 => exact fun j u hj => Lib.cell?_alloc_some _ (HC.out j u hj)
    case qc3 =>
      intro u hu
      obtain ⟨x, _, hx⟩ := List.mem_flatMap.1 hu
      simp [encI] at hx
      rw [hx]; rfl
    case qc4 => unfold maxLen; omega
    case qc5 => omega
    case qc6 => simp
    intro v' w1 hown hgrow hnil
    have hB : Below w.heap.size w w1 := ((Below.refl _ w).alloc (Nat.le_refl _) _).grown hgrow (by simp) (by intro k hk; simp [Value.ownBlock] at hk; omega)
    have HO := Lib.hid hown
    have HB := Lib.hid hB
    obtain ⟨a, c, rfl⟩ := (own_readsK (enc := encI) (k := 1) (fun _ => rfl) (by decide) hown).slice
    clear hown hB hgrow hnil
    go_wp2_with fail
    go_ret
    exact ⟨a, c, rfl, HO.out, HB.out⟩
  rcases h with ⟨rfl, a, cap, rfl⟩ | ⟨b, off, cap, rfl, hb, hc⟩
  · cases a with
    | none =>
      clear main
      go_enter Try.func59, Try.ntmps59
      go_wp2_with fail
      go_ret
      exact ⟨none, 0, rfl, World.ownsRow_nil _ _ _ _, Below.refl _ _⟩
    | some ad => exact main ad cap rfl (by simp)
  · refine main ⟨b, off, none⟩ cap rfl fun j u hj => ?_
    have hjl : j < l.length := by have := (List.getElem?_eq_some_iff.1 hj).1; rwa [flat_len (k := 1) (fun _ => rfl), Nat.mul_one] at this
    have h2 := hc j hjl 0 (.int .i64 l[j]) rfl
    rw [Nat.mul_one, Nat.add_zero] at h2
    have h3 : (l.flatMap encI)[j]? = some (.int .i64 l[j]) := by
      have : l.flatMap encI = l.map (fun x => Value.int .i64 x) := by rw [List.map_eq_flatMap]; rfl
      rw [this, List.getElem?_map, List.getElem?_eq_getElem hjl]; rfl
    rw [h3] at hj
    injection hj with hj
    subst hj
    rw [Addr.add_lit]
    exact h2
end Go.Proofs.Ythbkbmkcgpdedaa
namespace Go.Proofs.Ythbkbmkcgpdedaa
open Go.RowKit Go.Sort Go.Lib

def tskV (p : ByteArray) (fn : Int) (v : Value) (fuel : Int) : Value := .agg #[.string p, .int .i64 fn, v, .int .i64 fuel]
theorem set4 {w1 : World} {r : Nat} {x y z u : Value} {T : TypeId} (h : w1.heap[r]? = some (.cells #[x, y, z, u] T (0, 0))) (a b c d : Value) :
    ((((w1.setCell ⟨r, 0, none⟩ a).setCell ⟨r, 1, none⟩ b).setCell ⟨r, 2, none⟩ c).setCell ⟨r, 3, none⟩ d).heap[r]? = some (.cells #[a, b, c, d] T (0, 0)) := by
  have h1 := Go.heap_setCell_same w1 r 0 _ _ a h
  have h2 := Go.heap_setCell_same _ r 1 _ _ b h1
  have h3 := Go.heap_setCell_same _ r 2 _ _ c h2
  exact Go.heap_setCell_same _ r 3 _ _ d h3
theorem set4_below {B : Nat} {w w1 : World} {r : Nat} (h : Below B w w1) (hr : B ≤ r) (a b c d : Value) :
    Below B w ((((w1.setCell ⟨r, 0, none⟩ a).setCell ⟨r, 1, none⟩ b).setCell ⟨r, 2, none⟩ c).setCell ⟨r, 3, none⟩ d) :=
  (((h.setCell hr _).setCell hr _).setCell hr _).setCell hr _

theorem own_end {wz : World} {tmps : Array Value} {p : ByteArray} {fn fuel : Int} {v : Value} {r : Nat} {T : TypeId} {R : Ending → World → Prop}
    (hr : wz.heap[r]? = some (.cells #[.string p, .int .i64 fn, v, .int .i64 fuel] T (0, 0))) (h2 : tmps.getD 2 undef = .pointer (some ⟨r, 0, none⟩)) (hR : R (.returned (.agg #[.string p, .int .i64 fn, v, .int .i64 fuel])) wz) :
    bodyPost Try.prog Try.f42 R Exit.ret { tmps := tmps, defers := [] } wz := by
  have c0 : wz.cell? ⟨r, 0, none⟩ = some (.string p) := by simp [World.cell?, hr]
  have c1 : wz.cell? ⟨r, 1, none⟩ = some (.int .i64 fn) := by simp [World.cell?, hr]
  have c2 : wz.cell? ⟨r, 2, none⟩ = some v := by simp [World.cell?, hr]
  have c3 : wz.cell? ⟨r, 3, none⟩ = some (.int .i64 fuel) := by simp [World.cell?, hr]
  refine bodyPost_ret (v := .agg #[.string p, .int .i64 fn, v, .int .i64 fuel]) ?_ rfl hR
  have h2' : tmps[2]?.getD undef = .pointer (some ⟨r, 0, none⟩) := by simpa using h2
  simp [results, Try.results42, go_sem, h2', c0, c1, c2, c3]
theorem own_sets {w1 : World} {E : TypeId} {v : Value} {n : Nat} {xs : List Value} {B r : Nat} (h : w1.ownsRow B E 1 v n xs) (hr : r < B) {a : Addr} (ha : a.block = r) (u : Value) : (w1.setCell a u).ownsRow B E 1 v n xs := by
  refine ⟨h.1, h.2.imp id ?_⟩
  rintro ⟨g, cap, cur, hv, h1, h2, h3⟩
  exact ⟨g, cap, cur, hv, h1, (Go.heap_setCell_other w1 a g u (by omega)).trans h2, h3⟩

set_option maxHeartbeats 800000 in
set_option maxRecDepth 100000 in
theorem own_any (p : ByteArray) (fn fuel : Int) (v : Value) (l : List Int) (w : World) (h : ReadsK encI 1 w v l) (hl : l.length ≤ 1000000) :
    Calls Try.prog 42 #[.agg #[.string p, .int .i64 fn, v, .int .i64 fuel]] w fun e w' => ∃ aa ac, e = .returned (.agg #[.string p, .int .i64 fn, .slice aa l.length ac, .int .i64 fuel]) ∧ w'.ownsRow w.heap.size 2 1 (.slice aa l.length ac) l.length (l.flatMap encI) ∧ Below w.heap.size w w' := by
  obtain ⟨a0, c0, rfl⟩ := h.slice
  have hA : Below w.heap.size w ((w.alloc (.cells #[.string p, .int .i64 fn, .slice a0 l.length c0, .int .i64 fuel] 38)).alloc (.cells #[.string ⟨#[]⟩, .int .i64 0, .slice none 0 0, .int .i64 0] 38)) := ((Below.refl _ _).alloc (Nat.le_refl _) _).alloc (by simp) _
  have HR := Lib.hid (h.below hA)
  have HA := Lib.hid hA
  have hb1 : ((w.alloc (.cells #[.string p, .int .i64 fn, .slice a0 l.length c0, .int .i64 fuel] 38)).alloc (.cells #[.string ⟨#[]⟩, .int .i64 0, .slice none 0 0, .int .i64 0] 38)).heap[w.heap.size]? = some (.cells #[.string p, .int .i64 fn, .slice a0 l.length c0, .int .i64 fuel] 38 (0, 0)) :=
    (((Below.refl (w.alloc (.cells #[.string p, .int .i64 fn, .slice a0 l.length c0, .int .i64 fuel] 38)).heap.size _).alloc (Nat.le_refl _) _).block _ (by simp)).trans (heap_alloc_new _ _)
  have hb2 := heap_alloc_new (w.alloc (.cells #[.string p, .int .i64 fn, .slice a0 l.length c0, .int .i64 fuel] 38)) (.cells #[.string ⟨#[]⟩, .int .i64 0, .slice none 0 0, .int .i64 0] 38)
  rw [show (w.alloc (.cells #[.string p, .int .i64 fn, .slice a0 l.length c0, .int .i64 fuel] 38)).heap.size = w.heap.size + 1 by simp] at hb2
  have H1 := Lib.hid hb1
  have H2 := Lib.hid hb2
  clear h hA hb1 hb2
  go_enter Try.func42, Try.ntmps42
  go_wp2_with fail
  refine (clone_any _ l _ HR.out hl).mono ?_
  rintro e w1 ⟨aa, ac, rfl, ho, hB⟩
  have hlt1 := (Array.getElem?_eq_some_iff.1 H1.out).1
  have hlt2 := (Array.getElem?_eq_some_iff.1 H2.out).1
  have k1 := (hB.block _ hlt1).trans H1.out
  have k2 := (hB.block _ hlt2).trans H2.out
  have HO := Lib.hid (owns_base ho (show w.heap.size + 2 ≤ _ from by simp))
  have HB := Lib.hid (gthen HA.out hB)
  clear ho hB HR H1 H2 HA hlt1 hlt2
  have hc1 : ∀ o, w1.cell? ⟨w.heap.size, o, none⟩ = #[Value.string p, .int .i64 fn, .slice a0 l.length c0, .int .i64 fuel][o]? := fun o => by simp [World.cell?, k1]
  have hz1 : ∀ o, w1.frozen? ⟨w.heap.size, o, none⟩ = false := fun o => by simp [World.frozen?, k1]
  have hc2 : ∀ o, w1.cell? ⟨w.heap.size + 1, o, none⟩ = #[Value.string ⟨#[]⟩, .int .i64 0, .slice none 0 0, .int .i64 0][o]? := fun o => by simp [World.cell?, k2]
  have hz2 : ∀ o, w1.frozen? ⟨w.heap.size + 1, o, none⟩ = false := fun o => by simp [World.frozen?, k2]
  have x0 := hc1 0; have x1 := hc1 1; have x2 := hc1 2; have x3 := hc1 3
  have y0 := hc2 0; have y1 := hc2 1; have y2 := hc2 2; have y3 := hc2 3
  have p2 := hz1 2
  have q0 := hz2 0; have q1 := hz2 1; have q2 := hz2 2; have q3 := hz2 3
  simp only [List.getElem?_toArray, List.getElem?_cons_zero, List.getElem?_cons_succ] at x0 x1 x2 x3 y0 y1 y2 y3
  have K1 := Lib.hid k1
  have K2 := Lib.hid k2
  clear hc1 hz1 hc2 hz2 k1 k2
  go_wp2_with fail
  have hx := set4 (w1 := w1.setCell ⟨w.heap.size, 2, none⟩ (.slice aa l.length ac)) ((Go.heap_setCell_other w1 ⟨w.heap.size, 2, none⟩ (w.heap.size + 1) _ (by show w.heap.size + 1 ≠ w.heap.size; omega)).trans K2.out) (.string p) (.int .i64 fn) (.slice aa l.length ac) (.int .i64 fuel)
  have hB9 := set4_below (HB.out.setCell (p := ⟨w.heap.size, 2, none⟩) (Nat.le_refl _) (.slice aa l.length ac)) (r := w.heap.size + 1) (Nat.le_succ _) (.string p) (.int .i64 fn) (.slice aa l.length ac) (.int .i64 fuel)
  have hO9 := own_sets (own_sets (own_sets (own_sets (own_sets HO.out (r := w.heap.size) (a := ⟨w.heap.size, 2, none⟩) (by omega) rfl (.slice aa l.length ac)) (r := w.heap.size + 1) (a := ⟨w.heap.size + 1, 0, none⟩) (by omega) rfl (.string p)) (r := w.heap.size + 1) (a := ⟨w.heap.size + 1, 1, none⟩) (by omega) rfl (.int .i64 fn)) (r := w.heap.size + 1) (a := ⟨w.heap.size + 1, 2, none⟩) (by omega) rfl (.slice aa l.length ac)) (r := w.heap.size + 1) (a := ⟨w.heap.size + 1, 3, none⟩) (by omega) rfl (.int .i64 fuel)
  exact own_end hx rfl ⟨aa, ac, rfl, owns_base hO9 (by omega), hB9⟩

def MadeT (most : Int) (w : World) (e : Ending) (w' : World) : Prop := ∃ f m, e = .returned (.tuple #[.pointer (some ⟨f, 0, none⟩), .int .i64 0]) ∧ w.heap.size ≤ f ∧ w.heap.size ≤ m ∧ Tab w' f m most [] ∧ Below w.heap.size w w'
theorem tab_made (w : World) (most : Int) : Tab ((w.alloc (.map #[] 0)).alloc (.cells #[.int .i64 most, .map (some w.heap.size)] 76)) (w.heap.size + 1) w.heap.size most [] := by
  refine ⟨?_, (MapL.made evP w).block (Below.heap_alloc _ _ _ (by simp)), (by intro p hp; cases hp), List.nodup_nil⟩
  have := heap_alloc_new (w.alloc (.map #[] 0)) (.cells #[.int .i64 most, .map (some w.heap.size)] 76)
  rw [show (w.alloc (.map #[] 0)).heap.size = w.heap.size + 1 by simp] at this
  exact this
set_option maxHeartbeats 800000 in
set_option maxRecDepth 100000 in
theorem new_tab (most : Int) (w : World) (h1 : ¬ most < 1) (h2 : ¬ most > 4096) :
    Calls Try.prog 8 #[.int .i64 most] w fun e w' => MadeT most w e w' := by
  have hmm := @Go.RowKit.run_makeMap Try.prog
  have hL := Lib.hid (tab_made w most)
  go_enter Try.func8, Try.ntmps8
  go_wp2_with fail
  go_ret2
  exact ⟨w.heap.size + 1, w.heap.size, rfl, Nat.le_succ _, Nat.le_refl _, hL.out, ((Below.refl _ _).alloc (Nat.le_refl _) _).alloc (by simp) _⟩
set_option maxHeartbeats 800000 in
theorem len_tab (f m : Nat) (most : Int) (T : Tb) (w : World) (h : Tab w f m most T) :
    Calls Try.prog 27 #[.pointer (some ⟨f, 0, none⟩)] w fun e w' => e = .returned (.int .i64 T.length) ∧ w' = w := by
  have hln := fun ty => h.map.len (P := Try.prog) (k := 35) Try.underlying74 ty
  have hll : ((mapT T).length : Int) = T.length := by unfold mapT; simp
  have c1 := h.c1
  clear h
  rw [hll] at hln
  go_enter Try.func27, Try.ntmps27
  go_wp2_with fail
  go_ret
  exact ⟨ret_intE rfl, rfl⟩
end Go.Proofs.Ythbkbmkcgpdedaa
namespace Go.Proofs.Ythbkbmkcgpdedaa
open Go.RowKit Go.Sort Go.Lib

theorem nameTyT : NameTy Try.prog 35 := nameTy
theorem zeroT (w : World) : (zeroValue 79).run Try.prog w = .ok (.pointer none) w := by kernel_rfl
def ptrT (T : Tb) (n : Nm) : Value := .pointer ((getL T n).map fun p => ⟨p.1, 0, none⟩)
theorem Tab.look_at {w x : World} {f m : Nat} {most : Int} {T : Tb} (h : Tab w f m most T) (hx : x.heap[m]? = w.heap[m]?) (n : Nm) :
    (Instr.lookup 74 (.map (some m)) (.agg #[.int .u64 n.1, .string n.2]) false).run Try.prog x = .ok (ptrT T n) x := by
  have := (h.map.block hx).lookup nameTy Try.underlying74 (zeroT x) n
  rw [getL_mapT] at this
  rw [show (((getL T n).map (·.1)).map evP).getD (.pointer none) = ptrT T n by unfold ptrT; cases getL T n <;> rfl] at this
  exact this
theorem mapNilT (w : World) (r : Option Nat) : (binOp .eql 74 (.map r) (.map none)).run Try.prog w = .ok (.bool r.isNone) w :=
  run_eql_map_nil w _ _ _ r Try.underlying74
theorem Tab.at {w : World} {f m : Nat} {most : Int} {T : Tb} (h : Tab w f m most T) {n : Nm} {b : Nat} {r : Rw} (hg : getL T n = some (b, r)) : w.heap[b]? = some (rowO n r) ∧ Args w r := h.row (n, b, r) (getL_mem' hg)
theorem row_cells {w : World} {b : Nat} {n : Nm} {r : Rw} (h : w.heap[b]? = some (rowO n r)) (o : Nat) : w.cell? ⟨b, o, none⟩ = #[Value.int .u64 n.1, .string n.2, .string n.2, .int .i64 r.fn, .slice r.aa r.args.length r.ac, .int .i64 r.fuel, .int .u8 r.st, .int .i64 r.op, .int .i64 r.val, .int .i64 r.err, .bool r.fk][o]? := by
  unfold rowO at h; simp [World.cell?, h]
theorem row_open {w : World} {b : Nat} {n : Nm} {r : Rw} (h : w.heap[b]? = some (rowO n r)) (o : Nat) : w.frozen? ⟨b, o, none⟩ = false := by
  unfold rowO at h; simp [World.frozen?, h]

set_option maxHeartbeats 800000 in
set_option maxRecDepth 100000 in
theorem contains_any (l : List Int) (x : Int) (v : Value) (w : World) (h : ReadsK (fun x => [.int .u8 x]) 1 w v l) (hl : l.length ≤ 1000000) :
    Calls Try.prog 57 #[v, .int .u8 x] w fun e w' => e = .returned (.bool (decide (x ∈ l))) ∧ w' = w := by
  have hidx : Calls Try.prog 67 #[v, .int .u8 x] w fun e w' => (∃ i : Int, e = .returned (.int .i64 i) ∧ (x ∈ l → 0 ≤ i) ∧ (x ∉ l → i = -1)) ∧ w' = w := by
    obtain ⟨a, c, rfl⟩ := h.slice
    have HR := Lib.hid h
    clear h
    go_enter Try.func67, Try.ntmps67
    go_wp2_with fail
    go_loopg [8] l.length (fun gk i wr => ∃ k : Nat, gk + k = l.length ∧ i = .int .i64 k ∧ wr = w ∧ ∀ j (hj : j < l.length), j < k → l[j] ≠ x)
    case atStart => exact ⟨0, by omega, rfl, rfl, fun j hj h0 => by omega⟩
    case round =>
      obtain ⟨k, hk, rfl, rfl, hno⟩ := hrel
      have HNO := Lib.hid hno
      clear hno
      by_cases hlt : k < l.length
      · obtain ⟨b, off, cc, he, hb, hc⟩ := HR.out.at (by omega)
        injection he with he1 he2 he3
        subst he1
        have hcc : wr.cell? ⟨b, off + k, none⟩ = some (.int .u8 l[k]) := by have h := hc k hlt 0 _ rfl; rw [Nat.mul_one, Nat.add_zero] at h; exact h
        clear hc hb he2 he3
        by_cases hx : x = l[k]
        · have hm : Hid (x ∈ l) := by rw [hx]; exact List.getElem_mem hlt
          have hb : (x == l[k]) = true := by simp [hx]
          clear hx
          generalize l[k] = y at hcc hb
          go_wp2_with fail
          go_ret
          exact ⟨⟨_, rfl, fun _ => by omega, fun h => absurd hm.out h⟩, rfl⟩
        · have HX := Lib.hid (show l[k] ≠ x from fun e => hx e.symm)
          have hb : (x == l[k]) = false := by simpa using hx
          clear hx
          generalize hy : l[k] = y at hcc hb
          have HY := Lib.hid hy
          clear hy
          go_wp2_with fail
          go_roundg (gk - 1)
          case rel => exact ⟨k + 1, by omega, by go_num, rfl, fun j hj h0 => by
            by_cases e : j = k
            · subst e; exact HX.out
            · exact HNO.out j hj (by omega)⟩
          case measure => omega
      · have hm : Hid (x ∉ l) := by
          show ¬ x ∈ l
          intro hx
          obtain ⟨j, hj, e⟩ := List.getElem_of_mem hx
          exact HNO.out j hj (by omega) e
        go_wp2_with fail
        go_ret
        exact ⟨⟨-1, rfl, fun h => absurd h hm.out, fun _ => rfl⟩, rfl⟩
  clear h
  go_enter Try.func57, Try.ntmps57
  go_wp2_with fail
  refine hidx.mono ?_
  rintro e w1 ⟨⟨i, rfl, h1, h2⟩, rfl⟩
  clear hidx
  by_cases hx : x ∈ l
  · have hi := h1 hx
    have HX := Lib.hid hx
    clear h1 h2 hx
    go_wp2_with fail
    go_ret
    exact ⟨ret_boolE (decide_eq_true HX.out).symm, rfl⟩
  · have hi := h2 hx
    have HX := Lib.hid hx
    clear h1 h2 hx
    subst hi
    go_wp2_with fail
    go_ret
    exact ⟨ret_boolE (decide_eq_false HX.out).symm, rfl⟩

def ofV (T : Tb) (n : Nm) (L : List Int) : Value × Int := match getL T n with
  | none => (.pointer none, 5)
  | some (b, r) => if r.st ∈ L then (.pointer (some ⟨b, 0, none⟩), 0) else (.pointer none, 3)
theorem Tab.drewN {w : World} {f m : Nat} {most : Int} {T : Tb} (h : Tab w f m most T) (q : Nat) : Tab (w.drewN q) f m most T := h.below (below_drewN (Below.refl _ _) q)
set_option maxHeartbeats 1600000 in
set_option maxRecDepth 100000 in
theorem of_tab (f m : Nat) (most : Int) (T : Tb) (n : Nm) (L : List Int) (v : Value) (w : World) (h : Tab w f m most T) (hv : ReadsK (fun x => [.int .u8 x]) 1 w v L) (hL : L.length ≤ 1000000) :
    Calls Try.prog 40 #[.pointer (some ⟨f, 0, none⟩), .agg #[.int .u64 n.1, .string n.2], v] w fun e w' => e = .returned (.tuple #[(ofV T n L).1, .int .i64 (ofV T n L).2]) ∧ Below w.heap.size w w' := by
  have hB1 : Below w.heap.size w (w.alloc (.cells #[.int .u64 n.1, .string n.2] 35)) := (Below.refl _ _).alloc (Nat.le_refl _) _
  have h1 := h.below hB1
  have hl := fun q => (h1.drewN q).look_at rfl n
  have c1 := h1.c1
  have hlt := h.lt
  have hmn := mapNilT
  have HH := Lib.hid h1
  have HV := Lib.hid (hv.below hB1)
  obtain ⟨va, vc, rfl⟩ := hv.slice
  have HB1 := Lib.hid hB1
  clear h h1 hv hB1
  unfold ptrT at hl
  cases hg : getL T n with
  | none =>
    rw [hg] at hl
    have ho := Lib.hid (show ofV T n L = (.pointer none, 5) by unfold ofV; rw [hg])
    clear hg
    simp only [Option.map_none] at hl
    go_enter Try.func40, Try.ntmps40
    go_wp2_with fail
    go_quiet (fail)
    go_wp2_with fail
    go_ret2
    exact ⟨by rw [ho.out]; rfl, below_drewN HB1.out _⟩
  | some br =>
    obtain ⟨b, r⟩ := br
    rw [hg] at hl
    simp only [Option.map_some] at hl
    have hrow := (HH.out.at hg).1
    have hblt := (Array.getElem?_eq_some_iff.1 hrow).1
    have HROW := Lib.hid hrow
    have hst : Hid (ofV T n L = if r.st ∈ L then (.pointer (some ⟨b, 0, none⟩), 0) else (.pointer none, 3)) := by show _ = _; unfold ofV; rw [hg]
    clear hg hrow
    go_enter Try.func40, Try.ntmps40
    go_wp2_with fail
    go_quiet (fail)
    have HB2 := Lib.hid (below_drewN HB1.out nq)
    have HV2 := Lib.hid (HV.out.below (below_drewN (Below.refl _ _) nq))
    have k6 : ((w.alloc (.cells #[.int .u64 n.1, .string n.2] 35)).drewN nq).cell? ⟨b, 6, none⟩ = some (.int .u8 r.st) := row_cells HROW.out 6
    generalize (w.alloc (.cells #[.int .u64 n.1, .string n.2] 35)).drewN nq = wq at *
    clear hl c1 HH HV HB1 HROW hblt
    go_wp2_with fail
    refine (contains_any L r.st _ wq HV2.out hL).mono ?_
    rintro e w2 ⟨rfl, rfl⟩
    by_cases hs : r.st ∈ L
    · have ho := Lib.hid (hst.out.trans (if_pos hs))
      rw [decide_eq_true hs]
      clear hs hst
      go_wp2_with fail
      go_ret2
      exact ⟨by rw [ho.out]; rfl, HB2.out⟩
    · have ho := Lib.hid (hst.out.trans (if_neg hs))
      rw [decide_eq_false hs]
      clear hs hst
      go_wp2_with fail
      go_ret2
      exact ⟨by rw [ho.out]; rfl, HB2.out⟩
end Go.Proofs.Ythbkbmkcgpdedaa
namespace Go.Proofs.Ythbkbmkcgpdedaa
open Go.RowKit Go.Sort Go.Lib

def addE (T : Tb) (most : Int) (n : Nm) : Int := if (getL T n).isSome then 7 else if most ≤ T.length then 6 else 0
theorem Tab.notMap {w : World} {f m : Nat} {most : Int} {T : Tb} (h : Tab w f m most T) {i : Nat} {c : Array Value} {t : TypeId} {fr : Nat × Nat} (hi : w.heap[i]? = some (Obj.cells c t fr)) : i ≠ m := by
  rintro rfl
  obtain ⟨es, c, hb, _⟩ := h.map
  rw [hb] at hi; cases hi
theorem Tab.more {wc w9 : World} {f m : Nat} {most : Int} {T : Tb} {n : Nm} {r : Rw} (h : Tab wc f m most T) (hg : getL T n = none) (ho : Args wc r) (hM : MapL evP w9 m (putL (mapT T) n wc.heap.size)) (hO : OnlyAt (wc.alloc (rowO n r)) w9 m) :
    Tab w9 f m most (T ++ [(n, wc.heap.size, r)]) := by
  have hk : ∀ (i : Nat) (c : Array Value) (t : TypeId) (fr : Nat × Nat), wc.heap[i]? = some (Obj.cells c t fr) → w9.heap[i]? = some (Obj.cells c t fr) := fun i c t fr hi =>
    (hO.2.2.2.2.1 i (h.notMap hi)).trans ((Below.heap_alloc _ _ _ (Array.getElem?_eq_some_iff.1 hi).1).trans hi)
  have ha : ∀ r, Args wc r → Args w9 r := fun r hr => Args.far hr (fun i cur hi => (hk i _ _ _ hi).trans hi.symm)
  have hnew : w9.heap[wc.heap.size]? = some (rowO n r) := (hO.2.2.2.2.1 _ (by have := h.lt.2.1; omega)).trans (heap_alloc_new _ _)
  refine ⟨hk f _ _ _ h.box, ?_, ?_, ?_⟩
  · rw [putL_newV (by rw [getL_mapT, hg]; rfl)] at hM
    rw [show mapT (T ++ [(n, wc.heap.size, r)]) = mapT T ++ [(n, wc.heap.size)] by unfold mapT; simp]
    exact hM
  · intro p hp
    rcases List.mem_append.1 hp with hp | hp
    · exact ⟨hk _ _ _ _ (h.row p hp).1, ha _ (h.row p hp).2⟩
    · rw [List.mem_singleton] at hp
      rw [hp]
      exact ⟨hnew, ha _ ho⟩
  · rw [List.map_append, List.nodup_append]
    refine ⟨h.nd, by simp, fun a ha b hb e => ?_⟩
    obtain ⟨p, hp, rfl⟩ := List.mem_map.1 ha
    simp at hb
    have := (Array.getElem?_eq_some_iff.1 (h.row p hp).1).1
    omega
theorem gdrew {n : Nat} {w y : World} (h : Below n w.drew y) : Below n w y := ⟨h.os, h.tape, h.output, h.size, h.block⟩
set_option maxHeartbeats 3200000 in
set_option maxRecDepth 100000 in
theorem add_tab (f m : Nat) (most : Int) (T : Tb) (job : Int) (p : ByteArray) (fn fuel : Int) (v : Value) (l : List Int) (fk : Bool) (w : World) (h : Tab w f m most T) (hv : ReadsK encI 1 w v l) (hl : l.length ≤ 1000000) (_hT : T.length ≤ 1000000) :
    Calls Try.prog 37 #[.pointer (some ⟨f, 0, none⟩), .int .u64 job, .agg #[.string p, .int .i64 fn, v, .int .i64 fuel], .bool fk] w fun e w' => e = .returned (.int .i64 (addE T most (job, p))) ∧
      ((addE T most (job, p) ≠ 0 ∧ Tab w' f m most T ∧ Below w.heap.size w w') ∨ (addE T most (job, p) = 0 ∧ ∃ b aa ac, w.heap.size ≤ b ∧ Tab w' f m most (T ++ [((job, p), b, ⟨fn, aa, ac, l, fuel, 1, 0, 0, 0, fk⟩)]) ∧ Fr (fun i => i = m) w w')) := by
  obtain ⟨va, vc, rfl⟩ := hv.slice
  have hA : Below w.heap.size w ((w.alloc (.cells #[.string p, .int .i64 fn, .slice va l.length vc, .int .i64 fuel] 38)).alloc (.cells #[.int .u64 job, .string p] 35)) := ((Below.refl _ _).alloc (Nat.le_refl _) _).alloc (by simp) _
  have h1 := h.below hA
  have hl1 := fun q => (h1.drewN q).look_at rfl (job, p)
  have c0 := h1.c0
  have c1 := h1.c1
  have hlt := h.lt
  have HH := Lib.hid h1
  have HV := Lib.hid (hv.below hA)
  have HA := Lib.hid hA
  clear h h1 hv hA
  unfold ptrT at hl1
  cases hg : getL T (job, p) with
  | some br =>
    obtain ⟨b, r⟩ := br
    rw [hg] at hl1
    simp only [Option.map_some] at hl1
    have he := Lib.hid (show addE T most (job, p) = 7 by unfold addE; rw [hg]; rfl)
    clear hg
    go_enter Try.func37, Try.ntmps37
    go_wp2_with fail
    go_quiet (fail)
    go_wp2_with fail
    go_ret
    exact ⟨ret_intE he.out.symm, .inl ⟨by rw [he.out]; decide, HH.out.drewN _, below_drewN HA.out _⟩⟩
  | none =>
    rw [hg] at hl1
    simp only [Option.map_none] at hl1
    have HG := Lib.hid hg
    clear hg
    go_enter Try.func37, Try.ntmps37
    go_wp2_with fail
    go_quiet (fail)
    have HH2 := Lib.hid (HH.out.drewN nq)
    have HV2 := Lib.hid (HV.out.below (below_drewN (Below.refl _ _) nq))
    have HA2 := Lib.hid (below_drewN HA.out nq)
    have k0 : (((w.alloc (.cells #[.string p, .int .i64 fn, .slice va l.length vc, .int .i64 fuel] 38)).alloc (.cells #[.int .u64 job, .string p] 35)).drewN nq).heap[w.heap.size]? = some (.cells #[.string p, .int .i64 fn, .slice va l.length vc, .int .i64 fuel] 38 (0, 0)) :=
      (((Below.refl (w.alloc (.cells #[.string p, .int .i64 fn, .slice va l.length vc, .int .i64 fuel] 38)).heap.size _).alloc (Nat.le_refl _) _).block _ (by simp)).trans (heap_alloc_new _ _)
    have k1 : (((w.alloc (.cells #[.string p, .int .i64 fn, .slice va l.length vc, .int .i64 fuel] 38)).alloc (.cells #[.int .u64 job, .string p] 35)).drewN nq).heap[w.heap.size + 1]? = some (.cells #[.int .u64 job, .string p] 35 (0, 0)) := by
      have h2 := heap_alloc_new (w.alloc (.cells #[.string p, .int .i64 fn, .slice va l.length vc, .int .i64 fuel] 38)) (.cells #[.int .u64 job, .string p] 35)
      rw [show (w.alloc (.cells #[.string p, .int .i64 fn, .slice va l.length vc, .int .i64 fuel] 38)).heap.size = w.heap.size + 1 by simp] at h2
      exact h2
    generalize ((w.alloc (.cells #[.string p, .int .i64 fn, .slice va l.length vc, .int .i64 fuel] 38)).alloc (.cells #[.int .u64 job, .string p] 35)).drewN nq = wq at *
    clear hl1 c0 c1 HH HV HA
    have hln := fun q ty => (HH2.out.drewN q).map.len (P := Try.prog) (k := 35) Try.underlying74 ty
    have hll : ((mapT T).length : Int) = T.length := by unfold mapT; simp
    rw [hll] at hln
    have c0 := HH2.out.c0
    have c1 := HH2.out.c1
    by_cases hf : most ≤ T.length
    · have he := Lib.hid (show addE T most (job, p) = 6 by unfold addE; rw [HG.out]; simp [hf])
      go_wp2_with fail
      go_quiet (fail)
      go_wp2_with fail
      go_ret
      exact ⟨ret_intE he.out.symm, .inl ⟨by rw [he.out]; decide, HH2.out.drewN _, below_drewN HA2.out _⟩⟩
    · have he := Lib.hid (show addE T most (job, p) = 0 by unfold addE; rw [HG.out]; simp [hf])
      go_wp2_with fail
      go_quiet (fail)
      have HH3 := Lib.hid (HH2.out.drewN nq)
      have HV3 := Lib.hid (HV2.out.below (below_drewN (Below.refl _ _) nq))
      have HA3 := Lib.hid (below_drewN HA2.out nq)
      have j0 : (wq.drewN nq).heap[w.heap.size]? = some (.cells #[.string p, .int .i64 fn, .slice va l.length vc, .int .i64 fuel] 38 (0, 0)) := k0
      have j1 : (wq.drewN nq).heap[w.heap.size + 1]? = some (.cells #[.int .u64 job, .string p] 35 (0, 0)) := k1
      generalize wq.drewN nq = wr at *
      clear hln c0 c1 HH2 HV2 HA2 k0 k1
      go_upto_region 6 with fail
      have d1 := HH3.out.c1
      have hlf : f < wr.heap.size ∧ ¬ f = m := ⟨HH3.out.lt.1, HH3.out.lt.2.2⟩
      have hl0 : w.heap.size < wr.heap.size ∧ ¬ w.heap.size = m := ⟨(Array.getElem?_eq_some_iff.1 j0).1, by omega⟩
      have hl1 : w.heap.size + 1 < wr.heap.size ∧ ¬ w.heap.size + 1 = m := ⟨(Array.getElem?_eq_some_iff.1 j1).1, by omega⟩
      have a0 : wr.cell? ⟨w.heap.size, 0, none⟩ = some (.string p) := by simp [World.cell?, j0]
      have a1 : wr.cell? ⟨w.heap.size, 1, none⟩ = some (.int .i64 fn) := by simp [World.cell?, j0]
      have a2 : wr.cell? ⟨w.heap.size, 2, none⟩ = some (.slice va l.length vc) := by simp [World.cell?, j0]
      have a3 : wr.cell? ⟨w.heap.size, 3, none⟩ = some (.int .i64 fuel) := by simp [World.cell?, j0]
      have b0 : wr.cell? ⟨w.heap.size + 1, 0, none⟩ = some (.int .u64 job) := by simp [World.cell?, j1]
      have b1 : wr.cell? ⟨w.heap.size + 1, 1, none⟩ = some (.string p) := by simp [World.cell?, j1]
      clear j0 j1
      refine wp_region_held_drew (S := fun y => Fr (fun i => i = m) wr y) (by kernel_rfl) ((Fr.refl _ _).drew) (fun hHeld => ?_)
      refine wpAnyH_take (i := 0) (oi := _) (v := ?_) (by rw [List.getElem?_toArray]; exact rfl) (by kernel_rfl) (by kernel_rfl) (by kernel_rfl) (by exact fun _ _ _ h => h) (Or.inl ⟨by rfl, ?_⟩) hHeld ?_
      rotate_left
      · (intro wX hSw; have q0 := (hSw.cell (p := ⟨f, 1, none⟩) hlf.1 hlf.2).trans d1; have q1 := (hSw.cell (p := ⟨w.heap.size, 0, none⟩) hl0.1 hl0.2).trans a0; have q2 := (hSw.cell (p := ⟨w.heap.size, 1, none⟩) hl0.1 hl0.2).trans a1; have q3 := (hSw.cell (p := ⟨w.heap.size, 2, none⟩) hl0.1 hl0.2).trans a2; have q4 := (hSw.cell (p := ⟨w.heap.size, 3, none⟩) hl0.1 hl0.2).trans a3; have q5 := (hSw.cell (p := ⟨w.heap.size + 1, 0, none⟩) hl1.1 hl1.2).trans b0; have q6 := (hSw.cell (p := ⟨w.heap.size + 1, 1, none⟩) hl1.1 hl1.2).trans b1; clear hSw; go_simp; try with_reducible rfl)
      try simp only [Act.put, List.setIfInBounds_toArray, List.set_cons_zero, List.set_cons_succ]
      refine wpAnyH_take (i := 1) (oi := _) (v := ?_) (by rw [List.getElem?_toArray]; exact rfl) (by kernel_rfl) (by kernel_rfl) (by kernel_rfl) (by exact fun _ _ _ h => h) (Or.inl ⟨by rfl, ?_⟩) hHeld ?_
      rotate_left
      · (intro wX hSw; have q0 := (hSw.cell (p := ⟨f, 1, none⟩) hlf.1 hlf.2).trans d1; have q1 := (hSw.cell (p := ⟨w.heap.size, 0, none⟩) hl0.1 hl0.2).trans a0; have q2 := (hSw.cell (p := ⟨w.heap.size, 1, none⟩) hl0.1 hl0.2).trans a1; have q3 := (hSw.cell (p := ⟨w.heap.size, 2, none⟩) hl0.1 hl0.2).trans a2; have q4 := (hSw.cell (p := ⟨w.heap.size, 3, none⟩) hl0.1 hl0.2).trans a3; have q5 := (hSw.cell (p := ⟨w.heap.size + 1, 0, none⟩) hl1.1 hl1.2).trans b0; have q6 := (hSw.cell (p := ⟨w.heap.size + 1, 1, none⟩) hl1.1 hl1.2).trans b1; clear hSw; go_simp; try with_reducible rfl)
      try simp only [Act.put, List.setIfInBounds_toArray, List.set_cons_zero, List.set_cons_succ]
      refine wpAnyH_take (i := 2) (oi := _) (v := ?_) (by rw [List.getElem?_toArray]; exact rfl) (by kernel_rfl) (by kernel_rfl) (by kernel_rfl) (by exact fun _ _ _ h => h) (Or.inl ⟨by rfl, ?_⟩) hHeld ?_
      rotate_left
      · (intro wX hSw; have q0 := (hSw.cell (p := ⟨f, 1, none⟩) hlf.1 hlf.2).trans d1; have q1 := (hSw.cell (p := ⟨w.heap.size, 0, none⟩) hl0.1 hl0.2).trans a0; have q2 := (hSw.cell (p := ⟨w.heap.size, 1, none⟩) hl0.1 hl0.2).trans a1; have q3 := (hSw.cell (p := ⟨w.heap.size, 2, none⟩) hl0.1 hl0.2).trans a2; have q4 := (hSw.cell (p := ⟨w.heap.size, 3, none⟩) hl0.1 hl0.2).trans a3; have q5 := (hSw.cell (p := ⟨w.heap.size + 1, 0, none⟩) hl1.1 hl1.2).trans b0; have q6 := (hSw.cell (p := ⟨w.heap.size + 1, 1, none⟩) hl1.1 hl1.2).trans b1; clear hSw; go_simp; try with_reducible rfl)
      try simp only [Act.put, List.setIfInBounds_toArray, List.set_cons_zero, List.set_cons_succ]
      refine wpAnyH_take (i := 3) (oi := _) (v := ?_) (by rw [List.getElem?_toArray]; exact rfl) (by kernel_rfl) (by kernel_rfl) (by kernel_rfl) (by exact fun _ _ _ h => h) (Or.inl ⟨by rfl, ?_⟩) hHeld ?_
      rotate_left
      · (intro wX hSw; have q0 := (hSw.cell (p := ⟨f, 1, none⟩) hlf.1 hlf.2).trans d1; have q1 := (hSw.cell (p := ⟨w.heap.size, 0, none⟩) hl0.1 hl0.2).trans a0; have q2 := (hSw.cell (p := ⟨w.heap.size, 1, none⟩) hl0.1 hl0.2).trans a1; have q3 := (hSw.cell (p := ⟨w.heap.size, 2, none⟩) hl0.1 hl0.2).trans a2; have q4 := (hSw.cell (p := ⟨w.heap.size, 3, none⟩) hl0.1 hl0.2).trans a3; have q5 := (hSw.cell (p := ⟨w.heap.size + 1, 0, none⟩) hl1.1 hl1.2).trans b0; have q6 := (hSw.cell (p := ⟨w.heap.size + 1, 1, none⟩) hl1.1 hl1.2).trans b1; clear hSw; go_simp; try with_reducible rfl)
      try simp only [Act.put, List.setIfInBounds_toArray, List.set_cons_zero, List.set_cons_succ]
      refine wpAnyH_take (i := 4) (oi := _) (v := ?_) (by rw [List.getElem?_toArray]; exact rfl) (by kernel_rfl) (by kernel_rfl) (by kernel_rfl) (by exact fun _ _ _ h => h) (Or.inl ⟨by rfl, ?_⟩) hHeld ?_
      rotate_left
      · (intro wX hSw; have q0 := (hSw.cell (p := ⟨f, 1, none⟩) hlf.1 hlf.2).trans d1; have q1 := (hSw.cell (p := ⟨w.heap.size, 0, none⟩) hl0.1 hl0.2).trans a0; have q2 := (hSw.cell (p := ⟨w.heap.size, 1, none⟩) hl0.1 hl0.2).trans a1; have q3 := (hSw.cell (p := ⟨w.heap.size, 2, none⟩) hl0.1 hl0.2).trans a2; have q4 := (hSw.cell (p := ⟨w.heap.size, 3, none⟩) hl0.1 hl0.2).trans a3; have q5 := (hSw.cell (p := ⟨w.heap.size + 1, 0, none⟩) hl1.1 hl1.2).trans b0; have q6 := (hSw.cell (p := ⟨w.heap.size + 1, 1, none⟩) hl1.1 hl1.2).trans b1; clear hSw; go_simp; try with_reducible rfl)
      try simp only [Act.put, List.setIfInBounds_toArray, List.set_cons_zero, List.set_cons_succ]
      refine wpAnyH_take (i := 5) (oi := _) (v := ?_) (by rw [List.getElem?_toArray]; exact rfl) (by kernel_rfl) (by kernel_rfl) (by kernel_rfl) (by exact fun _ _ _ h => h) (Or.inl ⟨by rfl, ?_⟩) hHeld ?_
      rotate_left
      · (intro wX hSw; have q0 := (hSw.cell (p := ⟨f, 1, none⟩) hlf.1 hlf.2).trans d1; have q1 := (hSw.cell (p := ⟨w.heap.size, 0, none⟩) hl0.1 hl0.2).trans a0; have q2 := (hSw.cell (p := ⟨w.heap.size, 1, none⟩) hl0.1 hl0.2).trans a1; have q3 := (hSw.cell (p := ⟨w.heap.size, 2, none⟩) hl0.1 hl0.2).trans a2; have q4 := (hSw.cell (p := ⟨w.heap.size, 3, none⟩) hl0.1 hl0.2).trans a3; have q5 := (hSw.cell (p := ⟨w.heap.size + 1, 0, none⟩) hl1.1 hl1.2).trans b0; have q6 := (hSw.cell (p := ⟨w.heap.size + 1, 1, none⟩) hl1.1 hl1.2).trans b1; clear hSw; go_simp; try with_reducible rfl)
      try simp only [Act.put, List.setIfInBounds_toArray, List.set_cons_zero, List.set_cons_succ]
      refine wpAnyH_take (i := 6) (oi := _) (v := ?_) (by rw [List.getElem?_toArray]; exact rfl) (by kernel_rfl) (by kernel_rfl) (by kernel_rfl) (by exact fun _ _ _ h => h) (Or.inl ⟨by rfl, ?_⟩) hHeld ?_
      rotate_left
      · (intro wX hSw; have q0 := (hSw.cell (p := ⟨f, 1, none⟩) hlf.1 hlf.2).trans d1; have q1 := (hSw.cell (p := ⟨w.heap.size, 0, none⟩) hl0.1 hl0.2).trans a0; have q2 := (hSw.cell (p := ⟨w.heap.size, 1, none⟩) hl0.1 hl0.2).trans a1; have q3 := (hSw.cell (p := ⟨w.heap.size, 2, none⟩) hl0.1 hl0.2).trans a2; have q4 := (hSw.cell (p := ⟨w.heap.size, 3, none⟩) hl0.1 hl0.2).trans a3; have q5 := (hSw.cell (p := ⟨w.heap.size + 1, 0, none⟩) hl1.1 hl1.2).trans b0; have q6 := (hSw.cell (p := ⟨w.heap.size + 1, 1, none⟩) hl1.1 hl1.2).trans b1; clear hSw; go_simp; try with_reducible rfl)
      try simp only [Act.put, List.setIfInBounds_toArray, List.set_cons_zero, List.set_cons_succ]
      refine wpAnyH_take (i := 9) (oi := _) (v := ?_) (by rw [List.getElem?_toArray]; exact rfl) (by kernel_rfl) (by kernel_rfl) (by kernel_rfl) (by exact fun _ _ _ h => h) (Or.inl ⟨by rfl, ?_⟩) hHeld ?_
      rotate_left
      · (intro wX hSw; have q0 := (hSw.cell (p := ⟨f, 1, none⟩) hlf.1 hlf.2).trans d1; have q1 := (hSw.cell (p := ⟨w.heap.size, 0, none⟩) hl0.1 hl0.2).trans a0; have q2 := (hSw.cell (p := ⟨w.heap.size, 1, none⟩) hl0.1 hl0.2).trans a1; have q3 := (hSw.cell (p := ⟨w.heap.size, 2, none⟩) hl0.1 hl0.2).trans a2; have q4 := (hSw.cell (p := ⟨w.heap.size, 3, none⟩) hl0.1 hl0.2).trans a3; have q5 := (hSw.cell (p := ⟨w.heap.size + 1, 0, none⟩) hl1.1 hl1.2).trans b0; have q6 := (hSw.cell (p := ⟨w.heap.size + 1, 1, none⟩) hl1.1 hl1.2).trans b1; clear hSw; go_simp; try with_reducible rfl)
      try simp only [Act.put, List.setIfInBounds_toArray, List.set_cons_zero, List.set_cons_succ]
      refine wpAnyH_ready (rs := [7]) (by kernel_rfl) (by simp) ?_
      refine AllReadyH.cons (o := _) (by rw [List.getElem?_toArray]; exact rfl) (fun K hK => ?_) ?_
      · go_simp
        refine (own_any p fn fuel _ l _ (HV3.out.below ((Below.refl _ _).drew)) hl).mono ?_; rintro e wc ⟨aa, ac, rfl, ho, hB⟩; have HO := Lib.hid (owns_base ho (Nat.zero_le _)); have HHC := Lib.hid (HH3.out.below (gdrew hB)); clear ho
        go_wp2_with fail
        refine hK.out _ _ (hHeld.then hB) (fun hHeld => ?_)
        clear hK K
        try simp only [Act.put, List.setIfInBounds_toArray, List.set_cons_zero, List.set_cons_succ]
        refine wpAnyH_take (i := 8) (oi := _) (v := ?_) (by rw [List.getElem?_toArray]; exact rfl) (by kernel_rfl) (by kernel_rfl) (by kernel_rfl) (by exact fun _ _ _ h => h) (Or.inl ⟨by rfl, ?_⟩) hHeld ?_
        rotate_left
        · (intro wX hSw; have q0 := (hSw.cell (p := ⟨f, 1, none⟩) hlf.1 hlf.2).trans d1; have q1 := (hSw.cell (p := ⟨w.heap.size, 0, none⟩) hl0.1 hl0.2).trans a0; have q2 := (hSw.cell (p := ⟨w.heap.size, 1, none⟩) hl0.1 hl0.2).trans a1; have q3 := (hSw.cell (p := ⟨w.heap.size, 2, none⟩) hl0.1 hl0.2).trans a2; have q4 := (hSw.cell (p := ⟨w.heap.size, 3, none⟩) hl0.1 hl0.2).trans a3; have q5 := (hSw.cell (p := ⟨w.heap.size + 1, 0, none⟩) hl1.1 hl1.2).trans b0; have q6 := (hSw.cell (p := ⟨w.heap.size + 1, 1, none⟩) hl1.1 hl1.2).trans b1; clear hSw; go_simp; try with_reducible rfl)
        try simp only [Act.put, List.setIfInBounds_toArray, List.set_cons_zero, List.set_cons_succ]
        refine wpAnyH_take (i := 10) (oi := _) (v := ?_) (by rw [List.getElem?_toArray]; exact rfl) (by kernel_rfl) (by kernel_rfl) (by kernel_rfl) (by exact fun _ _ _ h => h) (Or.inl ⟨by rfl, ?_⟩) hHeld ?_
        rotate_left
        · (intro wX hSw; have q0 := (hSw.cell (p := ⟨f, 1, none⟩) hlf.1 hlf.2).trans d1; have q1 := (hSw.cell (p := ⟨w.heap.size, 0, none⟩) hl0.1 hl0.2).trans a0; have q2 := (hSw.cell (p := ⟨w.heap.size, 1, none⟩) hl0.1 hl0.2).trans a1; have q3 := (hSw.cell (p := ⟨w.heap.size, 2, none⟩) hl0.1 hl0.2).trans a2; have q4 := (hSw.cell (p := ⟨w.heap.size, 3, none⟩) hl0.1 hl0.2).trans a3; have q5 := (hSw.cell (p := ⟨w.heap.size + 1, 0, none⟩) hl1.1 hl1.2).trans b0; have q6 := (hSw.cell (p := ⟨w.heap.size + 1, 1, none⟩) hl1.1 hl1.2).trans b1; clear hSw; go_simp; try with_reducible rfl)
        try simp only [Act.put, List.setIfInBounds_toArray, List.set_cons_zero, List.set_cons_succ]
        refine wpAnyH_ready (rs := [11]) (by kernel_rfl) (by simp) ?_
        refine AllReadyH.cons (o := _) (by rw [List.getElem?_toArray]; exact rfl) (fun K hK => ?_) ?_
        · go_simp
          refine hK.out _ _ (hHeld.alloc _) (fun hHeld => ?_)
          clear hK K
          try simp only [Act.put, List.setIfInBounds_toArray, List.set_cons_zero, List.set_cons_succ]
          refine wpAnyH_ready (rs := [12]) (by kernel_rfl) (by simp) ?_
          refine AllReadyH.cons (o := _) (by rw [List.getElem?_toArray]; exact rfl) (fun K hK => ?_) ?_
          · obtain ⟨w9, hrun, hM, hO⟩ := (HHC.out.map.block (Below.heap_alloc wc (rowO (job, p) ⟨fn, aa, ac, l, fuel, 1, 0, 0, 0, fk⟩) _ HHC.out.lt.2.1)).update (P := Try.prog) nameTy Try.underlying74 (job, p) wc.heap.size
            unfold rowO encN evP at hrun
            go_simp
            refine hK.out _ _ (hHeld.only hO rfl) (fun hHeld => ?_)
            clear hK K
            try simp only [Act.put, List.setIfInBounds_toArray, List.set_cons_zero, List.set_cons_succ]
            refine wpAnyH_done (by kernel_rfl) ?_ _
            have HT := Lib.hid (HHC.out.more (r := ⟨fn, aa, ac, l, fuel, 1, 0, 0, 0, fk⟩) HG.out HO.out hM hO)
            have HF := Lib.hid ((Fr.of_below HA3.out).trans hHeld)
            have hbs : w.heap.size ≤ wc.heap.size := Nat.le_trans HA3.out.size (by have := hB.size; simpa using this)
            clear hHeld hM hO hrun HHC HO HH3 HV3 HA3 HG
            go_wp2_with fail
            go_ret
            exact ⟨ret_intE he.out.symm, .inr ⟨he.out, wc.heap.size, aa, ac, hbs, HT.out, HF.out⟩⟩
          exact AllReadyH.nil
        exact AllReadyH.nil
      exact AllReadyH.nil
end Go.Proofs.Ythbkbmkcgpdedaa
namespace Go.Proofs.Ythbkbmkcgpdedaa
open Go.RowKit Go.Sort Go.Lib

def updT (T : Tb) (n : Nm) (r' : Rw) : Tb := T.map fun p => if p.1 = n then (p.1, p.2.1, r') else p
theorem updT_len (T : Tb) (n : Nm) (r : Rw) : (updT T n r).length = T.length := by unfold updT; simp
theorem mapT_upd (T : Tb) (n : Nm) (r : Rw) : mapT (updT T n r) = mapT T := by
  unfold mapT updT
  rw [List.map_map]
  apply List.map_congr_left
  intro p _
  simp only [Function.comp]
  split <;> rfl
theorem Tab.keys {w : World} {f m : Nat} {most : Int} {T : Tb} (h : Tab w f m most T) : (T.map (·.1)).Nodup := by
  obtain ⟨_, _, _, _, hn, _⟩ := h.map
  rwa [mapT_keys] at hn
theorem Tab.set {w w' : World} {f m : Nat} {most : Int} {T : Tb} {n : Nm} {b : Nat} {r r' : Rw} (h : Tab w f m most T) (hg : getL T n = some (b, r)) (hF : Fr (fun i => i = b) w w') (hb : w'.heap[b]? = some (rowO n r'))
    (ha : r'.aa = r.aa ∧ r'.ac = r.ac ∧ r'.args = r.args) : Tab w' f m most (updT T n r') := by
  have hmem := getL_mem' hg
  have hrow := h.row _ hmem
  have hbm : b ≠ m := h.notMap hrow.1
  have hbf : b ≠ f := by
    rintro rfl
    have h1 := hrow.1
    rw [h.box] at h1
    unfold rowO at h1
    injection h1 with h1; injection h1 with h1 _ _
    injection h1 with h1; injection h1 with h1 h2; injection h2 with h2 h3; injection h3
  have hk : ∀ i, i < w.heap.size → i ≠ b → w'.heap[i]? = w.heap[i]? := fun i hi hn => hF.block i hi hn
  have hargs : ∀ q : Rw, Args w q → Args w' q := fun q hq => Args.far hq (fun i cur hi => hk i (Array.getElem?_eq_some_iff.1 hi).1 (by
    rintro rfl
    have h1 := hrow.1
    rw [hi] at h1
    unfold rowO at h1
    injection h1 with h1; injection h1 with _ h1 _; cases h1))
  refine ⟨(hk f h.lt.1 (fun e => hbf e.symm)).trans h.box, by rw [mapT_upd]; exact h.map.block (hk m h.lt.2.1 (fun e => hbm e.symm)), ?_, ?_⟩
  · intro p hp
    unfold updT at hp
    obtain ⟨q, hq, rfl⟩ := List.mem_map.1 hp
    by_cases hqn : q.1 = n
    · rw [if_pos hqn]
      have hqe : q = (n, b, r) := eq_of_keyV h.keys hq hmem hqn
      subst hqe
      refine ⟨hb, ?_⟩
      have := hargs _ hrow.2
      unfold Args at this ⊢
      rw [ha.1, ha.2.1, ha.2.2]
      exact this
    · rw [if_neg hqn]
      have hqb : q.2.1 ≠ b := by
        intro e
        have hnd := h.nd
        obtain ⟨i, hi, hqi⟩ := List.getElem_of_mem hq
        obtain ⟨j, hj, hmj⟩ := List.getElem_of_mem hmem
        have : i = j := by
          by_cases hij : i = j
          · exact hij
          · have hpw := List.pairwise_iff_getElem.1 hnd
            rcases Nat.lt_or_gt_of_ne hij with hl | hl
            · exact absurd (by rw [List.getElem_map, List.getElem_map, hqi, hmj]; exact e) (hpw i j (by simpa using hi) (by simpa using hj) hl)
            · exact absurd (by rw [List.getElem_map, List.getElem_map, hqi, hmj]; exact e.symm) (hpw j i (by simpa using hj) (by simpa using hi) hl)
        subst this
        rw [hqi] at hmj
        rw [hmj] at hqn
        exact hqn rfl
      have hr := h.row q hq
      exact ⟨(hk _ (Array.getElem?_eq_some_iff.1 hr.1).1 hqb).trans hr.1, hargs _ hr.2⟩
  · have : (updT T n r').map (·.2.1) = T.map (·.2.1) := by
      unfold updT
      rw [List.map_map]
      apply List.map_congr_left
      intro p _
      simp only [Function.comp]
      split <;> rfl
    rw [this]; exact h.nd
theorem reads_one (w : World) (a : Int) (T : TypeId) : ReadsK (fun x => [Value.int .u8 x]) 1 (w.alloc (.cells #[.int .u8 a] T)) (.slice (some ⟨w.heap.size, 0, none⟩) 1 1) [a] := by
  refine .inr ⟨w.heap.size, 0, 1, rfl, by simp, fun i hi t u hu => ?_⟩
  have : i = 0 := by simpa using hi
  subst this
  match t with
  | 0 => simp at hu; subst hu; simp
  | t + 1 => simp at hu
theorem reads_two (w : World) (a b : Int) (T : TypeId) : ReadsK (fun x => [Value.int .u8 x]) 1 (w.alloc (.cells #[.int .u8 a, .int .u8 b] T)) (.slice (some ⟨w.heap.size, 0, none⟩) 2 2) [a, b] := by
  refine .inr ⟨w.heap.size, 0, 2, rfl, by simp, fun i hi t u hu => ?_⟩
  have hi2 : i < 2 := by simpa using hi
  match t with
  | 0 =>
    match i, hi2 with
    | 0, _ => simp at hu; subst hu; simp
    | 1, _ => simp at hu; subst hu; simp
  | t + 1 => simp at hu
theorem args_reads {w : World} {r : Rw} (h : Args w r) : ReadsK encI 1 w (.slice r.aa r.args.length r.ac) r.args := own_readsK (enc := encI) (k := 1) (fun _ => rfl) (by decide) h
theorem ofV_cases (T : Tb) (n : Nm) (L : List Int) : ((ofV T n L).2 ≠ 0 ∧ (ofV T n L).1 = .pointer none) ∨ ∃ b r, getL T n = some (b, r) ∧ r.st ∈ L ∧ ofV T n L = (.pointer (some ⟨b, 0, none⟩), 0) := by
  unfold ofV
  cases hg : getL T n with
  | none => exact .inl ⟨by simp, rfl⟩
  | some br =>
    obtain ⟨b, r⟩ := br
    by_cases hs : r.st ∈ L
    · exact .inr ⟨b, r, rfl, hs, by simp [hs]⟩
    · exact .inl ⟨by simp [hs], by simp [hs]⟩
theorem row_set {w : World} {b : Nat} {n : Nm} {r : Rw} (h : w.heap[b]? = some (rowO n r)) (s : Int) : (w.setCell ⟨b, 6, none⟩ (.int .u8 s)).heap[b]? = some (rowO n { r with st := s }) := by
  unfold rowO at h ⊢; exact Go.heap_setCell_same w b 6 _ _ _ h
theorem fr_set (w : World) (b o : Nat) (v : Value) : Fr (fun i => i = b) w (w.setCell ⟨b, o, none⟩ v) := (Fr.refl (fun i => i = b) w).setCell (S := fun i => i = b) (p := ⟨b, o, none⟩) rfl v

def waitV (T : Tb) (n : Nm) : Bool × Int := match getL T n with
  | none => (false, 5)
  | some (_, r) => if r.st ∈ [(2 : Int)] then (if r.op = 0 then (false, 0) else (true, 0)) else (false, 3)
def waitT (T : Tb) (n : Nm) : Tb := match getL T n with
  | none => T
  | some (_, r) => if (waitV T n).1 then updT T n { r with st := 3 } else T
set_option maxHeartbeats 1600000 in
set_option maxRecDepth 100000 in
theorem wait_tab (f m : Nat) (most : Int) (T : Tb) (n : Nm) (w : World) (h : Tab w f m most T) :
    Calls Try.prog 17 #[.pointer (some ⟨f, 0, none⟩), .agg #[.int .u64 n.1, .string n.2]] w fun e w' => e = .returned (.tuple #[.bool (waitV T n).1, .int .i64 (waitV T n).2]) ∧ Tab w' f m most (waitT T n) ∧ Fr (fun i => ∃ p ∈ T, p.2.1 = i) w w' := by
  have hA : Below w.heap.size w ((w.alloc (.cells #[.int .u64 n.1, .string n.2] 35)).alloc (.cells #[.int .u8 2] 5)) := ((Below.refl _ _).alloc (Nat.le_refl _) _).alloc (by simp) _
  have h1 := h.below hA
  have HR := Lib.hid (reads_one (w.alloc (.cells #[.int .u64 n.1, .string n.2] 35)) 2 5)
  have HH := Lib.hid h1
  have HA := Lib.hid hA
  clear h h1 hA
  go_enter Try.func17, Try.ntmps17
  go_wp2_with fail
  refine (of_tab f m most T n [2] _ _ HH.out (by have := HR.out; simpa using this) (by decide)).mono ?_
  rintro e w2 ⟨rfl, hB⟩
  have HH2 := Lib.hid (HH.out.below hB)
  have HA2 := Lib.hid (gthen HA.out hB)
  clear HH HA HR hB
  rcases ofV_cases T n [2] with ⟨h1, h2⟩ | ⟨b, r, hg, hs, ho⟩
  · have hv : Hid (waitV T n = (false, (ofV T n [2]).2) ∧ waitT T n = T) := by
      have key : waitV T n = (false, (ofV T n [2]).2) := by
        unfold waitV ofV at *
        cases hg : getL T n with
        | none => rfl
        | some br =>
          obtain ⟨b, r⟩ := br
          rw [hg] at h1
          by_cases hs : r.st ∈ [(2 : Int)]
          · simp [hs] at h1
          · simp [hs]
      refine ⟨key, ?_⟩
      unfold waitT; rw [key]; cases getL T n <;> rfl
    generalize (ofV T n [2]).2 = c at *
    rw [h2]
    clear h2
    go_wp2_with fail
    go_ret2
    exact ⟨by rw [hv.out.1]; rfl, by rw [hv.out.2]; exact HH2.out, .of_below HA2.out⟩
  · rw [ho]
    have hrow := HH2.out.at hg
    have k7 : w2.cell? ⟨b, 7, none⟩ = some (.int .i64 r.op) := row_cells hrow.1 7
    have k6 : w2.cell? ⟨b, 6, none⟩ = some (.int .u8 r.st) := row_cells hrow.1 6
    have z6 : w2.frozen? ⟨b, 6, none⟩ = false := row_open hrow.1 6
    have HROW := Lib.hid hrow.1
    have HG := Lib.hid hg
    have HS := Lib.hid hs
    clear hrow hg hs ho
    by_cases h0 : r.op = 0
    · have hv : Hid (waitV T n = (false, 0) ∧ waitT T n = T) := by
        have key : waitV T n = (false, 0) := by unfold waitV; rw [HG.out]; simp only []; rw [if_pos HS.out, if_pos h0]
        refine ⟨key, ?_⟩
        unfold waitT; rw [key, HG.out]; rfl
      have hb0 : (r.op == 0) = true := by simp [h0]
      clear h0
      go_wp2_with fail
      go_ret2
      exact ⟨by rw [hv.out.1]; rfl, by rw [hv.out.2]; exact HH2.out, .of_below HA2.out⟩
    · have hv : Hid (waitV T n = (true, 0) ∧ waitT T n = updT T n { r with st := 3 }) := by
        have key : waitV T n = (true, 0) := by unfold waitV; rw [HG.out]; simp only []; rw [if_pos HS.out, if_neg h0]
        refine ⟨key, ?_⟩
        unfold waitT; rw [key, HG.out]; rfl
      have hb0 : (r.op == 0) = false := by simpa using h0
      clear h0
      have HT := Lib.hid (HH2.out.set (r' := { r with st := 3 }) HG.out (fr_set w2 b 6 (.int .u8 3)) (row_set HROW.out 3) ⟨rfl, rfl, rfl⟩)
      have HF : Hid (Fr (fun i => ∃ p ∈ T, p.2.1 = i) w (w2.setCell ⟨b, 6, none⟩ (.int .u8 3))) := (Fr.of_below HA2.out).trans ((fr_set w2 b 6 _).mono (fun i hi => ⟨_, getL_mem' HG.out, hi.symm⟩))
      go_wp2_with fail
      go_ret2
      exact ⟨by rw [hv.out.1]; rfl, by rw [hv.out.2]; exact HT.out, HF.out⟩
end Go.Proofs.Ythbkbmkcgpdedaa
namespace Go.Proofs.Ythbkbmkcgpdedaa
open Go.RowKit Go.Sort Go.Lib

theorem begin_end {wz : World} {tmps : Array Value} {p : ByteArray} {fn fuel c : Int} {v : Value} {r : Nat} {T : TypeId} {R : Ending → World → Prop}
    (hr : wz.heap[r]? = some (.cells #[.string p, .int .i64 fn, v, .int .i64 fuel] T (0, 0))) (h4 : tmps.getD 4 undef = .pointer (some ⟨r, 0, none⟩)) (h5 : tmps.getD 5 undef = .int .i64 c) (hR : R (.returned (.tuple #[.agg #[.string p, .int .i64 fn, v, .int .i64 fuel], .int .i64 c])) wz) :
    bodyPost Try.prog Try.f14 R Exit.ret { tmps := tmps, defers := [] } wz := by
  have c0 : wz.cell? ⟨r, 0, none⟩ = some (.string p) := by simp [World.cell?, hr]
  have c1 : wz.cell? ⟨r, 1, none⟩ = some (.int .i64 fn) := by simp [World.cell?, hr]
  have c2 : wz.cell? ⟨r, 2, none⟩ = some v := by simp [World.cell?, hr]
  have c3 : wz.cell? ⟨r, 3, none⟩ = some (.int .i64 fuel) := by simp [World.cell?, hr]
  refine bodyPost_ret (v := .tuple #[.agg #[.string p, .int .i64 fn, v, .int .i64 fuel], .int .i64 c]) ?_ rfl hR
  have h4' : tmps[4]?.getD undef = .pointer (some ⟨r, 0, none⟩) := by simpa using h4
  have h5' : tmps[5]?.getD undef = .int .i64 c := by simpa using h5
  simp [results, Try.results14, go_sem, h4', h5', c0, c1, c2, c3]
theorem Tab.other4 {w : World} {f m : Nat} {most : Int} {T : Tb} {r : Nat} {x y z u : Value} {E : TypeId} (h : Tab w f m most T) (hr : w.heap[r]? = some (.cells #[x, y, z, u] E (0, 0))) (a b c d : Value) (h1 : E ≠ 76) (h2 : E ≠ 85) (h3 : E ≠ 2) :
    Tab ((((w.setCell ⟨r, 0, none⟩ a).setCell ⟨r, 1, none⟩ b).setCell ⟨r, 2, none⟩ c).setCell ⟨r, 3, none⟩ d) f m most T := by
  have hk : ∀ i, i ≠ r → ((((w.setCell ⟨r, 0, none⟩ a).setCell ⟨r, 1, none⟩ b).setCell ⟨r, 2, none⟩ c).setCell ⟨r, 3, none⟩ d).heap[i]? = w.heap[i]? := fun i hi => by
    rw [Go.heap_setCell_other _ ⟨r, 3, none⟩ i _ hi, Go.heap_setCell_other _ ⟨r, 2, none⟩ i _ hi, Go.heap_setCell_other _ ⟨r, 1, none⟩ i _ hi, Go.heap_setCell_other _ ⟨r, 0, none⟩ i _ hi]
  have hne : ∀ (i : Nat) (cs : Array Value) (t : TypeId) (fr : Nat × Nat), w.heap[i]? = some (Obj.cells cs t fr) → t ≠ E → i ≠ r := by
    rintro i cs t fr hi ht rfl
    rw [hr] at hi
    injection hi with hi; injection hi with _ hi _
    exact ht hi.symm
  refine ⟨(hk f (hne _ _ _ _ h.box (fun e => h1 e.symm))).trans h.box, h.map.block (hk m (fun e => h.notMap (i := r) hr e.symm)), fun p hp => ?_, h.nd⟩
  have hrow := h.row p hp
  exact ⟨(hk _ (hne _ _ _ _ hrow.1 (fun e => h2 e.symm))).trans hrow.1, Args.far hrow.2 (fun i cur hi => hk i (hne _ _ _ _ hi (fun e => h3 e.symm)))⟩
theorem upd_mem {T : Tb} (_hk : (T.map (·.1)).Nodup) {n : Nm} {b : Nat} {r r' : Rw} (hg : getL T n = some (b, r)) : (n, b, r') ∈ updT T n r' := by
  unfold updT
  exact List.mem_map.2 ⟨_, getL_mem' hg, by simp⟩
/-- How Begin ends. -/
def BeginR (f m : Nat) (most : Int) (T : Tb) (n : Nm) (w : World) (e : Ending) (w' : World) : Prop :=
  ((ofV T n [1, 4]).2 ≠ 0 ∧ e = .returned (.tuple #[.agg #[.string ⟨#[]⟩, .int .i64 0, .slice none 0 0, .int .i64 0], .int .i64 (ofV T n [1, 4]).2]) ∧ Tab w' f m most T ∧ Below w.heap.size w w') ∨
  ∃ b r aa ac, getL T n = some (b, r) ∧ r.st ∈ [(1 : Int), 4] ∧ e = .returned (.tuple #[.agg #[.string n.2, .int .i64 r.fn, .slice aa r.args.length ac, .int .i64 r.fuel], .int .i64 0]) ∧
    w'.ownsRow w.heap.size 2 1 (.slice aa r.args.length ac) r.args.length (r.args.flatMap encI) ∧ Tab w' f m most (updT T n { r with st := 2 }) ∧ Fr (fun i => i = b) w w'
set_option maxHeartbeats 1600000 in
set_option maxRecDepth 100000 in
theorem begin_tab (f m : Nat) (most : Int) (T : Tb) (n : Nm) (w : World) (h : Tab w f m most T) (hargs : ∀ p ∈ T, p.2.2.args.length ≤ 1000000) :
    Calls Try.prog 14 #[.pointer (some ⟨f, 0, none⟩), .agg #[.int .u64 n.1, .string n.2]] w (BeginR f m most T n w) := by
  have hA1 : Below w.heap.size w ((w.alloc (.cells #[.int .u64 n.1, .string n.2] 35)).alloc (.cells #[.string ⟨#[]⟩, .int .i64 0, .slice none 0 0, .int .i64 0] 38)) := ((Below.refl _ _).alloc (Nat.le_refl _) _).alloc (by simp) _
  have hres := heap_alloc_new (w.alloc (.cells #[.int .u64 n.1, .string n.2] 35)) (.cells #[.string ⟨#[]⟩, .int .i64 0, .slice none 0 0, .int .i64 0] 38)
  rw [show (w.alloc (.cells #[.int .u64 n.1, .string n.2] 35)).heap.size = w.heap.size + 1 by simp] at hres
  have n1 : ((w.alloc (.cells #[.int .u64 n.1, .string n.2] 35)).alloc (.cells #[.string ⟨#[]⟩, .int .i64 0, .slice none 0 0, .int .i64 0] 38)).cell? ⟨w.heap.size, 0, none⟩ = some (.int .u64 n.1) := by simp
  have n2 : ((w.alloc (.cells #[.int .u64 n.1, .string n.2] 35)).alloc (.cells #[.string ⟨#[]⟩, .int .i64 0, .slice none 0 0, .int .i64 0] 38)).cell? ⟨w.heap.size, 1, none⟩ = some (.string n.2) := by simp
  have HH := Lib.hid (h.below hA1)
  have HA := Lib.hid hA1
  have HRES := Lib.hid hres
  have HAR := Lib.hid hargs
  clear h hA1 hres hargs
  go_enter Try.func14, Try.ntmps14
  generalize hwa : (w.alloc (.cells #[.int .u64 n.1, .string n.2] 35)).alloc (.cells #[.string ⟨#[]⟩, .int .i64 0, .slice none 0 0, .int .i64 0] 38) = wa at *
  go_upto_region 1 with fail
  have HSZ : Hid (wa.heap.size = w.heap.size + 2) := by show _ = _; rw [← hwa]; simp
  clear hwa
  have hB1 : Below wa.heap.size wa (wa.alloc (.cells #[.int .u8 1, .int .u8 4] 5)) := (Below.refl _ _).alloc (Nat.le_refl _) _
  go_wp2_with fail
  refine (of_tab f m most T n [1, 4] _ _ (HH.out.below hB1) (reads_two wa 1 4 5) (by decide)).mono ?_
  rintro e w2 ⟨rfl, hB⟩
  have hBB := gthen hB1 hB
  have HH2 := Lib.hid (HH.out.below hBB)
  have HA2 := Lib.hid (gthen HA.out hBB)
  have hr2 := (hBB.block (w.heap.size + 1) (by have := HSZ.out; omega)).trans HRES.out
  have hc2 : ∀ o, w2.cell? ⟨w.heap.size + 1, o, none⟩ = #[Value.string ⟨#[]⟩, .int .i64 0, .slice none 0 0, .int .i64 0][o]? := fun o => by simp [World.cell?, hr2]
  have hz2 : ∀ o, w2.frozen? ⟨w.heap.size + 1, o, none⟩ = false := fun o => by simp [World.frozen?, hr2]
  have HR2 := Lib.hid hr2
  have hs2 := hBB.size
  clear HH HA HRES hB hB1 hBB hr2 n1 n2
  rcases ofV_cases T n [1, 4] with ⟨h1, h2⟩ | ⟨b, r, hg, hs, ho⟩
  · have H1 := Lib.hid h1
    have y0 := hc2 0; have y1 := hc2 1; have y2 := hc2 2; have y3 := hc2 3
    have q0 := hz2 0; have q1 := hz2 1; have q2 := hz2 2; have q3 := hz2 3
    simp only [List.getElem?_toArray, List.getElem?_cons_zero, List.getElem?_cons_succ] at y0 y1 y2 y3
    rw [h2]
    clear h2 hc2 hz2
    generalize hcc : (ofV T n [1, 4]).2 = c at *
    have HCC := Lib.hid hcc
    clear hcc
    go_wp2_with fail
    have hx := set4 HR2.out (.string ⟨#[]⟩) (.int .i64 0) (.slice none 0 0) (.int .i64 0)
    have hB9 := set4_below HA2.out (r := w.heap.size + 1) (Nat.le_succ _) (.string ⟨#[]⟩) (.int .i64 0) (.slice none 0 0) (.int .i64 0)
    have hnr : ∀ p ∈ T, p.2.1 ≠ w.heap.size + 1 := fun p hp e => by
      have h1 := (HH2.out.row p hp).1
      rw [e, HR2.out] at h1
      unfold rowO at h1
      injection h1 with h1; injection h1 with _ h1 _; cases h1
    have hT9 := HH2.out.other4 (r := w.heap.size + 1) HR2.out (.string ⟨#[]⟩) (.int .i64 0) (.slice none 0 0) (.int .i64 0) (by decide) (by decide) (by decide)
    refine begin_end hx rfl rfl (.inl ⟨by rw [HCC.out]; exact H1.out, by rw [HCC.out], hT9, hB9⟩)
  · have hrow := HH2.out.at hg
    have hbl := (Array.getElem?_eq_some_iff.1 hrow.1).1
    have hbr : b ≠ w.heap.size + 1 := fun e => by
      have h1 := hrow.1
      rw [e, HR2.out] at h1
      unfold rowO at h1
      injection h1 with h1; injection h1 with _ h1 _; cases h1
    have z6 : w2.frozen? ⟨b, 6, none⟩ = false := row_open hrow.1 6
    have k6 : w2.cell? ⟨b, 6, none⟩ = some (.int .u8 r.st) := row_cells hrow.1 6
    have HT3 := Lib.hid (HH2.out.set (r' := { r with st := 2 }) hg (fr_set w2 b 6 (.int .u8 2)) (row_set hrow.1 2) ⟨rfl, rfl, rfl⟩)
    have hr3 := (Go.heap_setCell_other w2 ⟨b, 6, none⟩ (w.heap.size + 1) (.int .u8 2) (fun e => hbr e.symm)).trans HR2.out
    have hrow3 := row_set hrow.1 2
    have k2 : (w2.setCell ⟨b, 6, none⟩ (.int .u8 2)).cell? ⟨b, 2, none⟩ = some (.string n.2) := row_cells hrow3 2
    have k3 : (w2.setCell ⟨b, 6, none⟩ (.int .u8 2)).cell? ⟨b, 3, none⟩ = some (.int .i64 r.fn) := row_cells hrow3 3
    have k4 : (w2.setCell ⟨b, 6, none⟩ (.int .u8 2)).cell? ⟨b, 4, none⟩ = some (.slice r.aa r.args.length r.ac) := row_cells hrow3 4
    have k5 : (w2.setCell ⟨b, 6, none⟩ (.int .u8 2)).cell? ⟨b, 5, none⟩ = some (.int .i64 r.fuel) := row_cells hrow3 5
    have HRD := Lib.hid (args_reads ((HT3.out.row (n, b, { r with st := 2 }) (upd_mem HH2.out.keys hg)).2))
    have HF3 := Lib.hid ((Fr.of_below (S := fun i => i = b) HA2.out).trans (fr_set w2 b 6 (.int .u8 2)))
    have HR3 := Lib.hid hr3
    have HG := Lib.hid hg
    have HS := Lib.hid hs
    have hal := HAR.out _ (getL_mem' hg)
    rw [ho]
    clear hc2 hz2 hg hs ho hrow hr3 hrow3
    generalize hw3 : w2.setCell ⟨b, 6, none⟩ (.int .u8 2) = w3 at *
    have hlt3 := (Array.getElem?_eq_some_iff.1 HR3.out).1
    go_wp2_with fail
    clear hw3
    refine (own_any n.2 r.fn r.fuel _ r.args w3 HRD.out hal).mono ?_
    rintro e w4 ⟨aa, ac, rfl, ho, hB⟩
    have HT4 := Lib.hid (HT3.out.below hB)
    have hr4 := (hB.block _ hlt3).trans HR3.out
    have HF4 := Lib.hid (HF3.out.then hB)
    have HO4 := Lib.hid ho
    have HR4 := Lib.hid hr4
    have hs4 := HF4.out.size
    have hs34 : w.heap.size ≤ w3.heap.size := HF3.out.size
    have hc2 : ∀ o, w4.cell? ⟨w.heap.size + 1, o, none⟩ = #[Value.string ⟨#[]⟩, .int .i64 0, .slice none 0 0, .int .i64 0][o]? := fun o => by simp [World.cell?, hr4]
    have hz2 : ∀ o, w4.frozen? ⟨w.heap.size + 1, o, none⟩ = false := fun o => by simp [World.frozen?, hr4]
    have y0 := hc2 0; have y1 := hc2 1; have y2 := hc2 2; have y3 := hc2 3
    have q0 := hz2 0; have q1 := hz2 1; have q2 := hz2 2; have q3 := hz2 3
    simp only [List.getElem?_toArray, List.getElem?_cons_zero, List.getElem?_cons_succ] at y0 y1 y2 y3
    clear hc2 hz2 hr4 ho hB HT3 HF3 HR3 k2 k3 k4 k5 HRD k6 z6
    go_wp2_with fail
    have hx := set4 HR4.out (.string n.2) (.int .i64 r.fn) (.slice aa r.args.length ac) (.int .i64 r.fuel)
    have hT9 := HT4.out.other4 (r := w.heap.size + 1) HR4.out (.string n.2) (.int .i64 r.fn) (.slice aa r.args.length ac) (.int .i64 r.fuel) (by decide) (by decide) (by decide)
    have hF9 := (((HF4.out.setNew (p := ⟨w.heap.size + 1, 0, none⟩) (Nat.le_succ _) (.string n.2)).setNew (p := ⟨w.heap.size + 1, 1, none⟩) (Nat.le_succ _) (.int .i64 r.fn)).setNew (p := ⟨w.heap.size + 1, 2, none⟩) (Nat.le_succ _) (.slice aa r.args.length ac)).setNew (p := ⟨w.heap.size + 1, 3, none⟩) (Nat.le_succ _) (.int .i64 r.fuel)
    have hO9 := own_sets (own_sets (own_sets (own_sets HO4.out (r := w.heap.size + 1) (a := ⟨w.heap.size + 1, 0, none⟩) hlt3 rfl (.string n.2)) (r := w.heap.size + 1) (a := ⟨w.heap.size + 1, 1, none⟩) hlt3 rfl (.int .i64 r.fn)) (r := w.heap.size + 1) (a := ⟨w.heap.size + 1, 2, none⟩) hlt3 rfl (.slice aa r.args.length ac)) (r := w.heap.size + 1) (a := ⟨w.heap.size + 1, 3, none⟩) hlt3 rfl (.int .i64 r.fuel)
    exact begin_end hx rfl rfl (.inr ⟨b, r, aa, ac, HG.out, HS.out, rfl, owns_base hO9 hs34, hT9, hF9⟩)
end Go.Proofs.Ythbkbmkcgpdedaa
namespace Go.Proofs.Ythbkbmkcgpdedaa
open Go.RowKit Go.Sort Go.Lib

def putE (T : Tb) (most : Int) (n : Nm) : Int := if mayS n.2 then addE T most n else 2
set_option maxHeartbeats 1600000 in
set_option maxRecDepth 100000 in
theorem put_tab (f m : Nat) (most : Int) (T : Tb) (job : Int) (p : ByteArray) (fn fuel : Int) (v : Value) (l : List Int) (w : World) (h : Tab w f m most T) (hv : ReadsK encI 1 w v l) (hl : l.length ≤ 1000000) (hT : T.length ≤ 1000000) (hp : p.size ≤ 9223372036854775807) :
    Calls Try.prog 9 #[.pointer (some ⟨f, 0, none⟩), .int .u64 job, .agg #[.string p, .int .i64 fn, v, .int .i64 fuel]] w fun e w' => e = .returned (.int .i64 (putE T most (job, p))) ∧
      ((putE T most (job, p) ≠ 0 ∧ Tab w' f m most T ∧ Below w.heap.size w w') ∨ (putE T most (job, p) = 0 ∧ ∃ b aa ac, w.heap.size ≤ b ∧ Tab w' f m most (T ++ [((job, p), b, ⟨fn, aa, ac, l, fuel, 1, 0, 0, 0, false⟩)]) ∧ Fr (fun i => i = m) w w')) := by
  obtain ⟨va, vc, rfl⟩ := hv.slice
  have hA : Below w.heap.size w (w.alloc (.cells #[.string p, .int .i64 fn, .slice va l.length vc, .int .i64 fuel] 38)) := (Below.refl _ _).alloc (Nat.le_refl _) _
  have j0 := heap_alloc_new w (.cells #[.string p, .int .i64 fn, .slice va l.length vc, .int .i64 fuel] 38)
  have HH := Lib.hid (h.below hA)
  have HV := Lib.hid (hv.below hA)
  have HA := Lib.hid hA
  have J0 := Lib.hid j0
  have c1 := HH.out.c1
  have hmn := mapNilT
  clear h hv hA j0
  go_enter Try.func9, Try.ntmps9
  go_wp2_with fail
  refine (may_any p _ hp).mono ?_
  rintro e wb ⟨rfl, hB⟩
  have HH2 := Lib.hid (HH.out.below hB)
  have HV2 := Lib.hid (HV.out.below hB)
  have HA2 := Lib.hid (gthen HA.out hB)
  have j2 := (hB.block _ (Array.getElem?_eq_some_iff.1 J0.out).1).trans J0.out
  clear hB HH HV HA J0 c1
  cases hm : mayS p
  · have he := Lib.hid (show putE T most (job, p) = 2 by unfold putE; simp [hm])
    clear hm
    go_wp2_with fail
    go_ret
    exact ⟨ret_intE he.out.symm, .inl ⟨by rw [he.out]; decide, HH2.out, HA2.out⟩⟩
  · have he := Lib.hid (show putE T most (job, p) = addE T most (job, p) by unfold putE; simp [hm])
    have a0 : wb.cell? ⟨w.heap.size, 0, none⟩ = some (.string p) := by simp [World.cell?, j2]
    have a1 : wb.cell? ⟨w.heap.size, 1, none⟩ = some (.int .i64 fn) := by simp [World.cell?, j2]
    have a2 : wb.cell? ⟨w.heap.size, 2, none⟩ = some (.slice va l.length vc) := by simp [World.cell?, j2]
    have a3 : wb.cell? ⟨w.heap.size, 3, none⟩ = some (.int .i64 fuel) := by simp [World.cell?, j2]
    clear hm j2
    go_wp2_with fail
    refine (add_tab f m most T job p fn fuel _ l false wb HH2.out HV2.out hl hT).mono ?_
    rintro e w2 ⟨rfl, hR⟩
    have HR := Lib.hid hR
    have HX := Lib.hid HA2.out.size
    clear hR a0 a1 a2 a3
    go_wp2_with fail
    go_ret
    refine ⟨ret_intE he.out.symm, ?_⟩
    rw [he.out]
    rcases HR.out with ⟨h1, h2, h3⟩ | ⟨h1, b, aa, ac, h2, h3, h4⟩
    · exact .inl ⟨h1, h2, gthen HA2.out h3⟩
    · exact .inr ⟨h1, b, aa, ac, Nat.le_trans HX.out h2, h3, (Fr.of_below HA2.out).trans h4⟩

def forkE (T : Tb) (most : Int) (pn : Nm) (p : ByteArray) : Int := if (ofV T pn [2]).2 ≠ 0 then (ofV T pn [2]).2 else if mayS p && parB p && decide (parS p = pn.2) then addE T most (pn.1, p) else 2
theorem getL_app {V : Type} {l : List (Nm × V)} {n : Nm} {v : V} (h : getL l n = some v) (m : List (Nm × V)) : getL (l ++ m) n = some v := by
  unfold getL at h ⊢
  rw [List.find?_append]
  cases hf : l.find? (fun p => decide (p.1 = n)) with
  | none => rw [hf] at h; cases h
  | some p => rw [hf] at h; exact h
theorem row_open7 {w : World} {b : Nat} {n : Nm} {r : Rw} (h : w.heap[b]? = some (rowO n r)) (s : Int) : (w.setCell ⟨b, 7, none⟩ (.int .i64 s)).heap[b]? = some (rowO n { r with op := s }) := by
  unfold rowO at h ⊢; exact Go.heap_setCell_same w b 7 _ _ _ h
set_option maxHeartbeats 3200000 in
set_option maxRecDepth 100000 in
theorem fork_tab (f m : Nat) (most : Int) (T : Tb) (pn : Nm) (p : ByteArray) (fn fuel : Int) (v : Value) (l : List Int) (w : World) (h : Tab w f m most T) (hv : ReadsK encI 1 w v l) (hl : l.length ≤ 1000000) (hT : T.length ≤ 1000000) (hp : p.size ≤ 9223372036854775807)
    (hop : ∀ q ∈ T, 0 ≤ q.2.2.op ∧ q.2.2.op ≤ 1000000) :
    Calls Try.prog 12 #[.pointer (some ⟨f, 0, none⟩), .agg #[.int .u64 pn.1, .string pn.2], .agg #[.string p, .int .i64 fn, v, .int .i64 fuel]] w fun e w' => e = .returned (.int .i64 (forkE T most pn p)) ∧
      ((forkE T most pn p ≠ 0 ∧ Tab w' f m most T ∧ Below w.heap.size w w') ∨ (forkE T most pn p = 0 ∧ ∃ b r b2 aa ac, getL T pn = some (b, r) ∧ r.st ∈ [(2 : Int)] ∧ w.heap.size ≤ b2 ∧
        Tab w' f m most (updT (T ++ [((pn.1, p), b2, ⟨fn, aa, ac, l, fuel, 1, 0, 0, 0, true⟩)]) pn { r with op := r.op + 1 }) ∧ Fr (fun i => i = m ∨ i = b) w w')) := by
  obtain ⟨va, vc, rfl⟩ := hv.slice
  have hA : Below w.heap.size w ((w.alloc (.cells #[.int .u64 pn.1, .string pn.2] 35)).alloc (.cells #[.string p, .int .i64 fn, .slice va l.length vc, .int .i64 fuel] 38)) := ((Below.refl _ _).alloc (Nat.le_refl _) _).alloc (by simp) _
  have j1 := heap_alloc_new (w.alloc (.cells #[.int .u64 pn.1, .string pn.2] 35)) (.cells #[.string p, .int .i64 fn, .slice va l.length vc, .int .i64 fuel] 38)
  rw [show (w.alloc (.cells #[.int .u64 pn.1, .string pn.2] 35)).heap.size = w.heap.size + 1 by simp] at j1
  have n1 : ((w.alloc (.cells #[.int .u64 pn.1, .string pn.2] 35)).alloc (.cells #[.string p, .int .i64 fn, .slice va l.length vc, .int .i64 fuel] 38)).cell? ⟨w.heap.size, 0, none⟩ = some (.int .u64 pn.1) := by simp
  have n2 : ((w.alloc (.cells #[.int .u64 pn.1, .string pn.2] 35)).alloc (.cells #[.string p, .int .i64 fn, .slice va l.length vc, .int .i64 fuel] 38)).cell? ⟨w.heap.size, 1, none⟩ = some (.string pn.2) := by simp
  have HH := Lib.hid (h.below hA)
  have HV := Lib.hid (hv.below hA)
  have HA := Lib.hid hA
  have J1 := Lib.hid j1
  have HOP := Lib.hid hop
  clear h hv hA j1 hop
  go_enter Try.func12, Try.ntmps12
  generalize hwa : (w.alloc (.cells #[.int .u64 pn.1, .string pn.2] 35)).alloc (.cells #[.string p, .int .i64 fn, .slice va l.length vc, .int .i64 fuel] 38) = wa at *
  go_upto_region 1 with fail
  clear hwa
  have hB1 : Below wa.heap.size wa (wa.alloc (.cells #[.int .u8 2] 5)) := (Below.refl _ _).alloc (Nat.le_refl _) _
  go_wp2_with fail
  refine (of_tab f m most T pn [2] _ _ (HH.out.below hB1) (reads_one wa 2 5) (by decide)).mono ?_
  rintro e w2 ⟨rfl, hB⟩
  have hBB := gthen hB1 hB
  replace HH := Lib.hid (HH.out.below hBB)
  replace HV := Lib.hid (HV.out.below hBB)
  replace HA := Lib.hid (gthen HA.out hBB)
  have j2 := (hBB.block _ (Array.getElem?_eq_some_iff.1 J1.out).1).trans J1.out
  replace n1 := cell_keep hBB n1
  replace n2 := cell_keep hBB n2
  clear hB hB1 hBB J1
  rcases ofV_cases T pn [2] with ⟨h1, h2⟩ | ⟨b, r, hg, hs, ho⟩
  · have he := Lib.hid (show forkE T most pn p = (ofV T pn [2]).2 by unfold forkE; rw [if_pos h1])
    have H1 := Lib.hid h1
    rw [h2]
    clear h2 n1 n2 j2
    generalize hcc : (ofV T pn [2]).2 = c at *
    clear hcc
    go_wp2_with fail
    go_ret
    exact ⟨ret_intE he.out.symm, .inl ⟨by rw [he.out]; exact H1.out, HH.out, HA.out⟩⟩
  · have hE0 : Hid (forkE T most pn p = if mayS p && parB p && decide (parS p = pn.2) then addE T most (pn.1, p) else 2) := by show _ = _; unfold forkE; rw [ho]; rfl
    have HG := Lib.hid hg
    have HS := Lib.hid hs
    rw [ho]
    clear ho hg hs
    have a0 : w2.cell? ⟨w.heap.size + 1, 0, none⟩ = some (.string p) := by simp [World.cell?, j2]
    have a1 : w2.cell? ⟨w.heap.size + 1, 1, none⟩ = some (.int .i64 fn) := by simp [World.cell?, j2]
    have a2 : w2.cell? ⟨w.heap.size + 1, 2, none⟩ = some (.slice va l.length vc) := by simp [World.cell?, j2]
    have a3 : w2.cell? ⟨w.heap.size + 1, 3, none⟩ = some (.int .i64 fuel) := by simp [World.cell?, j2]
    clear j2
    go_wp2_with fail
    refine (parent_any p _ hp).mono ?_
    rintro e w3 ⟨rfl, hB⟩
    replace HH := Lib.hid (HH.out.below hB)
    replace HV := Lib.hid (HV.out.below hB)
    replace HA := Lib.hid (gthen HA.out hB)
    replace n1 := cell_keep hB n1; replace n2 := cell_keep hB n2; replace a0 := cell_keep hB a0; replace a1 := cell_keep hB a1; replace a2 := cell_keep hB a2; replace a3 := cell_keep hB a3
    clear hB
    go_wp2_with fail
    refine (may_any p _ hp).mono ?_
    rintro e w4 ⟨rfl, hB⟩
    replace HH := Lib.hid (HH.out.below hB)
    replace HV := Lib.hid (HV.out.below hB)
    replace HA := Lib.hid (gthen HA.out hB)
    replace n1 := cell_keep hB n1; replace n2 := cell_keep hB n2; replace a0 := cell_keep hB a0; replace a1 := cell_keep hB a1; replace a2 := cell_keep hB a2; replace a3 := cell_keep hB a3
    clear hB
    by_cases hall : (mayS p && parB p && decide (parS p = pn.2)) = true
    · have he := Lib.hid (hE0.out.trans (if_pos hall))
      simp only [Bool.and_eq_true, decide_eq_true_eq] at hall
      obtain ⟨⟨hm, hpb⟩, hps⟩ := hall
      have hbs : (parS p).toList = pn.2.toList := by rw [hps]
      rw [hm, hpb]
      clear hE0
      have HPS := Lib.hid hps
      clear hm hpb hps
      go_wp2_with fail
      refine (add_tab f m most T pn.1 p fn fuel _ l true w4 HH.out HV.out hl hT).mono ?_
      rintro e w5 ⟨rfl, hR⟩
      clear n1 n2 a0 a1 a2 a3 hbs
      rcases hR with ⟨h1, h2, h3⟩ | ⟨h1, b2, aa, ac, h2, h3, h4⟩
      · have H1 := Lib.hid h1
        have H2 := Lib.hid h2
        have H3 := Lib.hid (gthen HA.out h3)
        clear h2 h3
        generalize addE T most (pn.1, p) = c at *
        go_wp2_with fail
        go_ret
        exact ⟨ret_intE he.out.symm, .inl ⟨by rw [he.out]; exact H1.out, H2.out, H3.out⟩⟩
      · have hg2 := getL_app HG.out [((pn.1, p), b2, (⟨fn, aa, ac, l, fuel, 1, 0, 0, 0, true⟩ : Rw))]
        have hrow := (h3.at hg2).1
        have hopb := HOP.out _ (getL_mem' HG.out)
        have k7 : w5.cell? ⟨b, 7, none⟩ = some (.int .i64 r.op) := row_cells hrow 7
        have z7 : w5.frozen? ⟨b, 7, none⟩ = false := row_open hrow 7
        have H3 := Lib.hid (h3.set (r' := { r with op := r.op + 1 }) hg2 (fr_set w5 b 7 (.int .i64 (r.op + 1))) (row_open7 hrow (r.op + 1)) ⟨rfl, rfl, rfl⟩)
        have H4 := Lib.hid ((((Fr.of_below HA.out).trans h4).mono (T := fun i => i = m ∨ i = b) (fun i hi => .inl hi)).trans ((fr_set w5 b 7 (.int .i64 (r.op + 1))).mono (fun i hi => .inr hi)))
        have H5 := Lib.hid (Nat.le_trans HA.out.size h2)
        have H1 := Lib.hid h1
        rw [h1]
        clear h1 h2 h3 h4 hg2 hrow
        obtain ⟨ov, hov⟩ : ∃ ov, r.op = ov := ⟨_, rfl⟩
        rw [hov] at k7 hopb
        go_wp2_with fail
        subst hov
        go_ret
        exact ⟨ret_intE (he.out.trans H1.out).symm, .inr ⟨he.out.trans H1.out, b, r, b2, aa, ac, HG.out, HS.out, H5.out, H3.out, H4.out⟩⟩
    · have he := Lib.hid (hE0.out.trans (if_neg hall))
      clear hE0 a0 a1 a2 a3
      cases hm : mayS p
      · clear hall
        go_wp2_with fail
        go_ret
        exact ⟨ret_intE he.out.symm, .inl ⟨by rw [he.out]; decide, HH.out, HA.out⟩⟩
      · cases hpb : parB p
        · clear hall
          go_wp2_with fail
          go_ret
          exact ⟨ret_intE he.out.symm, .inl ⟨by rw [he.out]; decide, HH.out, HA.out⟩⟩
        · rw [hm, hpb] at hall
          have hps : ¬ parS p = pn.2 := by simpa using hall
          have hbs : ((parS p).toList == pn.2.toList) = false := beq_eq_false_iff_ne.2 fun e => hps (by
            rw [ByteArray.toList_eq, ByteArray.toList_eq] at e
            exact ByteArray.ext (Array.toList_inj.1 e))
          clear hall hps
          go_wp2_with fail
          go_ret
          exact ⟨ret_intE he.out.symm, .inl ⟨by rw [he.out]; decide, HH.out, HA.out⟩⟩
end Go.Proofs.Ythbkbmkcgpdedaa
namespace Go.Proofs.Ythbkbmkcgpdedaa
open Go.RowKit Go.Sort Go.Lib

theorem set2 {w1 : World} {r : Nat} {x y : Value} {T : TypeId} (h : w1.heap[r]? = some (.cells #[x, y] T (0, 0))) (a b : Value) :
    ((w1.setCell ⟨r, 0, none⟩ a).setCell ⟨r, 1, none⟩ b).heap[r]? = some (.cells #[a, b] T (0, 0)) := by
  have h1 := Go.heap_setCell_same w1 r 0 _ _ a h
  exact Go.heap_setCell_same _ r 1 _ _ b h1
theorem parent_end {wz : World} {tmps : Array Value} {j : Int} {p : ByteArray} {r : Nat} {T : TypeId} {R : Ending → World → Prop}
    (hr : wz.heap[r]? = some (.cells #[.int .u64 j, .string p] T (0, 0))) (h2 : tmps.getD 2 undef = .pointer (some ⟨r, 0, none⟩)) (hR : R (.returned (.agg #[.int .u64 j, .string p])) wz) :
    bodyPost Try.prog Try.f44 R Exit.ret { tmps := tmps, defers := [] } wz := by
  have c0 : wz.cell? ⟨r, 0, none⟩ = some (.int .u64 j) := by simp [World.cell?, hr]
  have c1 : wz.cell? ⟨r, 1, none⟩ = some (.string p) := by simp [World.cell?, hr]
  refine bodyPost_ret (v := .agg #[.int .u64 j, .string p]) ?_ rfl hR
  have h2' : tmps[2]?.getD undef = .pointer (some ⟨r, 0, none⟩) := by simpa using h2
  simp [results, Try.results44, go_sem, h2', c0, c1]
set_option maxHeartbeats 800000 in
set_option maxRecDepth 100000 in
theorem rparent (b : Nat) (n : Nm) (r : Rw) (w : World) (h : w.heap[b]? = some (rowO n r)) (hs : n.2.size ≤ 9223372036854775807) :
    Calls Try.prog 44 #[.pointer (some ⟨b, 0, none⟩)] w fun e w' => e = .returned (.agg #[.int .u64 n.1, .string (parS n.2)]) ∧ Below w.heap.size w w' := by
  have hA : Below w.heap.size w (w.alloc (.cells #[.int .u64 0, .string ⟨#[]⟩] 35)) := (Below.refl _ _).alloc (Nat.le_refl _) _
  have hrow := (hA.block _ (Array.getElem?_eq_some_iff.1 h).1).trans h
  have H1 := Lib.hid hrow
  have HA := Lib.hid hA
  have HRES := Lib.hid (heap_alloc_new w (.cells #[.int .u64 0, .string ⟨#[]⟩] 35))
  have k1 : (w.alloc (.cells #[.int .u64 0, .string ⟨#[]⟩] 35)).cell? ⟨b, 1, none⟩ = some (.string n.2) := row_cells hrow 1
  clear h hrow hA
  go_enter Try.func44, Try.ntmps44
  go_wp2_with fail
  refine (parent_any n.2 _ hs).mono ?_
  rintro e w1 ⟨rfl, hB⟩
  have hrow1 := (hB.block _ (Array.getElem?_eq_some_iff.1 H1.out).1).trans H1.out
  have hr1 := (hB.block _ (Array.getElem?_eq_some_iff.1 HRES.out).1).trans HRES.out
  have k0 : w1.cell? ⟨b, 0, none⟩ = some (.int .u64 n.1) := row_cells hrow1 0
  have y0 : w1.cell? ⟨w.heap.size, 0, none⟩ = some (.int .u64 0) := by simp [World.cell?, hr1]
  have y1 : w1.cell? ⟨w.heap.size, 1, none⟩ = some (.string ⟨#[]⟩) := by simp [World.cell?, hr1]
  have q0 : w1.frozen? ⟨w.heap.size, 0, none⟩ = false := by simp [World.frozen?, hr1]
  have q1 : w1.frozen? ⟨w.heap.size, 1, none⟩ = false := by simp [World.frozen?, hr1]
  have HR1 := Lib.hid hr1
  have HB := Lib.hid (gthen HA.out hB)
  clear hB H1 HA HRES hrow1 hr1 k1
  go_wp2_with fail
  exact parent_end (set2 HR1.out _ _) rfl ⟨rfl, (HB.out.setCell (p := ⟨w.heap.size, 0, none⟩) (Nat.le_refl _) _).setCell (p := ⟨w.heap.size, 1, none⟩) (Nat.le_refl _) _⟩

theorem over_end {wz : World} {tmps : Array Value} {j c : Int} {p : ByteArray} {is : Bool} {r : Nat} {T : TypeId} {R : Ending → World → Prop}
    (hr : wz.heap[r]? = some (.cells #[.int .u64 j, .string p] T (0, 0))) (h6 : tmps.getD 6 undef = .pointer (some ⟨r, 0, none⟩)) (h7 : tmps.getD 7 undef = .bool is) (h8 : tmps.getD 8 undef = .int .i64 c) (hR : R (.returned (.tuple #[.agg #[.int .u64 j, .string p], .bool is, .int .i64 c])) wz) :
    bodyPost Try.prog Try.f23 R Exit.ret { tmps := tmps, defers := [] } wz := by
  have c0 : wz.cell? ⟨r, 0, none⟩ = some (.int .u64 j) := by simp [World.cell?, hr]
  have c1 : wz.cell? ⟨r, 1, none⟩ = some (.string p) := by simp [World.cell?, hr]
  refine bodyPost_ret (v := .tuple #[.agg #[.int .u64 j, .string p], .bool is, .int .i64 c]) ?_ rfl hR
  have h6' : tmps[6]?.getD undef = .pointer (some ⟨r, 0, none⟩) := by simpa using h6
  have h7' : tmps[7]?.getD undef = .bool is := by simpa using h7
  have h8' : tmps[8]?.getD undef = .int .i64 c := by simpa using h8
  simp [results, Try.results23, go_sem, h6', h7', h8', c0, c1]
theorem Tab.other2 {w : World} {f m : Nat} {most : Int} {T : Tb} {r : Nat} {x y : Value} {E : TypeId} (h : Tab w f m most T) (hr : w.heap[r]? = some (.cells #[x, y] E (0, 0))) (a b : Value) (h1 : E ≠ 76) (h2 : E ≠ 85) (h3 : E ≠ 2) :
    Tab ((w.setCell ⟨r, 0, none⟩ a).setCell ⟨r, 1, none⟩ b) f m most T := by
  have hk : ∀ i, i ≠ r → ((w.setCell ⟨r, 0, none⟩ a).setCell ⟨r, 1, none⟩ b).heap[i]? = w.heap[i]? := fun i hi => by
    rw [Go.heap_setCell_other _ ⟨r, 1, none⟩ i _ hi, Go.heap_setCell_other _ ⟨r, 0, none⟩ i _ hi]
  have hne : ∀ (i : Nat) (cs : Array Value) (t : TypeId) (fr : Nat × Nat), w.heap[i]? = some (Obj.cells cs t fr) → t ≠ E → i ≠ r := by
    rintro i cs t fr hi ht rfl
    rw [hr] at hi
    injection hi with hi; injection hi with _ hi _
    exact ht hi.symm
  refine ⟨(hk f (hne _ _ _ _ h.box (fun e => h1 e.symm))).trans h.box, h.map.block (hk m (fun e => h.notMap (i := r) hr e.symm)), fun p hp => ?_, h.nd⟩
  have hrow := h.row p hp
  exact ⟨(hk _ (hne _ _ _ _ hrow.1 (fun e => h2 e.symm))).trans hrow.1, Args.far hrow.2 (fun i cur hi => hk i (hne _ _ _ _ hi (fun e => h3 e.symm)))⟩
theorem getL_upd_ne {T : Tb} {n k : Nm} {r' : Rw} (h : k ≠ n) : getL (updT T n r') k = getL T k := by
  unfold getL updT
  congr 1
  induction T with
  | nil => rfl
  | cons p T ih =>
    rw [List.map_cons, List.find?_cons, List.find?_cons]
    by_cases hp : p.1 = n
    · have e1 : ¬ p.1 = k := fun e => h (e.symm.trans hp)
      rw [if_pos hp]
      simp only [e1, decide_false]
      exact ih
    · rw [if_neg hp]
      by_cases hk : p.1 = k
      · simp [hk]
      · simp only [hk, decide_false]
        exact ih
theorem getL_upd {T : Tb} {n : Nm} {b : Nat} {r r' : Rw} (h : getL T n = some (b, r)) : getL (updT T n r') n = some (b, r') := by
  unfold getL updT at *
  induction T with
  | nil => cases h
  | cons p T ih =>
    rw [List.map_cons, List.find?_cons]
    rw [List.find?_cons] at h
    by_cases hp : p.1 = n
    · rw [if_pos hp]
      simp only [hp, decide_true] at h ⊢
      simp at h
      rw [h]; rfl
    · rw [if_neg hp]
      simp only [hp, decide_false] at h ⊢
      exact ih h
def InRows (T : Tb) (i : Nat) : Prop := ∃ p ∈ T, p.2.1 = i
theorem inRows {T : Tb} {n : Nm} {b i : Nat} {r : Rw} (h : getL T n = some (b, r)) (e : i = b) : InRows T i := ⟨_, getL_mem' h, e.symm⟩
def overR1 (r : Rw) (val err : Int) : Rw := { r with st := 6, val := val, err := err }
/-- What Over answers, and leaves, behind a row that was in one of the two states. -/
def overU (T1 : Tb) (n : Nm) (r : Rw) : Bool × Tb := if r.fk then match getL T1 (n.1, parS n.2) with
    | none => (false, T1)
    | some (_, q) => if 0 < q.op - 1 ∨ q.st ≠ 3 then (false, updT T1 (n.1, parS n.2) { q with op := q.op - 1 }) else (true, updT (updT T1 (n.1, parS n.2) { q with op := q.op - 1 }) (n.1, parS n.2) { q with op := q.op - 1, st := 4 })
  else (false, T1)
def nmV (b : Bool) (n : Nm) : Value := if b then .agg #[.int .u64 n.1, .string n.2] else .agg #[.int .u64 0, .string ⟨#[]⟩]
set_option maxHeartbeats 3200000 in
set_option maxRecDepth 100000 in
theorem over_tab (f m : Nat) (most : Int) (T : Tb) (n : Nm) (val err : Int) (b : Nat) (r : Rw) (w : World) (h : Tab w f m most T) (hg : getL T n = some (b, r)) (hst : r.st ∈ [(2 : Int), 5]) (hs : n.2.size ≤ 9223372036854775807)
    (hfk : r.fk = true → parS n.2 ≠ n.2 ∧ ∃ pb q, getL T (n.1, parS n.2) = some (pb, q) ∧ 1 ≤ q.op ∧ q.op ≤ 1000000) :
    Calls Try.prog 23 #[.pointer (some ⟨f, 0, none⟩), .agg #[.int .u64 n.1, .string n.2], .agg #[.int .i64 val, .int .i64 err]] w fun e w' =>
      e = .returned (.tuple #[nmV (overU (updT T n (overR1 r val err)) n r).1 (n.1, parS n.2), .bool (overU (updT T n (overR1 r val err)) n r).1, .int .i64 0]) ∧ Tab w' f m most (overU (updT T n (overR1 r val err)) n r).2 ∧ Fr (InRows T) w w' := by
  have hA : Below w.heap.size w (((w.alloc (.cells #[.int .u64 n.1, .string n.2] 35)).alloc (.cells #[.int .i64 val, .int .i64 err] 40)).alloc (.cells #[.int .u64 0, .string ⟨#[]⟩] 35)) := (((Below.refl _ _).alloc (Nat.le_refl _) _).alloc (by simp) _).alloc (by simp; omega) _
  have n1 : (((w.alloc (.cells #[.int .u64 n.1, .string n.2] 35)).alloc (.cells #[.int .i64 val, .int .i64 err] 40)).alloc (.cells #[.int .u64 0, .string ⟨#[]⟩] 35)).cell? ⟨w.heap.size, 0, none⟩ = some (.int .u64 n.1) := cell_keep ((Below.refl _ _).alloc (Nat.le_refl _) _) (cell_keep ((Below.refl _ _).alloc (Nat.le_refl _) _) (show (w.alloc (.cells #[.int .u64 n.1, .string n.2] 35)).cell? ⟨w.heap.size, 0, none⟩ = some (.int .u64 n.1) by simp))
  have n2 : (((w.alloc (.cells #[.int .u64 n.1, .string n.2] 35)).alloc (.cells #[.int .i64 val, .int .i64 err] 40)).alloc (.cells #[.int .u64 0, .string ⟨#[]⟩] 35)).cell? ⟨w.heap.size, 1, none⟩ = some (.string n.2) := cell_keep ((Below.refl _ _).alloc (Nat.le_refl _) _) (cell_keep ((Below.refl _ _).alloc (Nat.le_refl _) _) (show (w.alloc (.cells #[.int .u64 n.1, .string n.2] 35)).cell? ⟨w.heap.size, 1, none⟩ = some (.string n.2) by simp))
  have hres := heap_alloc_new ((w.alloc (.cells #[.int .u64 n.1, .string n.2] 35)).alloc (.cells #[.int .i64 val, .int .i64 err] 40)) (.cells #[.int .u64 0, .string ⟨#[]⟩] 35)
  rw [show ((w.alloc (.cells #[.int .u64 n.1, .string n.2] 35)).alloc (.cells #[.int .i64 val, .int .i64 err] 40)).heap.size = w.heap.size + 2 by simp] at hres
  have hv1 : (((w.alloc (.cells #[.int .u64 n.1, .string n.2] 35)).alloc (.cells #[.int .i64 val, .int .i64 err] 40)).alloc (.cells #[.int .u64 0, .string ⟨#[]⟩] 35)).heap[w.heap.size + 1]? = some (.cells #[.int .i64 val, .int .i64 err] 40 (0, 0)) := by
    have h2 := heap_alloc_new (w.alloc (.cells #[.int .u64 n.1, .string n.2] 35)) (.cells #[.int .i64 val, .int .i64 err] 40)
    rw [show (w.alloc (.cells #[.int .u64 n.1, .string n.2] 35)).heap.size = w.heap.size + 1 by simp] at h2
    exact (Below.heap_alloc _ _ _ (by simp)).trans h2
  have HH := Lib.hid (h.below hA)
  have HA := Lib.hid hA
  have HRES := Lib.hid hres
  have HV1 := Lib.hid hv1
  have HG := Lib.hid hg
  have HFK := Lib.hid hfk
  have ho : ofV T n [2, 5] = (.pointer (some ⟨b, 0, none⟩), 0) := by unfold ofV; rw [hg]; simp only []; rw [if_pos hst]
  clear h hA hres hv1 hg hfk
  go_enter Try.func23, Try.ntmps23
  generalize hwa : ((w.alloc (.cells #[.int .u64 n.1, .string n.2] 35)).alloc (.cells #[.int .i64 val, .int .i64 err] 40)).alloc (.cells #[.int .u64 0, .string ⟨#[]⟩] 35) = wa at *
  go_upto_region 1 with fail
  clear hwa
  have hB1 : Below wa.heap.size wa (wa.alloc (.cells #[.int .u8 2, .int .u8 5] 5)) := (Below.refl _ _).alloc (Nat.le_refl _) _
  go_wp2_with fail
  refine (of_tab f m most T n [2, 5] _ _ (HH.out.below hB1) (reads_two wa 2 5 5) (by decide)).mono ?_
  rintro e w2 ⟨rfl, hB⟩
  have hBB := gthen hB1 hB
  replace HH := Lib.hid (HH.out.below hBB)
  replace HA := Lib.hid (gthen HA.out hBB)
  replace HRES := Lib.hid ((hBB.block _ (Array.getElem?_eq_some_iff.1 HRES.out).1).trans HRES.out)
  replace HV1 := Lib.hid ((hBB.block _ (Array.getElem?_eq_some_iff.1 HV1.out).1).trans HV1.out)
  rw [ho]
  clear hB hB1 hBB n1 n2 ho
  go_upto_region 4 with fail
  have hrow := (HH.out.at HG.out).1
  have hbl := (Array.getElem?_eq_some_iff.1 hrow).1
  have hb1 : ¬ w.heap.size + 1 = b := fun e => by
    have h1 := hrow
    rw [← e, HV1.out] at h1
    unfold rowO at h1
    injection h1 with h1; injection h1 with _ h1 _; cases h1
  have hb2 : w.heap.size + 2 ≠ b := fun e => by
    have h1 := hrow
    rw [← e, HRES.out] at h1
    unfold rowO at h1
    injection h1 with h1; injection h1 with _ h1 _; cases h1
  have hl1 : w.heap.size + 1 < w2.heap.size := (Array.getElem?_eq_some_iff.1 HV1.out).1
  have v0 : w2.cell? ⟨w.heap.size + 1, 0, none⟩ = some (.int .i64 val) := by simp [World.cell?, HV1.out]
  have v1 : w2.cell? ⟨w.heap.size + 1, 1, none⟩ = some (.int .i64 err) := by simp [World.cell?, HV1.out]
  have k6 : w2.cell? ⟨b, 6, none⟩ = some (.int .u8 r.st) := row_cells hrow 6
  have k8 : w2.cell? ⟨b, 8, none⟩ = some (.int .i64 r.val) := row_cells hrow 8
  have k9 : w2.cell? ⟨b, 9, none⟩ = some (.int .i64 r.err) := row_cells hrow 9
  have z6 : w2.frozen? ⟨b, 6, none⟩ = false := row_open hrow 6
  have z8 : w2.frozen? ⟨b, 8, none⟩ = false := row_open hrow 8
  have z9 : w2.frozen? ⟨b, 9, none⟩ = false := row_open hrow 9
  refine wp_region_held_drew (S := fun y => Fr (fun i => i = b) w2 y) (by kernel_rfl) ((Fr.refl _ _).drew) (fun hHeld => ?_)
  refine wpAnyH_take (i := 0) (oi := _) (v := ?_) (by rw [List.getElem?_toArray]; exact rfl) (by kernel_rfl) (by kernel_rfl) (by kernel_rfl) (by exact fun _ _ _ h => h) (Or.inl ⟨by rfl, ?_⟩) hHeld ?_
  rotate_left
  · (intro wX hSw; have q0 := (hSw.cell (p := ⟨w.heap.size + 1, 0, none⟩) hl1 hb1).trans v0; have q1 := (hSw.cell (p := ⟨w.heap.size + 1, 1, none⟩) hl1 hb1).trans v1; clear hSw; go_simp; try with_reducible rfl)
  try simp only [Act.put, List.setIfInBounds_toArray, List.set_cons_zero, List.set_cons_succ]
  refine wpAnyH_take (i := 1) (oi := _) (v := ?_) (by rw [List.getElem?_toArray]; exact rfl) (by kernel_rfl) (by kernel_rfl) (by kernel_rfl) (by exact fun _ _ _ h => h) (Or.inl ⟨by rfl, ?_⟩) hHeld ?_
  rotate_left
  · (intro wX hSw; have q0 := (hSw.cell (p := ⟨w.heap.size + 1, 0, none⟩) hl1 hb1).trans v0; have q1 := (hSw.cell (p := ⟨w.heap.size + 1, 1, none⟩) hl1 hb1).trans v1; clear hSw; go_simp; try with_reducible rfl)
  try simp only [Act.put, List.setIfInBounds_toArray, List.set_cons_zero, List.set_cons_succ]
  refine wpAnyH_take (i := 2) (oi := _) (v := ?_) (by rw [List.getElem?_toArray]; exact rfl) (by kernel_rfl) (by kernel_rfl) (by kernel_rfl) (by exact fun _ _ _ h => h) (Or.inl ⟨by rfl, ?_⟩) hHeld ?_
  rotate_left
  · (intro wX hSw; have q0 := (hSw.cell (p := ⟨w.heap.size + 1, 0, none⟩) hl1 hb1).trans v0; have q1 := (hSw.cell (p := ⟨w.heap.size + 1, 1, none⟩) hl1 hb1).trans v1; clear hSw; go_simp; try with_reducible rfl)
  try simp only [Act.put, List.setIfInBounds_toArray, List.set_cons_zero, List.set_cons_succ]
  refine wpAnyH_take (i := 3) (oi := _) (v := ?_) (by rw [List.getElem?_toArray]; exact rfl) (by kernel_rfl) (by kernel_rfl) (by kernel_rfl) (by exact fun _ _ _ h => h) (Or.inl ⟨by rfl, ?_⟩) hHeld ?_
  rotate_left
  · (intro wX hSw; have q0 := (hSw.cell (p := ⟨w.heap.size + 1, 0, none⟩) hl1 hb1).trans v0; have q1 := (hSw.cell (p := ⟨w.heap.size + 1, 1, none⟩) hl1 hb1).trans v1; clear hSw; go_simp; try with_reducible rfl)
  try simp only [Act.put, List.setIfInBounds_toArray, List.set_cons_zero, List.set_cons_succ]
  refine wpAnyH_take (i := 4) (oi := _) (v := ?_) (by rw [List.getElem?_toArray]; exact rfl) (by kernel_rfl) (by kernel_rfl) (by kernel_rfl) (by exact fun _ _ _ h => h) (Or.inl ⟨by rfl, ?_⟩) hHeld ?_
  rotate_left
  · (intro wX hSw; have q0 := (hSw.cell (p := ⟨w.heap.size + 1, 0, none⟩) hl1 hb1).trans v0; have q1 := (hSw.cell (p := ⟨w.heap.size + 1, 1, none⟩) hl1 hb1).trans v1; clear hSw; go_simp; try with_reducible rfl)
  try simp only [Act.put, List.setIfInBounds_toArray, List.set_cons_zero, List.set_cons_succ]
  refine wpAnyH_take (i := 5) (oi := _) (v := ?_) (by rw [List.getElem?_toArray]; exact rfl) (by kernel_rfl) (by kernel_rfl) (by kernel_rfl) (by exact fun _ _ _ h => h) (Or.inl ⟨by rfl, ?_⟩) hHeld ?_
  rotate_left
  · (intro wX hSw; have q0 := (hSw.cell (p := ⟨w.heap.size + 1, 0, none⟩) hl1 hb1).trans v0; have q1 := (hSw.cell (p := ⟨w.heap.size + 1, 1, none⟩) hl1 hb1).trans v1; clear hSw; go_simp; try with_reducible rfl)
  try simp only [Act.put, List.setIfInBounds_toArray, List.set_cons_zero, List.set_cons_succ]
  refine wpAnyH_ready (rs := [6]) (by kernel_rfl) (by simp) ?_
  refine AllReadyH.cons (o := _) (by rw [List.getElem?_toArray]; exact rfl) (fun K hK => ?_) ?_
  · go_simp
    refine hK.out _ _ (hHeld.setCell (p := ⟨b, 6, none⟩) rfl _) (fun hHeld => ?_)
    clear hK K
    try simp only [Act.put, List.setIfInBounds_toArray, List.set_cons_zero, List.set_cons_succ]
    refine wpAnyH_take (i := 7) (oi := _) (v := ?_) (by rw [List.getElem?_toArray]; exact rfl) (by kernel_rfl) (by kernel_rfl) (by kernel_rfl) (by exact fun _ _ _ h => h) (Or.inl ⟨by rfl, ?_⟩) hHeld ?_
    rotate_left
    · (intro wX hSw; have q0 := (hSw.cell (p := ⟨w.heap.size + 1, 0, none⟩) hl1 hb1).trans v0; have q1 := (hSw.cell (p := ⟨w.heap.size + 1, 1, none⟩) hl1 hb1).trans v1; clear hSw; go_simp; try with_reducible rfl)
    try simp only [Act.put, List.setIfInBounds_toArray, List.set_cons_zero, List.set_cons_succ]
    refine wpAnyH_take (i := 8) (oi := _) (v := ?_) (by rw [List.getElem?_toArray]; exact rfl) (by kernel_rfl) (by kernel_rfl) (by kernel_rfl) (by exact fun _ _ _ h => h) (Or.inl ⟨by rfl, ?_⟩) hHeld ?_
    rotate_left
    · (intro wX hSw; have q0 := (hSw.cell (p := ⟨w.heap.size + 1, 0, none⟩) hl1 hb1).trans v0; have q1 := (hSw.cell (p := ⟨w.heap.size + 1, 1, none⟩) hl1 hb1).trans v1; clear hSw; go_simp; try with_reducible rfl)
    try simp only [Act.put, List.setIfInBounds_toArray, List.set_cons_zero, List.set_cons_succ]
    refine wpAnyH_take (i := 9) (oi := _) (v := ?_) (by rw [List.getElem?_toArray]; exact rfl) (by kernel_rfl) (by kernel_rfl) (by kernel_rfl) (by exact fun _ _ _ h => h) (Or.inl ⟨by rfl, ?_⟩) hHeld ?_
    rotate_left
    · (intro wX hSw; have q0 := (hSw.cell (p := ⟨w.heap.size + 1, 0, none⟩) hl1 hb1).trans v0; have q1 := (hSw.cell (p := ⟨w.heap.size + 1, 1, none⟩) hl1 hb1).trans v1; clear hSw; go_simp; try with_reducible rfl)
    try simp only [Act.put, List.setIfInBounds_toArray, List.set_cons_zero, List.set_cons_succ]
    refine wpAnyH_ready (rs := [10]) (by kernel_rfl) (by simp) ?_
    refine AllReadyH.cons (o := _) (by rw [List.getElem?_toArray]; exact rfl) (fun K hK => ?_) ?_
    · go_simp
      refine hK.out _ _ ((hHeld.setCell (p := ⟨b, 8, none⟩) rfl _).setCell (p := ⟨b, 9, none⟩) rfl _) (fun hHeld => ?_)
      clear hK K
      try simp only [Act.put, List.setIfInBounds_toArray, List.set_cons_zero, List.set_cons_succ]
      refine wpAnyH_done (by kernel_rfl) ?_ _
      have hrow3 : ((((w2.setCell ⟨b, 6, none⟩ (.int .u8 6)).setCell ⟨b, 8, none⟩ (.int .i64 val)).setCell ⟨b, 9, none⟩ (.int .i64 err)).drew).heap[b]? = some (rowO n (overR1 r val err)) := by
        have e1 := row_set hrow 6
        unfold rowO at e1 ⊢
        have e2 := Go.heap_setCell_same _ b 8 _ _ (.int .i64 val) e1
        have e3 := Go.heap_setCell_same _ b 9 _ _ (.int .i64 err) e2
        exact e3
      have HT3 := Lib.hid (HH.out.set (r' := overR1 r val err) HG.out hHeld hrow3 ⟨rfl, rfl, rfl⟩)
      have hr3 := (hHeld.block (w.heap.size + 2) (Array.getElem?_eq_some_iff.1 HRES.out).1 hb2).trans HRES.out
      have HF3 := Lib.hid (((Fr.of_below HA.out).trans hHeld).mono (T := InRows T) (fun i hi => inRows HG.out hi))
      have k10 : ((((w2.setCell ⟨b, 6, none⟩ (.int .u8 6)).setCell ⟨b, 8, none⟩ (.int .i64 val)).setCell ⟨b, 9, none⟩ (.int .i64 err)).drew).cell? ⟨b, 10, none⟩ = some (.bool r.fk) := row_cells hrow3 10
      have HRW3 := Lib.hid hrow3
      have HR3 := Lib.hid hr3
      have hs2 : w.heap.size ≤ w2.heap.size := HA.out.size
      clear hHeld hrow3 hr3 HH HA HRES HV1 hrow hbl hl1 v0 v1 k6 k8 k9 z6 z8 z9
      generalize (((w2.setCell ⟨b, 6, none⟩ (.int .u8 6)).setCell ⟨b, 8, none⟩ (.int .i64 val)).setCell ⟨b, 9, none⟩ (.int .i64 err)).drew = w3 at *
      cases hfk : r.fk with
      | false =>
        have hu : Hid (overU (updT T n (overR1 r val err)) n r = (false, updT T n (overR1 r val err))) := by show _ = _; unfold overU; rw [hfk]; rfl
        rw [hfk] at k10
        have y0 : w3.cell? ⟨w.heap.size + 2, 0, none⟩ = some (.int .u64 0) := by simp [World.cell?, HR3.out]
        have y1 : w3.cell? ⟨w.heap.size + 2, 1, none⟩ = some (.string ⟨#[]⟩) := by simp [World.cell?, HR3.out]
        have q0 : w3.frozen? ⟨w.heap.size + 2, 0, none⟩ = false := by simp [World.frozen?, HR3.out]
        have q1 : w3.frozen? ⟨w.heap.size + 2, 1, none⟩ = false := by simp [World.frozen?, HR3.out]
        clear hfk
        go_wp2_with fail
        refine over_end (set2 HR3.out _ _) rfl rfl rfl ⟨by rw [hu.out]; rfl, by rw [hu.out]; exact HT3.out.other2 HR3.out _ _ (by decide) (by decide) (by decide), (HF3.out.setNew (p := ⟨w.heap.size + 2, 0, none⟩) (by show w.heap.size ≤ w.heap.size + 2; omega) _).setNew (p := ⟨w.heap.size + 2, 1, none⟩) (by show w.heap.size ≤ w.heap.size + 2; omega) _⟩
      | true =>
        obtain ⟨hne, pb, q, hpg, hq1, hq2⟩ := HFK.out hfk
        have hpg1 : getL (updT T n (overR1 r val err)) (n.1, parS n.2) = some (pb, q) := by rw [getL_upd_ne (fun e => hne (congrArg Prod.snd e))]; exact hpg
        rw [hfk] at k10
        have d1 := HT3.out.c1
        have hlf := HT3.out.lt
        have hlk := fun y (hy : Below w3.heap.size w3 y) => HT3.out.look_at (x := y) (hy.block m hlf.2.1) (n.1, parS n.2)
        unfold ptrT at hlk
        rw [hpg1] at hlk
        simp only [Option.map_some] at hlk
        go_upto_region 7 with fail
        have hb3 : b < w3.heap.size := (Array.getElem?_eq_some_iff.1 HRW3.out).1
        refine wp_region_held_drew (S := fun y => Below w3.heap.size w3 y) (by kernel_rfl) ((Below.refl _ _).drew) (fun hHeld => ?_)
        refine wpAnyH_take (i := 0) (oi := _) (v := ?_) (by rw [List.getElem?_toArray]; exact rfl) (by kernel_rfl) (by kernel_rfl) (by kernel_rfl) (by exact fun _ _ _ h => h) (Or.inl ⟨by rfl, ?_⟩) hHeld ?_
        rotate_left
        · (intro wX hSw; have q1 := cell_low hSw hlf.1 d1; have q4 := hlk _ hSw; clear hSw; go_simp; try with_reducible rfl)
        try simp only [Act.put, List.setIfInBounds_toArray, List.set_cons_zero, List.set_cons_succ]
        refine wpAnyH_take (i := 1) (oi := _) (v := ?_) (by rw [List.getElem?_toArray]; exact rfl) (by kernel_rfl) (by kernel_rfl) (by kernel_rfl) (by exact fun _ _ _ h => h) (Or.inl ⟨by rfl, ?_⟩) hHeld ?_
        rotate_left
        · (intro wX hSw; have q1 := cell_low hSw hlf.1 d1; have q4 := hlk _ hSw; clear hSw; go_simp; try with_reducible rfl)
        try simp only [Act.put, List.setIfInBounds_toArray, List.set_cons_zero, List.set_cons_succ]
        refine wpAnyH_take (i := 2) (oi := _) (v := ?_) (by rw [List.getElem?_toArray]; exact rfl) (by kernel_rfl) (by kernel_rfl) (by kernel_rfl) (by exact fun _ _ _ h => h) (Or.inl ⟨by rfl, ?_⟩) hHeld ?_
        rotate_left
        · (intro wX hSw; have q1 := cell_low hSw hlf.1 d1; have q4 := hlk _ hSw; clear hSw; go_simp; try with_reducible rfl)
        try simp only [Act.put, List.setIfInBounds_toArray, List.set_cons_zero, List.set_cons_succ]
        refine wpAnyH_take (i := 3) (oi := _) (v := ?_) (by rw [List.getElem?_toArray]; exact rfl) (by kernel_rfl) (by kernel_rfl) (by kernel_rfl) (by exact fun _ _ _ h => h) (Or.inl ⟨by rfl, ?_⟩) hHeld ?_
        rotate_left
        · (intro wX hSw; have q1 := cell_low hSw hlf.1 d1; have q4 := hlk _ hSw; clear hSw; go_simp; try with_reducible rfl)
        try simp only [Act.put, List.setIfInBounds_toArray, List.set_cons_zero, List.set_cons_succ]
        refine wpAnyH_take (i := 4) (oi := _) (v := ?_) (by rw [List.getElem?_toArray]; exact rfl) (by kernel_rfl) (by kernel_rfl) (by kernel_rfl) (by exact fun _ _ _ h => h) (Or.inl ⟨by rfl, ?_⟩) hHeld ?_
        rotate_left
        · (intro wX hSw; have q1 := cell_low hSw hlf.1 d1; have q4 := hlk _ hSw; clear hSw; go_simp; try with_reducible rfl)
        try simp only [Act.put, List.setIfInBounds_toArray, List.set_cons_zero, List.set_cons_succ]
        refine wpAnyH_ready (rs := [5]) (by kernel_rfl) (by simp) ?_
        refine AllReadyH.cons (o := _) (by rw [List.getElem?_toArray]; exact rfl) (fun K hK => ?_) ?_
        · go_simp
          refine (rparent b n (overR1 r val err) _ ((hHeld.block b hb3).trans HRW3.out) hs).mono ?_; rintro e wc ⟨rfl, hB⟩
          go_wp2_with fail
          refine hK.out _ _ (hHeld.trans (hB.mono hHeld.size)) (fun hHeld => ?_)
          clear hK K
          try simp only [Act.put, List.setIfInBounds_toArray, List.set_cons_zero, List.set_cons_succ]
          refine wpAnyH_take (i := 6) (oi := _) (v := ?_) (by rw [List.getElem?_toArray]; exact rfl) (by kernel_rfl) (by kernel_rfl) (by kernel_rfl) (by exact fun _ _ _ h => h) (Or.inl ⟨by rfl, ?_⟩) hHeld ?_
          rotate_left
          · (intro wX hSw; have q1 := cell_low hSw hlf.1 d1; have q4 := hlk _ hSw; clear hSw; go_simp; try with_reducible rfl)
          try simp only [Act.put, List.setIfInBounds_toArray, List.set_cons_zero, List.set_cons_succ]
          refine wpAnyH_take (i := 7) (oi := _) (v := ?_) (by rw [List.getElem?_toArray]; exact rfl) (by kernel_rfl) (by kernel_rfl) (by kernel_rfl) (by exact fun _ _ _ h => h) (Or.inl ⟨by rfl, ?_⟩) hHeld ?_
          rotate_left
          · (intro wX hSw; have q1 := cell_low hSw hlf.1 d1; have q4 := hlk _ hSw; clear hSw; go_simp; try with_reducible rfl)
          try simp only [Act.put, List.setIfInBounds_toArray, List.set_cons_zero, List.set_cons_succ]
          refine wpAnyH_done (by kernel_rfl) ?_ _
          have HT5 := Lib.hid (HT3.out.below hHeld)
          have hrow5 := (HT5.out.at hpg1).1
          have HR5 := Lib.hid ((hHeld.block _ (Array.getElem?_eq_some_iff.1 HR3.out).1).trans HR3.out)
          have HF5 := Lib.hid (HF3.out.then hHeld)
          clear hHeld HT3 HR3 HF3 HRW3 hlk d1 k10 hb3
          generalize hw5 : wc = w5 at *
          clear hw5
          have hpr : pb ≠ w.heap.size + 2 := fun e => by
            have h1 := hrow5
            rw [e, HR5.out] at h1
            unfold rowO at h1
            injection h1 with h1; injection h1 with _ h1 _; cases h1
          have k7 : w5.cell? ⟨pb, 7, none⟩ = some (.int .i64 q.op) := row_cells hrow5 7
          have z7 : w5.frozen? ⟨pb, 7, none⟩ = false := row_open hrow5 7
          have k6 : w5.cell? ⟨pb, 6, none⟩ = some (.int .u8 q.st) := row_cells hrow5 6
          have z6 : w5.frozen? ⟨pb, 6, none⟩ = false := row_open hrow5 6
          have k0 : w5.cell? ⟨pb, 0, none⟩ = some (.int .u64 n.1) := row_cells hrow5 0
          have k1 : w5.cell? ⟨pb, 1, none⟩ = some (.string (parS n.2)) := row_cells hrow5 1
          have hrow6 := row_open7 hrow5 (q.op - 1)
          have HT6 := Lib.hid (HT5.out.set (r' := { q with op := q.op - 1 }) hpg1 (fr_set w5 pb 7 (.int .i64 (q.op - 1))) hrow6 ⟨rfl, rfl, rfl⟩)
          have HPM := Lib.hid hpg
          have HF6 := Lib.hid (HF5.out.trans ((fr_set w5 pb 7 (.int .i64 (q.op - 1))).mono (T := InRows T) (fun i hi => inRows HPM.out hi)))
          have HR6 := Lib.hid ((Go.heap_setCell_other w5 ⟨pb, 7, none⟩ (w.heap.size + 2) (.int .i64 (q.op - 1)) (fun e => hpr e.symm)).trans HR5.out)
          have HG6 := Lib.hid (getL_upd (r' := { q with op := q.op - 1 }) hpg1)
          have HROW6 := Lib.hid hrow6
          have hu : Hid (overU (updT T n (overR1 r val err)) n r = if 0 < q.op - 1 ∨ q.st ≠ 3 then (false, updT (updT T n (overR1 r val err)) (n.1, parS n.2) { q with op := q.op - 1 }) else (true, updT (updT (updT T n (overR1 r val err)) (n.1, parS n.2) { q with op := q.op - 1 }) (n.1, parS n.2) { q with op := q.op - 1, st := 4 })) := by show _ = _; unfold overU; rw [hfk, hpg1]; rfl
          have y0 : w5.cell? ⟨w.heap.size + 2, 0, none⟩ = some (.int .u64 0) := by simp [World.cell?, HR5.out]
          have y1 : w5.cell? ⟨w.heap.size + 2, 1, none⟩ = some (.string ⟨#[]⟩) := by simp [World.cell?, HR5.out]
          have q0 : w5.frozen? ⟨w.heap.size + 2, 0, none⟩ = false := by simp [World.frozen?, HR5.out]
          have q1 : w5.frozen? ⟨w.heap.size + 2, 1, none⟩ = false := by simp [World.frozen?, HR5.out]
          clear hfk hpg hpg1 hrow5 hrow6 HT5 HF5 HR5
          obtain ⟨ov, hov⟩ : ∃ ov, q.op = ov := ⟨_, rfl⟩
          obtain ⟨sv, hsv⟩ : ∃ sv, q.st = sv := ⟨_, rfl⟩
          rw [hov] at k7 hq1 hq2
          rw [hsv] at k6
          have HOV := Lib.hid hov
          have HSV := Lib.hid hsv
          clear hov hsv
          have hq6 : (w5.setCell ⟨pb, 7, none⟩ (.int .i64 (q.op - 1))).frozen? ⟨pb, 6, none⟩ = false := row_open HROW6.out 6
          by_cases hop1 : 0 < ov - 1
          · have hv := Lib.hid (hu.out.trans (if_pos (.inl (by rw [HOV.out]; exact hop1))))
            go_wp2_with fail
            obtain rfl : ov = q.op := HOV.out.symm
            refine over_end (set2 HR6.out _ _) rfl rfl rfl ⟨by rw [hv.out]; rfl, by rw [hv.out]; exact HT6.out.other2 HR6.out _ _ (by decide) (by decide) (by decide), (HF6.out.setNew (p := ⟨w.heap.size + 2, 0, none⟩) (by show w.heap.size ≤ w.heap.size + 2; omega) _).setNew (p := ⟨w.heap.size + 2, 1, none⟩) (by show w.heap.size ≤ w.heap.size + 2; omega) _⟩
          · by_cases hst3 : sv = 3
            · have hv := Lib.hid (hu.out.trans (if_neg (by rw [HOV.out, HSV.out]; intro h; rcases h with h | h; exact hop1 h; exact h hst3)))
              subst hst3
              have HT7 := Lib.hid (HT6.out.set (r' := { q with op := q.op - 1, st := 4 }) HG6.out (fr_set _ pb 6 (.int .u8 4)) (row_set HROW6.out 4) ⟨rfl, rfl, rfl⟩)
              have HF7 := Lib.hid (HF6.out.trans ((fr_set (w5.setCell ⟨pb, 7, none⟩ (.int .i64 (q.op - 1))) pb 6 (.int .u8 4)).mono (T := InRows T) (fun i hi => inRows HPM.out hi)))
              have HR7 := Lib.hid ((Go.heap_setCell_other (w5.setCell ⟨pb, 7, none⟩ (.int .i64 (q.op - 1))) ⟨pb, 6, none⟩ (w.heap.size + 2) (.int .u8 4) (fun e => hpr e.symm)).trans HR6.out)
              have hv2 : Hid (updT (updT (updT T n (overR1 r val err)) (n.1, parS n.2) { q with op := q.op - 1 }) (n.1, parS n.2) { q with op := q.op - 1, st := 4 } = updT (updT (updT T n (overR1 r val err)) (n.1, parS n.2) { q with op := q.op - 1 }) (n.1, parS n.2) { q with op := q.op - 1, st := 4 }) := rfl
              clear hq6
              go_wp2_with fail
              obtain rfl : ov = q.op := HOV.out.symm
              refine over_end (set2 HR7.out _ _) rfl rfl rfl ⟨by rw [hv.out]; rfl, by rw [hv.out]; exact HT7.out.other2 HR7.out _ _ (by decide) (by decide) (by decide), (HF7.out.setNew (p := ⟨w.heap.size + 2, 0, none⟩) (by show w.heap.size ≤ w.heap.size + 2; omega) _).setNew (p := ⟨w.heap.size + 2, 1, none⟩) (by show w.heap.size ≤ w.heap.size + 2; omega) _⟩
            · have hv := Lib.hid (hu.out.trans (if_pos (.inr (by rw [HSV.out]; exact hst3))))
              have hb3 : (sv != 3) = true := by simpa using hst3
              go_wp2_with fail
              obtain rfl : ov = q.op := HOV.out.symm
              refine over_end (set2 HR6.out _ _) rfl rfl rfl ⟨by rw [hv.out]; rfl, by rw [hv.out]; exact HT6.out.other2 HR6.out _ _ (by decide) (by decide) (by decide), (HF6.out.setNew (p := ⟨w.heap.size + 2, 0, none⟩) (by show w.heap.size ≤ w.heap.size + 2; omega) _).setNew (p := ⟨w.heap.size + 2, 1, none⟩) (by show w.heap.size ≤ w.heap.size + 2; omega) _⟩
        exact AllReadyH.nil
    exact AllReadyH.nil
  exact AllReadyH.nil
end Go.Proofs.Ythbkbmkcgpdedaa
