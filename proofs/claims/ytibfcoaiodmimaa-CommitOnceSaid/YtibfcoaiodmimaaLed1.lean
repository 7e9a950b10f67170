/- The ledger: its struct and its map; contracts: New, Len, Of. -/
import Derived.Test.YtibfcoaiodmimaaFr
import Derived.Test.YtibfcoaiodmimaaBranch3
import Derived.OwnWalk
import Derived.Sort.OwnSorted
import Derived.BigQuiet
import Derived.Carry
import Derived.Deep.DeepCutAuto
import Derived.Deep.RegionHeld3
namespace Go.Proofs.Ytibfcoaiodmimaa
open Go.RowKit Go.Sort Go.Lib

/-- An entry: its name; how many kids; what it came to. -/
abbrev Ent := Nm × (Int × (Int × Int))
def encE (x : Ent) : List Value := [.int .u64 x.1.1, .string x.1.2, .int .i64 x.2.1, .int .i64 x.2.2.1, .int .i64 x.2.2.2]
def evE (x : Ent) : Value := .agg #[.int .u64 x.1.1, .string x.1.2, .int .i64 x.2.1, .int .i64 x.2.2.1, .int .i64 x.2.2.2]
def zE : Ent := ((0, ⟨#[]⟩), (0, (0, 0)))
structure Led (w : World) (f m : Nat) (most : Int) (l : List (Nm × Ent)) : Prop where
  box : w.heap[f]? = some (.cells #[.int .i64 most, .map (some m)] 57 (0, 0))
  map : MapL evE w m l
  key : ∀ p ∈ l, p.2.1 = p.1
section
variable {w w' : World} {f m : Nat} {most : Int} {l l' : List (Nm × Ent)}
theorem Led.c0 (h : Led w f m most l) : w.cell? ⟨f, 0, none⟩ = some (.int .i64 most) := by simp [World.cell?, h.box]
theorem Led.c1 (h : Led w f m most l) : w.cell? ⟨f, 1, none⟩ = some (.map (some m)) := by simp [World.cell?, h.box]
theorem Led.lt (h : Led w f m most l) : f < w.heap.size ∧ m < w.heap.size ∧ f ≠ m := by
  refine ⟨(Array.getElem?_eq_some_iff.1 h.box).1, h.map.lt, fun e => ?_⟩
  obtain ⟨es, c, hb, _⟩ := h.map
  have := h.box; rw [e, hb] at this; cases this
theorem Led.below (h : Led w f m most l) (hB : Below w.heap.size w w') : Led w' f m most l :=
  ⟨(hB.block f h.lt.1).trans h.box, h.map.block (hB.block m h.lt.2.1), h.key⟩
theorem Led.fr {S : Nat → Prop} (h : Led w f m most l) (hF : Fr S w w') (h1 : ¬ S f) (h2 : ¬ S m) : Led w' f m most l :=
  ⟨(hF.block f h.lt.1 h1).trans h.box, h.map.block (hF.block m h.lt.2.1 h2), h.key⟩
theorem Led.onMap (h : Led w f m most l) (ho : OnlyAt w w' m) (hm : MapL evE w' m l') (hk : ∀ p ∈ l', p.2.1 = p.1) : Led w' f m most l' :=
  ⟨(ho.2.2.2.2.1 f h.lt.2.2).trans h.box, hm, hk⟩
end
theorem zeroE (w : World) : (zeroValue 38).run Try.prog w = .ok (evE zE) w := by kernel_rfl
theorem nameTyE : NameTy Try.prog 25 := nameTy
def ofE (l : List (Nm × Ent)) (n : Nm) : Ent := (getL l n).getD zE
theorem Led.look {w : World} {f m : Nat} {most : Int} {l : List (Nm × Ent)} (h : Led w f m most l) (n : Nm) :
    (Instr.lookup 48 (.map (some m)) (.agg #[.int .u64 n.1, .string n.2]) true).run Try.prog w = .ok (.tuple #[evE (ofE l n), .bool (getL l n).isSome]) w := by
  have := h.map.lookupOk nameTy Try.underlying48 (zeroE w) n
  rw [show ((getL l n).map evE).getD (evE zE) = evE (ofE l n) by unfold ofE; cases getL l n <;> rfl] at this
  exact this

theorem Led.look_at {w x : World} {f m : Nat} {most : Int} {l : List (Nm × Ent)} (h : Led w f m most l) (hx : x.heap[m]? = w.heap[m]?) (n : Nm) :
    (Instr.lookup 48 (.map (some m)) (.agg #[.int .u64 n.1, .string n.2]) true).run Try.prog x = .ok (.tuple #[evE (ofE l n), .bool (getL l n).isSome]) x := by
  have := (h.map.block hx).lookupOk nameTy Try.underlying48 (zeroE x) n
  rw [show ((getL l n).map evE).getD (evE zE) = evE (ofE l n) by unfold ofE; cases getL l n <;> rfl] at this
  exact this
theorem mapNilE (w : World) (r : Option Nat) : (binOp .eql 48 (.map r) (.map none)).run Try.prog w = .ok (.bool r.isNone) w :=
  run_eql_map_nil w _ _ _ r Try.underlying48
theorem led_made (w : World) (most : Int) : Led ((w.alloc (.map #[] 0)).alloc (.cells #[.int .i64 most, .map (some w.heap.size)] 57)) (w.heap.size + 1) w.heap.size most [] := by
  have h1 : MapL evE (w.alloc (.map #[] 0)) w.heap.size [] := MapL.made evE w
  refine ⟨?_, h1.block (Below.heap_alloc _ _ _ (by simp)), by simp⟩
  have := heap_alloc_new (w.alloc (.map #[] 0)) (.cells #[.int .i64 most, .map (some w.heap.size)] 57)
  simpa using this

def MadeL (most : Int) (w : World) (e : Ending) (w' : World) : Prop := ∃ f m, e = .returned (.tuple #[.pointer (some ⟨f, 0, none⟩), .int .i64 0]) ∧ w.heap.size ≤ f ∧ w.heap.size ≤ m ∧ Led w' f m most [] ∧ Below w.heap.size w w'
theorem cell_low {B : Nat} {w x : World} (h : Below B w x) {a : Addr} {v : Value} (hl : a.block < B) (hc : w.cell? a = some v) : x.cell? a = some v := (h.cell hl).trans hc
set_option maxHeartbeats 800000 in
set_option maxRecDepth 100000 in
theorem new_led (most : Int) (w : World) (h1 : ¬ most < 1) (h2 : ¬ most > 4096) :
    Calls Try.prog 8 #[.int .i64 most] w fun e w' =>
      MadeL most w e w' := by
  have hmm := @Go.RowKit.run_makeMap Try.prog
  have hL := Lib.hid (led_made w most)
  go_enter Try.func8, Try.ntmps8
  go_wp2_with fail
  go_ret2
  exact ⟨w.heap.size + 1, w.heap.size, rfl, Nat.le_succ _, Nat.le_refl _, hL.out, ((Below.refl _ _).alloc (Nat.le_refl _) _).alloc (by simp) _⟩

set_option maxHeartbeats 400000 in
theorem len_led (f m : Nat) (most : Int) (l : List (Nm × Ent)) (w : World) (h : Led w f m most l) :
    Calls Try.prog 13 #[.pointer (some ⟨f, 0, none⟩)] w fun e w' => e = .returned (.int .i64 l.length) ∧ w' = w := by
  have hln := fun ty => h.map.len (P := Try.prog) (k := 25) Try.underlying48 ty
  have c1 := h.c1
  clear h
  go_enter Try.func13, Try.ntmps13
  go_wp2_with fail
  go_ret
  exact ⟨rfl, rfl⟩

theorem set5 {w1 : World} {r : Nat} {x y z u v : Value} {T : TypeId} (h : w1.heap[r]? = some (.cells #[x, y, z, u, v] T (0, 0))) (a b c d e : Value) :
    (((((w1.setCell ⟨r, 0, none⟩ a).setCell ⟨r, 1, none⟩ b).setCell ⟨r, 2, none⟩ c).setCell ⟨r, 3, none⟩ d).setCell ⟨r, 4, none⟩ e).heap[r]? = some (.cells #[a, b, c, d, e] T (0, 0)) := by
  simp [World.setCell, h, Array.getElem?_modify]
theorem set5_below {B : Nat} {w w1 : World} {r : Nat} (h : Below B w w1) (hr : B ≤ r) (a b c d e : Value) :
    Below B w (((((w1.setCell ⟨r, 0, none⟩ a).setCell ⟨r, 1, none⟩ b).setCell ⟨r, 2, none⟩ c).setCell ⟨r, 3, none⟩ d).setCell ⟨r, 4, none⟩ e) :=
  ((((h.setCell (p := ⟨r, 0, none⟩) hr _).setCell (p := ⟨r, 1, none⟩) hr _).setCell (p := ⟨r, 2, none⟩) hr _).setCell (p := ⟨r, 3, none⟩) hr _).setCell (p := ⟨r, 4, none⟩) hr _
/-- How Of ends. -/
theorem of_end {w wz : World} {tmps : Array Value} {x : Ent} {isb : Bool} {r : Nat} {T : TypeId}
    (hr : wz.heap[r]? = some (.cells #[.int .u64 x.1.1, .string x.1.2, .int .i64 x.2.1, .int .i64 x.2.2.1, .int .i64 x.2.2.2] T (0, 0))) (h4 : tmps.getD 4 undef = .pointer (some ⟨r, 0, none⟩)) (h5 : tmps.getD 5 undef = .bool isb) (hB : Below w.heap.size w wz) :
    bodyPost Try.prog Try.f14 (fun e w' => e = Ending.returned (.tuple #[evE x, .bool isb]) ∧ Below w.heap.size w w') Exit.ret { tmps := tmps, defers := [] } wz := by
  have c0 : wz.cell? ⟨r, 0, none⟩ = some (.int .u64 x.1.1) := by simp [World.cell?, hr]
  have c1 : wz.cell? ⟨r, 1, none⟩ = some (.string x.1.2) := by simp [World.cell?, hr]
  have c2 : wz.cell? ⟨r, 2, none⟩ = some (.int .i64 x.2.1) := by simp [World.cell?, hr]
  have c3 : wz.cell? ⟨r, 3, none⟩ = some (.int .i64 x.2.2.1) := by simp [World.cell?, hr]
  have c4 : wz.cell? ⟨r, 4, none⟩ = some (.int .i64 x.2.2.2) := by simp [World.cell?, hr]
  refine bodyPost_ret (v := .tuple #[evE x, .bool isb]) ?_ rfl ⟨rfl, hB⟩
  have h4' : tmps[4]?.getD undef = .pointer (some ⟨r, 0, none⟩) := by simpa using h4
  have h5' : tmps[5]?.getD undef = .bool isb := by simpa using h5
  simp [results, Try.results14, go_sem, h4', h5', c0, c1, c2, c3, c4, evE]

set_option maxHeartbeats 1600000 in
set_option maxRecDepth 100000 in
theorem of_led (f m : Nat) (most : Int) (l : List (Nm × Ent)) (n : Nm) (w : World) (h : Led w f m most l) :
    Calls Try.prog 14 #[.pointer (some ⟨f, 0, none⟩), .agg #[.int .u64 n.1, .string n.2]] w fun e w' => e = .returned (.tuple #[evE (ofE l n), .bool (getL l n).isSome]) ∧ Below w.heap.size w w' := by
  have hA : ∀ (w : World) o, Below w.heap.size w (w.alloc o) := fun w o => (Below.refl _ _).alloc (Nat.le_refl _) o
  have HL := Lib.hid ((h.below (hA w (.cells #[.int .u64 n.1, .string n.2] 25))).below (hA _ (.cells #[.int .u64 0, .string ⟨#[]⟩, .int .i64 0, .int .i64 0, .int .i64 0] 38)))
  have hf := h.lt
  clear h hA
  go_enter Try.func14, Try.ntmps14
  go_wp2_with fail
  have c1 := HL.out.c1
  have hLk : ∀ x, Below ((w.alloc (.cells #[.int .u64 n.1, .string n.2] 25)).alloc (.cells #[.int .u64 0, .string ⟨#[]⟩, .int .i64 0, .int .i64 0, .int .i64 0] 38)).heap.size ((w.alloc (.cells #[.int .u64 n.1, .string n.2] 25)).alloc (.cells #[.int .u64 0, .string ⟨#[]⟩, .int .i64 0, .int .i64 0, .int .i64 0] 38)) x → (Instr.lookup 48 (.map (some m)) (.agg #[.int .u64 n.1, .string n.2]) true).run Try.prog x = .ok (.tuple #[.agg #[.int .u64 (ofE l n).1.1, .string (ofE l n).1.2, .int .i64 (ofE l n).2.1, .int .i64 (ofE l n).2.2.1, .int .i64 (ofE l n).2.2.2], .bool (getL l n).isSome]) x := fun x hx => by
    have := HL.out.look_at (x := x) (hx.block m HL.out.lt.2.1) n
    unfold evE at this
    exact this
  have n1 : ((w.alloc (.cells #[.int .u64 n.1, .string n.2] 25)).alloc (.cells #[.int .u64 0, .string ⟨#[]⟩, .int .i64 0, .int .i64 0, .int .i64 0] 38)).cell? ⟨w.heap.size, 0, none⟩ = some (.int .u64 n.1) := by simp
  have n2 : ((w.alloc (.cells #[.int .u64 n.1, .string n.2] 25)).alloc (.cells #[.int .u64 0, .string ⟨#[]⟩, .int .i64 0, .int .i64 0, .int .i64 0] 38)).cell? ⟨w.heap.size, 1, none⟩ = some (.string n.2) := by simp
  have hres : ((w.alloc (.cells #[.int .u64 n.1, .string n.2] 25)).alloc (.cells #[.int .u64 0, .string ⟨#[]⟩, .int .i64 0, .int .i64 0, .int .i64 0] 38)).heap[w.heap.size + 1]? = some (.cells #[.int .u64 0, .string ⟨#[]⟩, .int .i64 0, .int .i64 0, .int .i64 0] 38 (0, 0)) := by
    have := heap_alloc_new (w.alloc (.cells #[.int .u64 n.1, .string n.2] 25)) (.cells #[.int .u64 0, .string ⟨#[]⟩, .int .i64 0, .int .i64 0, .int .i64 0] 38)
    simpa using this
  have HB : Hid (Below w.heap.size w ((w.alloc (.cells #[.int .u64 n.1, .string n.2] 25)).alloc (.cells #[.int .u64 0, .string ⟨#[]⟩, .int .i64 0, .int .i64 0, .int .i64 0] 38))) := ((Below.refl _ _).alloc (Nat.le_refl _) _).alloc (by simp) _
  have hl1 : (⟨f, 1, none⟩ : Addr).block < ((w.alloc (.cells #[.int .u64 n.1, .string n.2] 25)).alloc (.cells #[.int .u64 0, .string ⟨#[]⟩, .int .i64 0, .int .i64 0, .int .i64 0] 38)).heap.size := HL.out.lt.1
  have hl2 : w.heap.size < ((w.alloc (.cells #[.int .u64 n.1, .string n.2] 25)).alloc (.cells #[.int .u64 0, .string ⟨#[]⟩, .int .i64 0, .int .i64 0, .int .i64 0] 38)).heap.size := by simp; omega
  have hszz : ((w.alloc (.cells #[.int .u64 n.1, .string n.2] 25)).alloc (.cells #[.int .u64 0, .string ⟨#[]⟩, .int .i64 0, .int .i64 0, .int .i64 0] 38)).heap.size = w.heap.size + 2 := by simp
  generalize (w.alloc (.cells #[.int .u64 n.1, .string n.2] 25)).alloc (.cells #[.int .u64 0, .string ⟨#[]⟩, .int .i64 0, .int .i64 0, .int .i64 0] 38) = wq at *
  refine wp_region_held_drew (S := fun x => Below wq.heap.size wq x) (by kernel_rfl) ((Below.refl _ _).drew) (fun hHeld => ?_)
  refine wpAnyH_take (i := 0) (oi := _) (v := ?_) (by rw [List.getElem?_toArray]; exact rfl) (by kernel_rfl) (by kernel_rfl) (by kernel_rfl) (by exact fun _ _ _ h => h) (Or.inl ⟨by rfl, ?_⟩) hHeld ?_
  rotate_left
  · (intro w hSw; have q1 := cell_low hSw hl1 c1; have q2 := cell_low hSw hl2 n1; have q3 := cell_low hSw hl2 n2; have q4 := hLk _ hSw; clear hSw; go_simp; try with_reducible rfl)
  try simp only [Act.put, List.setIfInBounds_toArray, List.set_cons_zero, List.set_cons_succ]
  refine wpAnyH_take (i := 1) (oi := _) (v := ?_) (by rw [List.getElem?_toArray]; exact rfl) (by kernel_rfl) (by kernel_rfl) (by kernel_rfl) (by exact fun _ _ _ h => h) (Or.inl ⟨by rfl, ?_⟩) hHeld ?_
  rotate_left
  · (intro w hSw; have q1 := cell_low hSw hl1 c1; have q2 := cell_low hSw hl2 n1; have q3 := cell_low hSw hl2 n2; have q4 := hLk _ hSw; clear hSw; go_simp; try with_reducible rfl)
  try simp only [Act.put, List.setIfInBounds_toArray, List.set_cons_zero, List.set_cons_succ]
  refine wpAnyH_take (i := 2) (oi := _) (v := ?_) (by rw [List.getElem?_toArray]; exact rfl) (by kernel_rfl) (by kernel_rfl) (by kernel_rfl) (by exact fun _ _ _ h => h) (Or.inl ⟨by rfl, ?_⟩) hHeld ?_
  rotate_left
  · (intro w hSw; have q1 := cell_low hSw hl1 c1; have q2 := cell_low hSw hl2 n1; have q3 := cell_low hSw hl2 n2; have q4 := hLk _ hSw; clear hSw; go_simp; try with_reducible rfl)
  try simp only [Act.put, List.setIfInBounds_toArray, List.set_cons_zero, List.set_cons_succ]
  refine wpAnyH_take (i := 3) (oi := _) (v := ?_) (by rw [List.getElem?_toArray]; exact rfl) (by kernel_rfl) (by kernel_rfl) (by kernel_rfl) (by exact fun _ _ _ h => h) (Or.inl ⟨by rfl, ?_⟩) hHeld ?_
  rotate_left
  · (intro w hSw; have q1 := cell_low hSw hl1 c1; have q2 := cell_low hSw hl2 n1; have q3 := cell_low hSw hl2 n2; have q4 := hLk _ hSw; clear hSw; go_simp; try with_reducible rfl)
  try simp only [Act.put, List.setIfInBounds_toArray, List.set_cons_zero, List.set_cons_succ]
  refine wpAnyH_take (i := 4) (oi := _) (v := ?_) (by rw [List.getElem?_toArray]; exact rfl) (by kernel_rfl) (by kernel_rfl) (by kernel_rfl) (by exact fun _ _ _ h => h) (Or.inl ⟨by rfl, ?_⟩) hHeld ?_
  rotate_left
  · (intro w hSw; have q1 := cell_low hSw hl1 c1; have q2 := cell_low hSw hl2 n1; have q3 := cell_low hSw hl2 n2; have q4 := hLk _ hSw; clear hSw; go_simp; try with_reducible rfl)
  try simp only [Act.put, List.setIfInBounds_toArray, List.set_cons_zero, List.set_cons_succ]
  refine wpAnyH_take (i := 5) (oi := _) (v := ?_) (by rw [List.getElem?_toArray]; exact rfl) (by kernel_rfl) (by kernel_rfl) (by kernel_rfl) (by exact fun _ _ _ h => h) (Or.inl ⟨by rfl, ?_⟩) hHeld ?_
  rotate_left
  · (intro w hSw; have q1 := cell_low hSw hl1 c1; have q2 := cell_low hSw hl2 n1; have q3 := cell_low hSw hl2 n2; have q4 := hLk _ hSw; clear hSw; go_simp; try with_reducible rfl)
  try simp only [Act.put, List.setIfInBounds_toArray, List.set_cons_zero, List.set_cons_succ]
  refine wpAnyH_take (i := 6) (oi := _) (v := ?_) (by rw [List.getElem?_toArray]; exact rfl) (by kernel_rfl) (by kernel_rfl) (by kernel_rfl) (by exact fun _ _ _ h => h) (Or.inl ⟨by rfl, ?_⟩) hHeld ?_
  rotate_left
  · (intro w hSw; have q1 := cell_low hSw hl1 c1; have q2 := cell_low hSw hl2 n1; have q3 := cell_low hSw hl2 n2; have q4 := hLk _ hSw; clear hSw; go_simp; try with_reducible rfl)
  try simp only [Act.put, List.setIfInBounds_toArray, List.set_cons_zero, List.set_cons_succ]
  refine wpAnyH_take (i := 7) (oi := _) (v := ?_) (by rw [List.getElem?_toArray]; exact rfl) (by kernel_rfl) (by kernel_rfl) (by kernel_rfl) (by exact fun _ _ _ h => h) (Or.inl ⟨by rfl, ?_⟩) hHeld ?_
  rotate_left
  · (intro w hSw; have q1 := cell_low hSw hl1 c1; have q2 := cell_low hSw hl2 n1; have q3 := cell_low hSw hl2 n2; have q4 := hLk _ hSw; clear hSw; go_simp; try with_reducible rfl)
  try simp only [Act.put, List.setIfInBounds_toArray, List.set_cons_zero, List.set_cons_succ]
  refine wpAnyH_take (i := 8) (oi := _) (v := ?_) (by rw [List.getElem?_toArray]; exact rfl) (by kernel_rfl) (by kernel_rfl) (by kernel_rfl) (by exact fun _ _ _ h => h) (Or.inl ⟨by rfl, ?_⟩) hHeld ?_
  rotate_left
  · (intro w hSw; have q1 := cell_low hSw hl1 c1; have q2 := cell_low hSw hl2 n1; have q3 := cell_low hSw hl2 n2; have q4 := hLk _ hSw; clear hSw; go_simp; try with_reducible rfl)
  try simp only [Act.put, List.setIfInBounds_toArray, List.set_cons_zero, List.set_cons_succ]
  refine wpAnyH_ready (rs := [9]) (by kernel_rfl) (by simp) ?_
  refine AllReadyH.cons (o := _) (by rw [List.getElem?_toArray]; exact rfl) (fun K hK => ?_) ?_
  rotate_left
  · exact AllReadyH.nil
  go_simp
  refine hK.out _ _ (((Below.refl _ _).alloc (Nat.le_refl _) _).drew) (fun hHeld => ?_)
  clear hK K
  try simp only [Act.put, List.setIfInBounds_toArray, List.set_cons_zero, List.set_cons_succ]
  refine wpAnyH_ready (rs := [10]) (by kernel_rfl) (by simp) ?_
  refine AllReadyH.cons (o := _) (by rw [List.getElem?_toArray]; exact rfl) (fun K hK => ?_) ?_
  rotate_left
  · exact AllReadyH.nil
  go_simp
  refine hK.out _ _ (((Below.refl _ _).alloc (Nat.le_refl _) _).drew) (fun hHeld => ?_)
  clear hK K
  try simp only [Act.put, List.setIfInBounds_toArray, List.set_cons_zero, List.set_cons_succ]
  refine wpAnyH_take (i := 11) (oi := _) (v := ?_) (by rw [List.getElem?_toArray]; exact rfl) (by kernel_rfl) (by kernel_rfl) (by kernel_rfl) (by exact fun _ _ _ h => h) (Or.inl ⟨by rfl, ?_⟩) hHeld ?_
  rotate_left
  · (intro w hSw; have q1 := cell_low hSw hl1 c1; have q2 := cell_low hSw hl2 n1; have q3 := cell_low hSw hl2 n2; have q4 := hLk _ hSw; clear hSw; go_simp; try with_reducible rfl)
  try simp only [Act.put, List.setIfInBounds_toArray, List.set_cons_zero, List.set_cons_succ]
  refine wpAnyH_done (by kernel_rfl) ?_ _
  have hB2 := HB.out.trans (hHeld.mono (by omega))
  have hres2 := (hHeld.block (w.heap.size + 1) (by omega)).trans hres
  have hnew : (wq.alloc (.cells #[.int .u64 (ofE l n).1.1, .string (ofE l n).1.2, .int .i64 (ofE l n).2.1, .int .i64 (ofE l n).2.2.1, .int .i64 (ofE l n).2.2.2] 38)).drew.heap[w.heap.size + 2]? = some (.cells #[.int .u64 (ofE l n).1.1, .string (ofE l n).1.2, .int .i64 (ofE l n).2.1, .int .i64 (ofE l n).2.2.1, .int .i64 (ofE l n).2.2.2] 38 (0, 0)) := by
    have := heap_alloc_new wq (.cells #[.int .u64 (ofE l n).1.1, .string (ofE l n).1.2, .int .i64 (ofE l n).2.1, .int .i64 (ofE l n).2.2.1, .int .i64 (ofE l n).2.2.2] 38)
    rw [hszz] at this
    exact this
  clear hHeld hres hLk c1 n1 n2 hl1 hl2 HL HB
  generalize (wq.alloc (.cells #[.int .u64 (ofE l n).1.1, .string (ofE l n).1.2, .int .i64 (ofE l n).2.1, .int .i64 (ofE l n).2.2.1, .int .i64 (ofE l n).2.2.2] 38)).drew = wz at *
  have hcr : ∀ o, wz.cell? ⟨w.heap.size + 1, o, none⟩ = #[Value.int .u64 0, .string ⟨#[]⟩, .int .i64 0, .int .i64 0, .int .i64 0][o]? := fun o => by simp [World.cell?, hres2]
  have hzr : ∀ o, wz.frozen? ⟨w.heap.size + 1, o, none⟩ = false := fun o => by simp [World.frozen?, hres2]
  have hcn : ∀ o, wz.cell? ⟨w.heap.size + 2, o, none⟩ = #[Value.int .u64 (ofE l n).1.1, .string (ofE l n).1.2, .int .i64 (ofE l n).2.1, .int .i64 (ofE l n).2.2.1, .int .i64 (ofE l n).2.2.2][o]? := fun o => by simp [World.cell?, hnew]
  have r0 := hcr 0; have r1 := hcr 1; have r2 := hcr 2; have r3 := hcr 3; have r4 := hcr 4
  have x0 := hcn 0; have x1 := hcn 1; have x2 := hcn 2; have x3 := hcn 3; have x4 := hcn 4
  have p0 := hzr 0; have p1 := hzr 1; have p2 := hzr 2; have p3 := hzr 3; have p4 := hzr 4
  simp only [List.getElem?_toArray, List.getElem?_cons_zero, List.getElem?_cons_succ] at r0 r1 r2 r3 r4 x0 x1 x2 x3 x4
  have HR := Lib.hid hres2
  have HB2 := Lib.hid hB2
  clear hcr hzr hcn hnew hB2 hres2
  go_wp2_with fail
  exact of_end (x := ofE l n) (isb := (getL l n).isSome) (set5 HR.out _ _ _ _ _) rfl rfl (set5_below HB2.out (by omega) _ _ _ _ _)
end Go.Proofs.Ytibfcoaiodmimaa
