/- Contracts: the rows' Len, Less, Swap. (Less printed by gen/genhp3.py.) -/
import Derived.Test.YteladooegjgdnaaHp2
import Derived.Deep.AppendLies
import Derived.Deep.RegionLaw
import Derived.Deep.RegionHeld3
namespace Go.Proofs.Yteladooegjgdnaa
open Go.RowKit Go.Sort Go.Lib

abbrev TmT : TypeId := 45
def encT (x : Tm) : List Value := [.string x.k, .int .i64 x.a]
theorem encT_len (x : Tm) : (encT x).length = 2 := rfl
theorem alT (w : World) (o : Obj) : Below w.heap.size w (w.alloc o) := (Below.refl _ _).alloc (Nat.le_refl _) _
theorem tm_at {w : World} {g : Nat} {l : List Tm} {n cap Z : Nat} (h : w.ownsRow Z TmT 2 (.slice (some ⟨g, 0, none⟩) n cap) n (l.flatMap encT)) (hn : l.length = n) {k : Nat} (hk : k < l.length) :
    w.cell? ⟨g, k * 2, none⟩ = some (.string l[k].k) ∧ w.cell? ⟨g, k * 2 + 1, none⟩ = some (.int .i64 l[k].a) := by
  subst hn
  obtain ⟨b, off, c, he, _, hc⟩ := (own_readsK (enc := encT) (k := 2) encT_len (by decide) h).at (by omega)
  injection he with he _ _
  injection he with he
  injection he with e1 e2 _
  subst e1; subst e2
  have h0 := hc k hk 0 _ rfl
  have h1 := hc k hk 1 _ rfl
  simp only [Nat.zero_add, Nat.add_zero] at h0 h1
  exact ⟨h0, h1⟩
theorem tm_frozen {w : World} {g : Nat} {n cap Z : Nat} {xs : List Value} (h : w.ownsRow Z TmT 2 (.slice (some ⟨g, 0, none⟩) n cap) n xs) (j : Nat) : w.frozen? ⟨g, j, none⟩ = false := by
  obtain ⟨_, ⟨hv, _⟩ | ⟨g', cap', cur, hv, _, hb, _⟩⟩ := h
  · cases hv
  · injection hv with hv _ _
    injection hv with hv
    injection hv with hv _ _
    subst hv
    simp [World.frozen?, hb]
set_option maxHeartbeats 1600000 in
theorem rlen_any (a : Option Addr) (n cap : Nat) (w : World) : Calls Try.prog 26 #[.slice a n cap] w fun e w' => e = .returned (.int .i64 n) ∧ w' = w := by
  go_enter Try.func26, Try.ntmps26
  go_wp2_with fail
  go_ret
  exact ⟨rfl, rfl⟩
set_option maxHeartbeats 3200000 in
set_option maxRecDepth 100000 in
theorem rless_any {w : World} {g n cap Z i j : Nat} {l : List Tm} (h : w.ownsRow Z TmT 2 (.slice (some ⟨g, 0, none⟩) n cap) n (l.flatMap encT)) (hn : l.length = n) (hi : i < l.length) (hj : j < l.length) :
    Calls Try.prog 80 #[.slice (some ⟨g, 0, none⟩) n cap, .int .i64 i, .int .i64 j] w fun e w' => e = .returned (.bool (lessT l[i] l[j])) ∧ Below w.heap.size w w' := by
  obtain ⟨a0, a1⟩ := tm_at h hn hi
  obtain ⟨b0, b1⟩ := tm_at h hn hj
  have HC := Lib.hid (show ∀ y, Below w.heap.size w y → y.cell? ⟨g, i * 2, none⟩ = some (.string l[i].k) ∧ y.cell? ⟨g, i * 2 + 1, none⟩ = some (.int .i64 l[i].a) ∧ y.cell? ⟨g, j * 2, none⟩ = some (.string l[j].k) ∧ y.cell? ⟨g, j * 2 + 1, none⟩ = some (.int .i64 l[j].a) from fun y hy => by
    have hc : ∀ {a : Addr} {v : Value}, w.cell? a = some v → y.cell? a = some v := fun h => (hy.cell (World.block_lt_of_cell? _ _ h)).trans h
    exact ⟨hc a0, hc a1, hc b0, hc b1⟩)
  have HL := Lib.hid (show lessT l[i] l[j] = decide (orI (cmpA l[i].a l[j].a) (cmpS l[i].k l[j].k) < 0) from rfl)
  have hin : i < n := by omega
  have hjn : j < n := by omega
  have i0 : (0 : Int) ≤ i := by omega
  have i1 : (i : Int) < n := by omega
  have j0 : (0 : Int) ≤ j := by omega
  have j1 : (j : Int) < n := by omega
  rw [HL.out]
  clear a0 a1 b0 b1 h hn HL
  generalize l[i] = x at *
  generalize l[j] = y at *
  go_enter Try.func80, Try.ntmps80
  go_upto_region 1 with fail
  refine wp_region_held_drew (S := fun y => Below w.heap.size w y) (by kernel_rfl) ((Below.refl _ _).drew) (fun hHeld => ?_)
  refine wpAnyH_take (i := 0) (oi := _) (v := ?_) (by rw [List.getElem?_toArray]; exact rfl) (by kernel_rfl) (by kernel_rfl) (by kernel_rfl) (by exact fun _ _ _ h => h) (Or.inl ⟨by rfl, ?_⟩) hHeld ?_
  rotate_left
  · (intro wX hSw; clear hSw; go_simp; try with_reducible rfl)
  try simp only [Act.put, List.setIfInBounds_toArray, List.set_cons_zero, List.set_cons_succ]
  refine wpAnyH_take (i := 1) (oi := _) (v := ?_) (by rw [List.getElem?_toArray]; exact rfl) (by kernel_rfl) (by kernel_rfl) (by kernel_rfl) (by exact fun _ _ _ h => h) (Or.inl ⟨by rfl, ?_⟩) hHeld ?_
  rotate_left
  · (intro wX hSw; clear hSw; go_simp; try with_reducible rfl)
  try simp only [Act.put, List.setIfInBounds_toArray, List.set_cons_zero, List.set_cons_succ]
  refine wpAnyH_take (i := 2) (oi := _) (v := ?_) (by rw [List.getElem?_toArray]; exact rfl) (by kernel_rfl) (by kernel_rfl) (by kernel_rfl) (by exact fun _ _ _ h => h) (Or.inl ⟨by rfl, ?_⟩) hHeld ?_
  rotate_left
  · (intro wX hSw; clear hSw; go_simp; try with_reducible rfl)
  try simp only [Act.put, List.setIfInBounds_toArray, List.set_cons_zero, List.set_cons_succ]
  refine wpAnyH_take (i := 3) (oi := _) (v := ?_) (by rw [List.getElem?_toArray]; exact rfl) (by kernel_rfl) (by kernel_rfl) (by kernel_rfl) (by exact fun _ _ _ h => h) (Or.inl ⟨by rfl, ?_⟩) hHeld ?_
  rotate_left
  · (intro wX hSw; clear hSw; go_simp; try with_reducible rfl)
  try simp only [Act.put, List.setIfInBounds_toArray, List.set_cons_zero, List.set_cons_succ]
  refine wpAnyH_take (i := 4) (oi := _) (v := ?_) (by rw [List.getElem?_toArray]; exact rfl) (by kernel_rfl) (by kernel_rfl) (by kernel_rfl) (by exact fun _ _ _ h => h) (Or.inl ⟨by rfl, ?_⟩) hHeld ?_
  rotate_left
  · (intro wX hSw; obtain ⟨z0, z1, z2, z3⟩ := HC.out _ hSw; clear hSw; go_simp; try with_reducible rfl)
  try simp only [Act.put, List.setIfInBounds_toArray, List.set_cons_zero, List.set_cons_succ]
  refine wpAnyH_take (i := 5) (oi := _) (v := ?_) (by rw [List.getElem?_toArray]; exact rfl) (by kernel_rfl) (by kernel_rfl) (by kernel_rfl) (by exact fun _ _ _ h => h) (Or.inl ⟨by rfl, ?_⟩) hHeld ?_
  rotate_left
  · (intro wX hSw; clear hSw; go_simp; try with_reducible rfl)
  try simp only [Act.put, List.setIfInBounds_toArray, List.set_cons_zero, List.set_cons_succ]
  refine wpAnyH_take (i := 6) (oi := _) (v := ?_) (by rw [List.getElem?_toArray]; exact rfl) (by kernel_rfl) (by kernel_rfl) (by kernel_rfl) (by exact fun _ _ _ h => h) (Or.inl ⟨by rfl, ?_⟩) hHeld ?_
  rotate_left
  · (intro wX hSw; clear hSw; go_simp; try with_reducible rfl)
  try simp only [Act.put, List.setIfInBounds_toArray, List.set_cons_zero, List.set_cons_succ]
  refine wpAnyH_take (i := 7) (oi := _) (v := ?_) (by rw [List.getElem?_toArray]; exact rfl) (by kernel_rfl) (by kernel_rfl) (by kernel_rfl) (by exact fun _ _ _ h => h) (Or.inl ⟨by rfl, ?_⟩) hHeld ?_
  rotate_left
  · (intro wX hSw; clear hSw; go_simp; try with_reducible rfl)
  try simp only [Act.put, List.setIfInBounds_toArray, List.set_cons_zero, List.set_cons_succ]
  refine wpAnyH_take (i := 8) (oi := _) (v := ?_) (by rw [List.getElem?_toArray]; exact rfl) (by kernel_rfl) (by kernel_rfl) (by kernel_rfl) (by exact fun _ _ _ h => h) (Or.inl ⟨by rfl, ?_⟩) hHeld ?_
  rotate_left
  · (intro wX hSw; clear hSw; go_simp; try with_reducible rfl)
  try simp only [Act.put, List.setIfInBounds_toArray, List.set_cons_zero, List.set_cons_succ]
  refine wpAnyH_take (i := 9) (oi := _) (v := ?_) (by rw [List.getElem?_toArray]; exact rfl) (by kernel_rfl) (by kernel_rfl) (by kernel_rfl) (by exact fun _ _ _ h => h) (Or.inl ⟨by rfl, ?_⟩) hHeld ?_
  rotate_left
  · (intro wX hSw; obtain ⟨z0, z1, z2, z3⟩ := HC.out _ hSw; clear hSw; go_simp; try with_reducible rfl)
  try simp only [Act.put, List.setIfInBounds_toArray, List.set_cons_zero, List.set_cons_succ]
  refine wpAnyH_take (i := 11) (oi := _) (v := ?_) (by rw [List.getElem?_toArray]; exact rfl) (by kernel_rfl) (by kernel_rfl) (by kernel_rfl) (by exact fun _ _ _ h => h) (Or.inl ⟨by rfl, ?_⟩) hHeld ?_
  rotate_left
  · (intro wX hSw; clear hSw; go_simp; try with_reducible rfl)
  try simp only [Act.put, List.setIfInBounds_toArray, List.set_cons_zero, List.set_cons_succ]
  refine wpAnyH_take (i := 12) (oi := _) (v := ?_) (by rw [List.getElem?_toArray]; exact rfl) (by kernel_rfl) (by kernel_rfl) (by kernel_rfl) (by exact fun _ _ _ h => h) (Or.inl ⟨by rfl, ?_⟩) hHeld ?_
  rotate_left
  · (intro wX hSw; clear hSw; go_simp; try with_reducible rfl)
  try simp only [Act.put, List.setIfInBounds_toArray, List.set_cons_zero, List.set_cons_succ]
  refine wpAnyH_take (i := 13) (oi := _) (v := ?_) (by rw [List.getElem?_toArray]; exact rfl) (by kernel_rfl) (by kernel_rfl) (by kernel_rfl) (by exact fun _ _ _ h => h) (Or.inl ⟨by rfl, ?_⟩) hHeld ?_
  rotate_left
  · (intro wX hSw; clear hSw; go_simp; try with_reducible rfl)
  try simp only [Act.put, List.setIfInBounds_toArray, List.set_cons_zero, List.set_cons_succ]
  refine wpAnyH_take (i := 14) (oi := _) (v := ?_) (by rw [List.getElem?_toArray]; exact rfl) (by kernel_rfl) (by kernel_rfl) (by kernel_rfl) (by exact fun _ _ _ h => h) (Or.inl ⟨by rfl, ?_⟩) hHeld ?_
  rotate_left
  · (intro wX hSw; clear hSw; go_simp; try with_reducible rfl)
  try simp only [Act.put, List.setIfInBounds_toArray, List.set_cons_zero, List.set_cons_succ]
  refine wpAnyH_take (i := 15) (oi := _) (v := ?_) (by rw [List.getElem?_toArray]; exact rfl) (by kernel_rfl) (by kernel_rfl) (by kernel_rfl) (by exact fun _ _ _ h => h) (Or.inl ⟨by rfl, ?_⟩) hHeld ?_
  rotate_left
  · (intro wX hSw; obtain ⟨z0, z1, z2, z3⟩ := HC.out _ hSw; clear hSw; go_simp; try with_reducible rfl)
  try simp only [Act.put, List.setIfInBounds_toArray, List.set_cons_zero, List.set_cons_succ]
  refine wpAnyH_take (i := 16) (oi := _) (v := ?_) (by rw [List.getElem?_toArray]; exact rfl) (by kernel_rfl) (by kernel_rfl) (by kernel_rfl) (by exact fun _ _ _ h => h) (Or.inl ⟨by rfl, ?_⟩) hHeld ?_
  rotate_left
  · (intro wX hSw; clear hSw; go_simp; try with_reducible rfl)
  try simp only [Act.put, List.setIfInBounds_toArray, List.set_cons_zero, List.set_cons_succ]
  refine wpAnyH_take (i := 17) (oi := _) (v := ?_) (by rw [List.getElem?_toArray]; exact rfl) (by kernel_rfl) (by kernel_rfl) (by kernel_rfl) (by exact fun _ _ _ h => h) (Or.inl ⟨by rfl, ?_⟩) hHeld ?_
  rotate_left
  · (intro wX hSw; clear hSw; go_simp; try with_reducible rfl)
  try simp only [Act.put, List.setIfInBounds_toArray, List.set_cons_zero, List.set_cons_succ]
  refine wpAnyH_take (i := 18) (oi := _) (v := ?_) (by rw [List.getElem?_toArray]; exact rfl) (by kernel_rfl) (by kernel_rfl) (by kernel_rfl) (by exact fun _ _ _ h => h) (Or.inl ⟨by rfl, ?_⟩) hHeld ?_
  rotate_left
  · (intro wX hSw; clear hSw; go_simp; try with_reducible rfl)
  try simp only [Act.put, List.setIfInBounds_toArray, List.set_cons_zero, List.set_cons_succ]
  refine wpAnyH_take (i := 19) (oi := _) (v := ?_) (by rw [List.getElem?_toArray]; exact rfl) (by kernel_rfl) (by kernel_rfl) (by kernel_rfl) (by exact fun _ _ _ h => h) (Or.inl ⟨by rfl, ?_⟩) hHeld ?_
  rotate_left
  · (intro wX hSw; clear hSw; go_simp; try with_reducible rfl)
  try simp only [Act.put, List.setIfInBounds_toArray, List.set_cons_zero, List.set_cons_succ]
  refine wpAnyH_take (i := 20) (oi := _) (v := ?_) (by rw [List.getElem?_toArray]; exact rfl) (by kernel_rfl) (by kernel_rfl) (by kernel_rfl) (by exact fun _ _ _ h => h) (Or.inl ⟨by rfl, ?_⟩) hHeld ?_
  rotate_left
  · (intro wX hSw; obtain ⟨z0, z1, z2, z3⟩ := HC.out _ hSw; clear hSw; go_simp; try with_reducible rfl)
  try simp only [Act.put, List.setIfInBounds_toArray, List.set_cons_zero, List.set_cons_succ]
  refine wpAnyH_ready (rs := [10]) (by kernel_rfl) (by simp) ?_
  refine AllReadyH.cons (o := _) (by rw [List.getElem?_toArray]; exact rfl) (fun K hK => ?_) AllReadyH.nil
  go_simp
  refine (cmpI_any x.a y.a _).mono ?_; rintro e w2 ⟨rfl, rfl⟩
  go_wp2_with fail
  refine hK.out _ _ (hHeld) (fun hHeld => ?_)
  clear hK K
  try simp only [Act.put, List.setIfInBounds_toArray, List.set_cons_zero, List.set_cons_succ]
  refine wpAnyH_ready (rs := [21]) (by kernel_rfl) (by simp) ?_
  refine AllReadyH.cons (o := _) (by rw [List.getElem?_toArray]; exact rfl) (fun K hK => ?_) AllReadyH.nil
  go_simp
  refine (cmpS_any x.k y.k _).mono ?_; rintro e w3 ⟨rfl, rfl⟩
  go_wp2_with fail
  refine hK.out _ _ (hHeld) (fun hHeld => ?_)
  clear hK K
  try simp only [Act.put, List.setIfInBounds_toArray, List.set_cons_zero, List.set_cons_succ]
  refine wpAnyH_ready (rs := [22]) (by kernel_rfl) (by simp) ?_
  refine AllReadyH.cons (o := _) (by rw [List.getElem?_toArray]; exact rfl) (fun K hK => ?_) AllReadyH.nil
  go_simp
  refine hK.out _ _ (gthen hHeld (alT _ _)) (fun hHeld => ?_)
  clear hK K
  try simp only [Act.put, List.setIfInBounds_toArray, List.set_cons_zero, List.set_cons_succ]
  refine wpAnyH_ready (rs := [23]) (by kernel_rfl) (by simp) ?_
  refine AllReadyH.cons (o := _) (by rw [List.getElem?_toArray]; exact rfl) (fun K hK => ?_) AllReadyH.nil
  go_simp
  refine (or_any _ (cmpA x.a y.a) (cmpS x.k y.k) _ (by simp [go_sem]) (by simp [go_sem])).mono ?_; rintro e w4 ⟨rfl, rfl⟩
  go_wp2_with fail
  refine hK.out _ _ (hHeld) (fun hHeld => ?_)
  clear hK K
  try simp only [Act.put, List.setIfInBounds_toArray, List.set_cons_zero, List.set_cons_succ]
  refine wpAnyH_take (i := 24) (oi := _) (v := ?_) (by rw [List.getElem?_toArray]; exact rfl) (by kernel_rfl) (by kernel_rfl) (by kernel_rfl) (by exact fun _ _ _ h => h) (Or.inl ⟨by rfl, ?_⟩) hHeld ?_
  rotate_left
  · (intro wX hSw; clear hSw; go_simp; try with_reducible rfl)
  try simp only [Act.put, List.setIfInBounds_toArray, List.set_cons_zero, List.set_cons_succ]
  refine wpAnyH_take (i := 25) (oi := _) (v := ?_) (by rw [List.getElem?_toArray]; exact rfl) (by kernel_rfl) (by kernel_rfl) (by kernel_rfl) (by exact fun _ _ _ h => h) (Or.inl ⟨by rfl, ?_⟩) hHeld ?_
  rotate_left
  · (intro wX hSw; clear hSw; go_simp; try with_reducible rfl)
  try simp only [Act.put, List.setIfInBounds_toArray, List.set_cons_zero, List.set_cons_succ]
  refine wpAnyH_done (by kernel_rfl) ?_ _
  have HB := Lib.hid hHeld
  go_wp2_with fail
  go_ret
  exact ⟨ret_bool rfl, HB.out⟩
/-- Two change their places. -/
def swapL (l : List Tm) (i j : Nat) : List Tm := (l.set i (l.getD j default)).set j (l.getD i default)
theorem swapL_len (l : List Tm) (i j : Nat) : (swapL l i j).length = l.length := by unfold swapL; simp
theorem flat_setT (L : List Tm) (i : Nat) (h : i < L.length) (x : Tm) : ((L.flatMap encT).set (i * 2) (.string x.k)).set (i * 2 + 1) (.int .i64 x.a) = (L.set i x).flatMap encT := by
  induction L generalizing i with
  | nil => simp at h
  | cons g L ih =>
    cases i with
    | zero => simp [encT]
    | succ i =>
      rw [List.flatMap_cons, List.set_cons_succ, List.flatMap_cons, List.set_append_right _ _ (by simp [encT]; omega)]
      rw [show (i + 1) * 2 - (encT g).length = i * 2 by simp [encT]; omega]
      rw [List.set_append_right _ _ (by simp [encT]; omega)]
      rw [show (i + 1) * 2 + 1 - (encT g).length = i * 2 + 1 by simp [encT]; omega, ih i (by simpa using h)]
theorem own_setT {w : World} {Z k n g cap j : Nat} {E : TypeId} {xs : List Value} {v : Value} (h : w.ownsRow Z E k (.slice (some ⟨g, 0, none⟩) n cap) n xs) : (w.setCell ⟨g, j, none⟩ v).ownsRow Z E k (.slice (some ⟨g, 0, none⟩) n cap) n (xs.set j v) := by
  obtain ⟨h0, ⟨hv, _⟩ | ⟨g', cap', cur, hv, h1, h2, h3, h4, h5, h6⟩⟩ := h
  · cases hv
  injection hv with e1 _ e3
  injection e1 with e1
  injection e1 with e1
  subst e1; subst e3
  refine ⟨by simp [h0], .inr ⟨g, cap, cur.setIfInBounds j v, rfl, h1, Go.heap_setCell_same w g j cur E v h2, h3, h4, by simp [h5], ?_⟩⟩
  rw [Array.toList_setIfInBounds, ← h6, List.take_set]
/-- What a swap leaves. -/
def SwapP (Z g n cap : Nat) (l : List Tm) (i j : Nat) (w : World) (e : Ending) (w' : World) : Prop :=
  e = .returned (.tuple #[]) ∧ w'.ownsRow Z TmT 2 (.slice (some ⟨g, 0, none⟩) n cap) n ((swapL l i j).flatMap encT) ∧ Fr (fun b => b = g) w w'
set_option maxHeartbeats 3200000 in
set_option maxRecDepth 100000 in
theorem rswap_any {w : World} {g n cap Z i j : Nat} {l : List Tm} (h : w.ownsRow Z TmT 2 (.slice (some ⟨g, 0, none⟩) n cap) n (l.flatMap encT)) (hn : l.length = n) (hi : i < l.length) (hj : j < l.length) :
    Calls Try.prog 83 #[.slice (some ⟨g, 0, none⟩) n cap, .int .i64 i, .int .i64 j] w (SwapP Z g n cap l i j w) := by
  obtain ⟨a0, a1⟩ := tm_at h hn hi
  obtain ⟨b0, b1⟩ := tm_at h hn hj
  have f0 := tm_frozen h (i * 2); have f1 := tm_frozen h (i * 2 + 1); have f2 := tm_frozen h (j * 2); have f3 := tm_frozen h (j * 2 + 1)
  have i0 : (0 : Int) ≤ i := by omega
  have i1 : (i : Int) < n := by omega
  have j0 : (0 : Int) ≤ j := by omega
  have j1 : (j : Int) < n := by omega
  have HH := Lib.hid (And.intro h (And.intro hn (And.intro hi hj)))
  have hgi : l.getD i default = l[i] := by rw [List.getD_eq_getElem?_getD, List.getElem?_eq_getElem hi]; rfl
  have hgj : l.getD j default = l[j] := by rw [List.getD_eq_getElem?_getD, List.getElem?_eq_getElem hj]; rfl
  have HS := Lib.hid (show swapL l i j = (l.set i l[j]).set j l[i] by unfold swapL; rw [hgi, hgj])
  have h1 := own_setT (own_setT h (j := i * 2) (v := .string l[j].k)) (j := i * 2 + 1) (v := .int .i64 l[j].a)
  rw [flat_setT l i hi l[j]] at h1
  obtain ⟨c0, c1⟩ := tm_at h1 (by simpa using hn) (show j < (l.set i l[j]).length by simpa using hj)
  generalize (l.set i l[j])[j]'(by simpa using hj) = z at c0 c1
  have g2 := tm_frozen h1 (j * 2); have g3 := tm_frozen h1 (j * 2 + 1)
  have h2 := own_setT (own_setT h1 (j := j * 2) (v := .string l[i].k)) (j := j * 2 + 1) (v := .int .i64 l[i].a)
  rw [flat_setT (l.set i l[j]) j (by simpa using hj) l[i]] at h2
  have H2 := Lib.hid h2
  clear h1 h2 h hn hgi hgj
  generalize l[i] = x at *
  generalize l[j] = y at *
  go_enter Try.func83, Try.ntmps83
  go_region
  go_end0
  refine ⟨rfl, ?_, ?_⟩
  · rw [HS.out]
    exact own_below H2.out (Below.refl _ _).drew
  · exact (((((Fr.refl (fun b => b = g) w).setCell (p := ⟨g, i * 2, none⟩) rfl _).setCell (p := ⟨g, i * 2 + 1, none⟩) rfl _).setCell (p := ⟨g, j * 2, none⟩) rfl _).setCell (p := ⟨g, j * 2 + 1, none⟩) rfl _).drew
end Go.Proofs.Yteladooegjgdnaa
