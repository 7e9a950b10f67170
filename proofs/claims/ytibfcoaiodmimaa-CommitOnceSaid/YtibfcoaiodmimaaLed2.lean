/- Contract: Commit. -/
import Derived.Test.YtibfcoaiodmimaaLed1
namespace Go.Proofs.Ytibfcoaiodmimaa
open Go.RowKit Go.Sort Go.Lib

def badX (x : Ent) : Bool := !mayS x.1.2 || (decide (x.2.1 < 0) || (decide (16 < x.2.1) || (decide (0 < x.2.1) && decide (12 ≤ x.1.2.size))))
def cmA (l : List (Nm × Ent)) (most : Int) (x : Ent) : Bool × Int :=
  if badX x then (false, 2) else match getL l x.1 with
    | some old => if old = x then (false, 0) else (false, 240)
    | none => if most ≤ l.length then (false, 6) else (true, 0)
def cmL (l : List (Nm × Ent)) (most : Int) (x : Ent) : List (Nm × Ent) := if (cmA l most x).1 then putL l x.1 x else l
/-- What Commit leaves. -/
def Cmd (f m : Nat) (most : Int) (l : List (Nm × Ent)) (x : Ent) (w w' : World) : Prop := Led w' f m most (cmL l most x) ∧ Fr (InF f m) w w'
theorem Cmd.no {f m : Nat} {most : Int} {l : List (Nm × Ent)} {x : Ent} {w w' : World} (h : (cmA l most x).1 = false) (hL : Led w' f m most l) (hB : Below w.heap.size w w') : Cmd f m most l x w w' := by
  unfold Cmd cmL; rw [h]; exact ⟨hL, .of_below hB⟩
theorem cm_end {l : List (Nm × Ent)} {most : Int} {x : Ent} {b : Bool} {e : Int} (h : cmA l most x = (b, e)) : Ending.returned (.tuple #[.bool b, .int .i64 e]) = Ending.returned (.tuple #[.bool (cmA l most x).1, .int .i64 (cmA l most x).2]) := by rw [h]
theorem ent_cases {a x : Ent} (hk : a.1 = x.1) : a = x ∨ (a ≠ x ∧ (a.2.1 == x.2.1) = false) ∨ (a ≠ x ∧ a.2.1 = x.2.1 ∧ (a.2.2.1 == x.2.2.1) = false) ∨ (a ≠ x ∧ a.2.1 = x.2.1 ∧ a.2.2.1 = x.2.2.1 ∧ (a.2.2.2 == x.2.2.2) = false) := by
  by_cases h1 : a.2.1 = x.2.1
  · by_cases h2 : a.2.2.1 = x.2.2.1
    · by_cases h3 : a.2.2.2 = x.2.2.2
      · exact .inl (Prod.ext hk (Prod.ext h1 (Prod.ext h2 h3)))
      · exact .inr (.inr (.inr ⟨fun e => h3 (by rw [e]), h1, h2, by simpa using h3⟩))
    · exact .inr (.inr (.inl ⟨fun e => h2 (by rw [e]), h1, by simpa using h2⟩))
  · exact .inr (.inl ⟨fun e => h1 (by rw [e]), by simpa using h1⟩)

theorem getL_memE {l : List (Nm × Ent)} {n : Nm} {v : Ent} (h : getL l n = some v) : (n, v) ∈ l := by
  unfold getL at h
  obtain ⟨p, hp, hv⟩ := Option.map_eq_some_iff.1 h
  have h1 := List.mem_of_find?_eq_some hp
  have h2 : p.1 = n := by simpa using List.find?_some hp
  rw [← h2, ← hv]; exact h1
theorem putL_key {l : List (Nm × Ent)} (h : ∀ p ∈ l, p.2.1 = p.1) {x : Ent} : ∀ p ∈ putL l x.1 x, p.2.1 = p.1 := by
  unfold putL; split
  · intro p hp
    obtain ⟨q, hq, he⟩ := List.mem_map.1 hp
    split at he
    · subst he; rfl
    · subst he; exact h q hq
  · intro p hp
    rw [List.mem_append] at hp
    rcases hp with hp | hp
    · exact h p hp
    · simp at hp; subst hp; rfl
theorem Led.drew {w : World} {f m : Nat} {most : Int} {l : List (Nm × Ent)} (h : Led w f m most l) : Led w.drew f m most l := ⟨h.box, h.map, h.key⟩
theorem cell_keep {x y : World} (hB : Below x.heap.size x y) {a : Addr} {v : Value} (h : x.cell? a = some v) : y.cell? a = some v := (hB.cell (World.block_lt_of_cell? x a h)).trans h

set_option maxHeartbeats 3200000 in
set_option maxRecDepth 100000 in
theorem commit_led (f m : Nat) (most : Int) (l : List (Nm × Ent)) (x : Ent) (w : World) (h : Led w f m most l) (hs : x.1.2.size ≤ 9223372036854775807) (_hl : (l.length : Int) ≤ 9223372036854775807) :
    Calls Try.prog 9 #[.pointer (some ⟨f, 0, none⟩), .agg #[.int .u64 x.1.1, .string x.1.2, .int .i64 x.2.1, .int .i64 x.2.2.1, .int .i64 x.2.2.2]] w fun e w' =>
      e = .returned (.tuple #[.bool (cmA l most x).1, .int .i64 (cmA l most x).2]) ∧ Cmd f m most l x w w' := by
  have hA : Below w.heap.size w (w.alloc (.cells #[.int .u64 x.1.1, .string x.1.2, .int .i64 x.2.1, .int .i64 x.2.2.1, .int .i64 x.2.2.2] 38)) := (Below.refl _ _).alloc (Nat.le_refl _) _
  have HL := Lib.hid (h.below hA)
  have HA := Lib.hid hA
  have hfw := h.lt
  have c1 := HL.out.c1
  have hmn := mapNilE
  clear h hA
  go_enter Try.func9, Try.ntmps9
  go_upto_region 3 with fail
  have hLk : ∀ y, Below (w.alloc (.cells #[.int .u64 x.1.1, .string x.1.2, .int .i64 x.2.1, .int .i64 x.2.2.1, .int .i64 x.2.2.2] 38)).heap.size (w.alloc (.cells #[.int .u64 x.1.1, .string x.1.2, .int .i64 x.2.1, .int .i64 x.2.2.1, .int .i64 x.2.2.2] 38)) y → (Instr.lookup 48 (.map (some m)) (.agg #[.int .u64 x.1.1, .string x.1.2]) true).run Try.prog y = .ok (.tuple #[.agg #[.int .u64 (ofE l x.1).1.1, .string (ofE l x.1).1.2, .int .i64 (ofE l x.1).2.1, .int .i64 (ofE l x.1).2.2.1, .int .i64 (ofE l x.1).2.2.2], .bool (getL l x.1).isSome]) y := fun y hy => by
    have := HL.out.look_at (x := y) (hy.block m HL.out.lt.2.1) x.1
    unfold evE at this
    exact this
  have n1 : (w.alloc (.cells #[.int .u64 x.1.1, .string x.1.2, .int .i64 x.2.1, .int .i64 x.2.2.1, .int .i64 x.2.2.2] 38)).cell? ⟨w.heap.size, 0, none⟩ = some (.int .u64 x.1.1) := by simp
  have n2 : (w.alloc (.cells #[.int .u64 x.1.1, .string x.1.2, .int .i64 x.2.1, .int .i64 x.2.2.1, .int .i64 x.2.2.2] 38)).cell? ⟨w.heap.size, 1, none⟩ = some (.string x.1.2) := by simp
  have n3 : (w.alloc (.cells #[.int .u64 x.1.1, .string x.1.2, .int .i64 x.2.1, .int .i64 x.2.2.1, .int .i64 x.2.2.2] 38)).cell? ⟨w.heap.size, 2, none⟩ = some (.int .i64 x.2.1) := by simp
  have n4 : (w.alloc (.cells #[.int .u64 x.1.1, .string x.1.2, .int .i64 x.2.1, .int .i64 x.2.2.1, .int .i64 x.2.2.2] 38)).cell? ⟨w.heap.size, 3, none⟩ = some (.int .i64 x.2.2.1) := by simp
  have n5 : (w.alloc (.cells #[.int .u64 x.1.1, .string x.1.2, .int .i64 x.2.1, .int .i64 x.2.2.1, .int .i64 x.2.2.2] 38)).cell? ⟨w.heap.size, 4, none⟩ = some (.int .i64 x.2.2.2) := by simp
  have hl1 : f < (w.alloc (.cells #[.int .u64 x.1.1, .string x.1.2, .int .i64 x.2.1, .int .i64 x.2.2.1, .int .i64 x.2.2.2] 38)).heap.size := HL.out.lt.1
  have hl2 : w.heap.size < (w.alloc (.cells #[.int .u64 x.1.1, .string x.1.2, .int .i64 x.2.1, .int .i64 x.2.2.1, .int .i64 x.2.2.2] 38)).heap.size := by simp
  have hszz : (w.alloc (.cells #[.int .u64 x.1.1, .string x.1.2, .int .i64 x.2.1, .int .i64 x.2.2.1, .int .i64 x.2.2.2] 38)).heap.size = w.heap.size + 1 := by simp
  generalize w.alloc (.cells #[.int .u64 x.1.1, .string x.1.2, .int .i64 x.2.1, .int .i64 x.2.2.1, .int .i64 x.2.2.2] 38) = wq at *
  refine wp_region_held_drew (S := fun x => Below wq.heap.size wq x) (by kernel_rfl) ((Below.refl _ _).drew) (fun hHeld => ?_)
  refine wpAnyH_take (i := 0) (oi := _) (v := ?_) (by rw [List.getElem?_toArray]; exact rfl) (by kernel_rfl) (by kernel_rfl) (by kernel_rfl) (by exact fun _ _ _ h => h) (Or.inl ⟨by rfl, ?_⟩) hHeld ?_
  rotate_left
  · (intro w hSw; have q1 := cell_low hSw hl1 c1; have q2 := cell_low hSw hl2 n1; have q3 := cell_low hSw hl2 n2; have q4 := hLk _ hSw; clear hSw; go_simp; try with_reducible rfl)
  try simp only [Act.put, List.setIfInBounds_toArray, List.set_cons_zero, List.set_cons_succ]
  refine wpAnyH_take (i := 1) (oi := _) (v := ?_) (by rw [List.getElem?_toArray]; exact rfl) (by kernel_rfl) (by kernel_rfl) (by kernel_rfl) (by exact fun _ _ _ h => h) (Or.inl ⟨by rfl, ?_⟩) hHeld ?_
  rotate_left
  · (intro w hSw; have q1 := cell_low hSw hl1 c1; have q2 := cell_low hSw hl2 n1; have q3 := cell_low hSw hl2 n2; have q4 := hLk _ hSw; clear hSw; go_simp; try with_reducible rfl)
  try simp only [Act.put, List.setIfInBounds_toArray, List.set_cons_zero, List.set_cons_succ]
  refine wpAnyH_take (i := 2) (oi := _) (v := ?_) (by rw [List.getElem?_toArray]; exact rfl) (by kernel_rfl) (by kernel_rfl) (by kernel_rfl) (by exact fun _ _ _ h => h) (Or.inl ⟨by rfl, ?_⟩) hHeld ?_
  rotate_left
  · (intro w hSw; have q1 := cell_low hSw hl1 c1; have q2 := cell_low hSw hl2 n1; have q3 := cell_low hSw hl2 n2; have q4 := hLk _ hSw; clear hSw; go_simp; try with_reducible rfl)
  try simp only [Act.put, List.setIfInBounds_toArray, List.set_cons_zero, List.set_cons_succ]
  refine wpAnyH_take (i := 3) (oi := _) (v := ?_) (by rw [List.getElem?_toArray]; exact rfl) (by kernel_rfl) (by kernel_rfl) (by kernel_rfl) (by exact fun _ _ _ h => h) (Or.inl ⟨by rfl, ?_⟩) hHeld ?_
  rotate_left
  · (intro w hSw; have q1 := cell_low hSw hl1 c1; have q2 := cell_low hSw hl2 n1; have q3 := cell_low hSw hl2 n2; have q4 := hLk _ hSw; clear hSw; go_simp; try with_reducible rfl)
  try simp only [Act.put, List.setIfInBounds_toArray, List.set_cons_zero, List.set_cons_succ]
  refine wpAnyH_take (i := 4) (oi := _) (v := ?_) (by rw [List.getElem?_toArray]; exact rfl) (by kernel_rfl) (by kernel_rfl) (by kernel_rfl) (by exact fun _ _ _ h => h) (Or.inl ⟨by rfl, ?_⟩) hHeld ?_
  rotate_left
  · (intro w hSw; have q1 := cell_low hSw hl1 c1; have q2 := cell_low hSw hl2 n1; have q3 := cell_low hSw hl2 n2; have q4 := hLk _ hSw; clear hSw; go_simp; try with_reducible rfl)
  try simp only [Act.put, List.setIfInBounds_toArray, List.set_cons_zero, List.set_cons_succ]
  refine wpAnyH_take (i := 5) (oi := _) (v := ?_) (by rw [List.getElem?_toArray]; exact rfl) (by kernel_rfl) (by kernel_rfl) (by kernel_rfl) (by exact fun _ _ _ h => h) (Or.inl ⟨by rfl, ?_⟩) hHeld ?_
  rotate_left
  · (intro w hSw; have q1 := cell_low hSw hl1 c1; have q2 := cell_low hSw hl2 n1; have q3 := cell_low hSw hl2 n2; have q4 := hLk _ hSw; clear hSw; go_simp; try with_reducible rfl)
  try simp only [Act.put, List.setIfInBounds_toArray, List.set_cons_zero, List.set_cons_succ]
  refine wpAnyH_take (i := 6) (oi := _) (v := ?_) (by rw [List.getElem?_toArray]; exact rfl) (by kernel_rfl) (by kernel_rfl) (by kernel_rfl) (by exact fun _ _ _ h => h) (Or.inl ⟨by rfl, ?_⟩) hHeld ?_
  rotate_left
  · (intro w hSw; have q1 := cell_low hSw hl1 c1; have q2 := cell_low hSw hl2 n1; have q3 := cell_low hSw hl2 n2; have q4 := hLk _ hSw; clear hSw; go_simp; try with_reducible rfl)
  try simp only [Act.put, List.setIfInBounds_toArray, List.set_cons_zero, List.set_cons_succ]
  refine wpAnyH_take (i := 7) (oi := _) (v := ?_) (by rw [List.getElem?_toArray]; exact rfl) (by kernel_rfl) (by kernel_rfl) (by kernel_rfl) (by exact fun _ _ _ h => h) (Or.inl ⟨by rfl, ?_⟩) hHeld ?_
  rotate_left
  · (intro w hSw; have q1 := cell_low hSw hl1 c1; have q2 := cell_low hSw hl2 n1; have q3 := cell_low hSw hl2 n2; have q4 := hLk _ hSw; clear hSw; go_simp; try with_reducible rfl)
  try simp only [Act.put, List.setIfInBounds_toArray, List.set_cons_zero, List.set_cons_succ]
  refine wpAnyH_take (i := 8) (oi := _) (v := ?_) (by rw [List.getElem?_toArray]; exact rfl) (by kernel_rfl) (by kernel_rfl) (by kernel_rfl) (by exact fun _ _ _ h => h) (Or.inl ⟨by rfl, ?_⟩) hHeld ?_
  rotate_left
  · (intro w hSw; have q1 := cell_low hSw hl1 c1; have q2 := cell_low hSw hl2 n1; have q3 := cell_low hSw hl2 n2; have q4 := hLk _ hSw; clear hSw; go_simp; try with_reducible rfl)
  try simp only [Act.put, List.setIfInBounds_toArray, List.set_cons_zero, List.set_cons_succ]
  refine wpAnyH_take (i := 9) (oi := _) (v := ?_) (by rw [List.getElem?_toArray]; exact rfl) (by kernel_rfl) (by kernel_rfl) (by kernel_rfl) (by exact fun _ _ _ h => h) (Or.inl ⟨by rfl, ?_⟩) hHeld ?_
  rotate_left
  · (intro w hSw; have q1 := cell_low hSw hl1 c1; have q2 := cell_low hSw hl2 n1; have q3 := cell_low hSw hl2 n2; have q4 := hLk _ hSw; clear hSw; go_simp; try with_reducible rfl)
  try simp only [Act.put, List.setIfInBounds_toArray, List.set_cons_zero, List.set_cons_succ]
  refine wpAnyH_ready (rs := [10]) (by kernel_rfl) (by simp) ?_
  refine AllReadyH.cons (o := _) (by rw [List.getElem?_toArray]; exact rfl) (fun K hK => ?_) ?_
  rotate_left
  · exact AllReadyH.nil
  go_simp
  refine hK.out _ _ (((Below.refl _ _).alloc (Nat.le_refl _) _).drew) (fun hHeld => ?_)
  clear hK K
  try simp only [Act.put, List.setIfInBounds_toArray, List.set_cons_zero, List.set_cons_succ]
  refine wpAnyH_ready (rs := [11]) (by kernel_rfl) (by simp) ?_
  refine AllReadyH.cons (o := _) (by rw [List.getElem?_toArray]; exact rfl) (fun K hK => ?_) ?_
  rotate_left
  · exact AllReadyH.nil
  go_simp
  refine hK.out _ _ (((Below.refl _ _).alloc (Nat.le_refl _) _).drew) (fun hHeld => ?_)
  clear hK K
  try simp only [Act.put, List.setIfInBounds_toArray, List.set_cons_zero, List.set_cons_succ]
  refine wpAnyH_take (i := 12) (oi := _) (v := ?_) (by rw [List.getElem?_toArray]; exact rfl) (by kernel_rfl) (by kernel_rfl) (by kernel_rfl) (by exact fun _ _ _ h => h) (Or.inl ⟨by rfl, ?_⟩) hHeld ?_
  rotate_left
  · (intro w hSw; have q1 := cell_low hSw hl1 c1; have q2 := cell_low hSw hl2 n1; have q3 := cell_low hSw hl2 n2; have q4 := hLk _ hSw; clear hSw; go_simp; try with_reducible rfl)
  try simp only [Act.put, List.setIfInBounds_toArray, List.set_cons_zero, List.set_cons_succ]
  refine wpAnyH_done (by kernel_rfl) ?_ _
  have hB2 := HA.out.trans (hHeld.mono (by omega))
  have HL2 := Lib.hid (HL.out.below hHeld)
  replace n1 := cell_low hHeld hl2 n1
  replace n2 := cell_low hHeld hl2 n2
  replace n3 := cell_low hHeld hl2 n3
  replace n4 := cell_low hHeld hl2 n4
  replace n5 := cell_low hHeld hl2 n5
  have hnew : (wq.alloc (.cells #[.int .u64 (ofE l x.1).1.1, .string (ofE l x.1).1.2, .int .i64 (ofE l x.1).2.1, .int .i64 (ofE l x.1).2.2.1, .int .i64 (ofE l x.1).2.2.2] 38)).drew.heap[w.heap.size + 1]? = some (.cells #[.int .u64 (ofE l x.1).1.1, .string (ofE l x.1).1.2, .int .i64 (ofE l x.1).2.1, .int .i64 (ofE l x.1).2.2.1, .int .i64 (ofE l x.1).2.2.2] 38) := by
    have := heap_alloc_new wq (.cells #[.int .u64 (ofE l x.1).1.1, .string (ofE l x.1).1.2, .int .i64 (ofE l x.1).2.1, .int .i64 (ofE l x.1).2.2.1, .int .i64 (ofE l x.1).2.2.2] 38)
    rw [hszz] at this
    exact this
  have hszq : (wq.alloc (.cells #[.int .u64 (ofE l x.1).1.1, .string (ofE l x.1).1.2, .int .i64 (ofE l x.1).2.1, .int .i64 (ofE l x.1).2.2.1, .int .i64 (ofE l x.1).2.2.2] 38)).drew.heap.size = w.heap.size + 2 := by simp; omega
  have HB2 := Lib.hid hB2
  clear hHeld hB2 hLk c1 HL HA hl1 hl2
  generalize (wq.alloc (.cells #[.int .u64 (ofE l x.1).1.1, .string (ofE l x.1).1.2, .int .i64 (ofE l x.1).2.1, .int .i64 (ofE l x.1).2.2.1, .int .i64 (ofE l x.1).2.2.2] 38)).drew = wz at *
  have hcn : ∀ o, wz.cell? ⟨w.heap.size + 1, o, none⟩ = #[Value.int .u64 (ofE l x.1).1.1, .string (ofE l x.1).1.2, .int .i64 (ofE l x.1).2.1, .int .i64 (ofE l x.1).2.2.1, .int .i64 (ofE l x.1).2.2.2][o]? := fun o => by simp [World.cell?, hnew]
  have x0 := hcn 0; have x1 := hcn 1; have x2 := hcn 2; have x3 := hcn 3; have x4 := hcn 4
  simp only [List.getElem?_toArray, List.getElem?_cons_zero, List.getElem?_cons_succ] at x0 x1 x2 x3 x4
  clear hcn hnew
  go_wp2_with fail
  refine (may_any x.1.2 _ hs).mono ?_
  rintro e w3 ⟨rfl, hB⟩
  have HL3 := Lib.hid (HL2.out.below hB)
  have HB3 := Lib.hid (HB2.out.trans (hB.mono HB2.out.size))
  replace n1 := cell_keep hB n1; replace n2 := cell_keep hB n2; replace n3 := cell_keep hB n3; replace n4 := cell_keep hB n4; replace n5 := cell_keep hB n5
  replace x0 := cell_keep hB x0; replace x1 := cell_keep hB x1; replace x2 := cell_keep hB x2; replace x3 := cell_keep hB x3; replace x4 := cell_keep hB x4
  clear hB HL2 HB2 hszz hszq
  by_cases hgood : mayS x.1.2 = true ∧ ¬ x.2.1 < 0 ∧ ¬ 16 < x.2.1 ∧ (x.2.1 ≤ 0 ∨ (0 < x.2.1 ∧ ¬ 12 ≤ x.1.2.size))
  · obtain ⟨hm, k1, k2, k3⟩ := hgood
    rw [hm]
    rcases k3 with k3 | ⟨k3, k4⟩
    all_goals
      have hb : badX x = false := by unfold badX; rw [hm]; simp; omega
      have HBX := Lib.hid hb
      clear hb hm
      cases hg : getL l x.1 with
      | some old =>
        have hkey : old.1 = x.1 := HL3.out.key (x.1, old) (getL_memE hg)
        have hof : ofE l x.1 = old := by unfold ofE; rw [hg]; rfl
        rw [hof] at x0 x1 x2 x3 x4
        simp only [Option.isSome_some]
        clear hof
        rcases ent_cases hkey with heq | ⟨hne, d1⟩ | ⟨hne, d1, d2⟩ | ⟨hne, d1, d2, d3⟩
        · have hE := Lib.hid (show cmA l most x = (false, 0) by unfold cmA; rw [HBX.out, hg]; simp [heq])
          have HC := Lib.hid (Cmd.no (by rw [hE.out]) HL3.out HB3.out)
          subst heq
          clear hg hkey
          go_wp2_with fail
          go_ret2
          exact ⟨cm_end hE.out, HC.out⟩
        all_goals
          have hE := Lib.hid (show cmA l most x = (false, 240) by unfold cmA; rw [HBX.out, hg]; simp [hne])
          have HC := Lib.hid (Cmd.no (by rw [hE.out]) HL3.out HB3.out)
          rw [hkey] at x0 x1
          clear hg hkey hne
          go_wp2_with fail
          go_ret2
          exact ⟨cm_end hE.out, HC.out⟩
      | none =>
        simp only [Option.isSome_none]
        have HG := Lib.hid hg
        clear hg x0 x1 x2 x3 x4
        have hln := fun q ty => (HL3.out.map.block (w' := w3.drewN q) rfl).len (P := Try.prog) (k := 25) Try.underlying48 ty
        have hln0 := fun ty => HL3.out.map.len (P := Try.prog) (k := 25) Try.underlying48 ty
        have c0 := HL3.out.c0
        have c1 := HL3.out.c1
        by_cases hfull : most ≤ (l.length : Int)
        · have hE := Lib.hid (show cmA l most x = (false, 6) by unfold cmA; rw [HBX.out, HG.out]; simp [hfull])
          go_wp2_with fail
          go_quiet (fail)
          have HC := Lib.hid (Cmd.no (by rw [hE.out]) (HL3.out.below (below_drewN (Below.refl _ _) nq)) (below_drewN HB3.out nq))
          go_wp2_with fail
          go_ret2
          exact ⟨cm_end hE.out, HC.out⟩
        · have hE := Lib.hid (show cmA l most x = (true, 0) by unfold cmA; rw [HBX.out, HG.out]; simp [hfull])
          go_wp2_with fail
          go_quiet (fail)
          go_wp2_with fail
          have HL4 := Lib.hid (HL3.out.below (below_drewN (Below.refl _ _) nq))
          have HB4 := Lib.hid (below_drewN HB3.out nq)
          replace n1 : (w3.drewN nq).cell? ⟨w.heap.size, 0, none⟩ = some (.int .u64 x.1.1) := by simpa using n1
          replace n2 : (w3.drewN nq).cell? ⟨w.heap.size, 1, none⟩ = some (.string x.1.2) := by simpa using n2
          replace n3 : (w3.drewN nq).cell? ⟨w.heap.size, 2, none⟩ = some (.int .i64 x.2.1) := by simpa using n3
          replace n4 : (w3.drewN nq).cell? ⟨w.heap.size, 3, none⟩ = some (.int .i64 x.2.2.1) := by simpa using n4
          replace n5 : (w3.drewN nq).cell? ⟨w.heap.size, 4, none⟩ = some (.int .i64 x.2.2.2) := by simpa using n5
          clear c0 c1 hln hln0 HL3 HB3
          have c1 := HL4.out.c1
          generalize w3.drewN nq = wv at *
          obtain ⟨w4, hrun, hM, hO⟩ := HL4.out.drew.map.update nameTy Try.underlying48 x.1 x
          unfold encN evE at hrun
          have HC : Hid (Cmd f m most l x w w4) := Lib.hid (by
            unfold Cmd cmL
            rw [hE.out]
            exact ⟨HL4.out.drew.onMap hO hM (putL_key HL4.out.key), (((Fr.of_below HB4.out).drew).only hO (.inr rfl))⟩)
          clear hM hO HL4 HB4
          go_region
          all_goals
            go_wp2_with fail
            go_ret2
            exact ⟨cm_end hE.out, HC.out⟩
  · cases hm : mayS x.1.2
    · have hE := Lib.hid (show cmA l most x = (false, 2) by unfold cmA; rw [if_pos (show badX x = true by simp [badX, hm])])
      have HC := Lib.hid (Cmd.no (by rw [hE.out]) HL3.out HB3.out)
      go_wp2_with fail
      go_ret2
      exact ⟨cm_end hE.out, HC.out⟩
    · by_cases k1 : x.2.1 < 0
      · have hE := Lib.hid (show cmA l most x = (false, 2) by unfold cmA; rw [if_pos (show badX x = true by simp [badX, k1])])
        have HC := Lib.hid (Cmd.no (by rw [hE.out]) HL3.out HB3.out)
        go_wp2_with fail
        go_ret2
        exact ⟨cm_end hE.out, HC.out⟩
      · by_cases k2 : 16 < x.2.1
        · have hE := Lib.hid (show cmA l most x = (false, 2) by unfold cmA; rw [if_pos (show badX x = true by simp [badX, k2])])
          have HC := Lib.hid (Cmd.no (by rw [hE.out]) HL3.out HB3.out)
          go_wp2_with fail
          go_ret2
          exact ⟨cm_end hE.out, HC.out⟩
        · have k3 : 0 < x.2.1 ∧ 12 ≤ x.1.2.size := by
            by_cases a : 0 < x.2.1
            · refine ⟨a, Classical.byContradiction fun e => hgood ⟨hm, k1, k2, .inr ⟨a, e⟩⟩⟩
            · exact absurd ⟨hm, k1, k2, .inl (by omega)⟩ hgood
          obtain ⟨k3, k4⟩ := k3
          have hE := Lib.hid (show cmA l most x = (false, 2) by unfold cmA; rw [if_pos (show badX x = true by simp [badX, k3, k4])])
          have HC := Lib.hid (Cmd.no (by rw [hE.out]) HL3.out HB3.out)
          go_wp2_with fail
          go_ret2
          exact ⟨cm_end hE.out, HC.out⟩
end Go.Proofs.Ytibfcoaiodmimaa
