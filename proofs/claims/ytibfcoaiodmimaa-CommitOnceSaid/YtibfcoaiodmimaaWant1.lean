/- What is wanted: the iterator. -/
import Derived.Test.YtibfcoaiodmimaaRange
import Derived.Test.YtibfcoaiodmimaaLed2
import Derived.Deep.LoopGhost
import Derived.RangeFuncNested
import Derived.RangeFuncBound
import Derived.RangeFuncCalls
import Derived.Shelf.Abstract
import Derived.Shelf.RegionOpen
import Derived.OwnWalkIn
import Derived.TacticsInMore
import Derived.LoopNIn
import Derived.LoopIn
namespace Go.Proofs.Ytibfcoaiodmimaa
open Go.RowKit Go.Sort Go.Lib Go.Shelf
attribute [local go_sem] Oper.semAt_some

def wantP (l : List (Nm × Ent)) (job : Int) : Nat → ByteArray → List ByteArray
  | 0, p => [p]
  | k + 1, p => match getL l (job, p) with
    | none => [p]
    | some x => (List.range x.2.1.toNat).flatMap (fun i => wantP l job k (kidS p (i + 1 : Nat)))

def madeW (f : Nat) (job : Int) (p : ByteArray) (w : World) : World := ((w.alloc (.cells #[.pointer (some ⟨f, 0, none⟩)] 28)).alloc (.cells #[.int .u64 job] 23)).alloc (.cells #[.string p] 9)
theorem made_third (f : Nat) (job : Int) (p : ByteArray) (w : World) : (madeW f job p w).cell? ⟨w.heap.size + 2, 0, none⟩ = some (.string p) := by
  unfold madeW
  have h := heap_alloc_new ((w.alloc (.cells #[.pointer (some ⟨f, 0, none⟩)] 28)).alloc (.cells #[.int .u64 job] 23)) (.cells #[.string p] 9)
  have hs : ((w.alloc (.cells #[.pointer (some ⟨f, 0, none⟩)] 28)).alloc (.cells #[.int .u64 job] 23)).heap.size = w.heap.size + 2 := by simp
  rw [hs] at h
  simp only [World.cell?]
  rw [h]
  rfl
set_option maxHeartbeats 400000 in
theorem wants_make (f : Nat) (job : Int) (p : ByteArray) (w : World) : Calls Try.prog 20 #[.pointer (some ⟨f, 0, none⟩), .int .u64 job, .string p] w fun e w' =>
    e = .returned (.func (.func 31) #[] #[.pointer (some ⟨w.heap.size, 0, none⟩), .pointer (some ⟨w.heap.size + 1, 0, none⟩), .pointer (some ⟨w.heap.size + 2, 0, none⟩)]) ∧ w' = madeW f job p w := by
  have hmf : ∀ (fn : Fn) (first cap : Array Value) (w : World), (Instr.makeFunc fn first cap).run Try.prog w = .ok (.func fn first cap) w := fun _ _ _ _ => rfl
  go_enter Try.func20, Try.ntmps20
  go_wp2_with fail
  go_ret
  exact ⟨rfl, rfl⟩
def postM (P : Program) (fn : Func) (R : Ending → World → Prop) : Exit → Act → World → Prop
  | .normal, a, w => LeavesInM Fence.wide 0 P fn a.tmps R a.defers .returning w
  | .ret, a, w => LeavesInM Fence.wide 0 P fn a.tmps R a.defers .returning w
  | _, _, _ => False
theorem calls_marks {P : Program} {f : FuncId} {fn : Func} {c : Code} {args : Array Value} {w : World} {R : Ending → World → Prop} (hf : P.funcs[f]? = some fn) (hb : fn.body = some c)
    (h : c.wp P (postM P fn R) { tmps := args ++ Array.replicate (fn.ntmps - args.size) undef, defers := [] } w) : Calls P f args w R := by
  refine callsIn_wide.1 (callsIn_of_wp_marks (n := 0) hf hb trivial (wpIn_wide.2 (wp_mono h ?_)) rfl)
  intro e a w hq
  cases e <;> first | exact hq | exact hq.elim
theorem wantP_none {l : List (Nm × Ent)} {job : Int} {p : ByteArray} (h : getL l (job, p) = none) : ∀ k, wantP l job k p = [p]
  | 0 => rfl
  | k + 1 => by rw [wantP, h]
theorem below_grown {w w' : World} (h : Below w.heap.size w w') : w.grownBy w' none := ⟨h.os, h.tape, h.output, h.size, fun k hk _ => h.block k hk⟩
theorem Abide.from {α : Type} {B : Nat} {Φ : World → Nat → Prop} {J : List α → World → Prop} (h : Abide B Φ J) (acc : List α) (w6 : World) (hB : B ≤ w6.heap.size) : Abide w6.heap.size Φ (fun pre W' => J (acc ++ pre) W' ∧ Free Φ w6 W') :=
  ⟨fun s A C row hs hg hr => ⟨(h.mono hB).own (acc ++ s) A C row hs.1 hg hr,
      ⟨⟨hg.os.trans hs.2.fr.os, hg.tape.trans hs.2.fr.tape, hg.output.trans hs.2.fr.output, Nat.le_trans hs.2.fr.size hg.size, fun i hi hp => (hg.block i (Nat.lt_of_lt_of_le hi hs.2.fr.size) (fun e => by have := (hr _ e.symm).1; omega)).trans (hs.2.fr.block i hi hp)⟩,
       fun j hj e => hs.2.stay j hj ((h.mono hB).turn (acc ++ s) A C row hs.1 hg hr j e)⟩⟩,
   fun s A C row hs hg hr => (h.mono hB).turn (acc ++ s) A C row hs.1 hg hr, fun s A j hs hp => h.cells (acc ++ s) A j hs.1 hp⟩
/-- All that a ledger takes in. -/
def GoodL (l : List (Nm × Ent)) : Prop := ∀ p ∈ l, badX p.2 = false
theorem good_ent {x : Ent} (h : badX x = false) : 0 ≤ x.2.1 ∧ x.2.1 ≤ 16 ∧ x.1.2.size ≤ 12 ∧ mayS x.1.2 = true ∧ (0 < x.2.1 → x.1.2.size < 12) := by
  simp only [badX, Bool.or_eq_false_iff, Bool.not_eq_false', decide_eq_false_iff_not, Bool.and_eq_false_iff] at h
  obtain ⟨h1, h2, h3, h4⟩ := h
  exact ⟨by omega, by omega, mayS_le h1, h1, fun hp => by rcases h4 with h4 | h4 <;> omega⟩
theorem kid_ok {p : ByteArray} {n : Int} (h1 : mayS p = true) (h2 : 1 ≤ n) (h3 : n ≤ 16) (h4 : p.size < 12) : kidB p n = true := by
  have : ¬ p.size = 12 := by omega
  simp [kidB, h1, h2, h3, this]
theorem kidS_size {p : ByteArray} {n : Int} (h : kidB p n = true) : (kidS p n).size = p.size + 1 := by
  unfold kidS; rw [h]
  show (p.data ++ #[UInt8.ofNat n.toNat]).size = p.data.size + 1
  rw [Array.size_append]; rfl
theorem flat_prefix {α : Type} (gf : Nat → List α) {i N : Nat} (h : i < N) : ∃ rest, (List.range N).flatMap gf = (List.range i).flatMap gf ++ (gf i ++ rest) := by
  induction N with
  | zero => omega
  | succ N ih =>
    rw [List.range_succ, List.flatMap_append]
    by_cases hi : i < N
    · obtain ⟨r, hr⟩ := ih hi
      exact ⟨r ++ [N].flatMap gf, by rw [hr]; simp [List.append_assoc]⟩
    · obtain rfl : i = N := by omega
      exact ⟨[], by simp⟩
set_option maxHeartbeats 3200000 in
set_option maxRecDepth 100000 in
theorem wants_seq (f m : Nat) (most : Int) (l : List (Nm × Ent)) (HKX : GoodL l) (job : Int) (k : Nat) : ∀ (p : ByteArray) (n b1 b2 b3 : Nat) (w : World), 13 ≤ p.size + k → Led w f m most l → w.cell? ⟨b1, 0, none⟩ = some (.pointer (some ⟨f, 0, none⟩)) → w.cell? ⟨b2, 0, none⟩ = some (.int .u64 job) → w.cell? ⟨b3, 0, none⟩ = some (.string p) →
    SeqW Fence.wide n Try.prog 31 #[.pointer (some ⟨b1, 0, none⟩), .pointer (some ⟨b2, 0, none⟩), .pointer (some ⟨b3, 0, none⟩)] (fun s : ByteArray => #[Value.string s]) [b1, b2, b3, f, m] (wantP l job k p) w := by
  induction k using Nat.strongRecOn with
  | ind k ih =>
    intro p n b1 b2 b3 w hpk hL h1 h2 h3 ly Φ J W hB hA hbs hY h0
    have HPK := Lib.hid hpk
    clear hpk
    have HB0 : Hid (Below W.heap.size W (W.alloc (.cells #[.func (.yield ly) #[] #[]] 51))) := (Below.refl _ _).alloc (Nat.le_refl _) _
    have HL := Lib.hid ((hL.below hB).below HB0.out)
    have c1 := cell_keep HB0.out ((hB.cell (p := ⟨b1, 0, none⟩) (World.block_lt_of_cell? _ _ h1)).trans h1)
    have c2 := cell_keep HB0.out ((hB.cell (p := ⟨b2, 0, none⟩) (World.block_lt_of_cell? _ _ h2)).trans h2)
    have c3 := cell_keep HB0.out ((hB.cell (p := ⟨b3, 0, none⟩) (World.block_lt_of_cell? _ _ h3)).trans h3)
    have d1 := HL.out.c1
    have y0 : (W.alloc (.cells #[.func (.yield ly) #[] #[]] 51)).cell? ⟨W.heap.size, 0, none⟩ = some (.func (.yield ly) #[] #[]) := by simp
    have hszq : (W.alloc (.cells #[.func (.yield ly) #[] #[]] 51)).heap.size = W.heap.size + 1 := by simp
    have K1 := Lib.hid (Nat.lt_of_lt_of_le (World.block_lt_of_cell? _ _ h1) hB.size)
    have K2 := Lib.hid (Nat.lt_of_lt_of_le (World.block_lt_of_cell? _ _ h2) hB.size)
    have K3 := Lib.hid (Nat.lt_of_lt_of_le (World.block_lt_of_cell? _ _ h3) hB.size)
    have KF := Lib.hid (Nat.lt_of_lt_of_le hL.lt.1 hB.size)
    have KM := Lib.hid (Nat.lt_of_lt_of_le hL.lt.2.1 hB.size)
    have HA := Lib.hid hA
    have HBS := Lib.hid hbs
    have HY := Lib.hid hY
    have HJ0 := Lib.hid h0
    clear hL h1 h2 h3 hB hA hbs hY h0
    refine callsIn_wide.2 ?_
    show Calls _ _ #[.func (.yield ly) #[] #[], .pointer (some ⟨b1, 0, none⟩), .pointer (some ⟨b2, 0, none⟩), .pointer (some ⟨b3, 0, none⟩)] _ _
    refine calls_marks Try.func31 rfl ?_
    simp only [Try.ntmps31, List.size_toArray, List.length_cons, List.length_nil, Nat.reduceAdd, Nat.reduceSub, Array.replicate_succ, Array.replicate_zero, List.push_toArray, List.append_toArray, List.nil_append, List.cons_append]
    go_upto_region 1 with fail
    have hLk : ∀ y, Below (W.alloc (.cells #[.func (.yield ly) #[] #[]] 51)).heap.size (W.alloc (.cells #[.func (.yield ly) #[] #[]] 51)) y → (Instr.lookup 48 (.map (some m)) (.agg #[.int .u64 job, .string p]) true).run Try.prog y = .ok (.tuple #[.agg #[.int .u64 (ofE l (job, p)).1.1, .string (ofE l (job, p)).1.2, .int .i64 (ofE l (job, p)).2.1, .int .i64 (ofE l (job, p)).2.2.1, .int .i64 (ofE l (job, p)).2.2.2], .bool (getL l (job, p)).isSome]) y := fun y hy => by
      have := HL.out.look_at (x := y) (hy.block m HL.out.lt.2.1) (job, p)
      unfold evE at this
      exact this
    have hl1 : b1 < (W.alloc (.cells #[.func (.yield ly) #[] #[]] 51)).heap.size := World.block_lt_of_cell? _ _ c1
    have hl2 : b2 < (W.alloc (.cells #[.func (.yield ly) #[] #[]] 51)).heap.size := World.block_lt_of_cell? _ _ c2
    have hl3 : b3 < (W.alloc (.cells #[.func (.yield ly) #[] #[]] 51)).heap.size := World.block_lt_of_cell? _ _ c3
    generalize W.alloc (.cells #[.func (.yield ly) #[] #[]] 51) = wq at *
    refine wp_region_held_drew (S := fun x => Below wq.heap.size wq x) (by kernel_rfl) ((Below.refl _ _).drew) (fun hHeld => ?_)
    refine wpAnyH_take (i := 0) (oi := _) (v := ?_) (by rw [List.getElem?_toArray]; exact rfl) (by kernel_rfl) (by kernel_rfl) (by kernel_rfl) (by exact fun _ _ _ h => h) (Or.inl ⟨by rfl, ?_⟩) hHeld ?_
    rotate_left
    · (intro w hSw; have q1 := cell_low hSw hl1 c1; have q2 := cell_low hSw hl2 c2; have q3 := cell_low hSw hl3 c3; have q5 := cell_low hSw HL.out.lt.1 d1; have q4 := hLk _ hSw; clear hSw; go_simp; try with_reducible rfl)
    try simp only [Act.put, List.setIfInBounds_toArray, List.set_cons_zero, List.set_cons_succ]
    refine wpAnyH_take (i := 1) (oi := _) (v := ?_) (by rw [List.getElem?_toArray]; exact rfl) (by kernel_rfl) (by kernel_rfl) (by kernel_rfl) (by exact fun _ _ _ h => h) (Or.inl ⟨by rfl, ?_⟩) hHeld ?_
    rotate_left
    · (intro w hSw; have q1 := cell_low hSw hl1 c1; have q2 := cell_low hSw hl2 c2; have q3 := cell_low hSw hl3 c3; have q5 := cell_low hSw HL.out.lt.1 d1; have q4 := hLk _ hSw; clear hSw; go_simp; try with_reducible rfl)
    try simp only [Act.put, List.setIfInBounds_toArray, List.set_cons_zero, List.set_cons_succ]
    refine wpAnyH_take (i := 2) (oi := _) (v := ?_) (by rw [List.getElem?_toArray]; exact rfl) (by kernel_rfl) (by kernel_rfl) (by kernel_rfl) (by exact fun _ _ _ h => h) (Or.inl ⟨by rfl, ?_⟩) hHeld ?_
    rotate_left
    · (intro w hSw; have q1 := cell_low hSw hl1 c1; have q2 := cell_low hSw hl2 c2; have q3 := cell_low hSw hl3 c3; have q5 := cell_low hSw HL.out.lt.1 d1; have q4 := hLk _ hSw; clear hSw; go_simp; try with_reducible rfl)
    try simp only [Act.put, List.setIfInBounds_toArray, List.set_cons_zero, List.set_cons_succ]
    refine wpAnyH_take (i := 3) (oi := _) (v := ?_) (by rw [List.getElem?_toArray]; exact rfl) (by kernel_rfl) (by kernel_rfl) (by kernel_rfl) (by exact fun _ _ _ h => h) (Or.inl ⟨by rfl, ?_⟩) hHeld ?_
    rotate_left
    · (intro w hSw; have q1 := cell_low hSw hl1 c1; have q2 := cell_low hSw hl2 c2; have q3 := cell_low hSw hl3 c3; have q5 := cell_low hSw HL.out.lt.1 d1; have q4 := hLk _ hSw; clear hSw; go_simp; try with_reducible rfl)
    try simp only [Act.put, List.setIfInBounds_toArray, List.set_cons_zero, List.set_cons_succ]
    refine wpAnyH_take (i := 4) (oi := _) (v := ?_) (by rw [List.getElem?_toArray]; exact rfl) (by kernel_rfl) (by kernel_rfl) (by kernel_rfl) (by exact fun _ _ _ h => h) (Or.inl ⟨by rfl, ?_⟩) hHeld ?_
    rotate_left
    · (intro w hSw; have q1 := cell_low hSw hl1 c1; have q2 := cell_low hSw hl2 c2; have q3 := cell_low hSw hl3 c3; have q5 := cell_low hSw HL.out.lt.1 d1; have q4 := hLk _ hSw; clear hSw; go_simp; try with_reducible rfl)
    try simp only [Act.put, List.setIfInBounds_toArray, List.set_cons_zero, List.set_cons_succ]
    refine wpAnyH_take (i := 5) (oi := _) (v := ?_) (by rw [List.getElem?_toArray]; exact rfl) (by kernel_rfl) (by kernel_rfl) (by kernel_rfl) (by exact fun _ _ _ h => h) (Or.inl ⟨by rfl, ?_⟩) hHeld ?_
    rotate_left
    · (intro w hSw; have q1 := cell_low hSw hl1 c1; have q2 := cell_low hSw hl2 c2; have q3 := cell_low hSw hl3 c3; have q5 := cell_low hSw HL.out.lt.1 d1; have q4 := hLk _ hSw; clear hSw; go_simp; try with_reducible rfl)
    try simp only [Act.put, List.setIfInBounds_toArray, List.set_cons_zero, List.set_cons_succ]
    refine wpAnyH_take (i := 6) (oi := _) (v := ?_) (by rw [List.getElem?_toArray]; exact rfl) (by kernel_rfl) (by kernel_rfl) (by kernel_rfl) (by exact fun _ _ _ h => h) (Or.inl ⟨by rfl, ?_⟩) hHeld ?_
    rotate_left
    · (intro w hSw; have q1 := cell_low hSw hl1 c1; have q2 := cell_low hSw hl2 c2; have q3 := cell_low hSw hl3 c3; have q5 := cell_low hSw HL.out.lt.1 d1; have q4 := hLk _ hSw; clear hSw; go_simp; try with_reducible rfl)
    try simp only [Act.put, List.setIfInBounds_toArray, List.set_cons_zero, List.set_cons_succ]
    refine wpAnyH_take (i := 7) (oi := _) (v := ?_) (by rw [List.getElem?_toArray]; exact rfl) (by kernel_rfl) (by kernel_rfl) (by kernel_rfl) (by exact fun _ _ _ h => h) (Or.inl ⟨by rfl, ?_⟩) hHeld ?_
    rotate_left
    · (intro w hSw; have q1 := cell_low hSw hl1 c1; have q2 := cell_low hSw hl2 c2; have q3 := cell_low hSw hl3 c3; have q5 := cell_low hSw HL.out.lt.1 d1; have q4 := hLk _ hSw; clear hSw; go_simp; try with_reducible rfl)
    try simp only [Act.put, List.setIfInBounds_toArray, List.set_cons_zero, List.set_cons_succ]
    refine wpAnyH_take (i := 8) (oi := _) (v := ?_) (by rw [List.getElem?_toArray]; exact rfl) (by kernel_rfl) (by kernel_rfl) (by kernel_rfl) (by exact fun _ _ _ h => h) (Or.inl ⟨by rfl, ?_⟩) hHeld ?_
    rotate_left
    · (intro w hSw; have q1 := cell_low hSw hl1 c1; have q2 := cell_low hSw hl2 c2; have q3 := cell_low hSw hl3 c3; have q5 := cell_low hSw HL.out.lt.1 d1; have q4 := hLk _ hSw; clear hSw; go_simp; try with_reducible rfl)
    try simp only [Act.put, List.setIfInBounds_toArray, List.set_cons_zero, List.set_cons_succ]
    refine wpAnyH_take (i := 9) (oi := _) (v := ?_) (by rw [List.getElem?_toArray]; exact rfl) (by kernel_rfl) (by kernel_rfl) (by kernel_rfl) (by exact fun _ _ _ h => h) (Or.inl ⟨by rfl, ?_⟩) hHeld ?_
    rotate_left
    · (intro w hSw; have q1 := cell_low hSw hl1 c1; have q2 := cell_low hSw hl2 c2; have q3 := cell_low hSw hl3 c3; have q5 := cell_low hSw HL.out.lt.1 d1; have q4 := hLk _ hSw; clear hSw; go_simp; try with_reducible rfl)
    try simp only [Act.put, List.setIfInBounds_toArray, List.set_cons_zero, List.set_cons_succ]
    refine wpAnyH_take (i := 10) (oi := _) (v := ?_) (by rw [List.getElem?_toArray]; exact rfl) (by kernel_rfl) (by kernel_rfl) (by kernel_rfl) (by exact fun _ _ _ h => h) (Or.inl ⟨by rfl, ?_⟩) hHeld ?_
    rotate_left
    · (intro w hSw; have q1 := cell_low hSw hl1 c1; have q2 := cell_low hSw hl2 c2; have q3 := cell_low hSw hl3 c3; have q5 := cell_low hSw HL.out.lt.1 d1; have q4 := hLk _ hSw; clear hSw; go_simp; try with_reducible rfl)
    try simp only [Act.put, List.setIfInBounds_toArray, List.set_cons_zero, List.set_cons_succ]
    refine wpAnyH_ready (rs := [11]) (by kernel_rfl) (by simp) ?_
    refine AllReadyH.cons (o := _) (by rw [List.getElem?_toArray]; exact rfl) (fun K hK => ?_) ?_
    rotate_left
    · exact AllReadyH.nil
    go_simp
    refine hK.out _ _ (((Below.refl _ _).alloc (Nat.le_refl _) _).drew) (fun hHeld => ?_)
    clear hK K
    try simp only [Act.put, List.setIfInBounds_toArray, List.set_cons_zero, List.set_cons_succ]
    refine wpAnyH_ready (rs := [12]) (by kernel_rfl) (by simp) ?_
    refine AllReadyH.cons (o := _) (by rw [List.getElem?_toArray]; exact rfl) (fun K hK => ?_) ?_
    rotate_left
    · exact AllReadyH.nil
    go_simp
    refine hK.out _ _ (((Below.refl _ _).alloc (Nat.le_refl _) _).drew) (fun hHeld => ?_)
    clear hK K
    try simp only [Act.put, List.setIfInBounds_toArray, List.set_cons_zero, List.set_cons_succ]
    refine wpAnyH_take (i := 13) (oi := _) (v := ?_) (by rw [List.getElem?_toArray]; exact rfl) (by kernel_rfl) (by kernel_rfl) (by kernel_rfl) (by exact fun _ _ _ h => h) (Or.inl ⟨by rfl, ?_⟩) hHeld ?_
    rotate_left
    · (intro w hSw; have q1 := cell_low hSw hl1 c1; have q2 := cell_low hSw hl2 c2; have q3 := cell_low hSw hl3 c3; have q5 := cell_low hSw HL.out.lt.1 d1; have q4 := hLk _ hSw; clear hSw; go_simp; try with_reducible rfl)
    try simp only [Act.put, List.setIfInBounds_toArray, List.set_cons_zero, List.set_cons_succ]
    refine wpAnyH_done (by kernel_rfl) ?_ _
    have HL2 := Lib.hid (HL.out.below hHeld)
    have HB2 := Lib.hid (HB0.out.trans (hHeld.mono (by omega)))
    replace c1 := cell_keep hHeld c1
    replace c2 := cell_keep hHeld c2
    replace c3 := cell_keep hHeld c3
    replace y0 := cell_keep hHeld y0
    have hnew : (wq.alloc (.cells #[.int .u64 (ofE l (job, p)).1.1, .string (ofE l (job, p)).1.2, .int .i64 (ofE l (job, p)).2.1, .int .i64 (ofE l (job, p)).2.2.1, .int .i64 (ofE l (job, p)).2.2.2] 38)).drew.heap[W.heap.size + 1]? = some (.cells #[.int .u64 (ofE l (job, p)).1.1, .string (ofE l (job, p)).1.2, .int .i64 (ofE l (job, p)).2.1, .int .i64 (ofE l (job, p)).2.2.1, .int .i64 (ofE l (job, p)).2.2.2] 38) := by
      have := heap_alloc_new wq (.cells #[.int .u64 (ofE l (job, p)).1.1, .string (ofE l (job, p)).1.2, .int .i64 (ofE l (job, p)).2.1, .int .i64 (ofE l (job, p)).2.2.1, .int .i64 (ofE l (job, p)).2.2.2] 38)
      rw [hszq] at this
      exact this
    clear hHeld hLk HL HB0 hl1 hl2 hl3 d1
    generalize (wq.alloc (.cells #[.int .u64 (ofE l (job, p)).1.1, .string (ofE l (job, p)).1.2, .int .i64 (ofE l (job, p)).2.1, .int .i64 (ofE l (job, p)).2.2.1, .int .i64 (ofE l (job, p)).2.2.2] 38)).drew = wz at *
    have x2 : wz.cell? ⟨W.heap.size + 1, 1 + 1, none⟩ = some (.int .i64 (ofE l (job, p)).2.1) := by simp [World.cell?, hnew]
    cases hg : getL l (job, p) with
    | none =>
      simp only [Option.isSome_none]
      have hw : wantP l job k p = [p] := wantP_none hg k
      rw [hw] at HY
      have HW := Lib.hid hw
      obtain ⟨hj0, hF0⟩ := HA.out.grow HJ0.out HB2.out
      have HF0 := Lib.hid hF0
      clear hF0
      obtain ⟨fn, tmps, assign, body, hy, hR⟩ := HY.out [] p wz hj0 (by simp)
      clear hg hw hnew x2 c1 c2
      go_upto_region 3 with fail
      refine (wpIn_wide (n := 3)).1 ?_
      gi_wp2
      have hR2 : RoundIn Fence.wide 2 Try.prog ly fn tmps assign body wz _ := ⟨hR.1, fun c cs _ => hR.2 c cs (room_wide _)⟩
      refine hR2.mono ?_
      rintro e W5 ⟨rfl, hJ5, hF5⟩
      clear hR hR2 hy HY
      gi_wp2
      go_wp2_with fail
      refine ⟨_, results_none rfl _ _ _, ⟨_, rfl⟩, ?_, HF0.out.trans hF5⟩
      rw [HW.out]; exact hJ5
    | some x =>
      simp only [Option.isSome_some]
      have hof : ofE l (job, p) = x := by unfold ofE; rw [hg]; rfl
      rw [hof] at x2
      have hxk : x.1 = (job, p) := HL2.out.key _ (getL_memE hg)
      have hx : Hid (0 ≤ x.2.1 ∧ x.2.1 ≤ 16 ∧ p.size ≤ 12 ∧ mayS p = true ∧ (0 < x.2.1 → p.size < 12)) := by have := good_ent (HKX _ (getL_memE hg)); rw [hxk] at this; exact this
      clear hxk
      obtain ⟨k', rfl⟩ : ∃ k', k = k' + 1 := ⟨k - 1, by have := hx.out.2.2.1; have := HPK.out; omega⟩
      have hw : wantP l job (k' + 1) p = (List.range x.2.1.toNat).flatMap (fun i => wantP l job k' (kidS p (i + 1 : Nat))) := by rw [wantP, hg]
      have HW := Lib.hid hw
      obtain ⟨hj0, hF0⟩ := HA.out.grow HJ0.out HB2.out
      have pf1 := Lib.hid (show ¬ Φ wz b1 from fun e => HBS.out b1 (by simp) (hF0.stay b1 K1.out e))
      have pf2 := Lib.hid (show ¬ Φ wz b2 from fun e => HBS.out b2 (by simp) (hF0.stay b2 K2.out e))
      have pf3 := Lib.hid (show ¬ Φ wz b3 from fun e => HBS.out b3 (by simp) (hF0.stay b3 K3.out e))
      have pff := Lib.hid (show ¬ Φ wz f from fun e => HBS.out f (by simp) (hF0.stay f KF.out e))
      have pfm := Lib.hid (show ¬ Φ wz m from fun e => HBS.out m (by simp) (hF0.stay m KM.out e))
      have pf0 := Lib.hid (HA.out.new HJ0.out HB2.out (Nat.le_refl _))
      have HF0 := Lib.hid hF0
      clear hF0
      have HJ1 := Lib.hid hj0
      obtain ⟨N, hN⟩ : ∃ N : Nat, x.2.1 = N := ⟨x.2.1.toNat, by have := hx.out.1; omega⟩
      rw [hN] at x2 HW
      clear hg hw hnew hof hj0
      go_wp2_with fail
      obtain ⟨gf, hgf⟩ : ∃ gf : Nat → List ByteArray, (fun i => wantP l job k' (kidS p (i + 1 : Nat))) = gf := ⟨_, rfl⟩
      rw [hgf, show ((N : Int).toNat) = N by omega] at HW
      rw [HW.out] at HY
      refine wp_loop_ghost_k (fun gk a W' => ∃ (u6 u7 u8 u9 u10 u11 u12 u13 u14 u15 u16 u17 u18 u19 u20 u21 u22 u23 u24 u25 u26 u27 u29 u30 u31 u32 u33 u34 u35 u36 u37 u38 u39 u40 u41 u42 u43 u44 u45 u46 u47 u48 : Value) (ds : List Deferred), (∃ (i0 : Nat) (Ds : List Nat), ds = Ds.map (fun D => { target := .collected D, args := #[] }) ∧ gk + i0 = N ∧ u29 = .int .i64 i0 ∧ J ((List.range i0).flatMap gf) W' ∧ Free Φ wz W' ∧ Ds.Nodup ∧ ∀ D ∈ Ds, wz.heap.size ≤ D ∧ W'.heap[D]? = some (.deferred (some []))) ∧ a = { tmps := #[.func (.yield ly) #[] #[], .pointer (some ⟨b1, 0, none⟩), .pointer (some ⟨b2, 0, none⟩), .pointer (some ⟨b3, 0, none⟩), .pointer (some ⟨W.heap.size, 0, none⟩), .pointer (some ⟨W.heap.size + 1, 0, none⟩), u6, u7, u8, u9, u10, u11, u12, u13, u14, u15, u16, u17, u18, u19, u20, u21, u22, u23, u24, u25, u26, u27, .int .i64 N, u29, u30, u31, u32, u33, u34, u35, u36, u37, u38, u39, u40, u41, u42, u43, u44, u45, u46, u47, u48], defers := ds }) N ?start ?round
      case start => (repeat apply Exists.intro); exact ⟨⟨0, [], rfl, by omega, rfl, HJ1.out, Free.refl _ _, List.nodup_nil, by simp⟩, rfl⟩
      case round =>
        intro gk _ wr hinv JJ KK hJJ hKK
        obtain ⟨u6, u7, u8, u9, u10, u11, u12, u13, u14, u15, u16, u17, u18, u19, u20, u21, u22, u23, u24, u25, u26, u27, u29, u30, u31, u32, u33, u34, u35, u36, u37, u38, u39, u40, u41, u42, u43, u44, u45, u46, u47, u48, ds, ⟨i0, Ds, rfl, hi0, rfl, hJr, hBr, hnd, hDs⟩, rfl⟩ := hinv
        have HJR := Lib.hid hJr
        have HFR := Lib.hid hBr
        have HD := Lib.hid hDs
        have HN := Lib.hid hnd
        clear hJr hBr hDs hnd
        by_cases hlt : i0 < N
        · obtain ⟨q1, p1⟩ := HFR.out.cell pf1.out c1
          obtain ⟨q2, p2⟩ := HFR.out.cell pf2.out c2
          obtain ⟨q3, p3⟩ := HFR.out.cell pf3.out c3
          obtain ⟨q0, p0⟩ := HFR.out.cell pf0.out y0
          have P1 := Lib.hid p1; have P2 := Lib.hid p2; have P3 := Lib.hid p3; have P0 := Lib.hid p0
          have PF := Lib.hid (show ¬ Φ wr f from fun e => pff.out (HFR.out.stay f HL2.out.lt.1 e))
          have PM := Lib.hid (show ¬ Φ wr m from fun e => pfm.out (HFR.out.stay m HL2.out.lt.2.1 e))
          have HLR := Lib.hid (HL2.out.fr HFR.out.fr pff.out pfm.out)
          clear p1 p2 p3 p0
          have hx16 : (i0 : Int) + 1 ≤ 16 := by have := hx.out.2.1; omega
          go_wp2_with fail
          refine (kid_any p ((i0 : Int) + 1) _ (by have := hx.out.2.2.1; omega)).mono ?_
          rintro e w5 ⟨rfl, hB5⟩
          replace P1 := Lib.hid (show ¬ Φ w5 b1 from fun e => P1.out ((HA.out.grow HJR.out hB5).2.stay _ (World.block_lt_of_cell? _ _ q1) e))
          replace P2 := Lib.hid (show ¬ Φ w5 b2 from fun e => P2.out ((HA.out.grow HJR.out hB5).2.stay _ (World.block_lt_of_cell? _ _ q2) e))
          replace P3 := Lib.hid (show ¬ Φ w5 b3 from fun e => P3.out ((HA.out.grow HJR.out hB5).2.stay _ (World.block_lt_of_cell? _ _ q3) e))
          replace P0 := Lib.hid (show ¬ Φ w5 W.heap.size from fun e => P0.out ((HA.out.grow HJR.out hB5).2.stay _ (World.block_lt_of_cell? _ _ q0) e))
          replace PF := Lib.hid (show ¬ Φ w5 f from fun e => PF.out ((HA.out.grow HJR.out hB5).2.stay _ HLR.out.lt.1 e))
          replace PM := Lib.hid (show ¬ Φ w5 m from fun e => PM.out ((HA.out.grow HJR.out hB5).2.stay _ HLR.out.lt.2.1 e))
          replace q1 := cell_keep hB5 q1; replace q2 := cell_keep hB5 q2; replace q3 := cell_keep hB5 q3; replace q0 := cell_keep hB5 q0
          have HL5 := Lib.hid (HLR.out.below hB5)
          have HD5 := Lib.hid (fun D hD => (⟨(HD.out D hD).1, (hB5.block D (Array.getElem?_eq_some_iff.1 (HD.out D hD).2).1).trans (HD.out D hD).2⟩ : wz.heap.size ≤ D ∧ w5.heap[D]? = some (.deferred (some []))))
          have HJ5 := Lib.hid (HA.out.grow HJR.out hB5).1
          have HF5 := Lib.hid (HFR.out.trans (HA.out.grow HJR.out hB5).2)
          clear HD HLR HJR HFR hB5
          go_wp2_with fail
          refine (wants_make f job (kidS p ((i0 : Int) + 1)) _).mono ?_
          rintro e w6 ⟨rfl, hw6⟩
          have hB6 : Below w5.heap.size w5 w6 := by rw [hw6]; exact ((((Below.refl _ _).alloc (Nat.le_refl _) _).alloc (by simp) _).alloc (by simp; omega) _)
          have hz6 : w6.heap.size = w5.heap.size + 3 := by rw [hw6]; simp [madeW]
          have e1 : w6.cell? ⟨w5.heap.size, 0, none⟩ = some (.pointer (some ⟨f, 0, none⟩)) := by rw [hw6]; unfold madeW; exact cell_keep ((Below.refl _ _).alloc (Nat.le_refl _) _) (cell_keep ((Below.refl _ _).alloc (Nat.le_refl _) _) (by simp))
          have e2 : w6.cell? ⟨w5.heap.size + 1, 0, none⟩ = some (.int .u64 job) := by rw [hw6]; unfold madeW; exact cell_keep ((Below.refl _ _).alloc (Nat.le_refl _) _) (by simp)
          have e3 : w6.cell? ⟨w5.heap.size + 2, 0, none⟩ = some (.string (kidS p ((i0 : Int) + 1))) := by rw [hw6]; exact made_third f job _ w5
          clear hw6
          have HL6 := Lib.hid (HL5.out.below hB6)
          have hkB : Hid (kidB p ((i0 : Int) + 1) = true) := kid_ok hx.out.2.2.2.1 (by omega) hx16 (hx.out.2.2.2.2 (by omega))
          have HSEQ := Lib.hid (ih k' (by omega) (kidS p ((i0 : Int) + 1)) 2 _ _ _ w6 (by rw [kidS_size hkB.out]; have := HPK.out; omega) HL6.out e1 e2 e3)
          have HBS6 := Lib.hid (show ∀ b ∈ [w5.heap.size, w5.heap.size + 1, w5.heap.size + 2, f, m], ¬ Φ w6 b from by
            intro b hb
            simp only [List.mem_cons, List.not_mem_nil, or_false] at hb
            rcases hb with rfl | rfl | rfl | rfl | rfl
            · exact HA.out.new HJ5.out hB6 (Nat.le_refl _)
            · exact HA.out.new HJ5.out hB6 (by omega)
            · exact HA.out.new HJ5.out hB6 (by omega)
            · exact fun e => PF.out ((HA.out.grow HJ5.out hB6).2.stay _ HL5.out.lt.1 e)
            · exact fun e => PM.out ((HA.out.grow HJ5.out hB6).2.stay _ HL5.out.lt.2.1 e))
          replace P0 := Lib.hid (show ¬ Φ w6 W.heap.size from fun e => P0.out ((HA.out.grow HJ5.out hB6).2.stay _ (World.block_lt_of_cell? _ _ q0) e))
          replace q0 := cell_keep hB6 q0
          have HD6 := Lib.hid (fun D hD => (⟨(HD5.out D hD).1, (hB6.block D (Array.getElem?_eq_some_iff.1 (HD5.out D hD).2).1).trans (HD5.out D hD).2⟩ : wz.heap.size ≤ D ∧ w6.heap[D]? = some (.deferred (some []))))
          have HJ6 := Lib.hid (HA.out.grow HJ5.out hB6).1
          have HF6 := Lib.hid (HF5.out.trans (HA.out.grow HJ5.out hB6).2)
          have hsz6 : Hid (W.heap.size ≤ w6.heap.size ∧ wz.heap.size ≤ w6.heap.size) := ⟨Nat.le_trans HB2.out.size HF6.out.fr.size, HF6.out.fr.size⟩
          have HGI := Lib.hid (show wantP l job k' (kidS p ((i0 : Int) + 1)) = gf i0 from by rw [← hgf]; rfl)
          clear HD5 HL5 HJ5 HF5 hB6 q1 q2 q3 P1 P2 P3 PF PM e1 e2 e3 hgf
          go_wp2_with fail
          refine (wpIn_wide (n := 3)).1 ?_
          have hII := HA.out.from ((List.range i0).flatMap gf) w6 hsz6.out.1
          refine' range_whole rfl (by decide) rfl trivial (enters_of Try.func31 (by kernel_rfl) rfl) HSEQ.out (Below.refl _ _) (fun _ => rfl) Φ _ hII HBS6.out ⟨by rw [List.append_nil]; exact HJ6.out, Free.refl _ _⟩ _ _ _ _
          rotate_left
          · intro l2 x2 W2 K2 hK2
            have HK2 := Lib.hid hK2
            clear hK2
            gi_wp2
            exact HK2.out
          · rintro l2 pre x2 W2 ⟨hJ2, hF2⟩ hpre
            have y2 := (hF2.cell P0.out q0).1
            have hpre' : ((List.range i0).flatMap gf ++ pre) ++ [x2] <+: (List.range N).flatMap gf := by
              rw [HGI.out] at hpre
              obtain ⟨r1, h1⟩ := hpre
              obtain ⟨r2, h2⟩ := flat_prefix gf hlt
              exact ⟨r1 ++ r2, by rw [h2, ← h1]; simp [List.append_assoc]⟩
            obtain ⟨fn2, tmps2, assign2, body2, hy2, hR2⟩ := HY.out _ x2 W2 hJ2 hpre'
            have HF2 := Lib.hid hF2
            clear hJ2 hF2 hpre hpre'
            gi_wp2
            have hR3 : RoundIn (Fence.wide.inRound l2) (3 - 1 - 1 - 1) Try.prog ly fn2 tmps2 assign2 body2 W2 _ := ⟨hR2.1, fun c cs _ => hR2.2 c cs (room_wide _)⟩
            refine hR3.mono ?_
            rintro e W5 ⟨rfl, hJ5, hF5⟩
            clear hR2 hR3 hy2
            have HJ5 := Lib.hid hJ5
            have HF5 := Lib.hid hF5
            clear hJ5 hF5
            gi_wp2
            exact ⟨HF5.out, by rw [← List.append_assoc]; exact HJ5.out, HF2.out.trans HF5.out⟩
          · rintro D W7 hD ⟨hJ7, hF7⟩ _ hk7
            have HJ7 := Lib.hid (show J ((List.range (i0 + 1)).flatMap gf) W7 from by rw [HGI.out] at hJ7; rw [List.range_succ, List.flatMap_append]; simpa using hJ7)
            have HF7 := Lib.hid (HF6.out.trans hF7)
            have HD7 := Lib.hid (show ∀ E ∈ D :: Ds, wz.heap.size ≤ E ∧ W7.heap[E]? = some (.deferred (some [])) from fun E hE => by
              rcases List.mem_cons.1 hE with rfl | hE
              · exact ⟨Nat.le_trans hsz6.out.2 hD, hk7⟩
              · exact ⟨(HD6.out E hE).1, (hF7.block (HA.out.notCells HJ6.out (HD6.out E hE).2 rfl) (HD6.out E hE).2).1⟩)
            have HN7 := Lib.hid (show (D :: Ds).Nodup from List.nodup_cons.2 ⟨fun hm => by have := (Array.getElem?_eq_some_iff.1 (HD6.out D hm).2).1; omega, HN.out⟩)
            clear hJ7 hF7 hk7 hD HJ6 HF6 HD6 HN HBS6 HSEQ HL6 q0 P0
            go_wp2_with fail
            go_roundg (gk - 1)
            case measure => omega
            case rel => exact ⟨i0 + 1, D :: Ds, rfl, by omega, by simp, HJ7.out, HF7.out, HN7.out, HD7.out⟩
        · obtain rfl : i0 = N := by omega
          go_wp2_with fail
          show LeavesInM _ _ _ _ _ _ _ _ _
          refine leaves_marks (B := wz.heap.size) (fun w => J (wantP l job (k' + 1) p) w ∧ Free Φ W w) ?_ ?_ Ds wr ⟨by rw [HW.out]; exact HJR.out, HF0.out.trans HFR.out⟩ HN.out HD.out
          · rintro w D ⟨hj, hf⟩ hD hk
            have hsz := HB2.out.size
            obtain ⟨h1, h2⟩ := HA.out.put hj (.deferred none) (Nat.le_trans hsz hD) hk rfl
            exact ⟨h1, ⟨hf.fr.os, hf.fr.tape, hf.fr.output, by have := hf.fr.size; simpa using this, fun q hq hp => (World.putObj_heap_other (by omega)).trans (hf.fr.block q hq hp)⟩, fun j hj e => hf.stay j hj (h2 j e)⟩
          · rintro w ⟨hj, hf⟩
            exact ⟨_, results_none rfl _ _ _, ⟨_, rfl⟩, hj, hf⟩
end Go.Proofs.Ytibfcoaiodmimaa
