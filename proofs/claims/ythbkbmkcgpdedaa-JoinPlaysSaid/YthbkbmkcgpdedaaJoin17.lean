/- The order of names; rows compared; slices.SortFunc at an own slice of rows. -/
import Derived.Test.YthbkbmkcgpdedaaOwnKS
import Derived.Test.YthbkbmkcgpdedaaJoin14
import Derived.Test.YthbkbmkcgpdedaaShelf17
import Derived.Test.YthbkbmkcgpdedaaPlain12
import Derived.Shelf.SlSortCmp.NoneTotal
import Derived.Deep.RegionHeld3
namespace Go.Proofs.Ythbkbmkcgpdedaa
open Go.RowKit Go.Sort Go.Lib Go.Shelf

def cmpU (a b : Int) : Int := if a < b then -1 else if b < a then 1 else 0
def orI (a b : Int) : Int := if a = 0 then b else a
def cmpN (x y : Nm) : Int := orI (cmpU x.1 y.1) (cmpS x.2 y.2)

set_option maxHeartbeats 400000 in
theorem isNaNU (a : Int) (w : World) : Calls Try.prog 63 #[.int .u64 a] w fun e w' => e = .returned (.bool false) ∧ w = w' := by
  go_enter Try.func63, Try.ntmps63
  go_wp2
  go_ret
  exact ⟨ret_bool rfl, rfl⟩

set_option maxHeartbeats 400000 in
theorem cmpU_any (a b : Int) (w : World) : Calls Try.prog 53 #[.int .u64 a, .int .u64 b] w fun e w' => e = .returned (.int .i64 (cmpU a b)) ∧ w' = w := by
  rcases (show a < b ∨ (¬ a < b ∧ b < a) ∨ (¬ a < b ∧ ¬ b < a) by omega) with h1 | ⟨h1, h2⟩ | ⟨h1, h2⟩
  · have hf := Lib.hid (show cmpU a b = -1 by simp [cmpU, h1])
    go_enter Try.func53, Try.ntmps53
    go_wp2_with (go_at_call 63; refine (isNaNU _ _).mono ?_; rintro e w' ⟨rfl, rfl⟩)
    go_ret
    exact ⟨ret_int hf.out.symm, rfl⟩
  · have hf := Lib.hid (show cmpU a b = 1 by simp [cmpU, h1, h2])
    go_enter Try.func53, Try.ntmps53
    go_wp2_with (go_at_call 63; refine (isNaNU _ _).mono ?_; rintro e w' ⟨rfl, rfl⟩)
    go_ret
    exact ⟨ret_int hf.out.symm, rfl⟩
  · have hf := Lib.hid (show cmpU a b = 0 by simp [cmpU, h1, h2])
    go_enter Try.func53, Try.ntmps53
    go_wp2_with (go_at_call 63; refine (isNaNU _ _).mono ?_; rintro e w' ⟨rfl, rfl⟩)
    go_ret
    exact ⟨ret_int hf.out.symm, rfl⟩

set_option maxHeartbeats 800000 in
theorem or_any (g : Nat) (a b : Int) (w : World) (h0 : w.cell? ⟨g, 0, none⟩ = some (.int .i64 a)) (h1 : w.cell? ⟨g, 1, none⟩ = some (.int .i64 b)) :
    Calls Try.prog 52 #[.slice (some ⟨g, 0, none⟩) 2 2] w fun e w' => e = .returned (.int .i64 (orI a b)) ∧ w' = w := by
  go_enter Try.func52, Try.ntmps52
  by_cases ha : a = 0
  · have ha' : (a != 0) = false := by simp [ha]
    have hb01 : b = 0 ∨ b ≠ 0 := by omega
    have hf := Lib.hid (show orI a b = b by simp [orI, ha])
    clear ha
    go_wp2
    go_loop [8] (fun i => i = .int .i64 0 ∨ i = .int .i64 1 ∨ (i = .int .i64 2 ∧ Hid (b = 0))) (fun i => 2 - (intOf i).toNat)
    case atStart => exact .inl rfl
    case round =>
      rcases hrel with rfl | rfl | ⟨rfl, hb⟩
      · go_wp2
        go_round
        case rel => exact .inr (.inl rfl)
        case measure => simp [intOf]
      · rcases hb01 with hb | hb
        · have hb' : (b != 0) = false := by simp [hb]
          have HB := Lib.hid hb
          clear hb
          go_wp2
          go_round
          case rel => exact .inr (.inr ⟨rfl, HB⟩)
          case measure => simp [intOf]
        · have hb' : (b != 0) = true := by simpa using hb
          clear hb
          go_wp2
          go_ret
          exact ⟨ret_int hf.out.symm, rfl⟩
      · clear hb01
        go_wp2
        go_ret
        exact ⟨ret_int (hf.out.trans hb.out).symm, rfl⟩
  · have ha' : (a != 0) = true := by simpa using ha
    have hf := Lib.hid (show orI a b = a by simp [orI, ha])
    clear ha
    go_wp2
    refine wp_loop_rounds 3 ?_
    simp only [rounds_succ]
    go_wp2
    go_ret
    exact ⟨ret_int hf.out.symm, rfl⟩

theorem grown3 (w : World) (a b c : Obj) : ∃ q os, (((w.alloc a).alloc b).alloc c).drew = grow (w.drewN q) os := by
  refine ⟨1, #[a, b, c], ?_⟩
  simp only [grow, World.alloc, World.drew, World.drewN]
  congr 1
abbrev Rl := Nm × Rw
instance : Inhabited Rl := ⟨((0, ⟨#[]⟩), ⟨0, none, 0, [], 0, 0, 0, 0, 0, false⟩)⟩
def encT (p : Rl) : List Value := [.int .u64 p.1.1, .string p.1.2, .string p.1.2, .int .i64 p.2.fn, .slice p.2.aa p.2.args.length p.2.ac, .int .i64 p.2.fuel, .int .u8 p.2.st, .int .i64 p.2.op, .int .i64 p.2.val, .int .i64 p.2.err]
theorem encT_len (p : Rl) : (encT p).length = 10 := rfl
def cmpR (x y : Rl) : Int := cmpN x.1 y.1
set_option maxHeartbeats 3200000 in
set_option maxRecDepth 100000 in
theorem rowsCmp (x y : Rl) (w : World) : Calls Try.prog 51 #[.agg (encT x).toArray, .agg (encT y).toArray] w fun e w' =>
    e = .returned (.int .i64 (cmpR x y)) ∧ ∃ q os, w' = grow (w.drewN q) os := by
  unfold encT
  go_enter Try.func51, Try.ntmps51
  go_wp2_with fail
  go_region_held3 (fun w' => w'.cell? ⟨w.heap.size, 0, none⟩ = some (.int .u64 x.1.1) ∧ w'.cell? ⟨w.heap.size, 1, none⟩ = some (.string x.1.2) ∧ w'.cell? ⟨w.heap.size + 1, 0, none⟩ = some (.int .u64 y.1.1) ∧ w'.cell? ⟨w.heap.size + 1, 1, none⟩ = some (.string y.1.2)) ((simp [go_sem, World.cell?_alloc_past]))
    (first
      | (go_at_call 53; refine (cmpU_any _ _ _).mono ?_; rintro e w' ⟨rfl, rfl⟩)
      | (go_at_call 54; refine (compare_any _ _ _).mono ?_; rintro e w' ⟨rfl, rfl⟩)
      | (go_at_call 52; refine (or_any _ (cmpU x.1.1 y.1.1) (cmpS x.1.2 y.1.2) _ (by simp [go_sem]) (by simp [go_sem])).mono ?_; rintro e w' ⟨rfl, rfl⟩))
  all_goals
    go_wp2_with fail
    go_ret
    exact ⟨ret_int rfl, grown3 w _ _ _⟩

theorem ba_eqP {a b : ByteArray} (h : a.data.toList = b.data.toList) : a = b := by
  rcases a with ⟨x⟩; rcases b with ⟨y⟩
  have : x = y := by apply Array.ext'; exact h
  rw [this]
theorem cmpS_negP (a b : ByteArray) : cmpS a b = - cmpS b a := by rw [cmpS_eq, cmpS_eq, cmpL_neg]
theorem cmpS_zeroP {a b : ByteArray} (h : cmpS a b = 0) : a = b := ba_eqP (cmpL_zero _ _ (by rw [← cmpS_eq]; exact h))
theorem cmpS_reflP (a : ByteArray) : cmpS a a = 0 := by rw [cmpS_eq, cmpL_refl]
theorem cmpS_leP {a b c : ByteArray} (h : cmpS a b ≤ 0) (k : cmpS b c ≤ 0) : cmpS a c ≤ 0 := by
  rw [cmpS_eq] at *; exact cmpL_le_trans h k
theorem cmpN_neg (x y : Nm) : cmpN x y = - cmpN y x := by
  have h := cmpS_negP x.2 y.2
  unfold cmpN orI cmpU
  repeat' split
  all_goals omega
theorem cmpN_le (x y : Nm) : cmpN x y ≤ 0 ↔ x.1 < y.1 ∨ (x.1 = y.1 ∧ cmpS x.2 y.2 ≤ 0) := by
  unfold cmpN orI cmpU
  by_cases h1 : x.1 < y.1
  · simp [h1]
  · by_cases h2 : y.1 < x.1
    · have h3 : ¬ x.1 = y.1 := by omega
      simp [h1, h2, h3]
    · have h3 : x.1 = y.1 := by omega
      simp [h3]
theorem cmpN_trans {x y z : Nm} (h : cmpN x y ≤ 0) (k : cmpN y z ≤ 0) : cmpN x z ≤ 0 := by
  rw [cmpN_le] at *
  rcases h with h | ⟨h, h'⟩ <;> rcases k with k | ⟨k, k'⟩
  · exact .inl (by omega)
  · exact .inl (by omega)
  · exact .inl (by omega)
  · exact .inr ⟨by omega, cmpS_leP h' k'⟩
theorem cmpN_antisymm {x y : Nm} (h : cmpN x y ≤ 0) (k : cmpN y x ≤ 0) : x = y := by
  rw [cmpN_le] at *
  have e1 : x.1 = y.1 := by rcases h with h | ⟨h, _⟩ <;> rcases k with k | ⟨k, _⟩ <;> omega
  have e2 : x.2 = y.2 := by
    rcases h with h | ⟨_, h⟩
    · omega
    · rcases k with k | ⟨_, k⟩
      · omega
      · rw [cmpS_negP] at k; exact cmpS_zeroP (by omega)
  exact Prod.ext e1 e2
theorem cmpN_zero {x y : Nm} (h : cmpN x y = 0) : x = y := cmpN_antisymm (by omega) (by rw [cmpN_neg]; omega)
theorem cmpN_refl (x : Nm) : cmpN x x = 0 := by have := cmpN_neg x x; omega
section
variable {V : Type}
def leN (x y : Nm × V) : Bool := !decide (cmpN y.1 x.1 < 0)
def sortV (l : List (Nm × V)) : List (Nm × V) := l.mergeSort leN
theorem leN_iff (x y : Nm × V) : leN x y = true ↔ cmpN x.1 y.1 ≤ 0 := by
  unfold leN; rw [cmpN_neg y.1 x.1]; simp
theorem sortV_perm (l : List (Nm × V)) : (sortV l).Perm l := List.mergeSort_perm l leN
theorem sortV_sorted (l : List (Nm × V)) : (sortV l).Pairwise (fun a b => leN a b = true) :=
  List.pairwise_mergeSort (fun a b c h k => by rw [leN_iff] at *; exact cmpN_trans h k)
    (fun a b => by rw [Bool.or_eq_true, leN_iff, leN_iff, cmpN_neg a.1 b.1]; omega) l
theorem eq_of_keyN {l : List (Nm × V)} (hn : (l.map (·.1)).Nodup) {a b : Nm × V} (ha : a ∈ l) (hb : b ∈ l) (h : a.1 = b.1) : a = b := by
  obtain ⟨i, hi, rfl⟩ := List.getElem_of_mem ha
  obtain ⟨j, hj, rfl⟩ := List.getElem_of_mem hb
  have : i = j := idx_only hn hi hj rfl h.symm
  subst this; rfl
/-- Sorted in whatever way, the names being apart: it is this list. -/
theorem sortV_unique {l m : List (Nm × V)} (hn : (l.map (·.1)).Nodup) (hp : m.Perm l) (hs : m.Pairwise (fun a b => leN a b = true)) : sortV l = m :=
  ((sortV_perm l).trans hp.symm).eq_of_pairwise (fun _a _b ha hb h k => eq_of_keyN hn ((sortV_perm l).mem_iff.1 ha) (hp.mem_iff.1 hb) (cmpN_antisymm ((leN_iff _ _).1 h) ((leN_iff _ _).1 k))) (sortV_sorted l) hs
end
theorem cmpR_swo : Go.Sort.SWO (Go.Proofs.ltOf cmpR) where
  irrefl x := decide_eq_false (p := cmpN x.1 x.1 < 0) (by rw [cmpN_refl]; decide)
  trans x y z h1 h2 := by
    have h1 : cmpN x.1 y.1 < 0 := of_decide_eq_true h1
    have h2 : cmpN y.1 z.1 < 0 := of_decide_eq_true h2
    refine decide_eq_true (p := cmpN x.1 z.1 < 0) ?_
    rcases Int.lt_or_le (cmpN x.1 z.1) 0 with h | h
    · exact h
    · have h3 : cmpN z.1 x.1 ≤ 0 := by rw [cmpN_neg]; omega
      have h4 := cmpN_trans (Int.le_of_lt h2) h3
      rw [cmpN_neg] at h4
      omega
  ntrans x y z h1 h2 := by
    have h1 : ¬ cmpN x.1 y.1 < 0 := of_decide_eq_false h1
    have h2 : ¬ cmpN y.1 z.1 < 0 := of_decide_eq_false h2
    refine decide_eq_false (p := cmpN x.1 z.1 < 0) ?_
    have a := cmpN_trans (x := z.1) (y := y.1) (z := x.1) (by rw [cmpN_neg]; omega) (by rw [cmpN_neg]; omega)
    rw [cmpN_neg] at a; omega
theorem cmpRLays (blk off size : Nat) (w : World) : Go.Proofs.CmpLays Try.prog 51 #[] encT 10 cmpR blk off size w :=
  fun _ _ _ _ x y => rowsCmp x y _
theorem sortRows_any (g cap : Nat) (l : List Rl) (w : World) (hn : (l.map (·.1)).Nodup) (hH : Go.Sort.HoldsK encT 10 w g 0 l.toArray) (hg : g < w.heap.size) (hl : l.length ≤ 1000000) :
    Calls Try.prog 50 #[.slice (some ⟨g, 0, none⟩) l.length cap, .func (.func 51) #[] #[]] w fun e w' =>
      e = .returned (.tuple #[]) ∧ ∃ n os, w' = sortWorldK encT 10 w g 0 n (sortV l).toArray os := by
  have eg : ∀ args w, (callFunc 51 args).run Try.prog w = .ok (.enter 51 args) w := enters_of Try.func51 (by kernel_rfl) rfl
  have h := AnyQ.slices_SortFunc Try.sortRow 10 (fun _ => by kernel_rfl) (fun _ => by kernel_rfl) encT encT_len (fun x v hv => by simp [encT] at hv; rcases hv with rfl | rfl | rfl | rfl | rfl | rfl | rfl | rfl | rfl | rfl <;> rfl) cmpR cmpR_swo 51 #[] g 0 cap l.toArray w eg (cmpRLays g 0 _ w) hH hg (by simp; omega)
  refine h.mono ?_
  rintro e w' ⟨rfl, d', n, os, hp, hs, rfl⟩
  refine ⟨rfl, n, os, ?_⟩
  have e : sortV l = d'.toList := by
    refine sortV_unique hn ?_ ?_
    · have := hp.2.2
      have hsz : d'.size = l.length := by simpa using hp.1
      have ht : List.take d'.size l = l := by rw [hsz]; exact List.take_length
      simpa [← hsz, ht] using this
    · rw [List.pairwise_iff_getElem]
      intro i j hi hj hij
      have hsz := hp.1
      have hj' : j < d'.size := by simpa using hj
      have this : ¬ cmpN (d'[j]!).1 (d'[i]!).1 < 0 := of_decide_eq_false (hs i j (Nat.zero_le _) hij (by rw [← hsz]; exact hj'))
      rw [getElem!_pos d' j (by omega), getElem!_pos d' i (by omega)] at this
      rw [leN_iff]
      simp only [Array.getElem_toList]
      rw [cmpN_neg]; omega
  rw [e]

/-- .. at a slice of the call's own, an empty one too: nothing else turns. -/
theorem sortRows_own {B : Nat} {E : TypeId} {u : Value} (l : List Rl) (w : World) (hn : (l.map (·.1)).Nodup) (ho : w.ownsRow B E 10 u l.length (l.flatMap encT)) (hl : l.length ≤ 1000000) :
    Calls Try.prog 50 #[u, .func (.func 51) #[] #[]] w fun e w' =>
      e = .returned (.tuple #[]) ∧ w'.ownsRow B E 10 u (sortV l).length ((sortV l).flatMap encT) ∧ w.grownBy w' u.ownBlock := by
  have hlen : (sortV l).length = l.length := (sortV_perm l).length_eq
  by_cases hz : l = []
  · subst hz
    have e0 : sortV ([] : List Rl) = [] := sortV_unique List.nodup_nil (List.Perm.refl _) List.Pairwise.nil
    obtain ⟨a, cap, rfl⟩ : ∃ a cap, u = .slice a 0 cap := by
      obtain ⟨_, ⟨h, _⟩ | ⟨g, cap, cur, hv, _⟩⟩ := ho
      · exact ⟨_, _, h⟩
      · exact ⟨_, _, hv⟩
    refine (AnyF.slices_SortFunc_none (P := Try.prog) (ρ := Try.sortRow_ren) { Try.sortRow with } a cap (.func (.func 51) #[] #[]) w).mono ?_
    rintro e w' ⟨rfl, rfl⟩
    exact ⟨rfl, by rw [e0]; exact ho, ⟨rfl, rfl, rfl, Nat.le_refl _, fun _ _ _ => rfl⟩⟩
  · obtain ⟨g, cap, cur, rfl, hb, hg, hc, h1, h2, h3, h4⟩ := own_blockK ho (fun e => hz (List.length_eq_zero_iff.1 e))
    refine (sortRows_any g cap l w hn (holds_ownK encT_len (by decide) hc h4) hg hl).mono ?_
    rintro e w' ⟨rfl, n, os, rfl⟩
    refine ⟨rfl, ?_, grownBy_sorted' (enc := id) (flatK encT 10 (sortV l).toArray)⟩
    have := own_sortedK (B := B) (n := n) (os := os) (ss := l) (d := (sortV l).toArray) encT_len (by decide) (by simpa using hlen) hb hc h1 h2 h3
    rw [hlen]
    exact this
end Go.Proofs.Ythbkbmkcgpdedaa
