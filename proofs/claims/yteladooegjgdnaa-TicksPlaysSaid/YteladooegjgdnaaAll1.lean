/- The timers by their keys; slices.SortFunc at an own slice of timers. -/
import Derived.Test.YteladooegjgdnaaOwnKS
import Derived.Test.YteladooegjgdnaaHp17
import Derived.Test.YteladooegjgdnaaShelf08
import Derived.Shelf.SlSortCmp.NoneTotal
namespace Go.Proofs.Yteladooegjgdnaa
open Go.RowKit Go.Sort Go.Lib Go.Shelf

def cmpK (x y : Tm) : Int := cmpS x.k y.k
theorem cmpK_neg (x y : Tm) : cmpK x y = - cmpK y x := cmpS_negP _ _
theorem cmpK_trans {x y z : Tm} (h : cmpK x y ≤ 0) (k : cmpK y z ≤ 0) : cmpK x z ≤ 0 := cmpS_leP h k
theorem cmpK_antisymm {x y : Tm} (h : cmpK x y ≤ 0) (k : cmpK y x ≤ 0) : x.k = y.k := by
  rw [cmpK_neg] at k
  exact cmpS_zeroP (by unfold cmpK at *; omega)
def leK (x y : Tm) : Bool := !decide (cmpK y x < 0)
def keyL (l : List Tm) : List Tm := l.mergeSort leK
theorem leK_iff (x y : Tm) : leK x y = true ↔ cmpK x y ≤ 0 := by
  unfold leK; rw [cmpK_neg y x]; simp
theorem keyL_perm (l : List Tm) : (keyL l).Perm l := List.mergeSort_perm l leK
theorem keyL_sorted (l : List Tm) : (keyL l).Pairwise (fun a b => leK a b = true) :=
  List.pairwise_mergeSort (fun a b c h k => by rw [leK_iff] at *; exact cmpK_trans h k)
    (fun a b => by rw [Bool.or_eq_true, leK_iff, leK_iff, cmpK_neg a b]; omega) l
theorem eq_of_k {l : List Tm} (hn : (l.map (·.k)).Nodup) {a b : Tm} (ha : a ∈ l) (hb : b ∈ l) (h : a.k = b.k) : a = b := by
  obtain ⟨i, hi, rfl⟩ := List.getElem_of_mem ha
  obtain ⟨j, hj, rfl⟩ := List.getElem_of_mem hb
  have h2 := List.pairwise_map.1 (List.nodup_iff_pairwise_ne.1 hn)
  rw [List.pairwise_iff_getElem] at h2
  rcases Nat.lt_trichotomy i j with e | e | e
  · exact absurd h (h2 i j hi hj e)
  · subst e; rfl
  · exact absurd h.symm (h2 j i hj hi e)
/-- Sorted in whatever way, the keys being apart: it is this list. -/
theorem keyL_unique {l m : List Tm} (hn : (l.map (·.k)).Nodup) (hp : m.Perm l) (hs : m.Pairwise (fun a b => leK a b = true)) : keyL l = m :=
  ((keyL_perm l).trans hp.symm).eq_of_pairwise (fun _a _b ha hb h k => eq_of_k hn ((keyL_perm l).mem_iff.1 ha) (hp.mem_iff.1 hb) (cmpK_antisymm ((leK_iff _ _).1 h) ((leK_iff _ _).1 k))) (keyL_sorted l) hs
theorem keyL_congr {l m : List Tm} (hn : (m.map (·.k)).Nodup) (hp : l.Perm m) : keyL l = keyL m :=
  (keyL_unique hn ((keyL_perm l).trans hp) (keyL_sorted l)).symm
theorem cmpK_swo : Go.Sort.SWO (Go.Proofs.ltOf cmpK) where
  irrefl x := by
    have : cmpK x x = 0 := by have := cmpK_neg x x; omega
    simp [Go.Proofs.ltOf, this]
  trans x y z h1 h2 := by
    simp only [Go.Proofs.ltOf, decide_eq_true_eq] at *
    rcases Int.lt_or_le (cmpK x z) 0 with h | h
    · exact h
    · have h3 : cmpK z x ≤ 0 := by rw [cmpK_neg]; omega
      have h4 := cmpK_trans (Int.le_of_lt h2) h3
      rw [cmpK_neg] at h4
      omega
  ntrans x y z h1 h2 := by
    simp only [Go.Proofs.ltOf, decide_eq_false_iff_not] at *
    have a := cmpK_trans (x := z) (y := y) (z := x) (by rw [cmpK_neg]; omega) (by rw [cmpK_neg]; omega)
    rw [cmpK_neg] at a; omega
theorem encT_len2 (x : Tm) : (encT x).length = 2 := rfl
theorem grown2 (w : World) (a b : Obj) : ∃ q os, ((w.alloc a).alloc b).drew = grow (w.drewN q) os := by
  refine ⟨1, #[a, b], ?_⟩
  simp only [grow, World.alloc, World.drew, World.drewN]
  congr 1
theorem grown20 (w : World) (a b : Obj) : ∃ q os, ((w.alloc a).alloc b) = grow (w.drewN q) os := by
  refine ⟨0, #[a, b], ?_⟩
  simp only [grow, World.alloc, World.drewN]
  congr 1
set_option maxHeartbeats 1600000 in
set_option maxRecDepth 100000 in
theorem allCmp (x y : Tm) (w : World) : Calls Try.prog 35 #[.agg #[.string x.k, .int .i64 x.a], .agg #[.string y.k, .int .i64 y.a]] w fun e w' => e = .returned (.int .i64 (cmpK x y)) ∧ ∃ q os, w' = grow (w.drewN q) os := by
  go_enter Try.func35, Try.ntmps35
  go_wp2_with fail
  refine (cmpS_any _ _ _).mono ?_
  rintro e w' ⟨rfl, rfl⟩
  go_wp2_with fail
  go_ret
  exact ⟨ret_int rfl, by first | exact grown20 w _ _ | exact grown2 w _ _⟩
theorem cmpKLays (blk off size : Nat) (w : World) : Go.Proofs.CmpLays Try.prog 35 #[] encT 2 cmpK blk off size w :=
  fun _ _ _ _ x y => allCmp x y _

theorem sortTms_any (g cap : Nat) (l : List Tm) (w : World) (hn : (l.map (·.k)).Nodup) (hH : Go.Sort.HoldsK encT 2 w g 0 l.toArray) (hg : g < w.heap.size) (hl : l.length ≤ 1000000) :
    Calls Try.prog 42 #[.slice (some ⟨g, 0, none⟩) l.length cap, .func (.func 35) #[] #[]] w fun e w' =>
      e = .returned (.tuple #[]) ∧ ∃ n os, w' = sortWorldK encT 2 w g 0 n (keyL l).toArray os := by
  have eg : ∀ args w, (callFunc 35 args).run Try.prog w = .ok (.enter 35 args) w := enters_of Try.func35 (by kernel_rfl) rfl
  have h := AnyQ.slices_SortFunc Try.sortTm 2 (fun _ => by kernel_rfl) (fun _ => by kernel_rfl) encT encT_len2 (fun x v hv => by simp [encT] at hv; rcases hv with rfl | rfl <;> rfl) cmpK cmpK_swo 35 #[] g 0 cap l.toArray w eg (cmpKLays g 0 _ w) hH hg (by simp; omega)
  refine h.mono ?_
  rintro e w' ⟨rfl, d', n, os, hp, hs, rfl⟩
  refine ⟨rfl, n, os, ?_⟩
  have e : keyL l = d'.toList := by
    refine keyL_unique hn ?_ ?_
    · have := hp.2.2
      have hsz : d'.size = l.length := by simpa using hp.1
      have ht : List.take d'.size l = l := by rw [hsz]; exact List.take_length
      simpa [← hsz, ht] using this
    · rw [List.pairwise_iff_getElem]
      intro i j hi hj hij
      have hsz := hp.1
      have hj' : j < d'.size := by simpa using hj
      have := hs i j (Nat.zero_le _) hij (by rw [← hsz]; exact hj')
      simp only [Go.Proofs.ltOf, decide_eq_false_iff_not] at this
      rw [getElem!_pos d' j (by omega), getElem!_pos d' i (by omega)] at this
      rw [leK_iff]
      simp only [Array.getElem_toList]
      rw [cmpK_neg]; omega
  rw [e]

/-- .. at a slice of the call's own, an empty one too. -/
theorem sortTms_own {B : Nat} {E : TypeId} {u : Value} (l : List Tm) (w : World) (hn : (l.map (·.k)).Nodup) (ho : w.ownsRow B E 2 u l.length (l.flatMap encT)) (hl : l.length ≤ 1000000) (hB : B ≤ w.heap.size) :
    Calls Try.prog 42 #[u, .func (.func 35) #[] #[]] w fun e w' =>
      e = .returned (.tuple #[]) ∧ w'.ownsRow B E 2 u (keyL l).length ((keyL l).flatMap encT) ∧ Below B w w' := by
  have hlen : (keyL l).length = l.length := (keyL_perm l).length_eq
  by_cases hz : l = []
  · subst hz
    have e0 : keyL [] = [] := keyL_unique List.nodup_nil (List.Perm.refl _) List.Pairwise.nil
    obtain ⟨a, cap, rfl⟩ : ∃ a cap, u = .slice a 0 cap := by
      obtain ⟨_, ⟨h, _⟩ | ⟨g, cap, cur, hv, _⟩⟩ := ho
      · exact ⟨_, _, h⟩
      · exact ⟨_, _, hv⟩
    refine (AnyF.slices_SortFunc_none (P := Try.prog) (ρ := Try.sortTm_ren) { Try.sortTm with } a cap (.func (.func 35) #[] #[]) w).mono ?_
    rintro e w' ⟨rfl, rfl⟩
    exact ⟨rfl, by rw [e0]; exact ho, Below.refl _ _⟩
  · obtain ⟨g, cap, cur, rfl, hb, hg, hc, h1, h2, h3, h4⟩ := own_blockK ho (fun e => hz (List.length_eq_zero_iff.1 e))
    refine (sortTms_any g cap l w hn (holds_ownK encT_len2 (by decide) hc h4) hg hl).mono ?_
    rintro e w' ⟨rfl, n, os, rfl⟩
    refine ⟨rfl, ?_, sortK_below (enc := encT) (k := 2) hb hB⟩
    have := own_sortedK (B := B) (n := n) (os := os) (ss := l) (d := (keyL l).toArray) encT_len2 (by decide) (by simpa using hlen) hb hc h1 h2 h3
    rw [hlen]
    exact this
end Go.Proofs.Yteladooegjgdnaa
