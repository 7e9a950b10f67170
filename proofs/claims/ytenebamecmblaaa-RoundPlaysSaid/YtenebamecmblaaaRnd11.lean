/- The order of what is lent; slices.SortFunc at an own slice of it. -/
import Derived.Test.YtenebamecmblaaaRnd7
import Derived.Test.YtenebamecmblaaaOwnK
import Derived.Test.YtenebamecmblaaaShelfO21
namespace Go.Proofs.Ytenebamecmblaaa
open Go.RowKit Go.Sort Go.Lib Go.Shelf

theorem ba_eqP {a b : ByteArray} (h : a.data.toList = b.data.toList) : a = b := by
  rcases a with ⟨x⟩; rcases b with ⟨y⟩
  have : x = y := by apply Array.ext'; exact h
  rw [this]
theorem cmpS_negP (a b : ByteArray) : cmpS a b = - cmpS b a := by rw [cmpS_eq, cmpS_eq, cmpL_neg]
theorem cmpS_zeroP {a b : ByteArray} (h : cmpS a b = 0) : a = b := ba_eqP (cmpL_zero _ _ (by rw [← cmpS_eq]; exact h))
theorem cmpS_leP {a b c : ByteArray} (h : cmpS a b ≤ 0) (k : cmpS b c ≤ 0) : cmpS a c ≤ 0 := by
  rw [cmpS_eq] at *; exact cmpL_le_trans h k

instance : Inhabited Cr := ⟨⟨none, 0, []⟩⟩
abbrev Lt := Nm × Cr
def cmpO (x y : Lt) : Int := cmpS x.1.2 y.1.2
theorem cmpO_neg (x y : Lt) : cmpO x y = - cmpO y x := cmpS_negP _ _
def leO (x y : Lt) : Bool := !decide (cmpO y x < 0)
def sortO (l : List Lt) : List Lt := l.mergeSort leO
theorem leO_iff (x y : Lt) : leO x y = true ↔ cmpO x y ≤ 0 := by
  unfold leO; rw [cmpO_neg y x]; simp
theorem sortO_perm (l : List Lt) : (sortO l).Perm l := List.mergeSort_perm l leO
theorem sortO_sorted (l : List Lt) : (sortO l).Pairwise (fun a b => leO a b = true) :=
  List.pairwise_mergeSort (fun a b c h k => by rw [leO_iff] at *; exact cmpS_leP h k)
    (fun a b => by rw [Bool.or_eq_true, leO_iff, leO_iff, cmpO_neg a b]; omega) l
/-- Sorted in whatever way, the paths being apart: it is this list. -/
theorem sortO_unique {l m : List Lt} (hn : (l.map (·.1.2)).Nodup) (hp : m.Perm l) (hs : m.Pairwise (fun a b => leO a b = true)) : sortO l = m :=
  ((sortO_perm l).trans hp.symm).eq_of_pairwise (fun _a _b ha hb h k => nodup_eq (f := fun p : Lt => p.1.2) hn ((sortO_perm l).mem_iff.1 ha) (hp.mem_iff.1 hb) (cmpS_zeroP (by
    have h1 := (leO_iff _ _).1 h
    have h2 := (leO_iff _ _).1 k
    rw [cmpO_neg] at h2
    unfold cmpO at h1 h2
    omega))) (sortO_sorted l) hs
theorem cmpO_swo : Go.Sort.SWO (Go.Proofs.ltOf cmpO) where
  irrefl x := by
    have : cmpO x x = 0 := by have := cmpO_neg x x; omega
    simp [Go.Proofs.ltOf, this]
  trans x y z h1 h2 := by
    simp only [Go.Proofs.ltOf, decide_eq_true_eq] at *
    rcases Int.lt_or_le (cmpO x z) 0 with h | h
    · exact h
    · have h3 : cmpO z x ≤ 0 := by rw [cmpO_neg]; omega
      have h4 : cmpO y x ≤ 0 := cmpS_leP (Int.le_of_lt h2) h3
      rw [cmpO_neg] at h4
      omega
  ntrans x y z h1 h2 := by
    simp only [Go.Proofs.ltOf, decide_eq_false_iff_not] at *
    have a : cmpO z x ≤ 0 := cmpS_leP (b := y.1.2) (show cmpO z y ≤ 0 by rw [cmpO_neg]; omega) (show cmpO y x ≤ 0 by rw [cmpO_neg]; omega)
    rw [cmpO_neg] at a; omega
def encL (p : Lt) : List Value := [.int .u64 p.1.1, .string p.1.2, evC p.2]
theorem encL_len (p : Lt) : (encL p).length = 3 := rfl
theorem grown2 (w : World) (a b : Obj) : ∃ q os, (w.alloc a).alloc b = grow (w.drewN q) os := by
  refine ⟨0, #[a, b], ?_⟩
  simp only [grow, World.alloc, World.drewN]
  congr 1
set_option maxHeartbeats 800000 in
set_option maxRecDepth 100000 in
theorem outCmp (x y : Lt) (w : World) : Calls Try.prog 32 #[.agg #[.int .u64 x.1.1, .string x.1.2, evC x.2], .agg #[.int .u64 y.1.1, .string y.1.2, evC y.2]] w fun e w' =>
    e = .returned (.int .i64 (cmpO x y)) ∧ ∃ q os, w' = grow (w.drewN q) os := by
  go_enter Try.func32, Try.ntmps32
  unfold evC
  go_wp2_with fail
  refine (compare_any _ _ _).mono ?_
  rintro e w' ⟨rfl, hw⟩
  subst hw
  go_wp2_with fail
  go_ret
  exact ⟨ret_intE rfl, grown2 w _ _⟩
theorem cmpOLays (blk off size : Nat) (w : World) : Go.Proofs.CmpLays Try.prog 32 #[] encL 3 cmpO blk off size w :=
  fun _ _ _ _ x y => outCmp x y _
theorem sortLent_any (g cap : Nat) (l : List Lt) (w : World) (hn : (l.map (·.1.2)).Nodup) (hH : Go.Sort.HoldsK encL 3 w g 0 l.toArray) (hg : g < w.heap.size) (hl : l.length ≤ 1000000) :
    Calls Try.prog 31 #[.slice (some ⟨g, 0, none⟩) l.length cap, .func (.func 32) #[] #[]] w fun e w' =>
      e = .returned (.tuple #[]) ∧ ∃ n os, w' = sortWorldK encL 3 w g 0 n (sortO l).toArray os := by
  have eg : ∀ args w, (callFunc 32 args).run Try.prog w = .ok (.enter 32 args) w := enters_of Try.func32 (by kernel_rfl) rfl
  have h := AnyQ.slices_SortFunc Try.sortLent 3 (fun _ => by kernel_rfl) (fun _ => by kernel_rfl) encL encL_len (fun x v hv => by simp [encL, evC] at hv; rcases hv with rfl | rfl | rfl <;> rfl) cmpO cmpO_swo 32 #[] g 0 cap l.toArray w eg (cmpOLays g 0 _ w) hH hg (by simp; omega)
  refine h.mono ?_
  rintro e w' ⟨rfl, d', n, os, hp, hs, rfl⟩
  refine ⟨rfl, n, os, ?_⟩
  have e : sortO l = d'.toList := by
    refine sortO_unique hn ?_ ?_
    · have := hp.2.2
      have hsz : d'.size = l.length := by simpa using hp.1
      have ht : List.take d'.size l = l := by rw [hsz]; exact List.take_length
      simpa [← hsz, ht] using this
    · rw [List.pairwise_iff_getElem]
      intro i j hi hj hij
      have hsz := hp.1
      have hj' : j < d'.size := by simpa using hj
      have := hs i j (Nat.zero_le _) hij (by rw [← hsz]; exact hj')
      simp only [Go.Proofs.ltOf, decide_eq_false_iff_not] at this
      rw [getElem!_pos d' j (by omega), getElem!_pos d' i (by omega)] at this
      rw [leO_iff]
      simp only [Array.getElem_toList]
      rw [cmpO_neg]; omega
  rw [e]
/-- .. at a slice of the call's own, an empty one too. -/
theorem sortLent_own {B : Nat} {E : TypeId} {u : Value} (l : List Lt) (w : World) (hn : (l.map (·.1.2)).Nodup) (ho : w.ownsRow B E 3 u l.length (l.flatMap encL)) (hl : l.length ≤ 1000000) (hB : B ≤ w.heap.size) :
    Calls Try.prog 31 #[u, .func (.func 32) #[] #[]] w fun e w' =>
      e = .returned (.tuple #[]) ∧ w'.ownsRow B E 3 u (sortO l).length ((sortO l).flatMap encL) ∧ Below B w w' ∧ ∀ i, i < w.heap.size → u.ownBlock ≠ some i → w'.heap[i]? = w.heap[i]? := by
  have hlen : (sortO l).length = l.length := (sortO_perm l).length_eq
  by_cases hz : l = []
  · subst hz
    have e0 : sortO [] = [] := sortO_unique List.nodup_nil (List.Perm.refl _) List.Pairwise.nil
    obtain ⟨a, cap, rfl⟩ : ∃ a cap, u = .slice a 0 cap := by
      obtain ⟨_, ⟨h, _⟩ | ⟨g, cap, cur, hv, _⟩⟩ := ho
      · exact ⟨_, _, h⟩
      · exact ⟨_, _, hv⟩
    refine (AnyF.slices_SortFunc_none (P := Try.prog) (ρ := Try.sortLent_ren) { Try.sortLent with } a cap (.func (.func 32) #[] #[]) w).mono ?_
    rintro e w' ⟨rfl, rfl⟩
    exact ⟨rfl, by rw [e0]; exact ho, Below.refl _ _, fun _ _ _ => rfl⟩
  · obtain ⟨g, cap, cur, rfl, hb, hg, hc, h1, h2, h3, h4⟩ := own_blockK ho (fun e => hz (List.length_eq_zero_iff.1 e))
    refine (sortLent_any g cap l w hn (holds_ownK encL_len (by decide) hc h4) hg hl).mono ?_
    rintro e w' ⟨rfl, n, os, rfl⟩
    refine ⟨rfl, ?_, sortK_below (enc := encL) (k := 3) hb hB, fun i hi hne => ?_⟩
    · have := own_sortedK (B := B) (n := n) (os := os) (ss := l) (d := (sortO l).toArray) encL_len (by decide) (by simpa using hlen) hb hc h1 h2 h3
      rw [hlen]
      exact this
    · exact (grownBy_sorted' (enc := id) (w := w) (g := g) (n := n) (os := os) (flatK encL 3 (sortO l).toArray)).block i hi (fun e => hne (by first | exact e | exact e.symm))
end Go.Proofs.Ytenebamecmblaaa
