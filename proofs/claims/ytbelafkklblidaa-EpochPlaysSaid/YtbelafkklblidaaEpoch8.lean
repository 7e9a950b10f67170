/- The order of grants; slices.SortFunc at an own slice of grants. -/
import Derived.Test.YtbelafkklblidaaEpoch7
import Derived.Test.YtbelafkklblidaaOwnK
import Derived.Test.YtbelafkklblidaaShelf22
namespace Go.Proofs.Ytbelafkklblidaa
open Go.RowKit Go.Sort Go.Lib Go.Shelf

theorem ba_eqP {a b : ByteArray} (h : a.data.toList = b.data.toList) : a = b := by
  rcases a with ⟨x⟩; rcases b with ⟨y⟩
  have : x = y := by apply Array.ext'; exact h
  rw [this]
theorem cmpS_negP (a b : ByteArray) : cmpS a b = - cmpS b a := by rw [cmpS_eq, cmpS_eq, cmpL_neg]
theorem cmpS_zeroP {a b : ByteArray} (h : cmpS a b = 0) : a = b := ba_eqP (cmpL_zero _ _ (by rw [← cmpS_eq]; exact h))
theorem cmpS_reflP (a : ByteArray) : cmpS a a = 0 := by rw [cmpS_eq, cmpL_refl]
theorem cmpS_leP {a b c : ByteArray} (h : cmpS a b ≤ 0) (k : cmpS b c ≤ 0) : cmpS a c ≤ 0 := by
  rw [cmpS_eq] at *; exact cmpL_le_trans h k

theorem cmpG_neg (x y : Gr) : cmpG x y = - cmpG y x := by
  have h := cmpS_negP x.1.2 y.1.2
  unfold cmpG orI cmpU
  repeat' split
  all_goals omega
theorem cmpG_le (x y : Gr) : cmpG x y ≤ 0 ↔ x.1.1 < y.1.1 ∨ (x.1.1 = y.1.1 ∧ cmpS x.1.2 y.1.2 ≤ 0) := by
  unfold cmpG orI cmpU
  by_cases h1 : x.1.1 < y.1.1
  · simp [h1]
  · by_cases h2 : y.1.1 < x.1.1
    · have h3 : ¬ x.1.1 = y.1.1 := by omega
      simp [h1, h2, h3]
    · have h3 : x.1.1 = y.1.1 := by omega
      simp [h3]
theorem cmpG_trans {x y z : Gr} (h : cmpG x y ≤ 0) (k : cmpG y z ≤ 0) : cmpG x z ≤ 0 := by
  rw [cmpG_le] at *
  rcases h with h | ⟨h, h'⟩ <;> rcases k with k | ⟨k, k'⟩
  · exact .inl (by omega)
  · exact .inl (by omega)
  · exact .inl (by omega)
  · exact .inr ⟨by omega, cmpS_leP h' k'⟩
theorem cmpG_antisymm {x y : Gr} (h : cmpG x y ≤ 0) (k : cmpG y x ≤ 0) : x.1 = y.1 := by
  rw [cmpG_le] at *
  have e1 : x.1.1 = y.1.1 := by rcases h with h | ⟨h, _⟩ <;> rcases k with k | ⟨k, _⟩ <;> omega
  have e2 : x.1.2 = y.1.2 := by
    rcases h with h | ⟨_, h⟩
    · omega
    · rcases k with k | ⟨_, k⟩
      · omega
      · rw [cmpS_negP] at k; exact cmpS_zeroP (by omega)
  exact Prod.ext e1 e2

def leG (x y : Gr) : Bool := !decide (cmpG y x < 0)
def sortG (l : List Gr) : List Gr := l.mergeSort leG
theorem leG_iff (x y : Gr) : leG x y = true ↔ cmpG x y ≤ 0 := by
  unfold leG; rw [cmpG_neg y x]; simp
theorem sortG_perm (l : List Gr) : (sortG l).Perm l := List.mergeSort_perm l leG
theorem sortG_sorted (l : List Gr) : (sortG l).Pairwise (fun a b => leG a b = true) :=
  List.pairwise_mergeSort (fun a b c h k => by rw [leG_iff] at *; exact cmpG_trans h k)
    (fun a b => by rw [Bool.or_eq_true, leG_iff, leG_iff, cmpG_neg a b]; omega) l
theorem eq_of_key {l : List Gr} (hn : (l.map (·.1)).Nodup) {a b : Gr} (ha : a ∈ l) (hb : b ∈ l) (h : a.1 = b.1) : a = b := by
  obtain ⟨i, hi, rfl⟩ := List.getElem_of_mem ha
  obtain ⟨j, hj, rfl⟩ := List.getElem_of_mem hb
  have : i = j := idx_only hn hi hj rfl h.symm
  subst this; rfl
/-- Sorted in whatever way, the names being apart: it is this list. -/
theorem sortG_unique {l m : List Gr} (hn : (l.map (·.1)).Nodup) (hp : m.Perm l) (hs : m.Pairwise (fun a b => leG a b = true)) : sortG l = m :=
  ((sortG_perm l).trans hp.symm).eq_of_pairwise (fun _a _b ha hb h k => eq_of_key hn ((sortG_perm l).mem_iff.1 ha) (hp.mem_iff.1 hb) (cmpG_antisymm ((leG_iff _ _).1 h) ((leG_iff _ _).1 k))) (sortG_sorted l) hs

theorem cmpG_swo : Go.Sort.SWO (Go.Proofs.ltOf cmpG) where
  irrefl x := by
    have : cmpG x x = 0 := by have := cmpG_neg x x; omega
    simp [Go.Proofs.ltOf, this]
  trans x y z h1 h2 := by
    simp only [Go.Proofs.ltOf, decide_eq_true_eq] at *
    rcases Int.lt_or_le (cmpG x z) 0 with h | h
    · exact h
    · have h3 : cmpG z x ≤ 0 := by rw [cmpG_neg]; omega
      have h4 := cmpG_trans (Int.le_of_lt h2) h3
      rw [cmpG_neg] at h4
      omega
  ntrans x y z h1 h2 := by
    simp only [Go.Proofs.ltOf, decide_eq_false_iff_not] at *
    have a := cmpG_trans (x := z) (y := y) (z := x) (by rw [cmpG_neg]; omega) (by rw [cmpG_neg]; omega)
    rw [cmpG_neg] at a; omega

def encG (p : Gr) : List Value := [.int .u64 p.1.1, .string p.1.2, .int .u64 p.2]
theorem encG_len (p : Gr) : (encG p).length = 3 := rfl

theorem cmpGLays (blk off size : Nat) (w : World) : Go.Proofs.CmpLays Try.prog 35 #[] encG 3 cmpG blk off size w :=
  fun _ _ _ _ x y => rowsCmp x y _

theorem sortGrants_any (g cap : Nat) (l : List Gr) (w : World) (hn : (l.map (·.1)).Nodup) (hH : Go.Sort.HoldsK encG 3 w g 0 l.toArray) (hg : g < w.heap.size) (hl : l.length ≤ 1000000) :
    Calls Try.prog 34 #[.slice (some ⟨g, 0, none⟩) l.length cap, .func (.func 35) #[] #[]] w fun e w' =>
      e = .returned (.tuple #[]) ∧ ∃ n os, w' = sortWorldK encG 3 w g 0 n (sortG l).toArray os := by
  have eg : ∀ args w, (callFunc 35 args).run Try.prog w = .ok (.enter 35 args) w := enters_of Try.func35 (by kernel_rfl) rfl
  have h := AnyQ.slices_SortFunc Try.sortGrant 3 (fun _ => by kernel_rfl) (fun _ => by kernel_rfl) encG encG_len (fun x v hv => by simp [encG] at hv; rcases hv with rfl | rfl | rfl <;> rfl) cmpG cmpG_swo 35 #[] g 0 cap l.toArray w eg (cmpGLays g 0 _ w) hH hg (by simp; omega)
  refine h.mono ?_
  rintro e w' ⟨rfl, d', n, os, hp, hs, rfl⟩
  refine ⟨rfl, n, os, ?_⟩
  have e : sortG l = d'.toList := by
    refine sortG_unique hn ?_ ?_
    · have := hp.2.2
      have hsz : d'.size = l.length := by simpa using hp.1
      have ht : List.take d'.size l = l := by rw [hsz]; exact List.take_length
      simpa [← hsz, ht] using this
    · rw [List.pairwise_iff_getElem]
      intro i j hi hj hij
      have hsz := hp.1
      have hj' : j < d'.size := by simpa using hj
      have := hs i j (Nat.zero_le _) hij (by rw [← hsz]; exact hj')
      simp only [Go.Proofs.ltOf, decide_eq_false_iff_not] at this
      rw [getElem!_pos d' j (by omega), getElem!_pos d' i (by omega)] at this
      rw [leG_iff]
      simp only [Array.getElem_toList]
      rw [cmpG_neg]; omega
  rw [e]

/-- .. at a slice of the call's own, an empty one too. -/
theorem sortGrants_own {B : Nat} {E : TypeId} {u : Value} (l : List Gr) (w : World) (hn : (l.map (·.1)).Nodup) (ho : w.ownsRow B E 3 u l.length (l.flatMap encG)) (hl : l.length ≤ 1000000) (hB : B ≤ w.heap.size) :
    Calls Try.prog 34 #[u, .func (.func 35) #[] #[]] w fun e w' =>
      e = .returned (.tuple #[]) ∧ w'.ownsRow B E 3 u (sortG l).length ((sortG l).flatMap encG) ∧ Below B w w' := by
  have hlen : (sortG l).length = l.length := (sortG_perm l).length_eq
  by_cases hz : l = []
  · subst hz
    have e0 : sortG [] = [] := sortG_unique List.nodup_nil (List.Perm.refl _) List.Pairwise.nil
    obtain ⟨a, cap, rfl⟩ : ∃ a cap, u = .slice a 0 cap := by
      obtain ⟨_, ⟨h, _⟩ | ⟨g, cap, cur, hv, _⟩⟩ := ho
      · exact ⟨_, _, h⟩
      · exact ⟨_, _, hv⟩
    refine (AnyF.slices_SortFunc_none (P := Try.prog) (ρ := Try.sortGrant_ren) { Try.sortGrant with } a cap (.func (.func 35) #[] #[]) w).mono ?_
    rintro e w' ⟨rfl, rfl⟩
    exact ⟨rfl, by rw [e0]; exact ho, Below.refl _ _⟩
  · obtain ⟨g, cap, cur, rfl, hb, hg, hc, h1, h2, h3, h4⟩ := own_blockK ho (fun e => hz (List.length_eq_zero_iff.1 e))
    refine (sortGrants_any g cap l w hn (holds_ownK encG_len (by decide) hc h4) hg hl).mono ?_
    rintro e w' ⟨rfl, n, os, rfl⟩
    refine ⟨rfl, ?_, sortK_below (enc := encG) (k := 3) hb hB⟩
    have := own_sortedK (B := B) (n := n) (os := os) (ss := l) (d := (sortG l).toArray) encG_len (by decide) (by simpa using hlen) hb hc h1 h2 h3
    rw [hlen]
    exact this
end Go.Proofs.Ytbelafkklblidaa
