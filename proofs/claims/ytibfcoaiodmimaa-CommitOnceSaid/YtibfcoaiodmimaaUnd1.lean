/- The order of entries by their paths; slices.SortFunc at an own slice of entries. -/
import Derived.Test.YtibfcoaiodmimaaLed2
import Derived.Test.YtibfcoaiodmimaaOwnK
import Derived.Test.YtibfcoaiodmimaaShelf24
import Derived.Test.YtibfcoaiodmimaaPlain12
import Derived.Deep.AppendLies
namespace Go.Proofs.Ytibfcoaiodmimaa
open Go.RowKit Go.Sort Go.Lib Go.Shelf

def cmpI (a b : Int) : Int := if a < b then -1 else if b < a then 1 else 0
set_option maxHeartbeats 400000 in
theorem isNaNI (a : Int) (w : World) : Calls Try.prog 36 #[.int .i64 a] w fun e w' => e = .returned (.bool false) ∧ w = w' := by
  go_enter Try.func36, Try.ntmps36
  go_wp2
  go_ret
  exact ⟨ret_bool rfl, rfl⟩
set_option maxHeartbeats 400000 in
theorem cmpI_any (a b : Int) (w : World) : Calls Try.prog 24 #[.int .i64 a, .int .i64 b] w fun e w' => e = .returned (.int .i64 (cmpI a b)) ∧ w' = w := by
  rcases (show a < b ∨ (¬ a < b ∧ b < a) ∨ (¬ a < b ∧ ¬ b < a) by omega) with h1 | ⟨h1, h2⟩ | ⟨h1, h2⟩
  · have hf := Lib.hid (show cmpI a b = -1 by simp [cmpI, h1])
    go_enter Try.func24, Try.ntmps24
    go_wp2_with (go_at_call 36; refine (isNaNI _ _).mono ?_; rintro e w' ⟨rfl, rfl⟩)
    go_ret
    exact ⟨ret_int hf.out.symm, rfl⟩
  · have hf := Lib.hid (show cmpI a b = 1 by simp [cmpI, h1, h2])
    go_enter Try.func24, Try.ntmps24
    go_wp2_with (go_at_call 36; refine (isNaNI _ _).mono ?_; rintro e w' ⟨rfl, rfl⟩)
    go_ret
    exact ⟨ret_int hf.out.symm, rfl⟩
  · have hf := Lib.hid (show cmpI a b = 0 by simp [cmpI, h1, h2])
    go_enter Try.func24, Try.ntmps24
    go_wp2_with (go_at_call 36; refine (isNaNI _ _).mono ?_; rintro e w' ⟨rfl, rfl⟩)
    go_ret
    exact ⟨ret_int hf.out.symm, rfl⟩

theorem ba_eqP {a b : ByteArray} (h : a.data.toList = b.data.toList) : a = b := by
  rcases a with ⟨x⟩; rcases b with ⟨y⟩
  have : x = y := by apply Array.ext'; exact h
  rw [this]
theorem cmpS_negP (a b : ByteArray) : cmpS a b = - cmpS b a := by rw [cmpS_eq, cmpS_eq, cmpL_neg]
theorem cmpS_zeroP {a b : ByteArray} (h : cmpS a b = 0) : a = b := ba_eqP (cmpL_zero _ _ (by rw [← cmpS_eq]; exact h))
theorem cmpS_leP {a b c : ByteArray} (h : cmpS a b ≤ 0) (k : cmpS b c ≤ 0) : cmpS a c ≤ 0 := by
  rw [cmpS_eq] at *; exact cmpL_le_trans h k
theorem cmpS_three (a b : ByteArray) : cmpI (cmpS a b) 0 = cmpS a b := by
  have h : cmpS a b = -1 ∨ cmpS a b = 0 ∨ cmpS a b = 1 := by
    unfold cmpS
    split
    · exact .inl rfl
    · split
      · exact .inr (.inl rfl)
      · exact .inr (.inr rfl)
  rcases h with h | h | h <;> rw [h] <;> rfl
def cmpE (x y : Ent) : Int := cmpS x.1.2 y.1.2
theorem cmpE_neg (x y : Ent) : cmpE x y = - cmpE y x := cmpS_negP _ _
theorem cmpE_trans {x y z : Ent} (h : cmpE x y ≤ 0) (k : cmpE y z ≤ 0) : cmpE x z ≤ 0 := cmpS_leP h k

theorem grown2 (w : World) (a b : Obj) : ∃ q os, (w.alloc a).alloc b = grow (w.drewN q) os := by
  refine ⟨0, #[a, b], ?_⟩
  simp only [grow, World.alloc, World.drewN]
  congr 1
set_option maxHeartbeats 800000 in
set_option maxRecDepth 100000 in
theorem undCmp (x y : Ent) (w : World) :
    Calls Try.prog 23 #[.agg #[.int .u64 x.1.1, .string x.1.2, .int .i64 x.2.1, .int .i64 x.2.2.1, .int .i64 x.2.2.2], .agg #[.int .u64 y.1.1, .string y.1.2, .int .i64 y.2.1, .int .i64 y.2.2.1, .int .i64 y.2.2.2]] w fun e w' =>
      e = .returned (.int .i64 (cmpE x y)) ∧ ∃ q os, w' = grow (w.drewN q) os := by
  go_enter Try.func23, Try.ntmps23
  go_wp2_with fail
  refine (compare_any x.1.2 y.1.2 _).mono ?_
  rintro e w1 ⟨rfl, rfl⟩
  go_wp2_with fail
  refine (cmpI_any _ _ _).mono ?_
  rintro e w1 ⟨rfl, rfl⟩
  rw [cmpS_three]
  go_wp2_with fail
  go_ret
  exact ⟨rfl, grown2 w _ _⟩

def leE (x y : Ent) : Bool := !decide (cmpE y x < 0)
def sortE (l : List Ent) : List Ent := l.mergeSort leE
theorem leE_iff (x y : Ent) : leE x y = true ↔ cmpE x y ≤ 0 := by
  unfold leE; rw [cmpE_neg y x]; simp
theorem sortE_perm (l : List Ent) : (sortE l).Perm l := List.mergeSort_perm l leE
theorem sortE_sorted (l : List Ent) : (sortE l).Pairwise (fun a b => leE a b = true) :=
  List.pairwise_mergeSort (fun a b c h k => by rw [leE_iff] at *; exact cmpE_trans h k)
    (fun a b => by rw [Bool.or_eq_true, leE_iff, leE_iff, cmpE_neg a b]; omega) l
/-- Sorted in whatever way, the paths being apart: it is this list. -/
theorem sortE_unique {l m : List Ent} (hn : (l.map (·.1.2)).Nodup) (hp : m.Perm l) (hs : m.Pairwise (fun a b => leE a b = true)) : sortE l = m := by
  refine ((sortE_perm l).trans hp.symm).eq_of_pairwise (fun a b ha hb h k => ?_) (sortE_sorted l) hs
  have ha' := (sortE_perm l).mem_iff.1 ha
  have hb' := hp.mem_iff.1 hb
  have h0 : cmpE a b = 0 := by
    have h1 := (leE_iff _ _).1 h
    have h2 := (leE_iff _ _).1 k
    rw [cmpE_neg] at h2; omega
  have he : a.1.2 = b.1.2 := cmpS_zeroP h0
  obtain ⟨i, hi, rfl⟩ := List.getElem_of_mem ha'
  obtain ⟨j, hj, rfl⟩ := List.getElem_of_mem hb'
  have hpw := List.pairwise_iff_getElem.1 hn
  rcases Nat.lt_trichotomy i j with e | e | e
  · exact absurd (by rw [List.getElem_map, List.getElem_map]; exact he) (hpw i j (by simpa using hi) (by simpa using hj) e)
  · subst e; rfl
  · exact absurd (by rw [List.getElem_map, List.getElem_map]; exact he.symm) (hpw j i (by simpa using hj) (by simpa using hi) e)
theorem cmpE_swo : Go.Sort.SWO (Go.Proofs.ltOf cmpE) where
  irrefl x := by
    have : cmpE x x = 0 := by have := cmpE_neg x x; omega
    simp [Go.Proofs.ltOf, this]
  trans x y z h1 h2 := by
    simp only [Go.Proofs.ltOf, decide_eq_true_eq] at *
    rcases Int.lt_or_le (cmpE x z) 0 with h | h
    · exact h
    · have h3 : cmpE z x ≤ 0 := by rw [cmpE_neg]; omega
      have h4 := cmpE_trans (Int.le_of_lt h2) h3
      rw [cmpE_neg] at h4
      omega
  ntrans x y z h1 h2 := by
    simp only [Go.Proofs.ltOf, decide_eq_false_iff_not] at *
    have a := cmpE_trans (x := z) (y := y) (z := x) (by rw [cmpE_neg]; omega) (by rw [cmpE_neg]; omega)
    rw [cmpE_neg] at a; omega
theorem encE_len (p : Ent) : (encE p).length = 5 := rfl
abbrev ET : TypeId := 38

theorem cmpELays (blk off size : Nat) (w : World) : Go.Proofs.CmpLays Try.prog 23 #[] encE 5 cmpE blk off size w :=
  fun _ _ _ _ x y => undCmp x y _

theorem sortEnts_any (g cap : Nat) (l : List Ent) (w : World) (hn : (l.map (·.1.2)).Nodup) (hH : Go.Sort.HoldsK encE 5 w g 0 l.toArray) (hg : g < w.heap.size) (hl : l.length ≤ 1000000) :
    Calls Try.prog 22 #[.slice (some ⟨g, 0, none⟩) l.length cap, .func (.func 23) #[] #[]] w fun e w' =>
      e = .returned (.tuple #[]) ∧ ∃ n os, w' = sortWorldK encE 5 w g 0 n (sortE l).toArray os := by
  have eg : ∀ args w, (callFunc 23 args).run Try.prog w = .ok (.enter 23 args) w := enters_of Try.func23 (by kernel_rfl) rfl
  have h := AnyQ.slices_SortFunc Try.sortEntry 5 (fun _ => by kernel_rfl) (fun _ => by kernel_rfl) encE encE_len (fun x v hv => by simp [encE] at hv; rcases hv with rfl | rfl | rfl | rfl | rfl <;> rfl) cmpE cmpE_swo 23 #[] g 0 cap l.toArray w eg (cmpELays g 0 _ w) hH hg (by simp; omega)
  refine h.mono ?_
  rintro e w' ⟨rfl, d', n, os, hp, hs, rfl⟩
  refine ⟨rfl, n, os, ?_⟩
  have e : sortE l = d'.toList := by
    refine sortE_unique hn ?_ ?_
    · have := hp.2.2
      have hsz : d'.size = l.length := by simpa using hp.1
      have ht : List.take d'.size l = l := by rw [hsz]; exact List.take_length
      simpa [← hsz, ht] using this
    · rw [List.pairwise_iff_getElem]
      intro i j hi hj hij
      have hsz := hp.1
      have hj' : j < d'.size := by simpa using hj
      have := hs i j (Nat.zero_le _) hij (by rw [← hsz]; exact hj')
      simp only [Go.Proofs.ltOf, decide_eq_false_iff_not] at this
      rw [getElem!_pos d' j (by omega), getElem!_pos d' i (by omega)] at this
      rw [leE_iff]
      simp only [Array.getElem_toList]
      rw [cmpE_neg]; omega
  rw [e]

/-- .. at a slice of the call's own, an empty one too. -/
theorem sortEnts_own {B : Nat} {E : TypeId} {u : Value} (l : List Ent) (w : World) (hn : (l.map (·.1.2)).Nodup) (ho : w.ownsRow B E 5 u l.length (l.flatMap encE)) (hl : l.length ≤ 1000000) (hB : B ≤ w.heap.size) :
    Calls Try.prog 22 #[u, .func (.func 23) #[] #[]] w fun e w' =>
      e = .returned (.tuple #[]) ∧ w'.ownsRow B E 5 u (sortE l).length ((sortE l).flatMap encE) ∧ Below B w w' := by
  have hlen : (sortE l).length = l.length := (sortE_perm l).length_eq
  by_cases hz : l = []
  · subst hz
    have e0 : sortE [] = [] := sortE_unique List.nodup_nil (List.Perm.refl _) List.Pairwise.nil
    obtain ⟨a, cap, rfl⟩ : ∃ a cap, u = .slice a 0 cap := by
      obtain ⟨_, ⟨h, _⟩ | ⟨g, cap, cur, hv, _⟩⟩ := ho
      · exact ⟨_, _, h⟩
      · exact ⟨_, _, hv⟩
    refine (AnyF.slices_SortFunc_none (P := Try.prog) (ρ := Try.sortEntry_ren) { Try.sortEntry with } a cap (.func (.func 23) #[] #[]) w).mono ?_
    rintro e w' ⟨rfl, rfl⟩
    exact ⟨rfl, by rw [e0]; exact ho, Below.refl _ _⟩
  · obtain ⟨g, cap, cur, rfl, hb, hg, hc, h1, h2, h3, h4⟩ := own_blockK ho (fun e => hz (List.length_eq_zero_iff.1 e))
    refine (sortEnts_any g cap l w hn (holds_ownK encE_len (by decide) hc h4) hg hl).mono ?_
    rintro e w' ⟨rfl, n, os, rfl⟩
    refine ⟨rfl, ?_, sortK_below (enc := encE) (k := 5) hb hB⟩
    have := own_sortedK (B := B) (n := n) (os := os) (ss := l) (d := (sortE l).toArray) encE_len (by decide) (by simpa using hlen) hb hc h1 h2 h3
    rw [hlen]
    simpa using this
end Go.Proofs.Ytibfcoaiodmimaa
