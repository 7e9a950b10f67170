/- Contracts of Sort (branch's, the reference's). -/
import Derived.Test.YtdhbjejejeljoaaGreatRef12b
import Derived.Test.YtdhbjejejeljoaaGreatOwnFr
import Derived.Test.YtdhbjejejeljoaaGreatShelf14
namespace Go.Proofs.YtdhbjejejeljoaaGreat
open Go.RowKit

/-- A slice that reads as these texts. -/
def ReadsS (w : World) (v : Value) (ss : List ByteArray) : Prop :=
  (ss = [] ∧ (v = .slice none 0 0 ∨ ∃ a cap, v = .slice (some a) 0 cap)) ∨ (∃ b off cap, v = .slice (some ⟨b, off, none⟩) ss.length cap ∧ b < w.heap.size ∧ ∀ j (hj : j < ss.length), w.cell? ⟨b, off + j, none⟩ = some (.string ss[j]))
def leS (x y : ByteArray) : Bool := !decide (cmpS y x < 0)
def sortS (ss : List ByteArray) : List ByteArray := ss.mergeSort leS

theorem ba_eq {a b : ByteArray} (h : a.data.toList = b.data.toList) : a = b := by
  rcases a with ⟨x⟩; rcases b with ⟨y⟩
  have : x = y := by apply Array.ext'; exact h
  rw [this]
theorem cmpS_neg (a b : ByteArray) : cmpS a b = - cmpS b a := by rw [cmpS_eq, cmpS_eq, cmpL_neg]
theorem cmpS_zero {a b : ByteArray} (h : cmpS a b = 0) : a = b := ba_eq (cmpL_zero _ _ (by rw [← cmpS_eq]; exact h))
theorem cmpS_refl (a : ByteArray) : cmpS a a = 0 := by rw [cmpS_eq, cmpL_refl]
theorem leS_iff (x y : ByteArray) : leS x y = true ↔ cmpS x y ≤ 0 := by
  unfold leS; rw [cmpS_neg y x]; simp
theorem leS_trans (a b c : ByteArray) (h : leS a b = true) (k : leS b c = true) : leS a c = true := by
  rw [leS_iff, cmpS_eq] at *; exact cmpL_le_trans h k
theorem leS_total (a b : ByteArray) : (leS a b || leS b a) = true := by
  rw [Bool.or_eq_true, leS_iff, leS_iff, cmpS_neg a b]; omega
theorem leS_antisymm (a b : ByteArray) (h : leS a b = true) (k : leS b a = true) : a = b := by
  rw [leS_iff] at h k; rw [cmpS_neg b a] at k; exact cmpS_zero (by omega)
theorem sortS_sorted (l : List ByteArray) : (sortS l).Pairwise (fun a b => leS a b = true) := List.pairwise_mergeSort leS_trans leS_total l
theorem sortS_perm (l : List ByteArray) : (sortS l).Perm l := List.mergeSort_perm l leS
/-- Sorted in whatever way: it is this list. -/
theorem sortS_unique {l m : List ByteArray} (hp : m.Perm l) (hs : m.Pairwise (fun a b => leS a b = true)) : sortS l = m :=
  ((sortS_perm l).trans hp.symm).eq_of_pairwise (fun a b _ _ => leS_antisymm a b) (sortS_sorted l) hs

theorem cmpS_swo : Go.Sort.SWO (Go.Proofs.ltOf cmpS) where
  irrefl x := by simp [Go.Proofs.ltOf, cmpS_refl]
  trans x y z h1 h2 := by
    simp only [Go.Proofs.ltOf, decide_eq_true_eq] at *
    rw [cmpS_eq] at *
    have a := (cmpL_val x.data.toList y.data.toList); have b := (cmpL_val y.data.toList z.data.toList)
    rw [cmpL_lt_trans _ _ _ (by omega : cmpL x.data.toList y.data.toList = -1) (by omega : cmpL y.data.toList z.data.toList = -1)]; omega
  ntrans x y z h1 h2 := by
    simp only [Go.Proofs.ltOf, decide_eq_false_iff_not] at *
    have a := leS_trans z y x ((leS_iff _ _).2 (by rw [cmpS_neg]; omega)) ((leS_iff _ _).2 (by rw [cmpS_neg]; omega))
    rw [leS_iff, cmpS_neg] at a; omega
theorem cmpS_total (x y : ByteArray) (h : Go.Proofs.ltOf cmpS x y = false) (k : Go.Proofs.ltOf cmpS y x = false) : x = y := by
  simp only [Go.Proofs.ltOf, decide_eq_false_iff_not] at h k
  rw [cmpS_neg y x] at k
  exact cmpS_zero (by omega)

theorem cmpReads (blk off size : Nat) (w : World) : Go.Proofs.CmpReads Tryz.prog 49 #[] Value.string cmpS blk off size w :=
  fun _ _ _ _ x y => (pathcmp_any x y _).mono fun _ _ ⟨he, hw⟩ => ⟨he, 0, by rw [← hw]; rfl⟩

/-- slices.SortFunc at this slice of paths. -/
theorem sortFunc_any (g cap : Nat) (l : List ByteArray) (w : World) (hH : Go.Sort.Holds Value.string w g 0 l.toArray) (hg : g < w.heap.size) (hl : l.length ≤ 1000) :
    Calls Tryz.prog 48 #[.slice (some ⟨g, 0, none⟩) l.length cap, .func (.func 49) #[] #[]] w fun e w' =>
      e = .returned (.tuple #[]) ∧ ∃ n os, w' = Go.Proofs.sortWorld Value.string w g 0 n (sortS l).toArray os := by
  have eg : ∀ args w, (callFunc 49 args).run Tryz.prog w = .ok (.enter 49 args) w := enters_of Tryz.func49 (by kernel_rfl) rfl
  have h := Any.slices_SortFunc_total Tryz.sortPath Value.string (fun _ => rfl) cmpS cmpS_swo 49 #[] g 0 cap l.toArray w eg (cmpReads g 0 _ w).lays hH hg (by simp; omega) cmpS_total
  exact h

/-- .. at a slice of the call's own, an empty one too. -/
theorem sortFunc_own {B : Nat} {E : TypeId} {u : Value} (l : List ByteArray) (w : World) (ho : w.ownsRow B E 1 u l.length (l.map .string)) (hl : l.length ≤ 1000) :
    Calls Tryz.prog 48 #[u, .func (.func 49) #[] #[]] w fun e w' =>
      e = .returned (.tuple #[]) ∧ w'.ownsRow B E 1 u (sortS l).length ((sortS l).map .string) ∧ Below B w w' := by
  have hlen : (sortS l).length = l.length := (sortS_perm l).length_eq
  by_cases hn : l = []
  · subst hn
    obtain ⟨a, cap, rfl⟩ := own_nil ho
    refine (AnyF.slices_SortFunc_none (P := Tryz.prog) (ρ := Tryz.sortPath_ren) { Tryz.sortPath with } a cap (.func (.func 49) #[] #[]) w).mono ?_
    rintro e w' ⟨rfl, rfl⟩
    exact ⟨rfl, by rw [sortS_unique (l := []) (m := []) (List.Perm.refl _) List.Pairwise.nil]; exact ho, Below.refl _ _⟩
  · obtain ⟨g, cap, cur, rfl, hb, hg, hc, h1, h2, h3, h4⟩ := own_block ho hn
    refine (sortFunc_any g cap l w (holds_own hc h4) hg hl).mono ?_
    rintro e w' ⟨rfl, n, os, rfl⟩
    have hlen' : (sortS l).length = l.length := hlen
    refine ⟨rfl, own_sorted hlen' hb hc h1 h2 h3, ?_⟩
    have G := grownBy_sorted' (enc := Value.string) (w := w) (g := g) (n := n) (os := os) (sortS l).toArray
    exact ⟨G.os, G.tape, G.output, G.size, fun k hk => G.block k (by omega) (by intro e; injection e with e; omega)⟩

theorem owns_mono {w : World} {B B' : Nat} {E : TypeId} {size : Nat} {v : Value} {n : Nat} {xs : List Value} (h : w.ownsRow B E size v n xs) (hb : B' ≤ B) : w.ownsRow B' E size v n xs := by
  obtain ⟨h0, h | ⟨g, cap, cur, h1, h2, h3⟩⟩ := h
  · exact ⟨h0, .inl h⟩
  · exact ⟨h0, .inr ⟨g, cap, cur, h1, by omega, h3⟩⟩

theorem info_str : (Tryz.prog.info? 9).map (fun i => (i.zero, i.size, i.bytes)) = some (some (.string ⟨#[]⟩), 1, 16) := by kernel_rfl
theorem info_path : (Tryz.prog.info? 109).map (fun i => (i.zero, i.size, i.bytes)) = some (some (.string ⟨#[]⟩), 1, 16) := by kernel_rfl

theorem reads_cell {w : World} {v : Value} {ss : List ByteArray} (h : ReadsS w v ss) (hl : 0 < ss.length) :
    ∃ b off cap, v = .slice (some ⟨b, off, none⟩) ss.length cap ∧ b < w.heap.size ∧ ∀ j (hj : j < ss.length), w.cell? ⟨b, off + j, none⟩ = some (.string ss[j]) := by
  rcases h with ⟨h, _⟩ | h
  · subst h; simp at hl
  · exact h
theorem take_map_snoc {α β : Type} (f : α → β) (l : List α) (k : Nat) (h : k < l.length) : (l.map f).take (k + 1) = (l.map f).take k ++ [f l[k]] := by
  rw [List.take_succ_eq_append_getElem (by simpa using h), List.getElem_map]

/-- The relation of the first loop: what was taken up to now lies in a row of the call's own. -/
def Took (B : Nat) (E : TypeId) (ss : List ByteArray) (w : World) (k : Nat) (v : Value) (wr : World) : Prop :=
  wr.ownsRow B E 1 v k ((ss.map .string).take k) ∧ Below w.heap.size w wr
theorem Took.next {B : Nat} {E : TypeId} {ss : List ByteArray} {w : World} {k : Nat} {v v' : Value} {wr w' : World} {o : Obj} (h : Took B E ss w k v wr) (hB : w.heap.size ≤ B) (hk : k < ss.length)
    (hown : w'.ownsRow B E 1 v' (k + 1) ((ss.map .string).take k ++ [.string ss[k]])) (hg : (wr.alloc o).grownBy w' v.ownBlock) : Took B E ss w (k + 1) v' w' := by
  refine ⟨by rw [take_map_snoc _ _ _ hk]; exact hown, ?_⟩
  refine (h.2.alloc h.2.size o).grown hg (by have := h.2.size; simp; omega) (fun b hb => ?_)
  obtain ⟨_, ⟨rfl, _⟩ | ⟨g, cap, cur, rfl, hb2, _⟩⟩ := h.1
  · cases hb
  · simp [Value.ownBlock] at hb; omega

set_option maxHeartbeats 1600000 in
set_option maxRecDepth 100000 in
theorem sort_any (v : Value) (ss : List ByteArray) (w : World) (hv : ReadsS w v ss) (hl : ss.length ≤ 1000) :
    Calls Tryz.prog 28 #[v] w fun e w' => ∃ v', e = .returned v' ∧ w'.ownsRow w.heap.size 9 1 v' (sortS ss).length ((sortS ss).map .string) ∧ Below w.heap.size w w' := by
  obtain ⟨ip, hip, hp0, hp1, hp2⟩ := info_parts info_path
  obtain ⟨is, his, hs0, hs1, hs2⟩ := info_parts info_str
  obtain ⟨a, cap, rfl⟩ : ∃ a cap, v = .slice a ss.length cap := by
    rcases hv with ⟨rfl, rfl | ⟨a, cap, rfl⟩⟩ | ⟨b, off, cap, rfl, _⟩ <;> exact ⟨_, _, rfl⟩
  have HV := Lib.hid hv
  clear hv
  go_enter Tryz.func28, Tryz.ntmps28
  go_wp2_with fail
  go_loopw [3, 11] (fun u i wr => ∃ k : Nat, k ≤ ss.length ∧ i = .int .i64 k ∧ Took w.heap.size 109 ss w k u wr) (fun _ i _ => ss.length - (intOf i).toNat)
  case atStart => exact ⟨0, Nat.zero_le _, rfl, World.ownsRow_nil _ _ _ _, Below.refl _ _⟩
  case round =>
    obtain ⟨k, hk, rfl, hT⟩ := hrel
    by_cases hlt : k < ss.length
    · obtain ⟨b, off, cap', he, hb, hc⟩ := reads_cell HV.out (by omega)
      injection he with he1 he2 he3
      subst he1
      have hcell := (hT.2.cell (p := ⟨b, off + k, none⟩) hb).trans (hc k hlt)
      have hown := hT.1
      clear hc he3 HV
      go_wp2_with (at_builtin; refine wpList_append_own _ rfl _ _ 114 rfl w.heap.size 109 ip (.string ⟨#[]⟩) 1 16 Tryz.underlying114 hip hp0 hp1 hp2 rfl (by decide) _ _ _ rfl (hown.alloc _) ⟨wr.heap.size, 0, none⟩ 1 1 [.string ss[k]] rfl rfl ?c1 ?c2 ?c3 ?c4 ?c5 ?_)
      case c2 => rfl
      case c3 => unfold maxLen; omega
      case c4 => omega
      case c5 => have := hT.2.size; simp; omega
      intro v' w1 hown' hgrow _
      have hT2 := hT.next (Nat.le_refl _) hlt hown' hgrow
      clear hT hown hown' hgrow hcell
      go_wp2
      go_roundw
      case rel => exact ⟨k + 1, by omega, by go_num, hT2⟩
      case measure => simp [intOf]; omega
    · have hke : k = ss.length := by omega
      subst hke
      have hown := hT.1
      have hB := hT.2
      rw [List.take_of_length_le (by simp)] at hown
      clear hT
      go_wp2_with fail
      refine (sortFunc_own ss _ hown hl).mono ?_
      rintro e w2 ⟨rfl, hown2, hB2⟩
      have hB3 := hB.trans hB2
      have hsz := hB.size
      have hsz2 := hB2.size
      clear hB hB2 hown hk
      have hll := Lib.hid (sortS_perm ss).length_eq
      have hll2 : (sortS ss).length ≤ 1000 := by rw [hll.out]; exact hl
      obtain ⟨a2, cap2, rfl⟩ : ∃ a2 cap2, u3 = .slice a2 (sortS ss).length cap2 := by
        obtain ⟨_, ⟨h, h'⟩ | ⟨g, c, cur, h, _⟩⟩ := hown2
        · exact ⟨none, 0, by rw [h, h']⟩
        · exact ⟨_, _, h⟩
      have OW := Lib.hid hown2
      clear hown2
      generalize hts : sortS ss = ts at *
      have HS := Lib.hid hts
      clear hts
      go_wp2_with fail
      obtain ⟨wo, rfl⟩ : ∃ wo : World, wo = wr := ⟨_, rfl⟩
      go_loopw [6, 24] (fun u i wq => ∃ k : Nat, k ≤ ts.length ∧ i = .int .i64 k ∧ Took w2.heap.size 9 ts w2 k u wq) (fun _ i _ => ts.length - (intOf i).toNat)
      case atStart => exact ⟨0, Nat.zero_le _, rfl, World.ownsRow_nil _ _ _ _, Below.refl _ _⟩
      case round =>
        obtain ⟨k, hk, rfl, hT⟩ := hrel
        by_cases hlt : k < ts.length
        · obtain ⟨g, cap', cur, he, hb, hg, hc, h1, h2, h3, h4⟩ := own_block OW.out (by intro e; rw [e] at hlt; simp at hlt)
          injection he with he1 he2 he3
          subst he1
          have hcell := (hT.2.cell (p := ⟨g, k, none⟩) hg).trans (cell_of_take hc h4 k hlt)
          have hown := hT.1
          clear he3 hc h4 h3 OW
          go_wp2_with (at_builtin; refine wpList_append_own _ rfl _ _ 87 rfl w2.heap.size 9 is (.string ⟨#[]⟩) 1 16 Tryz.underlying87 his hs0 hs1 hs2 rfl (by decide) _ _ _ rfl (hown.alloc _) ⟨wr.heap.size, 0, none⟩ 1 1 [.string ts[k]] rfl rfl ?d1 ?d2 ?d3 ?d4 ?d5 ?_)
          case d2 => rfl
          case d3 => unfold maxLen; omega
          case d4 => omega
          case d5 => have := hT.2.size; simp; omega
          intro v' w4 hown' hgrow _
          have hT2 := hT.next (Nat.le_refl _) hlt hown' hgrow
          clear hT hown hown' hgrow hcell
          go_wp2
          go_roundw
          case rel => exact ⟨k + 1, by omega, by go_num, hT2⟩
          case measure => simp [intOf]; omega
        · have hke : k = ts.length := by omega
          subst hke
          have hown := hT.1
          have hB := hT.2
          rw [List.take_of_length_le (by simp)] at hown
          clear hT OW
          go_wp2
          go_ret
          refine ⟨u6, rfl, ?_, hB3.trans (hB.mono (by omega))⟩
          rw [HS.out]
          exact owns_mono hown (by omega)
end Go.Proofs.YtdhbjejejeljoaaGreat
