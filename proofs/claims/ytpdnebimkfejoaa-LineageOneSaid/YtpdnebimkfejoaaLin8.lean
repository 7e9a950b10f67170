/- slices.SortFunc at an own slice of pointers to roots: sorted by names. -/
import Derived.Test.YtpdnebimkfejoaaLin7
import Derived.Test.YtpdnebimkfejoaaOwn
import Derived.Test.YtpdnebimkfejoaaShelf25
import Derived.Shelf.SlSortCmp.NoneTotal
import Derived.Deep.RegionHeld3
namespace Go.Proofs.Ytpdnebimkfejoaa
open Go.RowKit Go.Sort Go.Lib Go.Shelf

theorem grown1 (w : World) (a : Obj) : ∃ q os, (w.alloc a).drew = grow (w.drewN q) os := by
  refine ⟨1, #[a], ?_⟩
  simp only [grow, World.alloc, World.drew, World.drewN]
  congr 1
set_option maxHeartbeats 3200000 in
set_option maxRecDepth 100000 in
theorem rowsCmp (a b : Nm) (ra rb : Rw) (ba bb : Nat) (w : World) (ha : w.heap[ba]? = some (rowO a ra)) (hb : w.heap[bb]? = some (rowO b rb)) :
    Calls Try.prog 59 #[.pointer (some ⟨ba, 0, none⟩), .pointer (some ⟨bb, 0, none⟩)] w fun e w' => e = .returned (.int .i64 (cmpN a b)) ∧ ∃ q os, w' = grow (w.drewN q) os := by
  have k0 : w.cell? ⟨ba, 0, none⟩ = some (.int .u64 a.1) := row_cells ha 0
  have k1 : w.cell? ⟨ba, 1, none⟩ = some (.string a.2) := row_cells ha 1
  have j0 : w.cell? ⟨bb, 0, none⟩ = some (.int .u64 b.1) := row_cells hb 0
  have j1 : w.cell? ⟨bb, 1, none⟩ = some (.string b.2) := row_cells hb 1
  have hal : ∀ (o : Obj) (a : Addr) (v : Value), w.cell? a = some v → (w.alloc o).cell? a = some v := fun o a v h => cell_keep ((Below.refl w.heap.size w).alloc (Nat.le_refl _) o) h
  have a0 := fun o => hal o _ _ k0
  have a1 := fun o => hal o _ _ k1
  have b0 := fun o => hal o _ _ j0
  have b1 := fun o => hal o _ _ j1
  clear ha hb hal
  go_enter Try.func59, Try.ntmps59
  go_wp2_with fail
  go_region_held3 (fun w' => w'.cell? ⟨ba, 0, none⟩ = some (.int .u64 a.1) ∧ w'.cell? ⟨ba, 1, none⟩ = some (.string a.2) ∧ w'.cell? ⟨bb, 0, none⟩ = some (.int .u64 b.1) ∧ w'.cell? ⟨bb, 1, none⟩ = some (.string b.2)) ((simp [go_sem, k0, k1, j0, j1, a0, a1, b0, b1]))
    (first
      | (go_at_call 61; refine (cmpU_any _ _ _).mono ?_; rintro e w' ⟨rfl, rfl⟩)
      | (go_at_call 62; refine (compare_any _ _ _).mono ?_; rintro e w' ⟨rfl, rfl⟩)
      | (go_at_call 60; refine (or_any _ (cmpU a.1 b.1) (cmpS a.2 b.2) _ (by simp [go_sem]) (by simp [go_sem])).mono ?_; rintro e w' ⟨rfl, rfl⟩))
  all_goals
    go_wp2_with fail
    go_ret
    exact ⟨ret_int rfl, grown1 w _⟩
/-- A root that lies in this world. -/
abbrev Lies (w : World) : Type := { p : Nm × Nat × Rw // w.heap[p.2.1]? = some (rowO p.1 p.2.2) }
def cmpPt {w : World} (x y : Lies w) : Int := cmpN x.1.1 y.1.1
def encPt {w : World} (x : Lies w) : Value := evP x.1.2.1
theorem cmpPt_swo {w : World} : Go.Sort.SWO (Go.Proofs.ltOf (cmpPt (w := w))) where
  irrefl x := decide_eq_false (p := cmpN x.1.1 x.1.1 < 0) (by rw [cmpN_refl]; decide)
  trans x y z h1 h2 := by
    have h1 : cmpN x.1.1 y.1.1 < 0 := of_decide_eq_true h1
    have h2 : cmpN y.1.1 z.1.1 < 0 := of_decide_eq_true h2
    refine decide_eq_true (p := cmpN x.1.1 z.1.1 < 0) ?_
    rcases Int.lt_or_le (cmpN x.1.1 z.1.1) 0 with h | h
    · exact h
    · have h3 : cmpN z.1.1 x.1.1 ≤ 0 := by rw [cmpN_neg]; omega
      have h4 := cmpN_trans (Int.le_of_lt h2) h3
      rw [cmpN_neg] at h4
      omega
  ntrans x y z h1 h2 := by
    have h1 : ¬ cmpN x.1.1 y.1.1 < 0 := of_decide_eq_false h1
    have h2 : ¬ cmpN y.1.1 z.1.1 < 0 := of_decide_eq_false h2
    refine decide_eq_false (p := cmpN x.1.1 z.1.1 < 0) ?_
    have a := cmpN_trans (x := z.1.1) (y := y.1.1) (z := x.1.1) (by rw [cmpN_neg]; omega) (by rw [cmpN_neg]; omega)
    rw [cmpN_neg] at a; omega
theorem cmpPtLays (w : World) [Inhabited (Lies w)] (g size : Nat) (E : TypeId) (cur : Array Value) (hg : w.heap[g]? = some (.cells cur E (0, 0))) (hE : E ≠ 73) : Go.Proofs.CmpLays1 Try.prog 59 #[] (encPt (w := w)) cmpPt g 0 size w := by
  intro m os dk _ x y
  have hk : ∀ z : Lies w, (Go.Proofs.sortWorld encPt w g 0 m dk os).heap[z.1.2.1]? = some (rowO z.1.1 z.1.2.2) := fun z => by
    have G := grownBy_sorted' (enc := encPt (w := w)) (w := w) (g := g) (n := m) (os := os) dk
    refine (G.block _ (Array.getElem?_eq_some_iff.1 z.2).1 (fun e => ?_)).trans z.2
    injection e with e
    have h1 := z.2
    rw [e, hg] at h1
    unfold rowO at h1
    injection h1 with h1
    injection h1 with _ h1 _
    exact hE h1
  exact rowsCmp x.1.1 y.1.1 x.1.2.2 y.1.2.2 _ _ _ (hk x) (hk y)
theorem sortPtr_own {B : Nat} {E : TypeId} {u : Value} (l : Tb) (w : World) (hn : (l.map (·.1)).Nodup) (hr : ∀ p ∈ l, w.heap[p.2.1]? = some (rowO p.1 p.2.2)) (hE : E ≠ 73) (ho : w.ownsRow B E 1 u l.length (l.map (fun p => evP p.2.1))) (hl : l.length ≤ 1000000) :
    Calls Try.prog 58 #[u, .func (.func 59) #[] #[]] w fun e w' =>
      e = .returned (.tuple #[]) ∧ w'.ownsRow B E 1 u (sortV l).length ((sortV l).map (fun p => evP p.2.1)) ∧ w.grownBy w' u.ownBlock := by
  have hlen : (sortV l).length = l.length := (sortV_perm l).length_eq
  by_cases hz : l = []
  · subst hz
    have e0 : sortV ([] : Tb) = [] := sortV_unique List.nodup_nil (List.Perm.refl _) List.Pairwise.nil
    obtain ⟨a, cap, rfl⟩ := own_nil ho
    refine (AnyF.slices_SortFunc_none (P := Try.prog) (ρ := Try.sortRoot_ren) { Try.sortRoot with } a cap (.func (.func 59) #[] #[]) w).mono ?_
    rintro e w' ⟨rfl, rfl⟩
    exact ⟨rfl, by rw [e0]; exact ho, ⟨rfl, rfl, rfl, Nat.le_refl _, fun _ _ _ => rfl⟩⟩
  · let L : List (Lies w) := l.attach.map fun p => ⟨p.1, hr p.1 p.2⟩
    have hL : L.map (·.1) = l := by
      show (l.attach.map _).map _ = l
      rw [List.map_map]
      exact List.attach_map_subtype_val l
    have hLl : L.length = l.length := by rw [show L.length = l.attach.length from List.length_map _, List.length_attach]
    have hLe : L.map encPt = l.map (fun p => evP p.2.1) := by
      conv => rhs; rw [← hL, List.map_map]
      rfl
    have hLz : L ≠ [] := fun e => hz (by rw [← hL, e]; rfl)
    rw [← hLe, ← hLl] at ho
    haveI : Inhabited (Lies w) := ⟨L.head hLz⟩
    obtain ⟨g, cap, cur, rfl, hb, hg, hc, h1, h2, h3, h4⟩ := own_block ho hLz
    have eg : ∀ args w, (callFunc 59 args).run Try.prog w = .ok (.enter 59 args) w := enters_of Try.func59 (by kernel_rfl) rfl
    have h := Any.slices_SortFunc Try.sortRoot encPt (fun _ => rfl) cmpPt cmpPt_swo 59 #[] g 0 cap L.toArray w eg (cmpPtLays w g _ E cur hc hE) (holds_own hc h4) hg (by simp; omega)
    refine h.mono ?_
    rintro e w' ⟨rfl, d', n, os, hp, hs, rfl⟩
    have hsz : d'.size = L.length := by simpa using hp.1
    have hperm : d'.toList.Perm L := by
      have := hp.2.2
      have ht : List.take d'.size L = L := by rw [hsz]; exact List.take_length
      simpa [← hsz, ht] using this
    have e : sortV l = d'.toList.map (·.1) := by
      refine sortV_unique hn ?_ ?_
      · have := hperm.map (·.1)
        rw [hL] at this; exact this
      · rw [List.pairwise_map, List.pairwise_iff_getElem]
        intro i j hi hj hij
        have hj' : j < d'.size := by simpa using hj
        have this : ¬ cmpN (d'[j]!).1.1 (d'[i]!).1.1 < 0 := of_decide_eq_false (hs i j (Nat.zero_le _) hij (by simp; rw [← hsz]; exact hj'))
        rw [getElem!_pos d' j (by omega), getElem!_pos d' i (by omega)] at this
        rw [leN_iff]
        simp only [Array.getElem_toList]
        rw [cmpN_neg]; omega
    have he2 : (sortV l).map (fun p => evP p.2.1) = d'.toList.map encPt := by rw [e, List.map_map]; rfl
    refine ⟨rfl, ?_, grownBy_sorted' d'⟩
    rw [he2, hlen]
    have := own_sorted (B := B) (enc := encPt (w := w)) (g := g) (cap := cap) (n := n) (os := os) (ts := d'.toList) (ss := L) (by simpa using hsz) hb hc h1 h2 h3
    simp only [Array.toArray_toList] at this
    rw [show l.length = d'.toList.length by rw [← hLl]; simpa using hsz.symm]
    exact this
end Go.Proofs.Ytpdnebimkfejoaa
