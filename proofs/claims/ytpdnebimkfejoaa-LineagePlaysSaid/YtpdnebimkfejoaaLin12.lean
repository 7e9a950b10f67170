/- Drop. -/
import Derived.Test.YtpdnebimkfejoaaLin7
import Derived.Test.YtpdnebimkfejoaaOwn
import Derived.Test.YtpdnebimkfejoaaShelf25
import Derived.Shelf.SlSortCmp.NoneTotal
import Derived.Deep.RegionHeld3
import Derived.Test.YtpdnebimkfejoaaIter
import Derived.Deep.LoopGhost
namespace Go.Proofs.Ytpdnebimkfejoaa
open Go.RowKit Go.Sort Go.Lib Go.Shelf

theorem grown1 (w : World) (a : Obj) : ∃ q os, (w.alloc a).drew = grow (w.drewN q) os := by
  refine ⟨1, #[a], ?_⟩
  simp only [grow, World.alloc, World.drew, World.drewN]
  congr 1
set_option maxHeartbeats 3200000 in
set_option maxRecDepth 100000 in
theorem rowsCmp (a b : Nm) (ra rb : Rw) (ba bb : Nat) (w : World) (ha : w.heap[ba]? = some (rowO a ra)) (hb : w.heap[bb]? = some (rowO b rb)) :
    Calls Try.prog 59 #[.pointer (some ⟨ba, 0, none⟩), .pointer (some ⟨bb, 0, none⟩)] w fun e w' => e = .returned (.int .i64 (cmpN a b)) ∧ ∃ q os, w' = grow (w.drewN q) os := by
  have k0 : w.cell? ⟨ba, 0, none⟩ = some (.int .u64 a.1) := row_cells ha 0
  have k1 : w.cell? ⟨ba, 1, none⟩ = some (.string a.2) := row_cells ha 1
  have j0 : w.cell? ⟨bb, 0, none⟩ = some (.int .u64 b.1) := row_cells hb 0
  have j1 : w.cell? ⟨bb, 1, none⟩ = some (.string b.2) := row_cells hb 1
  have hal : ∀ (o : Obj) (a : Addr) (v : Value), w.cell? a = some v → (w.alloc o).cell? a = some v := fun o a v h => cell_keep ((Below.refl w.heap.size w).alloc (Nat.le_refl _) o) h
  have a0 := fun o => hal o _ _ k0
  have a1 := fun o => hal o _ _ k1
  have b0 := fun o => hal o _ _ j0
  have b1 := fun o => hal o _ _ j1
  clear ha hb hal
  go_enter Try.func59, Try.ntmps59
  go_wp2_with fail
  go_region_held3 (fun w' => w'.cell? ⟨ba, 0, none⟩ = some (.int .u64 a.1) ∧ w'.cell? ⟨ba, 1, none⟩ = some (.string a.2) ∧ w'.cell? ⟨bb, 0, none⟩ = some (.int .u64 b.1) ∧ w'.cell? ⟨bb, 1, none⟩ = some (.string b.2)) ((simp [go_sem, k0, k1, j0, j1, a0, a1, b0, b1]))
    (first
      | (go_at_call 61; refine (cmpU_any _ _ _).mono ?_; rintro e w' ⟨rfl, rfl⟩)
      | (go_at_call 62; refine (compare_any _ _ _).mono ?_; rintro e w' ⟨rfl, rfl⟩)
      | (go_at_call 60; refine (or_any _ (cmpU a.1 b.1) (cmpS a.2 b.2) _ (by simp [go_sem]) (by simp [go_sem])).mono ?_; rintro e w' ⟨rfl, rfl⟩))
  all_goals
    go_wp2_with fail
    go_ret
    exact ⟨ret_int rfl, grown1 w _⟩
/-- A root that lies in this world. -/
abbrev Lies (w : World) : Type := { p : Nm × Nat × Rw // w.heap[p.2.1]? = some (rowO p.1 p.2.2) }
def cmpPt {w : World} (x y : Lies w) : Int := cmpN x.1.1 y.1.1
def encPt {w : World} (x : Lies w) : Value := evP x.1.2.1
theorem cmpPt_swo {w : World} : Go.Sort.SWO (Go.Proofs.ltOf (cmpPt (w := w))) where
  irrefl x := decide_eq_false (p := cmpN x.1.1 x.1.1 < 0) (by rw [cmpN_refl]; decide)
  trans x y z h1 h2 := by
    have h1 : cmpN x.1.1 y.1.1 < 0 := of_decide_eq_true h1
    have h2 : cmpN y.1.1 z.1.1 < 0 := of_decide_eq_true h2
    refine decide_eq_true (p := cmpN x.1.1 z.1.1 < 0) ?_
    rcases Int.lt_or_le (cmpN x.1.1 z.1.1) 0 with h | h
    · exact h
    · have h3 : cmpN z.1.1 x.1.1 ≤ 0 := by rw [cmpN_neg]; omega
      have h4 := cmpN_trans (Int.le_of_lt h2) h3
      rw [cmpN_neg] at h4
      omega
  ntrans x y z h1 h2 := by
    have h1 : ¬ cmpN x.1.1 y.1.1 < 0 := of_decide_eq_false h1
    have h2 : ¬ cmpN y.1.1 z.1.1 < 0 := of_decide_eq_false h2
    refine decide_eq_false (p := cmpN x.1.1 z.1.1 < 0) ?_
    have a := cmpN_trans (x := z.1.1) (y := y.1.1) (z := x.1.1) (by rw [cmpN_neg]; omega) (by rw [cmpN_neg]; omega)
    rw [cmpN_neg] at a; omega
theorem cmpPtLays (w : World) [Inhabited (Lies w)] (g size : Nat) (E : TypeId) (cur : Array Value) (hg : w.heap[g]? = some (.cells cur E (0, 0))) (hE : E ≠ 73) : Go.Proofs.CmpLays1 Try.prog 59 #[] (encPt (w := w)) cmpPt g 0 size w := by
  intro m os dk _ x y
  have hk : ∀ z : Lies w, (Go.Proofs.sortWorld encPt w g 0 m dk os).heap[z.1.2.1]? = some (rowO z.1.1 z.1.2.2) := fun z => by
    have G := grownBy_sorted' (enc := encPt (w := w)) (w := w) (g := g) (n := m) (os := os) dk
    refine (G.block _ (Array.getElem?_eq_some_iff.1 z.2).1 (fun e => ?_)).trans z.2
    injection e with e
    have h1 := z.2
    rw [e, hg] at h1
    unfold rowO at h1
    injection h1 with h1
    injection h1 with _ h1 _
    exact hE h1
  exact rowsCmp x.1.1 y.1.1 x.1.2.2 y.1.2.2 _ _ _ (hk x) (hk y)
theorem sortPtr_own {B : Nat} {E : TypeId} {u : Value} (l : Tb) (w : World) (hn : (l.map (·.1)).Nodup) (hr : ∀ p ∈ l, w.heap[p.2.1]? = some (rowO p.1 p.2.2)) (hE : E ≠ 73) (ho : w.ownsRow B E 1 u l.length (l.map (fun p => evP p.2.1))) (hl : l.length ≤ 1000000) :
    Calls Try.prog 58 #[u, .func (.func 59) #[] #[]] w fun e w' =>
      e = .returned (.tuple #[]) ∧ w'.ownsRow B E 1 u (sortV l).length ((sortV l).map (fun p => evP p.2.1)) ∧ w.grownBy w' u.ownBlock := by
  have hlen : (sortV l).length = l.length := (sortV_perm l).length_eq
  by_cases hz : l = []
  · subst hz
    have e0 : sortV ([] : Tb) = [] := sortV_unique List.nodup_nil (List.Perm.refl _) List.Pairwise.nil
    obtain ⟨a, cap, rfl⟩ := own_nil ho
    refine (AnyF.slices_SortFunc_none (P := Try.prog) (ρ := Try.sortRoot_ren) { Try.sortRoot with } a cap (.func (.func 59) #[] #[]) w).mono ?_
    rintro e w' ⟨rfl, rfl⟩
    exact ⟨rfl, by rw [e0]; exact ho, ⟨rfl, rfl, rfl, Nat.le_refl _, fun _ _ _ => rfl⟩⟩
  · let L : List (Lies w) := l.attach.map fun p => ⟨p.1, hr p.1 p.2⟩
    have hL : L.map (·.1) = l := by
      show (l.attach.map _).map _ = l
      rw [List.map_map]
      exact List.attach_map_subtype_val l
    have hLl : L.length = l.length := by rw [show L.length = l.attach.length from List.length_map _, List.length_attach]
    have hLe : L.map encPt = l.map (fun p => evP p.2.1) := by
      conv => rhs; rw [← hL, List.map_map]
      rfl
    have hLz : L ≠ [] := fun e => hz (by rw [← hL, e]; rfl)
    rw [← hLe, ← hLl] at ho
    haveI : Inhabited (Lies w) := ⟨L.head hLz⟩
    obtain ⟨g, cap, cur, rfl, hb, hg, hc, h1, h2, h3, h4⟩ := own_block ho hLz
    have eg : ∀ args w, (callFunc 59 args).run Try.prog w = .ok (.enter 59 args) w := enters_of Try.func59 (by kernel_rfl) rfl
    have h := Any.slices_SortFunc Try.sortRoot encPt (fun _ => rfl) cmpPt cmpPt_swo 59 #[] g 0 cap L.toArray w eg (cmpPtLays w g _ E cur hc hE) (holds_own hc h4) hg (by simp; omega)
    refine h.mono ?_
    rintro e w' ⟨rfl, d', n, os, hp, hs, rfl⟩
    have hsz : d'.size = L.length := by simpa using hp.1
    have hperm : d'.toList.Perm L := by
      have := hp.2.2
      have ht : List.take d'.size L = L := by rw [hsz]; exact List.take_length
      simpa [← hsz, ht] using this
    have e : sortV l = d'.toList.map (·.1) := by
      refine sortV_unique hn ?_ ?_
      · have := hperm.map (·.1)
        rw [hL] at this; exact this
      · rw [List.pairwise_map, List.pairwise_iff_getElem]
        intro i j hi hj hij
        have hj' : j < d'.size := by simpa using hj
        have this : ¬ cmpN (d'[j]!).1.1 (d'[i]!).1.1 < 0 := of_decide_eq_false (hs i j (Nat.zero_le _) hij (by simp; rw [← hsz]; exact hj'))
        rw [getElem!_pos d' j (by omega), getElem!_pos d' i (by omega)] at this
        rw [leN_iff]
        simp only [Array.getElem_toList]
        rw [cmpN_neg]; omega
    have he2 : (sortV l).map (fun p => evP p.2.1) = d'.toList.map encPt := by rw [e, List.map_map]; rfl
    refine ⟨rfl, ?_, grownBy_sorted' d'⟩
    rw [he2, hlen]
    have := own_sorted (B := B) (enc := encPt (w := w)) (g := g) (cap := cap) (n := n) (os := os) (ts := d'.toList) (ss := L) (by simpa using hsz) hb hc h1 h2 h3
    simp only [Array.toArray_toList] at this
    rw [show l.length = d'.toList.length by rw [← hLl]; simpa using hsz.symm]
    exact this
end Go.Proofs.Ytpdnebimkfejoaa
namespace Go.Proofs.Ytpdnebimkfejoaa
open Go.RowKit Go.Sort Go.Lib

/-- The roots of which something is so. -/
def pick (T : Tb) (P : Nm → Rw → Bool) : Tb := T.filter fun p => P p.1 p.2.2
def ptrs (l : Tb) : List Value := l.map fun p => evP p.2.1
structure Rg (m : Nat) (T : Tb) (P : Nm → Rw → Bool) (w : World) (u : Value) (done : List Nm) (acc : Tb) (wr : World) : Prop where
  it : IterL evP wr w.heap.size m (mapT T) done
  low : Below w.heap.size w wr
  own : wr.ownsRow (w.heap.size + 1) 69 1 u acc.length (ptrs acc)
  dn : done.Nodup ∧ ∀ n ∈ done, n ∈ T.map (·.1)
  nd : (acc.map (·.1)).Nodup
  mem : ∀ p, p ∈ acc ↔ p ∈ T ∧ P p.1 p.2.2 = true ∧ p.1 ∈ done
theorem Rg.len {m : Nat} {T : Tb} {P : Nm → Rw → Bool} {w : World} {u : Value} {done : List Nm} {acc : Tb} {wr : World} (h : Rg m T P w u done acc wr) : acc.length ≤ T.length ∧ done.length ≤ T.length := by
  constructor
  · have := List.Nodup.length_le_of_subset h.nd (l₂ := T.map (·.1)) (fun n hn => by
      obtain ⟨q, hq, rfl⟩ := List.mem_map.1 hn
      exact List.mem_map.2 ⟨q, ((h.mem q).1 hq).1, rfl⟩)
    simpa using this
  · have := List.Nodup.length_le_of_subset h.dn.1 (l₂ := T.map (·.1)) (fun n hn => h.dn.2 n hn)
    simpa using this
/-- The iterator took a step. -/
theorem Rg.step {m : Nat} {T : Tb} {P : Nm → Rw → Bool} {w : World} {u : Value} {done : List Nm} {acc : Tb} {wr w2 : World} (h : Rg m T P w u done acc wr)
    (hO : w2.os = wr.os ∧ w2.tape = wr.tape ∧ w2.output = wr.output ∧ w2.heap.size = wr.heap.size ∧ (∀ i, i ≠ w.heap.size → w2.heap[i]? = wr.heap[i]?)) :
    Below w.heap.size w w2 ∧ w2.ownsRow (w.heap.size + 1) 69 1 u acc.length (ptrs acc) := by
  refine ⟨⟨hO.1.trans h.low.os, hO.2.1.trans h.low.tape, hO.2.2.1.trans h.low.output, by rw [hO.2.2.2.1]; exact h.low.size, fun i hi => (hO.2.2.2.2 i (by omega)).trans (h.low.block i hi)⟩, ?_⟩
  obtain ⟨h0, h1 | ⟨g, cap, cur, hv, h1, h2, h3⟩⟩ := h.own
  · exact ⟨h0, .inl h1⟩
  · exact ⟨h0, .inr ⟨g, cap, cur, hv, h1, (hO.2.2.2.2 g (by omega)).trans h2, h3⟩⟩
/-- A root of which it is not so. -/
theorem Rg.skip {m : Nat} {T : Tb} {P : Nm → Rw → Bool} {w : World} {u : Value} {done : List Nm} {acc : Tb} {wr w3 : World} {p : Nm × Nat × Rw} (h : Rg m T P w u done acc wr) (hn : (T.map (·.1)).Nodup) (hp : p ∈ T) (hnot : p.1 ∉ done) (hP : P p.1 p.2.2 = false)
    (hI3 : IterL evP w3 w.heap.size m (mapT T) (done ++ [p.1])) (hB3 : Below w.heap.size w w3) (ho3 : w3.ownsRow (w.heap.size + 1) 69 1 u acc.length (ptrs acc)) : Rg m T P w u (done ++ [p.1]) acc w3 := by
  refine ⟨hI3, hB3, ho3, ⟨?_, ?_⟩, h.nd, fun q => ?_⟩
  · rw [List.nodup_append]
    exact ⟨h.dn.1, by simp, fun a ha b hb e => by simp at hb; subst hb; subst e; exact hnot ha⟩
  · intro n hn'
    rcases List.mem_append.1 hn' with h1 | h1
    · exact h.dn.2 n h1
    · rw [List.mem_singleton] at h1; subst h1; exact List.mem_map.2 ⟨p, hp, rfl⟩
  · rw [h.mem q]
    constructor
    · rintro ⟨h1, h2, h3⟩; exact ⟨h1, h2, List.mem_append.2 (.inl h3)⟩
    · rintro ⟨h1, h2, h3⟩
      rcases List.mem_append.1 h3 with h3 | h3
      · exact ⟨h1, h2, h3⟩
      · rw [List.mem_singleton] at h3
        have := eq_of_keyV hn h1 hp h3
        subst this; rw [hP] at h2; cases h2
/-- A root more. -/
theorem Rg.push {m : Nat} {T : Tb} {P : Nm → Rw → Bool} {w : World} {u v' : Value} {done : List Nm} {acc : Tb} {wr w3 w' : World} {p : Nm × Nat × Rw} {o : Obj} (h : Rg m T P w u done acc wr) (hn : (T.map (·.1)).Nodup) (hp : p ∈ T) (hnot : p.1 ∉ done) (hP : P p.1 p.2.2 = true)
    (hI3 : IterL evP w3 w.heap.size m (mapT T) (done ++ [p.1])) (hB3 : Below w.heap.size w w3) (ho3 : w3.ownsRow (w.heap.size + 1) 69 1 u acc.length (ptrs acc)) (hm : m < w.heap.size) (hs : w.heap.size < w3.heap.size)
    (hown : w'.ownsRow (w.heap.size + 1) 69 1 v' (acc.length + 1) (ptrs acc ++ [evP p.2.1])) (hg : (w3.alloc o).grownBy w' u.ownBlock) : Rg m T P w v' (done ++ [p.1]) (acc ++ [p]) w' := by
  have hob : ∀ b, u.ownBlock = some b → w.heap.size + 1 ≤ b := fun b hb => (ho3.lt b hb).1
  have hsame : ∀ i, i < w.heap.size + 1 → w'.heap[i]? = w3.heap[i]? := fun i hi => by
    have h1 := hg.block i (by simp; omega) (fun e => by have := hob i e.symm; omega)
    exact h1.trans (Lib.alloc_old w3 o i (by omega))
  have hpn : p ∉ acc := fun hq => hnot ((h.mem p).1 hq).2.2
  refine ⟨hI3.block (hsame m (by omega)) (hsame _ (by omega)), ⟨hg.os.trans hB3.os, hg.tape.trans hB3.tape, hg.output.trans hB3.output, by have h1 := hg.size; have h2 := hB3.size; simp at h1; omega, fun i hi => (hsame i (by omega)).trans (hB3.block i hi)⟩, ?_, ⟨?_, ?_⟩, ?_, fun q => ?_⟩
  · rw [List.length_append, show ptrs (acc ++ [p]) = ptrs acc ++ [evP p.2.1] by unfold ptrs; simp]; simpa using hown
  · rw [List.nodup_append]
    exact ⟨h.dn.1, by simp, fun a ha b hb e => by simp at hb; subst hb; subst e; exact hnot ha⟩
  · intro n hn'
    rcases List.mem_append.1 hn' with h1 | h1
    · exact h.dn.2 n h1
    · rw [List.mem_singleton] at h1; subst h1; exact List.mem_map.2 ⟨p, hp, rfl⟩
  · rw [List.map_append, List.nodup_append]
    refine ⟨h.nd, by simp, fun a ha b hb e => ?_⟩
    simp at hb; subst hb; subst e
    obtain ⟨q, hq, he⟩ := List.mem_map.1 ha
    have hq' := (h.mem q).1 hq
    have := eq_of_keyV hn hq'.1 hp he
    subst this; exact hpn hq
  · rw [List.mem_append, List.mem_singleton, h.mem q]
    constructor
    · rintro (⟨h1, h2, h3⟩ | rfl)
      · exact ⟨h1, h2, List.mem_append.2 (.inl h3)⟩
      · exact ⟨hp, hP, by simp⟩
    · rintro ⟨h1, h2, h3⟩
      rcases List.mem_append.1 h3 with h3 | h3
      · exact .inl ⟨h1, h2, h3⟩
      · rw [List.mem_singleton] at h3
        exact .inr (eq_of_keyV hn h1 hp h3)
/-- All names handed out: what was gathered is what was asked for. -/
theorem gathered {T acc : Tb} {P : Nm → Rw → Bool} {done : List Nm} (hn : (T.map (·.1)).Nodup) (ha : (acc.map (·.1)).Nodup) (hm : ∀ p, p ∈ acc ↔ p ∈ T ∧ P p.1 p.2.2 = true ∧ p.1 ∈ done) (hall : ∀ p ∈ mapT T, p.1 ∈ done) : sortV acc = sortV (pick T P) := by
  have hp : (pick T P).Perm acc := by
    refine (List.perm_ext_iff_of_nodup (List.Pairwise.of_map (S := (· ≠ ·)) _ (fun a b h e => h (by rw [e])) (hn.sublist ((List.filter_sublist (p := fun p => P p.1 p.2.2)).map _))) (List.Pairwise.of_map (S := (· ≠ ·)) _ (fun a b h e => h (by rw [e])) ha)).2 fun a => ?_
    rw [hm a]
    rw [List.mem_filter]
    constructor
    · rintro ⟨h1, h2⟩; exact ⟨h1, h2, hall (a.1, a.2.1) (List.mem_map.2 ⟨a, h1, rfl⟩)⟩
    · rintro ⟨h1, h2, _⟩; exact ⟨h1, h2⟩
  exact sortV_unique ha ((sortV_perm _).trans hp) (sortV_sorted _)
theorem info_ptr : (Try.prog.info? 69).map (fun i => (i.zero, i.size, i.bytes)) = some (some (.pointer none), 1, 8) := by kernel_rfl
/-- What rows answers. -/
def PickR (T : Tb) (P : Nm → Rw → Bool) (w : World) (e : Ending) (w' : World) : Prop :=
  ∃ v, e = .returned v ∧ w'.ownsRow w.heap.size 69 1 v (sortV (pick T P)).length (ptrs (sortV (pick T P))) ∧ Below w.heap.size w w'
theorem own_low {w w' : World} {B : Nat} {E : TypeId} {size : Nat} {v : Value} {n : Nat} {xs : List Value} (h : w.ownsRow B E size v n xs) (hB : Below w.heap.size w w') : w'.ownsRow B E size v n xs := by
  refine ⟨h.1, h.2.imp id ?_⟩
  rintro ⟨g, cap, cur, hv, h1, h2, h3⟩
  exact ⟨g, cap, cur, hv, h1, (hB.block g (Array.getElem?_eq_some_iff.1 h2).1).trans h2, h3⟩
set_option maxHeartbeats 3200000 in
set_option maxRecDepth 100000 in
theorem rowsAll (f m : Nat) (T : Tb) (w : World) (h : Tab w f m T) (hl : T.length ≤ 1000000) :
    Calls Try.prog 42 #[.pointer (some ⟨f, 0, none⟩), .func (.func 43) #[] #[]] w (PickR T (fun _ _ => true) w) := by
  obtain ⟨ig, hig, hg0, hg1, hg2⟩ := info_parts info_ptr
  obtain ⟨w1, hrun, hI, hB, hsz⟩ := range_run (P := Try.prog) h.map Try.underlying65
  have hnd := h.keys
  have c0 := h.c0
  have hflt := h.lt
  have HT := Lib.hid h
  clear h
  obtain ⟨PP, hPP⟩ : ∃ PP : Nm → Rw → Bool, PP = (fun _ _ => true) := ⟨_, rfl⟩
  have HPP := Lib.hid hPP
  rw [← hPP]
  clear hPP
  go_enter Try.func42, Try.ntmps42
  go_wp2_with fail
  go_loopg [4] T.length (fun gk u wr => ∃ (done : List Nm) (acc : Tb), gk + done.length = T.length ∧ Rg m T PP w u done acc wr)
  case atStart => exact ⟨[], [], by simp, ⟨hI, hB, World.ownsRow_nil _ _ _ _, ⟨List.nodup_nil, by simp⟩, List.nodup_nil, by simp⟩⟩
  case round =>
    clear hI hrun hB hsz w1
    obtain ⟨done, acc, hlen, hR⟩ := hrel
    rcases hR.it.next (P := Try.prog) 0 with ⟨hall, hrun⟩ | ⟨p, hp, hnotin, w2, hrun, hI2, hO2, hent⟩
    · have hG := Lib.hid (gathered hnd hR.nd hR.mem hall)
      have HR := Lib.hid hR
      have hll : acc.length ≤ 1000000 := Nat.le_trans hR.len.1 hl
      have hrow : Hid (∀ p ∈ acc, wr.heap[p.2.1]? = some (rowO p.1 p.2.2)) := fun p hp => by
        have h1 := (HT.out.row p ((HR.out.mem p).1 hp).1).1
        exact (HR.out.low.block _ (Array.getElem?_eq_some_iff.1 h1).1).trans h1
      clear hall hR c0
      go_wp2_with fail
      refine (sortPtr_own acc _ HR.out.nd hrow.out (by decide) HR.out.own hll).mono ?_
      rintro e w3 ⟨rfl, hown3, hg3⟩
      have HO := Lib.hid hown3
      have HB3 := Lib.hid (HR.out.low.grown hg3 HR.out.low.size (fun b hb => by have := (HR.out.own.lt b hb).1; omega))
      clear hown3 hg3 HR hrow
      go_wp2_with fail
      go_ret
      exact ⟨_, rfl, by rw [← hG.out]; exact owns_base HO.out (Nat.le_succ _), HB3.out⟩
    · have hstep := hR.step hO2
      have he2 := hent w2 rfl rfl
      unfold mapT at hp
      obtain ⟨q, hq, rfl⟩ := List.mem_map.1 hp
      obtain ⟨a, b, r⟩ := q
      simp only at hnotin hI2 hstep hrun he2
      have hsz2 : w.heap.size < w2.heap.size := hI2.lt.1
      have hHB : w2.heap[b]? = some (rowO a r) := by
        have hTr := HT.out.row _ hq
        exact (hstep.1.block _ (Array.getElem?_eq_some_iff.1 hTr.1).1).trans hTr.1
      have HQ := Lib.hid hq
      have HN := Lib.hid hnotin
      have HR := Lib.hid hR
      have HI2 := Lib.hid hI2
      have HS := Lib.hid hstep
      have HHB := Lib.hid hHB
      have hlen2 := hR.len
      unfold encN evP at hrun he2
      clear hR hI2 hO2 hent c0 hp hq hnotin hstep hHB
      go_wp2_with fail
      refine (soAll b w2).mono ?_
      rintro e w3 ⟨rfl, hB⟩
      have HI3 := Lib.hid (HI2.out.block (hB.block _ HI2.out.lt.2.1) (hB.block _ HI2.out.lt.1))
      have HB3 := Lib.hid (HS.out.1.trans (hB.mono (by omega)))
      have HO3 := Lib.hid (own_low HS.out.2 hB)
      have hs3 : w.heap.size < w3.heap.size := by have := hB.size; omega
      have hcap : acc.length ≤ T.length := hlen2.1
      rw [show true = PP a r by rw [HPP.out]]
      clear hB HI2 HS HHB he2 hrun
      cases hP : PP a r
      · have HR2 := Lib.hid (HR.out.skip hnd HQ.out HN.out hP HI3.out HB3.out HO3.out)
        have hlen3 := HR2.out.len
        simp only [List.length_append, List.length_cons, List.length_nil] at hlen3
        clear HR HI3 HB3 HO3 hP
        go_wp2_with fail
        go_roundg (gk - 1)
        case rel => exact ⟨done ++ [a], acc, by simp; omega, HR2.out⟩
        case measure => omega
      · have HP := Lib.hid hP
        clear hP
        go_wp2_with (at_builtin; refine wpList_append_own _ rfl _ _ 79 rfl (w.heap.size + 1) 69 ig (.pointer none) 1 8 Try.underlying79 hig hg0 hg1 hg2 rfl (by decide) _ _ _ rfl (HO3.out.alloc _) ⟨w3.heap.size, 0, none⟩ 1 1 [evP b] rfl rfl ?c1 ?c2 ?c3 ?c4 ?c5 ?_)
        case c1 =>
          intro j u hj
          match j with
          | 0 => simp at hj; subst hj; simp [go_sem, Addr.add, evP]
          | j + 1 => simp at hj
        case c2 => intro u hu; simp at hu; subst hu; rfl
        case c3 => unfold maxLen; omega
        case c4 => omega
        case c5 => simp; omega
        intro v' w4 hown' hgrow _
        have HR2 := Lib.hid (HR.out.push hnd HQ.out HN.out HP.out HI3.out HB3.out HO3.out hflt.2.1 hs3 hown' hgrow)
        have hlen3 := HR2.out.len
        simp only [List.length_append, List.length_cons, List.length_nil] at hlen3
        clear HR HI3 HB3 HO3 hown' hgrow
        go_wp2_with fail
        go_roundg (gk - 1)
        case rel => exact ⟨done ++ [a], acc ++ [(a, b, r)], by simp; omega, HR2.out⟩
        case measure => omega
set_option maxHeartbeats 3200000 in
set_option maxRecDepth 100000 in
theorem rowsWaits (f m : Nat) (T : Tb) (w : World) (h : Tab w f m T) (hl : T.length ≤ 1000000) :
    Calls Try.prog 42 #[.pointer (some ⟨f, 0, none⟩), .func (.func 45) #[] #[]] w (PickR T (fun _ r => decide (r.st = 1)) w) := by
  obtain ⟨ig, hig, hg0, hg1, hg2⟩ := info_parts info_ptr
  obtain ⟨w1, hrun, hI, hB, hsz⟩ := range_run (P := Try.prog) h.map Try.underlying65
  have hnd := h.keys
  have c0 := h.c0
  have hflt := h.lt
  have HT := Lib.hid h
  clear h
  obtain ⟨PP, hPP⟩ : ∃ PP : Nm → Rw → Bool, PP = (fun _ r => decide (r.st = 1)) := ⟨_, rfl⟩
  have HPP := Lib.hid hPP
  rw [← hPP]
  clear hPP
  go_enter Try.func42, Try.ntmps42
  go_wp2_with fail
  go_loopg [4] T.length (fun gk u wr => ∃ (done : List Nm) (acc : Tb), gk + done.length = T.length ∧ Rg m T PP w u done acc wr)
  case atStart => exact ⟨[], [], by simp, ⟨hI, hB, World.ownsRow_nil _ _ _ _, ⟨List.nodup_nil, by simp⟩, List.nodup_nil, by simp⟩⟩
  case round =>
    clear hI hrun hB hsz w1
    obtain ⟨done, acc, hlen, hR⟩ := hrel
    rcases hR.it.next (P := Try.prog) 0 with ⟨hall, hrun⟩ | ⟨p, hp, hnotin, w2, hrun, hI2, hO2, hent⟩
    · have hG := Lib.hid (gathered hnd hR.nd hR.mem hall)
      have HR := Lib.hid hR
      have hll : acc.length ≤ 1000000 := Nat.le_trans hR.len.1 hl
      have hrow : Hid (∀ p ∈ acc, wr.heap[p.2.1]? = some (rowO p.1 p.2.2)) := fun p hp => by
        have h1 := (HT.out.row p ((HR.out.mem p).1 hp).1).1
        exact (HR.out.low.block _ (Array.getElem?_eq_some_iff.1 h1).1).trans h1
      clear hall hR c0
      go_wp2_with fail
      refine (sortPtr_own acc _ HR.out.nd hrow.out (by decide) HR.out.own hll).mono ?_
      rintro e w3 ⟨rfl, hown3, hg3⟩
      have HO := Lib.hid hown3
      have HB3 := Lib.hid (HR.out.low.grown hg3 HR.out.low.size (fun b hb => by have := (HR.out.own.lt b hb).1; omega))
      clear hown3 hg3 HR hrow
      go_wp2_with fail
      go_ret
      exact ⟨_, rfl, by rw [← hG.out]; exact owns_base HO.out (Nat.le_succ _), HB3.out⟩
    · have hstep := hR.step hO2
      have he2 := hent w2 rfl rfl
      unfold mapT at hp
      obtain ⟨q, hq, rfl⟩ := List.mem_map.1 hp
      obtain ⟨a, b, r⟩ := q
      simp only at hnotin hI2 hstep hrun he2
      have hsz2 : w.heap.size < w2.heap.size := hI2.lt.1
      have hHB : w2.heap[b]? = some (rowO a r) := by
        have hTr := HT.out.row _ hq
        exact (hstep.1.block _ (Array.getElem?_eq_some_iff.1 hTr.1).1).trans hTr.1
      have HQ := Lib.hid hq
      have HN := Lib.hid hnotin
      have HR := Lib.hid hR
      have HI2 := Lib.hid hI2
      have HS := Lib.hid hstep
      have HHB := Lib.hid hHB
      have hlen2 := hR.len
      unfold encN evP at hrun he2
      clear hR hI2 hO2 hent c0 hp hq hnotin hstep hHB
      go_wp2_with fail
      refine (soWaits b a r w2 HHB.out).mono ?_
      rintro e w3 ⟨rfl, hB⟩
      have HI3 := Lib.hid (HI2.out.block (hB.block _ HI2.out.lt.2.1) (hB.block _ HI2.out.lt.1))
      have HB3 := Lib.hid (HS.out.1.trans (hB.mono (by omega)))
      have HO3 := Lib.hid (own_low HS.out.2 hB)
      have hs3 : w.heap.size < w3.heap.size := by have := hB.size; omega
      have hcap : acc.length ≤ T.length := hlen2.1
      rw [show decide (r.st = 1) = PP a r by rw [HPP.out]]
      clear hB HI2 HS HHB he2 hrun
      cases hP : PP a r
      · have HR2 := Lib.hid (HR.out.skip hnd HQ.out HN.out hP HI3.out HB3.out HO3.out)
        have hlen3 := HR2.out.len
        simp only [List.length_append, List.length_cons, List.length_nil] at hlen3
        clear HR HI3 HB3 HO3 hP
        go_wp2_with fail
        go_roundg (gk - 1)
        case rel => exact ⟨done ++ [a], acc, by simp; omega, HR2.out⟩
        case measure => omega
      · have HP := Lib.hid hP
        clear hP
        go_wp2_with (at_builtin; refine wpList_append_own _ rfl _ _ 79 rfl (w.heap.size + 1) 69 ig (.pointer none) 1 8 Try.underlying79 hig hg0 hg1 hg2 rfl (by decide) _ _ _ rfl (HO3.out.alloc _) ⟨w3.heap.size, 0, none⟩ 1 1 [evP b] rfl rfl ?c1 ?c2 ?c3 ?c4 ?c5 ?_)
        case c1 =>
          intro j u hj
          match j with
          | 0 => simp at hj; subst hj; simp [go_sem, Addr.add, evP]
          | j + 1 => simp at hj
        case c2 => intro u hu; simp at hu; subst hu; rfl
        case c3 => unfold maxLen; omega
        case c4 => omega
        case c5 => simp; omega
        intro v' w4 hown' hgrow _
        have HR2 := Lib.hid (HR.out.push hnd HQ.out HN.out HP.out HI3.out HB3.out HO3.out hflt.2.1 hs3 hown' hgrow)
        have hlen3 := HR2.out.len
        simp only [List.length_append, List.length_cons, List.length_nil] at hlen3
        clear HR HI3 HB3 HO3 hown' hgrow
        go_wp2_with fail
        go_roundg (gk - 1)
        case rel => exact ⟨done ++ [a], acc ++ [(a, b, r)], by simp; omega, HR2.out⟩
        case measure => omega
set_option maxHeartbeats 3200000 in
set_option maxRecDepth 100000 in
theorem rowsWithin (f m : Nat) (T : Tb) (n : Nm) (tb nb : Nat) (w : World) (h : Tab w f m T) (hl : T.length ≤ 1000000) (hz : ∀ p ∈ T, p.1.2.size ≤ 9223372036854775807) (h1 : w.cell? ⟨tb, 0, none⟩ = some (.pointer (some ⟨f, 0, none⟩))) (h2 : w.cell? ⟨nb, 0, none⟩ = some (.int .u64 n.1)) (h3 : w.cell? ⟨nb, 1, none⟩ = some (.string n.2)) :
    Calls Try.prog 42 #[.pointer (some ⟨f, 0, none⟩), .func (.func 48) #[] #[.pointer (some ⟨tb, 0, none⟩), .pointer (some ⟨nb, 0, none⟩)]] w (PickR T (fun a _ => withinB T n a) w) := by
  obtain ⟨ig, hig, hg0, hg1, hg2⟩ := info_parts info_ptr
  obtain ⟨w1, hrun, hI, hB, hsz⟩ := range_run (P := Try.prog) h.map Try.underlying65
  have hnd := h.keys
  have c0 := h.c0
  have hflt := h.lt
  have HT := Lib.hid h
  clear h
  obtain ⟨PP, hPP⟩ : ∃ PP : Nm → Rw → Bool, PP = (fun a _ => withinB T n a) := ⟨_, rfl⟩
  have HPP := Lib.hid hPP
  rw [← hPP]
  clear hPP
  go_enter Try.func42, Try.ntmps42
  go_wp2_with fail
  go_loopg [4] T.length (fun gk u wr => ∃ (done : List Nm) (acc : Tb), gk + done.length = T.length ∧ Rg m T PP w u done acc wr)
  case atStart => exact ⟨[], [], by simp, ⟨hI, hB, World.ownsRow_nil _ _ _ _, ⟨List.nodup_nil, by simp⟩, List.nodup_nil, by simp⟩⟩
  case round =>
    clear hI hrun hB hsz w1
    obtain ⟨done, acc, hlen, hR⟩ := hrel
    rcases hR.it.next (P := Try.prog) 0 with ⟨hall, hrun⟩ | ⟨p, hp, hnotin, w2, hrun, hI2, hO2, hent⟩
    · have hG := Lib.hid (gathered hnd hR.nd hR.mem hall)
      have HR := Lib.hid hR
      have hll : acc.length ≤ 1000000 := Nat.le_trans hR.len.1 hl
      have hrow : Hid (∀ p ∈ acc, wr.heap[p.2.1]? = some (rowO p.1 p.2.2)) := fun p hp => by
        have h1 := (HT.out.row p ((HR.out.mem p).1 hp).1).1
        exact (HR.out.low.block _ (Array.getElem?_eq_some_iff.1 h1).1).trans h1
      clear hall hR c0
      go_wp2_with fail
      refine (sortPtr_own acc _ HR.out.nd hrow.out (by decide) HR.out.own hll).mono ?_
      rintro e w3 ⟨rfl, hown3, hg3⟩
      have HO := Lib.hid hown3
      have HB3 := Lib.hid (HR.out.low.grown hg3 HR.out.low.size (fun b hb => by have := (HR.out.own.lt b hb).1; omega))
      clear hown3 hg3 HR hrow
      go_wp2_with fail
      go_ret
      exact ⟨_, rfl, by rw [← hG.out]; exact owns_base HO.out (Nat.le_succ _), HB3.out⟩
    · have hstep := hR.step hO2
      have he2 := hent w2 rfl rfl
      unfold mapT at hp
      obtain ⟨q, hq, rfl⟩ := List.mem_map.1 hp
      obtain ⟨a, b, r⟩ := q
      simp only at hnotin hI2 hstep hrun he2
      have hsz2 : w.heap.size < w2.heap.size := hI2.lt.1
      have hHB : w2.heap[b]? = some (rowO a r) := by
        have hTr := HT.out.row _ hq
        exact (hstep.1.block _ (Array.getElem?_eq_some_iff.1 hTr.1).1).trans hTr.1
      have HQ := Lib.hid hq
      have HN := Lib.hid hnotin
      have HR := Lib.hid hR
      have HI2 := Lib.hid hI2
      have HS := Lib.hid hstep
      have HHB := Lib.hid hHB
      have hlen2 := hR.len
      unfold encN evP at hrun he2
      clear hR hI2 hO2 hent c0 hp hq hnotin hstep hHB
      go_wp2_with fail
      refine (soWithin f m T n a b tb nb r w2 (HT.out.below HS.out.1) HHB.out (cell_keep HS.out.1 h1) (cell_keep HS.out.1 h2) (cell_keep HS.out.1 h3) (hz _ HQ.out)).mono ?_
      rintro e w3 ⟨rfl, hB⟩
      have HI3 := Lib.hid (HI2.out.block (hB.block _ HI2.out.lt.2.1) (hB.block _ HI2.out.lt.1))
      have HB3 := Lib.hid (HS.out.1.trans (hB.mono (by omega)))
      have HO3 := Lib.hid (own_low HS.out.2 hB)
      have hs3 : w.heap.size < w3.heap.size := by have := hB.size; omega
      have hcap : acc.length ≤ T.length := hlen2.1
      rw [show withinB T n a = PP a r by rw [HPP.out]]
      clear hB HI2 HS HHB he2 hrun
      cases hP : PP a r
      · have HR2 := Lib.hid (HR.out.skip hnd HQ.out HN.out hP HI3.out HB3.out HO3.out)
        have hlen3 := HR2.out.len
        simp only [List.length_append, List.length_cons, List.length_nil] at hlen3
        clear HR HI3 HB3 HO3 hP
        go_wp2_with fail
        go_roundg (gk - 1)
        case rel => exact ⟨done ++ [a], acc, by simp; omega, HR2.out⟩
        case measure => omega
      · have HP := Lib.hid hP
        clear hP
        go_wp2_with (at_builtin; refine wpList_append_own _ rfl _ _ 79 rfl (w.heap.size + 1) 69 ig (.pointer none) 1 8 Try.underlying79 hig hg0 hg1 hg2 rfl (by decide) _ _ _ rfl (HO3.out.alloc _) ⟨w3.heap.size, 0, none⟩ 1 1 [evP b] rfl rfl ?c1 ?c2 ?c3 ?c4 ?c5 ?_)
        case c1 =>
          intro j u hj
          match j with
          | 0 => simp at hj; subst hj; simp [go_sem, Addr.add, evP]
          | j + 1 => simp at hj
        case c2 => intro u hu; simp at hu; subst hu; rfl
        case c3 => unfold maxLen; omega
        case c4 => omega
        case c5 => simp; omega
        intro v' w4 hown' hgrow _
        have HR2 := Lib.hid (HR.out.push hnd HQ.out HN.out HP.out HI3.out HB3.out HO3.out hflt.2.1 hs3 hown' hgrow)
        have hlen3 := HR2.out.len
        simp only [List.length_append, List.length_cons, List.length_nil] at hlen3
        clear HR HI3 HB3 HO3 hown' hgrow
        go_wp2_with fail
        go_roundg (gk - 1)
        case rel => exact ⟨done ++ [a], acc ++ [(a, b, r)], by simp; omega, HR2.out⟩
        case measure => omega
set_option maxHeartbeats 3200000 in
set_option maxRecDepth 100000 in
theorem rowsLost (f m : Nat) (T : Tb) (kb : Nat) (v : Value) (ks : List Int) (w : World) (h : Tab w f m T) (hl : T.length ≤ 1000000) (hk : w.cell? ⟨kb, 0, none⟩ = some v) (hv : ReadsK encI 1 w v ks) (hkl : ks.length ≤ 1000000) :
    Calls Try.prog 42 #[.pointer (some ⟨f, 0, none⟩), .func (.func 51) #[] #[.pointer (some ⟨kb, 0, none⟩)]] w (PickR T (fun _ r => lostB ks r) w) := by
  obtain ⟨ig, hig, hg0, hg1, hg2⟩ := info_parts info_ptr
  obtain ⟨w1, hrun, hI, hB, hsz⟩ := range_run (P := Try.prog) h.map Try.underlying65
  have hnd := h.keys
  have c0 := h.c0
  have hflt := h.lt
  have HT := Lib.hid h
  clear h
  obtain ⟨PP, hPP⟩ : ∃ PP : Nm → Rw → Bool, PP = (fun _ r => lostB ks r) := ⟨_, rfl⟩
  have HPP := Lib.hid hPP
  rw [← hPP]
  clear hPP
  go_enter Try.func42, Try.ntmps42
  go_wp2_with fail
  go_loopg [4] T.length (fun gk u wr => ∃ (done : List Nm) (acc : Tb), gk + done.length = T.length ∧ Rg m T PP w u done acc wr)
  case atStart => exact ⟨[], [], by simp, ⟨hI, hB, World.ownsRow_nil _ _ _ _, ⟨List.nodup_nil, by simp⟩, List.nodup_nil, by simp⟩⟩
  case round =>
    clear hI hrun hB hsz w1
    obtain ⟨done, acc, hlen, hR⟩ := hrel
    rcases hR.it.next (P := Try.prog) 0 with ⟨hall, hrun⟩ | ⟨p, hp, hnotin, w2, hrun, hI2, hO2, hent⟩
    · have hG := Lib.hid (gathered hnd hR.nd hR.mem hall)
      have HR := Lib.hid hR
      have hll : acc.length ≤ 1000000 := Nat.le_trans hR.len.1 hl
      have hrow : Hid (∀ p ∈ acc, wr.heap[p.2.1]? = some (rowO p.1 p.2.2)) := fun p hp => by
        have h1 := (HT.out.row p ((HR.out.mem p).1 hp).1).1
        exact (HR.out.low.block _ (Array.getElem?_eq_some_iff.1 h1).1).trans h1
      clear hall hR c0
      go_wp2_with fail
      refine (sortPtr_own acc _ HR.out.nd hrow.out (by decide) HR.out.own hll).mono ?_
      rintro e w3 ⟨rfl, hown3, hg3⟩
      have HO := Lib.hid hown3
      have HB3 := Lib.hid (HR.out.low.grown hg3 HR.out.low.size (fun b hb => by have := (HR.out.own.lt b hb).1; omega))
      clear hown3 hg3 HR hrow
      go_wp2_with fail
      go_ret
      exact ⟨_, rfl, by rw [← hG.out]; exact owns_base HO.out (Nat.le_succ _), HB3.out⟩
    · have hstep := hR.step hO2
      have he2 := hent w2 rfl rfl
      unfold mapT at hp
      obtain ⟨q, hq, rfl⟩ := List.mem_map.1 hp
      obtain ⟨a, b, r⟩ := q
      simp only at hnotin hI2 hstep hrun he2
      have hsz2 : w.heap.size < w2.heap.size := hI2.lt.1
      have hHB : w2.heap[b]? = some (rowO a r) := by
        have hTr := HT.out.row _ hq
        exact (hstep.1.block _ (Array.getElem?_eq_some_iff.1 hTr.1).1).trans hTr.1
      have HQ := Lib.hid hq
      have HN := Lib.hid hnotin
      have HR := Lib.hid hR
      have HI2 := Lib.hid hI2
      have HS := Lib.hid hstep
      have HHB := Lib.hid hHB
      have hlen2 := hR.len
      unfold encN evP at hrun he2
      clear hR hI2 hO2 hent c0 hp hq hnotin hstep hHB
      go_wp2_with fail
      refine (soLost b a r kb v ks w2 HHB.out (cell_keep HS.out.1 hk) (hv.below HS.out.1) hkl).mono ?_
      rintro e w3 ⟨rfl, hB⟩
      have HI3 := Lib.hid (HI2.out.block (hB.block _ HI2.out.lt.2.1) (hB.block _ HI2.out.lt.1))
      have HB3 := Lib.hid (HS.out.1.trans (hB.mono (by omega)))
      have HO3 := Lib.hid (own_low HS.out.2 hB)
      have hs3 : w.heap.size < w3.heap.size := by have := hB.size; omega
      have hcap : acc.length ≤ T.length := hlen2.1
      rw [show lostB ks r = PP a r by rw [HPP.out]]
      clear hB HI2 HS HHB he2 hrun
      cases hP : PP a r
      · have HR2 := Lib.hid (HR.out.skip hnd HQ.out HN.out hP HI3.out HB3.out HO3.out)
        have hlen3 := HR2.out.len
        simp only [List.length_append, List.length_cons, List.length_nil] at hlen3
        clear HR HI3 HB3 HO3 hP
        go_wp2_with fail
        go_roundg (gk - 1)
        case rel => exact ⟨done ++ [a], acc, by simp; omega, HR2.out⟩
        case measure => omega
      · have HP := Lib.hid hP
        clear hP
        go_wp2_with (at_builtin; refine wpList_append_own _ rfl _ _ 79 rfl (w.heap.size + 1) 69 ig (.pointer none) 1 8 Try.underlying79 hig hg0 hg1 hg2 rfl (by decide) _ _ _ rfl (HO3.out.alloc _) ⟨w3.heap.size, 0, none⟩ 1 1 [evP b] rfl rfl ?c1 ?c2 ?c3 ?c4 ?c5 ?_)
        case c1 =>
          intro j u hj
          match j with
          | 0 => simp at hj; subst hj; simp [go_sem, Addr.add, evP]
          | j + 1 => simp at hj
        case c2 => intro u hu; simp at hu; subst hu; rfl
        case c3 => unfold maxLen; omega
        case c4 => omega
        case c5 => simp; omega
        intro v' w4 hown' hgrow _
        have HR2 := Lib.hid (HR.out.push hnd HQ.out HN.out HP.out HI3.out HB3.out HO3.out hflt.2.1 hs3 hown' hgrow)
        have hlen3 := HR2.out.len
        simp only [List.length_append, List.length_cons, List.length_nil] at hlen3
        clear HR HI3 HB3 HO3 hown' hgrow
        go_wp2_with fail
        go_roundg (gk - 1)
        case rel => exact ⟨done ++ [a], acc ++ [(a, b, r)], by simp; omega, HR2.out⟩
        case measure => omega
end Go.Proofs.Ytpdnebimkfejoaa
namespace Go.Proofs.Ytpdnebimkfejoaa
open Go.RowKit Go.Sort Go.Lib

def encM (n : Nm) : List Value := [.int .u64 n.1, .string n.2]
def encQ (p : Nm × Nat × Rw) : List Value := [evP p.2.1]
abbrev Rl := Nm × Rw
instance : Inhabited Rl := ⟨((0, ⟨#[]⟩), ⟨0, none, 0, [], 0, 0, 0, 0⟩)⟩
def encT (p : Rl) : List Value := [.int .u64 p.1.1, .string p.1.2, .string p.1.2, .int .i64 p.2.fn, .slice p.2.aa p.2.args.length p.2.ac, .int .i64 p.2.fuel, .int .u8 p.2.st, .int .i64 p.2.wk, .int .u64 p.2.ep]
theorem encT_len (p : Rl) : (encT p).length = 9 := rfl
/-- A root, but where its arguments lie. -/
def core (r : Rw) : Rw := { r with aa := none, ac := 0 }
def coreP (p : Rl) : Rl := (p.1, core p.2)
def rowsT (T : Tb) : List Rl := T.map fun p => (p.1, core p.2.2)
def ArgsB (B : Nat) (w : World) (r : Rw) : Prop := w.ownsRow B 2 1 (.slice r.aa r.args.length r.ac) r.args.length (r.args.flatMap encI)
theorem ArgsB.far {B : Nat} {w w' : World} {r : Rw} (h : ArgsB B w r) (hb : ∀ (i : Nat) (cur : Array Value), w.heap[i]? = some (Obj.cells cur 2 (0, 0)) → w'.heap[i]? = w.heap[i]?) : ArgsB B w' r := by
  obtain ⟨h0, h1 | ⟨g, cap, cur, hv, h1, h2, h3⟩⟩ := h
  · exact ⟨h0, .inl h1⟩
  · exact ⟨h0, .inr ⟨g, cap, cur, hv, h1, (hb g cur h2).trans h2, h3⟩⟩
theorem ArgsB.base {B B' : Nat} {w : World} {r : Rw} (h : ArgsB B w r) (hb : B' ≤ B) : ArgsB B' w r := owns_base h hb
theorem info_name : (Try.prog.info? 29).map (fun i => (i.zero, i.size, i.bytes)) = some (some (.agg #[.int .u64 0, .string ⟨#[]⟩]), 2, 24) := by kernel_rfl
theorem info_root : (Try.prog.info? 42).map (fun i => (i.zero, i.size, i.bytes)) = some (some (.agg #[.int .u64 0, .string ⟨#[]⟩, .string ⟨#[]⟩, .int .i64 0, .slice none 0 0, .int .i64 0, .int .u8 0, .int .i64 0, .int .u64 0]), 9, 104) := by kernel_rfl
/-- A list of names that the call made. -/
def NamesR (l : List Nm) (w : World) (e : Ending) (w' : World) : Prop := ∃ v, e = .returned v ∧ w'.ownsRow w.heap.size 29 2 v l.length (l.flatMap encM) ∧ Below w.heap.size w w'
theorem reads_ptrs {w : World} {B : Nat} {v : Value} {l : Tb} (h : w.ownsRow B 69 1 v l.length (ptrs l)) : ReadsK encQ 1 w v l := own_readsV (enc := fun p : Nm × Nat × Rw => evP p.2.1) h
set_option maxHeartbeats 3200000 in
set_option maxRecDepth 100000 in
theorem names_any (l : Tb) (v : Value) (w : World) (hv : ReadsK encQ 1 w v l) (hr : ∀ p ∈ l, w.heap[p.2.1]? = some (rowO p.1 p.2.2)) (hl : l.length ≤ 1000000) :
    Calls Try.prog 44 #[v] w (NamesR (l.map (·.1)) w) := by
  obtain ⟨ig, hig, hg0, hg1, hg2⟩ := info_parts info_name
  obtain ⟨va, vc, rfl⟩ := hv.slice
  have HV := Lib.hid hv
  have HR := Lib.hid hr
  clear hv hr
  go_enter Try.func44, Try.ntmps44
  go_wp2_with fail
  go_loopg [2, 7] l.length (fun gk x i wr => ∃ (u : Value) (k : Nat), u = x ∧ gk + k = l.length ∧ i = .int .i64 k ∧ wr.ownsRow w.heap.size 29 2 u k ((l.take k).flatMap (fun p => encM p.1)) ∧ Below w.heap.size w wr)
  case atStart => exact ⟨_, 0, rfl, by omega, rfl, World.ownsRow_nil _ _ _ _, Below.refl _ _⟩
  case round =>
    obtain ⟨u, k, rfl, hk, rfl, hO, hB⟩ := hrel
    have HO := Lib.hid hO
    have HB := Lib.hid hB
    clear hO hB
    by_cases hlt : k < l.length
    · have hrow := HR.out _ (List.getElem_mem hlt)
      have hrow2 := (HB.out.block _ (Array.getElem?_eq_some_iff.1 hrow).1).trans hrow
      obtain ⟨b, off, c, he, hb, hc⟩ := HV.out.at (by omega)
      injection he with he1 he2 he3
      subst he1
      have hcc : wr.cell? ⟨b, off + k, none⟩ = some (evP l[k].2.1) := by have h := hc k hlt 0 _ rfl; rw [Nat.mul_one, Nat.add_zero] at h; exact cell_low HB.out hb h
      have HX := Lib.hid (show (l.take (k + 1)).flatMap (fun p => encM p.1) = (l.take k).flatMap (fun p => encM p.1) ++ encM l[k].1 by rw [List.take_succ_eq_append_getElem hlt, List.flatMap_append]; simp)
      generalize l[k] = p at *
      have q0 : wr.cell? ⟨p.2.1, 0, none⟩ = some (.int .u64 p.1.1) := row_cells hrow2 0
      have q1 : wr.cell? ⟨p.2.1, 1, none⟩ = some (.string p.1.2) := row_cells hrow2 1
      unfold evP at hcc
      clear hc hb he2 he3 hrow hrow2
      go_wp2_with (at_builtin; refine wpList_append_own _ rfl _ _ 45 rfl w.heap.size 29 ig (.agg #[.int .u64 0, .string ⟨#[]⟩]) 2 24 Try.underlying45 hig hg0 hg1 hg2 rfl (by decide) _ _ _ rfl (HO.out.alloc _) ⟨wr.heap.size, 0, none⟩ 1 1 (encM p.1) rfl rfl ?c1 ?c2 ?c3 ?c4 ?c5 ?_)
      case c1 =>
        intro j u hj
        match j with
        | 0 => simp [encM] at hj; subst hj; simp [go_sem, Addr.add]
        | 1 => simp [encM] at hj; subst hj; simp [go_sem, Addr.add]
        | j + 2 => simp [encM] at hj
      case c2 => intro u hu; simp [encM] at hu; rcases hu with rfl | rfl <;> rfl
      case c3 => unfold maxLen; omega
      case c4 => omega
      case c5 => have := HB.out.size; simp; omega
      intro v' w4 hown' hgrow _
      have HO2 := Lib.hid hown'
      have HB2 : Hid (Below w.heap.size w w4) := ((HB.out.alloc HB.out.size _).grown hgrow (by have := HB.out.size; simp; omega) (fun b hb => (HO.out.lt b hb).1))
      clear hown' hgrow q0 q1 hcc
      go_wp2_with fail
      go_roundg (gk - 1)
      case rel => exact ⟨_, k + 1, rfl, by omega, by go_num, by rw [HX.out]; exact HO2.out, HB2.out⟩
      case measure => omega
    · have hkl : k = l.length := by omega
      have HN := Lib.hid (show wr.ownsRow w.heap.size 29 2 u (l.map (·.1)).length ((l.map (·.1)).flatMap encM) by
        have h1 := HO.out
        rw [hkl, List.take_length] at h1
        rw [List.length_map, List.flatMap_map]; exact h1)
      clear hkl
      go_wp2_with fail
      go_ret
      exact ⟨_, rfl, HN.out, HB.out⟩
/-- A list of roots that the call made. -/
def RowsR (l : List Rl) (w : World) (e : Ending) (w' : World) : Prop :=
  ∃ (v : Value) (S : List Rl), e = .returned v ∧ w'.ownsRow w.heap.size 42 9 v S.length (S.flatMap encT) ∧ S.map coreP = l ∧ (∀ p ∈ S, ArgsB w.heap.size w' p.2) ∧ Below w.heap.size w w'
set_option maxHeartbeats 3200000 in
set_option maxRecDepth 100000 in
theorem all_any (l : Tb) (v : Value) (w : World) (hv : ReadsK encQ 1 w v l) (hr : ∀ p ∈ l, w.heap[p.2.1]? = some (rowO p.1 p.2.2) ∧ Args w p.2.2) (hl : l.length ≤ 1000000) (hargs : ∀ p ∈ l, p.2.2.args.length ≤ 1000000) :
    Calls Try.prog 41 #[v] w (RowsR (rowsT l) w) := by
  obtain ⟨ig, hig, hg0, hg1, hg2⟩ := info_parts info_root
  obtain ⟨va, vc, rfl⟩ := hv.slice
  have HV := Lib.hid hv
  have HR := Lib.hid hr
  clear hv hr
  go_enter Try.func41, Try.ntmps41
  go_wp2_with fail
  go_loopg [2, 7] l.length (fun gk x i wr => ∃ (u : Value) (S : List Rl), u = x ∧ gk + S.length = l.length ∧ i = .int .i64 S.length ∧ wr.ownsRow w.heap.size 42 9 u S.length (S.flatMap encT) ∧ Hid (S.map coreP = rowsT (l.take S.length) ∧ ∀ p ∈ S, ArgsB w.heap.size wr p.2) ∧ Below w.heap.size w wr)
  case atStart => exact ⟨_, [], rfl, by simp, rfl, World.ownsRow_nil _ _ _ _, ⟨by simp [rowsT], by simp⟩, Below.refl _ _⟩
  case round =>
    obtain ⟨u, S, rfl, hk, rfl, hO, HS, hB⟩ := hrel
    have HO := Lib.hid hO
    have HB := Lib.hid hB
    clear hO hB
    obtain ⟨k, hkS⟩ : ∃ k, S.length = k := ⟨_, rfl⟩
    have HKS := Lib.hid hkS
    rw [hkS] at hk HO HS ⊢
    clear hkS
    by_cases hlt : k < l.length
    · have hrow := HR.out _ (List.getElem_mem hlt)
      have hal := hargs _ (List.getElem_mem hlt)
      have hrow2 := (HB.out.block _ (Array.getElem?_eq_some_iff.1 hrow.1).1).trans hrow.1
      have harg2 := Args.far hrow.2 (fun i cur hi => HB.out.block i (Array.getElem?_eq_some_iff.1 hi).1)
      obtain ⟨b, off, c, he, hb, hc⟩ := HV.out.at (by omega)
      injection he with he1 he2 he3
      subst he1
      have hcc : wr.cell? ⟨b, off + k, none⟩ = some (evP l[k].2.1) := by have h := hc k hlt 0 _ rfl; rw [Nat.mul_one, Nat.add_zero] at h; exact cell_low HB.out hb h
      have HX := Lib.hid (show rowsT (l.take (k + 1)) = rowsT (l.take k) ++ [(l[k].1, core l[k].2.2)] by unfold rowsT; rw [List.take_succ_eq_append_getElem hlt, List.map_append]; rfl)
      generalize l[k] = p at *
      obtain ⟨n, bb, r⟩ := p
      simp only at hrow2 harg2 hal hcc HX
      unfold evP at hcc
      have HH := Lib.hid (show wr.heap[bb]? = some (rowO n r) ∧ Args wr r from ⟨hrow2, harg2⟩)
      clear hc hb he2 he3 hrow hrow2 harg2
      go_wp2_with fail
      refine (told_any bb n r wr HH.out.1 HH.out.2 hal).mono ?_
      rintro e w3 ⟨aa, ac, rfl, ho, hB⟩
      have HB3 := Lib.hid (HB.out.trans (hB.mono HB.out.size))
      have HO3 := Lib.hid (own_low HO.out hB)
      have HA3 : Hid (∀ p ∈ S, ArgsB w.heap.size w3 p.2) := fun p hp => (HS.out.2 p hp).far (fun i cur hi => hB.block i (Array.getElem?_eq_some_iff.1 hi).1)
      have HAR : Hid (ArgsB w.heap.size w3 { r with aa := aa, ac := ac }) := owns_base ho HB.out.size
      have HC := Lib.hid HS.out.1
      unfold rowV
      clear ho hB HS HH HO hcc HB
      go_wp2_with (at_builtin; refine wpList_append_own _ rfl _ _ 39 rfl w.heap.size 42 ig (.agg #[.int .u64 0, .string ⟨#[]⟩, .string ⟨#[]⟩, .int .i64 0, .slice none 0 0, .int .i64 0, .int .u8 0, .int .i64 0, .int .u64 0]) 9 104 Try.underlying39 hig hg0 hg1 hg2 rfl (by decide) _ _ _ rfl (HO3.out.alloc _) ⟨w3.heap.size, 0, none⟩ 1 1 (encT (n, { r with aa := aa, ac := ac })) rfl rfl ?c1 ?c2 ?c3 ?c4 ?c5 ?_)
      case c1 =>
        intro j u hj
        match j with
        | 0 => simp [encT] at hj; subst hj; simp [go_sem, Addr.add]
        | 1 => simp [encT] at hj; subst hj; simp [go_sem, Addr.add]
        | 2 => simp [encT] at hj; subst hj; simp [go_sem, Addr.add]
        | 3 => simp [encT] at hj; subst hj; simp [go_sem, Addr.add]
        | 4 => simp [encT] at hj; subst hj; simp [go_sem, Addr.add]
        | 5 => simp [encT] at hj; subst hj; simp [go_sem, Addr.add]
        | 6 => simp [encT] at hj; subst hj; simp [go_sem, Addr.add]
        | 7 => simp [encT] at hj; subst hj; simp [go_sem, Addr.add]
        | 8 => simp [encT] at hj; subst hj; simp [go_sem, Addr.add]
        | j + 9 => simp [encT] at hj
      case c2 => intro u hu; simp [encT] at hu; rcases hu with rfl | rfl | rfl | rfl | rfl | rfl | rfl | rfl | rfl <;> rfl
      case c3 => unfold maxLen; omega
      case c4 => omega
      case c5 => have := HB3.out.size; simp; omega
      intro v' w4 hown' hgrow _
      have HO2 := Lib.hid hown'
      have HB2 : Hid (Below w.heap.size w w4) := ((HB3.out.alloc HB3.out.size _).grown hgrow (by have := HB3.out.size; simp; omega) (fun b hb => (HO3.out.lt b hb).1))
      have hty : ∀ (i : Nat) (cur : Array Value), w3.heap[i]? = some (Obj.cells cur 2 (0, 0)) → w4.heap[i]? = w3.heap[i]? := fun i cur hi => by
        have hlt := (Array.getElem?_eq_some_iff.1 hi).1
        rw [hgrow.block i (by simp; omega) (fun e => ?_), Lib.alloc_old w3 _ i hlt]
        obtain ⟨_, ⟨h0, _⟩ | ⟨g, cap, cur', h0, _, h2, _⟩⟩ := HO3.out
        · rw [h0] at e; cases e
        · rw [h0] at e
          injection e with e
          change i = g at e
          subst e
          rw [h2] at hi
          injection hi with hi
          injection hi with _ hi _
          exact absurd hi (by decide)
      have HS2 : Hid ((S ++ [(n, { r with aa := aa, ac := ac })]).map coreP = rowsT (l.take (k + 1)) ∧ ∀ p ∈ S ++ [(n, { r with aa := aa, ac := ac })], ArgsB w.heap.size w4 p.2) := by
        refine ⟨by rw [List.map_append, HC.out, HX.out]; rfl, fun q hq => ?_⟩
        rcases List.mem_append.1 hq with hq | hq
        · exact (HA3.out q hq).far hty
        · rw [List.mem_singleton] at hq
          subst hq
          exact HAR.out.far hty
      clear hown' hgrow hty HA3 HAR HC HO3 HB3
      go_wp2_with fail
      go_roundg (gk - 1)
      case rel =>
        have e1 : (S ++ [(n, { r with aa := aa, ac := ac })]).length = k + 1 := by rw [List.length_append, HKS.out]; rfl
        refine ⟨_, S ++ [(n, { r with aa := aa, ac := ac })], rfl, by rw [e1]; omega, ?_, ?_, ?_, HB2.out⟩
        · rw [e1]; go_num
        · rw [e1, List.flatMap_append]; simpa using HO2.out
        · rw [e1]; exact HS2
      case measure => omega
    · have hkl : k = l.length := by omega
      have HN := Lib.hid (show wr.ownsRow w.heap.size 42 9 u S.length (S.flatMap encT) ∧ S.map coreP = rowsT l by
        refine ⟨by rw [HKS.out]; exact HO.out, ?_⟩
        rw [HS.out.1, hkl, List.take_length])
      clear hkl
      go_wp2_with fail
      go_ret
      exact ⟨_, S, rfl, HN.out.1, HN.out.2, HS.out.2, HB.out⟩
end Go.Proofs.Ytpdnebimkfejoaa
namespace Go.Proofs.Ytpdnebimkfejoaa
open Go.RowKit Go.Sort Go.Lib

theorem pick_len (T : Tb) (P : Nm → Rw → Bool) : (sortV (pick T P)).length ≤ T.length := by
  rw [(sortV_perm _).length_eq]; exact List.length_filter_le _ _
theorem pick_mem {T : Tb} {P : Nm → Rw → Bool} {p : Nm × Nat × Rw} (h : p ∈ sortV (pick T P)) : p ∈ T ∧ P p.1 p.2.2 = true := by
  have := (sortV_perm _).mem_iff.1 h
  unfold pick at this
  exact List.mem_filter.1 this
set_option maxHeartbeats 800000 in
set_option maxRecDepth 100000 in
theorem waits_tab (f m : Nat) (T : Tb) (w : World) (h : Tab w f m T) (hl : T.length ≤ 1000000) :
    Calls Try.prog 16 #[.pointer (some ⟨f, 0, none⟩)] w (NamesR ((sortV (pick T (fun _ r => decide (r.st = 1)))).map (·.1)) w) := by
  have HT := Lib.hid h
  clear h
  obtain ⟨S, hS⟩ : ∃ S : Tb, S = sortV (pick T (fun _ r => decide (r.st = 1))) := ⟨_, rfl⟩
  have HSS := Lib.hid hS
  rw [← hS]
  clear hS
  go_enter Try.func16, Try.ntmps16
  go_wp2_with fail
  refine (rowsWaits f m T w HT.out hl).mono ?_
  rintro e w2 ⟨v, rfl, ho, hB⟩
  rw [← HSS.out] at ho
  have HR := Lib.hid (reads_ptrs ho)
  have HB := Lib.hid hB
  have hln := pick_len T (fun _ r => decide (r.st = 1))
  rw [← HSS.out] at hln
  have HM := Lib.hid (show ∀ p ∈ S, w2.heap[p.2.1]? = some (rowO p.1 p.2.2) from fun p hp => ((HT.out.below HB.out).row p (pick_mem (HSS.out ▸ hp)).1).1)
  clear ho hB
  go_wp2_with fail
  refine (names_any S v w2 HR.out HM.out (by omega)).mono ?_
  rintro e w3 ⟨v3, rfl, ho, hB⟩
  have HO := Lib.hid ho
  have HB3 := Lib.hid (gthen HB.out hB)
  clear ho hB
  go_wp2_with fail
  go_ret
  exact ⟨_, rfl, owns_base HO.out HB.out.size, HB3.out⟩
set_option maxHeartbeats 800000 in
set_option maxRecDepth 100000 in
theorem rows_tab (f m : Nat) (T : Tb) (w : World) (h : Tab w f m T) (hl : T.length ≤ 1000000) (hargs : ∀ p ∈ T, p.2.2.args.length ≤ 1000000) :
    Calls Try.prog 13 #[.pointer (some ⟨f, 0, none⟩)] w (RowsR (rowsT (sortV T)) w) := by
  have HT := Lib.hid h
  have HAR := Lib.hid hargs
  clear h hargs
  obtain ⟨S, hS⟩ : ∃ S : Tb, S = sortV (pick T (fun _ _ => true)) := ⟨_, rfl⟩
  have HSS := Lib.hid hS
  rw [show sortV T = S by rw [hS, show pick T (fun _ _ => true) = T from List.filter_eq_self.2 (fun _ _ => rfl)]]
  clear hS
  go_enter Try.func13, Try.ntmps13
  go_wp2_with fail
  refine (rowsAll f m T w HT.out hl).mono ?_
  rintro e w2 ⟨v, rfl, ho, hB⟩
  rw [← HSS.out] at ho
  have HR := Lib.hid (reads_ptrs ho)
  have HB := Lib.hid hB
  have hln := pick_len T (fun _ _ => true)
  rw [← HSS.out] at hln
  have HM := Lib.hid (show ∀ p ∈ S, w2.heap[p.2.1]? = some (rowO p.1 p.2.2) ∧ Args w2 p.2.2 from fun p hp => (HT.out.below HB.out).row p (pick_mem (HSS.out ▸ hp)).1)
  have HA := Lib.hid (show ∀ p ∈ S, p.2.2.args.length ≤ 1000000 from fun p hp => HAR.out p (pick_mem (HSS.out ▸ hp)).1)
  clear ho hB
  go_wp2_with fail
  refine (all_any S v w2 HR.out HM.out (by omega) HA.out).mono ?_
  rintro e w3 ⟨v3, S3, rfl, ho, hc, ha, hB⟩
  have HO := Lib.hid ho
  have HC := Lib.hid hc
  have HA3 := Lib.hid ha
  have HB3 := Lib.hid (gthen HB.out hB)
  clear ho hB hc ha
  go_wp2_with fail
  go_ret
  exact ⟨_, S3, rfl, owns_base HO.out HB.out.size, HC.out, fun p hp => (HA3.out p hp).base HB.out.size, HB3.out⟩
set_option maxHeartbeats 800000 in
set_option maxRecDepth 100000 in
theorem within_tab (f m : Nat) (T : Tb) (n : Nm) (w : World) (h : Tab w f m T) (hl : T.length ≤ 1000000) (hargs : ∀ p ∈ T, p.2.2.args.length ≤ 1000000) (hz : ∀ p ∈ T, p.1.2.size ≤ 9223372036854775807) :
    Calls Try.prog 19 #[.pointer (some ⟨f, 0, none⟩), .agg #[.int .u64 n.1, .string n.2]] w (RowsR (rowsT (sortV (pick T (fun a _ => withinB T n a)))) w) := by
  have hA : Below w.heap.size w ((w.alloc (.cells #[.pointer (some ⟨f, 0, none⟩)] 25)).alloc (.cells #[.int .u64 n.1, .string n.2] 29)) := ((Below.refl _ _).alloc (Nat.le_refl _) _).alloc (by simp) _
  have b0 : ((w.alloc (.cells #[.pointer (some ⟨f, 0, none⟩)] 25)).alloc (.cells #[.int .u64 n.1, .string n.2] 29)).heap[w.heap.size]? = some (.cells #[.pointer (some ⟨f, 0, none⟩)] 25 (0, 0)) :=
    (((Below.refl (w.alloc (.cells #[.pointer (some ⟨f, 0, none⟩)] 25)).heap.size _).alloc (Nat.le_refl _) _).block _ (by simp)).trans (heap_alloc_new _ _)
  have b1 := heap_alloc_new (w.alloc (.cells #[.pointer (some ⟨f, 0, none⟩)] 25)) (.cells #[.int .u64 n.1, .string n.2] 29)
  rw [show (w.alloc (.cells #[.pointer (some ⟨f, 0, none⟩)] 25)).heap.size = w.heap.size + 1 by simp] at b1
  have HT := Lib.hid (h.below hA)
  have HAR := Lib.hid hargs
  have HZ := Lib.hid hz
  have HA := Lib.hid hA
  have HB0 := Lib.hid b0
  have HB1 := Lib.hid b1
  clear h hargs hz hA b0 b1
  obtain ⟨S, hS⟩ : ∃ S : Tb, S = sortV (pick T (fun a _ => withinB T n a)) := ⟨_, rfl⟩
  have HSS := Lib.hid hS
  rw [← hS]
  clear hS
  go_enter Try.func19, Try.ntmps19
  go_wp2_with fail
  generalize (w.alloc (.cells #[.pointer (some ⟨f, 0, none⟩)] 25)).alloc (.cells #[.int .u64 n.1, .string n.2] 29) = w1 at *
  have k0 : w1.cell? ⟨w.heap.size, 0, none⟩ = some (.pointer (some ⟨f, 0, none⟩)) := by have := HB0.out; simp [World.cell?, this]
  have k1 : w1.cell? ⟨w.heap.size + 1, 0, none⟩ = some (.int .u64 n.1) := by have := HB1.out; simp [World.cell?, this]
  have k2 : w1.cell? ⟨w.heap.size + 1, 1, none⟩ = some (.string n.2) := by have := HB1.out; simp [World.cell?, this]
  refine (rowsWithin f m T n w.heap.size (w.heap.size + 1) w1 HT.out hl HZ.out k0 k1 k2).mono ?_
  rintro e w2 ⟨v, rfl, ho, hB⟩
  rw [← HSS.out] at ho
  have HR := Lib.hid (reads_ptrs ho)
  have HB := Lib.hid hB
  have hln := pick_len T (fun a _ => withinB T n a)
  rw [← HSS.out] at hln
  have HM := Lib.hid (show ∀ p ∈ S, w2.heap[p.2.1]? = some (rowO p.1 p.2.2) ∧ Args w2 p.2.2 from fun p hp => (HT.out.below HB.out).row p (pick_mem (HSS.out ▸ hp)).1)
  have HP := Lib.hid (show ∀ p ∈ S, p.2.2.args.length ≤ 1000000 from fun p hp => HAR.out p (pick_mem (HSS.out ▸ hp)).1)
  clear ho hB k0 k1 k2 HB0 HB1
  go_wp2_with fail
  refine (all_any S v w2 HR.out HM.out (by omega) HP.out).mono ?_
  rintro e w3 ⟨v3, S3, rfl, ho, hc, ha, hB⟩
  have HO := Lib.hid ho
  have HC := Lib.hid hc
  have HA3 := Lib.hid ha
  have HB2 := Lib.hid (gthen HA.out HB.out)
  have HB3 := Lib.hid (gthen HB2.out hB)
  clear ho hB hc ha
  go_wp2_with fail
  go_ret
  exact ⟨_, S3, rfl, owns_base HO.out HB2.out.size, HC.out, fun p hp => (HA3.out p hp).base HB2.out.size, HB3.out⟩
def inB (done : List Nm) (n : Nm) : Bool := done.any (fun x => decide (x = n))
theorem inB_iff (done : List Nm) (n : Nm) : inB done n = true ↔ n ∈ done := by
  unfold inB; rw [List.any_eq_true]
  constructor
  · rintro ⟨x, hx, h⟩; rw [← of_decide_eq_true h]; exact hx
  · intro h; exact ⟨n, h, by simp⟩
theorem inB_snoc (done : List Nm) (n m : Nm) : inB (done ++ [n]) m = (inB done m || decide (n = m)) := by
  unfold inB; rw [List.any_append]; simp
/-- What is left behind a worker that is lost. -/
def freeR (r : Rw) : Rw := { r with st := 1, wk := 0, ep := 0 }
def freeT (T : Tb) (ns : List Nm) : Tb := T.map fun (p : Nm × Nat × Rw) => if inB ns p.1 then (p.1, p.2.1, freeR p.2.2) else p
def lostT (T : Tb) (ks : List Int) : Tb := T.map fun p => if lostB ks p.2.2 then (p.1, p.2.1, freeR p.2.2) else p
theorem freeT_nil (T : Tb) : freeT T [] = T := by unfold freeT inB; simp
theorem freeT_len (T : Tb) (ns : List Nm) : (freeT T ns).length = T.length := by unfold freeT; simp
theorem freeT_keys (T : Tb) (ns : List Nm) : (freeT T ns).map (·.1) = T.map (·.1) := by
  unfold freeT; rw [List.map_map]
  apply List.map_congr_left
  intro p _; simp only [Function.comp]; split <;> rfl
theorem freeT_rows {T : Tb} {ns : List Nm} {i : Nat} (h : InRows (freeT T ns) i) : InRows T i := by
  obtain ⟨p, hp, he⟩ := h
  unfold freeT at hp
  obtain ⟨q, hq, rfl⟩ := List.mem_map.1 hp
  refine ⟨q, hq, ?_⟩
  revert he; split <;> exact id
theorem freeT_get {T : Tb} {ns : List Nm} {n : Nm} {b : Nat} {r : Rw} (h : getL T n = some (b, r)) (hn : n ∉ ns) : getL (freeT T ns) n = some (b, r) := by
  have hk : ∀ m, getL (freeT T ns) m = (getL T m).map fun p => (p.1, if inB ns m then freeR p.2 else p.2) := by
    intro m
    unfold getL freeT
    rw [List.find?_map]
    have : ((fun p : Nm × Nat × Rw => decide (p.1 = m)) ∘ fun p => if inB ns p.1 then (p.1, p.2.1, freeR p.2.2) else p) = fun p => decide (p.1 = m) := by
      funext p; simp only [Function.comp]; split <;> rfl
    rw [this]
    cases hf : T.find? (fun p => decide (p.1 = m)) with
    | none => rfl
    | some q =>
      have hq : q.1 = m := by simpa using List.find?_some hf
      subst hq
      simp only [Option.map_some]
      split <;> rfl
  have hn' : inB ns n = false := by
    cases hc : inB ns n
    · rfl
    · exact absurd ((inB_iff _ _).1 hc) hn
  rw [hk, h]; simp [hn']
theorem freeT_snoc {T : Tb} {ns : List Nm} {n : Nm} {b : Nat} {r : Rw} (hn : (T.map (·.1)).Nodup) (h : getL T n = some (b, r)) (hns : n ∉ ns) : updT (freeT T ns) n { r with st := 1, wk := 0, ep := 0 } = freeT T (ns ++ [n]) := by
  unfold updT freeT
  rw [List.map_map]
  apply List.map_congr_left
  intro p hp
  simp only [Function.comp]
  have hn' : inB ns n = false := by
    cases hc : inB ns n
    · rfl
    · exact absurd ((inB_iff _ _).1 hc) hns
  rw [inB_snoc]
  by_cases e : p.1 = n
  · have : p = (n, b, r) := eq_of_keyV hn hp (getL_mem' h) e
    subst this
    simp [hn', freeR]
  · have e' : ¬ n = p.1 := fun x => e x.symm
    cases hc : inB ns p.1
    · simp [e, e']
    · simp [e, e']
theorem freeT_all {T : Tb} {ks : List Int} (hn : (T.map (·.1)).Nodup) : freeT T ((sortV (pick T (fun _ r => lostB ks r))).map (·.1)) = lostT T ks := by
  unfold freeT lostT
  apply List.map_congr_left
  intro p hp
  have : p.1 ∈ (sortV (pick T (fun _ r => lostB ks r))).map (·.1) ↔ lostB ks p.2.2 = true := by
    constructor
    · intro h
      obtain ⟨q, hq, he⟩ := List.mem_map.1 h
      obtain ⟨h1, h2⟩ := pick_mem hq
      have := eq_of_keyV hn h1 hp he
      subst this; exact h2
    · intro h
      refine List.mem_map.2 ⟨p, (sortV_perm _).mem_iff.2 ?_, rfl⟩
      unfold pick
      exact List.mem_filter.2 ⟨hp, h⟩
  by_cases h : lostB ks p.2.2 = true
  · rw [if_pos ((inB_iff _ _).2 (this.2 h)), if_pos h]
  · rw [if_neg (fun x => h (this.1 ((inB_iff _ _).1 x))), if_neg h]
/-- What Lost answers. -/
def LostR (f m : Nat) (T : Tb) (ks : List Int) (w : World) (e : Ending) (w' : World) : Prop :=
  ∃ v, e = .returned v ∧ w'.ownsRow w.heap.size 29 2 v (sortV (pick T (fun _ r => lostB ks r))).length ((sortV (pick T (fun _ r => lostB ks r))).flatMap (fun p => encM p.1)) ∧ Tab w' f m (lostT T ks) ∧ Fr (InRows T) w w'
set_option maxHeartbeats 1600000 in
set_option maxRecDepth 100000 in
theorem lost_tab (f m : Nat) (T : Tb) (v : Value) (ks : List Int) (w : World) (h : Tab w f m T) (hl : T.length ≤ 1000000) (hv : ReadsK encI 1 w v ks) (hkl : ks.length ≤ 1000000) :
    Calls Try.prog 22 #[.pointer (some ⟨f, 0, none⟩), v] w (LostR f m T ks w) := by
  have hA : Below w.heap.size w (w.alloc (.cells #[v] 60)) := (Below.refl _ _).alloc (Nat.le_refl _) _
  have b0 := heap_alloc_new w (.cells #[v] 60)
  have hnd := h.keys
  have HT := Lib.hid (h.below hA)
  have HT0 := Lib.hid h
  have HA := Lib.hid hA
  have HB0 := Lib.hid b0
  have HV := Lib.hid (hv.below hA)
  obtain ⟨va, vc, rfl⟩ := hv.slice
  clear h hA b0 hv
  unfold LostR
  obtain ⟨S, hS⟩ : ∃ S : Tb, S = sortV (pick T (fun _ r => lostB ks r)) := ⟨_, rfl⟩
  have HSS := Lib.hid hS
  rw [← hS]
  clear hS
  go_enter Try.func22, Try.ntmps22
  go_wp2_with fail
  generalize w.alloc (.cells #[.slice va ks.length vc] 60) = w1 at *
  have k0 : w1.cell? ⟨w.heap.size, 0, none⟩ = some (.slice va ks.length vc) := by have := HB0.out; simp [World.cell?, this]
  refine (rowsLost f m T w.heap.size _ ks w1 HT.out hl k0 HV.out hkl).mono ?_
  rintro e w2 ⟨v, rfl, ho, hB⟩
  rw [← HSS.out] at ho
  have HO := Lib.hid ho
  have HB := Lib.hid (gthen HA.out hB)
  have hs1 := HA.out.size
  have hln := pick_len T (fun _ r => lostB ks r)
  rw [← HSS.out] at hln
  have HP := Lib.hid (show ∀ p ∈ S, p ∈ T from fun p hp => (pick_mem (HSS.out ▸ hp)).1)
  have HND := Lib.hid (show (S.map (·.1)).Nodup from HSS.out ▸ ((sortV_perm _).map (·.1)).nodup_iff.2 (hnd.sublist (List.filter_sublist.map _)))
  have HALL := Lib.hid (show freeT T (S.map (·.1)) = lostT T ks from HSS.out ▸ freeT_all (T := T) (ks := ks) hnd)
  obtain ⟨a0, c0, hv0⟩ := (reads_ptrs HO.out).slice
  subst hv0
  have HND0 := Lib.hid hnd
  clear ho hB k0 HV HB0 HT hnd
  go_wp2_with fail
  go_loopg [13] S.length (fun gk i wr => ∃ k : Nat, gk + k = S.length ∧ i = .int .i64 k ∧ Tab wr f m (freeT T ((S.take k).map (·.1))) ∧ Fr (InRows T) w wr ∧ wr.ownsRow w1.heap.size 69 1 (.slice a0 S.length c0) S.length (ptrs S))
  case atStart => exact ⟨0, by omega, rfl, by rw [List.take_zero, List.map_nil, freeT_nil]; exact HT0.out.below HB.out, .of_below HB.out, HO.out⟩
  case round =>
    obtain ⟨k, hk, rfl, hT, hF, hO⟩ := hrel
    have HTR := Lib.hid hT
    have HF := Lib.hid hF
    have HOR := Lib.hid hO
    clear hT hF hO
    by_cases hlt : k < S.length
    · obtain ⟨b, off, c, he, hb, hc⟩ := (reads_ptrs HOR.out).at (by omega)
      injection he with he1 he2 he3
      subst he1
      have hcc : wr.cell? ⟨b, off + k, none⟩ = some (evP S[k].2.1) := by have h := hc k hlt 0 _ rfl; rw [Nat.mul_one, Nat.add_zero] at h; exact h
      have hmem := HP.out _ (List.getElem_mem hlt)
      have HX := Lib.hid (show (S.take (k + 1)).map (·.1) = (S.take k).map (·.1) ++ [S[k].1] by rw [List.take_succ_eq_append_getElem hlt, List.map_append]; rfl)
      have hnot : S[k].1 ∉ (S.take k).map (·.1) := by
        intro hx
        have h1 := HND.out
        rw [← List.take_append_drop k S, List.map_append, List.nodup_append] at h1
        exact h1.2.2 _ hx S[k].1 (List.mem_map.2 ⟨S[k], by rw [List.drop_eq_getElem_cons hlt]; exact List.mem_cons_self, rfl⟩) rfl
      generalize S[k] = p at *
      obtain ⟨n, bb, r⟩ := p
      simp only at hmem hcc HX hnot
      have hg := (getL_memV HND0.out n (bb, r)).2 hmem
      have hg2 := freeT_get hg hnot
      have hrow := (HTR.out.at hg2).1
      unfold evP at hcc
      have HROW := Lib.hid hrow
      have HG := Lib.hid hg
      have HG2 := Lib.hid hg2
      have HNOT := Lib.hid hnot
      have HMEM := Lib.hid hmem
      clear hc hb he2 he3 hrow hg hg2 hnot hmem
      go_wp2_with fail
      refine (to_any bb n r 1 0 0 wr HROW.out).mono ?_
      rintro e w3 ⟨rfl, hrow, hF3⟩
      have HT3 := Lib.hid (show Tab w3 f m (freeT T ((S.take (k + 1)).map (·.1))) by
        have h1 := HTR.out.set (r' := { r with st := 1, wk := 0, ep := 0 }) HG2.out hF3 hrow ⟨rfl, rfl, rfl⟩
        rw [freeT_snoc HND0.out HG.out HNOT.out, ← HX.out] at h1
        exact h1)
      have HF3 := Lib.hid (HF.out.trans (hF3.mono (fun i hi => ⟨_, HMEM.out, hi.symm⟩)))
      have HO3 : Hid (w3.ownsRow w1.heap.size 69 1 (.slice (some ⟨b, off, none⟩) S.length c0) S.length (ptrs S)) := by
        refine ⟨HOR.out.1, HOR.out.2.imp id ?_⟩
        rintro ⟨g, cap, cur, hv, h1, h2, h3⟩
        refine ⟨g, cap, cur, hv, h1, (hF3.block g (Array.getElem?_eq_some_iff.1 h2).1 (fun e => ?_)).trans h2, h3⟩
        have h4 := HROW.out
        rw [← e, h2] at h4
        unfold rowO at h4
        injection h4 with h4
        injection h4 with _ h4 _
        exact absurd h4 (by decide)
      clear hrow hF3 HTR HF HOR HROW HG HG2 HNOT HX hcc
      go_wp2_with fail
      go_roundg (gk - 1)
      case rel => exact ⟨k + 1, by omega, by go_num, HT3.out, HF3.out, HO3.out⟩
      case measure => omega
    · have hkl : k = S.length := by omega
      have HT3 := Lib.hid (show Tab wr f m (lostT T ks) by
        have h1 := HTR.out
        rw [hkl, List.take_length, HALL.out] at h1
        exact h1)
      have HRD := Lib.hid (show ReadsK encQ 1 wr (.slice a0 S.length c0) (S.map fun p => (p.1, p.2.1, freeR p.2.2)) by
        have h1 := reads_ptrs HOR.out
        rcases h1 with ⟨e, h2⟩ | ⟨b, off, cap, h2, h3, h4⟩
        · exact .inl ⟨by rw [e]; rfl, by simpa using h2⟩
        · refine .inr ⟨b, off, cap, by simpa using h2, h3, fun i hi t u hu => ?_⟩
          have hi' : i < S.length := by simpa using hi
          rw [List.getElem_map] at hu
          exact h4 i hi' t u hu)
      have HM := Lib.hid (show ∀ p ∈ S.map (fun p => (p.1, p.2.1, freeR p.2.2)), wr.heap[p.2.1]? = some (rowO p.1 p.2.2) by
        intro p hp
        obtain ⟨q, hq, rfl⟩ := List.mem_map.1 hp
        have h1 : (q.1, q.2.1, freeR q.2.2) ∈ freeT T ((S.take k).map (·.1)) := by
          unfold freeT
          refine List.mem_map.2 ⟨q, HP.out q hq, ?_⟩
          rw [if_pos]
          rw [hkl, List.take_length, inB_iff]
          exact List.mem_map.2 ⟨q, hq, rfl⟩
        exact (HTR.out.row _ h1).1)
      have hwl : w.heap.size ≤ wr.heap.size := HF.out.size
      clear hkl HTR HOR
      go_wp2_with fail
      refine (names_any (S.map fun p => (p.1, p.2.1, freeR p.2.2)) _ wr (by simpa using HRD.out) HM.out (by simp; omega)).mono ?_
      rintro e w4 ⟨v4, rfl, ho, hB⟩
      have HO4 := Lib.hid (show w4.ownsRow w.heap.size 29 2 v4 S.length (S.flatMap (fun p => encM p.1)) by
        have h1 := owns_base ho hwl
        rw [List.length_map, List.length_map, List.map_map, List.flatMap_map] at h1
        exact h1)
      have HT4 := Lib.hid (HT3.out.below hB)
      have HF4 := Lib.hid (HF.out.then hB)
      clear ho hB
      go_wp2_with fail
      go_ret
      exact ⟨_, rfl, HO4.out, HT4.out, HF4.out⟩
end Go.Proofs.Ytpdnebimkfejoaa
namespace Go.Proofs.Ytpdnebimkfejoaa
open Go.RowKit Go.Sort Go.Lib

section
variable {V : Type}
def outP (l : List (Nm × V)) (bad : Nm → Bool) (done : List Nm) : List (Nm × V) := l.filter (fun p => !(inB done p.1 && bad p.1))
def dropP (l : List (Nm × V)) (bad : Nm → Bool) : List (Nm × V) := l.filter (fun p => !bad p.1)
theorem outP_nil (l : List (Nm × V)) (bad : Nm → Bool) : outP l bad [] = l := by
  unfold outP; rw [List.filter_eq_self]; intro p _; rfl
theorem outP_all {l : List (Nm × V)} {bad : Nm → Bool} {done : List Nm} (h : ∀ p ∈ outP l bad done, p.1 ∈ done) : outP l bad done = dropP l bad := by
  unfold outP dropP
  apply List.filter_congr
  intro p hp
  cases hj : bad p.1
  · simp
  · cases hc : inB done p.1
    · have := h p (by unfold outP; rw [List.mem_filter]; exact ⟨hp, by rw [hc]; rfl⟩)
      rw [(inB_iff _ _).2 this] at hc; cases hc
    · rfl
theorem outP_keep {l : List (Nm × V)} {bad : Nm → Bool} {done : List Nm} {n : Nm} (h : bad n = false) : outP l bad (done ++ [n]) = outP l bad done := by
  unfold outP
  apply List.filter_congr
  intro p _
  rw [inB_snoc]
  by_cases e : n = p.1
  · subst e; simp [h]
  · simp [e]
theorem outP_drop {l : List (Nm × V)} {bad : Nm → Bool} {done : List Nm} {n : Nm} (h : bad n = true) : outP l bad (done ++ [n]) = delL (outP l bad done) n := by
  unfold outP delL
  rw [List.filter_filter]
  apply List.filter_congr
  intro p _
  rw [inB_snoc]
  by_cases e : p.1 = n
  · rw [e, h]; simp
  · have e2 : ¬ n = p.1 := fun x => e x.symm
    simp [e, e2]
theorem outP_sub {l : List (Nm × V)} {bad : Nm → Bool} {done : List Nm} {p : Nm × V} (h : p ∈ outP l bad done) : p ∈ l := (List.mem_filter.1 h).1
end

theorem map_cell {V : Type} {ev : V → Value} {w : World} {m : Nat} {l : List (Nm × V)} (h : MapL ev w m l) {a : Addr} {x : Value} (hx : w.cell? a = some x) : a.block ≠ m := by
  rintro rfl
  obtain ⟨es, c, hb, _⟩ := h
  simp [World.cell?, hb] at hx
theorem ReadsK.onMap {α : Type} {enc : α → List Value} {k m : Nat} {w w' : World} {v : Value} {l : List α} (h : ReadsK enc k w v l) (hF : Fr (fun i => i = m) w w') (hm : ∀ a x, w.cell? a = some x → a.block ≠ m) : ReadsK enc k w' v l := by
  rcases h with h | ⟨b, off, cap, hv, hb, hc⟩
  · exact .inl h
  · refine .inr ⟨b, off, cap, hv, Nat.lt_of_lt_of_le hb hF.size, fun i hi t u hu => ?_⟩
    have h1 := hc i hi t u hu
    exact (hF.cell (p := ⟨b, _, none⟩) hb (hm _ _ h1)).trans h1
def badJ (js : List Int) (n : Nm) : Bool := decide (n.1 ∈ js)
set_option maxHeartbeats 800000 in
theorem dropCl25 (n : Nm) (b rb : Nat) (v : Value) (js : List Int) (w : World) (h1 : w.cell? ⟨rb, 0, none⟩ = some v) (hv : ReadsK encU64 1 w v js) (hjl : js.length ≤ 1000000) :
    Calls Try.prog 39 #[.agg #[.int .u64 n.1, .string n.2], evP b, .pointer (some ⟨rb, 0, none⟩)] w fun e' w' => e' = .returned (.bool (badJ js n)) ∧ Below w.heap.size w w' := by
  have hA : Below w.heap.size w (w.alloc (.cells #[.int .u64 n.1, .string n.2] 29)) := (Below.refl _ _).alloc (Nat.le_refl _) _
  have k1 := cell_keep hA h1
  have HV := Lib.hid (hv.below hA)
  have HA := Lib.hid hA
  obtain ⟨va, vc, rfl⟩ := hv.slice
  clear hA h1 hv
  unfold evP
  go_enter Try.func39, Try.ntmps39
  go_wp2_with fail
  refine (containsU_any js n.1 _ _ HV.out hjl).mono ?_
  rintro e w2 ⟨rfl, rfl⟩
  go_wp2_with fail
  go_ret
  exact ⟨rfl, HA.out⟩
set_option maxHeartbeats 1600000 in
set_option maxRecDepth 100000 in
theorem deleteFunc25 (m : Nat) (l : List (Nm × Nat)) (rb : Nat) (v : Value) (js : List Int) (w : World) (h : MapL evP w m l) (h1 : w.cell? ⟨rb, 0, none⟩ = some v) (hrl : rb < w.heap.size) (hv : ReadsK encU64 1 w v js) (hjl : js.length ≤ 1000000) :
    Calls Try.prog 38 #[.map (some m), .func (.func 39) #[] #[.pointer (some ⟨rb, 0, none⟩)]] w fun e w' =>
      e = .returned (.tuple #[]) ∧ MapL evP w' m (dropP l (badJ js)) ∧ Fr (fun i => i = m) w w' := by
  obtain ⟨w1, hrun, hI, hB, hsz⟩ := range_run (P := Try.prog) h Try.underlying65
  go_enter Try.func38, Try.ntmps38
  go_wp2_with fail
  go_loopg [] l.length (fun gk wr => ∃ done : List Nm, gk + done.length = l.length ∧ Hid (done.Nodup ∧ ∀ n ∈ done, n ∈ l.map (·.1)) ∧ IterL evP wr w.heap.size m (outP l (badJ js) done) done ∧ Fr (fun i => i = m) w wr)
  case atStart => exact ⟨[], by simp, ⟨List.nodup_nil, by simp⟩, by rw [outP_nil]; exact hI, .of_below hB⟩
  case round =>
    clear hI hrun hB hsz w1
    obtain ⟨done, hlen, hD, hI, hF⟩ := hrel
    rcases hI.next (P := Try.prog) 0 with ⟨hall, hrun⟩ | ⟨p, hp, hnd, w2, hrun, hI2, hO2, hent⟩
    · have hM := Lib.hid (outP_all hall ▸ hI.map)
      clear hall hI
      go_wp2_with fail
      go_end0
      exact ⟨rfl, hM.out, hF⟩
    · have hlt := hI.lt
      have hmw : m < w.heap.size := h.lt
      have hne : rb ≠ m := fun e => by
        obtain ⟨es, c, hb, _⟩ := h
        rw [e] at h1; simp [World.cell?, hb] at h1
      have hF2 : Fr (fun i => i = m) w w2 := ⟨hO2.1.trans hF.os, hO2.2.1.trans hF.tape, hO2.2.2.1.trans hF.output, by rw [hO2.2.2.2.1]; exact hF.size, fun i hi hs => (hO2.2.2.2.2 i (by omega)).trans (hF.block i hi hs)⟩
      have he2 := hent w2 rfl rfl
      have hsz2 : w.heap.size < w2.heap.size := by rw [hO2.2.2.2.1]; exact hlt.1
      have hB3 : Below w2.heap.size w2 (w2.alloc (.cells #[.int .u64 p.1.1, .string p.1.2] 29)) := (Below.refl _ _).alloc (Nat.le_refl _) _
      have hj3 : ∀ o, (w2.alloc (.cells #[.int .u64 p.1.1, .string p.1.2] 29)).cell? ⟨rb, o, none⟩ = w.cell? ⟨rb, o, none⟩ := fun o =>
        (hB3.cell (p := ⟨rb, o, none⟩) (by simp; omega)).trans (hF2.cell (p := ⟨rb, o, none⟩) hrl hne)
      have hlen2 : done.length + 1 ≤ l.length := by
        have hx : (done ++ [p.1]).length ≤ (l.map (·.1)).length := List.Nodup.length_le_of_subset (by
          rw [List.nodup_append]; exact ⟨hD.out.1, by simp, fun a ha b hb e => by simp at hb; subst hb; subst e; exact hnd ha⟩) (by
          intro n hn; rw [List.mem_append] at hn
          rcases hn with hn | hn
          · exact hD.out.2 n hn
          · simp at hn; subst hn; exact List.mem_map.2 ⟨p, outP_sub hp, rfl⟩)
        simpa using hx
      have hD2 : Hid ((done ++ [p.1]).Nodup ∧ ∀ n ∈ done ++ [p.1], n ∈ l.map (·.1)) := by
        refine ⟨?_, ?_⟩
        · rw [List.nodup_append]; exact ⟨hD.out.1, by simp, fun a ha b hb e => by simp at hb; subst hb; subst e; exact hnd ha⟩
        · intro n hn; rw [List.mem_append] at hn
          rcases hn with hn | hn
          · exact hD.out.2 n hn
          · simp at hn; subst hn; exact List.mem_map.2 ⟨p, outP_sub hp, rfl⟩
      have HI := Lib.hid hI2
      have HV3 := Lib.hid ((hv.onMap hF2 (fun a x hx => map_cell h hx)).below hB3)
      unfold encN evP at hrun he2
      clear hI hnd hp hent hO2 hF hD hI2 hlt
      go_wp2_with fail
      refine (dropCl25 p.1 p.2 rb v js _ ((hj3 0).trans h1) HV3.out hjl).mono ?_
      rintro e w4 ⟨rfl, hB4⟩
      have hB5 := hB3.trans (hB4.mono (by simp))
      have n1 : w4.cell? ⟨w2.heap.size, 0, none⟩ = some (.int .u64 p.1.1) := (hB4.cell (p := ⟨w2.heap.size, 0, none⟩) (by simp)).trans (by simp)
      have n2 : w4.cell? ⟨w2.heap.size, 1, none⟩ = some (.string p.1.2) := (hB4.cell (p := ⟨w2.heap.size, 1, none⟩) (by simp)).trans (by simp)
      have HI4 : Hid (IterL evP w4 w.heap.size m (outP l (badJ js) done) (done ++ [p.1])) := HI.out.block (hB5.block _ HI.out.lt.2.1) (hB5.block _ HI.out.lt.1)
      have hF4 := hF2.then hB5
      clear hB3 hB4 hB5 HI hF2 hrun he2 hj3 HV3
      cases hjb : badJ js p.1
      · have hk := Lib.hid (outP_keep (l := l) (done := done) hjb)
        clear hjb
        go_wp2_with fail
        go_roundg (gk - 1)
        case measure => omega
        case rel => exact ⟨done ++ [p.1], by simp; omega, hD2, by rw [hk.out]; exact HI4.out, hF4⟩
      · have hk := Lib.hid (outP_drop (l := l) (done := done) hjb)
        clear hjb
        obtain ⟨w5, hrun5, hM5, hO5, hsub⟩ := HI4.out.map.delete nameTy Try.underlying65 p.1 0
        have HI5 := Lib.hid (HI4.out.deleted hM5 hO5 hsub)
        have hF5 := hF4.only hO5 rfl
        unfold encN at hrun5
        clear hM5 hO5 hsub HI4 hF4
        go_wp2_with fail
        go_roundg (gk - 1)
        case measure => omega
        case rel => exact ⟨done ++ [p.1], by simp; omega, hD2, by rw [hk.out]; exact HI5.out, hF5⟩
theorem mapT_filter (T : Tb) (bad : Nm → Bool) : mapT (T.filter (fun p => !bad p.1)) = dropP (mapT T) bad := by
  unfold mapT dropP
  rw [List.filter_map]; rfl
theorem Tab.filter {w w' : World} {f m : Nat} {T : Tb} {bad : Nm → Bool} (h : Tab w f m T) (hM : MapL evP w' m (dropP (mapT T) bad)) (hF : Fr (fun i => i = m) w w') : Tab w' f m (T.filter (fun p => !bad p.1)) := by
  have hk : ∀ (i : Nat) (cs : Array Value) (t : TypeId) (fr : Nat × Nat), w.heap[i]? = some (Obj.cells cs t fr) → w'.heap[i]? = w.heap[i]? := fun i cs t fr hi =>
    hF.block i (Array.getElem?_eq_some_iff.1 hi).1 (h.notMap hi)
  refine ⟨(hk _ _ _ _ h.box).trans h.box, by rw [mapT_filter]; exact hM, fun p hp => ?_, ?_⟩
  · have hr := h.row p (List.mem_filter.1 hp).1
    exact ⟨(hk _ _ _ _ hr.1).trans hr.1, Args.far hr.2 (fun i cur hi => hk i _ _ _ hi)⟩
  · exact h.nd.sublist (List.Sublist.map _ List.filter_sublist)
def dropT (T : Tb) (js : List Int) : Tb := T.filter fun p => !badJ js p.1
set_option maxHeartbeats 1600000 in
set_option maxRecDepth 100000 in
theorem drop_tab (f m : Nat) (T : Tb) (v : Value) (js : List Int) (w : World) (h : Tab w f m T) (hT : T.length ≤ 1000000) (hv : ReadsK encU64 1 w v js) (hjl : js.length ≤ 1000000) :
    Calls Try.prog 12 #[.pointer (some ⟨f, 0, none⟩), v] w fun e w' => e = .returned (.int .i64 ((T.length : Int) - (dropT T js).length)) ∧ Tab w' f m (dropT T js) ∧ Fr (fun i => i = m) w w' := by
  have hA : Below w.heap.size w (w.alloc (.cells #[v] 74)) := (Below.refl _ _).alloc (Nat.le_refl _) _
  have b0 := heap_alloc_new w (.cells #[v] 74)
  have HT := Lib.hid (h.below hA)
  have HA := Lib.hid hA
  have HB0 := Lib.hid b0
  have HV := Lib.hid (hv.below hA)
  have hdl : (dropT T js).length ≤ T.length := List.length_filter_le _ _
  obtain ⟨va, vc, rfl⟩ := hv.slice
  have hln := fun ty => HT.out.map.len (P := Try.prog) (k := 29) Try.underlying65 ty
  have hll : ((mapT T).length : Int) = T.length := by unfold mapT; simp
  rw [hll] at hln
  have c0 := HT.out.c0
  clear h hA b0 hv hll
  go_enter Try.func12, Try.ntmps12
  go_wp2_with fail
  generalize w.alloc (.cells #[.slice va js.length vc] 74) = w1 at *
  have k0 : w1.cell? ⟨w.heap.size, 0, none⟩ = some (.slice va js.length vc) := by have := HB0.out; simp [World.cell?, this]
  have hb1 := (Array.getElem?_eq_some_iff.1 HB0.out).1
  refine (deleteFunc25 m (mapT T) w.heap.size _ js w1 HT.out.map k0 hb1 HV.out hjl).mono ?_
  rintro e w2 ⟨rfl, hM, hF⟩
  have HT2 := Lib.hid (HT.out.filter hM hF)
  have HF2 := Lib.hid ((Fr.of_below HA.out).trans hF)
  have hln2 := fun ty => HT2.out.map.len (P := Try.prog) (k := 29) Try.underlying65 ty
  have hll : ((mapT (T.filter (fun p => !badJ js p.1))).length : Int) = (dropT T js).length := by unfold mapT dropT; simp
  rw [hll] at hln2
  have c2 := HT2.out.c0
  clear hM hF hln c0 k0 hb1 HB0 HV HT hll
  go_wp2_with fail
  go_ret
  exact ⟨ret_intE rfl, HT2.out, HF2.out⟩
end Go.Proofs.Ytpdnebimkfejoaa
