/- The document's Timers: Next, Tick. -/
import Derived.Test.YteladooegjgdnaaRt4
namespace Go.Proofs.Yteladooegjgdnaa
open Go.RowKit Go.Sort Go.Lib

/-- The first of a sorted list is the one that is due first. -/
theorem best_head {l L : List Tm} {b : Int} (hp : l.Perm L) (hs : Srt L) (hb : BestP l l.length b) : (L = [] ∧ b = -1) ∨ ∃ (i : Nat) (L' : List Tm), b = (i : Int) ∧ i < l.length ∧ L = gT l i :: L' := by
  rcases hb with ⟨h0, hb⟩ | ⟨i, hb, hi, hall⟩
  · left
    have : l = [] := List.length_eq_zero_iff.1 h0
    subst this
    exact ⟨hp.nil_eq.symm, hb⟩
  · right
    cases L with
    | nil => have := hp.length_eq; simp only [List.length_nil] at this; omega
    | cons y L' =>
      refine ⟨i, L', hb, hi, ?_⟩
      have hm : gT l i ∈ y :: L' := hp.subset (gT_mem hi)
      have h1 : leT y (gT l i) := by
        rcases List.mem_cons.1 hm with e | e
        · rw [e]; exact leT_refl _
        · exact (List.pairwise_cons.1 hs).1 _ e
      obtain ⟨j, hj, e⟩ := List.mem_iff_getElem.1 (hp.symm.subset (show y ∈ y :: L' by simp))
      have h2 := hall j hj
      have e2 : gT l j = y := by unfold gT; rw [List.getD_eq_getElem?_getD, List.getElem?_eq_getElem hj]; exact e
      rw [e2] at h2
      rw [leT_anti h1 h2]
theorem rnext_end {wz : World} {tmps : Array Value} {a b v : Value} {r : Nat} {Q : Ending → World → Prop} (h2 : tmps.getD 2 undef = .pointer (some ⟨r, 0, none⟩)) (h3 : tmps.getD 3 undef = v)
    (c0 : wz.cell? ⟨r, 0, none⟩ = some a) (c1 : wz.cell? ⟨r, 1, none⟩ = some b) (hQ : Q (.returned (.tuple #[.agg #[a, b], v])) wz) :
    bodyPost Try.prog Try.f21 Q Exit.ret { tmps := tmps, defers := [] } wz := by
  refine bodyPost_ret (v := .tuple #[.agg #[a, b], v]) ?_ rfl hQ
  have h2' : tmps[2]?.getD undef = .pointer (some ⟨r, 0, none⟩) := by simpa using h2
  have h3' : tmps[3]?.getD undef = v := by simpa using h3
  simp [results, Try.results21, go_sem, h2', h3', c0, c1]
theorem set_two {w w2 : World} {nb : Nat} {a b a' b' : Value} (h : BoxAt w2 nb #[a, b] TmT) (hB : Below nb w w2) : BoxAt ((w2.setCell ⟨nb, 0, none⟩ a').setCell ⟨nb, 1, none⟩ b') nb #[a', b'] TmT ∧ Below nb w ((w2.setCell ⟨nb, 0, none⟩ a').setCell ⟨nb, 1, none⟩ b') := by
  have h1 : BoxAt (w2.setCell ⟨nb, 0, none⟩ a') nb #[a', b] TmT := Go.heap_setCell_same w2 nb 0 _ _ _ h
  have h2 : BoxAt ((w2.setCell ⟨nb, 0, none⟩ a').setCell ⟨nb, 1, none⟩ b') nb #[a', b'] TmT := Go.heap_setCell_same _ nb 1 _ _ _ h1
  refine ⟨h2, hB.os, hB.tape, hB.output, by have := hB.size; simpa [World.setCell] using this, fun k hk => ?_⟩
  exact (Below.heap_setCell _ _ _ k (by show k ≠ nb; omega)).trans ((Below.heap_setCell _ _ _ k (by show k ≠ nb; omega)).trans (hB.block k hk))
set_option maxHeartbeats 6400000 in
set_option maxRecDepth 100000 in
theorem rNext_any {Z r : Nat} {lv : Value} {L : List Tm} {clock : Int} {w : World} (h : Rms Z r lv L clock w) :
    Calls Try.prog 21 #[TP r] w fun e w' => e = .returned (nextV L) ∧ Below w.heap.size w w' := by
  obtain ⟨l, hq, hp, hs, hd, hll⟩ := h
  have HP := Lib.hid hp
  have HS := Lib.hid hs
  have hlen := hp.length_eq
  have HLN := Lib.hid (show l.length ≤ 1024 by omega)
  have hA := alT w (.cells #[.string ⟨#[]⟩, .int .i64 0] TmT)
  have H0 := Lib.hid (hq.below hA)
  have HA := Lib.hid hA
  clear hq hp hs hd hlen hll hA
  go_enter Try.func21, Try.ntmps21
  go_wp2_with fail
  have hn0 : (w.alloc (.cells #[.string ⟨#[]⟩, .int .i64 0] TmT)).heap[w.heap.size]? = some (.cells #[.string ⟨#[]⟩, .int .i64 0] TmT (0, 0)) := heap_alloc_new _ _
  have HNB := Lib.hid (show w.heap.size < (w.alloc (.cells #[.string ⟨#[]⟩, .int .i64 0] TmT)).heap.size by simp)
  generalize w.alloc (.cells #[.string ⟨#[]⟩, .int .i64 0] TmT) = w1 at *
  generalize hnb : w.heap.size = nb at *
  have HNE := Lib.hid hnb
  refine (rnext_any H0.out (by have := HLN.out; omega)).mono ?_
  rintro e w2 ⟨⟨b, rfl, hb⟩, hB⟩
  have H2 := Lib.hid (H0.out.below hB)
  have hbx : BoxAt w2 nb #[.string ⟨#[]⟩, .int .i64 0] TmT := (show BoxAt w1 nb #[.string ⟨#[]⟩, .int .i64 0] TmT from hn0).below hB
  have HB := Lib.hid (show Below nb w w2 from HA.out.trans (hB.mono (by have := HNB.out; omega)))
  have c0 := hbx.cell 0
  have c1 := hbx.cell 1
  have f0 := hbx.frozen 0
  have f1 := hbx.frozen 1
  simp only [List.getElem?_toArray, List.getElem?_cons_zero, List.getElem?_cons_succ] at c0 c1
  have HBX := Lib.hid hbx
  clear hB hn0 hbx HNB HA H0 hnb
  rcases best_head HP.out HS.out hb with ⟨rfl, rfl⟩ | ⟨i, L', rfl, hi, hL⟩
  · clear hb
    go_wp2_with fail
    obtain ⟨hX, hBX⟩ := set_two (a' := .string ⟨#[]⟩) (b' := .int .i64 0) HBX.out HB.out
    exact rnext_end (r := nb) rfl rfl (hX.cell 0) (hX.cell 1) ⟨rfl, by rw [HNE.out]; exact hBX⟩
  · obtain ⟨g, cap, e, d0, d1⟩ := H2.out.at hi
    obtain ⟨la, lc, hlv⟩ := own_slice H2.out.own
    have y1 := H2.out.cell.2
    have hgi : gT l i = l[i] := by unfold gT; rw [List.getD_eq_getElem?_getD, List.getElem?_eq_getElem hi]; rfl
    rw [← hgi] at d0 d1
    obtain ⟨x, hx⟩ : ∃ x, gT l i = x := ⟨_, rfl⟩
    rw [hx] at d0 d1 hL
    have HL := Lib.hid hL
    rw [e] at y1
    obtain ⟨N, hN⟩ : ∃ N, l.length = N := ⟨_, rfl⟩
    rw [hN] at y1 hi
    have hi0 : ¬ (i : Int) < 0 := by omega
    have hi1 : (0 : Int) ≤ i := by omega
    have hi2 : (i : Int) < N := by omega
    clear hb e hlv hgi hx hL hN hi
    go_wp2_with fail
    rw [HL.out]
    obtain ⟨hX, hBX⟩ := set_two (a' := .string x.k) (b' := .int .i64 x.a) HBX.out HB.out
    exact rnext_end (r := nb) rfl rfl (hX.cell 0) (hX.cell 1) ⟨rfl, by rw [HNE.out]; exact hBX⟩
end Go.Proofs.Yteladooegjgdnaa
