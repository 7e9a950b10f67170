/- Contract: the law's works. -/
import Derived.Test.YteladooegjgdnaaHp13
namespace Go.Proofs.Yteladooegjgdnaa
open Go.RowKit Go.Sort Go.Lib

/-- Timers of the call's own. -/
structure Wt (w0 : World) (b : Nat) (rv : Value) (L : List Tm) (now : Int) (w : World) : Prop where
  tms : Tms w0.heap.size b rv L now w
  low : Below w0.heap.size w0 w
theorem Tms.zb {Z b : Nat} {rv : Value} {L : List Tm} {now : Int} {w : World} (h : Tms Z b rv L now w) : Z ≤ b ∧ ∀ g, rv.ownBlock = some g → Z ≤ g := by
  obtain ⟨l, hq, _, _⟩ := h
  exact ⟨hq.zb, own_low hq.own⟩
theorem Wt.next {w0 w1 w2 : World} {b : Nat} {rv rv' : Value} {L L' : List Tm} {now now' : Int} (h : Wt w0 b rv L now w1) (ht : Tms w0.heap.size b rv' L' now' w2) (hL : QL b rv w1 rv' w2) : Wt w0 b rv' L' now' w2 :=
  ⟨ht, h.low.trans (hL.fr.below (fun i hi => hi.elim (fun e => e ▸ h.tms.zb.1) (fun e => h.tms.zb.2 i e)) h.low.size)⟩
theorem Wt.below {w0 w1 w2 : World} {b : Nat} {rv : Value} {L : List Tm} {now : Int} (h : Wt w0 b rv L now w1) (hB : Below w1.heap.size w1 w2) : Wt w0 b rv L now w2 := ⟨h.tms.below hB, gthen h.low hB⟩
def kA : ByteArray := ⟨#[97]⟩
def kB : ByteArray := ⟨#[98]⟩
theorem works1 : setL [] 0 kA 5 = [⟨kA, 5⟩] ∧ setE [] 0 kA 5 = 0 := by constructor <;> kernel_rfl
theorem works2 : setL [⟨kA, 5⟩] 0 kB 3 = [⟨kB, 3⟩, ⟨kA, 5⟩] ∧ setE [⟨kA, 5⟩] 0 kB 3 = 0 := by constructor <;> kernel_rfl
theorem works3 : setL [⟨kB, 3⟩, ⟨kA, 5⟩] 0 kA 4 = [⟨kB, 3⟩, ⟨kA, 4⟩] ∧ setE [⟨kB, 3⟩, ⟨kA, 5⟩] 0 kA 4 = 0 := by constructor <;> kernel_rfl
theorem works4 : tickL [⟨kB, 3⟩, ⟨kA, 4⟩] 0 3 = [⟨kA, 4⟩] ∧ tickO [⟨kB, 3⟩, ⟨kA, 4⟩] 0 3 = [⟨kB, 3⟩] ∧ tickE 0 3 = 0 ∧ tickC 0 3 = 3 := by refine ⟨?_, ?_, ?_, ?_⟩ <;> kernel_rfl
theorem works5 : stopL [kA, kA, ⟨#[120]⟩] [⟨kA, 4⟩] = [] ∧ stopN [kA, kA, ⟨#[120]⟩] [⟨kA, 4⟩] = 1 := by constructor <;> kernel_rfl
theorem works6 : tickL [] 3 9 = [] ∧ tickO [] 3 9 = [] ∧ tickE 3 9 = 0 ∧ tickC 3 9 = 12 := by refine ⟨?_, ?_, ?_, ?_⟩ <;> kernel_rfl
set_option maxHeartbeats 12800000 in
set_option maxRecDepth 100000 in
theorem works_any (w : World) : Calls Try.prog 9 #[] w fun e w' => e = .returned (.bool true) ∧ Below w.heap.size w w' := by
  go_enter Try.func9, Try.ntmps9
  go_wp2_with fail
  refine (new_any w).mono ?_
  rintro e w1 ⟨b, rv, rfl, hB, hQ, rfl⟩
  have H1 := Lib.hid (show Wt w b (.slice none 0 0) [] 0 w1 from ⟨⟨[], hQ, TmOk.none, by simp⟩, hB⟩)
  clear hB hQ
  go_wp2_with fail
  refine (set_any kA 5 H1.out.tms).mono ?_
  rintro e w2 ⟨rfl, rv2, h2, hL2⟩
  have H2 := Lib.hid (H1.out.next h2 hL2)
  rw [works1.1] at H2
  rw [works1.2]
  clear h2 hL2 H1
  go_wp2_with fail
  refine (set_any kB 3 H2.out.tms).mono ?_
  rintro e w3 ⟨rfl, rv3, h2, hL2⟩
  have H3 := Lib.hid (H2.out.next h2 hL2)
  rw [works2.1] at H3
  rw [works2.2]
  clear h2 hL2 H2
  go_wp2_with fail
  refine (set_any kA 4 H3.out.tms).mono ?_
  rintro e w4 ⟨rfl, rv4, h2, hL2⟩
  have H4 := Lib.hid (H3.out.next h2 hL2)
  rw [works3.1] at H4
  rw [works3.2]
  clear h2 hL2 H3
  go_wp2_with fail
  refine (tick_any 3 H4.out.tms (by decide) (by decide)).mono ?_
  rintro e w5 ⟨ov, rv5, rfl, hP⟩
  have h5 := H4.out.next hP.tms hP.ql
  have hO5 := hP.own
  rw [works4.1, works4.2.2.2] at h5
  rw [works4.2.1] at hO5
  rw [works4.2.2.1]
  obtain ⟨va, vc, rfl⟩ := own_slice hO5
  obtain ⟨g, hg⟩ : ∃ g, va = some ⟨g, 0, none⟩ := by
    obtain ⟨_, ⟨hv, h0⟩ | ⟨g, c', cur, hv, _⟩⟩ := hO5
    · simp at h0
    · injection hv with e1 _ _
      exact ⟨g, e1⟩
  subst hg
  have H5 := Lib.hid h5
  have HO5 := Lib.hid (And.intro hO5 hP.apart)
  clear hP hO5 H4 h5
  go_wp2_with fail
  refine (next_any H5.out.tms).mono ?_
  rintro e w6 ⟨rfl, hB⟩
  have H6 := Lib.hid (H5.out.below hB)
  have HO6 := Lib.hid (And.intro (own_below HO5.out.1 hB) HO5.out.2)
  have hnv : nextV [⟨kA, 4⟩] = .tuple #[.agg #[.string kA, .int .i64 4], .bool true] := rfl
  rw [hnv]
  clear hB H5 HO5 hnv
  have HBx := Lib.hid ((alT w6 (.cells #[.string kA, .int .i64 4] TmT)))
  have n0 : (w6.alloc (.cells #[.string kA, .int .i64 4] TmT)).cell? ⟨w6.heap.size, 0, none⟩ = some (.string kA) := by simp [go_sem]
  have n1 : (w6.alloc (.cells #[.string kA, .int .i64 4] TmT)).cell? ⟨w6.heap.size, 1, none⟩ = some (.int .i64 4) := by simp [go_sem]
  have HNB := Lib.hid (show w6.heap.size ≠ b ∧ rv5.ownBlock ≠ some w6.heap.size from by
    have h1 := H6.out.tms.block
    have h2 := World.block_lt_of_cell? _ _ H6.out.tms.cells.1
    exact ⟨fun e => by have h3 : b < w6.heap.size := h2; omega, fun e => by have := h1 _ e; omega⟩)
  have H7 := Lib.hid (H6.out.below HBx.out)
  have HO7 := Lib.hid (And.intro (own_below HO6.out.1 HBx.out) HO6.out.2)
  have hsz : (w6.alloc (.cells #[.string kA, .int .i64 4] TmT)).heap.size = w6.heap.size + 1 := by simp
  go_upto_region 7 with fail
  generalize w6.alloc (.cells #[.string kA, .int .i64 4] TmT) = w7 at *
  generalize w6.heap.size = nb at *
  have HSZ := Lib.hid hsz
  have HN := Lib.hid (And.intro n0 n1)
  clear H6 HO6 HBx hsz n0 n1
  go_wp2_with fail
  have hA := alT w7 (.cells #[.string kA, .string kA, .string ⟨#[120]⟩] 9)
  have H8 := Lib.hid (H7.out.below hA)
  have HO8 := Lib.hid (And.intro (own_below HO7.out.1 hA) HO7.out.2)
  have HN8 := Lib.hid (show (w7.alloc (.cells #[.string kA, .string kA, .string ⟨#[120]⟩] 9)).cell? ⟨nb, 0, none⟩ = some (.string kA) ∧ (w7.alloc (.cells #[.string kA, .string kA, .string ⟨#[120]⟩] 9)).cell? ⟨nb, 1, none⟩ = some (.int .i64 4) ∧ nb < (w7.alloc (.cells #[.string kA, .string kA, .string ⟨#[120]⟩] 9)).heap.size from
    ⟨(hA.cell (p := ⟨nb, 0, none⟩) (World.block_lt_of_cell? _ _ HN.out.1)).trans HN.out.1, (hA.cell (p := ⟨nb, 1, none⟩) (World.block_lt_of_cell? _ _ HN.out.2)).trans HN.out.2, Nat.lt_of_lt_of_le (World.block_lt_of_cell? _ _ HN.out.1) hA.size⟩)
  have hks : ∀ j (hj : j < [kA, kA, ⟨#[120]⟩].length), (w7.alloc (.cells #[.string kA, .string kA, .string ⟨#[120]⟩] 9)).cell? ⟨w7.heap.size, j, none⟩ = some (.string ([kA, kA, ⟨#[120]⟩] : List ByteArray)[j]) := by
    intro j hj
    match j, hj with
    | 0, _ => simp [go_sem]
    | 1, _ => simp [go_sem]
    | 2, _ => simp [go_sem]
  have hkb : w7.heap.size ≠ b ∧ rv5.ownBlock ≠ some w7.heap.size := by
    have h1 := H7.out.tms.block
    have h2 := World.block_lt_of_cell? _ _ H7.out.tms.cells.1
    exact ⟨fun e => by have h3 : b < w7.heap.size := h2; omega, fun e => by have := h1 _ e; omega⟩
  clear hA
  refine (stop_any (cap := 3) [kA, kA, ⟨#[120]⟩] H8.out.tms hks hkb.1 hkb.2 (by decide)).mono ?_
  rintro e w9 ⟨rfl, rv9, h9, hL9⟩
  have h9' := H8.out.next h9 hL9
  rw [works5.1] at h9'
  rw [works5.2]
  have H9 := Lib.hid h9'
  have HO9 := Lib.hid (hL9.side H8.out.tms HO8.out.1 HO8.out.2)
  have HN9 := Lib.hid (show w9.cell? ⟨nb, 0, none⟩ = some (.string kA) ∧ w9.cell? ⟨nb, 1, none⟩ = some (.int .i64 4) ∧ rv9.ownBlock ≠ some nb from
    ⟨(hL9.keep HNB.out.1 HNB.out.2 HN8.out.2.2 0).trans HN8.out.1, (hL9.keep HNB.out.1 HNB.out.2 HN8.out.2.2 1).trans HN8.out.2.1, by
      rcases hL9.own with e | e
      · rw [e]; exact HNB.out.2
      · intro e2; have := e nb e2; have := HN8.out.2.2; omega⟩)
  clear h9 hL9 h9' hks hkb H7 HO7 HN H8 HO8 HN8 HSZ
  go_wp2_with fail
  refine (tick_any 9 H9.out.tms (by decide) (by decide)).mono ?_
  rintro e w10 ⟨ov2, rv10, rfl, hP⟩
  have h10 := H9.out.next hP.tms hP.ql
  have hO10 := hP.own
  rw [works6.1, works6.2.2.2] at h10
  rw [works6.2.1] at hO10
  rw [works6.2.2.1]
  obtain ⟨va2, vc2, rfl⟩ := own_slice hO10
  have H10 := Lib.hid h10
  have HO10 := hP.ql.side H9.out.tms HO9.out.1 HO9.out.2
  have n0 : w10.cell? ⟨nb, 0, none⟩ = some (.string kA) := (hP.ql.keep HNB.out.1 HN9.out.2.2 (World.block_lt_of_cell? _ _ HN9.out.1) 0).trans HN9.out.1
  have n1 : w10.cell? ⟨nb, 1, none⟩ = some (.int .i64 4) := (hP.ql.keep HNB.out.1 HN9.out.2.2 (World.block_lt_of_cell? _ _ HN9.out.1) 1).trans HN9.out.2.1
  obtain ⟨c0, c1⟩ := tm_at HO10.1 rfl (show 0 < [(⟨kB, 3⟩ : Tm)].length by decide)
  simp only [List.getElem_cons_zero, Nat.zero_mul, Nat.zero_add] at c0 c1
  obtain ⟨l10, hq10, _⟩ := h10.tms
  have HQ10 := Lib.hid hq10
  clear hP hO10 HO10 h10 H9 HO9 HN9 HNB hq10
  have ka : kA.toList = [97] := by rw [Lib.toList_data]; rfl
  have kb : kB.toList = [98] := by rw [Lib.toList_data]; rfl
  go_wp2_with fail
  refine (now_any HQ10.out).mono ?_
  rintro e w11 ⟨rfl, rfl⟩
  go_wp2_with fail
  go_ret
  exact ⟨rfl, H10.out.low⟩
end Go.Proofs.Yteladooegjgdnaa
