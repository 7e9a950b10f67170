/- What is deleted of a table; Drop. -/
import Derived.Test.YthbkbmkcgpdedaaJoin13
import Derived.Test.YthbkbmkcgpdedaaIter
import Derived.Deep.LoopGhost
namespace Go.Proofs.Ythbkbmkcgpdedaa
open Go.RowKit Go.Sort Go.Lib

section
variable {V : Type}
def inB (done : List Nm) (n : Nm) : Bool := done.any (fun x => decide (x = n))
theorem inB_iff (done : List Nm) (n : Nm) : inB done n = true ↔ n ∈ done := by
  unfold inB; rw [List.any_eq_true]
  constructor
  · rintro ⟨x, hx, h⟩; rw [← of_decide_eq_true h]; exact hx
  · intro h; exact ⟨n, h, by simp⟩
theorem inB_snoc (done : List Nm) (n m : Nm) : inB (done ++ [n]) m = (inB done m || decide (n = m)) := by
  unfold inB; rw [List.any_append]; simp
def outP (l : List (Nm × V)) (bad : Nm → Bool) (done : List Nm) : List (Nm × V) := l.filter (fun p => !(inB done p.1 && bad p.1))
def dropP (l : List (Nm × V)) (bad : Nm → Bool) : List (Nm × V) := l.filter (fun p => !bad p.1)
theorem outP_nil (l : List (Nm × V)) (bad : Nm → Bool) : outP l bad [] = l := by
  unfold outP; rw [List.filter_eq_self]; intro p _; rfl
theorem outP_all {l : List (Nm × V)} {bad : Nm → Bool} {done : List Nm} (h : ∀ p ∈ outP l bad done, p.1 ∈ done) : outP l bad done = dropP l bad := by
  unfold outP dropP
  apply List.filter_congr
  intro p hp
  cases hj : bad p.1
  · simp
  · cases hc : inB done p.1
    · have := h p (by unfold outP; rw [List.mem_filter]; exact ⟨hp, by rw [hc]; rfl⟩)
      rw [(inB_iff _ _).2 this] at hc; cases hc
    · rfl
theorem outP_keep {l : List (Nm × V)} {bad : Nm → Bool} {done : List Nm} {n : Nm} (h : bad n = false) : outP l bad (done ++ [n]) = outP l bad done := by
  unfold outP
  apply List.filter_congr
  intro p _
  rw [inB_snoc]
  by_cases e : n = p.1
  · subst e; simp [h]
  · simp [e]
theorem outP_drop {l : List (Nm × V)} {bad : Nm → Bool} {done : List Nm} {n : Nm} (h : bad n = true) : outP l bad (done ++ [n]) = delL (outP l bad done) n := by
  unfold outP delL
  rw [List.filter_filter]
  apply List.filter_congr
  intro p _
  rw [inB_snoc]
  by_cases e : p.1 = n
  · rw [e, h]; simp
  · have e2 : ¬ n = p.1 := fun x => e x.symm
    simp [e, e2]
theorem outP_sub {l : List (Nm × V)} {bad : Nm → Bool} {done : List Nm} {p : Nm × V} (h : p ∈ outP l bad done) : p ∈ l := (List.mem_filter.1 h).1
end
/-- Is a name under a root? -/
def badN (root n : Nm) : Bool := (n.1 == root.1) && underS n.2 root.2
set_option maxHeartbeats 800000 in
theorem dropCl17 (n root : Nm) (b rb : Nat) (w : World) (h1 : w.cell? ⟨rb, 0, none⟩ = some (.int .u64 root.1)) (h2 : w.cell? ⟨rb, 1, none⟩ = some (.string root.2)) (_hlt : rb < w.heap.size) (hn : n.2.size ≤ 9223372036854775807) (hr : root.2.size ≤ 9223372036854775807) :
    Calls Try.prog 47 #[.agg #[.int .u64 n.1, .string n.2], evP b, .pointer (some ⟨rb, 0, none⟩)] w fun e' w' => e' = .returned (.bool (badN root n)) ∧ Below w.heap.size w w' := by
  have hA : Below w.heap.size w (w.alloc (.cells #[.int .u64 n.1, .string n.2] 35)) := (Below.refl _ _).alloc (Nat.le_refl _) _
  have k1 := cell_keep hA h1
  have k2 := cell_keep hA h2
  have HA := Lib.hid hA
  clear hA h1 h2
  unfold evP
  go_enter Try.func47, Try.ntmps47
  cases hj : (n.1 == root.1)
  · have HE : Hid (badN root n = false) := by show _ = _; unfold badN; rw [hj]; rfl
    go_wp2_with fail
    go_ret
    exact ⟨ret_boolE HE.out.symm, HA.out⟩
  · have HE : Hid (badN root n = underS n.2 root.2) := by show _ = _; unfold badN; rw [hj]; rfl
    go_wp2_with fail
    refine (under_any n.2 root.2 _ hn hr).mono ?_
    rintro e w2 ⟨rfl, hB⟩
    have HB := Lib.hid (gthen HA.out hB)
    clear hB
    go_wp2_with fail
    go_ret
    exact ⟨ret_boolE HE.out.symm, HB.out⟩
set_option maxHeartbeats 1600000 in
set_option maxRecDepth 100000 in
theorem deleteFunc17 (m : Nat) (l : List (Nm × Nat)) (rb : Nat) (root : Nm) (w : World) (h : MapL evP w m l) (h1 : w.cell? ⟨rb, 0, none⟩ = some (.int .u64 root.1)) (h2 : w.cell? ⟨rb, 1, none⟩ = some (.string root.2)) (hrl : rb < w.heap.size) (hr : root.2.size ≤ 9223372036854775807) (hn : ∀ p ∈ l, p.1.2.size ≤ 9223372036854775807) :
    Calls Try.prog 46 #[.map (some m), .func (.func 47) #[] #[.pointer (some ⟨rb, 0, none⟩)]] w fun e w' =>
      e = .returned (.tuple #[]) ∧ MapL evP w' m (dropP l (badN root)) ∧ Fr (fun i => i = m) w w' := by
  obtain ⟨w1, hrun, hI, hB, hsz⟩ := range_run (P := Try.prog) h Try.underlying74
  go_enter Try.func46, Try.ntmps46
  go_wp2_with fail
  go_loopg [] l.length (fun gk wr => ∃ done : List Nm, gk + done.length = l.length ∧ Hid (done.Nodup ∧ ∀ n ∈ done, n ∈ l.map (·.1)) ∧ IterL evP wr w.heap.size m (outP l (badN root) done) done ∧ Fr (fun i => i = m) w wr)
  case atStart => exact ⟨[], by simp, ⟨List.nodup_nil, by simp⟩, by rw [outP_nil]; exact hI, .of_below hB⟩
  case round =>
    clear hI hrun hB hsz w1
    obtain ⟨done, hlen, hD, hI, hF⟩ := hrel
    rcases hI.next (P := Try.prog) 0 with ⟨hall, hrun⟩ | ⟨p, hp, hnd, w2, hrun, hI2, hO2, hent⟩
    · have hM := Lib.hid (outP_all hall ▸ hI.map)
      clear hall hI
      go_wp2_with fail
      go_end0
      exact ⟨rfl, hM.out, hF⟩
    · have hlt := hI.lt
      have hmw : m < w.heap.size := h.lt
      have hne : rb ≠ m := fun e => by
        obtain ⟨es, c, hb, _⟩ := h
        rw [e] at h1; simp [World.cell?, hb] at h1
      have hF2 : Fr (fun i => i = m) w w2 := ⟨hO2.1.trans hF.os, hO2.2.1.trans hF.tape, hO2.2.2.1.trans hF.output, by rw [hO2.2.2.2.1]; exact hF.size, fun i hi hs => (hO2.2.2.2.2 i (by omega)).trans (hF.block i hi hs)⟩
      have he2 := hent w2 rfl rfl
      have hsz2 : w.heap.size < w2.heap.size := by rw [hO2.2.2.2.1]; exact hlt.1
      have hB3 : Below w2.heap.size w2 (w2.alloc (.cells #[.int .u64 p.1.1, .string p.1.2] 35)) := (Below.refl _ _).alloc (Nat.le_refl _) _
      have hj3 : ∀ o, (w2.alloc (.cells #[.int .u64 p.1.1, .string p.1.2] 35)).cell? ⟨rb, o, none⟩ = w.cell? ⟨rb, o, none⟩ := fun o =>
        (hB3.cell (p := ⟨rb, o, none⟩) (by simp; omega)).trans (hF2.cell (p := ⟨rb, o, none⟩) hrl hne)
      have hlen2 : done.length + 1 ≤ l.length := by
        have hx : (done ++ [p.1]).length ≤ (l.map (·.1)).length := List.Nodup.length_le_of_subset (by
          rw [List.nodup_append]; exact ⟨hD.out.1, by simp, fun a ha b hb e => by simp at hb; subst hb; subst e; exact hnd ha⟩) (by
          intro n hn; rw [List.mem_append] at hn
          rcases hn with hn | hn
          · exact hD.out.2 n hn
          · simp at hn; subst hn; exact List.mem_map.2 ⟨p, outP_sub hp, rfl⟩)
        simpa using hx
      have hD2 : Hid ((done ++ [p.1]).Nodup ∧ ∀ n ∈ done ++ [p.1], n ∈ l.map (·.1)) := by
        refine ⟨?_, ?_⟩
        · rw [List.nodup_append]; exact ⟨hD.out.1, by simp, fun a ha b hb e => by simp at hb; subst hb; subst e; exact hnd ha⟩
        · intro n hn; rw [List.mem_append] at hn
          rcases hn with hn | hn
          · exact hD.out.2 n hn
          · simp at hn; subst hn; exact List.mem_map.2 ⟨p, outP_sub hp, rfl⟩
      have HI := Lib.hid hI2
      have hpn := hn p (outP_sub hp)
      unfold encN evP at hrun he2
      clear hI hnd hp hent hO2 hF hD hI2 hlt
      go_wp2_with fail
      refine (dropCl17 p.1 root p.2 rb _ ((hj3 0).trans h1) ((hj3 1).trans h2) (by simp; omega) hpn hr).mono ?_
      rintro e w4 ⟨rfl, hB4⟩
      have hB5 := hB3.trans (hB4.mono (by simp))
      have n1 : w4.cell? ⟨w2.heap.size, 0, none⟩ = some (.int .u64 p.1.1) := (hB4.cell (p := ⟨w2.heap.size, 0, none⟩) (by simp)).trans (by simp)
      have n2 : w4.cell? ⟨w2.heap.size, 1, none⟩ = some (.string p.1.2) := (hB4.cell (p := ⟨w2.heap.size, 1, none⟩) (by simp)).trans (by simp)
      have HI4 : Hid (IterL evP w4 w.heap.size m (outP l (badN root) done) (done ++ [p.1])) := HI.out.block (hB5.block _ HI.out.lt.2.1) (hB5.block _ HI.out.lt.1)
      have hF4 := hF2.then hB5
      clear hB3 hB4 hB5 HI hF2 hrun he2 hj3
      cases hjb : badN root p.1
      · have hk := Lib.hid (outP_keep (l := l) (done := done) hjb)
        clear hjb
        go_wp2_with fail
        go_roundg (gk - 1)
        case measure => omega
        case rel => exact ⟨done ++ [p.1], by simp; omega, hD2, by rw [hk.out]; exact HI4.out, hF4⟩
      · have hk := Lib.hid (outP_drop (l := l) (done := done) hjb)
        clear hjb
        obtain ⟨w5, hrun5, hM5, hO5, hsub⟩ := HI4.out.map.delete nameTyT Try.underlying74 p.1 0
        have HI5 := Lib.hid (HI4.out.deleted hM5 hO5 hsub)
        have hF5 := hF4.only hO5 rfl
        unfold encN at hrun5
        clear hM5 hO5 hsub HI4 hF4
        go_wp2_with fail
        go_roundg (gk - 1)
        case measure => omega
        case rel => exact ⟨done ++ [p.1], by simp; omega, hD2, by rw [hk.out]; exact HI5.out, hF5⟩
end Go.Proofs.Ythbkbmkcgpdedaa
