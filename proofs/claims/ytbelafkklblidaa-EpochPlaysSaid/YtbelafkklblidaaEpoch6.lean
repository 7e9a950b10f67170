/- Contracts: maps.DeleteFunc at the grants, Drop. -/
import Derived.Test.YtbelafkklblidaaEpoch5
import Derived.Test.YtbelafkklblidaaIter
import Derived.Deep.LoopGhost
namespace Go.Proofs.Ytbelafkklblidaa
open Go.RowKit

set_option maxHeartbeats 400000 in
theorem dropCl (n : Nm) (e : Int) (jb : Nat) (job : Int) (w : World) (hj : w.cell? ⟨jb, 0, none⟩ = some (.int .u64 job)) (hlt : jb < w.heap.size) :
    Calls Try.prog 32 #[.agg #[.int .u64 n.1, .string n.2], .int .u64 e, .pointer (some ⟨jb, 0, none⟩)] w fun e' w' => e' = .returned (.bool (n.1 == job)) ∧ Below w.heap.size w w' := by
  go_enter Try.func32, Try.ntmps32
  go_wp2
  go_ret
  exact ⟨ret_bool rfl, (Below.refl _ _).alloc (Nat.le_refl _) _⟩

def inB (done : List Nm) (n : Nm) : Bool := done.any (fun x => decide (x = n))
theorem inB_iff (done : List Nm) (n : Nm) : inB done n = true ↔ n ∈ done := by
  unfold inB; rw [List.any_eq_true]
  constructor
  · rintro ⟨x, hx, h⟩; rw [← of_decide_eq_true h]; exact hx
  · intro h; exact ⟨n, h, by simp⟩
theorem inB_snoc (done : List Nm) (n m : Nm) : inB (done ++ [n]) m = (inB done m || decide (n = m)) := by
  unfold inB; rw [List.any_append]; simp
def outOf (l : List (Nm × Int)) (job : Int) (done : List Nm) : List (Nm × Int) := l.filter (fun p => !(inB done p.1 && (p.1.1 == job)))
def dropL (l : List (Nm × Int)) (job : Int) : List (Nm × Int) := l.filter (fun p => !(p.1.1 == job))
theorem outOf_nil (l : List (Nm × Int)) (job : Int) : outOf l job [] = l := by
  unfold outOf; rw [List.filter_eq_self]; intro p _; rfl
theorem outOf_all {l : List (Nm × Int)} {job : Int} {done : List Nm} (h : ∀ p ∈ outOf l job done, p.1 ∈ done) : outOf l job done = dropL l job := by
  unfold outOf dropL
  apply List.filter_congr
  intro p hp
  cases hj : (p.1.1 == job)
  · simp
  · cases hc : inB done p.1
    · have := h p (by unfold outOf; rw [List.mem_filter]; exact ⟨hp, by rw [hc]; rfl⟩)
      rw [(inB_iff _ _).2 this] at hc; cases hc
    · rfl
theorem outOf_keep {l : List (Nm × Int)} {job : Int} {done : List Nm} {n : Nm} (h : (n.1 == job) = false) : outOf l job (done ++ [n]) = outOf l job done := by
  unfold outOf
  apply List.filter_congr
  intro p _
  rw [inB_snoc]
  by_cases e : n = p.1
  · subst e; simp [h]
  · simp [e]
theorem outOf_drop {l : List (Nm × Int)} {job : Int} {done : List Nm} {n : Nm} (h : (n.1 == job) = true) : outOf l job (done ++ [n]) = delL (outOf l job done) n := by
  unfold outOf delL
  rw [List.filter_filter]
  apply List.filter_congr
  intro p _
  rw [inB_snoc]
  by_cases e : p.1 = n
  · rw [e, h]; simp
  · have e2 : ¬ n = p.1 := fun x => e x.symm
    simp [e, e2]
theorem outOf_sub {l : List (Nm × Int)} {job : Int} {done : List Nm} {p : Nm × Int} (h : p ∈ outOf l job done) : p ∈ l := (List.mem_filter.1 h).1

set_option maxHeartbeats 1600000 in
set_option maxRecDepth 100000 in
theorem deleteFunc_any (m : Nat) (l : List (Nm × Int)) (jb : Nat) (job : Int) (w : World) (h : MapL evU w m l) (hj : w.cell? ⟨jb, 0, none⟩ = some (.int .u64 job)) (hjl : jb < w.heap.size) :
    Calls Try.prog 31 #[.map (some m), .func (.func 32) #[] #[.pointer (some ⟨jb, 0, none⟩)]] w fun e w' =>
      e = .returned (.tuple #[]) ∧ MapL evU w' m (dropL l job) ∧ Fr (fun i => i = m) w w' := by
  obtain ⟨w1, hrun, hI, hB, hsz⟩ := range_run (P := Try.prog) h Try.underlying59
  go_enter Try.func31, Try.ntmps31
  go_wp2_with fail
  go_loopg [] l.length (fun gk wr => ∃ done : List Nm, gk + done.length = l.length ∧ Hid (done.Nodup ∧ ∀ n ∈ done, n ∈ l.map (·.1)) ∧ IterL evU wr w.heap.size m (outOf l job done) done ∧ Fr (fun i => i = m) w wr)
  case atStart => exact ⟨[], by simp, ⟨List.nodup_nil, by simp⟩, by rw [outOf_nil]; exact hI, .of_below hB⟩
  case round =>
    clear hI hrun hB hsz w1
    obtain ⟨done, hlen, hD, hI, hF⟩ := hrel
    rcases hI.next (P := Try.prog) 0 with ⟨hall, hrun⟩ | ⟨p, hp, hnd, w2, hrun, hI2, hO2, hent⟩
    · have hM := Lib.hid (outOf_all hall ▸ hI.map)
      clear hall hI
      go_wp2_with fail
      go_end0
      exact ⟨rfl, hM.out, hF⟩
    · have hlt := hI.lt
      have hmw : m < w.heap.size := h.lt
      have hne : jb ≠ m := fun e => by
        obtain ⟨es, c, hb, _⟩ := h
        rw [e] at hj; simp [World.cell?, hb] at hj
      have hF2 : Fr (fun i => i = m) w w2 := ⟨hO2.1.trans hF.os, hO2.2.1.trans hF.tape, hO2.2.2.1.trans hF.output, by rw [hO2.2.2.2.1]; exact hF.size, fun i hi hs => (hO2.2.2.2.2 i (by omega)).trans (hF.block i hi hs)⟩
      have he2 := hent w2 rfl rfl
      have hsz2 : w.heap.size < w2.heap.size := by rw [hO2.2.2.2.1]; exact hlt.1
      have hB3 : Below w2.heap.size w2 (w2.alloc (.cells #[.int .u64 p.1.1, .string p.1.2] 35)) := (Below.refl _ _).alloc (Nat.le_refl _) _
      have hj3 : (w2.alloc (.cells #[.int .u64 p.1.1, .string p.1.2] 35)).cell? ⟨jb, 0, none⟩ = some (.int .u64 job) :=
        (hB3.cell (p := ⟨jb, 0, none⟩) (by simp; omega)).trans ((hF2.cell (p := ⟨jb, 0, none⟩) hjl hne).trans hj)
      have hlen2 : done.length + 1 ≤ l.length := by
        have hx : (done ++ [p.1]).length ≤ (l.map (·.1)).length := List.Nodup.length_le_of_subset (by
          rw [List.nodup_append]; exact ⟨hD.out.1, by simp, fun a ha b hb e => by simp at hb; subst hb; subst e; exact hnd ha⟩) (by
          intro n hn; rw [List.mem_append] at hn
          rcases hn with hn | hn
          · exact hD.out.2 n hn
          · simp at hn; subst hn; exact List.mem_map.2 ⟨p, outOf_sub hp, rfl⟩)
        simpa using hx
      have hD2 : Hid ((done ++ [p.1]).Nodup ∧ ∀ n ∈ done ++ [p.1], n ∈ l.map (·.1)) := by
        refine ⟨?_, ?_⟩
        · rw [List.nodup_append]; exact ⟨hD.out.1, by simp, fun a ha b hb e => by simp at hb; subst hb; subst e; exact hnd ha⟩
        · intro n hn; rw [List.mem_append] at hn
          rcases hn with hn | hn
          · exact hD.out.2 n hn
          · simp at hn; subst hn; exact List.mem_map.2 ⟨p, outOf_sub hp, rfl⟩
      have HI := Lib.hid hI2
      unfold encN evU at hrun he2
      clear hI hnd hp hent hO2 hF hD hI2 hlt
      go_wp2_with fail
      refine (dropCl p.1 p.2 jb job _ hj3 (by simp; omega)).mono ?_
      rintro e w4 ⟨rfl, hB4⟩
      have hB5 := hB3.trans (hB4.mono (by simp))
      have n1 : w4.cell? ⟨w2.heap.size, 0, none⟩ = some (.int .u64 p.1.1) := (hB4.cell (p := ⟨w2.heap.size, 0, none⟩) (by simp)).trans (by simp)
      have n2 : w4.cell? ⟨w2.heap.size, 1, none⟩ = some (.string p.1.2) := (hB4.cell (p := ⟨w2.heap.size, 1, none⟩) (by simp)).trans (by simp)
      have HI4 : Hid (IterL evU w4 w.heap.size m (outOf l job done) (done ++ [p.1])) := HI.out.block (hB5.block _ HI.out.lt.2.1) (hB5.block _ HI.out.lt.1)
      have hF4 := hF2.then hB5
      clear hB3 hB4 hB5 HI hF2 hrun he2 hj3
      cases hjb : (p.1.1 == job)
      · have hk := Lib.hid (outOf_keep (l := l) (done := done) hjb)
        clear hjb
        go_wp2_with fail
        go_roundg (gk - 1)
        case measure => omega
        case rel => exact ⟨done ++ [p.1], by simp; omega, hD2, by rw [hk.out]; exact HI4.out, hF4⟩
      · have hk := Lib.hid (outOf_drop (l := l) (done := done) hjb)
        clear hjb
        obtain ⟨w5, hrun5, hM5, hO5, hsub⟩ := HI4.out.map.delete nameTy Try.underlying59 p.1 0
        have HI5 := Lib.hid (HI4.out.deleted hM5 hO5 hsub)
        have hF5 := hF4.only hO5 rfl
        unfold encN at hrun5
        clear hM5 hO5 hsub HI4 hF4
        go_wp2_with fail
        go_roundg (gk - 1)
        case measure => omega
        case rel => exact ⟨done ++ [p.1], by simp; omega, hD2, by rw [hk.out]; exact HI5.out, hF5⟩
end Go.Proofs.Ytbelafkklblidaa
