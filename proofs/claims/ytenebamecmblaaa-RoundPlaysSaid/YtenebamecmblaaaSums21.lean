/- RoundSums: its walk. -/
import Derived.Test.YtenebamecmblaaaHeavy21
import Derived.Test.YtenebamecmblaaaRnd10
import Derived.Test.YtenebamecmblaaaRoundFull
namespace Go.Proofs.Ytenebamecmblaaa
open Go.RowKit Go.Sort Go.Lib

def stepO (x : Sp) : Obj := .cells #[.int .i64 x.1, .int .u64 x.2.1.1, .string x.2.1.2, .int .u64 x.2.2.1, .string x.2.2.2] 37 (0, 0)
/-- How much there may be behind k steps. -/
def Bnd (A : AB) (k : Nat) : Prop := A.length ≤ k ∧ ∀ p ∈ A, p.2.2.length ≤ k
section
variable {A : AB} {k : Nat}
theorem Bnd.more (h : Bnd A k) : Bnd A (k + 1) := ⟨Nat.le_succ_of_le h.1, fun p hp => Nat.le_succ_of_le (h.2 p hp)⟩
theorem Bnd.begin (h : Bnd A k) (n : Int) : Bnd (beginA A n) (k + 1) := by
  unfold beginA
  split
  · refine ⟨by rw [List.length_append]; have := h.1; simp; omega, fun p hp => ?_⟩
    rcases List.mem_append.1 hp with hp | hp
    · exact Nat.le_succ_of_le (h.2 p hp)
    · rw [List.mem_singleton] at hp; rw [hp]; exact Nat.zero_le _
  · exact h.more
theorem Bnd.upd (h : Bnd A k) {n : Int} {x : AO} (hx : x.2.length ≤ k + 1) : Bnd (updA A n x) (k + 1) := by
  refine ⟨by unfold updA; rw [List.length_map]; exact Nat.le_succ_of_le h.1, fun p hp => ?_⟩
  obtain ⟨q, hq, rfl⟩ := List.mem_map.1 hp
  by_cases e : q.1 = n
  · rw [if_pos e]; exact hx
  · rw [if_neg e]; exact Nat.le_succ_of_le (h.2 q hq)
theorem Bnd.held (h : Bnd A k) (n : Int) : (heldA A n).2.length ≤ k := by
  unfold heldA
  cases hg : U.getL A n with
  | none => exact Nat.zero_le _
  | some x =>
    unfold U.getL at hg
    rw [Option.map_eq_some_iff] at hg
    obtain ⟨p, hp, rfl⟩ := hg
    exact h.2 p (List.mem_of_find?_eq_some hp)
theorem Bnd.give (h : Bnd A k) (n : Nm) : Bnd (giveA A n) (k + 1) := by
  unfold giveA
  split
  · exact h.upd (by have := h.held n.1; simp; omega)
  · exact h.more
theorem Bnd.take1 (h : Bnd A k) (n : Nm) : Bnd (take1 A n) k := by
  unfold Go.Proofs.Ytenebamecmblaaa.take1
  cases he : takeE A n with
  | none => exact h
  | some y =>
    obtain ⟨x, c⟩ := y
    have hx : x.2.length ≤ k := by
      unfold takeE at he
      cases hg : U.getL A n.1 with
      | none => rw [hg] at he; cases he
      | some x' =>
        rw [hg] at he
        simp only [Option.bind_some, Option.map_eq_some_iff] at he
        obtain ⟨c', hc, he⟩ := he
        injection he with e1 _
        subst e1
        unfold U.getL at hg
        rw [Option.map_eq_some_iff] at hg
        obtain ⟨p, hp, rfl⟩ := hg
        exact h.2 p (List.mem_of_find?_eq_some hp)
    refine ⟨by simp only; unfold updA; rw [List.length_map]; exact h.1, fun p hp => ?_⟩
    simp only at hp
    obtain ⟨q, hq, rfl⟩ := List.mem_map.1 hp
    by_cases e : q.1 = n.1
    · rw [if_pos e]; exact Nat.le_trans (List.length_filter_le _ _) hx
    · rw [if_neg e]; exact h.2 q hq
theorem Bnd.take (h : Bnd A k) : ∀ l : List Nm, Bnd (takeA A l) k := by
  intro l
  induction l generalizing A with
  | nil => exact h
  | cons n l ih => exact ih (h.take1 n)
theorem Bnd.drop (h : Bnd A k) : ∀ l : List Int, Bnd (dropA A l) k := by
  intro l
  induction l generalizing A with
  | nil => exact h
  | cons n l ih => exact ih ⟨Nat.le_trans (List.length_filter_le _ _) h.1, fun p hp => h.2 p (List.mem_filter.1 hp).1⟩
end
theorem step_cells {w : World} {s : Nat} {x : Sp} (h : w.heap[s]? = some (stepO x)) : w.cell? ⟨s, 0, none⟩ = some (.int .i64 x.1) ∧ w.cell? ⟨s, 1, none⟩ = some (.int .u64 x.2.1.1) ∧ w.cell? ⟨s, 2, none⟩ = some (.string x.2.1.2) ∧ w.cell? ⟨s, 3, none⟩ = some (.int .u64 x.2.2.1) ∧ w.cell? ⟨s, 4, none⟩ = some (.string x.2.2.2) := by
  unfold World.cell?
  rw [h]
  exact ⟨rfl, rfl, rfl, rfl, rfl⟩
theorem out_sum {n : Int} {y : AO} {lo : List Lt} (h : GoodO n y) (hp : (lo.map abL).Perm y.2) : vC y.1 + ((lo.drop 0).map fun p => vC p.2.l).sum = pw 0 := by
  have h1 := (hp.map fun q => vC q.2).sum_nat
  rw [List.map_map] at h1
  have h2 := h.sum
  rw [← h1] at h2
  exact h2
theorem over_iff {n : Int} {y : AO} {lo : List Lt} (h : GoodO n y) (hp : (lo.map abL).Perm y.2) : y.1 = [0] ↔ lo.length = 0 := by
  have hlen : lo.length = y.2.length := by have := hp.length_eq; rwa [List.length_map] at this
  have hs := h.sum
  constructor
  · intro e
    rw [e, one_vC] at hs
    cases hy : y.2 with
    | nil => rw [hlen, hy]; rfl
    | cons q l =>
      rw [hy, List.map_cons, List.sum_cons] at hs
      have := vC_pos (h.may q (by rw [hy]; simp)).2
      omega
  · intro e
    have hy : y.2 = [] := List.length_eq_zero_iff.1 (by omega)
    rw [hy] at hs
    exact one_val h.held (by simpa using hs)
theorem add_plain (l1 l2 : List Int) (v1 v2 : Value) (w : World) (h1 : COwn w 0 v1 l1) (h2 : COwn w 0 v2 l2) (hl1 : l1.length ≤ 1000000) (hl2 : l2.length ≤ 1000000) :
    Calls Try.prog 17 #[.slice (some ⟨w.heap.size, 0, none⟩) 2 2] (w.alloc (.cells #[v1, v2] 39)) fun e w' => ∃ v, e = .returned (.tuple #[v, .int .i64 (addL [l1, l2]).1]) ∧ COwn w' 0 v (addL [l1, l2]).2 ∧ Below w.heap.size w w' := by
  have hB := below_allocC w (.cells #[v1, v2] 39)
  refine (add_any [(v1, l1), (v2, l2)] _ (w.alloc (.cells #[v1, v2] 39)) (two_reads w v1 v2 l1 l2) (by simp) (fun p hp => ?_)).mono ?_
  · simp at hp
    rcases hp with rfl | rfl
    · exact ⟨h1.reads.below hB, hl1⟩
    · exact ⟨h2.reads.below hB, hl2⟩
  · rintro e w' ⟨v, rfl, hv, hB'⟩
    exact ⟨v, rfl, COwn.low0 hv, gthen hB hB'⟩
/-- .. what is read stays. -/
theorem ReadsK.stp {α : Type} {enc : α → List Value} {k : Nat} {w w' : World} {v : Value} {l : List α} (h : ReadsK enc k w v l) (hS : Stp (fun i => i < w.heap.size) w w') : ReadsK enc k w' v l := by
  rcases h with h | ⟨b, off, cap, hv, hb, hc⟩
  · exact .inl h
  · exact .inr ⟨b, off, cap, hv, Nat.lt_of_lt_of_le hb hS.size, fun i hi t u hu => (World.cell?_of_block (a := ⟨b, off + (i * k + t), none⟩) (hS.kept hb hb)).trans (hc i hi t u hu)⟩
set_option maxHeartbeats 6400000 in
set_option maxRecDepth 100000 in
theorem sums_any (v : Value) (l : List Sp) (w0 : World) (hv : ReadsK encS 5 w0 v l) (hz : ∀ x ∈ l, x.2.1.2.size ≤ 9223372036854775807 ∧ x.2.2.2.size ≤ 9223372036854775807) (hl : (l.length : Int) ≤ 9223372036854775807) :
    Calls Try.prog 5 #[v] w0 fun e w' => e = .returned (.bool true) ∧ Below w0.heap.size w0 w' := by
  obtain ⟨a, cap, rfl⟩ := hv.slice
  have HV := Lib.hid hv
  have HZ := Lib.hid hz
  clear hv hz
  go_enter Try.func5, Try.ntmps5
  go_wp2_with fail
  refine (heavy_any _ l w0 HV.out hl).mono ?_
  rintro e w ⟨b, rfl, hB0, hb⟩
  cases b
  · have hl2 := hb rfl
    have HV1 := Lib.hid (HV.out.below hB0)
    have HB0 := Lib.hid hB0
    clear hb hB0 HV hl
    go_wp2_with fail
    refine (wr_new (Q := fun i => i < w.heap.size) w (fun i hi => hi)).mono ?_
    rintro e w1 ⟨r, m, rfl, hW, hB⟩
    have HW := Lib.hid hW
    have HA : Hid (Stp (fun i => i < w.heap.size) w w1) := Stp.below hB
    clear hW hB
    go_wp2_with fail
    go_loopg [4] l.length (fun gk i wr => ∃ (k : Nat) (A : AB), gk + k = l.length ∧ i = .int .i64 k ∧ Wr (fun i => i < w.heap.size) r m wr A ∧ Stp (fun i => i < w.heap.size) w wr ∧ Bnd A k)
    case atStart => exact ⟨0, [], by omega, rfl, HW.out, HA.out, Nat.le_refl _, by intro p hp; cases hp⟩
    case round =>
      obtain ⟨k, A, hk, rfl, hW, hS, hBn⟩ := hrel
      replace HW := Lib.hid hW
      replace HA := Lib.hid hS
      have HBn := Lib.hid hBn
      clear hW hS hBn
      by_cases hlt : k < l.length
      · obtain ⟨b, off, c, he, hb, hc⟩ := (HV1.out.stp HA.out).at (by omega)
        injection he with he1 he2 he3
        subst he1
        have HX := Lib.hid (HZ.out _ (List.getElem_mem hlt))
        have hcc := hc k hlt
        clear hc he2 he3
        generalize l[k] = x at hcc HX
        have c0 : wr.cell? ⟨b, off + k * 5, none⟩ = some (.int .i64 x.1) := hcc 0 _ rfl
        have c1 : wr.cell? ⟨b, off + k * 5 + 1, none⟩ = some (.int .u64 x.2.1.1) := hcc 1 _ rfl
        have c2 : wr.cell? ⟨b, off + k * 5 + 2, none⟩ = some (.string x.2.1.2) := hcc 2 _ rfl
        have c3 : wr.cell? ⟨b, off + k * 5 + 3, none⟩ = some (.int .u64 x.2.2.1) := hcc 3 _ rfl
        have c4 : wr.cell? ⟨b, off + k * 5 + 4, none⟩ = some (.string x.2.2.2) := hcc 4 _ rfl
        clear hcc hb
        go_upto_block 2 with fail
        have HS : (wr.alloc (.cells #[.int .i64 x.1, .int .u64 x.2.1.1, .string x.2.1.2, .int .u64 x.2.2.1, .string x.2.2.2] 37)).heap[wr.heap.size]? = some (stepO x) := heap_alloc_new _ _
        have HW2 : Hid (Wr (fun i => i < w.heap.size) r m (wr.alloc (.cells #[.int .i64 x.1, .int .u64 x.2.1.1, .string x.2.1.2, .int .u64 x.2.2.1, .string x.2.2.2] 37)) A) := HW.out.below (below_allocC wr (stepO x))
        have HA2 : Hid (Stp (fun i => i < w.heap.size) w (wr.alloc (.cells #[.int .i64 x.1, .int .u64 x.2.1.1, .string x.2.1.2, .int .u64 x.2.2.1, .string x.2.2.2] 37))) := HA.out.trans (.below (below_allocC wr (stepO x)))
        have hsz : wr.heap.size < (wr.alloc (.cells #[.int .i64 x.1, .int .u64 x.2.1.1, .string x.2.1.2, .int .u64 x.2.2.1, .string x.2.2.2] 37)).heap.size := by simp
        generalize (wr.alloc (.cells #[.int .i64 x.1, .int .u64 x.2.1.1, .string x.2.1.2, .int .u64 x.2.2.1, .string x.2.2.2] 37)) = ws at *
        clear HW HA c0 c1 c2 c3 c4
        go_cut [29] (fun _ wc => ∃ A' : AB, Wr (fun i => i < w.heap.size) r m wc A' ∧ Stp (fun i => i < w.heap.size) w wc ∧ Bnd A' (k + 1) ∧ wc.heap[wr.heap.size]? = some (stepO x))
        case first =>
          have HSS := Lib.hid HS
          obtain ⟨s0, s1, s2, s3, s4⟩ := step_cells HS
          clear HS
          by_cases h0 : x.1 = 0
          · go_wp2_with fail
            refine (wr_begin HW2.out (hqL HA2.out) x.2.1.1 (by have := HBn.out.1; omega)).mono ?_
            rintro e w3 ⟨rfl, hW, hS⟩
            have HR := Lib.hid (show Wr (fun i => i < w.heap.size) r m w3 (beginA A x.2.1.1) ∧ Stp (fun i => i < w.heap.size) w w3 ∧ Bnd (beginA A x.2.1.1) (k + 1) ∧ w3.heap[wr.heap.size]? = some (stepO x) from ⟨hW, HA2.out.trans hS, HBn.out.begin _, hS.cells HSS.out (by decide)⟩)
            clear hW hS s0 s1 s2 s3 s4
            go_wp2_with fail
            go_meet
            exact ⟨_, HR.out⟩
          · by_cases h1 : x.1 = 1
            · go_wp2_with fail
              refine (wr_give HW2.out (hqL HA2.out) x.2.1 HX.out.1).mono ?_
              rintro e w3 ⟨v, rfl, _, hW, hS⟩
              have HR := Lib.hid (show Wr (fun i => i < w.heap.size) r m w3 (giveA A x.2.1) ∧ Stp (fun i => i < w.heap.size) w w3 ∧ Bnd (giveA A x.2.1) (k + 1) ∧ w3.heap[wr.heap.size]? = some (stepO x) from ⟨hW, HA2.out.trans hS, HBn.out.give _, hS.cells HSS.out (by decide)⟩)
              clear hW hS s0 s1 s2 s3 s4
              go_wp2_with fail
              go_meet
              exact ⟨_, HR.out⟩
            · by_cases h2 : x.1 = 2
              · have HRD := Lib.hid (names_read2 ws x.2.1 x.2.2)
                have HRO := Lib.hid (names_out (Q := fun i => i < w.heap.size) ws #[.int .u64 x.2.1.1, .string x.2.1.2, .int .u64 x.2.2.1, .string x.2.2.2] trivial (n := 2) (k := 2))
                have hBq := below_allocC ws (.cells #[.int .u64 x.2.1.1, .string x.2.1.2, .int .u64 x.2.2.1, .string x.2.2.2] 35)
                have HW3 := Lib.hid (HW2.out.below hBq)
                have HA3 : Hid (Stp (fun i => i < w.heap.size) w _) := HA2.out.trans (.below hBq)
                have HSS3 := Lib.hid ((hBq.block _ hsz).trans HSS.out)
                clear hBq
                go_wp2_with fail
                refine (wr_take HW3.out (hqL HA3.out) HRD.out HRO.out (by simp)).mono ?_
                rintro e w3 ⟨rfl, hW, hS⟩
                have HR := Lib.hid (show Wr (fun i => i < w.heap.size) r m w3 (takeA A [x.2.1, x.2.2]) ∧ Stp (fun i => i < w.heap.size) w w3 ∧ Bnd (takeA A [x.2.1, x.2.2]) (k + 1) ∧ w3.heap[wr.heap.size]? = some (stepO x) from ⟨hW, HA3.out.trans hS, (HBn.out.take _).more, hS.cells HSS3.out (by decide)⟩)
                clear hW hS s0 s1 s2 s3 s4 HRD HRO HW3 HA3 HSS3
                go_wp2_with fail
                go_meet
                exact ⟨_, HR.out⟩
              · by_cases h3 : x.1 = 3
                · have HRD := Lib.hid (u1_read ws x.2.1.1)
                  have HRO := Lib.hid (u64_out (Q := fun i => i < w.heap.size) ws #[.int .u64 x.2.1.1] (n := 1) (k := 1))
                  have hBq := below_allocC ws (.cells #[.int .u64 x.2.1.1] 26)
                  have HW3 := Lib.hid (HW2.out.below hBq)
                  have HA3 : Hid (Stp (fun i => i < w.heap.size) w _) := HA2.out.trans (.below hBq)
                  have HSS3 := Lib.hid ((hBq.block _ hsz).trans HSS.out)
                  clear hBq
                  go_wp2_with fail
                  refine (wr_drop HW3.out (hqL HA3.out) HRD.out HRO.out (by simp)).mono ?_
                  rintro e w3 ⟨rfl, hW, hS⟩
                  have HR := Lib.hid (show Wr (fun i => i < w.heap.size) r m w3 (dropA A [x.2.1.1]) ∧ Stp (fun i => i < w.heap.size) w w3 ∧ Bnd (dropA A [x.2.1.1]) (k + 1) ∧ w3.heap[wr.heap.size]? = some (stepO x) from ⟨hW, HA3.out.trans hS, (HBn.out.drop _).more, hS.cells HSS3.out (by decide)⟩)
                  clear hW hS s0 s1 s2 s3 s4 HRD HRO HW3 HA3 HSS3
                  go_wp2_with fail
                  go_meet
                  exact ⟨_, HR.out⟩
                · have HR := Lib.hid (show Wr (fun i => i < w.heap.size) r m ws A ∧ Stp (fun i => i < w.heap.size) w ws ∧ Bnd A (k + 1) ∧ ws.heap[wr.heap.size]? = some (stepO x) from ⟨HW2.out, HA2.out, HBn.out.more, HSS.out⟩)
                  clear s0 s1 s2 s3 s4
                  go_wp2_with fail
                  go_meet
                  exact ⟨_, HR.out⟩
        case rest =>
          obtain ⟨A2, hW, hS, hBn2, hso⟩ := hcut
          have HW3 := Lib.hid hW
          have HA3 := Lib.hid hS
          have HBn3 := Lib.hid hBn2
          have HSO := Lib.hid hso
          obtain ⟨_, s1, _, _, _⟩ := step_cells hso
          clear HS HW2 HA2 hW hS hBn2 hso HBn hsz
          generalize hjb : x.2.1.1 = job at *
          generalize hsb : wr.heap.size = sb at *
          cases hg : U.getL A2 job with
          | none =>
            have e1 := Lib.hid (show (U.getL A2 job).isSome = false by rw [hg]; rfl)
            have e2 := Lib.hid (show heldA A2 job = ([], []) by unfold heldA; rw [hg]; rfl)
            have e3 := Lib.hid (show overV A2 job = false by unfold overV; rw [hg])
            clear hg
            go_wp2_with fail
            refine (wr_held HW3.out job).mono ?_
            rintro e w4 ⟨vh, rfl, hv, hB⟩
            rw [e1.out]
            obtain ⟨ah, ch, rfl⟩ := hv.slice
            replace HW3 := Lib.hid (HW3.out.below hB)
            replace HA3 : Hid (Stp (fun i => i < w.heap.size) w _) := HA3.out.trans (.below hB)
            replace s1 := cell_keep hB s1
            clear hv hB HSO
            go_wp2_with fail
            refine (wr_out HW3.out job (by rw [e2.out]; exact Nat.zero_le _)).mono ?_
            rintro e w5 ⟨vo, lo, rfl, ho, _, hO, hB⟩
            have hlo : lo = [] := by
              have := hO.perm
              rw [e2.out] at this
              exact List.map_eq_nil_iff.1 this.eq_nil
            subst hlo
            obtain ⟨ao, co, rfl⟩ := (own_readsK (enc := encL) (l := []) encL_len (by decide) ho).slice
            replace HW3 := Lib.hid (HW3.out.below hB)
            replace HA3 : Hid (Stp (fun i => i < w.heap.size) w _) := HA3.out.trans (.below hB)
            replace s1 := cell_keep hB s1
            clear ho hO hB
            simp only [List.length_nil]
            go_wp2_with fail
            refine (wr_over HW3.out job).mono ?_
            rintro e w6 ⟨rfl, hB⟩
            rw [e3.out]
            have HF := Lib.hid (show Wr (fun i => i < w.heap.size) r m w6 A2 ∧ Stp (fun i => i < w.heap.size) w w6 ∧ Bnd A2 (k + 1) from ⟨HW3.out.below hB, HA3.out.trans (.below hB), HBn3.out⟩)
            clear hB s1 HW3 HA3 HBn3
            go_wp2_with fail
            go_roundg (gk - 1)
            case rel => exact ⟨k + 1, A2, by omega, by go_num, HF.out⟩
            case measure => omega
          | some y =>
            have HG := Lib.hid (getA_good HW3.out.good hg)
            have e1 := Lib.hid (show (U.getL A2 job).isSome = true by rw [hg]; rfl)
            have e2 := Lib.hid (show heldA A2 job = y by unfold heldA; rw [hg]; rfl)
            have e3 := Lib.hid (show overV A2 job = decide (y.1 = [0]) by unfold overV; rw [hg])
            have e4 := Lib.hid (show heldV A2 job = y.1 by unfold heldV; rw [hg]; rfl)
            have e5 := Lib.hid (show y.2.length ≤ k + 1 from by have := HBn3.out.held job; rwa [e2.out] at this)
            clear hg
            go_wp2_with fail
            refine (wr_held HW3.out job).mono ?_
            rintro e w4 ⟨vh, rfl, hv, hB⟩
            rw [e1.out]
            rw [e4.out] at hv
            obtain ⟨ah, ch, rfl⟩ := hv.slice
            replace HW3 := Lib.hid (HW3.out.below hB)
            replace HA3 : Hid (Stp (fun i => i < w.heap.size) w _) := HA3.out.trans (.below hB)
            replace s1 := cell_keep hB s1
            have HH := Lib.hid (COwn.low0 hv)
            clear hv hB HSO
            go_wp2_with fail
            refine (wr_out HW3.out job (by rw [e2.out]; have := e5.out; omega)).mono ?_
            rintro e w5 ⟨vo, lo, rfl, ho, hc, hO, hB⟩
            have hperm := hO.perm
            rw [e2.out] at hperm
            have HRD := Lib.hid (own_readsK encL_len (by decide) ho)
            have HCC := Lib.hid hc
            have HOO := Lib.hid hperm
            have hlol : lo.length ≤ k + 1 := by have := hperm.length_eq; rw [List.length_map] at this; rw [this]; exact e5.out
            obtain ⟨ao, co, rfl⟩ := HRD.out.slice
            replace HW3 := Lib.hid (HW3.out.below hB)
            replace HA3 : Hid (Stp (fun i => i < w.heap.size) w _) := HA3.out.trans (.below hB)
            replace s1 := cell_keep hB s1
            replace HH := Lib.hid (cowns HH.out hB)
            have HSUM := Lib.hid (out_sum HG.out HOO.out)
            clear ho hO hB hc hperm hsb hjb
            generalize hgo : gk = go at *
            clear hgo
            go_wp2_with fail
            go_loopg [6, 9] lo.length (fun gj sv si wx => ∃ (j : Nat) (c : List Int), gj + j = lo.length ∧ si = .int .i64 j ∧ COwn wx 0 sv c ∧ mayC c = true ∧ vC c + ((lo.drop j).map fun p => vC p.2.l).sum = pw 0 ∧ Below w5.heap.size w5 wx)
            case atStart => exact ⟨0, y.1, by omega, rfl, HH.out, HG.out.heldMay, HSUM.out, Below.refl _ _⟩
            case round =>
              obtain ⟨j, c, hj, rfl, hco, hcm, hcs, hB5⟩ := hrel
              obtain ⟨asv, csv, rfl⟩ := hco.slice
              have HCO := Lib.hid hco
              have HB5 := Lib.hid hB5
              have HCM := Lib.hid hcm
              have HCS := Lib.hid hcs
              clear hco hcm hcs hB5 HSUM HH
              by_cases hjl : j < lo.length
              · obtain ⟨b5, off5, cc5, he, hb, hc⟩ := (HRD.out.below HB5.out).at (by omega)
                injection he with he1 he2 he3
                subst he1
                have hcc := hc j hjl
                have HDR : Hid (lo.drop j = lo[j] :: lo.drop (j + 1)) := List.drop_eq_getElem_cons hjl
                have HME := Lib.hid (List.getElem_mem hjl)
                clear hc he2 he3 hb
                generalize lo[j] = p at hcc HDR HME
                have d2 : wr.cell? ⟨b5, off5 + j * 3 + 2, none⟩ = some (.slice p.2.a p.2.l.length p.2.c) := hcc 2 _ rfl
                have HP := Lib.hid (show COwn wr 0 (.slice p.2.a p.2.l.length p.2.c) p.2.l from cowns (COwn.low0 (HCC.out p HME.out)) HB5.out)
                have HPM := Lib.hid (show mayC p.2.l = true ∧ p.2.l ≠ [] from HG.out.may (abL p) (HOO.out.mem_iff.1 (List.mem_map.2 ⟨p, HME.out, rfl⟩)))
                have hsp : ((lo.drop j).map fun p => vC p.2.l).sum = vC p.2.l + ((lo.drop (j + 1)).map fun p => vC p.2.l).sum := by rw [HDR.out, List.map_cons, List.sum_cons]
                obtain ⟨z, hz1, hz2, hz3⟩ := addL_two HCM.out HPM.out.1 (by have := HCS.out; omega)
                have HZ1 := Lib.hid hz1
                have HZ2 := Lib.hid hz2
                have HZ3 : Hid (vC z + ((lo.drop (j + 1)).map fun p => vC p.2.l).sum = pw 0) := by show _ = _; have := HCS.out; omega
                clear hcc hz1 hz2 hz3 hsp
                go_wp2_with fail
                refine (add_plain c p.2.l _ _ wr HCO.out HP.out (Nat.le_trans (mayC_sc HCM.out).len (by decide)) (Nat.le_trans (mayC_sc HPM.out.1).len (by decide))).mono ?_
                rintro e w6 ⟨v, rfl, hov, hB6⟩
                rw [HZ1.out] at hov
                rw [HZ1.out]
                obtain ⟨av, cv, rfl⟩ := hov.slice
                have HOV := Lib.hid hov
                have HB6 := Lib.hid (gthen HB5.out hB6)
                have HP6 := Lib.hid (COwn.reads (cowns HP.out hB6))
                have d3 := cell_keep hB6 d2
                clear hov hB6 d2 HCO HP
                simp only
                go_wp2_with fail
                refine (iszero_any p.2.l _ _ HP6.out).mono ?_
                rintro e w7 ⟨rfl, hw⟩
                have hw := hw.symm
                subst hw
                rw [decide_eq_false HPM.out.2]
                clear d3
                go_wp2_with fail
                go_roundg (gk - 1)
                case rel => exact ⟨j + 1, z, by omega, by go_num, HOV.out, HZ2.out, HZ3.out, HB6.out⟩
                case measure => omega
              · have hd : lo.drop j = [] := List.drop_eq_nil_of_le (by omega)
                have hcs := HCS.out
                rw [hd] at hcs
                have HC0 := Lib.hid (show c = [0] from one_val (mayC_sc HCM.out) (by simpa using hcs))
                have HLZ := Lib.hid (over_iff HG.out HOO.out)
                have s2 := cell_keep HB5.out s1
                replace HW3 := Lib.hid (HW3.out.below HB5.out)
                replace HA3 : Hid (Stp (fun i => i < w.heap.size) w _) := HA3.out.trans (.below HB5.out)
                have HCR := Lib.hid (COwn.reads HCO.out)
                clear hcs hd s1
                go_wp2_with fail
                refine (isone_any c _ _ HCR.out (Nat.le_trans (mayC_sc HCM.out).len (by decide))).mono ?_
                rintro e w6 ⟨rfl, hB6⟩
                rw [decide_eq_true HC0.out]
                have s3 := cell_keep hB6 s2
                replace HW3 := Lib.hid (HW3.out.below hB6)
                replace HA3 : Hid (Stp (fun i => i < w.heap.size) w _) := HA3.out.trans (.below hB6)
                clear hB6 s2
                go_wp2_with fail
                refine (wr_over HW3.out job).mono ?_
                rintro e w7 ⟨rfl, hB7⟩
                rw [e3.out]
                have HF := Lib.hid (show Wr (fun i => i < w.heap.size) r m w7 A2 ∧ Stp (fun i => i < w.heap.size) w w7 ∧ Bnd A2 (k + 1) from ⟨HW3.out.below hB7, HA3.out.trans (.below hB7), HBn3.out⟩)
                clear hB7 s3 HW3 HA3 HBn3
                by_cases hz0 : lo.length = 0
                · rw [decide_eq_true (HLZ.out.2 hz0)]
                  go_wp2_with fail
                  go_roundg (go - 1)
                  case rel => exact ⟨k + 1, A2, by omega, by go_num, HF.out⟩
                  case measure => omega
                · rw [decide_eq_false (fun e => hz0 (HLZ.out.1 e))]
                  go_wp2_with fail
                  go_roundg (go - 1)
                  case rel => exact ⟨k + 1, A2, by omega, by go_num, HF.out⟩
                  case measure => omega
      · go_wp2_with fail
        refine (works_any _).mono ?_
        rintro e w9 ⟨rfl, hB⟩
        have HF := Lib.hid (HB0.out.trans ((HA.out.trans (.below hB)).all (B := w.heap.size) (fun i hi => hi) (Nat.le_refl _) |>.mono HB0.out.size))
        clear hB
        go_wp2_with fail
        go_ret
        exact ⟨ret_boolE rfl, HF.out⟩
  · clear hb
    have HB0 := Lib.hid hB0
    clear hB0
    go_wp2_with fail
    refine (works_any _).mono ?_
    rintro e w1 ⟨rfl, hB⟩
    have HF := Lib.hid (gthen HB0.out hB)
    clear hB
    go_wp2_with fail
    go_ret
    exact ⟨ret_boolE rfl, HF.out⟩
end Go.Proofs.Ytenebamecmblaaa
