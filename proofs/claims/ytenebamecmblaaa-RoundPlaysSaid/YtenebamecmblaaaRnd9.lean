/- What no rounds answer; the document's example. -/
import Derived.Test.YtenebamecmblaaaRnd8
namespace Go.Proofs.Ytenebamecmblaaa
open Go.RowKit Go.Sort Go.Lib

theorem at_end {wz : World} {tmps : Array Value} {p : ByteArray} {b : Nat} {T : TypeId} {R : Ending → World → Prop}
    (h2 : tmps.getD 2 undef = .pointer (some ⟨b, 0, none⟩)) (hr : wz.heap[b]? = some (.cells #[.int .u64 1, .string p] T (0, 0))) (hR : R (.returned (.agg #[.int .u64 1, .string p])) wz) :
    bodyPost Try.prog Try.f26 R Exit.ret { tmps := tmps, defers := [] } wz := by
  have c0 : wz.cell? ⟨b, 0, none⟩ = some (.int .u64 1) := by simp [World.cell?, hr]
  have c1 : wz.cell? ⟨b, 1, none⟩ = some (.string p) := by simp [World.cell?, hr]
  refine bodyPost_ret (v := .agg #[.int .u64 1, .string p]) ?_ rfl hR
  have h2' : tmps[2]?.getD undef = .pointer (some ⟨b, 0, none⟩) := by simpa using h2
  simp [results, Try.results26, go_sem, h2', c0, c1]
theorem at_any (p : ByteArray) (w : World) : Calls Try.prog 26 #[.string p] w fun e w' => e = .returned (.agg #[.int .u64 1, .string p]) ∧ Below w.heap.size w w' := by
  have hb := heap_alloc_new w (.cells #[.int .u64 1, .string p] 35)
  have HBN := Lib.hid hb
  clear hb
  go_enter Try.func26, Try.ntmps26
  go_wp2_with fail
  exact at_end rfl HBN.out ⟨rfl, below_allocC w _⟩
theorem hqL {w w' : World} (h : Stp (fun i => i < w.heap.size) w w') : ∀ i, i < w.heap.size → i < w'.heap.size := fun _ hi => Nat.lt_of_lt_of_le hi h.size
theorem COwn.low0 {w : World} {B : Nat} {v : Value} {l : List Int} (h : COwn w B v l) : COwn w 0 v l := owns_low h (Nat.zero_le _)
theorem names_read1 (w : World) (n : Nm) : ReadsK encM 2 (w.alloc (.cells #[.int .u64 n.1, .string n.2] 35)) (.slice (some ⟨w.heap.size, 0, none⟩) 1 1) [n] := by
  have hb := heap_alloc_new w (.cells #[.int .u64 n.1, .string n.2] 35)
  refine .inr ⟨w.heap.size, 0, 1, rfl, by simp, fun i hi t u hu => ?_⟩
  have ht := (List.getElem?_eq_some_iff.1 hu).1
  have hi0 : i = 0 := by simp at hi; omega
  subst hi0
  have ht2 : t = 0 ∨ t = 1 := by have : t < 2 := ht; omega
  unfold World.cell?
  rw [hb]
  rcases ht2 with rfl | rfl <;> simpa [encM] using hu
theorem names_read2 (w : World) (n k : Nm) : ReadsK encM 2 (w.alloc (.cells #[.int .u64 n.1, .string n.2, .int .u64 k.1, .string k.2] 35)) (.slice (some ⟨w.heap.size, 0, none⟩) 2 2) [n, k] := by
  have hb := heap_alloc_new w (.cells #[.int .u64 n.1, .string n.2, .int .u64 k.1, .string k.2] 35)
  refine .inr ⟨w.heap.size, 0, 2, rfl, by simp, fun i hi t u hu => ?_⟩
  have ht := (List.getElem?_eq_some_iff.1 hu).1
  have hi0 : i = 0 ∨ i = 1 := by simp at hi; omega
  unfold World.cell?
  rw [hb]
  rcases hi0 with rfl | rfl
  · have ht2 : t = 0 ∨ t = 1 := by have : t < 2 := ht; omega
    rcases ht2 with rfl | rfl <;> simpa [encM] using hu
  · have ht2 : t = 0 ∨ t = 1 := by have : t < 2 := ht; omega
    rcases ht2 with rfl | rfl <;> simpa [encM] using hu
theorem names_out {Q : Nat → Prop} (w : World) (c : Array Value) (_h : True) {n k : Nat} : ∀ a n' c', Value.slice (some ⟨w.heap.size, 0, none⟩) n k = .slice (some a) n' c' → ¬ Sx Q (w.alloc (.cells c 35)) a.block := by
  rintro a n' c' e ⟨_, h⟩
  injection e with e _ _
  injection e with e
  subst e
  have hb := heap_alloc_new w (.cells c 35)
  rcases h with ⟨es, cl, h⟩ | ⟨cur, h⟩
  · simp only at h; rw [hb] at h; cases h
  · simp only at h; rw [hb] at h
    injection h with h
    injection h with _ h _
    exact absurd h (by decide)
theorem half_ok {l : List Int} {v : Value} {w : World} (h : COwn w 0 v l) (hm : mayC l = true) (hn : l ≠ []) (hl : l.getD (l.length - 1) 0 + 1 ≤ 4096) : Calls Try.prog 14 #[v] w fun e w' => ∃ v u, e = .returned (.tuple #[v, u, .int .i64 0]) ∧ COwn w' 0 v (keepL l) ∧ COwn w' 0 u (giveL l) ∧ Below w.heap.size w w' := by
  refine (half_any l v w h.reads (owns_cap h) (Nat.le_trans (mayC_sc hm).len (by decide))).mono ?_
  rintro e w' (⟨c, _, _, hc, _⟩ | ⟨_, _, _, v, u, rfl, hv, hu, _, hB⟩)
  · have := hc hm hn; omega
  · exact ⟨v, u, rfl, owns_low hv (Nat.zero_le _), owns_low hu (Nat.zero_le _), hB⟩
set_option maxHeartbeats 3200000 in
set_option maxRecDepth 100000 in
theorem works_any (w : World) : Calls Try.prog 10 #[] w fun e w' => e = .returned (.bool true) ∧ Below w.heap.size w w' := by
  go_enter Try.func10, Try.ntmps10
  go_wp2_with fail
  refine (wr_new (Q := fun i => i < w.heap.size) w (fun i hi => hi)).mono ?_
  rintro e w1 ⟨r, m, rfl, hW, hB⟩
  have HW := Lib.hid hW
  have HA : Hid (Stp (fun i => i < w.heap.size) w w1) := Stp.below hB
  clear hW hB
  go_wp2_with fail
  refine (wr_begin HW.out (hqL HA.out) 1 (by decide)).mono ?_
  rintro e w2 ⟨rfl, hW, hS⟩
  rw [show beginE [] 1 = 0 from rfl]
  rw [show beginA [] 1 = ([(1, ([0], []))] : AB) by decide +kernel] at hW
  replace HW := Lib.hid hW
  replace HA : Hid (Stp (fun i => i < w.heap.size) w _) := HA.out.trans hS
  clear hW hS
  go_wp2_with fail
  refine (at_any ⟨#[]⟩ _).mono ?_
  rintro e w3 ⟨rfl, hB⟩
  replace HW := Lib.hid (HW.out.below hB)
  replace HA : Hid (Stp (fun i => i < w.heap.size) w _) := HA.out.trans (.below hB)
  clear hB
  go_wp2_with fail
  refine (wr_give HW.out (hqL HA.out) ((1, ⟨#[]⟩) : Nm) (by decide)).mono ?_
  rintro e w4 ⟨vHb, rfl, hv, hW, hS⟩
  rw [show giveVv ([(1, ([0], []))] : AB) ((1, ⟨#[]⟩) : Nm) = [1] by decide +kernel] at hv
  rw [show giveA ([(1, ([0], []))] : AB) ((1, ⟨#[]⟩) : Nm) = ([(1, ([1], [((1, ⟨#[]⟩), [1])]))] : AB) by decide +kernel] at hW
  rw [show giveE ([(1, ([0], []))] : AB) ((1, ⟨#[]⟩) : Nm) = 0 by decide +kernel]
  replace hv := COwn.low0 hv
  obtain ⟨aHb, cHb, rfl⟩ := hv.slice
  replace HW := Lib.hid hW
  replace HA : Hid (Stp (fun i => i < w.heap.size) w _) := HA.out.trans hS
  clear hW hS
  have Hb := Lib.hid hv
  clear hv
  go_wp2_with fail
  refine (at_any ⟨#[1]⟩ _).mono ?_
  rintro e w5 ⟨rfl, hB⟩
  replace HW := Lib.hid (HW.out.below hB)
  replace HA : Hid (Stp (fun i => i < w.heap.size) w _) := HA.out.trans (.below hB)
  replace Hb := Lib.hid (cowns Hb.out hB)
  clear hB
  go_wp2_with fail
  refine (wr_give HW.out (hqL HA.out) ((1, ⟨#[1]⟩) : Nm) (by decide)).mono ?_
  rintro e w6 ⟨vHc, rfl, hv, hW, hS⟩
  rw [show giveVv ([(1, ([1], [((1, ⟨#[]⟩), [1])]))] : AB) ((1, ⟨#[1]⟩) : Nm) = [2] by decide +kernel] at hv
  rw [show giveA ([(1, ([1], [((1, ⟨#[]⟩), [1])]))] : AB) ((1, ⟨#[1]⟩) : Nm) = ([(1, ([2], [((1, ⟨#[]⟩), [1]), ((1, ⟨#[1]⟩), [2])]))] : AB) by decide +kernel] at hW
  rw [show giveE ([(1, ([1], [((1, ⟨#[]⟩), [1])]))] : AB) ((1, ⟨#[1]⟩) : Nm) = 0 by decide +kernel]
  replace hv := COwn.low0 hv
  obtain ⟨aHc, cHc, rfl⟩ := hv.slice
  replace HW := Lib.hid hW
  replace HA : Hid (Stp (fun i => i < w.heap.size) w _) := HA.out.trans hS
  replace Hb := Lib.hid (hS.cown Hb.out)
  clear hW hS
  have Hc := Lib.hid hv
  clear hv
  go_wp2_with fail
  refine (wr_held HW.out 1).mono ?_
  rintro e w7 ⟨vh, rfl, hv, hB⟩
  rw [show heldV ([(1, ([2], [((1, ⟨#[]⟩), [1]), ((1, ⟨#[1]⟩), [2])]))] : AB) 1 = [2] by decide +kernel] at hv
  rw [show (U.getL ([(1, ([2], [((1, ⟨#[]⟩), [1]), ((1, ⟨#[1]⟩), [2])]))] : AB) 1).isSome = true by decide +kernel]
  replace hv := COwn.low0 hv
  obtain ⟨ah, ch, rfl⟩ := hv.slice
  replace HW := Lib.hid (HW.out.below hB)
  replace HA : Hid (Stp (fun i => i < w.heap.size) w _) := HA.out.trans (.below hB)
  replace Hb := Lib.hid (cowns Hb.out hB)
  replace Hc := Lib.hid (cowns Hc.out hB)
  clear hB
  have Hh := Lib.hid hv
  clear hv
  go_wp2_with fail
  refine (at_any ⟨#[]⟩ _).mono ?_
  rintro e w8 ⟨rfl, hB⟩
  replace HW := Lib.hid (HW.out.below hB)
  replace HA : Hid (Stp (fun i => i < w.heap.size) w _) := HA.out.trans (.below hB)
  replace Hb := Lib.hid (cowns Hb.out hB)
  replace Hc := Lib.hid (cowns Hc.out hB)
  replace Hh := Lib.hid (cowns Hh.out hB)
  clear hB
  go_wp2_with fail
  have hR := names_read1 w8 ((1, ⟨#[]⟩) : Nm)
  have hO := names_out (Q := fun i => i < w.heap.size) w8 #[.int .u64 1, .string ⟨#[]⟩] trivial (n := 1) (k := 1)
  have hB := below_allocC w8 (.cells #[.int .u64 1, .string ⟨#[]⟩] 35)
  replace HW := Lib.hid (HW.out.below hB)
  replace HA : Hid (Stp (fun i => i < w.heap.size) w _) := HA.out.trans (.below hB)
  replace Hb := Lib.hid (cowns Hb.out hB)
  replace Hc := Lib.hid (cowns Hc.out hB)
  replace Hh := Lib.hid (cowns Hh.out hB)
  clear hB
  have HR := Lib.hid hR
  have HO := Lib.hid hO
  clear hR hO
  generalize hg : w8.alloc (.cells #[.int .u64 1, .string ⟨#[]⟩] 35) = wg at *
  clear hg
  try go_wp2_with fail
  refine (wr_take HW.out (hqL HA.out) HR.out HO.out (by decide)).mono ?_
  rintro e w9 ⟨rfl, hW, hS⟩
  rw [show takeA ([(1, ([2], [((1, ⟨#[]⟩), [1]), ((1, ⟨#[1]⟩), [2])]))] : AB) [((1, ⟨#[]⟩) : Nm)] = ([(1, ([1, 2], [((1, ⟨#[1]⟩), [2])]))] : AB) by decide +kernel] at hW
  rw [show takeN ([(1, ([2], [((1, ⟨#[]⟩), [1]), ((1, ⟨#[1]⟩), [2])]))] : AB) [((1, ⟨#[]⟩) : Nm)] = 1 by decide +kernel]
  clear HR HO
  replace HW := Lib.hid hW
  replace HA : Hid (Stp (fun i => i < w.heap.size) w _) := HA.out.trans hS
  replace Hb := Lib.hid (hS.cown Hb.out)
  replace Hc := Lib.hid (hS.cown Hc.out)
  replace Hh := Lib.hid (hS.cown Hh.out)
  clear hW hS
  go_wp2_with fail
  refine (wr_over HW.out 1).mono ?_
  rintro e w10 ⟨rfl, hB⟩
  rw [show overV ([(1, ([1, 2], [((1, ⟨#[1]⟩), [2])]))] : AB) 1 = false by decide +kernel]
  replace HW := Lib.hid (HW.out.below hB)
  replace HA : Hid (Stp (fun i => i < w.heap.size) w _) := HA.out.trans (.below hB)
  replace Hb := Lib.hid (cowns Hb.out hB)
  replace Hc := Lib.hid (cowns Hc.out hB)
  replace Hh := Lib.hid (cowns Hh.out hB)
  clear hB
  go_wp2_with fail
  refine (at_any ⟨#[1]⟩ _).mono ?_
  rintro e w11 ⟨rfl, hB⟩
  replace HW := Lib.hid (HW.out.below hB)
  replace HA : Hid (Stp (fun i => i < w.heap.size) w _) := HA.out.trans (.below hB)
  replace Hb := Lib.hid (cowns Hb.out hB)
  replace Hc := Lib.hid (cowns Hc.out hB)
  replace Hh := Lib.hid (cowns Hh.out hB)
  clear hB
  go_wp2_with fail
  refine (at_any ⟨#[1]⟩ _).mono ?_
  rintro e w12 ⟨rfl, hB⟩
  replace HW := Lib.hid (HW.out.below hB)
  replace HA : Hid (Stp (fun i => i < w.heap.size) w _) := HA.out.trans (.below hB)
  replace Hb := Lib.hid (cowns Hb.out hB)
  replace Hc := Lib.hid (cowns Hc.out hB)
  replace Hh := Lib.hid (cowns Hh.out hB)
  clear hB
  go_wp2_with fail
  have hR := names_read2 w12 ((1, ⟨#[1]⟩) : Nm) ((1, ⟨#[1]⟩) : Nm)
  have hO := names_out (Q := fun i => i < w.heap.size) w12 #[.int .u64 1, .string ⟨#[1]⟩, .int .u64 1, .string ⟨#[1]⟩] trivial (n := 2) (k := 2)
  have hB := below_allocC w12 (.cells #[.int .u64 1, .string ⟨#[1]⟩, .int .u64 1, .string ⟨#[1]⟩] 35)
  replace HW := Lib.hid (HW.out.below hB)
  replace HA : Hid (Stp (fun i => i < w.heap.size) w _) := HA.out.trans (.below hB)
  replace Hb := Lib.hid (cowns Hb.out hB)
  replace Hc := Lib.hid (cowns Hc.out hB)
  replace Hh := Lib.hid (cowns Hh.out hB)
  clear hB
  have HR := Lib.hid hR
  have HO := Lib.hid hO
  clear hR hO
  generalize hg : w12.alloc (.cells #[.int .u64 1, .string ⟨#[1]⟩, .int .u64 1, .string ⟨#[1]⟩] 35) = wg at *
  clear hg
  try go_wp2_with fail
  refine (wr_take HW.out (hqL HA.out) HR.out HO.out (by decide)).mono ?_
  rintro e w13 ⟨rfl, hW, hS⟩
  rw [show takeA ([(1, ([1, 2], [((1, ⟨#[1]⟩), [2])]))] : AB) [((1, ⟨#[1]⟩) : Nm), ((1, ⟨#[1]⟩) : Nm)] = ([(1, ([0], []))] : AB) by decide +kernel] at hW
  rw [show takeN ([(1, ([1, 2], [((1, ⟨#[1]⟩), [2])]))] : AB) [((1, ⟨#[1]⟩) : Nm), ((1, ⟨#[1]⟩) : Nm)] = 1 by decide +kernel]
  clear HR HO
  replace HW := Lib.hid hW
  replace HA : Hid (Stp (fun i => i < w.heap.size) w _) := HA.out.trans hS
  replace Hb := Lib.hid (hS.cown Hb.out)
  replace Hc := Lib.hid (hS.cown Hc.out)
  replace Hh := Lib.hid (hS.cown Hh.out)
  clear hW hS
  go_wp2_with fail
  refine (one_any _).mono ?_
  rintro e w14 ⟨b1, c1, rfl, ho, hB⟩
  have hv : COwn _ 0 (.slice (some ⟨b1, 0, none⟩) 1 c1) [0] := owns_low ho (Nat.zero_le _)
  clear ho
  replace HW := Lib.hid (HW.out.below hB)
  replace HA : Hid (Stp (fun i => i < w.heap.size) w _) := HA.out.trans (.below hB)
  replace Hb := Lib.hid (cowns Hb.out hB)
  replace Hc := Lib.hid (cowns Hc.out hB)
  replace Hh := Lib.hid (cowns Hh.out hB)
  clear hB
  have H1 := Lib.hid hv
  clear hv
  go_wp2_with fail
  refine (half_ok H1.out (l := [0]) (by decide +kernel) (by decide) (by decide +kernel)).mono ?_
  rintro e w15 ⟨vHk, vHf, rfl, hv, hu, hB⟩
  rw [show keepL [0] = [1] from rfl] at hv
  rw [show giveL [0] = [1] from rfl] at hu
  obtain ⟨aHk, cHk, rfl⟩ := hv.slice
  obtain ⟨aHf, cHf, rfl⟩ := hu.slice
  replace HW := Lib.hid (HW.out.below hB)
  replace HA : Hid (Stp (fun i => i < w.heap.size) w _) := HA.out.trans (.below hB)
  replace Hb := Lib.hid (cowns Hb.out hB)
  replace Hc := Lib.hid (cowns Hc.out hB)
  replace Hh := Lib.hid (cowns Hh.out hB)
  replace H1 := Lib.hid (cowns H1.out hB)
  clear hB
  have Hk := Lib.hid hv
  have Hf := Lib.hid hu
  clear hv hu
  go_wp2_with fail
  refine (half_ok Hk.out (l := [1]) (by decide +kernel) (by decide) (by decide +kernel)).mono ?_
  rintro e w16 ⟨vHq0, vHq, rfl, hv, hu, hB⟩
  rw [show keepL [1] = [2] from rfl] at hv
  rw [show giveL [1] = [2] from rfl] at hu
  obtain ⟨aHq0, cHq0, rfl⟩ := hv.slice
  obtain ⟨aHq, cHq, rfl⟩ := hu.slice
  replace HW := Lib.hid (HW.out.below hB)
  replace HA : Hid (Stp (fun i => i < w.heap.size) w _) := HA.out.trans (.below hB)
  replace Hb := Lib.hid (cowns Hb.out hB)
  replace Hc := Lib.hid (cowns Hc.out hB)
  replace Hh := Lib.hid (cowns Hh.out hB)
  replace H1 := Lib.hid (cowns H1.out hB)
  replace Hk := Lib.hid (cowns Hk.out hB)
  replace Hf := Lib.hid (cowns Hf.out hB)
  clear hB
  have Hq0 := Lib.hid hv
  have Hq := Lib.hid hu
  clear hv hu
  simp only [List.length_cons, List.length_nil] at *
  go_wp2_with fail
  refine (ccompare_any [1] [1] _ _ _ (COwn.reads Hb.out) (COwn.reads Hf.out) (by decide) (by decide)).mono ?_
  rintro e w17 ⟨rfl, hB⟩
  rw [show cmpC [1] [1] = 0 by decide +kernel]
  replace HW := Lib.hid (HW.out.below hB)
  replace HA : Hid (Stp (fun i => i < w.heap.size) w _) := HA.out.trans (.below hB)
  replace Hb := Lib.hid (cowns Hb.out hB)
  replace Hc := Lib.hid (cowns Hc.out hB)
  replace Hh := Lib.hid (cowns Hh.out hB)
  replace H1 := Lib.hid (cowns H1.out hB)
  replace Hk := Lib.hid (cowns Hk.out hB)
  replace Hf := Lib.hid (cowns Hf.out hB)
  replace Hq0 := Lib.hid (cowns Hq0.out hB)
  replace Hq := Lib.hid (cowns Hq.out hB)
  clear hB
  go_wp2_with fail
  refine (ccompare_any [2] [2] _ _ _ (COwn.reads Hc.out) (COwn.reads Hq.out) (by decide) (by decide)).mono ?_
  rintro e w18 ⟨rfl, hB⟩
  rw [show cmpC [2] [2] = 0 by decide +kernel]
  replace HW := Lib.hid (HW.out.below hB)
  replace HA : Hid (Stp (fun i => i < w.heap.size) w _) := HA.out.trans (.below hB)
  replace Hb := Lib.hid (cowns Hb.out hB)
  replace Hc := Lib.hid (cowns Hc.out hB)
  replace Hh := Lib.hid (cowns Hh.out hB)
  replace H1 := Lib.hid (cowns H1.out hB)
  replace Hk := Lib.hid (cowns Hk.out hB)
  replace Hf := Lib.hid (cowns Hf.out hB)
  replace Hq0 := Lib.hid (cowns Hq0.out hB)
  replace Hq := Lib.hid (cowns Hq.out hB)
  clear hB
  go_wp2_with fail
  refine (ccompare_any [2] [2] _ _ _ (COwn.reads Hh.out) (COwn.reads Hq.out) (by decide) (by decide)).mono ?_
  rintro e w19 ⟨rfl, hB⟩
  rw [show cmpC [2] [2] = 0 by decide +kernel]
  replace HW := Lib.hid (HW.out.below hB)
  replace HA : Hid (Stp (fun i => i < w.heap.size) w _) := HA.out.trans (.below hB)
  replace Hb := Lib.hid (cowns Hb.out hB)
  replace Hc := Lib.hid (cowns Hc.out hB)
  replace Hh := Lib.hid (cowns Hh.out hB)
  replace H1 := Lib.hid (cowns H1.out hB)
  replace Hk := Lib.hid (cowns Hk.out hB)
  replace Hf := Lib.hid (cowns Hf.out hB)
  replace Hq0 := Lib.hid (cowns Hq0.out hB)
  replace Hq := Lib.hid (cowns Hq.out hB)
  clear hB
  go_wp2_with fail
  refine (wr_over HW.out 1).mono ?_
  rintro e w20 ⟨rfl, hB⟩
  rw [show overV ([(1, ([0], []))] : AB) 1 = true by decide +kernel]
  replace HW := Lib.hid (HW.out.below hB)
  replace HA : Hid (Stp (fun i => i < w.heap.size) w _) := HA.out.trans (.below hB)
  replace Hb := Lib.hid (cowns Hb.out hB)
  replace Hc := Lib.hid (cowns Hc.out hB)
  replace Hh := Lib.hid (cowns Hh.out hB)
  replace H1 := Lib.hid (cowns H1.out hB)
  replace Hk := Lib.hid (cowns Hk.out hB)
  replace Hf := Lib.hid (cowns Hf.out hB)
  replace Hq0 := Lib.hid (cowns Hq0.out hB)
  replace Hq := Lib.hid (cowns Hq.out hB)
  clear hB
  go_wp2_with fail
  go_ret
  exact ⟨rfl, HA.out.all (fun i hi => hi) (Nat.le_refl _)⟩
end Go.Proofs.Ytenebamecmblaaa
