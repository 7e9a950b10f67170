/- Contracts: thresherlaw10.Heavy, thresherlaw13.Heavy. -/
import Derived.Test.YtdhbjejejeljoaaEv8
namespace Go.Proofs.Ytdhbjejejeljoaa
open Go.RowKit Go.Sort Go.Lib

/-- A program that came in. -/
structure ProgIn (w : World) (v : Value) (p : List Fnc) : Prop where
  fns : ReadsK encF 3 w v p
  ops : ∀ f ∈ p, ReadsK encO 5 w (.slice f.oa f.ops.length f.oc) f.ops
  len : p.length ≤ maxLen
theorem ProgIn.below {w w' : World} {v : Value} {p : List Fnc} (h : ProgIn w v p) (hB : Below w.heap.size w w') : ProgIn w' v p := ⟨h.fns.below hB, fun f hf => (h.ops f hf).below hB, h.len⟩
def heavyP (p : List Fnc) : Bool := decide (60 < p.length) || p.any fun f => decide (200 < f.ops.length)
theorem heavyP_no {p : List Fnc} (h : heavyP p = false) : p.length ≤ 60 ∧ ∀ f ∈ p, f.ops.length ≤ 200 := by
  unfold heavyP at h
  simp only [Bool.or_eq_false_iff, decide_eq_false_iff_not, List.any_eq_false, decide_eq_true_eq] at h
  exact ⟨by omega, fun f hf => by have := h.2 f hf; omega⟩
theorem ProgIn.at {w : World} {v : Value} {p : List Fnc} (h : ProgIn w v p) (hh : heavyP p = false) : ProgAt w v p := by
  obtain ⟨h1, h2⟩ := heavyP_no hh
  exact ⟨h.fns, fun f hf => ⟨h.ops f hf, by have := h2 f hf; omega⟩, by omega⟩
set_option maxHeartbeats 1600000 in
set_option maxRecDepth 100000 in
theorem heavy_any (v : Value) (p : List Fnc) (w : World) (hv : ProgIn w v p) :
    Calls Try.prog 22 #[.agg #[v]] w fun e w' => e = .returned (.bool (heavyP p)) ∧ Below w.heap.size w w' := by
  obtain ⟨a, cap, rfl⟩ := hv.fns.slice
  have hA : Below w.heap.size w (w.alloc (.cells #[.slice a p.length cap] 24)) := (Below.refl _ _).alloc (Nat.le_refl _) _
  have hb : BoxAt (w.alloc (.cells #[.slice a p.length cap] 24)) w.heap.size #[.slice a p.length cap] 24 := heap_alloc_new _ _
  have HV := Lib.hid (hv.below hA)
  have HA := Lib.hid hA
  have c0 := hb.cell 0
  simp only [List.getElem?_toArray, List.getElem?_cons_zero] at c0
  clear hv hA hb
  go_enter Try.func22, Try.ntmps22
  go_upto_region 1 with fail
  generalize w.alloc (.cells #[.slice a p.length cap] 24) = w1 at *
  by_cases h60 : 60 < p.length
  · have h1 : (60 : Int) < p.length := by omega
    have HE := Lib.hid (show heavyP p = true by unfold heavyP; simp [h60])
    go_wp2_with fail
    go_ret
    exact ⟨ret_bool HE.out.symm, HA.out⟩
  have h1 : ¬ (60 : Int) < p.length := by omega
  have h1d : decide ((60 : Int) < p.length) = false := by simpa using h1
  have hp60 : p.length ≤ 60 := by omega
  have H60 := Lib.hid h60
  clear h60
  go_wp2_with fail
  go_loopg [3] p.length (fun gk i wr => ∃ k : Nat, gk + k = p.length ∧ i = .int .i64 k ∧ Hid (wr = w1 ∧ ∀ j, (hj : j < p.length) → j < k → p[j].ops.length ≤ 200))
  case atStart => exact ⟨0, by omega, rfl, rfl, fun j _ hj => absurd hj (by omega)⟩
  case round =>
    obtain ⟨k, hk, rfl, HB⟩ := hrel
    obtain rfl := HB.out.1
    by_cases hlt : k < p.length
    · obtain ⟨b, off, c, he, hb, hc⟩ := HV.out.fns.at (by omega)
      injection he with he1 he2 he3
      subst he1
      obtain ⟨f0, f1, f2⟩ := fn_at hc hlt
      have HK := Lib.hid (show ∀ j, (hj : j < p.length) → j < k → p[j].ops.length ≤ 200 from HB.out.2)
      have HM := Lib.hid (List.getElem_mem hlt)
      have HJ := Lib.hid (show ∀ j, (hj : j < p.length) → j < k + 1 → p[k].ops.length ≤ 200 → p[j].ops.length ≤ 200 from fun j hj hjk h => by
        by_cases e : j = k
        · subst e; exact h
        · exact HB.out.2 j hj (by omega))
      have q1 : (k : Int) < p.length := by omega
      have q0 : (0 : Int) ≤ k := by omega
      clear hc hb he2 he3 f0 f1 HB
      generalize p[k] = f at *
      by_cases h200 : 200 < f.ops.length
      · have h2 : (200 : Int) < f.ops.length := by omega
        have HE := Lib.hid (show heavyP p = true by
          unfold heavyP
          rw [Bool.or_eq_true]
          exact .inr (List.any_eq_true.2 ⟨f, HM.out, by simpa using h200⟩))
        go_wp2_with fail
        go_ret
        exact ⟨ret_bool HE.out.symm, HA.out⟩
      · have h2 : ¬ (200 : Int) < f.ops.length := by omega
        have h2d : decide ((200 : Int) < f.ops.length) = false := by simpa using h2
        have HL := Lib.hid (show f.ops.length ≤ 200 by omega)
        clear h200
        go_wp2_with fail
        go_roundg (gk - 1)
        case rel => exact ⟨k + 1, by omega, by go_num, rfl, fun j hj hjk => HJ.out j hj hjk HL.out⟩
        case measure => omega
    · have HE := Lib.hid (show heavyP p = false by
        unfold heavyP
        rw [Bool.or_eq_false_iff]
        refine ⟨by simp; omega, List.any_eq_false.2 fun f hf => ?_⟩
        obtain ⟨j, hj, rfl⟩ := List.getElem_of_mem hf
        have := HB.out.2 j hj (by omega)
        simpa using this)
      clear HB
      go_wp2_with fail
      go_ret
      exact ⟨ret_bool HE.out.symm, HA.out⟩
/-- More than a statement runs. -/
def heavy13 (p : List Fnc) (n : Nat) (fuel : Int) : Bool := heavyP p || decide (100 < n) || decide (3000 < fuel)
set_option maxHeartbeats 1600000 in
set_option maxRecDepth 100000 in
theorem heavy13_any (v : Value) (p : List Fnc) (a : Option Addr) (n cap : Nat) (fuel : Int) (w : World) (hv : ProgIn w v p) :
    Calls Try.prog 6 #[.agg #[v], .slice a n cap, .int .i64 fuel] w fun e w' => e = .returned (.bool (heavy13 p n fuel)) ∧ Below w.heap.size w w' := by
  obtain ⟨pa, pcap, rfl⟩ := hv.fns.slice
  have hA : Below w.heap.size w (w.alloc (.cells #[.slice pa p.length pcap] 24)) := (Below.refl _ _).alloc (Nat.le_refl _) _
  have HV := Lib.hid (hv.below hA)
  have HA := Lib.hid hA
  clear hv hA
  go_enter Try.func6, Try.ntmps6
  go_wp2_with fail
  refine (heavy_any _ p _ HV.out).mono ?_
  rintro e w2 ⟨rfl, hB⟩
  have HB := Lib.hid (HA.out.trans (hB.mono HA.out.size))
  obtain ⟨hh, hhe⟩ : ∃ h, heavyP p = h := ⟨_, rfl⟩
  rw [hhe]
  have HH := Lib.hid hhe
  clear hB hhe HA HV
  cases hh
  · by_cases h1 : 100 < n
    · have h1i : (100 : Int) < n := by omega
      have HE := Lib.hid (show heavy13 p n fuel = true by unfold heavy13; rw [HH.out]; simp [h1])
      go_wp2_with fail
      go_ret
      exact ⟨ret_bool HE.out.symm, HB.out⟩
    · have h1i : ¬ (100 : Int) < n := by omega
      have h1d : decide ((100 : Int) < n) = false := by simpa using h1i
      have HE := Lib.hid (show heavy13 p n fuel = decide (3000 < fuel) by unfold heavy13; rw [HH.out]; simp [h1])
      clear h1
      go_wp2_with fail
      go_ret
      exact ⟨ret_bool HE.out.symm, HB.out⟩
  · have HE := Lib.hid (show heavy13 p n fuel = true by unfold heavy13; rw [HH.out]; simp)
    go_wp2_with fail
    go_ret
    exact ⟨ret_bool HE.out.symm, HB.out⟩
theorem heavy13_no {p : List Fnc} {n : Nat} {fuel : Int} (h : heavy13 p n fuel = false) : heavyP p = false ∧ n ≤ 100 ∧ fuel ≤ 3000 := by
  unfold heavy13 at h
  simp only [Bool.or_eq_false_iff, decide_eq_false_iff_not] at h
  exact ⟨h.1.1, by omega, by omega⟩
end Go.Proofs.Ytdhbjejejeljoaa
