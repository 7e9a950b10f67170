/- Chapter 13: the known program of the statements, what it comes to; contract: Sums. -/
import Derived.Test.YtihadknnmkblcaaEv17
import Derived.Test.YtihadknnmkblcaaEv22
namespace Go.Proofs.Ytihadknnmkblcaa
open Go.RowKit Go.Sort Go.Lib

def sumOps : List Opr := [⟨11, 0, 0, 0, 2⟩, ⟨14, 0, 0, 0, 0⟩, ⟨1, 1, 0, 0, 1⟩, ⟨4, 2, 0, 1, 0⟩, ⟨12, 3, 2, 0, 0⟩, ⟨13, 0, 0, 0, 0⟩, ⟨3, 0, 0, 3, 0⟩, ⟨14, 0, 0, 0, 0⟩]
def sumP (oa : Option Addr) (oc : Nat) : List Fnc := [⟨1, 4, sumOps, oa, oc⟩]
set_option maxRecDepth 100000 in
theorem sum_root (oa : Option Addr) (oc : Nat) : rootE (sumP oa oc) 1 2000 = 0 ∧ rootE (sumP oa oc) 1 9 = 0 ∧ rootE (sumP oa oc) 1 7 = 0 ∧ rootE (sumP oa oc) 0 7 = 114 ∧ rootE (sumP oa oc) 1 (-1) = 2 := by
  refine ⟨?_, ?_, ?_, ?_, ?_⟩ <;> rfl
set_option maxRecDepth 100000 in
theorem sum_do (oa : Option Addr) (oc : Nat) : (doP (sumP oa oc) 2001 (rootT [4] 2000)).1 = ⟨10, 0⟩ := by kernel_rfl
set_option maxRecDepth 100000 in
theorem sum_do9 (oa : Option Addr) (oc : Nat) : (doP (sumP oa oc) 10 (rootT [4] 9)).1.e = 130 := by kernel_rfl
set_option maxRecDepth 100000 in
theorem sum_len (oa : Option Addr) (oc : Nat) : (doP (sumP oa oc) 2001 (rootT [4] 2000)).2.length = 5 := by kernel_rfl
set_option maxRecDepth 100000 in
theorem sum_path (oa : Option Addr) (oc : Nat) : ((doP (sumP oa oc) 2001 (rootT [4] 2000)).2.map (·.t.p))[1]? = some ⟨#[1]⟩ := by kernel_rfl
set_option maxRecDepth 100000 in
theorem sum_kids (oa : Option Addr) (oc : Nat) : ((doP (sumP oa oc) 2001 (rootT [4] 2000)).2.map (·.kids))[0]? = some 1 := by kernel_rfl

theorem box_readsK {α : Type} {enc : α → List Value} {k : Nat} (hk : ∀ x, (enc x).length = k) (h0 : 0 < k) {w : World} {b : Nat} {E : TypeId} {l : List α} (h : BoxAt w b (l.flatMap enc).toArray E) (cap : Nat) : ReadsK enc k w (.slice (some ⟨b, 0, none⟩) l.length cap) l := by
  refine .inr ⟨b, 0, cap, rfl, (Array.getElem?_eq_some_iff.1 h).1, fun i hi t u hu => ?_⟩
  have ht' : t < k := by have := (List.getElem?_eq_some_iff.1 hu).1; rwa [hk] at this
  have hlt : i * k + t < l.length * k := by
    have : (i + 1) * k ≤ l.length * k := Nat.mul_le_mul_right k hi
    rw [Nat.succ_mul] at this; omega
  have h2 := flat_get hk h0 l (i * k + t) hlt
  have e1 : (i * k + t) / k = i := by rw [Nat.mul_comm, Nat.mul_add_div h0, Nat.div_eq_of_lt ht', Nat.add_zero]
  have e2 : (i * k + t) % k = t := by rw [Nat.mul_comm, Nat.mul_add_mod, Nat.mod_eq_of_lt ht']
  have h3 : (l.flatMap enc)[i * k + t]? = some u := by
    rw [List.getElem?_eq_getElem (by rw [flat_len hk]; exact hlt), h2]
    simp only [e1, e2]
    obtain ⟨_, h4⟩ := List.getElem?_eq_some_iff.1 hu
    rw [h4]
  unfold BoxAt at h
  simp [World.cell?, h, h3]
theorem sums_end {wz : World} {tmps : Array Value} {b : Nat} {v : Value} {R : Ending → World → Prop}
    (hb : BoxAt wz b #[v] 24) (h2 : tmps.getD 0 undef = .pointer (some ⟨b, 0, none⟩)) (hR : R (.returned (.agg #[v])) wz) :
    bodyPost Try.prog Try.f21 R Exit.ret { tmps := tmps, defers := [] } wz := by
  have c0 := hb.cell 0
  simp only [List.getElem?_toArray, List.getElem?_cons_zero] at c0
  refine bodyPost_ret (v := .agg #[v]) ?_ rfl hR
  have h2' : tmps[0]?.getD undef = .pointer (some ⟨b, 0, none⟩) := by simpa using h2
  simp [results, Try.results21, go_sem, h2', c0]
def SumsP (w : World) (e : Ending) (w' : World) : Prop := ∃ v oa, e = .returned (.agg #[v]) ∧ Below w.heap.size w w' ∧ ProgAt w' v (sumP oa 8)
set_option maxHeartbeats 1600000 in
set_option maxRecDepth 100000 in
theorem sums_any (w : World) : Calls Try.prog 21 #[] w (SumsP w) := by
  have H : ∀ w1 w2 w3 : World, w1 = w.alloc (.cells #[.slice (some ⟨w.heap.size + 1 + 1, 0, none⟩) 1 1] 24) → w2 = w1.alloc (.cells (sumOps.flatMap encO).toArray OpT) → w3 = w2.alloc (.cells #[.int .i64 1, .int .i64 4, .slice (some ⟨w.heap.size + 1, 0, none⟩) 8 8] FnT) →
      Below w.heap.size w w3 ∧ BoxAt w3 w.heap.size #[.slice (some ⟨w.heap.size + 1 + 1, 0, none⟩) 1 1] 24 ∧ ProgAt w3 (.slice (some ⟨w.heap.size + 1 + 1, 0, none⟩) 1 1) (sumP (some ⟨w.heap.size + 1, 0, none⟩) 8) := by
    intro w1 w2 w3 h1 h2 h3
    have s1 : w1.heap.size = w.heap.size + 1 := by rw [h1]; simp
    have s2 : w2.heap.size = w.heap.size + 1 + 1 := by rw [h2]; simp [s1]
    have B1 : Below w.heap.size w w1 := by rw [h1]; exact (Below.refl _ _).alloc (Nat.le_refl _) _
    have B2 : Below w1.heap.size w1 w2 := by rw [h2]; exact (Below.refl _ _).alloc (Nat.le_refl _) _
    have B3 : Below w2.heap.size w2 w3 := by rw [h3]; exact (Below.refl _ _).alloc (Nat.le_refl _) _
    have x1 : BoxAt w1 w.heap.size #[.slice (some ⟨w.heap.size + 1 + 1, 0, none⟩) 1 1] 24 := by rw [h1]; exact heap_alloc_new _ _
    have x2 : BoxAt w2 (w.heap.size + 1) (sumOps.flatMap encO).toArray OpT := by rw [h2, ← s1]; exact heap_alloc_new _ _
    have x3 : BoxAt w3 (w.heap.size + 1 + 1) #[.int .i64 1, .int .i64 4, .slice (some ⟨w.heap.size + 1, 0, none⟩) 8 8] FnT := by rw [h3, ← s2]; exact heap_alloc_new _ _
    refine ⟨gthen (gthen B1 B2) B3, (x1.below B2).below B3, ⟨box_readsK (enc := encF) (k := 3) (l := sumP (some ⟨w.heap.size + 1, 0, none⟩) 8) (fun _ => rfl) (by decide) x3 1, ?_, by simp [sumP]⟩⟩
    intro f hf
    simp only [sumP, List.mem_singleton] at hf
    subst hf
    exact ⟨box_readsK (enc := encO) (k := 5) (l := sumOps) (fun _ => rfl) (by decide) (x2.below B3) 8, (by decide : (8 : Nat) ≤ 1000)⟩
  obtain ⟨g1, g2, g3⟩ := H _ _ _ rfl rfl rfl
  go_enter Try.func21, Try.ntmps21
  go_wp2_with fail
  exact sums_end g2 rfl ⟨_, _, rfl, g1, g3⟩
end Go.Proofs.Ytihadknnmkblcaa
