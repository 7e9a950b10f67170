/- EvalParts: what else is plain of it. -/
import Derived.Test.YtihadknnmkblcaaEvP3
import Derived.Test.YtihadknnmkblcaaEv17
namespace Go.Proofs.Ytihadknnmkblcaa
open Go.RowKit

theorem firstE_or : ∀ l : List Int, firstE l = 0 ∨ firstE l ∈ l
  | [] => .inl rfl
  | e :: l => by
    unfold firstE
    by_cases h : e = 0
    · rw [if_pos h]
      rcases firstE_or l with h1 | h1
      · exact .inl h1
      · exact .inr (List.mem_cons_of_mem _ h1)
    · rw [if_neg h]; exact .inr List.mem_cons_self
theorem opE_lt (p : List Fnc) (f : Fnc) (o : Opr) : opE p f o < 134 := by
  unfold opE
  repeat' split
  all_goals omega
theorem funE_lt (p : List Fnc) (f : Fnc) : funE p f < 134 := by
  unfold funE
  split
  · omega
  split
  · rcases firstE_or (f.ops.map (opE p f)) with h | h
    · omega
    · obtain ⟨o, _, he⟩ := List.mem_map.1 h
      rw [← he]; exact opE_lt p f o
  split <;> omega
theorem progE_lt (p : List Fnc) : progE p < 134 := by
  unfold progE
  split
  · omega
  split
  · omega
  rcases firstE_or (p.map (funE p)) with h | h
  · omega
  · obtain ⟨o, _, he⟩ := List.mem_map.1 h
    rw [← he]; exact funE_lt p o
theorem rootE_lt (p : List Fnc) (n : Nat) (fuel : Int) : rootE p n fuel < 134 := by
  unfold rootE inputE
  have := progE_lt p
  repeat' split
  all_goals omega
/-- The longest path of the first ones. -/
def dmx (L : List Dn) (k : Nat) : Nat := (L.take k).foldl (fun a d => max a d.t.p.size) 0
theorem dmx_succ {L : List Dn} {k : Nat} (h : k < L.length) : dmx L (k + 1) = max (dmx L k) L[k].t.p.size := by
  unfold dmx
  rw [List.take_succ_eq_append_getElem h, List.foldl_append]
  rfl
theorem foldl_max (L : List Dn) : ∀ a : Nat, a ≤ L.foldl (fun a d => max a d.t.p.size) a ∧ ∀ d ∈ L, d.t.p.size ≤ L.foldl (fun a d => max a d.t.p.size) a := by
  induction L with
  | nil => exact fun a => ⟨Nat.le_refl _, fun d hd => by cases hd⟩
  | cons d L ih =>
    intro a
    obtain ⟨h1, h2⟩ := ih (max a d.t.p.size)
    refine ⟨Nat.le_trans (Nat.le_max_left _ _) h1, fun e he => ?_⟩
    rcases List.mem_cons.1 he with rfl | he
    · exact Nat.le_trans (Nat.le_max_right _ _) h1
    · exact h2 e he
theorem dmx_all {L : List Dn} {n : Nat} (h : dmx L L.length < n) : ∀ d ∈ L, d.t.p.size < n := fun d hd => by
  unfold dmx at h
  rw [List.take_length] at h
  exact Nat.lt_of_le_of_lt ((foldl_max L 0).2 d hd) h
theorem dmx_le {L : List Dn} (hm : ∀ d ∈ L, d.t.p.size ≤ 100) : ∀ k, k ≤ L.length → dmx L k ≤ 100
  | 0, _ => by unfold dmx; simp
  | k + 1, h => by
    rw [dmx_succ (by omega)]
    exact Nat.max_le.2 ⟨dmx_le hm k (by omega), hm _ (List.getElem_mem _)⟩
/-- The tree of a program that can be run. -/
theorem tree_parts {p : List Fnc} {l : List Int} {fuel : Int} (h : rootE p l.length fuel = 0) :
    0 < (doP p (fuel.toNat + 1) (rootT l fuel)).2.length ∧ ((doP p (fuel.toNat + 1) (rootT l fuel)).2.length : Int) ≤ fuel + 1 ∧ (∀ d ∈ (doP p (fuel.toNat + 1) (rootT l fuel)).2, TkOk p d.t) ∧ (∀ h0 : 0 < (doP p (fuel.toNat + 1) (rootT l fuel)).2.length, (doP p (fuel.toNat + 1) (rootT l fuel)).2[0].r = evalR p l fuel) ∧
    (∀ (k : Nat) (h1 : k < (doP p (fuel.toNat + 1) (rootT l fuel)).2.length) (h2 : k + 1 < (doP p (fuel.toNat + 1) (rootT l fuel)).2.length), cmpS (doP p (fuel.toNat + 1) (rootT l fuel)).2[k].t.p (doP p (fuel.toNat + 1) (rootT l fuel)).2[k + 1].t.p = -1) := by
  obtain ⟨hp, ht⟩ := rootT_ok h
  have hf0 : (0 : Int) ≤ fuel := ht.u0
  have hf : (rootT l fuel).fuel < (fuel.toNat + 1 : Nat) := by show fuel < _; omega
  have h1 : ((doP p (fuel.toNat + 1) (rootT l fuel)).2.length : Int) ≤ fuel + 1 := doP_ok hp _ _ ht hf
  obtain ⟨k, L, e⟩ := doP_head p fuel.toNat (rootT l fuel)
  refine ⟨by rw [e]; simp, h1, doP_tk hp _ _ ht hf, fun h0 => ?_, fun k h1 h2 => ?_⟩
  · unfold evalR
    rw [if_pos h]
    simp only [e, List.getElem_cons_zero]
  · have h3 := List.pairwise_iff_getElem.1 (tree_ord hp _ _ ht hf) k (k + 1) h1 h2 (by omega)
    rw [cmpS_eq]
    exact h3
theorem ba_eq13 {a b : ByteArray} (h : a.data.toList = b.data.toList) : a = b := by
  cases a; cases b
  congr 1
  exact Array.ext' h
theorem app_path {a b c : ByteArray} (h : pl a = pl b ++ pl c) : a = b ++ c := by
  refine ba_eq13 ?_
  unfold pl at h
  rw [h]
  simp
end Go.Proofs.Ytihadknnmkblcaa
