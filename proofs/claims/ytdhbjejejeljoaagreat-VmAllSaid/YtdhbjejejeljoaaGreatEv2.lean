/- Contracts: slices.IndexFunc, slices.ContainsFunc at []int, code.reg, check.below. (Printed by gen/genev2.py.) -/
import Derived.Test.YtdhbjejejeljoaaGreatEv1
import Derived.Test.YtdhbjejejeljoaaGreatOwnFr
namespace Go.Proofs.YtdhbjejejeljoaaGreat
open Go.RowKit

def idxP {α : Type} (p : α → Bool) (l : List α) : Int := if l.any p then (l.findIdx p : Int) else -1
theorem idxP_none {α : Type} {p : α → Bool} (s : List α) (h : ∀ j, (hj : j < s.length) → p s[j] = false) : idxP p s = -1 := by
  unfold idxP; rw [if_neg]
  rw [Bool.not_eq_true, List.any_eq_false]; intro x hx
  obtain ⟨j, hj, rfl⟩ := List.getElem_of_mem hx
  simp [h j hj]
theorem idxP_hit {α : Type} {p : α → Bool} (s : List α) (k : Nat) (hk : k < s.length) (h : ∀ j, (hj : j < s.length) → j < k → p s[j] = false) (hb : p s[k] = true) : idxP p s = k := by
  unfold idxP
  rw [if_pos (List.any_eq_true.2 ⟨s[k], List.getElem_mem hk, hb⟩), (List.findIdx_eq hk).2 ⟨hb, fun j hj => h j (by omega) hj⟩]
theorem idxP_ge {α : Type} (p : α → Bool) (s : List α) : decide (0 ≤ idxP p s) = s.any p := by
  unfold idxP; cases s.any p <;> simp <;> omega
def encN1 (x : Int) : List Value := [.int .i64 x]
/-- A block known whole reads as what it holds. -/
theorem reads_lit {w : World} {b cap : Nat} {l : List Int} {cur : Array Value} {E : TypeId} {fz : Nat × Nat} (h : w.heap[b]? = some (.cells cur E fz)) (hc : cur.toList = l.map (Value.int .i64)) : ReadsK encN1 1 w (.slice (some ⟨b, 0, none⟩) l.length cap) l := by
  refine .inr ⟨b, 0, cap, rfl, (Array.getElem?_eq_some_iff.1 h).1, fun i hi t u hu => ?_⟩
  have ht : t = 0 := by
    have := (List.getElem?_eq_some_iff.1 hu).1
    simp [encN1] at this; omega
  subst ht
  simp only [encN1, List.getElem?_cons_zero, Option.some.injEq] at hu
  subst hu
  have h1 : cur[i]? = some (.int .i64 l[i]) := by rw [← Array.getElem?_toList, hc]; simp [hi]
  simp [World.cell?, h, h1]

def oddR (x : Int) : Bool := !regP x
set_option maxHeartbeats 400000 in
theorem reg1_any {b : Bool} (x : Int) (w : World) (h : oddR x = b) :
    Calls Tryz.prog 92 #[.int .i64 x] w fun e w' => e = .returned (.bool b) ∧ w = w' := by
  unfold oddR regP at h
  by_cases h1 : x < 0
  · go_enter Tryz.func92, Tryz.ntmps92
    go_wp2
    go_ret
    exact ⟨ret_bool (by rw [← h]; simp; omega), rfl⟩
  · go_enter Tryz.func92, Tryz.ntmps92
    go_wp2
    go_ret
    exact ⟨ret_bool (by rw [← h]; have : 0 ≤ x := by omega
                        simp [this]
                        rw [← decide_not, decide_eq_decide]; omega), rfl⟩

set_option maxHeartbeats 800000 in
theorem idx_reg (v : Value) (l : List Int) (w : World) (hv : ReadsK encN1 1 w v l) (hm : l.length ≤ 9223372036854775807) :
    Calls Tryz.prog 102 #[v, .func (.func 92) #[] #[]] w fun e w' => e = .returned (.int .i64 (idxP (oddR) l)) ∧ w = w' := by
  obtain ⟨a, cap, rfl⟩ := hv.slice
  have HV := Lib.hid hv
  clear hv
  go_enter Tryz.func102, Tryz.ntmps102
  go_wp2
  go_loop [8] (fun i => ∃ k : Nat, k ≤ l.length ∧ i = .int .i64 k ∧ Hid (∀ j, (hj : j < l.length) → j < k → (oddR) l[j] = false)) (fun i => l.length - (intOf i).toNat)
  case atStart => exact ⟨0, Nat.zero_le _, rfl, fun j _ hj => absurd hj (by omega)⟩
  case round =>
    obtain ⟨k, hk, rfl, hn⟩ := hrel
    by_cases hlt : k < l.length
    · obtain ⟨b, off, c, he, hb, hc⟩ := HV.out.at (by omega)
      injection he with he1 he2 he3
      subst he1
      have hcell : w.cell? ⟨b, off + k, none⟩ = some (.int .i64 l[k]) := by have h := hc k hlt 0 _ rfl; simpa using h
      clear hc he2 he3 hb
      cases hp : (oddR) l[k]
      · have HP := Lib.hid hp
        clear hp
        go_wp2_with (go_at_call 92; refine (reg1_any l[k] _ HP.out).mono ?_; rintro e w' ⟨rfl, rfl⟩)
        go_round
        case rel => exact ⟨k + 1, by omega, by go_num, fun j hj hjk => by
          by_cases e : j = k
          · subst e; exact HP.out
          · exact hn j hj (by omega)⟩
        case measure => simp [intOf]; omega
      · have HP := Lib.hid hp
        clear hp
        go_wp2_with (go_at_call 92; refine (reg1_any l[k] _ HP.out).mono ?_; rintro e w' ⟨rfl, rfl⟩)
        go_ret
        exact ⟨ret_int (idxP_hit (p := oddR) l k hlt hn HP.out).symm, rfl⟩
    · have hke : k = l.length := by omega
      go_wp2
      go_ret
      exact ⟨ret_int (idxP_none (p := oddR) l (fun j hj => hn j hj (by omega))).symm, rfl⟩

set_option maxHeartbeats 400000 in
theorem cont_reg (v : Value) (l : List Int) (w : World) (hv : ReadsK encN1 1 w v l) (hm : l.length ≤ 9223372036854775807) :
    Calls Tryz.prog 91 #[v, .func (.func 92) #[] #[]] w fun e w' => e = .returned (.bool (l.any (oddR))) ∧ w = w' := by
  rw [← idxP_ge]
  go_enter Tryz.func91, Tryz.ntmps91
  go_wp2_with (go_at_call 102; refine (idx_reg _ _ _ hv hm).mono ?_; rintro e w' ⟨rfl, rfl⟩)
  go_ret
  exact ⟨rfl, rfl⟩

theorem all_regP (l : List Int) : (!l.any oddR) = l.all regP := by
  induction l with
  | nil => rfl
  | cons x l ih => rw [List.any_cons, List.all_cons, Bool.not_or, ih]; simp [oddR]
set_option maxHeartbeats 400000 in
theorem reg_any (v : Value) (l : List Int) (w : World) (hv : ReadsK encN1 1 w v l) (hm : l.length ≤ 9223372036854775807) :
    Calls Tryz.prog 73 #[v] w fun e w' => e = .returned (.bool (l.all regP)) ∧ w = w' := by
  rw [← all_regP]
  go_enter Tryz.func73, Tryz.ntmps73
  go_wp2_with (go_at_call 91; refine (cont_reg _ _ _ hv hm).mono ?_; rintro e w' ⟨rfl, rfl⟩)
  go_ret
  exact ⟨rfl, rfl⟩

theorem bel1_any {b : Bool} {q : Nat} {r : Int} (x : Int) (w : World) (hq : w.cell? ⟨q, 0, none⟩ = some (.int .i64 r)) (h : decide (r ≤ x) = b) :
    Calls Tryz.prog 96 #[.int .i64 x, .pointer (some ⟨q, 0, none⟩)] w fun e w' => e = .returned (.bool b) ∧ w = w' := by
  go_enter Tryz.func96, Tryz.ntmps96
  go_wp2
  go_ret
  exact ⟨by simp, rfl⟩

set_option maxHeartbeats 800000 in
theorem idx_bel {q : Nat} {r : Int} (v : Value) (l : List Int) (w : World) (hv : ReadsK encN1 1 w v l) (hm : l.length ≤ 9223372036854775807) (hq : w.cell? ⟨q, 0, none⟩ = some (.int .i64 r)) :
    Calls Tryz.prog 102 #[v, .func (.func 96) #[] #[.pointer (some ⟨q, 0, none⟩)]] w fun e w' => e = .returned (.int .i64 (idxP (fun x => decide (r ≤ x)) l)) ∧ w = w' := by
  obtain ⟨a, cap, rfl⟩ := hv.slice
  have HV := Lib.hid hv
  clear hv
  go_enter Tryz.func102, Tryz.ntmps102
  go_wp2
  go_loop [8] (fun i => ∃ k : Nat, k ≤ l.length ∧ i = .int .i64 k ∧ Hid (∀ j, (hj : j < l.length) → j < k → (fun x => decide (r ≤ x)) l[j] = false)) (fun i => l.length - (intOf i).toNat)
  case atStart => exact ⟨0, Nat.zero_le _, rfl, fun j _ hj => absurd hj (by omega)⟩
  case round =>
    obtain ⟨k, hk, rfl, hn⟩ := hrel
    by_cases hlt : k < l.length
    · obtain ⟨b, off, c, he, hb, hc⟩ := HV.out.at (by omega)
      injection he with he1 he2 he3
      subst he1
      have hcell : w.cell? ⟨b, off + k, none⟩ = some (.int .i64 l[k]) := by have h := hc k hlt 0 _ rfl; simpa using h
      clear hc he2 he3 hb
      cases hp : (fun x => decide (r ≤ x)) l[k]
      · have HP := Lib.hid hp
        clear hp
        go_wp2_with (go_at_call 96; refine (bel1_any l[k] _ hq HP.out).mono ?_; rintro e w' ⟨rfl, rfl⟩)
        go_round
        case rel => exact ⟨k + 1, by omega, by go_num, fun j hj hjk => by
          by_cases e : j = k
          · subst e; exact HP.out
          · exact hn j hj (by omega)⟩
        case measure => simp [intOf]; omega
      · have HP := Lib.hid hp
        clear hp
        go_wp2_with (go_at_call 96; refine (bel1_any l[k] _ hq HP.out).mono ?_; rintro e w' ⟨rfl, rfl⟩)
        go_ret
        exact ⟨ret_int (idxP_hit (p := fun x => decide (r ≤ x)) l k hlt hn HP.out).symm, rfl⟩
    · have hke : k = l.length := by omega
      go_wp2
      go_ret
      exact ⟨ret_int (idxP_none (p := fun x => decide (r ≤ x)) l (fun j hj => hn j hj (by omega))).symm, rfl⟩

set_option maxHeartbeats 400000 in
theorem cont_bel {q : Nat} {r : Int} (v : Value) (l : List Int) (w : World) (hv : ReadsK encN1 1 w v l) (hm : l.length ≤ 9223372036854775807) (hq : w.cell? ⟨q, 0, none⟩ = some (.int .i64 r)) :
    Calls Tryz.prog 91 #[v, .func (.func 96) #[] #[.pointer (some ⟨q, 0, none⟩)]] w fun e w' => e = .returned (.bool (l.any (fun x => decide (r ≤ x)))) ∧ w = w' := by
  rw [← idxP_ge]
  go_enter Tryz.func91, Tryz.ntmps91
  go_wp2_with (go_at_call 102; refine (idx_bel _ _ _ hv hm hq).mono ?_; rintro e w' ⟨rfl, rfl⟩)
  go_ret
  exact ⟨rfl, rfl⟩

theorem all_bel (r : Int) (l : List Int) : (!l.any (fun x => decide (r ≤ x))) = l.all (fun x => decide (x < r)) := by
  induction l with
  | nil => rfl
  | cons x l ih =>
    rw [List.any_cons, List.all_cons, Bool.not_or, ih]
    congr 1
    rw [← decide_not, decide_eq_decide]; omega
set_option maxHeartbeats 400000 in
theorem below_any (r : Int) (v : Value) (l : List Int) (w : World) (hv : ReadsK encN1 1 w v l) (hm : l.length ≤ 9223372036854775807) :
    Calls Tryz.prog 78 #[.int .i64 r, v] w fun e w' => e = .returned (.bool (l.all (fun x => decide (x < r)))) ∧ Below w.heap.size w w' := by
  rw [← all_bel]
  have hA : Below w.heap.size w (w.alloc (.cells #[.int .i64 r] 3)) := (Below.refl _ _).alloc (Nat.le_refl _) _
  have hq : (w.alloc (.cells #[.int .i64 r] 3)).cell? ⟨w.heap.size, 0, none⟩ = some (.int .i64 r) := by
    exact World.cell?_alloc_at #[.int .i64 r] 3 _ 0 rfl
  have HV := Lib.hid (hv.below hA)
  have HQ := Lib.hid hq
  have HA := Lib.hid hA
  clear hv hq hA
  go_enter Tryz.func78, Tryz.ntmps78
  go_wp2_with (go_at_call 91; refine (cont_bel _ _ _ HV.out hm HQ.out).mono ?_; rintro e w' ⟨rfl, rfl⟩)
  go_ret
  exact ⟨rfl, HA.out⟩
end Go.Proofs.YtdhbjejejeljoaaGreat
