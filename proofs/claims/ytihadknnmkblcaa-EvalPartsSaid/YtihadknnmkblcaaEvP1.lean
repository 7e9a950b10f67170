/- A tree's tasks are in order; what is under a task is its own tree. -/
import Derived.Test.YtihadknnmkblcaaEvP0
import Derived.Test.YtihadknnmkblcaaPlain12
namespace Go.Proofs.Ytihadknnmkblcaa
open Go.RowKit

/-- A path's numbers. -/
def pl (s : ByteArray) : List UInt8 := s.data.toList
theorem pl_len (s : ByteArray) : (pl s).length = s.size := by simp [pl]
theorem pl_kid {a : ByteArray} {n : Int} (h : kidB a n = true) : pl (kidS a n) = pl a ++ [UInt8.ofNat n.toNat] := by
  unfold pl kidS; rw [if_pos h]; simp
theorem kidB_parts {a : ByteArray} {n : Int} (h : kidB a n = true) : mayS a = true ∧ 1 ≤ n ∧ n ≤ 16 ∧ a.size < 12 := by
  unfold kidB at h; simp at h
  have := mayS_le h.1.1.1
  refine ⟨h.1.1.1, h.1.1.2, h.1.2, ?_⟩
  have := h.2; omega
theorem kidB_may {a : ByteArray} {n : Int} (h : kidB a n = true) : mayS (kidS a n) = true := by
  obtain ⟨h1, h2, h3, h4⟩ := kidB_parts h
  unfold mayS at *
  have e := pl_kid h
  unfold pl at e
  rw [e]
  unfold mayL at *
  simp only [Bool.and_eq_true, decide_eq_true_eq, Bool.not_eq_true', List.any_eq_false, List.length_append, List.length_cons, List.length_nil] at *
  have hl : a.data.toList.length = a.size := by simp
  refine ⟨by omega, fun x hx => ?_⟩
  rw [List.mem_append] at hx
  rcases hx with hx | hx
  · exact h1.2 x hx
  · rw [List.mem_singleton] at hx; subst hx
    unfold odd8 oddB
    have e2 : (((UInt8.ofNat n.toNat).toNat : Nat) : Int) = n := by simp; omega
    rw [e2]; simp; omega
theorem cmpL_pre : ∀ (a b : List UInt8), b ≠ [] → cmpL a (a ++ b) = -1
  | [], [], h => absurd rfl h
  | [], _ :: _, _ => by simp [cmpL]
  | a :: x, b, h => by simp [cmpL, cmpL_pre x b h, u8_irrefl]
theorem cmpL_app : ∀ (a x y : List UInt8), cmpL (a ++ x) (a ++ y) = cmpL x y
  | [], _, _ => rfl
  | a :: l, x, y => by simp [cmpL, cmpL_app l x y, u8_irrefl]
theorem cmpL_fork {P x y : List UInt8} {a b : UInt8} (h : a < b) : cmpL (P ++ [a] ++ x) (P ++ [b] ++ y) = -1 := by
  rw [List.append_assoc, List.append_assoc, cmpL_app]
  simp [cmpL, h]
theorem byte_lt {i j : Nat} (h : i < j) (hj : j < 17) : UInt8.ofNat i < UInt8.ofNat j := by
  rw [UInt8.lt_iff_toNat_lt]
  simp; omega
/-- A tree below a path. -/
def Below13 (t : Tk) (L : List Dn) : Prop := ∀ d ∈ L, pl t.p <+: pl d.t.p
def Ord13 (L : List Dn) : Prop := L.Pairwise fun a b => cmpL (pl a.t.p) (pl b.t.p) = -1
theorem flat_split {α : Type} : ∀ (Cs : List (List α)) (A B : List α) (d : α), Cs.flatten = A ++ d :: B → ∃ (i : Nat) (hi : i < Cs.length) (A' B' : List α), Cs[i] = A' ++ d :: B' ∧ B = B' ++ (Cs.drop (i + 1)).flatten
  | [], A, B, d, h => by simp at h
  | c :: Cs, A, B, d, h => by
    rw [List.flatten_cons] at h
    by_cases hl : A.length < c.length
    · have h1 : A ++ d :: B = c ++ Cs.flatten := h.symm
      have h2 : c = A ++ (c.drop A.length) := by
        have := congrArg (List.take A.length) h1
        rw [List.take_left', List.take_append_of_le_length (by omega)] at this
        · conv => lhs; rw [← List.take_append_drop A.length c]
          rw [← this]
        · rfl
      obtain ⟨x, B', hx⟩ : ∃ x B', c.drop A.length = x :: B' := by
        cases hc : c.drop A.length with
        | nil => have := congrArg List.length hc; simp at this; omega
        | cons x B' => exact ⟨x, B', rfl⟩
      rw [hx] at h2
      rw [h2, List.append_assoc, List.cons_append] at h1
      have h3 := List.append_cancel_left h1
      injection h3 with h4 h5
      subst h4
      exact ⟨0, by simp, A, B', h2, by simpa using h5⟩
    · have h1 : c ++ Cs.flatten = A ++ d :: B := h
      have h2 : A = c ++ A.drop c.length := by
        have := congrArg (List.take c.length) h1
        rw [List.take_left', List.take_append_of_le_length (by omega)] at this
        · conv => lhs; rw [← List.take_append_drop c.length A]
          rw [← this]
        · rfl
      rw [h2, List.append_assoc] at h1
      have h3 := List.append_cancel_left h1
      obtain ⟨i, hi, A', B', h4, h5⟩ := flat_split Cs _ B d h3
      exact ⟨i + 1, by simp; omega, A', B', by simpa using h4, by simpa using h5⟩
theorem tree_below {p : List Fnc} (hp : WfP p) : ∀ (n : Nat) (t : Tk), TkOk p t → t.fuel < n → Below13 t (doP p n t).2
  | 0, t, ht, hf => by have := ht.u0; omega
  | n + 1, t, ht, hf => by
    obtain ⟨k, L, e, ks, _, hL, hk⟩ := doP_kids hp ht hf
    rw [e]
    intro d hd
    rcases List.mem_cons.1 hd with rfl | hd
    · exact List.prefix_refl _
    · rw [hL] at hd
      obtain ⟨l, hl, hd⟩ := List.mem_flatten.1 hd
      obtain ⟨c, hc, rfl⟩ := List.mem_map.1 hl
      obtain ⟨i, hi, rfl⟩ := List.getElem_of_mem hc
      obtain ⟨_, h2, h3, h4, h5⟩ := hk i hi
      have h6 := tree_below hp n _ h4 (by omega) d hd
      rw [h3, pl_kid h2] at h6
      exact List.IsPrefix.trans (List.prefix_append _ _) h6
theorem kids_prefix {p : List Fnc} (hp : WfP p) {n : Nat} {t : Tk} (hf : t.fuel < (n + 1 : Nat)) {ks : List Tk} (hk : ∀ (i : Nat) (h : i < ks.length), i < 16 ∧ kidB t.p (i + 1) = true ∧ ks[i].p = kidS t.p (i + 1) ∧ TkOk p ks[i] ∧ ks[i].fuel < t.fuel) {i : Nat} (hi : i < ks.length) {d : Dn} (hd : d ∈ (doP p n ks[i]).2) :
    ∃ x, pl d.t.p = pl t.p ++ [UInt8.ofNat (i + 1)] ++ x := by
  obtain ⟨_, h2, h3, h4, h5⟩ := hk i hi
  obtain ⟨x, hx⟩ := tree_below hp n _ h4 (by omega) d hd
  rw [h3, pl_kid h2] at hx
  exact ⟨x, by rw [← hx]; rfl⟩
theorem tree_ord {p : List Fnc} (hp : WfP p) : ∀ (n : Nat) (t : Tk), TkOk p t → t.fuel < n → Ord13 (doP p n t).2
  | 0, t, ht, hf => by have := ht.u0; omega
  | n + 1, t, ht, hf => by
    obtain ⟨k, L, e, ks, _, hL, hk⟩ := doP_kids hp ht hf
    rw [e]
    unfold Ord13
    rw [List.pairwise_cons]
    have hmem : ∀ d ∈ L, ∃ (i : Nat) (hi : i < ks.length), d ∈ (doP p n ks[i]).2 := fun d hd => by
      rw [hL] at hd
      obtain ⟨l, hl, hd⟩ := List.mem_flatten.1 hd
      obtain ⟨c, hc, rfl⟩ := List.mem_map.1 hl
      obtain ⟨i, hi, rfl⟩ := List.getElem_of_mem hc
      exact ⟨i, hi, hd⟩
    refine ⟨fun d hd => ?_, ?_⟩
    · obtain ⟨i, hi, hd⟩ := hmem d hd
      obtain ⟨x, hx⟩ := kids_prefix hp hf hk hi hd
      rw [hx, List.append_assoc]
      exact cmpL_pre _ _ (by simp)
    · rw [hL, List.pairwise_flatten]
      refine ⟨fun l hl => ?_, ?_⟩
      · obtain ⟨c, hc, rfl⟩ := List.mem_map.1 hl
        obtain ⟨i, hi, rfl⟩ := List.getElem_of_mem hc
        obtain ⟨_, h2, h3, h4, h5⟩ := hk i hi
        exact tree_ord hp n _ h4 (by omega)
      · rw [List.pairwise_iff_getElem]
        intro i j hi hj hij a ha b hb
        rw [List.getElem_map] at ha hb
        have hi' : i < ks.length := by simpa using hi
        have hj' : j < ks.length := by simpa using hj
        obtain ⟨x, hx⟩ := kids_prefix hp hf hk hi' ha
        obtain ⟨y, hy⟩ := kids_prefix hp hf hk hj' hb
        rw [hx, hy]
        exact cmpL_fork (byte_lt (by omega) (by have := (hk j hj').1; omega))
/-- Of a tree from a task on: its own tree, then what is not under it. -/
theorem tree_sub {p : List Fnc} (hp : WfP p) : ∀ (n : Nat) (t : Tk), TkOk p t → t.fuel < n → ∀ (A B : List Dn) (d : Dn), (doP p n t).2 = A ++ d :: B → ∃ (m : Nat) (R : List Dn), TkOk p d.t ∧ d.t.fuel < m ∧ d :: B = (doP p m d.t).2 ++ R ∧ ∀ e ∈ R, ¬ pl d.t.p <+: pl e.t.p
  | 0, t, ht, hf => by have := ht.u0; omega
  | n + 1, t, ht, hf => by
    intro A B d h
    obtain ⟨k, L, e, ks, hkl, hL, hk⟩ := doP_kids hp ht hf
    cases A with
    | nil =>
      rw [List.nil_append] at h
      have hd : d.t = t := by
        rw [e] at h
        injection h with h1 _
        rw [← h1]
      exact ⟨n + 1, [], by rw [hd]; exact ht, by rw [hd]; exact hf, by rw [hd, h]; simp, by simp⟩
    | cons a A =>
      rw [e, List.cons_append] at h
      injection h with _ h
      rw [hL] at h
      obtain ⟨i, hi, A', B', h4, h5⟩ := flat_split _ A B d h
      have hi' : i < ks.length := by simpa using hi
      rw [List.getElem_map] at h4
      obtain ⟨h6, h7, h8, h9, h10⟩ := hk i hi'
      obtain ⟨m, R, g1, g2, g3, g4⟩ := tree_sub hp n _ h9 (by omega) A' B' d h4
      refine ⟨m, R ++ ((ks.map fun k => (doP p n k).2).drop (i + 1)).flatten, g1, g2, by rw [h5, ← List.append_assoc, ← g3]; rfl, fun x hx => ?_⟩
      rcases List.mem_append.1 hx with hx | hx
      · exact g4 x hx
      · obtain ⟨l, hl, hx⟩ := List.mem_flatten.1 hx
        obtain ⟨j, hj, rfl⟩ := List.getElem_of_mem hl
        rw [List.getElem_drop, List.getElem_map] at hx
        have hj' : i + 1 + j < ks.length := by simp at hj; omega
        obtain ⟨y, hy⟩ := kids_prefix hp hf hk hj' hx
        have hdm : d ∈ (doP p n ks[i]).2 := by rw [h4]; simp
        obtain ⟨z, hz⟩ := kids_prefix hp hf hk hi' hdm
        rw [hy, hz]
        intro hpre
        have h11 : pl t.p ++ [UInt8.ofNat (i + 1)] <+: pl t.p ++ [UInt8.ofNat (i + 1 + j + 1)] ++ y := List.IsPrefix.trans (List.prefix_append _ _) hpre
        rw [List.append_assoc, List.prefix_append_right_inj] at h11
        simp only [List.cons_append, List.nil_append, List.cons_prefix_cons] at h11
        have h12 := congrArg UInt8.toNat h11.1
        have h13 := (hk _ hj').1
        simp at h12
        omega
end Go.Proofs.Ytihadknnmkblcaa
