/- EvalParts, plainly. -/
import Derived.Test.YtihadknnmkblcaaEvP2
import Derived.Test.YtihadknnmkblcaaEv16
namespace Go.Proofs.Ytihadknnmkblcaa
open Go.RowKit

theorem firstE_allz : ∀ {l : List Int}, (∀ e ∈ l, e = 0) → firstE l = 0
  | [], _ => rfl
  | x :: l, h => by
    unfold firstE
    rw [if_pos (h x List.mem_cons_self)]
    exact firstE_allz fun e he => h e (List.mem_cons_of_mem _ he)
theorem formed_sh {o : Opr} (h : formedP o = true) : formedP (shO o) = true := by
  by_cases hk : o.k = 12
  · unfold shO
    rw [if_pos hk]
    unfold formedP at *
    simp only [hk] at *
    simp only [Bool.and_eq_true, Bool.or_eq_true] at h ⊢
    refine ⟨h.1, .inl (by unfold hasN; simp)⟩
  · rw [shO_id hk]; exact h
theorem opE_sh {p q : List Fnc} {fn : Int} {f g : Fnc} {o : Opr} (hb : Bg p q fn) (hs : SimF f g) (h : opE p f o = 0) : opE q g (shO o) = 0 := by
  by_cases hk : o.k = 12
  · unfold opE at h ⊢
    obtain ⟨e1, e2, e3, e4⟩ := shO_k o
    rw [e1, e2, e3, e4, shO_n hk, hs.regs]
    split at h
    · cases h
    rename_i g1
    rw [if_neg g1, if_neg (by simp [hk]), if_neg (by simp [hk])]
    rw [if_neg (by simp [hk]), if_neg (by simp [hk])] at h
    split at h
    · cases h
    rename_i g2
    simp only [Bool.or_eq_true, decide_eq_true_eq, not_or, Int.not_lt, Int.not_le] at g2
    rw [(hb.rest o.n g2.1 g2.2).args]
    rw [if_neg (by simp [hb.len]; omega)]
    exact h
  · rw [shO_id hk]
    unfold opE at h ⊢
    rw [hs.regs, hs.ops, List.length_map]
    split at h
    · cases h
    rename_i g1
    split at h
    · cases h
    rename_i g2
    rw [if_neg g1, if_neg g2, if_pos hk]
theorem funE_sh {p q : List Fnc} {fn : Int} {f g : Fnc} (hb : Bg p q fn) (hs : SimF f g) (h : funE p f = 0) : funE q g = 0 := by
  unfold funE at h ⊢
  rw [hs.args, hs.regs]
  split at h
  · cases h
  rename_i g1
  rw [if_neg g1]
  split at h
  · rename_i g2; exact absurd h g2
  rename_i g2
  have h2 : firstE (g.ops.map (opE q g)) = 0 := firstE_allz fun e he => by
    obtain ⟨o', ho', rfl⟩ := List.mem_map.1 he
    rw [hs.ops] at ho'
    obtain ⟨o, ho, rfl⟩ := List.mem_map.1 ho'
    exact opE_sh hb hs (firstE_zero (by simpa using g2) _ (List.mem_map.2 ⟨o, ho, rfl⟩))
  rw [if_neg (fun hh => hh h2)]
  have h3 : endsP g = endsP f := by
    unfold endsP
    rw [hs.ops, List.getLast?_map]
    cases f.ops.getLast? with
    | none => rfl
    | some o => simp [(shO_k o).1]
  rw [h3]; exact h
theorem Bg.of {p q : List Fnc} {fn : Int} (hb : Bg p q fn) : ∀ g ∈ q, ∃ f ∈ p, SimF f g := by
  intro g hg
  obtain ⟨i, hi, rfl⟩ := List.getElem_of_mem hg
  have hqi : fnAt q (i : Int) = q[i] := by
    unfold fnAt
    rw [Int.toNat_natCast, List.getD_eq_getElem?_getD, List.getElem?_eq_getElem hi]; rfl
  have hpm : ∀ j : Int, 0 ≤ j → j < p.length → fnAt p j ∈ p := fun j h0 h1 => by
    obtain ⟨h2, h3⟩ := fnAt_get h0 h1
    rw [h3]; exact List.getElem_mem h2
  cases i with
  | zero =>
    have := hb.head
    exact ⟨fnAt p fn, hpm _ hb.fn0 hb.fn1, by have h1 := hb.head; rw [show (0 : Int) = ((0 : Nat) : Int) from rfl, hqi] at h1; exact h1⟩
  | succ j =>
    have hj : (j : Int) < p.length := by have := hb.len; omega
    exact ⟨fnAt p j, hpm _ (by omega) hj, by have h1 := hb.rest j (by omega) hj; rw [show (j : Int) + 1 = ((j + 1 : Nat) : Int) from rfl, hqi] at h1; exact h1⟩
theorem prog_sh {p q : List Fnc} {fn : Int} (hb : Bg p q fn) (h : progE p = 0) (hl : p.length < 16) : progE q = 0 := by
  unfold progE at h ⊢
  split at h
  · cases h
  rename_i g1
  split at h
  · cases h
  rename_i g2
  have hm : mayP p = true := by simpa using g1
  unfold mayP at hm
  simp only [Bool.and_eq_true, decide_eq_true_eq, List.all_eq_true] at hm
  have hq : mayP q = true := by
    unfold mayP
    simp only [Bool.and_eq_true, decide_eq_true_eq, List.all_eq_true]
    refine ⟨by have := hb.len; omega, fun g hg => ?_⟩
    obtain ⟨f, hf, hs⟩ := hb.of g hg
    have h1 := hm.2 f hf
    unfold mayF at h1 ⊢
    simp only [Bool.and_eq_true, decide_eq_true_eq, List.all_eq_true] at h1 ⊢
    rw [hs.args, hs.regs, hs.ops, List.length_map]
    refine ⟨h1.1, fun o ho => ?_⟩
    obtain ⟨o', ho', rfl⟩ := List.mem_map.1 ho
    exact formed_sh (h1.2 o' ho')
  rw [if_neg (by simp [hq]), if_neg (by have := hb.len; omega)]
  refine firstE_allz fun e he => ?_
  obtain ⟨g, hg, rfl⟩ := List.mem_map.1 he
  obtain ⟨f, hf, hs⟩ := hb.of g hg
  exact funE_sh hb hs (firstE_zero h _ (List.mem_map.2 ⟨f, hf, rfl⟩))
theorem root_parts {p : List Fnc} {n : Nat} {fuel : Int} (h : rootE p n fuel = 0) : progE p = 0 ∧ (n : Int) = (fnAt p 0).args ∧ 0 ≤ fuel ∧ fuel ≤ 65536 := by
  unfold rootE at h
  split at h
  · rename_i h1; exact absurd h h1
  rename_i h1
  split at h
  · rename_i h2
    have h3 : inputE p n = 0 := by simpa using h1
    unfold inputE at h3
    split at h3
    · rename_i h4; exact absurd h3 h4
    rename_i h4
    split at h3
    · rename_i h5; exact ⟨by simpa using h4, h5, h2.1, h2.2⟩
    · cases h3
  · cases h
theorem root_mk {p : List Fnc} {n : Nat} {fuel : Int} (h1 : progE p = 0) (h2 : (n : Int) = (fnAt p 0).args) (h3 : 0 ≤ fuel) (h4 : fuel ≤ 65536) : rootE p n fuel = 0 := by
  have : inputE p n = 0 := by unfold inputE; rw [if_neg (fun h => h h1), if_pos h2]
  unfold rootE
  rw [if_neg (fun h => h this), if_pos ⟨h3, h4⟩]
theorem tree_full {p : List Fnc} {l : List Int} {fuel : Int} (h : rootE p l.length fuel = 0) : treeE p l fuel (fuel + 1) = 0 ∧ treeL p l fuel (fuel + 1) = (doP p (fuel.toNat + 1) (rootT l fuel)).2 := by
  obtain ⟨hp, ht⟩ := rootT_ok h
  have h0 : (0 : Int) ≤ fuel := ht.u0
  have h1 := doP_ok hp (fuel.toNat + 1) (rootT l fuel) ht (by show fuel < _; omega)
  have h2 : ((doP p (fuel.toNat + 1) (rootT l fuel)).2.length : Int) ≤ fuel + 1 := h1
  have h3 : treeE p l fuel (fuel + 1) = 0 := by
    unfold treeE
    rw [if_neg (fun hh => hh h), if_neg (by omega)]
  exact ⟨h3, by unfold treeL; rw [if_pos h3]⟩
theorem tree_may {p : List Fnc} (hp : WfP p) : ∀ (n : Nat) (t : Tk), TkOk p t → t.fuel < n → mayS t.p = true → ∀ d ∈ (doP p n t).2, mayS d.t.p = true
  | 0, t, ht, hf, _ => by have := ht.u0; omega
  | n + 1, t, ht, hf, hm => by
    obtain ⟨k, L, e, ks, _, hL, hk⟩ := doP_kids hp ht hf
    rw [e]
    intro d hd
    rcases List.mem_cons.1 hd with rfl | hd
    · exact hm
    · rw [hL] at hd
      obtain ⟨l, hl, hd⟩ := List.mem_flatten.1 hd
      obtain ⟨c, hc, rfl⟩ := List.mem_map.1 hl
      obtain ⟨i, hi, rfl⟩ := List.getElem_of_mem hc
      obtain ⟨_, h2, h3, h4, h5⟩ := hk i hi
      exact tree_may hp n _ h4 (by omega) (by rw [h3]; exact kidB_may h2) d hd
theorem All2.length {α β : Type} {R : α → β → Prop} : ∀ {a : List α} {b : List β}, All2 R a b → a.length = b.length
  | _, _, .nil => rfl
  | _, _, .cons _ h => by simp [h.length]
theorem All2.get {α β : Type} {R : α → β → Prop} : ∀ {a : List α} {b : List β}, All2 R a b → ∀ (i : Nat) (h : i < a.length) (h' : i < b.length), R a[i] b[i]
  | _, _, .nil, i, h, _ => by simp at h
  | _, _, .cons h0 h1, 0, _, _ => h0
  | _, _, .cons h0 h1, i + 1, h, h' => by simpa using h1.get i (by simpa using h) (by simpa using h')
/-- What a part of a tree is, against the tree of the program that begins with its function. -/
theorem parts_law {p q : List Fnc} {l : List Int} {fuel : Int} (h0 : rootE p l.length fuel = 0) (hlen : p.length < 16) (hdeep : ∀ d ∈ (doP p (fuel.toNat + 1) (rootT l fuel)).2, d.t.p.size < 12) (k : Nat) (hk : k < (doP p (fuel.toNat + 1) (rootT l fuel)).2.length)
    (d : Dn) (hd : (doP p (fuel.toNat + 1) (rootT l fuel)).2[k] = d) (hb : Bg p q d.t.fn) :
    treeE q d.t.args d.t.fuel (d.t.fuel + 1) = 0 ∧ 0 < (treeL q d.t.args d.t.fuel (d.t.fuel + 1)).length ∧ k + (treeL q d.t.args d.t.fuel (d.t.fuel + 1)).length ≤ (doP p (fuel.toNat + 1) (rootT l fuel)).2.length ∧
    (∀ (i : Nat) (h : i < (treeL q d.t.args d.t.fuel (d.t.fuel + 1)).length) (h' : k + i < (doP p (fuel.toNat + 1) (rootT l fuel)).2.length), SimD (pl d.t.p) (doP p (fuel.toNat + 1) (rootT l fuel)).2[k + i] (treeL q d.t.args d.t.fuel (d.t.fuel + 1))[i]) ∧
    (∀ h : k + (treeL q d.t.args d.t.fuel (d.t.fuel + 1)).length < (doP p (fuel.toNat + 1) (rootT l fuel)).2.length, underS (doP p (fuel.toNat + 1) (rootT l fuel)).2[k + (treeL q d.t.args d.t.fuel (d.t.fuel + 1)).length].t.p d.t.p = false) := by
  obtain ⟨hp, ht⟩ := rootT_ok h0
  have hf0 : (0 : Int) ≤ fuel := ht.u0
  have hf : (rootT l fuel).fuel < (fuel.toNat + 1 : Nat) := by show fuel < _; omega
  have hmay := tree_may hp _ _ ht hf (by rfl : mayS (rootT l fuel).p = true)
  have hsub := tree_sub hp _ _ ht hf
  generalize (doP p (fuel.toNat + 1) (rootT l fuel)).2 = L at *
  have hsplit : L = L.take k ++ d :: L.drop (k + 1) := by
    rw [← hd, List.getElem_cons_drop, List.take_append_drop]
  obtain ⟨m, R, hdt, hdf, hR, hnot⟩ := hsub (L.take k) (L.drop (k + 1)) d hsplit
  have hdr : L.drop k = (doP p m d.t).2 ++ R := by
    rw [← hR, ← hd, List.getElem_cons_drop]
  have hdm : d ∈ L := by rw [← hd]; exact List.getElem_mem hk
  obtain ⟨hpE, _, _, _⟩ := root_parts h0
  have hqE := prog_sh hb hpE hlen
  have hr : rootE q d.t.args.length d.t.fuel = 0 := root_mk hqE (by rw [hb.head.args]; exact hdt.args) hdt.u0 hdt.u1
  obtain ⟨t1, t2⟩ := tree_full hr
  have hall : ∀ e ∈ (doP p m d.t).2, e.t.p.size < 12 := fun e he => hdeep e (List.mem_of_mem_drop (i := k) (by rw [hdr]; exact List.mem_append_left _ he))
  have hu0 := hdt.u0
  have hmm : d.t.fuel < ((d.t.fuel.toNat + 1 : Nat) : Int) := by omega
  have hall2 : ∀ e ∈ (doP p (d.t.fuel.toNat + 1) d.t).2, e.t.p.size < 12 := by rw [← doP_deep hp m _ d.t hdt hdf hmm]; exact hall
  obtain ⟨s1, s2⟩ := do_sim (pre := pl d.t.p) hb hp (d.t.fuel.toNat + 1) d.t (rootT d.t.args d.t.fuel) hdt hmm (hmay d hdm) ⟨by show pl d.t.p = pl d.t.p ++ []; simp, rfl, rfl, .inr ⟨rfl, rfl⟩⟩ hall2
  rw [← doP_deep hp m _ d.t hdt hdf hmm] at s2
  rw [t2]
  have hl2 := s2.length
  have hLk : L.length = k + (L.drop k).length := by rw [List.length_drop]; omega
  rw [hdr, List.length_append, hl2] at hLk
  have hget : ∀ (j : Nat) (h : j < ((doP p m d.t).2 ++ R).length) (h' : k + j < L.length), L[k + j] = ((doP p m d.t).2 ++ R)[j] := fun j h h' => by
    have h3 : (L.drop k)[j]'(by rw [hdr]; exact h) = L[k + j] := List.getElem_drop
    rw [← h3]
    simp only [hdr]
  refine ⟨t1, ?_, by omega, fun i h h' => ?_, fun h => ?_⟩
  · rw [← hl2]
    cases m with
    | zero => omega
    | succ m => unfold doP; simp
  · rw [hget i (by rw [List.length_append]; omega) h', List.getElem_append_left (by omega)]
    exact s2.get i (by omega) h
  · rw [hget _ (by rw [List.length_append]; omega) h, List.getElem_append_right (by omega)]
    have hx : R[(doP q (d.t.fuel.toNat + 1) (rootT d.t.args d.t.fuel)).2.length - (doP p m d.t).2.length]'(by omega) ∈ R := List.getElem_mem _
    have h4 := hnot _ hx
    generalize (R[(doP q (d.t.fuel.toNat + 1) (rootT d.t.args d.t.fuel)).2.length - (doP p m d.t).2.length]'(by omega)) = e at *
    unfold underS
    have h5 : prefS e.t.p d.t.p = false := by
      cases hc : prefS e.t.p d.t.p
      · rfl
      · exact absurd ((prefS_iff _ _).1 hc) h4
    rw [h5, Bool.and_false]
end Go.Proofs.Ytihadknnmkblcaa
