/- The tasks of a tree, plainly: a task's children follow it, each with its own. -/
import Derived.Test.YtihadknnmkblcaaEv14
namespace Go.Proofs.Ytihadknnmkblcaa
open Go.RowKit

theorem opS_kids {p : List Fnc} {D : Tk → Rs × List Dn} {t : Tk} {s : St} {o : Opr} :
    ((opS p D t s o).2.2.done = s.done ∧ (opS p D t s o).2.2.kids = s.kids) ∨ (o.k = 12 ∧ kidB t.p (s.kids + 1) = true ∧ s.kids < 16 ∧ (opS p D t s o).2.2.done = s.done ++ (D (kidT p t { s with pc := s.pc + 1 } o)).2 ∧ (opS p D t s o).2.2.kids = s.kids + 1) := by
  have hj : ∀ s1 : St, (joinS s1).2.done = s1.done ∧ (joinS s1).2.kids = s1.kids := by
    intro s1
    unfold joinS
    split <;> exact ⟨rfl, rfl⟩
  unfold opS
  simp only []
  by_cases k1 : o.k = 1
  · rw [if_pos k1]; exact .inl ⟨rfl, rfl⟩
  rw [if_neg k1]
  by_cases k10 : o.k = 10
  · rw [if_pos k10]; exact .inl ⟨rfl, rfl⟩
  rw [if_neg k10]
  by_cases k11 : o.k = 11
  · rw [if_pos k11]; left; simp only []; split <;> exact ⟨rfl, rfl⟩
  rw [if_neg k11]
  by_cases k12 : o.k = 12
  · rw [if_pos k12]
    unfold forkS
    by_cases h16 : 16 ≤ s.kids
    · simp only []; rw [if_pos h16]; exact .inl ⟨rfl, rfl⟩
    · simp only []; rw [if_neg h16]
      by_cases hb : kidB t.p (s.kids + 1) = false
      · rw [if_pos hb]; exact .inl ⟨rfl, rfl⟩
      · rw [if_neg hb]
        exact .inr ⟨k12, by simpa using hb, by omega, rfl, rfl⟩
  rw [if_neg k12]
  by_cases k13 : o.k = 13
  · rw [if_pos k13]; exact .inl (hj _)
  rw [if_neg k13]
  by_cases k14 : o.k = 14
  · rw [if_pos k14]; exact .inl (hj _)
  rw [if_neg k14]
  left
  cases calcP o.k (rg s.regs o.a) (rg s.regs o.b) <;> exact ⟨rfl, rfl⟩
/-- What was done by now is what the children did, in their order. -/
def KidsOk (p : List Fnc) (D : Tk → Rs × List Dn) (t : Tk) (n : Int) (L : List Dn) : Prop :=
  ∃ ks : List Tk, (ks.length : Int) = n ∧ L = (ks.map fun k => (D k).2).flatten ∧ ∀ (i : Nat) (h : i < ks.length), i < 16 ∧ kidB t.p (i + 1) = true ∧ ks[i].p = kidS t.p (i + 1) ∧ TkOk p ks[i] ∧ ks[i].fuel < t.fuel
theorem KidsOk.push {p : List Fnc} {D : Tk → Rs × List Dn} {t : Tk} {n : Int} {L : List Dn} {k : Tk} (h : KidsOk p D t n L) (hn : n < 16) (hb : kidB t.p (n + 1) = true) (hp : k.p = kidS t.p (n + 1)) (hk : TkOk p k) (hf : k.fuel < t.fuel) : KidsOk p D t (n + 1) (L ++ (D k).2) := by
  obtain ⟨ks, h1, h2, h3⟩ := h
  refine ⟨ks ++ [k], by simp; omega, by simp [h2], fun i hi => ?_⟩
  by_cases he : i < ks.length
  · rw [List.getElem_append_left he]; exact h3 i he
  · have he2 : i = ks.length := by simp at hi; omega
    subst he2
    rw [List.getElem_append_right (Nat.le_refl _)]
    simp only [Nat.sub_self, List.getElem_singleton]
    rw [h1]
    exact ⟨by omega, hb, hp, hk, hf⟩
theorem run_kids {p : List Fnc} {D : Tk → Rs × List Dn} {t : Tk} (hp : WfP p) (ht : TkOk p t) (hD : DOk p D t.fuel) : ∀ (n : Nat) (s : St), InvS p t s → AtOk p t s → s.left < n → KidsOk p D t s.kids s.done → KidsOk p D t (runP p D t n s).1.kids (runP p D t n s).1.done
  | 0, s, hi, _, h, hk => by have := hi.l0; omega
  | n + 1, s, hi, ha, h, hk => by
    have key : ∀ s' : St, (s.left ≠ 0 → s' = (opS p D t { s with left := s.left - 1 } (opAt p t s)).2.2) → s.left ≠ 0 → KidsOk p D t s'.kids s'.done := by
      intro s' he h0
      rw [he h0]
      have ho := opAt_ok hp ht hi ha
      obtain ⟨h1, h2⟩ := hi.pay h0
      rcases opS_kids (p := p) (D := D) (t := t) (s := { s with left := s.left - 1 }) (o := opAt p t s) with ⟨e1, e2⟩ | ⟨k12, hb, h16, e1, e2⟩
      · rw [e1, e2]; exact hk
      · rw [e1, e2]
        have h63 : s.pc ≤ 63 := by have := (hp.fn ht.f0 ht.f1).o1; unfold AtOk at ha; omega
        have hpc := hi.pc0
        have hi1 : InvS p t { s with left := s.left - 1, pc := s.pc + 1 } := ⟨h1.rl, by simp only []; omega, by simp only []; omega, h1.l0, h1.k0, h1.k1, h1.il, h1.ik, h1.ir, h1.cnt⟩
        obtain ⟨g1, g2⟩ := kid_ok hp ht hi1 (by simp only []; omega) ho k12 hb
        exact hk.push h16 hb rfl g1 g2
    unfold runP
    cases hs : stepP p D t s with
    | stop s' r =>
      simp only []
      unfold stepP at hs
      split at hs
      · injection hs with hs _; subst hs; exact hk
      · rename_i h0
        refine key s' (fun _ => ?_) h0
        simp only [] at hs
        split at hs
        · injection hs with hs _; exact hs.symm
        split at hs
        · injection hs with hs _; exact hs.symm
        · cases hs
    | go s' =>
      obtain ⟨h1, h2, h3⟩ := step_go hp ht hD hi ha hs
      refine run_kids hp ht hD n s' h1 h2 (by omega) ?_
      unfold stepP at hs
      split at hs
      · cases hs
      · rename_i h0
        refine key s' (fun _ => ?_) h0
        simp only [] at hs
        split at hs
        · cases hs
        split at hs
        · cases hs
        · injection hs with hs; exact hs.symm
theorem doP_kids {p : List Fnc} (hp : WfP p) {n : Nat} {t : Tk} (ht : TkOk p t) (hf : t.fuel < (n + 1 : Nat)) :
    ∃ (k : Int) (L : List Dn), (doP p (n + 1) t).2 = ⟨t, (doP p (n + 1) t).1, k⟩ :: L ∧ KidsOk p (doP p n) t k L := by
  have h0 := ht.u0
  have ih : DOk p (doP p n) t.fuel := fun k' h1 h2 => doP_ok hp n k' h1 (by omega)
  exact ⟨_, _, rfl, run_kids hp ht ih (t.fuel.toNat + 1) (beginS p t) (beginS_inv hp ht) (begin_at hp ht) (by unfold beginS; simp only []; omega) ⟨[], rfl, rfl, fun i h => by simp at h⟩⟩
theorem doP_tk {p : List Fnc} (hp : WfP p) : ∀ (n : Nat) (t : Tk), TkOk p t → t.fuel < n → ∀ d ∈ (doP p n t).2, TkOk p d.t
  | 0, t, ht, hf => by have := ht.u0; omega
  | n + 1, t, ht, hf => by
    obtain ⟨k, L, e, ks, _, hL, hk⟩ := doP_kids hp ht hf
    rw [e]
    intro d hd
    rcases List.mem_cons.1 hd with rfl | hd
    · exact ht
    · rw [hL] at hd
      obtain ⟨l, hl, hd⟩ := List.mem_flatten.1 hd
      obtain ⟨c, hc, rfl⟩ := List.mem_map.1 hl
      obtain ⟨i, hi, rfl⟩ := List.getElem_of_mem hc
      obtain ⟨_, _, _, h4, h5⟩ := hk i hi
      exact doP_tk hp n _ h4 (by omega) d hd
theorem TkOk.len {p : List Fnc} (hp : WfP p) {t : Tk} (h : TkOk p t) : t.args.length ≤ 16 := by
  have h1 := h.args
  have h2 := (hp.fn h.f0 h.f1).r1
  have h3 := (hp.fn h.f0 h.f1).r2
  omega
end Go.Proofs.Ytihadknnmkblcaa
