/- A frame that is run in pieces, plainly. -/
import Derived.Test.YtdhbjejejeljoaaVm0
namespace Go.Proofs.Ytdhbjejejeljoaa
open Go.RowKit

/-- It runs: it waits at nothing and is not over. -/
def Runs (s : Vs) : Prop := s.waits = none ∧ s.result = none
theorem joinV_kind {s : Vs} {o : Opr} : ∀ x, (joinV s o).1 = some x → x.k = 3 ∨ x.k = 4 := by
  intro x h
  unfold joinV at h
  by_cases h1 : (openV s).any (fun c => !c.given) = true
  · rw [if_pos h1] at h
    cases h; exact .inl rfl
  rw [if_neg h1] at h
  simp only [] at h
  by_cases h2 : firstE ((openV s).map (·.r.e)) ≠ 0
  · rw [if_pos h2] at h
    cases h; exact .inr rfl
  rw [if_neg h2] at h
  by_cases h3 : o.k = 14
  · rw [if_pos h3] at h
    cases h; exact .inr rfl
  · rw [if_neg h3] at h
    cases h
theorem joinV_goes {s : Vs} {o : Opr} (h : (joinV s o).1 = none) (hr : s.result = none) : Runs (joinV s o).2 ∧ (joinV s o).2.left = s.left := by
  unfold joinV at h ⊢
  by_cases h1 : (openV s).any (fun c => !c.given) = true
  · rw [if_pos h1] at h
    cases h
  rw [if_neg h1] at h ⊢
  simp only [] at h ⊢
  by_cases h2 : firstE ((openV s).map (·.r.e)) ≠ 0
  · rw [if_pos h2] at h
    cases h
  rw [if_neg h2] at h ⊢
  by_cases h3 : o.k = 14
  · rw [if_pos h3] at h
    cases h
  · rw [if_neg h3]
    exact ⟨⟨rfl, hr⟩, rfl⟩
/-- A step: a stop of kinds 2 to 4, or one unit of fuel is gone and it runs on. -/
theorem opV2_goes {p : List Fnc} {t : Tk} {s : Vs} {o : Opr} (hr : Runs s) : (∀ x, (opV2 p t s o).1 = some x → x.k = 2 ∨ x.k = 3 ∨ x.k = 4) ∧ ((opV2 p t s o).1 = none → Runs (opV2 p t s o).2 ∧ (opV2 p t s o).2.left = s.left) := by
  unfold opV2
  by_cases k1 : o.k = 1
  · rw [if_pos k1]; exact ⟨fun x h => (by cases h), fun _ => ⟨hr, rfl⟩⟩
  rw [if_neg k1]
  by_cases k10 : o.k = 10
  · rw [if_pos k10]; exact ⟨fun x h => (by cases h), fun _ => ⟨hr, rfl⟩⟩
  rw [if_neg k10]
  by_cases k11 : o.k = 11
  · rw [if_pos k11]
    refine ⟨fun x h => (by cases h), fun _ => ?_⟩
    simp only []
    by_cases hz : rg s.regs o.a = 0
    · rw [if_pos hz]; exact ⟨hr, rfl⟩
    · rw [if_neg hz]; exact ⟨hr, rfl⟩
  rw [if_neg k11]
  by_cases k12 : o.k = 12
  · rw [if_pos k12]
    unfold forkV
    by_cases h1 : 16 ≤ s.kids.length
    · rw [if_pos h1]; unfold endV
      exact ⟨fun x h => by cases h; exact .inr (.inr rfl), fun h => (by cases h)⟩
    rw [if_neg h1]
    by_cases h2 : kidB t.p ((s.kids.length : Int) + 1) = false
    · rw [if_pos h2]; unfold endV
      exact ⟨fun x h => by cases h; exact .inr (.inr rfl), fun h => (by cases h)⟩
    rw [if_neg h2]
    exact ⟨fun x h => by cases h; exact .inl rfl, fun h => (by cases h)⟩
  rw [if_neg k12]
  by_cases k13 : o.k = 13 ∨ o.k = 14
  · rw [if_pos k13]
    exact ⟨fun x h => .inr (joinV_kind x h), fun h => joinV_goes h hr.2⟩
  rw [if_neg k13]
  cases calcP o.k (rg s.regs o.a) (rg s.regs o.b) with
  | none => unfold endV; exact ⟨fun x h => by cases h; exact .inr (.inr rfl), fun h => (by cases h)⟩
  | some v => exact ⟨fun x h => (by cases h), fun _ => ⟨hr, rfl⟩⟩
theorem stepV_goes {p : List Fnc} {t : Tk} {s : Vs} (hr : Runs s) : (∀ x, (stepV p t s).1 = some x → x.k = 2 ∨ x.k = 3 ∨ x.k = 4) ∧ ((stepV p t s).1 = none → Runs (stepV p t s).2 ∧ (stepV p t s).2.left = s.left - 1 ∧ s.left ≠ 0) := by
  unfold stepV
  by_cases h0 : s.left = 0
  · rw [if_pos h0]; unfold endV
    exact ⟨fun x h => by cases h; exact .inr (.inr rfl), fun h => (by cases h)⟩
  rw [if_neg h0]
  have h := opV2_goes (p := p) (t := t) (s := { s with left := s.left - 1, pc := s.pc + 1 }) (o := atV p t s) hr
  exact ⟨h.1, fun h1 => ⟨(h.2 h1).1, (h.2 h1).2, h0⟩⟩
/-- So many ops from here end with this. -/
def StepsTo (p : List Fnc) (t : Tk) (s : Vs) (a : Sp) (s1 : Vs) : Prop := ∃ N, stepsV p t N s = (a, s1) ∧ a.k ≠ 1
theorem steps_piece {p : List Fnc} {t : Tk} {a : Sp} {s1 : Vs} : ∀ (n : Nat) (s : Vs), Runs s → StepsTo p t s a s1 →
    stepsV p t n s = (a, s1) ∨ ((stepsV p t n s).1.k = 1 ∧ (stepsV p t n s).1 = ⟨1, noTk, ⟨0, 0⟩⟩ ∧ Runs (stepsV p t n s).2 ∧ StepsTo p t (stepsV p t n s).2 a s1 ∧ (stepsV p t n s).2.left = s.left - n)
  | 0, s, hr, h => .inr ⟨rfl, rfl, hr, h, by show s.left = _; omega⟩
  | n + 1, s, hr, ⟨N, hN, hk⟩ => by
    cases N with
    | zero => unfold stepsV at hN; cases hN; exact absurd rfl hk
    | succ N =>
      have hg := stepV_goes (p := p) (t := t) hr
      unfold stepsV at hN ⊢
      generalize stepV p t s = z at *
      obtain ⟨z1, z2⟩ := z
      cases z1 with
      | some x => exact .inl hN
      | none =>
        simp only [] at hN ⊢
        obtain ⟨g1, g2, g3⟩ := hg.2 rfl
        simp only [] at g1 g2
        rcases steps_piece n z2 g1 ⟨N, hN, hk⟩ with h | ⟨h1, h2, h3, h4, h5⟩
        · exact .inl h
        · exact .inr ⟨h1, h2, h3, h4, by rw [h5, g2]; omega⟩
/-- A run from here ends with this. -/
def RunsTo (p : List Fnc) (t : Tk) (s : Vs) (a : Sp) (s1 : Vs) : Prop := ∃ N, runV p t N s = (a, s1) ∧ a.k ≠ 1
theorem run_piece {p : List Fnc} {t : Tk} {s : Vs} {a : Sp} {s1 : Vs} (n : Nat) (h : RunsTo p t s a s1) :
    runV p t n s = (a, s1) ∨ ((runV p t n s).1.k = 1 ∧ (runV p t n s).1 = ⟨1, noTk, ⟨0, 0⟩⟩ ∧ RunsTo p t (runV p t n s).2 a s1 ∧ (runV p t n s).2.left = s.left - n) := by
  obtain ⟨N, hN, hk⟩ := h
  have go : ∀ s' : Vs, Runs s' → s'.left = s.left → stepsV p t N s' = (a, s1) → stepsV p t n s' = (a, s1) ∨ ((stepsV p t n s').1.k = 1 ∧ (stepsV p t n s').1 = ⟨1, noTk, ⟨0, 0⟩⟩ ∧ RunsTo p t (stepsV p t n s').2 a s1 ∧ (stepsV p t n s').2.left = s.left - n) := by
    intro s' hr hl hs
    rcases steps_piece n s' hr ⟨N, hs, hk⟩ with h | ⟨h1, h2, h3, ⟨M, h4, h4k⟩, h5⟩
    · exact .inl h
    · refine .inr ⟨h1, h2, ⟨M, ?_, h4k⟩, by rw [h5, hl]⟩
      unfold runV
      rw [h3.2, h3.1]
      exact h4
  unfold runV at hN ⊢
  cases hr : s.result with
  | some r => rw [hr] at hN; exact .inl hN
  | none =>
    rw [hr] at hN
    cases hw : s.waits with
    | none =>
      rw [hw] at hN
      exact go s ⟨hw, hr⟩ rfl hN
    | some o =>
      rw [hw] at hN
      simp only [] at hN ⊢
      have hg := joinV_goes (s := s) (o := o)
      generalize joinV s o = z at *
      obtain ⟨z1, z2⟩ := z
      cases z1 with
      | some x => exact .inl hN
      | none =>
        obtain ⟨g1, g2⟩ := hg rfl hr
        exact go z2 g1 g2 hN
/-- Enough ops: it ends with a stop. -/
theorem steps_stop {p : List Fnc} {t : Tk} : ∀ (n : Nat) (s : Vs), Runs s → 0 ≤ s.left → s.left < n → (stepsV p t n s).1.k = 2 ∨ (stepsV p t n s).1.k = 3 ∨ (stepsV p t n s).1.k = 4
  | 0, s, _, h0, h => by omega
  | n + 1, s, hr, h0, h => by
    have hg := stepV_goes (p := p) (t := t) hr
    unfold stepsV
    generalize stepV p t s = z at *
    obtain ⟨z1, z2⟩ := z
    cases z1 with
    | some x => exact hg.1 x rfl
    | none =>
      obtain ⟨g1, g2, g3⟩ := hg.2 rfl
      simp only [] at g1 g2
      exact steps_stop n z2 g1 (by omega) (by omega)
theorem run_stop {p : List Fnc} {t : Tk} {s : Vs} (n : Nat) (h0 : 0 ≤ s.left) (h : s.left < n) : (runV p t n s).1.k = 2 ∨ (runV p t n s).1.k = 3 ∨ (runV p t n s).1.k = 4 := by
  unfold runV
  cases hr : s.result with
  | some r => exact .inr (.inr rfl)
  | none =>
    cases hw : s.waits with
    | none => exact steps_stop n s ⟨hw, hr⟩ h0 h
    | some o =>
      simp only []
      have hg := joinV_goes (s := s) (o := o)
      have hk := joinV_kind (s := s) (o := o)
      generalize joinV s o = z at *
      obtain ⟨z1, z2⟩ := z
      cases z1 with
      | some x => exact .inr (hk x rfl)
      | none =>
        obtain ⟨g1, g2⟩ := hg rfl hr
        simp only [] at g1 g2
        exact steps_stop n z2 g1 (by omega) (by omega)
end Go.Proofs.Ytdhbjejejeljoaa
