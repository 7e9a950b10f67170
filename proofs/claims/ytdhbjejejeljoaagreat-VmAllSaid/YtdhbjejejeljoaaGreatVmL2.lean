/- What holds of each state of a frame stays. -/
import Derived.Test.YtdhbjejejeljoaaGreatVm5
namespace Go.Proofs.YtdhbjejejeljoaaGreat
open Go.RowKit

/-- It runs: it waits at nothing and is not over. -/
def Runs (s : Vs) : Prop := s.waits = none ∧ s.result = none
theorem joinV_kind {s : Vs} {o : Opr} : ∀ x, (joinV s o).1 = some x → x.k = 3 ∨ x.k = 4 := by
  intro x h
  unfold joinV at h
  by_cases h1 : (openV s).any (fun c => !c.given) = true
  · rw [if_pos h1] at h
    cases h; exact .inl rfl
  rw [if_neg h1] at h
  simp only [] at h
  by_cases h2 : firstE ((openV s).map (·.r.e)) ≠ 0
  · rw [if_pos h2] at h
    cases h; exact .inr rfl
  rw [if_neg h2] at h
  by_cases h3 : o.k = 14
  · rw [if_pos h3] at h
    cases h; exact .inr rfl
  · rw [if_neg h3] at h
    cases h
theorem joinV_goes {s : Vs} {o : Opr} (h : (joinV s o).1 = none) (hr : s.result = none) : Runs (joinV s o).2 ∧ (joinV s o).2.left = s.left := by
  unfold joinV at h ⊢
  by_cases h1 : (openV s).any (fun c => !c.given) = true
  · rw [if_pos h1] at h
    cases h
  rw [if_neg h1] at h ⊢
  simp only [] at h ⊢
  by_cases h2 : firstE ((openV s).map (·.r.e)) ≠ 0
  · rw [if_pos h2] at h
    cases h
  rw [if_neg h2] at h ⊢
  by_cases h3 : o.k = 14
  · rw [if_pos h3] at h
    cases h
  · rw [if_neg h3]
    exact ⟨⟨rfl, hr⟩, rfl⟩
/-- A step: a stop of kinds 2 to 4, or one unit of fuel is gone and it runs on. -/
theorem opV2_goes {p : List Fnc} {t : Tk} {s : Vs} {o : Opr} (hr : Runs s) : (∀ x, (opV2 p t s o).1 = some x → x.k = 2 ∨ x.k = 3 ∨ x.k = 4) ∧ ((opV2 p t s o).1 = none → Runs (opV2 p t s o).2 ∧ (opV2 p t s o).2.left = s.left) := by
  unfold opV2
  by_cases k1 : o.k = 1
  · rw [if_pos k1]; exact ⟨fun x h => (by cases h), fun _ => ⟨hr, rfl⟩⟩
  rw [if_neg k1]
  by_cases k10 : o.k = 10
  · rw [if_pos k10]; exact ⟨fun x h => (by cases h), fun _ => ⟨hr, rfl⟩⟩
  rw [if_neg k10]
  by_cases k11 : o.k = 11
  · rw [if_pos k11]
    refine ⟨fun x h => (by cases h), fun _ => ?_⟩
    simp only []
    by_cases hz : rg s.regs o.a = 0
    · rw [if_pos hz]; exact ⟨hr, rfl⟩
    · rw [if_neg hz]; exact ⟨hr, rfl⟩
  rw [if_neg k11]
  by_cases k12 : o.k = 12
  · rw [if_pos k12]
    unfold forkV
    by_cases h1 : 16 ≤ s.kids.length
    · rw [if_pos h1]; unfold endV
      exact ⟨fun x h => by cases h; exact .inr (.inr rfl), fun h => (by cases h)⟩
    rw [if_neg h1]
    by_cases h2 : kidB t.p ((s.kids.length : Int) + 1) = false
    · rw [if_pos h2]; unfold endV
      exact ⟨fun x h => by cases h; exact .inr (.inr rfl), fun h => (by cases h)⟩
    rw [if_neg h2]
    exact ⟨fun x h => by cases h; exact .inl rfl, fun h => (by cases h)⟩
  rw [if_neg k12]
  by_cases k13 : o.k = 13 ∨ o.k = 14
  · rw [if_pos k13]
    exact ⟨fun x h => .inr (joinV_kind x h), fun h => joinV_goes h hr.2⟩
  rw [if_neg k13]
  cases calcP o.k (rg s.regs o.a) (rg s.regs o.b) with
  | none => unfold endV; exact ⟨fun x h => by cases h; exact .inr (.inr rfl), fun h => (by cases h)⟩
  | some v => exact ⟨fun x h => (by cases h), fun _ => ⟨hr, rfl⟩⟩
theorem stepV_goes {p : List Fnc} {t : Tk} {s : Vs} (hr : Runs s) : (∀ x, (stepV p t s).1 = some x → x.k = 2 ∨ x.k = 3 ∨ x.k = 4) ∧ ((stepV p t s).1 = none → Runs (stepV p t s).2 ∧ (stepV p t s).2.left = s.left - 1 ∧ s.left ≠ 0) := by
  unfold stepV
  by_cases h0 : s.left = 0
  · rw [if_pos h0]; unfold endV
    exact ⟨fun x h => by cases h; exact .inr (.inr rfl), fun h => (by cases h)⟩
  rw [if_neg h0]
  have h := opV2_goes (p := p) (t := t) (s := { s with left := s.left - 1, pc := s.pc + 1 }) (o := atV p t s) hr
  exact ⟨h.1, fun h1 => ⟨(h.2 h1).1, (h.2 h1).2, h0⟩⟩
/-- So many ops from here end with this. -/
def StepsTo (p : List Fnc) (t : Tk) (s : Vs) (a : Sp) (s1 : Vs) : Prop := ∃ N, stepsV p t N s = (a, s1) ∧ a.k ≠ 1
theorem steps_piece {p : List Fnc} {t : Tk} {a : Sp} {s1 : Vs} : ∀ (n : Nat) (s : Vs), Runs s → StepsTo p t s a s1 →
    stepsV p t n s = (a, s1) ∨ ((stepsV p t n s).1.k = 1 ∧ (stepsV p t n s).1 = ⟨1, noTk, ⟨0, 0⟩⟩ ∧ Runs (stepsV p t n s).2 ∧ StepsTo p t (stepsV p t n s).2 a s1 ∧ (stepsV p t n s).2.left = s.left - n)
  | 0, s, hr, h => .inr ⟨rfl, rfl, hr, h, by show s.left = _; omega⟩
  | n + 1, s, hr, ⟨N, hN, hk⟩ => by
    cases N with
    | zero => unfold stepsV at hN; cases hN; exact absurd rfl hk
    | succ N =>
      have hg := stepV_goes (p := p) (t := t) hr
      unfold stepsV at hN ⊢
      generalize stepV p t s = z at *
      obtain ⟨z1, z2⟩ := z
      cases z1 with
      | some x => exact .inl hN
      | none =>
        simp only [] at hN ⊢
        obtain ⟨g1, g2, g3⟩ := hg.2 rfl
        simp only [] at g1 g2
        rcases steps_piece n z2 g1 ⟨N, hN, hk⟩ with h | ⟨h1, h2, h3, h4, h5⟩
        · exact .inl h
        · exact .inr ⟨h1, h2, h3, h4, by rw [h5, g2]; omega⟩
/-- A run from here ends with this. -/
def RunsTo (p : List Fnc) (t : Tk) (s : Vs) (a : Sp) (s1 : Vs) : Prop := ∃ N, runV p t N s = (a, s1) ∧ a.k ≠ 1
theorem run_piece {p : List Fnc} {t : Tk} {s : Vs} {a : Sp} {s1 : Vs} (n : Nat) (h : RunsTo p t s a s1) :
    runV p t n s = (a, s1) ∨ ((runV p t n s).1.k = 1 ∧ (runV p t n s).1 = ⟨1, noTk, ⟨0, 0⟩⟩ ∧ RunsTo p t (runV p t n s).2 a s1 ∧ (runV p t n s).2.left = s.left - n) := by
  obtain ⟨N, hN, hk⟩ := h
  have go : ∀ s' : Vs, Runs s' → s'.left = s.left → stepsV p t N s' = (a, s1) → stepsV p t n s' = (a, s1) ∨ ((stepsV p t n s').1.k = 1 ∧ (stepsV p t n s').1 = ⟨1, noTk, ⟨0, 0⟩⟩ ∧ RunsTo p t (stepsV p t n s').2 a s1 ∧ (stepsV p t n s').2.left = s.left - n) := by
    intro s' hr hl hs
    rcases steps_piece n s' hr ⟨N, hs, hk⟩ with h | ⟨h1, h2, h3, ⟨M, h4, h4k⟩, h5⟩
    · exact .inl h
    · refine .inr ⟨h1, h2, ⟨M, ?_, h4k⟩, by rw [h5, hl]⟩
      unfold runV
      rw [h3.2, h3.1]
      exact h4
  unfold runV at hN ⊢
  cases hr : s.result with
  | some r => rw [hr] at hN; exact .inl hN
  | none =>
    rw [hr] at hN
    cases hw : s.waits with
    | none =>
      rw [hw] at hN
      exact go s ⟨hw, hr⟩ rfl hN
    | some o =>
      rw [hw] at hN
      simp only [] at hN ⊢
      have hg := joinV_goes (s := s) (o := o)
      generalize joinV s o = z at *
      obtain ⟨z1, z2⟩ := z
      cases z1 with
      | some x => exact .inl hN
      | none =>
        obtain ⟨g1, g2⟩ := hg rfl hr
        exact go z2 g1 g2 hN
/-- Enough ops: it ends with a stop. -/
theorem steps_stop {p : List Fnc} {t : Tk} : ∀ (n : Nat) (s : Vs), Runs s → 0 ≤ s.left → s.left < n → (stepsV p t n s).1.k = 2 ∨ (stepsV p t n s).1.k = 3 ∨ (stepsV p t n s).1.k = 4
  | 0, s, _, h0, h => by omega
  | n + 1, s, hr, h0, h => by
    have hg := stepV_goes (p := p) (t := t) hr
    unfold stepsV
    generalize stepV p t s = z at *
    obtain ⟨z1, z2⟩ := z
    cases z1 with
    | some x => exact hg.1 x rfl
    | none =>
      obtain ⟨g1, g2, g3⟩ := hg.2 rfl
      simp only [] at g1 g2
      exact steps_stop n z2 g1 (by omega) (by omega)
theorem run_stop {p : List Fnc} {t : Tk} {s : Vs} (n : Nat) (h0 : 0 ≤ s.left) (h : s.left < n) : (runV p t n s).1.k = 2 ∨ (runV p t n s).1.k = 3 ∨ (runV p t n s).1.k = 4 := by
  unfold runV
  cases hr : s.result with
  | some r => exact .inr (.inr rfl)
  | none =>
    cases hw : s.waits with
    | none => exact steps_stop n s ⟨hw, hr⟩ h0 h
    | some o =>
      simp only []
      have hg := joinV_goes (s := s) (o := o)
      have hk := joinV_kind (s := s) (o := o)
      generalize joinV s o = z at *
      obtain ⟨z1, z2⟩ := z
      cases z1 with
      | some x => exact .inr (hk x rfl)
      | none =>
        obtain ⟨g1, g2⟩ := hg rfl hr
        simp only [] at g1 g2
        exact steps_stop n z2 g1 (by omega) (by omega)
end Go.Proofs.YtdhbjejejeljoaaGreat
namespace Go.Proofs.YtdhbjejejeljoaaGreat
open Go.RowKit

theorem InvV.res {p : List Fnc} {t : Tk} {s : Vs} (hi : InvV p t s) (r : Option Rs) : InvV p t { s with result := r } := ⟨hi.rl, hi.pc0, hi.pc1, hi.l0, hi.l1, hi.k1, hi.jl, hi.ir, hi.wt⟩
theorem opV2_inv {p : List Fnc} {t : Tk} {s : Vs} {o : Opr} (hp : WfP p) (ht : TkOk p t) (hi : InvV p t s) (_hr : Runs s) (ho : OpOk p (fnAt p t.fn) o) :
    InvV p t (opV2 p t s o).2 ∧ ((opV2 p t s o).2.pc = s.pc ∨ ((o.k = 10 ∨ o.k = 11) ∧ (opV2 p t s o).2.pc = o.n)) ∧ (o.k = 10 → (opV2 p t s o).2.pc = o.n) ∧ (o.k = 14 → (opV2 p t s o).2.waits = some o ∨ (opV2 p t s o).2.result ≠ none) := by
  have hn : o.k = 10 ∨ o.k = 11 → InvV p t { s with pc := o.n } := fun e => by
    obtain ⟨h1, h2⟩ := ho.n e
    have h3 := (hp.fn ht.f0 ht.f1).o1
    exact ⟨hi.rl, h1, by simp only []; omega, hi.l0, hi.l1, hi.k1, hi.jl, hi.ir, hi.wt⟩
  have hset : ∀ v, InvV p t { s with regs := s.regs.set o.d.toNat v } := fun v => ⟨by simp only [List.length_set]; exact hi.rl, hi.pc0, hi.pc1, hi.l0, hi.l1, hi.k1, hi.jl, hi.ir, hi.wt⟩
  unfold opV2
  by_cases k1 : o.k = 1
  · rw [if_pos k1]; exact ⟨hset _, .inl rfl, fun h => by omega, fun h => by omega⟩
  rw [if_neg k1]
  by_cases k10 : o.k = 10
  · rw [if_pos k10]; exact ⟨hn (.inl k10), .inr ⟨.inl k10, rfl⟩, fun _ => rfl, fun h => by omega⟩
  rw [if_neg k10]
  by_cases k11 : o.k = 11
  · rw [if_pos k11]
    by_cases hz : rg s.regs o.a = 0
    · rw [if_pos hz]; exact ⟨hi, .inl rfl, fun h => by omega, fun h => by omega⟩
    · rw [if_neg hz]; exact ⟨hn (.inr k11), .inr ⟨.inr k11, rfl⟩, fun h => by omega, fun h => by omega⟩
  rw [if_neg k11]
  by_cases k12 : o.k = 12
  · rw [if_pos k12]
    obtain ⟨h1, h2⟩ := forkV_inv hi ho k12
    exact ⟨h1, .inl h2, fun h => by omega, fun h => by omega⟩
  rw [if_neg k12]
  by_cases k13 : o.k = 13 ∨ o.k = 14
  · rw [if_pos k13]
    obtain ⟨h1, h2, h3, h4, h5⟩ := joinV_inv hi ho k13
    refine ⟨h1, .inl h2, fun h => by omega, fun h => ?_⟩
    cases hj : (joinV s o).1 with
    | none => have := (h4 hj).1; omega
    | some x => exact h5 (by rw [hj]; simp)
  rw [if_neg k13]
  cases calcP o.k (rg s.regs o.a) (rg s.regs o.b) with
  | none => exact ⟨hi.res _, .inl rfl, fun h => by omega, fun h => by omega⟩
  | some v => exact ⟨hset v, .inl rfl, fun h => by omega, fun h => by omega⟩
theorem atV_ok {p : List Fnc} {t : Tk} {s : Vs} (hp : WfP p) (ht : TkOk p t) (h0 : 0 ≤ s.pc) (ha : s.pc < (fnAt p t.fn).ops.length) : OpOk p (fnAt p t.fn) (atV p t s) := by
  unfold atV
  rw [List.getD_eq_getElem?_getD, List.getElem?_eq_getElem (by omega)]
  exact (hp.fn ht.f0 ht.f1).op _ (List.getElem_mem _)
theorem stepV_inv {p : List Fnc} {t : Tk} {s : Vs} (hp : WfP p) (ht : TkOk p t) (hi : InvV p t s) (hr : Runs s) (ha : s.pc < (fnAt p t.fn).ops.length) : InvV p t (stepV p t s).2 ∧ AtV p t (stepV p t s).2 := by
  unfold stepV
  by_cases h0 : s.left = 0
  · rw [if_pos h0]
    exact ⟨hi.res _, fun h => by cases h⟩
  rw [if_neg h0]
  have hl0 := hi.l0
  have hp0 := hi.pc0
  have ho1 := (hp.fn ht.f0 ht.f1).o1
  have hi1 : InvV p t { s with left := s.left - 1, pc := s.pc + 1 } := ⟨hi.rl, by simp only []; omega, by simp only []; omega, by simp only []; omega, by have := hi.l1; simp only []; omega, hi.k1, hi.jl, hi.ir, hi.wt⟩
  have ho := atV_ok hp ht hp0 ha
  obtain ⟨h1, h2, h3, h4⟩ := opV2_inv hp ht hi1 hr ho
  refine ⟨h1, fun hres => ?_⟩
  by_cases k14 : (atV p t s).k = 14
  · rcases h4 k14 with h | h
    · exact .inr ⟨_, h, k14⟩
    · exact absurd hres h
  left
  by_cases k10 : (atV p t s).k = 10
  · rw [h3 k10]; exact (ho.n (.inl k10)).2
  rcases h2 with h2 | ⟨h2, h5⟩
  · have he := (hp.fn ht.f0 ht.f1).ends s.pc.toNat (by omega)
    have e9 : atV p t s = (fnAt p t.fn).ops[s.pc.toNat]'(by omega) := by
      unfold atV
      rw [List.getD_eq_getElem?_getD, List.getElem?_eq_getElem (by omega)]; rfl
    rw [e9] at k14 k10
    have := he k10 k14
    rw [h2]; simp only []; omega
  · rw [h5]; exact (ho.n h2).2
theorem AtV.runs {p : List Fnc} {t : Tk} {s : Vs} (h : AtV p t s) (hr : Runs s) : s.pc < (fnAt p t.fn).ops.length := by
  rcases h hr.2 with h | ⟨o, h1, _⟩
  · exact h
  · rw [hr.1] at h1; cases h1
theorem stepsV_inv {p : List Fnc} {t : Tk} (hp : WfP p) (ht : TkOk p t) : ∀ (n : Nat) (s : Vs), InvV p t s → AtV p t s → Runs s → InvV p t (stepsV p t n s).2 ∧ AtV p t (stepsV p t n s).2
  | 0, s, hi, ha, _ => ⟨hi, ha⟩
  | n + 1, s, hi, ha, hr => by
    have h1 := stepV_inv hp ht hi hr (ha.runs hr)
    have hg := stepV_goes (p := p) (t := t) hr
    unfold stepsV
    generalize stepV p t s = z at *
    obtain ⟨z1, z2⟩ := z
    cases z1 with
    | some x => exact h1
    | none => exact stepsV_inv hp ht n z2 h1.1 h1.2 (hg.2 rfl).1
theorem joinV_at {p : List Fnc} {t : Tk} {s : Vs} {o : Opr} (hi : InvV p t s) (ha : AtV p t s) (hw : s.waits = some o) (hr : s.result = none) : InvV p t (joinV s o).2 ∧ AtV p t (joinV s o).2 := by
  obtain ⟨ho, hk⟩ := hi.wt o hw
  obtain ⟨h1, h2, h3, h4, h5⟩ := joinV_inv hi ho hk
  refine ⟨h1, fun hres => ?_⟩
  rw [h2]
  cases hj : (joinV s o).1 with
  | none =>
    obtain ⟨g1, g2, g3⟩ := h4 hj
    rcases ha hr with h | ⟨o', h, h'⟩
    · exact .inl h
    · rw [hw] at h; cases h; omega
  | some x =>
    rcases h5 (by rw [hj]; simp) with h | h
    · rcases ha hr with g | ⟨o', g, g'⟩
      · exact .inl g
      · rw [hw] at g; cases g; exact .inr ⟨o, h, g'⟩
    · exact absurd hres h
theorem runV_inv {p : List Fnc} {t : Tk} {s : Vs} (hp : WfP p) (ht : TkOk p t) (n : Nat) (hi : InvV p t s) (ha : AtV p t s) : InvV p t (runV p t n s).2 ∧ AtV p t (runV p t n s).2 := by
  unfold runV
  cases hr : s.result with
  | some r => exact ⟨hi, ha⟩
  | none =>
    cases hw : s.waits with
    | none => exact stepsV_inv hp ht n s hi ha ⟨hw, hr⟩
    | some o =>
      have h1 := joinV_at hi ha hw hr
      have hg := joinV_goes (s := s) (o := o)
      simp only []
      generalize joinV s o = z at *
      obtain ⟨z1, z2⟩ := z
      cases z1 with
      | some x => exact h1
      | none => exact stepsV_inv hp ht n z2 h1.1 h1.2 (hg rfl hr).1
theorem giveV_inv {p : List Fnc} {t : Tk} {s : Vs} (k : Int) (r : Rs) (hi : InvV p t s) (ha : AtV p t s) : InvV p t (giveV s k r).2 ∧ AtV p t (giveV s k r).2 := by
  unfold giveV
  by_cases h1 : k < 1 ∨ (s.kids.length : Int) < k
  · rw [if_pos h1]; exact ⟨hi, ha⟩
  rw [if_neg h1]
  by_cases h2 : (s.kids.getD (k - 1).toNat default).given = true
  · rw [if_pos h2]; exact ⟨hi, ha⟩
  rw [if_neg h2]
  by_cases h3 : s.result.isSome = true
  · rw [if_pos h3]; exact ⟨hi, ha⟩
  rw [if_neg h3]
  have hm : s.kids.getD (k - 1).toNat default ∈ s.kids := by
    rw [List.getD_eq_getElem?_getD, List.getElem?_eq_getElem (by omega)]
    exact List.getElem_mem _
  have hd := hi.ir _ hm
  refine ⟨⟨hi.rl, hi.pc0, hi.pc1, hi.l0, hi.l1, by simpa using hi.k1, by simpa using hi.jl, fun c hc => ?_, hi.wt⟩, ha⟩
  rcases List.mem_or_eq_of_mem_set hc with hc | hc
  · exact hi.ir c hc
  · subst hc; exact hd
theorem newV_at {p : List Fnc} {t : Tk} (hp : WfP p) (ht : TkOk p t) : AtV p t (newV p t) := by
  have := (hp.fn ht.f0 ht.f1).o0
  intro _
  exact .inl (by unfold newV; simp only []; omega)
/-- A fork was told: the last child isn't given, and it is not over. -/
theorem forkV_told {p : List Fnc} {t : Tk} {s : Vs} {o : Opr} {x : Sp} (hr : s.result = none) (h : (forkV p t s o).1 = some x) (hk : x.k = 2) : (forkV p t s o).2.result = none ∧ ∃ l c, (forkV p t s o).2.kids = l ++ [c] ∧ c.given = false := by
  unfold forkV at h ⊢
  by_cases h1 : 16 ≤ s.kids.length
  · rw [if_pos h1] at h; cases h; cases hk
  rw [if_neg h1] at h ⊢
  by_cases h2 : kidB t.p ((s.kids.length : Int) + 1) = false
  · rw [if_pos h2] at h; cases h; cases hk
  rw [if_neg h2]
  exact ⟨hr, _, _, rfl, rfl⟩
def Told (s : Vs) : Prop := s.result = none ∧ ∃ l c, s.kids = l ++ [c] ∧ c.given = false
theorem stepV_told {p : List Fnc} {t : Tk} {s : Vs} {x : Sp} (hr : Runs s) (h : (stepV p t s).1 = some x) (hk : x.k = 2) : Told (stepV p t s).2 := by
  unfold stepV at h ⊢
  by_cases h0 : s.left = 0
  · rw [if_pos h0] at h; cases h; cases hk
  rw [if_neg h0] at h ⊢
  generalize atV p t s = o at *
  unfold opV2 at h ⊢
  by_cases k1 : o.k = 1
  · rw [if_pos k1] at h; cases h
  rw [if_neg k1] at h ⊢
  by_cases k10 : o.k = 10
  · rw [if_pos k10] at h; cases h
  rw [if_neg k10] at h ⊢
  by_cases k11 : o.k = 11
  · rw [if_pos k11] at h; cases h
  rw [if_neg k11] at h ⊢
  by_cases k12 : o.k = 12
  · rw [if_pos k12] at h ⊢
    exact forkV_told hr.2 h hk
  rw [if_neg k12] at h ⊢
  by_cases k13 : o.k = 13 ∨ o.k = 14
  · rw [if_pos k13] at h
    rcases joinV_kind x h with h | h <;> omega
  rw [if_neg k13] at h ⊢
  generalize hc : calcP _ _ _ = c at h
  cases c with
  | none => cases h; cases hk
  | some v => cases h
theorem stepsV_told {p : List Fnc} {t : Tk} : ∀ (n : Nat) (s : Vs), Runs s → (stepsV p t n s).1.k = 2 → Told (stepsV p t n s).2
  | 0, s, _, h => by cases h
  | n + 1, s, hr, h => by
    have h1 : ∀ x, (stepV p t s).1 = some x → x.k = 2 → Told (stepV p t s).2 := fun x => stepV_told hr
    have hg := stepV_goes (p := p) (t := t) hr
    unfold stepsV at h ⊢
    generalize stepV p t s = z at *
    obtain ⟨z1, z2⟩ := z
    cases z1 with
    | some x => exact h1 x rfl h
    | none => exact stepsV_told n z2 (hg.2 rfl).1 h
theorem runV_told {p : List Fnc} {t : Tk} {s : Vs} (n : Nat) (h : (runV p t n s).1.k = 2) : Told (runV p t n s).2 := by
  unfold runV at h ⊢
  cases hr : s.result with
  | some r => rw [hr] at h; cases h
  | none =>
    rw [hr] at h
    cases hw : s.waits with
    | none => rw [hw] at h; exact stepsV_told n s ⟨hw, hr⟩ h
    | some o =>
      rw [hw] at h
      have hk := joinV_kind (s := s) (o := o)
      have hg := joinV_goes (s := s) (o := o)
      simp only [] at h ⊢
      generalize joinV s o = z at *
      obtain ⟨z1, z2⟩ := z
      cases z1 with
      | some x => rcases hk x rfl with e | e <;> simp only [] at h <;> omega
      | none => exact stepsV_told n z2 (hg rfl hr).1 h
/-- So its last child can be given. -/
theorem Told.give {s : Vs} (h : Told s) (r : Rs) : (giveV s s.kids.length r).1 = 0 ∧ (giveV s s.kids.length r).2.left = s.left := by
  obtain ⟨hr, l, c, hk, hc⟩ := h
  unfold giveV
  rw [if_neg (by rw [hk]; simp; omega), if_neg, if_neg (by rw [hr]; simp)]
  · exact ⟨rfl, rfl⟩
  · rw [hk]
    simp [hc]
end Go.Proofs.YtdhbjejejeljoaaGreat
