/- A forest that is over is its task's tree; sweeps come to an end, plainly. -/
import Derived.Test.YtdhbjejejeljoaaGreatEvP3
import Derived.Test.YtdhbjejejeljoaaGreatVmL2
import Derived.Test.YtdhbjejejeljoaaGreatBranch3
namespace Go.Proofs.YtdhbjejejeljoaaGreat
open Go.RowKit

/-- What a task comes to, and its tree. -/
def dW (p : List Fnc) (t : Tk) : Rs × List Dn := doP p (t.fuel.toNat + 1) t
def runW (p : List Fnc) (t : Tk) : St × Rs := runP p (dW p) t (t.fuel.toNat + 1) (beginS p t)
theorem dW_eq {p : List Fnc} {t : Tk} (hp : WfP p) (ht : TkOk p t) : dW p t = ((runW p t).2, ⟨t, (runW p t).2, (runW p t).1.kids⟩ :: (runW p t).1.done) := by
  have h0 := ht.u0
  have hD : DOk p (doP p t.fuel.toNat) t.fuel := fun k' h1 h2 => doP_ok hp _ k' h1 (by omega)
  have h := runP_congr hp ht hD (D' := dW p) (fun k hk hf => doP_deep hp _ _ k hk (by have := hk.u0; omega) (by have := hk.u0; omega)) (t.fuel.toNat + 1) (beginS p t) (beginS_inv hp ht) (begin_at hp ht)
  have e : dW p t = ((runP p (doP p t.fuel.toNat) t (t.fuel.toNat + 1) (beginS p t)).2, ⟨t, (runP p (doP p t.fuel.toNat) t (t.fuel.toNat + 1) (beginS p t)).2, (runP p (doP p t.fuel.toNat) t (t.fuel.toNat + 1) (beginS p t)).1.kids⟩ :: (runP p (doP p t.fuel.toNat) t (t.fuel.toNat + 1) (beginS p t)).1.done) := rfl
  rw [e, h]; rfl
/-- A frame, as the task that is done whole has it. -/
def sgV (p : List Fnc) (s : Vs) (kt : List Tk) : St :=
  { regs := s.regs, pc := s.pc, left := s.left, kids := s.kids.length, into := (s.kids.map (·.into)).drop s.joined, waits := (kt.map fun k => (dW p k).1).drop s.joined, done := (kt.map fun k => (dW p k).2).flatten }
/-- What comes of a join. -/
def endJ (p : List Fnc) (t : Tk) (n : Nat) (s : St) (o : Opr) : St × Rs :=
  if (joinS s).1 ≠ 0 then ((joinS s).2, ⟨0, (joinS s).1⟩) else if o.k = 14 then ((joinS s).2, ⟨rg (joinS s).2.regs o.a, 0⟩) else runP p (dW p) t n (joinS s).2
def contV (p : List Fnc) (t : Tk) (n : Nat) (s : Vs) (kt : List Tk) : St × Rs :=
  match s.waits with
  | none => runP p (dW p) t n (sgV p s kt)
  | some o => endJ p t n (sgV p s kt) o
/-- A frame whose children are these tasks goes the way of the whole run. -/
structure SimV (p : List Fnc) (t : Tk) (s : Vs) (kt : List Tk) : Prop where
  len : kt.length = s.kids.length
  gv : ∀ (c : Nat) (ch : Ch) (k : Tk), s.kids[c]? = some ch → kt[c]? = some k → ch.given = true → ch.r = (dW p k).1
  go : s.result = none → ∃ n : Nat, s.left < n ∧ contV p t n s kt = runW p t
  fin : ∀ r, s.result = some r → (runW p t).2 = r ∧ (runW p t).1.kids = s.kids.length ∧ (runW p t).1.done = (kt.map fun k => (dW p k).2).flatten
/-- What a run of some ops leaves. -/
def OutV (p : List Fnc) (t : Tk) (kt : List Tk) (K : List Ch) (y : Sp) (s : Vs) : Prop :=
  (y.k = 1 ∧ s.kids = K ∧ s.result = none ∧ s.waits = none ∧ SimV p t s kt) ∨
  (y.k = 2 ∧ s.result = none ∧ s.waits = none ∧ TkOk p y.kid ∧ y.kid.p = kidS t.p ((K.length : Int) + 1) ∧ kidB t.p ((K.length : Int) + 1) = true ∧ (∃ d, s.kids = K ++ [⟨d, false, ⟨0, 0⟩⟩]) ∧ SimV p t s (kt ++ [y.kid])) ∨
  (y.k = 3 ∧ s.kids = K ∧ s.result = none ∧ SimV p t s kt) ∨
  (y.k = 4 ∧ s.kids = K ∧ s.result = some y.r ∧ SimV p t s kt)
section
variable {p : List Fnc} {t : Tk} {s : Vs} {kt : List Tk} {o : Opr}
theorem sg_into : (sgV p s kt).into = (openV s).map (·.into) := by
  unfold sgV openV; simp only [List.map_drop]
theorem sg_waits (hl : kt.length = s.kids.length) (hg : ∀ (c : Nat) (ch : Ch) (k : Tk), s.kids[c]? = some ch → kt[c]? = some k → ch.given = true → ch.r = (dW p k).1) (ha : ¬ (openV s).any (fun c => !c.given) = true) : (sgV p s kt).waits = (openV s).map (·.r) := by
  unfold sgV
  simp only []
  refine List.ext_getElem? fun i => ?_
  unfold openV at ha ⊢
  rw [List.getElem?_drop, List.getElem?_map, List.getElem?_map, List.getElem?_drop]
  cases hc : s.kids[s.joined + i]? with
  | none =>
    have h1 := List.getElem?_eq_none_iff.1 hc
    rw [List.getElem?_eq_none (by omega)]
    rfl
  | some ch =>
    obtain ⟨h1, _⟩ := List.getElem?_eq_some_iff.1 hc
    have h2 : kt[s.joined + i]? = some (kt[s.joined + i]'(by omega)) := List.getElem?_eq_getElem _
    rw [h2]
    have h3 : ch.given = true := by
      cases hg3 : ch.given with
      | true => rfl
      | false =>
        refine absurd (List.any_eq_true.2 ⟨ch, ?_, by simp [hg3]⟩) ha
        exact List.mem_of_getElem? (by rw [List.getElem?_drop]; exact hc)
    simp only [Option.map_some]
    rw [hg _ ch _ hc h2 h3]
theorem joinS_eq {σ : St} {q : Int × St} (h : joinS σ = q) : joinS σ = q := h
/-- A join. -/
theorem joinV_sim {n : Nat} {F : St × Rs} (hl : kt.length = s.kids.length) (hg : ∀ (c : Nat) (ch : Ch) (k : Tk), s.kids[c]? = some ch → kt[c]? = some k → ch.given = true → ch.r = (dW p k).1) (hr : s.result = none) (hF : endJ p t n (sgV p s kt) o = F) :
    (joinV s o).2.kids = s.kids ∧ ((joinV s o).1 = none → Runs (joinV s o).2 ∧ (joinV s o).2.left = s.left ∧ runP p (dW p) t n (sgV p (joinV s o).2 kt) = F) ∧
      ∀ y, (joinV s o).1 = some y → (y.k = 3 ∧ (joinV s o).2 = { s with waits := some o }) ∨ (y.k = 4 ∧ (joinV s o).2.result = some y.r ∧ F.2 = y.r ∧ F.1.kids = s.kids.length ∧ F.1.done = (kt.map fun k => (dW p k).2).flatten) := by
  unfold joinV
  by_cases h1 : (openV s).any (fun c => !c.given) = true
  · rw [if_pos h1]
    refine ⟨rfl, fun h => (by cases h), fun y h => ?_⟩
    cases h
    exact .inl ⟨rfl, rfl⟩
  rw [if_neg h1]
  simp only []
  have hw := sg_waits hl hg h1
  have hi : (sgV p s kt).into = (openV s).map (·.into) := sg_into
  have he : (sgV p s kt).waits.map (·.e) = (openV s).map (·.r.e) := by rw [hw, List.map_map]; rfl
  unfold endJ joinS at hF
  rw [he, hi, hw] at hF
  by_cases h2 : firstE ((openV s).map (·.r.e)) ≠ 0
  · rw [if_pos h2]
    rw [if_pos h2, if_pos h2] at hF
    refine ⟨rfl, fun h => (by cases h), fun y h => ?_⟩
    unfold endV at h ⊢
    cases h
    subst hF
    exact .inr ⟨rfl, rfl, rfl, rfl, rfl⟩
  rw [if_neg h2]
  rw [if_neg h2, if_neg (by simp)] at hF
  by_cases h3 : o.k = 14
  · rw [if_pos h3]
    rw [if_pos h3] at hF
    refine ⟨rfl, fun h => (by cases h), fun y h => ?_⟩
    unfold endV at h ⊢
    cases h
    subst hF
    exact .inr ⟨rfl, rfl, rfl, rfl, rfl⟩
  · rw [if_neg h3]
    rw [if_neg h3] at hF
    refine ⟨rfl, fun _ => ⟨⟨rfl, hr⟩, rfl, ?_⟩, fun y h => by cases h⟩
    rw [← hF]
    congr 1
    unfold sgV
    simp only [St.mk.injEq, and_true, true_and]
    exact ⟨List.drop_eq_nil_of_le (by simp), List.drop_eq_nil_of_le (by simp [hl])⟩
end
end Go.Proofs.YtdhbjejejeljoaaGreat
namespace Go.Proofs.YtdhbjejejeljoaaGreat
open Go.RowKit

theorem stepP_op {p : List Fnc} {D : Tk → Rs × List Dn} {t : Tk} {σ : St} (h : σ.left ≠ 0) {b : Bool} {e : Int} {σ' : St} (hop : opS p D t { σ with left := σ.left - 1 } (opAt p t σ) = (b, e, σ')) :
    stepP p D t σ = if e ≠ 0 then .stop σ' ⟨0, e⟩ else if b = true then .stop σ' ⟨rg σ'.regs (opAt p t σ).a, 0⟩ else .go σ' := by
  unfold stepP
  rw [if_neg h]
  simp only [hop]
theorem runP_go {p : List Fnc} {D : Tk → Rs × List Dn} {t : Tk} {σ σ' : St} {m : Nat} (h : stepP p D t σ = .go σ') : runP p D t (m + 1) σ = runP p D t m σ' := by
  rw [runP, h]
theorem runP_stop {p : List Fnc} {D : Tk → Rs × List Dn} {t : Tk} {σ σ' : St} {r : Rs} {m : Nat} (h : stepP p D t σ = .stop σ' r) : runP p D t (m + 1) σ = (σ', r) := by
  rw [runP, h]
section
variable {p : List Fnc} {t : Tk} {s : Vs} {kt : List Tk}
theorem stepV_sim (hp : WfP p) (ht : TkOk p t) (hi : InvV p t s) (hr : Runs s) (ha : s.pc < (fnAt p t.fn).ops.length) (h : SimV p t s kt) :
    ((stepV p t s).1 = none → (stepV p t s).2.kids = s.kids ∧ SimV p t (stepV p t s).2 kt) ∧ ∀ y, (stepV p t s).1 = some y → OutV p t kt s.kids y (stepV p t s).2 := by
  obtain ⟨n, hn, hc⟩ := h.go hr.2
  have hl0 := hi.l0
  obtain ⟨m, rfl⟩ : ∃ m, n = m + 1 := ⟨n - 1, by omega⟩
  have hF : runP p (dW p) t (m + 1) (sgV p s kt) = runW p t := by
    have h1 := hc
    unfold contV at h1
    rw [hr.1] at h1
    exact h1
  have fin : ∀ (r : Rs) (s' : Vs), s'.kids = s.kids → s'.result = some r → (runW p t).2 = r → (runW p t).1.kids = s.kids.length → (runW p t).1.done = (kt.map fun k => (dW p k).2).flatten → SimV p t s' kt :=
    fun r s' e1 e2 e3 e4 e5 => ⟨by rw [e1]; exact h.len, by rw [e1]; exact h.gv, fun e => (by rw [e2] at e; cases e), fun r' e => by rw [e2] at e; cases e; exact ⟨e3, by rw [e1]; exact e4, e5⟩⟩
  unfold stepV
  by_cases hz : s.left = 0
  · rw [if_pos hz]
    have hs : stepP p (dW p) t (sgV p s kt) = .stop (sgV p s kt) ⟨0, 130⟩ := by
      unfold stepP
      rw [if_pos (show (sgV p s kt).left = 0 from hz)]
    rw [runP_stop hs] at hF
    refine ⟨fun h => (by cases h), fun y hy => ?_⟩
    unfold endV at hy ⊢
    cases hy
    exact .inr (.inr (.inr ⟨rfl, rfl, rfl, fin _ _ rfl rfl (by rw [← hF]) (by rw [← hF]; rfl) (by rw [← hF]; rfl)⟩))
  rw [if_neg hz]
  have hz' : (sgV p s kt).left ≠ 0 := hz
  have ho : OpOk p (fnAt p t.fn) (atV p t s) := atV_ok hp ht hi.pc0 ha
  have hst : ∀ (b : Bool) (e : Int) (σ' : St), opS p (dW p) t { sgV p s kt with left := s.left - 1 } (atV p t s) = (b, e, σ') → stepP p (dW p) t (sgV p s kt) = if e ≠ 0 then .stop σ' ⟨0, e⟩ else if b = true then .stop σ' ⟨rg σ'.regs (atV p t s).a, 0⟩ else .go σ' :=
    fun b e σ' hop => stepP_op (σ := sgV p s kt) hz' hop
  generalize atV p t s = o at *
  have go : ∀ s' : Vs, opS p (dW p) t { sgV p s kt with left := s.left - 1 } o = (false, 0, sgV p s' kt) → s'.kids = s.kids → s'.waits = none → s'.result = none → s'.left = s.left - 1 → SimV p t s' kt := by
    intro s' hop e1 e2 e3 e4
    have hs := hst _ _ _ hop
    rw [if_neg (by simp), if_neg (by simp)] at hs
    rw [runP_go hs] at hF
    exact ⟨by rw [e1]; exact h.len, by rw [e1]; exact h.gv, fun _ => ⟨m, by omega, by unfold contV; rw [e2]; exact hF⟩, fun r e => by rw [e3] at e; cases e⟩
  have stop : ∀ (s' : Vs) (b : Bool) (e : Int), e ≠ 0 → opS p (dW p) t { sgV p s kt with left := s.left - 1 } o = (b, e, sgV p s' kt) → s'.kids = s.kids → SimV p t { s' with result := some ⟨0, e⟩ } kt := by
    intro s' b e he hop e1
    have hs := hst _ _ _ hop
    rw [if_pos he] at hs
    rw [runP_stop hs] at hF
    exact fin _ _ e1 rfl (by rw [← hF]) (by rw [← hF]; show ((s'.kids.length : Nat) : Int) = _; rw [e1]) (by rw [← hF]; rfl)
  unfold opV2
  by_cases k1 : o.k = 1
  · rw [if_pos k1]
    refine ⟨fun _ => ⟨rfl, go _ ?_ rfl hr.1 hr.2 rfl⟩, fun y h => by cases h⟩
    unfold opS; simp only []; rw [if_pos k1]; rfl
  rw [if_neg k1]
  by_cases k10 : o.k = 10
  · rw [if_pos k10]
    refine ⟨fun _ => ⟨rfl, go _ ?_ rfl hr.1 hr.2 rfl⟩, fun y h => by cases h⟩
    unfold opS; simp only []; rw [if_neg k1, if_pos k10]; rfl
  rw [if_neg k10]
  by_cases k11 : o.k = 11
  · rw [if_pos k11]
    by_cases h0 : rg s.regs o.a = 0
    · refine ⟨fun _ => ?_, fun y h => by cases h⟩
      simp only []
      rw [if_pos h0]
      refine ⟨rfl, go _ ?_ rfl hr.1 hr.2 rfl⟩
      unfold opS; simp only []; rw [if_neg k1, if_neg k10, if_pos k11, if_pos (show rg (sgV p s kt).regs o.a = 0 from h0)]; rfl
    · refine ⟨fun _ => ?_, fun y h => by cases h⟩
      simp only []
      rw [if_neg h0]
      refine ⟨rfl, go _ ?_ rfl hr.1 hr.2 rfl⟩
      unfold opS; simp only []; rw [if_neg k1, if_neg k10, if_pos k11, if_neg (show ¬ rg (sgV p s kt).regs o.a = 0 from h0)]; rfl
  rw [if_neg k11]
  by_cases k12 : o.k = 12
  · rw [if_pos k12]
    have hop : opS p (dW p) t { sgV p s kt with left := s.left - 1 } o = (false, forkS p (dW p) t (sgV p { s with left := s.left - 1, pc := s.pc + 1 } kt) o) := by
      unfold opS; simp only []; rw [if_neg k1, if_neg k10, if_neg k11, if_pos k12]; rfl
    unfold forkV
    simp only []
    by_cases h16 : 16 ≤ s.kids.length
    · rw [if_pos h16]
      unfold forkS at hop
      rw [show (sgV p { s with left := s.left - 1, pc := s.pc + 1 } kt).kids = (s.kids.length : Int) from rfl] at hop
      rw [if_pos (show (16 : Int) ≤ (s.kids.length : Int) by omega)] at hop
      refine ⟨fun h => (by cases h), fun y hy => ?_⟩
      unfold endV at hy ⊢
      cases hy
      exact .inr (.inr (.inr ⟨rfl, rfl, rfl, stop _ _ _ (by decide) hop rfl⟩))
    rw [if_neg h16]
    unfold forkS at hop
    rw [show (sgV p { s with left := s.left - 1, pc := s.pc + 1 } kt).kids = (s.kids.length : Int) from rfl] at hop
    rw [if_neg (show ¬ (16 : Int) ≤ (s.kids.length : Int) by omega)] at hop
    by_cases hb : kidB t.p ((s.kids.length : Int) + 1) = false
    · rw [if_pos hb]
      rw [if_pos (show kidB t.p ((s.kids.length : Int) + 1) = false from hb)] at hop
      refine ⟨fun h => (by cases h), fun y hy => ?_⟩
      unfold endV at hy ⊢
      cases hy
      exact .inr (.inr (.inr ⟨rfl, rfl, rfl, stop _ _ _ (by decide) hop rfl⟩))
    rw [if_neg hb]
    rw [if_neg (show ¬ kidB t.p ((s.kids.length : Int) + 1) = false from hb)] at hop
    have hbt : kidB t.p ((s.kids.length : Int) + 1) = true := by simpa using hb
    refine ⟨fun h => (by cases h), fun y hy => ?_⟩
    cases hy
    refine .inr (.inl ⟨rfl, hr.2, hr.1, ?_, rfl, hbt, ⟨o.d, rfl⟩, ?_⟩)
    · obtain ⟨h1, h2, h3⟩ := ho.fk k12
      have hf := hp.fn h1 h2
      have hrl := hi.rl
      have h4 := hf.r0
      have hu := hi.l1
      have ha0 := ho.a0
      have hf2 := hp.fn ht.f0 ht.f1
      refine ⟨h1, h2, ?_, ?_, ?_, kidS_size hbt⟩
      · simp only [kidV, List.length_take, List.length_drop]
        by_cases h5 : 0 < (fnAt p o.n).args
        · have := h3 h5; omega
        · omega
      · simp only [kidV]; omega
      · simp only [kidV]; omega
    · have hs := hst _ _ _ hop
      rw [if_neg (by simp), if_neg (by simp)] at hs
      rw [runP_go hs] at hF
      have hk : kidT p t (sgV p { s with left := s.left - 1, pc := s.pc + 1 } kt) o = kidV p t { s with left := s.left - 1, pc := s.pc + 1 } o := rfl
      rw [hk] at hF
      generalize hkk : kidV p t { s with left := s.left - 1, pc := s.pc + 1 } o = kk at hF ⊢
      refine ⟨by simp [h.len], ?_, fun _ => ⟨m, ?_, ?_⟩, fun r e => ?_⟩
      · intro c ch k hc hk2 hgv
        by_cases hlt : c < s.kids.length
        · simp only [] at hc
          rw [List.getElem?_append_left hlt] at hc
          rw [List.getElem?_append_left (by rw [h.len]; exact hlt)] at hk2
          exact h.gv c ch k hc hk2 hgv
        · simp only [] at hc
          rw [List.getElem?_append_right (by omega)] at hc
          have : c - s.kids.length = 0 := by
            have := (List.getElem?_eq_some_iff.1 hc).1
            simp at this; omega
          rw [this] at hc
          simp at hc
          subst hc
          cases hgv
      · simp only []; omega
      · unfold contV
        simp only []
        rw [hr.1]
        simp only []
        rw [← hF]
        congr 1
        have hj := hi.jl
        unfold sgV
        simp only [List.map_append, List.map_cons, List.map_nil, List.flatten_append, List.length_append, List.length_cons, List.length_nil, St.mk.injEq, true_and]
        refine ⟨by omega, ?_, ?_, by simp⟩
        · rw [List.drop_append_of_le_length (by simpa using hj)]
        · rw [List.drop_append_of_le_length (by simpa [h.len] using hj)]
      · simp only [] at e
        rw [hr.2] at e; cases e
  rw [if_neg k12]
  by_cases k13 : o.k = 13 ∨ o.k = 14
  · rw [if_pos k13]
    have hE : endJ p t m (sgV p { s with left := s.left - 1, pc := s.pc + 1 } kt) o = runW p t := by
      rw [← hF]
      unfold endJ
      have hop : opS p (dW p) t { sgV p s kt with left := s.left - 1 } o = (decide (o.k = 14), joinS (sgV p { s with left := s.left - 1, pc := s.pc + 1 } kt)) := by
        unfold opS; simp only []; rw [if_neg k1, if_neg k10, if_neg k11, if_neg k12]
        rcases k13 with k | k
        · rw [if_pos k, k]; rfl
        · rw [if_neg (by omega), if_pos k, k]; rfl
      generalize joinS (sgV p { s with left := s.left - 1, pc := s.pc + 1 } kt) = q at *
      obtain ⟨q1, q2⟩ := q
      have hs := hst _ _ _ hop
      by_cases hq : q1 ≠ 0
      · rw [if_pos hq] at hs
        rw [if_pos hq, runP_stop hs]
      · rw [if_neg hq] at hs
        rw [if_neg hq]
        by_cases h14 : o.k = 14
        · rw [if_pos (by simp [h14])] at hs
          rw [if_pos h14, runP_stop hs]
        · rw [if_neg (by simp [h14])] at hs
          rw [if_neg h14, runP_go hs]
    obtain ⟨g1, g2, g3⟩ := joinV_sim (s := { s with left := s.left - 1, pc := s.pc + 1 }) (kt := kt) (o := o) (n := m) h.len h.gv hr.2 hE
    generalize joinV { s with left := s.left - 1, pc := s.pc + 1 } o = q at *
    obtain ⟨q1, q2⟩ := q
    simp only [] at g1 g2 g3 ⊢
    refine ⟨fun e => ?_, fun y e => ?_⟩
    · obtain ⟨e1, e2, e3⟩ := g2 e
      refine ⟨g1, by rw [g1]; exact h.len, by rw [g1]; exact h.gv, fun _ => ⟨m, by rw [e2]; omega, by unfold contV; rw [e1.1]; exact e3⟩, fun r e4 => by rw [e1.2] at e4; cases e4⟩
    · rcases g3 y e with ⟨h3, h4⟩ | ⟨h3, h4, h5, h6, h7⟩
      · subst h4
        exact .inr (.inr (.inl ⟨h3, rfl, hr.2, h.len, h.gv, fun _ => ⟨m, by simp only []; omega, hE⟩, fun r e4 => by simp only [] at e4; rw [hr.2] at e4; cases e4⟩))
      · exact .inr (.inr (.inr ⟨h3, g1, h4, fin _ _ g1 h4 h5 h6 h7⟩))
  rw [if_neg k13]
  have n13 : o.k ≠ 13 := fun e => k13 (.inl e)
  have n14 : o.k ≠ 14 := fun e => k13 (.inr e)
  cases hc : calcP o.k (rg s.regs o.a) (rg s.regs o.b) with
  | none =>
    refine ⟨fun h => (by cases h), fun y hy => ?_⟩
    unfold endV at hy ⊢
    cases hy
    refine .inr (.inr (.inr ⟨rfl, rfl, rfl, stop { s with left := s.left - 1, pc := s.pc + 1 } true _ (by decide) ?_ rfl⟩))
    unfold opS; simp only []; rw [if_neg k1, if_neg k10, if_neg k11, if_neg k12, if_neg n13, if_neg n14, show calcP o.k (rg (sgV p s kt).regs o.a) (rg (sgV p s kt).regs o.b) = none from hc]; rfl
  | some x =>
    refine ⟨fun _ => ⟨rfl, go _ ?_ rfl hr.1 hr.2 rfl⟩, fun y h => by cases h⟩
    unfold opS; simp only []; rw [if_neg k1, if_neg k10, if_neg k11, if_neg k12, if_neg n13, if_neg n14, show calcP o.k (rg (sgV p s kt).regs o.a) (rg (sgV p s kt).regs o.b) = some x from hc]; rfl
end
theorem stepsV_sim {p : List Fnc} {t : Tk} {kt : List Tk} (hp : WfP p) (ht : TkOk p t) : ∀ (n : Nat) (s : Vs), InvV p t s → AtV p t s → Runs s → SimV p t s kt → OutV p t kt s.kids (stepsV p t n s).1 (stepsV p t n s).2
  | 0, s, _, _, hr, h => .inl ⟨rfl, rfl, hr.2, hr.1, h⟩
  | n + 1, s, hi, ha, hr, h => by
    obtain ⟨g1, g2⟩ := stepV_sim hp ht hi hr (ha.runs hr) h
    have h1 := stepV_inv hp ht hi hr (ha.runs hr)
    have hg := stepV_goes (p := p) (t := t) hr
    unfold stepsV
    generalize stepV p t s = z at *
    obtain ⟨z1, z2⟩ := z
    cases z1 with
    | some x => exact g2 x rfl
    | none =>
      obtain ⟨e1, e2⟩ := g1 rfl
      simp only [] at e1
      rw [← e1]
      exact stepsV_sim hp ht n z2 h1.1 h1.2 (hg.2 rfl).1 e2
theorem runV_sim {p : List Fnc} {t : Tk} {s : Vs} {kt : List Tk} (hp : WfP p) (ht : TkOk p t) (n : Nat) (hi : InvV p t s) (ha : AtV p t s) (hrs : s.result = none) (h : SimV p t s kt) : OutV p t kt s.kids (runV p t n s).1 (runV p t n s).2 := by
  unfold runV
  rw [hrs]
  simp only []
  cases hw : s.waits with
  | none => exact stepsV_sim hp ht n s hi ha ⟨hw, hrs⟩ h
  | some o =>
    obtain ⟨m, hm, hc⟩ := h.go hrs
    have hE : endJ p t m (sgV p s kt) o = runW p t := by
      unfold contV at hc
      rw [hw] at hc
      exact hc
    obtain ⟨g1, g2, g3⟩ := joinV_sim (s := s) (kt := kt) (o := o) (n := m) h.len h.gv hrs hE
    have h1 := joinV_at hi ha hw hrs
    simp only []
    generalize joinV s o = q at *
    obtain ⟨q1, q2⟩ := q
    simp only [] at g1 g2 g3 h1 ⊢
    cases q1 with
    | none =>
      obtain ⟨e1, e2, e3⟩ := g2 rfl
      rw [← g1]
      exact stepsV_sim hp ht n q2 h1.1 h1.2 e1 ⟨by rw [g1]; exact h.len, by rw [g1]; exact h.gv, fun _ => ⟨m, by rw [e2]; omega, by unfold contV; rw [e1.1]; exact e3⟩, fun r e4 => by rw [e1.2] at e4; cases e4⟩
    | some y =>
      rcases g3 y rfl with ⟨h3, h4⟩ | ⟨h3, h4, h5, h6, h7⟩
      · subst h4
        exact .inr (.inr (.inl ⟨h3, rfl, hrs, h.len, h.gv, fun _ => ⟨m, hm, hE⟩, fun r e4 => by simp only [] at e4; rw [hrs] at e4; cases e4⟩))
      · exact .inr (.inr (.inr ⟨h3, g1, h4, by rw [g1]; exact h.len, by rw [g1]; exact h.gv, fun e => (by rw [h4] at e; cases e), fun r e => by rw [h4] at e; cases e; exact ⟨h5, by rw [g1]; exact h6, h7⟩⟩))
end Go.Proofs.YtdhbjejejeljoaaGreat
namespace Go.Proofs.YtdhbjejejeljoaaGreat
open Go.RowKit

def kf (y : Sp) : Int := if y.k = 2 then y.kid.fuel else 0
def kfO : Option Sp → Int
  | none => 0
  | some y => kf y
theorem joinV_spend {s : Vs} {o : Opr} : (joinV s o).2.left = s.left ∧ kfO (joinV s o).1 = 0 ∧ ((openV s).any (fun c => !c.given) = false → (joinV s o).1 = none ∨ ∃ y, (joinV s o).1 = some y ∧ y.k = 4) := by
  unfold joinV
  by_cases h1 : (openV s).any (fun c => !c.given) = true
  · rw [if_pos h1]
    exact ⟨rfl, rfl, fun h => by rw [h1] at h; cases h⟩
  rw [if_neg h1]
  simp only []
  by_cases h2 : firstE ((openV s).map (·.r.e)) ≠ 0
  · rw [if_pos h2]; exact ⟨rfl, rfl, fun _ => .inr ⟨_, rfl, rfl⟩⟩
  rw [if_neg h2]
  by_cases h3 : o.k = 14
  · rw [if_pos h3]; exact ⟨rfl, rfl, fun _ => .inr ⟨_, rfl, rfl⟩⟩
  · rw [if_neg h3]; exact ⟨rfl, rfl, fun _ => .inl rfl⟩
theorem stepV_spend {p : List Fnc} {t : Tk} {s : Vs} (h0 : 0 ≤ s.left) : (stepV p t s).2.left + kfO (stepV p t s).1 ≤ s.left ∧ ((∃ y, (stepV p t s).1 = some y ∧ y.k = 4) ∨ (stepV p t s).2.left + kfO (stepV p t s).1 + 1 ≤ s.left) := by
  unfold stepV
  by_cases hz : s.left = 0
  · rw [if_pos hz]; exact ⟨by show s.left + 0 ≤ s.left; omega, .inl ⟨_, rfl, rfl⟩⟩
  rw [if_neg hz]
  generalize atV p t s = o
  have one : ∀ q : Option Sp × Vs, q.2.left = s.left - 1 → kfO q.1 = 0 → q.2.left + kfO q.1 ≤ s.left ∧ ((∃ y, q.1 = some y ∧ y.k = 4) ∨ q.2.left + kfO q.1 + 1 ≤ s.left) := fun q e1 e2 => by
    rw [e1, e2]; exact ⟨by omega, .inr (by omega)⟩
  unfold opV2
  by_cases k1 : o.k = 1
  · rw [if_pos k1]; exact one _ rfl rfl
  rw [if_neg k1]
  by_cases k10 : o.k = 10
  · rw [if_pos k10]; exact one _ rfl rfl
  rw [if_neg k10]
  by_cases k11 : o.k = 11
  · rw [if_pos k11]
    refine one _ ?_ rfl
    simp only []
    split <;> rfl
  rw [if_neg k11]
  by_cases k12 : o.k = 12
  · rw [if_pos k12]
    unfold forkV
    simp only []
    split
    · exact one _ rfl rfl
    · split
      · exact one _ rfl rfl
      · simp only [kfO, kf, if_true, kidV]
        exact ⟨by omega, .inr (by omega)⟩
  rw [if_neg k12]
  by_cases k13 : o.k = 13 ∨ o.k = 14
  · rw [if_pos k13]
    obtain ⟨e1, e2, _⟩ := joinV_spend (s := { s with left := s.left - 1, pc := s.pc + 1 }) (o := o)
    exact one _ e1 e2
  rw [if_neg k13]
  cases calcP o.k (rg s.regs o.a) (rg s.regs o.b) with
  | none => exact one _ rfl rfl
  | some x => exact one _ rfl rfl
theorem stepsV_spend {p : List Fnc} {t : Tk} (hp : WfP p) (ht : TkOk p t) : ∀ (n : Nat) (s : Vs), InvV p t s → AtV p t s → Runs s →
    (stepsV p t n s).2.left + kf (stepsV p t n s).1 ≤ s.left ∧ (1 ≤ n → (stepsV p t n s).1.k = 4 ∨ (stepsV p t n s).2.left + kf (stepsV p t n s).1 + 1 ≤ s.left)
  | 0, s, _, _, _ => ⟨by show s.left + 0 ≤ s.left; omega, fun h => by omega⟩
  | n + 1, s, hi, ha, hr => by
    have h1 := stepV_inv hp ht hi hr (ha.runs hr)
    have hg := stepV_goes (p := p) (t := t) hr
    have hs := stepV_spend (p := p) (t := t) hi.l0
    unfold stepsV
    generalize stepV p t s = z at *
    obtain ⟨z1, z2⟩ := z
    cases z1 with
    | some x =>
      refine ⟨hs.1, fun _ => ?_⟩
      rcases hs.2 with ⟨y, e, h4⟩ | h
      · cases e; exact .inl h4
      · exact .inr h
    | none =>
      have hq := stepsV_spend hp ht n z2 h1.1 h1.2 (hg.2 rfl).1
      have hl := (hg.2 rfl).2.1
      simp only [] at hl hq ⊢
      exact ⟨by omega, fun _ => .inr (by omega)⟩
theorem runV_spend {p : List Fnc} {t : Tk} {s : Vs} (hp : WfP p) (ht : TkOk p t) (n : Nat) (hi : InvV p t s) (ha : AtV p t s) (hrs : s.result = none) :
    (runV p t n s).2.left + kf (runV p t n s).1 ≤ s.left ∧ (1 ≤ n → (s.waits = none ∨ (openV s).any (fun c => !c.given) = false) → (runV p t n s).1.k = 4 ∨ (runV p t n s).2.left + kf (runV p t n s).1 + 1 ≤ s.left) := by
  unfold runV
  rw [hrs]
  simp only []
  cases hw : s.waits with
  | none =>
    obtain ⟨h1, h2⟩ := stepsV_spend hp ht n s hi ha ⟨hw, hrs⟩
    exact ⟨h1, fun hn _ => h2 hn⟩
  | some o =>
    have h1 := joinV_at hi ha hw hrs
    have hg := joinV_goes (s := s) (o := o)
    obtain ⟨e1, e2, e3⟩ := joinV_spend (s := s) (o := o)
    simp only []
    generalize joinV s o = z at *
    obtain ⟨z1, z2⟩ := z
    cases z1 with
    | some x =>
      simp only [kfO] at e1 e2 e3 ⊢
      refine ⟨by omega, fun _ hq => .inl ?_⟩
      rcases hq with hq | hq
      · cases hq
      · rcases e3 hq with h | ⟨y, h, h4⟩
        · cases h
        · cases h; exact h4
    | none =>
      obtain ⟨g1, g2⟩ := stepsV_spend hp ht n z2 h1.1 h1.2 (hg rfl hrs).1
      simp only [] at e1 g1 g2 ⊢
      exact ⟨by omega, fun hn _ => by rcases g2 hn with h | h; exact .inl h; exact .inr (by omega)⟩
theorem newV_sim {p : List Fnc} {t : Tk} (ht : TkOk p t) : SimV p t (newV p t) [] := by
  have h0 := ht.u0
  refine ⟨rfl, fun c ch k hc => by simp [newV] at hc, fun _ => ⟨t.fuel.toNat + 1, by show t.fuel < _; omega, rfl⟩, fun r e => by cases e⟩
theorem SimV.give {p : List Fnc} {t : Tk} {s : Vs} {kt : List Tk} {c : Nat} {k : Tk} {ch : Ch} (h : SimV p t s kt) (hk : kt[c]? = some k) (hc : s.kids[c]? = some ch) : SimV p t { s with kids := s.kids.set c ⟨ch.into, true, (dW p k).1⟩ } kt := by
  have hm : (s.kids.set c ⟨ch.into, true, (dW p k).1⟩).map (·.into) = s.kids.map (·.into) := by
    refine List.ext_getElem? fun i => ?_
    rw [List.getElem?_map, List.getElem?_map, List.getElem?_set]
    by_cases hi : c = i
    · subst hi
      rw [if_pos rfl, if_pos (List.getElem?_eq_some_iff.1 hc).1, hc]; rfl
    · rw [if_neg hi]
  have hsg : sgV p { s with kids := s.kids.set c ⟨ch.into, true, (dW p k).1⟩ } kt = sgV p s kt := by
    unfold sgV
    simp only [hm, List.length_set]
  refine ⟨by simp [h.len], fun c' ch' k' hc' hk' hg => ?_, fun hr => ?_, fun r hr => ?_⟩
  · simp only [] at hc'
    rw [List.getElem?_set] at hc'
    by_cases hi : c = c'
    · subst hi
      rw [if_pos rfl, if_pos (List.getElem?_eq_some_iff.1 hc).1] at hc'
      cases hc'
      rw [hk] at hk'
      cases hk'
      rfl
    · rw [if_neg hi] at hc'
      exact h.gv c' ch' k' hc' hk' hg
  · obtain ⟨n, h1, h2⟩ := h.go hr
    refine ⟨n, h1, ?_⟩
    rw [← h2]
    unfold contV
    rw [hsg]
  · obtain ⟨h1, h2, h3⟩ := h.fin r hr
    exact ⟨h1, by simpa using h2, h3⟩
end Go.Proofs.YtdhbjejejeljoaaGreat
namespace Go.Proofs.YtdhbjejejeljoaaGreat
open Go.RowKit

/-- A task of a forest: its frame, its children's places, its parent's place. -/
structure Nd where
  t : Tk
  s : Vs
  ks : List Nat
  par : Option Nat
instance : Inhabited Nd := ⟨⟨noTk, ⟨[], 0, 0, [], 0, none, none⟩, [], none⟩⟩
def tkA (l : List Nd) (j : Nat) : Tk := (l.getD j default).t
def ktOf (l : List Nd) (ks : List Nat) : List Tk := ks.map (tkA l)
def phN (n : Nd) : Int := 2 * n.s.left + (if n.s.result.isNone then 1 else 0)
def lfN (n : Nd) : Int := n.s.left + 1
def phi (l : List Nd) : Int := (l.map phN).sum
/-- What holds of a forest; X: one that is done, whose parent was not told yet. -/
structure Fo (p : List Fnc) (t0 : Tk) (X : Option Nat) (l : List Nd) : Prop where
  root : ∃ n : Nd, l[0]? = some n ∧ n.t = t0 ∧ n.par = none
  nd : ∀ (i : Nat) (n : Nd), l[i]? = some n → TkOk p n.t ∧ InvV p n.t n.s ∧ AtV p n.t n.s ∧ SimV p n.t n.s (ktOf l n.ks)
  par : ∀ (i : Nat) (n : Nd), l[i]? = some n → 0 < i → ∃ (q : Nat) (m : Nd) (c : Nat), n.par = some q ∧ l[q]? = some m ∧ m.ks[c]? = some i
  kid : ∀ (i : Nat) (n : Nd) (c j : Nat), l[i]? = some n → n.ks[c]? = some j → i < j ∧ ∃ (m : Nd) (ch : Ch), l[j]? = some m ∧ m.par = some i ∧ m.t.p = kidS n.t.p ((c : Int) + 1) ∧ kidB n.t.p ((c : Int) + 1) = true ∧ n.s.kids[c]? = some ch ∧ (ch.given = true → m.s.result ≠ none) ∧ (some j = X → ch.given = false) ∧ (n.s.result = none → m.s.result ≠ none → some j ≠ X → ch.given = true)
  all : ((l.map (·.ks)).flatten).Perm (List.range' 1 (l.length - 1))
  fu : (l.map lfN).sum ≤ t0.fuel + 1
section
variable {p : List Fnc} {t0 : Tk} {l : List Nd} {k : Nat} {nd nd' : Nd}
theorem set_get {x : Nd} (hk : l[k]? = some nd) {i : Nat} {n : Nd} (h : (l.set k x)[i]? = some n) : (i = k ∧ n = x) ∨ (i ≠ k ∧ l[i]? = some n) := by
  rw [List.getElem?_set] at h
  by_cases e : k = i
  · rw [if_pos e, if_pos (List.getElem?_eq_some_iff.1 hk).1] at h
    cases h
    exact .inl ⟨e.symm, rfl⟩
  · rw [if_neg e] at h
    exact .inr ⟨fun h => e h.symm, h⟩
theorem set_self {x : Nd} (hk : l[k]? = some nd) : (l.set k x)[k]? = some x := by
  rw [List.getElem?_set, if_pos rfl, if_pos (List.getElem?_eq_some_iff.1 hk).1]
theorem set_ne {x : Nd} {i : Nat} (h : i ≠ k) : (l.set k x)[i]? = l[i]? := by
  rw [List.getElem?_set, if_neg (fun e => h e.symm)]
theorem tkA_at {j : Nat} {n : Nd} (h : l[j]? = some n) : tkA l j = n.t := by
  unfold tkA; rw [List.getD_eq_getElem?_getD, h]; rfl
theorem tkA_set {x : Nd} (hk : l[k]? = some nd) (ht : x.t = nd.t) (j : Nat) : tkA (l.set k x) j = tkA l j := by
  by_cases e : j = k
  · subst e; rw [tkA_at (set_self hk), tkA_at hk, ht]
  · unfold tkA; rw [List.getD_eq_getElem?_getD, List.getD_eq_getElem?_getD, set_ne e]
theorem ktOf_set {x : Nd} (hk : l[k]? = some nd) (ht : x.t = nd.t) (ks : List Nat) : ktOf (l.set k x) ks = ktOf l ks := by
  unfold ktOf; exact List.map_congr_left fun j _ => tkA_set hk ht j
theorem ktOf_push {x : Nd} {ks : List Nat} (h : ∀ j ∈ ks, j < l.length) : ktOf (l ++ [x]) ks = ktOf l ks := by
  unfold ktOf
  refine List.map_congr_left fun j hj => ?_
  unfold tkA
  rw [List.getD_eq_getElem?_getD, List.getD_eq_getElem?_getD, List.getElem?_append_left (h j hj)]
theorem sum_set {f : Nd → Int} : ∀ (l : List Nd) (k : Nat) (n x : Nd), l[k]? = some n → ((l.set k x).map f).sum = (l.map f).sum - f n + f x
  | [], _, _, _, h => by simp at h
  | a :: l, 0, n, x, h => by
    simp at h
    subst h
    simp only [List.set_cons_zero, List.map_cons, List.sum_cons]; omega
  | a :: l, k + 1, n, x, h => by
    simp at h
    simp only [List.set_cons_succ, List.map_cons, List.sum_cons]
    rw [sum_set l k n x h]; omega
theorem ks_set : ∀ (l : List Nd) (k : Nat) (n x : Nd), l[k]? = some n → x.ks = n.ks → (l.set k x).map (·.ks) = l.map (·.ks)
  | [], _, _, _, h, _ => by simp at h
  | a :: l, 0, n, x, h, e => by simp at h; subst h; simp [e]
  | a :: l, k + 1, n, x, h, e => by simp at h; simp [ks_set l k n x h e]
theorem ks_grow {j : Nat} : ∀ (l : List Nd) (k : Nat) (n x : Nd), l[k]? = some n → x.ks = n.ks ++ [j] → (((l.set k x).map (·.ks)).flatten).Perm ((l.map (·.ks)).flatten ++ [j])
  | [], _, _, _, h, _ => by simp at h
  | a :: l, 0, n, x, h, e => by
    simp at h; subst h
    simp only [List.set_cons_zero, List.map_cons, List.flatten_cons, e, List.append_assoc]
    exact List.Perm.append_left _ List.perm_append_comm
  | a :: l, k + 1, n, x, h, e => by
    simp at h
    simp only [List.set_cons_succ, List.map_cons, List.flatten_cons, List.append_assoc]
    exact List.Perm.append_left _ (ks_grow l k n x h e)
theorem Fo.klen {X : Option Nat} (h : Fo p t0 X l) (hk : l[k]? = some nd) : nd.ks.length = nd.s.kids.length := by
  have := (h.nd k nd hk).2.2.2.len
  simpa [ktOf] using this
theorem Fo.ks_lt {X : Option Nat} (h : Fo p t0 X l) (hk : l[k]? = some nd) : ∀ j ∈ nd.ks, j < l.length := by
  intro j hj
  obtain ⟨c, hc⟩ := List.getElem?_of_mem hj
  obtain ⟨_, m, _, hm, _⟩ := h.kid k nd c j hk hc
  exact (List.getElem?_eq_some_iff.1 hm).1
/-- A frame has run: no child more. -/
theorem Fo.setS {s' : Vs} {X : Option Nat} (h : Fo p t0 none l) (hk : l[k]? = some nd) (hold : nd.s.result = none) (hi : InvV p nd.t s') (ha : AtV p nd.t s') (hkids : s'.kids = nd.s.kids) (hsim : SimV p nd.t s' (ktOf l nd.ks)) (hleft : s'.left ≤ nd.s.left)
    (hX : (s'.result = none ∧ X = none) ∨ (s'.result ≠ none ∧ X = some k)) : Fo p t0 X (l.set k { nd with s := s' }) := by
  have hkl := (List.getElem?_eq_some_iff.1 hk).1
  refine ⟨?_, ?_, ?_, ?_, ?_, ?_⟩
  · obtain ⟨n, h1, h2, h3⟩ := h.root
    by_cases e : 0 = k
    · subst e
      rw [hk] at h1; cases h1
      exact ⟨_, set_self hk, h2, h3⟩
    · exact ⟨n, by rw [set_ne e]; exact h1, h2, h3⟩
  · intro i n hn
    rw [ktOf_set (x := { nd with s := s' }) hk rfl]
    rcases set_get hk hn with ⟨_, rfl⟩ | ⟨_, hn⟩
    · exact ⟨(h.nd k nd hk).1, hi, ha, hsim⟩
    · exact h.nd i n hn
  · intro i n hn h0
    have key : ∃ (q : Nat) (m : Nd) (c : Nat), n.par = some q ∧ l[q]? = some m ∧ m.ks[c]? = some i := by
      rcases set_get hk hn with ⟨rfl, rfl⟩ | ⟨_, hn⟩
      · exact h.par _ nd hk h0
      · exact h.par i n hn h0
    obtain ⟨q, m, c, e1, e2, e3⟩ := key
    by_cases e : q = k
    · subst e
      rw [hk] at e2; cases e2
      exact ⟨q, _, c, e1, set_self hk, e3⟩
    · exact ⟨q, m, c, e1, by rw [set_ne e]; exact e2, e3⟩
  · intro i n c j hn hc
    have key : ∃ n0 : Nd, l[i]? = some n0 ∧ n.t = n0.t ∧ n.ks = n0.ks ∧ n.s.kids = n0.s.kids ∧ (n.s.result = none → n0.s.result = none) := by
      rcases set_get hk hn with ⟨rfl, rfl⟩ | ⟨_, hn⟩
      · exact ⟨nd, hk, rfl, rfl, hkids, fun _ => hold⟩
      · exact ⟨n, hn, rfl, rfl, rfl, id⟩
    obtain ⟨n0, hn0, et, ek, es, er⟩ := key
    rw [ek] at hc
    obtain ⟨h1, m, ch, h2, h3, h4, h5, h6, h7, h8, h9⟩ := h.kid i n0 c j hn0 hc
    refine ⟨h1, ?_⟩
    by_cases e : j = k
    · subst e
      rw [hk] at h2; cases h2
      have hng : ch.given = false := by
        cases hg : ch.given with
        | false => rfl
        | true => exact absurd hold (h7 hg)
      refine ⟨_, ch, set_self hk, h3, by rw [et]; exact h4, by rw [et]; exact h5, by rw [es]; exact h6, (fun hg => by rw [hng] at hg; cases hg), fun _ => hng, fun _ hr2 hx => ?_⟩
      rcases hX with ⟨h10, _⟩ | ⟨_, h10⟩
      · exact absurd h10 hr2
      · exact absurd h10.symm hx
    · refine ⟨m, ch, by rw [set_ne e]; exact h2, h3, by rw [et]; exact h4, by rw [et]; exact h5, by rw [es]; exact h6, h7, fun hx => ?_, fun hr1 hr2 _ => h9 (er hr1) hr2 (fun h => by cases h)⟩
      rcases hX with ⟨_, h10⟩ | ⟨_, h10⟩
      · rw [h10] at hx; cases hx
      · rw [h10] at hx; injection hx with hx; exact absurd hx e
  · rw [ks_set l k nd { nd with s := s' } hk rfl, List.length_set]
    exact h.all
  · rw [sum_set l k nd { nd with s := s' } hk]
    have := h.fu
    simp only [lfN] at *
    omega
/-- The one that is done has no parent. -/
theorem Fo.top (h : Fo p t0 (some 0) l) : Fo p t0 none l :=
  ⟨h.root, h.nd, h.par, fun i n c j hn hc => by
    obtain ⟨h1, m, ch, h2, h3, h4, h5, h6, h7, h8, h9⟩ := h.kid i n c j hn hc
    exact ⟨h1, m, ch, h2, h3, h4, h5, h6, h7, (fun e => by cases e), fun a b _ => h9 a b (fun e => by injection e with e; omega)⟩, h.all, h.fu⟩
theorem last_kid {a : ByteArray} {c : Nat} (hb : kidB a ((c : Int) + 1) = true) : lastS (kidS a ((c : Int) + 1)) = (c : Int) + 1 := by
  obtain ⟨h1, h2, h3, h4⟩ := kidB_parts hb
  have hp := pl_kid hb
  have hm := kidB_may hb
  have hsz : (kidS a ((c : Int) + 1)).size = a.size + 1 := by
    have := congrArg List.length hp
    rw [pl_len] at this
    simpa [pl_len] using this
  have hne : (kidS a ((c : Int) + 1)).toList.isEmpty = false := by
    cases he : (kidS a ((c : Int) + 1)).toList.isEmpty with
    | false => rfl
    | true =>
      have h5 : (kidS a ((c : Int) + 1)).toList = [] := by simpa using he
      have h6 : (kidS a ((c : Int) + 1)).data.toList = [] := by rw [← Lib.toList_data]; exact h5
      unfold pl at hp
      rw [h6] at hp
      exact absurd hp (by simp)
  unfold lastS
  rw [if_pos (parB_yes hne hm)]
  unfold pl at hp
  rw [hp, hsz]
  have hl : a.data.toList.length = a.size := by simp
  rw [Nat.add_sub_cancel, List.getD_eq_getElem?_getD, List.getElem?_append_right (by omega), hl, Nat.sub_self]
  simp
  omega
theorem kidS_inj {a : ByteArray} {c d : Nat} (hb : kidB a ((c : Int) + 1) = true) (hd : kidB a ((d : Int) + 1) = true) (h : kidS a ((c : Int) + 1) = kidS a ((d : Int) + 1)) : c = d := by
  have h1 := last_kid hb
  have h2 := last_kid hd
  rw [h] at h1
  omega
end
end Go.Proofs.YtdhbjejejeljoaaGreat
namespace Go.Proofs.YtdhbjejejeljoaaGreat
open Go.RowKit

section
variable {p : List Fnc} {t0 : Tk} {l : List Nd} {k : Nat} {nd : Nd}
/-- Its parent is told. -/
theorem Fo.giveS {q : Nat} {r : Rs} (h : Fo p t0 (some k) l) (hp : WfP p) (hk : l[k]? = some nd) (hr : nd.s.result = some r) (hpar : nd.par = some q) :
    ∃ m : Nd, l[q]? = some m ∧ q < k ∧ ((giveV m.s (lastS nd.t.p) r).1 = 0 ∨ (giveV m.s (lastS nd.t.p) r).1 = 3) ∧ Fo p t0 none (l.set q { m with s := (giveV m.s (lastS nd.t.p) r).2 }) ∧
      (giveV m.s (lastS nd.t.p) r).2.result = m.s.result ∧ (giveV m.s (lastS nd.t.p) r).2.left = m.s.left ∧ (giveV m.s (lastS nd.t.p) r).2.waits = m.s.waits ∧
      ((openV m.s).any (fun c => !c.given) = false → (openV (giveV m.s (lastS nd.t.p) r).2).any (fun c => !c.given) = false) := by
  have h0 : 0 < k := by
    rcases Nat.eq_zero_or_pos k with e | e
    · subst e
      obtain ⟨n, e1, _, e3⟩ := h.root
      rw [hk] at e1; cases e1
      rw [hpar] at e3; cases e3
    · exact e
  obtain ⟨q', m, c, e1, e2, e3⟩ := h.par k nd hk h0
  rw [hpar] at e1
  injection e1 with e1
  subst e1
  obtain ⟨g1, nd', ch, g2, g3, g4, g5, g6, g7, g8, g9⟩ := h.kid q m c k e2 e3
  rw [hk] at g2
  cases g2
  have hng : ch.given = false := g8 rfl
  obtain ⟨hcl, hce⟩ := List.getElem?_eq_some_iff.1 g6
  have hlast : lastS nd.t.p = (c : Int) + 1 := by rw [g4]; exact last_kid g5
  have hget : m.s.kids.getD ((c : Int) + 1 - 1).toNat default = ch := by
    rw [show ((c : Int) + 1 - 1).toNat = c by omega, List.getD_eq_getElem?_getD, g6]; rfl
  have hc : ((c : Int) + 1 - 1).toNat = c := by omega
  obtain ⟨d1, d2, d3, d4⟩ := h.nd k nd hk
  obtain ⟨m1, m2, m3, m4⟩ := h.nd q m e2
  have hrd : r = (dW p nd.t).1 := by
    rw [dW_eq hp d1]
    exact (d4.fin r hr).1.symm
  have hkt : (ktOf l m.ks)[c]? = some nd.t := by
    unfold ktOf
    rw [List.getElem?_map, e3]
    simp only [Option.map_some]
    rw [tkA_at hk]
  have hlen := h.klen e2
  rw [hlast]
  have hgi := giveV_inv ((c : Int) + 1) r m2 m3
  -- another child of anyone else is another one
  have uniq : ∀ (i : Nat) (n : Nd) (c' : Nat), l[i]? = some n → n.ks[c']? = some k → i = q ∧ n = m ∧ c' = c := by
    intro i n c' hn hc'
    obtain ⟨_, m', ch', f2, f3, f4, f5, f6, _⟩ := h.kid i n c' k hn hc'
    rw [hk] at f2; cases f2
    rw [hpar] at f3; injection f3 with f3
    subst f3
    rw [e2] at hn; cases hn
    exact ⟨rfl, rfl, kidS_inj f5 g5 (by rw [← f4, g4])⟩
  refine ⟨m, e2, g1, ?_⟩
  cases hmr : m.s.result with
  | some r' =>
    have hgv : giveV m.s ((c : Int) + 1) r = (3, m.s) := by
      unfold giveV
      rw [if_neg (by omega), hget, if_neg (by rw [hng]; simp), if_pos (by rw [hmr]; rfl)]
    rw [hgv] at hgi ⊢
    refine ⟨.inr rfl, ?_, hmr, rfl, rfl, id⟩
    have hself : l.set q { m with s := m.s } = l := by
      refine List.ext_getElem? fun i => ?_
      by_cases e : i = q
      · subst e; rw [set_self e2, e2]
      · rw [set_ne e]
    show Fo p t0 none (l.set q { m with s := m.s })
    rw [hself]
    refine ⟨h.root, h.nd, h.par, fun i n c' j hn hc' => ?_, h.all, h.fu⟩
    obtain ⟨f1, m', ch', f2, f3, f4, f5, f6, f7, f8, f9⟩ := h.kid i n c' j hn hc'
    refine ⟨f1, m', ch', f2, f3, f4, f5, f6, f7, (fun e => by cases e), fun a b _ => f9 a b fun e => ?_⟩
    injection e with e
    subst e
    obtain ⟨_, rfl, _⟩ := uniq i n c' hn hc'
    rw [hmr] at a; cases a
  | none =>
    have hgv : giveV m.s ((c : Int) + 1) r = (0, { m.s with kids := m.s.kids.set c ⟨ch.into, true, r⟩ }) := by
      unfold giveV
      rw [if_neg (by omega), hget, if_neg (by rw [hng]; simp), if_neg (by rw [hmr]; simp), hc]
    rw [hgv] at hgi ⊢
    have hks : ∀ c', (m.s.kids.set c ⟨ch.into, true, r⟩)[c']? = if c = c' then some ⟨ch.into, true, r⟩ else m.s.kids[c']? := fun c' => by
      rw [List.getElem?_set]
      by_cases e : c = c'
      · rw [if_pos e, if_pos hcl, if_pos e]
      · rw [if_neg e, if_neg e]
    refine ⟨.inl rfl, ⟨?_, ?_, ?_, ?_, ?_, ?_⟩, hmr, rfl, rfl, ?_⟩
    · obtain ⟨n, h1, h2, h3⟩ := h.root
      by_cases e : 0 = q
      · subst e
        rw [e2] at h1; cases h1
        exact ⟨_, set_self e2, h2, h3⟩
      · exact ⟨n, by rw [set_ne e]; exact h1, h2, h3⟩
    · intro i n hn
      rw [ktOf_set (x := { m with s := { m.s with kids := m.s.kids.set c ⟨ch.into, true, r⟩ } }) e2 rfl]
      rcases set_get e2 hn with ⟨_, rfl⟩ | ⟨_, hn⟩
      · refine ⟨m1, hgi.1, hgi.2, ?_⟩
        have := m4.give hkt g6
        rw [← hrd] at this
        exact this
      · exact h.nd i n hn
    · intro i n hn h0
      have key : ∃ (q : Nat) (m : Nd) (c : Nat), n.par = some q ∧ l[q]? = some m ∧ m.ks[c]? = some i := by
        rcases set_get e2 hn with ⟨rfl, rfl⟩ | ⟨_, hn⟩
        · exact h.par _ m e2 h0
        · exact h.par i n hn h0
      obtain ⟨q2, m', c', f1, f2, f3⟩ := key
      by_cases e : q2 = q
      · subst e
        rw [e2] at f2; cases f2
        exact ⟨q2, _, c', f1, set_self e2, f3⟩
      · exact ⟨q2, m', c', f1, by rw [set_ne e]; exact f2, f3⟩
    · intro i n c' j hn hc'
      have key : ∃ n0 : Nd, l[i]? = some n0 ∧ n.t = n0.t ∧ n.ks = n0.ks ∧ n.s.result = n0.s.result ∧ (n.s.kids = n0.s.kids ∨ (i = q ∧ n0 = m ∧ n.s.kids = m.s.kids.set c ⟨ch.into, true, r⟩)) ∧ (i ≠ q → n = n0) := by
        rcases set_get e2 hn with ⟨rfl, rfl⟩ | ⟨hq, hn⟩
        · exact ⟨m, e2, rfl, rfl, rfl, .inr ⟨rfl, rfl, rfl⟩, fun e => absurd rfl e⟩
        · exact ⟨n, hn, rfl, rfl, rfl, .inl rfl, fun _ => rfl⟩
      obtain ⟨n0, hn0, et, ek, er, es, eq⟩ := key
      rw [ek] at hc'
      obtain ⟨f1, m', ch', f2, f3, f4, f5, f6, f7, f8, f9⟩ := h.kid i n0 c' j hn0 hc'
      -- the child, in the forest as it is now
      have hj : ∃ m2 : Nd, (l.set q { m with s := { m.s with kids := m.s.kids.set c ⟨ch.into, true, r⟩ } })[j]? = some m2 ∧ m2.par = m'.par ∧ m2.t = m'.t ∧ m2.s.result = m'.s.result := by
        by_cases e : j = q
        · subst e
          rw [e2] at f2; cases f2
          exact ⟨_, set_self e2, rfl, rfl, rfl⟩
        · exact ⟨m', by rw [set_ne e]; exact f2, rfl, rfl, rfl⟩
      obtain ⟨m2', j1, j2, j3, j4⟩ := hj
      by_cases hjk : j = k
      · subst hjk
        obtain ⟨rfl, rfl, rfl⟩ := uniq i n0 c' hn0 hc'
        have hn2 : n.s.kids = n0.s.kids.set c' ⟨ch.into, true, r⟩ := by
          rcases set_get e2 hn with ⟨_, rfl⟩ | ⟨hq, _⟩
          · rfl
          · exact absurd rfl hq
        rw [hk] at f2; cases f2
        exact ⟨f1, m2', ⟨ch.into, true, r⟩, j1, by rw [j2]; exact f3, by rw [j3, et]; exact f4, by rw [et]; exact f5, by rw [hn2, hks, if_pos rfl], (fun _ => by rw [j4, hr]; simp), (fun e => by cases e), fun _ _ _ => rfl⟩
      · have hne : n.s.kids[c']? = some ch' := by
          rcases es with es | ⟨rfl, rfl, es⟩
          · rw [es]; exact f6
          · rw [es, hks]
            by_cases e : c = c'
            · subst e
              rw [e3] at hc'
              injection hc' with hc'
              exact absurd hc'.symm hjk
            · rw [if_neg e]; exact f6
        exact ⟨f1, m2', ch', j1, by rw [j2]; exact f3, by rw [j3, et]; exact f4, by rw [et]; exact f5, hne, (fun g => by rw [j4]; exact f7 g), (fun e => by cases e), fun a b _ => f9 (by rw [← er]; exact a) (by rw [← j4]; exact b) (fun e => by injection e with e; exact hjk e)⟩
    · rw [ks_set l q m { m with s := { m.s with kids := m.s.kids.set c ⟨ch.into, true, r⟩ } } e2 rfl, List.length_set]
      exact h.all
    · rw [sum_set l q m { m with s := { m.s with kids := m.s.kids.set c ⟨ch.into, true, r⟩ } } e2]
      have := h.fu
      simp only [lfN] at *
      omega
    · intro ha
      rw [List.any_eq_false] at ha ⊢
      intro x hx
      unfold openV at ha hx
      obtain ⟨i, hi⟩ := List.getElem?_of_mem hx
      rw [List.getElem?_drop] at hi
      simp only [] at hi
      rw [hks] at hi
      by_cases e : c = m.s.joined + i
      · rw [if_pos e] at hi
        cases hi
        simp
      · rw [if_neg e] at hi
        exact ha x (List.mem_of_getElem? (by rw [List.getElem?_drop]; exact hi))
/-- A child is forked. -/
theorem Fo.fork {s' : Vs} {y : Tk} {d : Int} (h : Fo p t0 none l) (hp : WfP p) (hk : l[k]? = some nd) (hold : nd.s.result = none) (hi : InvV p nd.t s') (ha : AtV p nd.t s') (hres : s'.result = none) (hty : TkOk p y) (hyp : y.p = kidS nd.t.p ((nd.s.kids.length : Int) + 1)) (hyb : kidB nd.t.p ((nd.s.kids.length : Int) + 1) = true)
    (hkids : s'.kids = nd.s.kids ++ [⟨d, false, ⟨0, 0⟩⟩]) (hsim : SimV p nd.t s' (ktOf l nd.ks ++ [y])) (hleft : s'.left + y.fuel + 1 ≤ nd.s.left) :
    Fo p t0 none (l.set k { nd with s := s', ks := nd.ks ++ [l.length] } ++ [⟨y, newV p y, [], some k⟩]) := by
  have hkl := (List.getElem?_eq_some_iff.1 hk).1
  have hlen := h.klen hk
  have hsl : (l.set k { nd with s := s', ks := nd.ks ++ [l.length] }).length = l.length := List.length_set
  have hnew : (l.set k { nd with s := s', ks := nd.ks ++ [l.length] } ++ [⟨y, newV p y, [], some k⟩])[l.length]? = some ⟨y, newV p y, [], some k⟩ := by
    rw [List.getElem?_append_right (by omega), hsl, Nat.sub_self]; rfl
  have hat : ∀ i, i ≠ k → i < l.length → (l.set k { nd with s := s', ks := nd.ks ++ [l.length] } ++ [⟨y, newV p y, [], some k⟩])[i]? = l[i]? := fun i e hl => by
    rw [List.getElem?_append_left (by omega), set_ne e]
  have hatk : (l.set k { nd with s := s', ks := nd.ks ++ [l.length] } ++ [⟨y, newV p y, [], some k⟩])[k]? = some { nd with s := s', ks := nd.ks ++ [l.length] } := by
    rw [List.getElem?_append_left (by omega), set_self hk]
  have cases3 : ∀ (i : Nat) (n : Nd), (l.set k { nd with s := s', ks := nd.ks ++ [l.length] } ++ [⟨y, newV p y, [], some k⟩])[i]? = some n → (i = l.length ∧ n = ⟨y, newV p y, [], some k⟩) ∨ (i = k ∧ n = { nd with s := s', ks := nd.ks ++ [l.length] }) ∨ (i ≠ k ∧ i < l.length ∧ l[i]? = some n) := by
    intro i n hn
    by_cases h1 : i < l.length
    · by_cases h2 : i = k
      · subst h2
        rw [hatk] at hn; cases hn
        exact .inr (.inl ⟨rfl, rfl⟩)
      · rw [hat i h2 h1] at hn
        exact .inr (.inr ⟨h2, h1, hn⟩)
    · have h3 := (List.getElem?_eq_some_iff.1 hn).1
      rw [List.length_append, hsl] at h3
      simp at h3
      have h4 : i = l.length := by omega
      subst h4
      rw [hnew] at hn; cases hn
      exact .inl ⟨rfl, rfl⟩
  have htk : ∀ j, j < l.length → tkA (l.set k { nd with s := s', ks := nd.ks ++ [l.length] } ++ [⟨y, newV p y, [], some k⟩]) j = tkA l j := by
    intro j hj
    unfold tkA
    rw [List.getD_eq_getElem?_getD, List.getD_eq_getElem?_getD]
    by_cases e : j = k
    · subst e; rw [hatk, hk]; rfl
    · rw [hat j e hj]
  have hkt : ∀ ks : List Nat, (∀ j ∈ ks, j < l.length) → ktOf (l.set k { nd with s := s', ks := nd.ks ++ [l.length] } ++ [⟨y, newV p y, [], some k⟩]) ks = ktOf l ks := fun ks hks => by
    unfold ktOf; exact List.map_congr_left fun j hj => htk j (hks j hj)
  refine ⟨?_, ?_, ?_, ?_, ?_, ?_⟩
  · obtain ⟨n, h1, h2, h3⟩ := h.root
    by_cases e : 0 = k
    · subst e
      rw [hk] at h1; cases h1
      exact ⟨_, hatk, h2, h3⟩
    · exact ⟨n, by rw [hat 0 e (by omega)]; exact h1, h2, h3⟩
  · intro i n hn
    rcases cases3 i n hn with ⟨rfl, rfl⟩ | ⟨rfl, rfl⟩ | ⟨e, hl, hn⟩
    · exact ⟨hty, newV_inv hp hty, newV_at hp hty, newV_sim hty⟩
    · refine ⟨(h.nd _ nd hk).1, hi, ha, ?_⟩
      have e : ktOf (l.set i { nd with s := s', ks := nd.ks ++ [l.length] } ++ [⟨y, newV p y, [], some i⟩]) (nd.ks ++ [l.length]) = ktOf l nd.ks ++ [y] := by
        have h1 := hkt nd.ks (h.ks_lt hk)
        unfold ktOf at h1 ⊢
        rw [List.map_append, h1]
        simp only [List.map_cons, List.map_nil]
        rw [tkA_at hnew]
      simp only []
      rw [e]
      exact hsim
    · rw [hkt _ (h.ks_lt hn)]
      exact h.nd i n hn
  · intro i n hn h0
    rcases cases3 i n hn with ⟨rfl, rfl⟩ | ⟨rfl, rfl⟩ | ⟨e, hl, hn⟩
    · exact ⟨k, _, nd.ks.length, rfl, hatk, by simp⟩
    · obtain ⟨q, m, c, f1, f2, f3⟩ := h.par _ nd hk h0
      by_cases e : q = i
      · subst e
        rw [hk] at f2; cases f2
        exact ⟨q, _, c, f1, hatk, by rw [List.getElem?_append_left (List.getElem?_eq_some_iff.1 f3).1]; exact f3⟩
      · exact ⟨q, m, c, f1, by rw [hat q e (List.getElem?_eq_some_iff.1 f2).1]; exact f2, f3⟩
    · obtain ⟨q, m, c, f1, f2, f3⟩ := h.par i n hn h0
      by_cases e : q = k
      · subst e
        rw [hk] at f2; cases f2
        exact ⟨q, _, c, f1, hatk, by rw [List.getElem?_append_left (List.getElem?_eq_some_iff.1 f3).1]; exact f3⟩
      · exact ⟨q, m, c, f1, by rw [hat q e (List.getElem?_eq_some_iff.1 f2).1]; exact f2, f3⟩
  · intro i n c j hn hc
    -- an old child
    have old : ∀ (n0 : Nd), l[i]? = some n0 → n0.ks[c]? = some j → n.t = n0.t → (∀ ch, n0.s.kids[c]? = some ch → n.s.kids[c]? = some ch) → (n.s.result = none → n0.s.result = none) → i < j ∧ ∃ (m : Nd) (ch : Ch), (l.set k { nd with s := s', ks := nd.ks ++ [l.length] } ++ [⟨y, newV p y, [], some k⟩])[j]? = some m ∧ m.par = some i ∧ m.t.p = kidS n.t.p ((c : Int) + 1) ∧ kidB n.t.p ((c : Int) + 1) = true ∧ n.s.kids[c]? = some ch ∧ (ch.given = true → m.s.result ≠ none) ∧ (some j = none → ch.given = false) ∧ (n.s.result = none → m.s.result ≠ none → some j ≠ none → ch.given = true) := by
      intro n0 hn0 hc0 et es er
      obtain ⟨f1, m, ch, f2, f3, f4, f5, f6, f7, f8, f9⟩ := h.kid i n0 c j hn0 hc0
      refine ⟨f1, ?_⟩
      by_cases e : j = k
      · subst e
        rw [hk] at f2; cases f2
        have hng : ch.given = false := by
          cases hg : ch.given with
          | false => rfl
          | true => exact absurd hold (f7 hg)
        exact ⟨_, ch, hatk, f3, by rw [et]; exact f4, by rw [et]; exact f5, es ch f6, (fun hg => by rw [hng] at hg; cases hg), (fun _ => hng), fun _ hr2 _ => absurd hres hr2⟩
      · exact ⟨m, ch, by rw [hat j e (List.getElem?_eq_some_iff.1 f2).1]; exact f2, f3, by rw [et]; exact f4, by rw [et]; exact f5, es ch f6, f7, (fun e => by cases e), fun a b _ => f9 (er a) b (fun e => by cases e)⟩
    rcases cases3 i n hn with ⟨rfl, rfl⟩ | ⟨rfl, rfl⟩ | ⟨e, hl, hn⟩
    · simp at hc
    · simp only [] at hc
      by_cases hcl : c < nd.ks.length
      · rw [List.getElem?_append_left hcl] at hc
        refine old nd hk hc rfl (fun ch hch => ?_) (fun _ => hold)
        show s'.kids[c]? = some ch
        rw [hkids, List.getElem?_append_left (by omega)]
        exact hch
      · rw [List.getElem?_append_right (by omega)] at hc
        have hc0 : c - nd.ks.length = 0 := by
          have := (List.getElem?_eq_some_iff.1 hc).1
          simp at this; omega
        rw [hc0] at hc
        simp at hc
        subst hc
        have hce : c = nd.s.kids.length := by omega
        subst hce
        refine ⟨hkl, _, ⟨d, false, ⟨0, 0⟩⟩, hnew, rfl, hyp, hyb, ?_, (fun hg => by cases hg), (fun e => by cases e), fun _ hr2 _ => absurd rfl hr2⟩
        show s'.kids[nd.s.kids.length]? = some _
        rw [hkids, List.getElem?_append_right (Nat.le_refl _), Nat.sub_self]; rfl
    · exact old n hn hc rfl (fun ch hch => hch) id
  · rw [List.map_append, List.flatten_append]
    simp only [List.map_cons, List.map_nil, List.flatten_cons, List.flatten_nil, List.append_nil, List.length_append, hsl, List.length_cons, List.length_nil]
    refine (ks_grow (j := l.length) l k nd { nd with s := s', ks := nd.ks ++ [l.length] } hk rfl).trans ?_
    have e : List.range' 1 (l.length + (0 + 1) - 1) = List.range' 1 (l.length - 1) ++ [l.length] := by
      have h1 : l.length + (0 + 1) - 1 = (l.length - 1) + 1 := by omega
      rw [h1, List.range'_concat]
      congr 2
      omega
    rw [e]
    exact List.Perm.append_right _ h.all
  · rw [List.map_append, List.sum_append, sum_set l k nd { nd with s := s', ks := nd.ks ++ [l.length] } hk]
    have := h.fu
    have h2 : (newV p y).left = y.fuel := rfl
    simp only [lfN, List.map_cons, List.map_nil, List.sum_cons, List.sum_nil, h2] at *
    omega
end
end Go.Proofs.YtdhbjejejeljoaaGreat
namespace Go.Proofs.YtdhbjejejeljoaaGreat
open Go.RowKit

/-- A task that is not over runs so many ops, and what comes of it. -/
def turnL (p : List Fnc) (l : List Nd) (k n : Nat) : List Nd :=
  if (l.getD k default).s.result.isSome then l
  else if (runV p (l.getD k default).t n (l.getD k default).s).1.k = 2 then
    l.set k { (l.getD k default) with s := (runV p (l.getD k default).t n (l.getD k default).s).2, ks := (l.getD k default).ks ++ [l.length] } ++ [⟨(runV p (l.getD k default).t n (l.getD k default).s).1.kid, newV p (runV p (l.getD k default).t n (l.getD k default).s).1.kid, [], some k⟩]
  else if (runV p (l.getD k default).t n (l.getD k default).s).1.k = 4 then
    match (l.getD k default).par with
    | none => l.set k { (l.getD k default) with s := (runV p (l.getD k default).t n (l.getD k default).s).2 }
    | some q =>
      let l1 := l.set k { (l.getD k default) with s := (runV p (l.getD k default).t n (l.getD k default).s).2 }
      l1.set q { (l1.getD q default) with s := (giveV (l1.getD q default).s (lastS (l.getD k default).t.p) (runV p (l.getD k default).t n (l.getD k default).s).1.r).2 }
  else l.set k { (l.getD k default) with s := (runV p (l.getD k default).t n (l.getD k default).s).2 }
def Ready (l : List Nd) (j : Nat) : Prop := ∃ nd : Nd, l[j]? = some nd ∧ nd.s.result = none ∧ (nd.s.waits = none ∨ (openV nd.s).any (fun c => !c.given) = false)
section
variable {p : List Fnc} {t0 : Tk} {l : List Nd} {k n : Nat} {nd : Nd}
theorem getD_at {j : Nat} {m : Nd} (h : l[j]? = some m) : l.getD j default = m := by
  rw [List.getD_eq_getElem?_getD, h]; rfl
theorem turnL_done (hk : l[k]? = some nd) (hr : nd.s.result ≠ none) : turnL p l k n = l := by
  unfold turnL
  rw [getD_at hk, if_pos (by simpa [Option.isSome_iff_ne_none] using hr)]
theorem turnL_fork {y : Sp} {s' : Vs} (hk : l[k]? = some nd) (hr : nd.s.result = none) (hy : runV p nd.t n nd.s = (y, s')) (h2 : y.k = 2) : turnL p l k n = l.set k { nd with s := s', ks := nd.ks ++ [l.length] } ++ [⟨y.kid, newV p y.kid, [], some k⟩] := by
  unfold turnL
  rw [getD_at hk, hy, if_neg (by simp [hr]), if_pos h2]
theorem turnL_more {y : Sp} {s' : Vs} (hk : l[k]? = some nd) (hr : nd.s.result = none) (hy : runV p nd.t n nd.s = (y, s')) (h2 : y.k ≠ 2) (h4 : y.k ≠ 4) : turnL p l k n = l.set k { nd with s := s' } := by
  unfold turnL
  rw [getD_at hk, hy, if_neg (by simp [hr]), if_neg h2, if_neg h4]
theorem turnL_top {y : Sp} {s' : Vs} (hk : l[k]? = some nd) (hr : nd.s.result = none) (hy : runV p nd.t n nd.s = (y, s')) (h4 : y.k = 4) (hpar : nd.par = none) : turnL p l k n = l.set k { nd with s := s' } := by
  obtain ⟨nt, ns, nks, npar⟩ := nd
  simp only [] at hr hy hpar
  subst hpar
  unfold turnL
  rw [getD_at hk]
  simp only []
  rw [hy, if_neg (by simp [hr]), if_neg (by rw [h4]; decide), if_pos h4]
theorem turnL_end {y : Sp} {s' : Vs} {q : Nat} {m : Nd} (hk : l[k]? = some nd) (hr : nd.s.result = none) (hy : runV p nd.t n nd.s = (y, s')) (h4 : y.k = 4) (hpar : nd.par = some q) (hm : (l.set k { nd with s := s' })[q]? = some m) :
    turnL p l k n = (l.set k { nd with s := s' }).set q { m with s := (giveV m.s (lastS nd.t.p) y.r).2 } := by
  obtain ⟨nt, ns, nks, npar⟩ := nd
  simp only [] at hr hy hpar hm
  subst hpar
  unfold turnL
  rw [getD_at hk]
  simp only []
  rw [hy, if_neg (by simp [hr]), if_neg (by rw [h4]; decide), if_pos h4]
  simp only []
  rw [getD_at hm]
theorem runV_blocked {t : Tk} {s : Vs} {o : Opr} (hr : s.result = none) (hw : s.waits = some o) (ha : (openV s).any (fun c => !c.given) = true) : (runV p t n s).1.k = 3 := by
  unfold runV
  rw [hr, hw]
  simp only []
  have : joinV s o = (some ⟨3, noTk, ⟨0, 0⟩⟩, { s with waits := some o }) := by unfold joinV; rw [if_pos ha]
  rw [this]
theorem phi_set {x : Nd} (hk : l[k]? = some nd) : phi (l.set k x) = phi l - phN nd + phN x := sum_set l k nd x hk
/-- What a turn of a task that runs leaves. -/
structure TurnOk (p : List Fnc) (t0 : Tk) (l : List Nd) (k : Nat) (l' : List Nd) : Prop where
  fo : Fo p t0 none l'
  ph : phi l' ≤ phi l
  down : Ready l k → phi l' + 1 ≤ phi l
  keep : ∀ j, j ≠ k → Ready l j → Ready l' j
  len : l.length ≤ l'.length
theorem turn_ok (h : Fo p t0 none l) (hp : WfP p) (hk : l[k]? = some nd) (hn : 1 ≤ n) : TurnOk p t0 l k (turnL p l k n) := by
  obtain ⟨g1, g2, g3, g4⟩ := h.nd k nd hk
  cases hr : nd.s.result with
  | some r =>
    rw [turnL_done hk (by rw [hr]; simp)]
    refine ⟨h, Int.le_refl _, fun ⟨m, e, e2, _⟩ => ?_, fun _ _ h => h, Nat.le_refl _⟩
    rw [hk] at e; cases e
    rw [hr] at e2; cases e2
  | none =>
    obtain ⟨y, s', hy⟩ : ∃ y s', runV p nd.t n nd.s = (y, s') := ⟨_, _, rfl⟩
    have ho := runV_sim hp g1 n g2 g3 hr g4
    have hi := runV_inv hp g1 n g2 g3
    have hs := runV_spend hp g1 n g2 g3 hr
    have hb := fun o => runV_blocked (p := p) (t := nd.t) (n := n) (s := nd.s) (o := o) hr
    rw [hy] at ho hi hs hb
    simp only [] at ho hi hs hb
    have hrd : Ready l k → nd.s.waits = none ∨ (openV nd.s).any (fun c => !c.given) = false := fun ⟨m, e, _, e3⟩ => by
      rw [hk] at e; cases e; exact e3
    have more : y.k ≠ 2 → y.k ≠ 4 → s'.kids = nd.s.kids → s'.result = none → SimV p nd.t s' (ktOf l nd.ks) → TurnOk p t0 l k (turnL p l k n) := by
      intro h2 h4 e1 e2 e3
      have hkf : kf y = 0 := by unfold kf; rw [if_neg h2]
      rw [turnL_more hk hr hy h2 h4]
      refine ⟨h.setS hk hr hi.1 hi.2 e1 e3 (by omega) (.inl ⟨e2, rfl⟩), ?_, fun hrr => ?_, fun j hj ⟨m, f1, f2⟩ => ⟨m, by rw [set_ne hj]; exact f1, f2⟩, by simp⟩
      · rw [phi_set hk]
        simp only [phN, hr, e2, Option.isNone_none, if_true]; omega
      · rw [phi_set hk]
        have := (hs.2 hn (hrd hrr)).resolve_left h4
        simp only [phN, hr, e2, Option.isNone_none, if_true]; omega
    rcases ho with ⟨e1, e2, e3, e4, e5⟩ | ⟨e1, e2, e3, e4, e5, e6, ⟨d, e7⟩, e8⟩ | ⟨e1, e2, e3, e4⟩ | ⟨e1, e2, e3, e4⟩
    · exact more (by omega) (by omega) e2 e3 e5
    · have hkf : kf y = y.kid.fuel := by unfold kf; rw [if_pos e1]
      have hleft : s'.left + y.kid.fuel + 1 ≤ nd.s.left := by
        have hrd2 : nd.s.waits = none ∨ (openV nd.s).any (fun c => !c.given) = false := by
          cases hw : nd.s.waits with
          | none => exact .inl rfl
          | some o =>
            right
            cases ha : (openV nd.s).any (fun c => !c.given) with
            | false => rfl
            | true => have := hb o hw ha; omega
        rcases hs.2 hn hrd2 with h4 | h4
        · omega
        · omega
      rw [turnL_fork hk hr hy e1]
      have hph : phi (l.set k { nd with s := s', ks := nd.ks ++ [l.length] } ++ [⟨y.kid, newV p y.kid, [], some k⟩]) + 1 ≤ phi l := by
        have h1 : phi (l.set k { nd with s := s', ks := nd.ks ++ [l.length] } ++ [⟨y.kid, newV p y.kid, [], some k⟩]) = phi (l.set k { nd with s := s', ks := nd.ks ++ [l.length] }) + phN ⟨y.kid, newV p y.kid, [], some k⟩ := by
          unfold phi; rw [List.map_append, List.sum_append]; simp
        have h3 : (newV p y.kid).left = y.kid.fuel := rfl
        have h4 : (newV p y.kid).result = none := rfl
        rw [h1, phi_set hk]
        simp only [phN, hr, e2, h3, h4, Option.isNone_none, if_true]; omega
      refine ⟨h.fork hp hk hr hi.1 hi.2 e2 e4 e5 e6 e7 e8 hleft, by omega, fun _ => hph, fun j hj ⟨m, f1, f2⟩ => ⟨m, ?_, f2⟩, by simp⟩
      rw [List.getElem?_append_left (by rw [List.length_set]; exact (List.getElem?_eq_some_iff.1 f1).1), set_ne hj]; exact f1
    · exact more (by omega) (by omega) e2 e3 e4
    · have hkf : kf y = 0 := by unfold kf; rw [if_neg (by omega)]
      have f1 := h.setS (X := some k) hk hr hi.1 hi.2 e2 e4 (by omega) (.inr ⟨by rw [e3]; simp, rfl⟩)
      have hp1 : phi (l.set k { nd with s := s' }) + 1 ≤ phi l := by
        rw [phi_set hk]
        simp only [phN, hr, e3, Option.isNone_none, Option.isNone_some, if_true]
        simp; omega
      cases hpar : nd.par with
      | none =>
        have h0 : k = 0 := by
          rcases Nat.eq_zero_or_pos k with e | e
          · exact e
          · obtain ⟨q, m, c, e5, _⟩ := h.par k nd hk e
            rw [hpar] at e5; cases e5
        rw [turnL_top hk hr hy e1 hpar]
        exact ⟨by rw [h0] at f1 ⊢; exact f1.top, by omega, fun _ => hp1, fun j hj ⟨m, g5, g6⟩ => ⟨m, by rw [set_ne hj]; exact g5, g6⟩, by simp⟩
      | some q =>
        obtain ⟨m, m1, m2, m3, m4, m5, m6, m7, m8⟩ := f1.giveS hp (set_self hk) e3 hpar
        rw [turnL_end hk hr hy e1 hpar m1]
        have hph : phi ((l.set k { nd with s := s' }).set q { m with s := (giveV m.s (lastS nd.t.p) y.r).2 }) + 1 ≤ phi l := by
          rw [phi_set m1]
          simp only [phN, m5, m6]
          omega
        refine ⟨m4, by omega, fun _ => hph, fun j hj ⟨m', g5, g6, g7⟩ => ?_, by simp⟩
        have hjl : (l.set k { nd with s := s' })[j]? = some m' := by rw [set_ne hj]; exact g5
        by_cases e : j = q
        · subst e
          rw [m1] at hjl; cases hjl
          refine ⟨_, set_self m1, by simp only []; rw [m5]; exact g6, ?_⟩
          simp only []
          rw [m7]
          exact g7.imp id m8
        · exact ⟨m', by rw [set_ne e]; exact hjl, g6, g7⟩
/-- What its parent answers. -/
theorem turn_end {y : Sp} {s' : Vs} {q : Nat} (h : Fo p t0 none l) (hp : WfP p) (hk : l[k]? = some nd) (hr : nd.s.result = none) (hy : runV p nd.t n nd.s = (y, s')) (h4 : y.k = 4) (hpar : nd.par = some q) :
    ∃ m : Nd, l[q]? = some m ∧ q < k ∧ ((giveV m.s (lastS nd.t.p) y.r).1 = 0 ∨ (giveV m.s (lastS nd.t.p) y.r).1 = 3) := by
  obtain ⟨g1, g2, g3, g4⟩ := h.nd k nd hk
  have ho := runV_sim hp g1 n g2 g3 hr g4
  have hi := runV_inv hp g1 n g2 g3
  have hs := runV_spend hp g1 n g2 g3 hr
  rw [hy] at ho hi hs
  simp only [] at ho hi hs
  have hkf : kf y = 0 := by unfold kf; rw [if_neg (by omega)]
  rcases ho with ⟨e1, _⟩ | ⟨e1, _⟩ | ⟨e1, _⟩ | ⟨e1, e2, e3, e4⟩
  · omega
  · omega
  · omega
  · have f1 := h.setS (X := some k) hk hr hi.1 hi.2 e2 e4 (by omega) (.inr ⟨by rw [e3]; simp, rfl⟩)
    obtain ⟨m, m1, m2, m3, _⟩ := f1.giveS hp (set_self hk) e3 hpar
    exact ⟨m, by rw [set_ne (by omega)] at m1; exact m1, m2, m3⟩
/-- A child that is forked can be begun. -/
theorem turn_kid {y : Sp} {s' : Vs} (h : Fo p t0 none l) (hp : WfP p) (hk : l[k]? = some nd) (hr : nd.s.result = none) (hy : runV p nd.t n nd.s = (y, s')) (h2 : y.k = 2) : TkOk p y.kid ∧ mayS y.kid.p = true := by
  obtain ⟨g1, g2, g3, g4⟩ := h.nd k nd hk
  have ho := runV_sim hp g1 n g2 g3 hr g4
  rw [hy] at ho
  simp only [] at ho
  rcases ho with ⟨e1, _⟩ | ⟨e1, e2, e3, e4, e5, e6, _⟩ | ⟨e1, _⟩ | ⟨e1, _⟩
  · omega
  · exact ⟨e4, by rw [e5]; exact kidB_may e6⟩
  · omega
  · omega
theorem turn_res {y : Sp} {s' : Vs} (h : Fo p t0 none l) (hp : WfP p) (hk : l[k]? = some nd) (hr : nd.s.result = none) (hy : runV p nd.t n nd.s = (y, s')) : (y.k = 4 → s'.result = some y.r) ∧ (y.k ≠ 4 → s'.result = none) := by
  obtain ⟨g1, g2, g3, g4⟩ := h.nd k nd hk
  have ho := runV_sim hp g1 n g2 g3 hr g4
  rw [hy] at ho
  simp only [] at ho
  rcases ho with ⟨e1, e2, e3, _⟩ | ⟨e1, e2, _⟩ | ⟨e1, e2, e3, _⟩ | ⟨e1, e2, e3, _⟩
  · exact ⟨fun h => by omega, fun _ => e3⟩
  · exact ⟨fun h => by omega, fun _ => e2⟩
  · exact ⟨fun h => by omega, fun _ => e3⟩
  · exact ⟨fun _ => e3, fun h => absurd e1 h⟩
/-- Where something is not over, something can go on. -/
theorem ready_exists (h : Fo p t0 none l) : ∀ (b i : Nat) (nd : Nd), l.length - i ≤ b → l[i]? = some nd → nd.s.result = none → ∃ j, Ready l j
  | 0, i, nd, hb, hi, _ => by have := (List.getElem?_eq_some_iff.1 hi).1; omega
  | b + 1, i, nd, hb, hi, hr => by
    cases ha : (openV nd.s).any (fun c => !c.given) with
    | false => exact ⟨i, nd, hi, hr, .inr ha⟩
    | true =>
      obtain ⟨ch, hm, hg⟩ := List.any_eq_true.1 ha
      have hg' : ch.given = false := by simpa using hg
      unfold openV at hm
      obtain ⟨c, hc⟩ := List.getElem?_of_mem hm
      rw [List.getElem?_drop] at hc
      have hlen := h.klen hi
      have hcl := (List.getElem?_eq_some_iff.1 hc).1
      have hj : nd.ks[nd.s.joined + c]? = some (nd.ks[nd.s.joined + c]'(by omega)) := List.getElem?_eq_getElem _
      obtain ⟨f1, m, ch', f2, f3, f4, f5, f6, f7, f8, f9⟩ := h.kid i nd _ _ hi hj
      rw [hc] at f6; cases f6
      refine ready_exists h b _ m (by omega) f2 ?_
      cases hmr : m.s.result with
      | none => rfl
      | some r => rw [f9 hr (by rw [hmr]; simp) (fun e => by cases e)] at hg'; cases hg'
end
end Go.Proofs.YtdhbjejejeljoaaGreat
namespace Go.Proofs.YtdhbjejejeljoaaGreat
open Go.RowKit

def dnN (n : Nd) : Dn := ⟨n.t, n.s.result.getD ⟨0, 0⟩, n.s.kids.length⟩
def Over (l : List Nd) : Prop := ∀ (i : Nat) (n : Nd), l[i]? = some n → n.s.result ≠ none
theorem flat_heads {α β : Type} {F G : α → List β} {d : α → β} : ∀ L : List α, (∀ a ∈ L, F a = d a :: G a) → ((L.map F).flatten).Perm (L.map d ++ (L.map G).flatten)
  | [], _ => .refl _
  | a :: L, h => by
    simp only [List.map_cons, List.flatten_cons]
    rw [h a (by simp)]
    simp only [List.cons_append]
    refine List.Perm.cons _ ?_
    refine ((flat_heads L fun b hb => h b (by simp [hb])).append_left (G a)).trans ?_
    rw [← List.append_assoc, ← List.append_assoc]
    exact List.perm_append_comm.append_right _
theorem flat_map_ks {β : Type} (g : Nat → List β) : ∀ L : List Nd, (L.map fun n => (n.ks.map g).flatten).flatten = ((L.map (·.ks)).flatten.map g).flatten
  | [] => rfl
  | a :: L => by
    simp only [List.map_cons, List.flatten_cons, List.map_append, List.flatten_append]
    rw [flat_map_ks g L]
section
variable {p : List Fnc} {t0 : Tk} {l : List Nd}
theorem fo_sum (h : Fo p t0 none l) (hp : WfP p) (hd : Over l) : ((dW p t0).2).Perm (l.map dnN) := by
  have hg : ∃ g : Nat → List Dn, g = fun j => (dW p (tkA l j)).2 := ⟨_, rfl⟩
  obtain ⟨g, hg⟩ := hg
  have hF : ∀ a ∈ l, (fun n : Nd => (dW p n.t).2) a = dnN a :: (fun n : Nd => (n.ks.map g).flatten) a := by
    intro a ha
    obtain ⟨i, hi⟩ := List.getElem?_of_mem ha
    obtain ⟨g1, g2, g3, g4⟩ := h.nd i a hi
    have hr := hd i a hi
    cases hrs : a.s.result with
    | none => exact absurd hrs hr
    | some r =>
      obtain ⟨f1, f2, f3⟩ := g4.fin r hrs
      simp only []
      rw [dW_eq hp g1]
      simp only [dnN, hrs, Option.getD_some]
      rw [f1, f2, f3]
      unfold ktOf
      rw [List.map_map, hg]
      rfl
  have hA := flat_heads l hF
  rw [flat_map_ks g l] at hA
  obtain ⟨n0, e1, e2, _⟩ := h.root
  have hl : 0 < l.length := (List.getElem?_eq_some_iff.1 e1).1
  have hB : l.map (fun n : Nd => (dW p n.t).2) = g 0 :: (List.range' 1 (l.length - 1)).map g := by
    have h1 : l.map (fun n : Nd => (dW p n.t).2) = (List.range' 0 l.length).map g := by
      refine List.ext_getElem? fun i => ?_
      rw [List.getElem?_map, List.getElem?_map]
      by_cases hi : i < l.length
      · rw [List.getElem?_eq_getElem hi, List.getElem?_eq_getElem (by simpa using hi)]
        simp only [Option.map_some, List.getElem_range', Nat.zero_add, Nat.one_mul]
        rw [hg]
        simp only []
        rw [tkA_at (List.getElem?_eq_getElem hi)]
      · rw [List.getElem?_eq_none (by omega), List.getElem?_eq_none (by simp; omega)]
        rfl
    obtain ⟨m, hm⟩ : ∃ m, l.length = m + 1 := ⟨l.length - 1, by omega⟩
    rw [h1, hm, List.range'_succ]
    simp
  have h0 : g 0 = (dW p t0).2 := by
    rw [hg]
    simp only []
    rw [tkA_at e1, e2]
  rw [hB] at hA
  simp only [List.flatten_cons] at hA
  rw [h0] at hA
  have hC := hA.trans (((h.all.map g).flatten).append_left (l.map dnN))
  exact (List.perm_append_right_iff _).1 hC
theorem left_nonneg (h : Fo p t0 none l) : ∀ n ∈ l, 0 ≤ n.s.left := fun n hn => by
  obtain ⟨i, hi⟩ := List.getElem?_of_mem hn
  exact (h.nd i n hi).2.1.l0
theorem sum_ge {f g : Nd → Int} : ∀ L : List Nd, (∀ n ∈ L, g n ≤ f n) → (L.map g).sum ≤ (L.map f).sum
  | [], _ => by simp
  | a :: L, h => by
    simp only [List.map_cons, List.sum_cons]
    have h1 := h a (by simp)
    have h2 := sum_ge L fun n hn => h n (by simp [hn])
    omega
theorem sum_one (L : List Nd) : (L.map fun _ => (1 : Int)).sum = L.length := by
  induction L with
  | nil => rfl
  | cons a L ih => simp only [List.map_cons, List.sum_cons, List.length_cons, ih]; omega
theorem sum_zero (L : List Nd) : (L.map fun _ => (0 : Int)).sum = 0 := by
  induction L with
  | nil => rfl
  | cons a L ih => simp only [List.map_cons, List.sum_cons, ih]; omega
theorem fo_len (h : Fo p t0 none l) : (l.length : Int) ≤ t0.fuel + 1 := by
  have h1 := sum_ge (f := lfN) (g := fun _ => 1) l fun n hn => by have := left_nonneg h n hn; unfold lfN; omega
  rw [sum_one] at h1
  have := h.fu
  omega
theorem phi_nonneg (h : Fo p t0 none l) : 0 ≤ phi l := by
  have h1 := sum_ge (f := phN) (g := fun _ => 0) l fun n hn => by have := left_nonneg h n hn; unfold phN; split <;> omega
  rw [sum_zero] at h1
  exact h1
/-- A forest of one. -/
theorem fo_one (hp : WfP p) (ht : TkOk p t0) : Fo p t0 none [⟨t0, newV p t0, [], none⟩] := by
  refine ⟨⟨_, rfl, rfl, rfl⟩, ?_, ?_, ?_, .refl _, ?_⟩
  · intro i n hn
    have hi : i = 0 := by have := (List.getElem?_eq_some_iff.1 hn).1; simp at this; omega
    subst hi
    simp at hn
    subst hn
    exact ⟨ht, newV_inv hp ht, newV_at hp ht, newV_sim ht⟩
  · intro i n hn h0
    have := (List.getElem?_eq_some_iff.1 hn).1
    simp at this; omega
  · intro i n c j hn hc
    have hi : i = 0 := by have := (List.getElem?_eq_some_iff.1 hn).1; simp at this; omega
    subst hi
    simp at hn
    subst hn
    simp at hc
  · show t0.fuel + 1 + 0 ≤ t0.fuel + 1
    omega
theorem phi_one : phi [⟨t0, newV p t0, [], none⟩] = 2 * t0.fuel + 1 := by
  show 2 * t0.fuel + 1 + 0 = _
  omega
/-- A sweep over a forest, so far. -/
structure Sw (p : List Fnc) (t0 : Tk) (l0 : List Nd) (k : Nat) (b : Bool) (l : List Nd) : Prop where
  fo : Fo p t0 none l
  len : l0.length ≤ l.length
  ph : phi l ≤ phi l0
  yes : b = true → l = l0 ∧ ∀ (i : Nat) (n : Nd), i < k → l[i]? = some n → n.s.result ≠ none
  all : Over l0 → l = l0 ∧ b = true
  go : Over l0 ∨ phi l + 1 ≤ phi l0 ∨ ∃ j, k ≤ j ∧ j < l0.length ∧ Ready l j
theorem Sw.start (h : Fo p t0 none l) : Sw p t0 l 0 true l := by
  refine ⟨h, Nat.le_refl _, Int.le_refl _, fun _ => ⟨rfl, fun i n hi => by omega⟩, fun _ => ⟨rfl, rfl⟩, ?_⟩
  by_cases hd : Over l
  · exact .inl hd
  · right; right
    have : ∃ (i : Nat) (n : Nd), l[i]? = some n ∧ n.s.result = none := by
      refine Classical.byContradiction fun hn => hd fun i n hi hr => hn ⟨i, n, hi, hr⟩
    obtain ⟨i, n, hi, hr⟩ := this
    obtain ⟨j, hj⟩ := ready_exists h _ i n (Nat.le_refl _) hi hr
    obtain ⟨m, hm, _⟩ := id hj
    exact ⟨j, Nat.zero_le _, (List.getElem?_eq_some_iff.1 hm).1, hj⟩
theorem Sw.next {l0 : List Nd} {k n : Nat} {b : Bool} {nd : Nd} (h : Sw p t0 l0 k b l) (hp : WfP p) (hk : l[k]? = some nd) (hn : 1 ≤ n) : Sw p t0 l0 (k + 1) (b && nd.s.result.isSome) (turnL p l k n) := by
  have ht := turn_ok h.fo hp hk hn
  refine ⟨ht.fo, Nat.le_trans h.len ht.len, Int.le_trans ht.ph h.ph, fun hb => ?_, fun ha => ?_, ?_⟩
  · rw [Bool.and_eq_true] at hb
    have hr : nd.s.result ≠ none := by rw [← Option.isSome_iff_ne_none]; exact hb.2
    obtain ⟨e1, e2⟩ := h.yes hb.1
    rw [turnL_done hk hr]
    refine ⟨e1, fun i m hi hm => ?_⟩
    by_cases e : i = k
    · subst e; rw [hk] at hm; cases hm; exact hr
    · exact e2 i m (by omega) hm
  · obtain ⟨e1, e2⟩ := h.all ha
    have hr : nd.s.result ≠ none := ha k nd (by rw [← e1]; exact hk)
    rw [turnL_done hk hr, e2]
    exact ⟨e1, by rw [Bool.true_and, Option.isSome_iff_ne_none]; exact hr⟩
  · rcases h.go with hg | hg | ⟨j, h1, h2, h3⟩
    · exact .inl hg
    · exact .inr (.inl (by have := ht.ph; omega))
    · by_cases e : j = k
      · subst e
        exact .inr (.inl (by have := ht.down h3; have := h.ph; omega))
      · exact .inr (.inr ⟨j, by omega, h2, ht.keep j e h3⟩)
theorem Sw.done {l0 : List Nd} {k : Nat} (h : Sw p t0 l0 k true l) (hk : l.length ≤ k) : Over l := fun i n hn => by
  exact (h.yes rfl).2 i n (by have := (List.getElem?_eq_some_iff.1 hn).1; omega) hn
theorem Sw.less {l0 : List Nd} {k : Nat} (h : Sw p t0 l0 k false l) (hk : l.length ≤ k) : phi l + 1 ≤ phi l0 := by
  rcases h.go with hg | hg | ⟨j, h1, h2, h3⟩
  · have := (h.all hg).2; cases this
  · exact hg
  · obtain ⟨m, hm, _⟩ := h3
    have := (List.getElem?_eq_some_iff.1 hm).1
    omega
end
/-- Those of one path. -/
def pickN (l : List Nd) (q : ByteArray) : List Dn := (l.filter fun n => decide (n.t.p = q)).map dnN
theorem ord_ne {a b : Dn} (h : cmpL (pl a.t.p) (pl b.t.p) = -1) : a.t.p ≠ b.t.p := by
  intro e
  rw [e, cmpL_refl] at h
  cases h
theorem ord_filter : ∀ (L : List Dn) (d : Dn), Ord13 L → d ∈ L → L.filter (fun e => decide (e.t.p = d.t.p)) = [d]
  | [], d, _, h => by cases h
  | a :: L, d, ho, h => by
    unfold Ord13 at ho
    rw [List.pairwise_cons] at ho
    rcases List.mem_cons.1 h with rfl | h
    · rw [List.filter_cons, if_pos (by simp)]
      congr 1
      rw [List.filter_eq_nil_iff]
      intro e he
      have := ord_ne (ho.1 e he)
      simpa using fun h => this h.symm
    · rw [List.filter_cons, if_neg (by simpa using ord_ne (ho.1 d h))]
      exact ord_filter L d ho.2 h
theorem pick_all {l : List Nd} {L : List Dn} (hp : L.Perm (l.map dnN)) (ho : Ord13 L) : (L.map (·.t.p)).flatMap (pickN l) = L := by
  have key : ∀ d ∈ L, pickN l d.t.p = [d] := by
    intro d hd
    have h1 := ord_filter L d ho hd
    have h2 := hp.filter (fun e => decide (e.t.p = d.t.p))
    rw [h1, List.filter_map] at h2
    unfold pickN
    exact (List.singleton_perm.1 h2).symm
  rw [List.flatMap_map]
  have h3 : ∀ M : List Dn, (∀ d ∈ M, d ∈ L) → M.flatMap (fun d => pickN l d.t.p) = M := by
    intro M
    induction M with
    | nil => intro _; rfl
    | cons a M ih =>
      intro hM
      rw [List.flatMap_cons, key a (hM a (by simp)), ih fun d hd => hM d (by simp [hd])]
      rfl
  exact h3 L fun _ h => h
end Go.Proofs.YtdhbjejejeljoaaGreat
