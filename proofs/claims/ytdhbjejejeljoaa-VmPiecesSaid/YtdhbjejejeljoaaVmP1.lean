/- Two frames side by side; fuel never grows. -/
import Derived.Test.YtdhbjejejeljoaaVm16
namespace Go.Proofs.Ytdhbjejejeljoaa
open Go.RowKit Go.Sort Go.Lib

theorem joinV_left {s : Vs} {o : Opr} : (joinV s o).2.left = s.left := by
  unfold joinV
  by_cases h1 : (openV s).any (fun c => !c.given) = true
  · rw [if_pos h1]
  rw [if_neg h1]
  simp only []
  by_cases h2 : firstE ((openV s).map (·.r.e)) ≠ 0
  · rw [if_pos h2]; rfl
  rw [if_neg h2]
  by_cases h3 : o.k = 14
  · rw [if_pos h3]; rfl
  · rw [if_neg h3]
theorem stepV_left {p : List Fnc} {t : Tk} {s : Vs} (h0 : 0 ≤ s.left) : (stepV p t s).2.left ≤ s.left := by
  unfold stepV
  by_cases hz : s.left = 0
  · rw [if_pos hz]; exact Int.le_refl _
  rw [if_neg hz]
  generalize atV p t s = o
  unfold opV2
  by_cases k1 : o.k = 1
  · rw [if_pos k1]; simp only []; omega
  rw [if_neg k1]
  by_cases k10 : o.k = 10
  · rw [if_pos k10]; simp only []; omega
  rw [if_neg k10]
  by_cases k11 : o.k = 11
  · rw [if_pos k11]; simp only []; split <;> simp only [] <;> omega
  rw [if_neg k11]
  by_cases k12 : o.k = 12
  · rw [if_pos k12]
    unfold forkV
    simp only []
    split
    · unfold endV; simp only []; omega
    · split
      · unfold endV; simp only []; omega
      · simp only []; omega
  rw [if_neg k12]
  by_cases k13 : o.k = 13 ∨ o.k = 14
  · rw [if_pos k13, joinV_left]; simp only []; omega
  rw [if_neg k13]
  cases calcP o.k (rg s.regs o.a) (rg s.regs o.b) with
  | none => unfold endV; simp only []; omega
  | some v => simp only []; omega
theorem stepsV_left {p : List Fnc} {t : Tk} (hp : WfP p) (ht : TkOk p t) : ∀ (n : Nat) (s : Vs), InvV p t s → AtV p t s → Runs s → (stepsV p t n s).2.left ≤ s.left
  | 0, s, _, _, _ => Int.le_refl _
  | n + 1, s, hi, ha, hr => by
    have h1 := stepV_inv hp ht hi hr (ha.runs hr)
    have hg := stepV_goes (p := p) (t := t) hr
    have hl := stepV_left (p := p) (t := t) hi.l0
    unfold stepsV
    generalize stepV p t s = z at *
    obtain ⟨z1, z2⟩ := z
    cases z1 with
    | some x => exact hl
    | none => exact Int.le_trans (stepsV_left hp ht n z2 h1.1 h1.2 (hg.2 rfl).1) hl
theorem runV_left {p : List Fnc} {t : Tk} {s : Vs} (hp : WfP p) (ht : TkOk p t) (n : Nat) (hi : InvV p t s) (ha : AtV p t s) : (runV p t n s).2.left ≤ s.left := by
  unfold runV
  cases hr : s.result with
  | some r => exact Int.le_refl _
  | none =>
    cases hw : s.waits with
    | none => exact stepsV_left hp ht n s hi ha ⟨hw, hr⟩
    | some o =>
      have h1 := joinV_at hi ha hw hr
      have hg := joinV_goes (s := s) (o := o)
      have hl := joinV_left (s := s) (o := o)
      simp only []
      generalize joinV s o = z at *
      obtain ⟨z1, z2⟩ := z
      cases z1 with
      | some x => exact Int.le_of_eq hl
      | none => exact Int.le_trans (stepsV_left hp ht n z2 h1.1 h1.2 (hg rfl hr).1) (Int.le_of_eq hl)

/-- Two frames side by side. -/
structure TwF (B1 x1 r1 : Nat) (kv1 : Value) (B2 x2 r2 : Nat) (kv2 : Value) (p : List Fnc) (t : Tk) (s1 s2 : Vs) (w0 w : World) : Prop where
  f : Frm B1 x1 r1 kv1 p t s1 w
  g : Frm B2 x2 r2 kv2 p t s2 w
  ap : Apart kv1 kv2
  lt : x1 < B2 ∧ r1 < B2
  low : Below w0.heap.size w0 w
  le : w0.heap.size ≤ B1 ∧ w0.heap.size ≤ B2
section
variable {B1 x1 r1 B2 x2 r2 : Nat} {kv1 kv2 kv' : Value} {p : List Fnc} {t : Tk} {s1 s2 s' : Vs} {w0 w w' : World}
theorem TwF.below (h : TwF B1 x1 r1 kv1 B2 x2 r2 kv2 p t s1 s2 w0 w) (hB : Below w.heap.size w w') : TwF B1 x1 r1 kv1 B2 x2 r2 kv2 p t s1 s2 w0 w' := ⟨h.f.below hB, h.g.below hB, h.ap, h.lt, gthen h.low hB, h.le⟩
theorem TwF.runf (h : TwF B1 x1 r1 kv1 B2 x2 r2 kv2 p t s1 s2 w0 w) (hf : Frm B1 x1 r1 kv' p t s' w') (hl : VmL x1 r1 kv1 w kv' w') : TwF B1 x1 r1 kv' B2 x2 r2 kv2 p t s' s2 w0 w' := by
  have hg := h.g.lt
  have hlt := h.lt
  refine ⟨hf, h.g.far h.f hl.fr (by omega) (by omega) (by omega) h.ap.symm, fun b hb hu => ?_, h.lt, h.low.trans (hl.fr.below (fun i hi => Nat.le_trans h.le.1 (h.f.low i hi)) h.low.size), h.le⟩
  rcases hl.own with e | e
  · exact h.ap b (by rw [← e]; exact hb) hu
  · have h1 := e b hb
    have h2 := hg.2.2.2.2 b hu
    omega
theorem TwF.rung (h : TwF B1 x1 r1 kv1 B2 x2 r2 kv2 p t s1 s2 w0 w) (hf : Frm B2 x2 r2 kv' p t s' w') (hl : VmL x2 r2 kv2 w kv' w') : TwF B1 x1 r1 kv1 B2 x2 r2 kv' p t s1 s' w0 w' := by
  have hf1 := h.f.lt
  have hg := h.g.lt
  have hlt := h.lt
  refine ⟨h.f.far h.g hl.fr (by omega) (by omega) (by omega) h.ap, hf, fun b hb hu => ?_, h.lt, h.low.trans (hl.fr.below (fun i hi => Nat.le_trans h.le.2 (h.g.low i hi)) h.low.size), h.le⟩
  rcases hl.own with e | e
  · exact h.ap b hb (by rw [← e]; exact hu)
  · have h1 := e b hu
    have h2 := hf1.2.2.2.2 b hb
    omega
theorem TwF.boxf (h : TwF B1 x1 r1 kv1 B2 x2 r2 kv2 p t s1 s2 w0 w) (hl : VmL x1 r1 kv1 w kv' w') {b : Nat} {cur : Array Value} {E : TypeId} (hb : BoxAt w b cur E) (hE : E ∉ [FrameT, I64T, ChT]) : BoxAt w' b cur E := box_typed hb hl.fr h.f.typed hE
theorem TwF.boxg (h : TwF B1 x1 r1 kv1 B2 x2 r2 kv2 p t s1 s2 w0 w) (hl : VmL x2 r2 kv2 w kv' w') {b : Nat} {cur : Array Value} {E : TypeId} (hb : BoxAt w b cur E) (hE : E ∉ [FrameT, I64T, ChT]) : BoxAt w' b cur E := box_typed hb hl.fr h.g.typed hE
/-- Numbers that were told stay, while a frame older than they runs. -/
theorem Frm.nums {B x r : Nat} {kv : Value} {s : Vs} {n Z : Nat} {v : Value} {xs : List Value} (h : Frm B x r kv p t s w) (hl : VmL x r kv w kv' w') (ho : w.ownsRow Z I64T 1 v n xs) (hr : r < Z) : w'.ownsRow Z I64T 1 v n xs := by
  obtain ⟨pv, p', av, wv, rv, h1, _⟩ := h
  refine own_fr ho hl.fr (fun i hi hs => ?_)
  rcases hs with (e | e) | e
  · exact own_not_box ho h1.vm.box (by decide) (by rw [hi, e])
  · have := (ho.lt i hi).1; omega
  · exact own_not_own ho h1.vm.kids (by decide) hi e
/-- Something else is written: a box that holds none of a frame's. -/
theorem Frm.beside {B x r : Nat} {kv : Value} {s : Vs} {b : Nat} {cur : Array Value} {E : TypeId} (h : Frm B x r kv p t s w) (hb : BoxAt w b cur E) (hE : E ∉ [FrameT, I64T, ChT, OpT, ResT, FnT]) (hF : Fr (fun i => i = b) w w') : Frm B x r kv p t s w' := by
  have hT := typed_box hb
  simp only [List.mem_cons, List.not_mem_nil, or_false, not_or] at hE
  obtain ⟨e1, e2, e3, e4, e5, e6⟩ := hE
  have n : ∀ {T : TypeId}, E ≠ T → T ∉ [E] := fun h => by simpa using fun e => h e.symm
  obtain ⟨pv, p', av, wv, rv, h1, h2⟩ := h
  exact ⟨pv, p', av, wv, rv, ⟨h1.vm.far hF hT (n e4) (n e5) (box_ne h1.vm.box hb (Ne.symm e1)) (box_ne h1.vm.regs hb (Ne.symm e2)) (fun i hi e => own_not_box h1.vm.kids hb (Ne.symm e3) (by rw [hi, e])), h1.pr.typed hF hT (n e6) (n e4), h1.same, own_typed h1.args hF hT (n e2), h1.sep, h1.bx, h1.bk, h1.al⟩, h2⟩
theorem TwF.beside {b : Nat} {cur : Array Value} {E : TypeId} (h : TwF B1 x1 r1 kv1 B2 x2 r2 kv2 p t s1 s2 w0 w) (hb : BoxAt w b cur E) (hE : E ∉ [FrameT, I64T, ChT, OpT, ResT, FnT]) (hF : Fr (fun i => i = b) w w') (hl : w0.heap.size ≤ b) : TwF B1 x1 r1 kv1 B2 x2 r2 kv2 p t s1 s2 w0 w' :=
  ⟨h.f.beside hb hE hF, h.g.beside hb hE hF, h.ap, h.lt, h.low.trans (hF.below (fun i hi => by omega) h.low.size), h.le⟩
end
/-- A box of a result is written, while neither is over. -/
theorem Frm.besideR {B x r : Nat} {kv : Value} {p : List Fnc} {t : Tk} {s : Vs} {w w' : World} {b : Nat} {cur : Array Value} (h : Frm B x r kv p t s w) (hs : s.result = none) (hb : BoxAt w b cur ResT) (hF : Fr (fun i => i = b) w w') : Frm B x r kv p t s w' := by
  have hT := typed_box hb
  obtain ⟨pv, p', av, wv, rv, h1, h2⟩ := h
  have hv := h1.vm
  have hr := hv.rs
  rw [hs] at hr
  refine ⟨pv, p', av, wv, rv, ⟨⟨hv.box.fr hF (box_ne hv.box hb (by decide)), hv.regs.fr hF (box_ne hv.regs hb (by decide)), own_typed hv.kids hF hT (by decide), hv.wt.typed hF hT (by decide), by rw [hs]; exact hr⟩, h1.pr.typed hF hT (by decide) (by decide), h1.same, own_typed h1.args hF hT (by decide), h1.sep, h1.bx, h1.bk, h1.al⟩, h2⟩
theorem TwF.besideR {B1 x1 r1 B2 x2 r2 : Nat} {kv1 kv2 : Value} {p : List Fnc} {t : Tk} {s1 s2 : Vs} {w0 w w' : World} {b : Nat} {cur : Array Value} (h : TwF B1 x1 r1 kv1 B2 x2 r2 kv2 p t s1 s2 w0 w) (h1 : s1.result = none) (h2 : s2.result = none) (hb : BoxAt w b cur ResT) (hF : Fr (fun i => i = b) w w') (hl : w0.heap.size ≤ b) : TwF B1 x1 r1 kv1 B2 x2 r2 kv2 p t s1 s2 w0 w' :=
  ⟨h.f.besideR h1 hb hF, h.g.besideR h2 hb hF, h.ap, h.lt, h.low.trans (hF.below (fun i hi => by omega) h.low.size), h.le⟩
/-- A child's arguments are few. -/
theorem opV2_args {p : List Fnc} {t : Tk} {s : Vs} {o : Opr} : ∀ x, (opV2 p t s o).1 = some x → x.kid.args.length ≤ s.regs.length := by
  intro x h
  have hj : ∀ y, (joinV s o).1 = some y → y.kid.args.length = 0 := by
    intro y h
    unfold joinV at h
    by_cases h1 : (openV s).any (fun c => !c.given) = true
    · rw [if_pos h1] at h; cases h; rfl
    rw [if_neg h1] at h
    simp only [] at h
    by_cases h2 : firstE ((openV s).map (·.r.e)) ≠ 0
    · rw [if_pos h2] at h; cases h; rfl
    rw [if_neg h2] at h
    by_cases h3 : o.k = 14
    · rw [if_pos h3] at h; cases h; rfl
    · rw [if_neg h3] at h; cases h
  unfold opV2 at h
  by_cases k1 : o.k = 1
  · rw [if_pos k1] at h; cases h
  rw [if_neg k1] at h
  by_cases k10 : o.k = 10
  · rw [if_pos k10] at h; cases h
  rw [if_neg k10] at h
  by_cases k11 : o.k = 11
  · rw [if_pos k11] at h; cases h
  rw [if_neg k11] at h
  by_cases k12 : o.k = 12
  · rw [if_pos k12] at h
    unfold forkV at h
    by_cases h1 : 16 ≤ s.kids.length
    · rw [if_pos h1] at h; cases h; exact Nat.zero_le _
    rw [if_neg h1] at h
    by_cases h2 : kidB t.p ((s.kids.length : Int) + 1) = false
    · rw [if_pos h2] at h; cases h; exact Nat.zero_le _
    rw [if_neg h2] at h
    cases h
    simp only [kidV, List.length_take, List.length_drop]
    omega
  rw [if_neg k12] at h
  by_cases k13 : o.k = 13 ∨ o.k = 14
  · rw [if_pos k13] at h
    rw [hj x h]; exact Nat.zero_le _
  rw [if_neg k13] at h
  generalize calcP _ _ _ = c at h
  cases c with
  | none => cases h; exact Nat.zero_le _
  | some v => cases h
theorem stepsV_args {p : List Fnc} {t : Tk} (hp : WfP p) (ht : TkOk p t) : ∀ (n : Nat) (s : Vs), InvV p t s → AtV p t s → Runs s → (stepsV p t n s).1.kid.args.length ≤ 16
  | 0, s, _, _, _ => Nat.zero_le _
  | n + 1, s, hi, ha, hr => by
    have h1 := stepV_inv hp ht hi hr (ha.runs hr)
    have hg := stepV_goes (p := p) (t := t) hr
    have hl : ∀ x, (stepV p t s).1 = some x → x.kid.args.length ≤ 16 := by
      intro x h
      have hrl := hi.rl
      have hr2 := (hp.fn ht.f0 ht.f1).r2
      unfold stepV at h
      by_cases hz : s.left = 0
      · rw [if_pos hz] at h; cases h; exact Nat.zero_le _
      rw [if_neg hz] at h
      have := opV2_args x h
      simp only [] at this
      omega
    unfold stepsV
    generalize stepV p t s = z at *
    obtain ⟨z1, z2⟩ := z
    cases z1 with
    | some x => exact hl x rfl
    | none => exact stepsV_args hp ht n z2 h1.1 h1.2 (hg.2 rfl).1
theorem runV_args {p : List Fnc} {t : Tk} {s : Vs} (hp : WfP p) (ht : TkOk p t) (n : Nat) (hi : InvV p t s) (ha : AtV p t s) : (runV p t n s).1.kid.args.length ≤ 16 := by
  unfold runV
  cases hr : s.result with
  | some r => exact Nat.zero_le _
  | none =>
    cases hw : s.waits with
    | none => exact stepsV_args hp ht n s hi ha ⟨hw, hr⟩
    | some o =>
      have h1 := joinV_at hi ha hw hr
      have hg := joinV_goes (s := s) (o := o)
      have hj : ∀ y, (joinV s o).1 = some y → y.kid.args.length ≤ 16 := by
        intro y h
        unfold joinV at h
        by_cases h1 : (openV s).any (fun c => !c.given) = true
        · rw [if_pos h1] at h; cases h; exact Nat.zero_le _
        rw [if_neg h1] at h
        simp only [] at h
        by_cases h2 : firstE ((openV s).map (·.r.e)) ≠ 0
        · rw [if_pos h2] at h; cases h; exact Nat.zero_le _
        rw [if_neg h2] at h
        by_cases h3 : o.k = 14
        · rw [if_pos h3] at h; cases h; exact Nat.zero_le _
        · rw [if_neg h3] at h; cases h
      simp only []
      generalize joinV s o = z at *
      obtain ⟨z1, z2⟩ := z
      cases z1 with
      | some x => exact hj x rfl
      | none => exact stepsV_args hp ht n z2 h1.1 h1.2 (hg rfl hr).1
end Go.Proofs.Ytdhbjejejeljoaa
