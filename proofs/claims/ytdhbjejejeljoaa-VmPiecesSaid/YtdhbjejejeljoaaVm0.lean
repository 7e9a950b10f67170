/- What a frame does, plainly. -/
import Derived.Test.YtdhbjejejeljoaaEv1
namespace Go.Proofs.Ytdhbjejejeljoaa
open Go.RowKit

/-- A child that was begun: where its value comes, whether it was given, what it came to. -/
structure Ch where
  into : Int
  given : Bool
  r : Rs
instance : Inhabited Ch := ⟨⟨0, false, ⟨0, 0⟩⟩⟩
/-- A frame. -/
structure Vs where
  regs : List Int
  left : Int
  pc : Int
  kids : List Ch
  joined : Nat
  waits : Option Opr
  result : Option Rs
/-- A stop. -/
structure Sp where
  k : Int
  kid : Tk
  r : Rs
def noTk : Tk := ⟨⟨#[]⟩, 0, [], 0⟩
def spDone (r : Rs) : Sp := ⟨4, noTk, r⟩
def endV (s : Vs) (r : Rs) : Option Sp × Vs := (some (spDone r), { s with result := some r })
def openV (s : Vs) : List Ch := s.kids.drop s.joined
/-- A join of an op. -/
def joinV (s : Vs) (o : Opr) : Option Sp × Vs :=
  if (openV s).any (fun c => !c.given) then (some ⟨3, noTk, ⟨0, 0⟩⟩, { s with waits := some o })
  else
    let s1 : Vs := { s with waits := none, joined := s.kids.length }
    if firstE ((openV s).map (·.r.e)) ≠ 0 then endV s1 ⟨0, firstE ((openV s).map (·.r.e))⟩
    else
      let s2 : Vs := { s1 with regs := setAll s.regs ((openV s).map (·.into)) ((openV s).map (·.r)) }
      if o.k = 14 then endV s2 ⟨rg s2.regs o.a, 0⟩ else (none, s2)
/-- The child that a fork begins. -/
def kidV (p : List Fnc) (t : Tk) (s : Vs) (o : Opr) : Tk :=
  ⟨kidS t.p ((s.kids.length : Int) + 1), o.n, (s.regs.drop o.a.toNat).take (fnAt p o.n).args.toNat, s.left / 2⟩
def forkV (p : List Fnc) (t : Tk) (s : Vs) (o : Opr) : Option Sp × Vs :=
  if 16 ≤ s.kids.length then endV s ⟨0, 132⟩
  else if kidB t.p ((s.kids.length : Int) + 1) = false then endV s ⟨0, 133⟩
  else (some ⟨2, kidV p t s o, ⟨0, 0⟩⟩, { s with left := s.left - s.left / 2, kids := s.kids ++ [⟨o.d, false, ⟨0, 0⟩⟩] })
def atV (p : List Fnc) (t : Tk) (s : Vs) : Opr := (fnAt p t.fn).ops.getD s.pc.toNat default
/-- An op. -/
def opV2 (p : List Fnc) (t : Tk) (s : Vs) (o : Opr) : Option Sp × Vs :=
  if o.k = 1 then (none, { s with regs := s.regs.set o.d.toNat o.n })
  else if o.k = 10 then (none, { s with pc := o.n })
  else if o.k = 11 then (none, if rg s.regs o.a = 0 then s else { s with pc := o.n })
  else if o.k = 12 then forkV p t s o
  else if o.k = 13 ∨ o.k = 14 then joinV s o
  else match calcP o.k (rg s.regs o.a) (rg s.regs o.b) with
    | none => endV s ⟨0, 131⟩
    | some x => (none, { s with regs := s.regs.set o.d.toNat x })
def stepV (p : List Fnc) (t : Tk) (s : Vs) : Option Sp × Vs :=
  if s.left = 0 then endV s ⟨0, 130⟩
  else opV2 p t { s with left := s.left - 1, pc := s.pc + 1 } (atV p t s)
/-- So many ops, or up to a stop. -/
def stepsV (p : List Fnc) (t : Tk) : Nat → Vs → Sp × Vs
  | 0, s => (⟨1, noTk, ⟨0, 0⟩⟩, s)
  | n + 1, s => match stepV p t s with
    | (some x, s') => (x, s')
    | (none, s') => stepsV p t n s'
def runV (p : List Fnc) (t : Tk) (n : Nat) (s : Vs) : Sp × Vs :=
  match s.result with
  | some r => (spDone r, s)
  | none => match s.waits with
    | none => stepsV p t n s
    | some o => match joinV s o with
      | (some x, s') => (x, s')
      | (none, s') => stepsV p t n s'
def giveV (s : Vs) (k : Int) (r : Rs) : Int × Vs :=
  if k < 1 ∨ (s.kids.length : Int) < k then (5, s)
  else if (s.kids.getD (k - 1).toNat default).given then (7, s)
  else if s.result.isSome then (3, s)
  else (0, { s with kids := s.kids.set (k - 1).toNat ⟨(s.kids.getD (k - 1).toNat default).into, true, r⟩ })
def newV (p : List Fnc) (t : Tk) : Vs :=
  { regs := t.args ++ List.replicate ((fnAt p t.fn).regs.toNat - t.args.length) 0, left := t.fuel, pc := 0, kids := [], joined := 0, waits := none, result := none }
/-- What holds of each state. -/
structure InvV (p : List Fnc) (t : Tk) (s : Vs) : Prop where
  rl : (s.regs.length : Int) = (fnAt p t.fn).regs
  pc0 : 0 ≤ s.pc
  pc1 : s.pc ≤ 64
  l0 : 0 ≤ s.left
  l1 : s.left ≤ 65536
  k1 : s.kids.length ≤ 16
  jl : s.joined ≤ s.kids.length
  ir : ∀ c ∈ s.kids, 0 ≤ c.into ∧ c.into < (fnAt p t.fn).regs
  wt : ∀ o, s.waits = some o → OpOk p (fnAt p t.fn) o ∧ (o.k = 13 ∨ o.k = 14)
/-- Where it stands is in the function, unless it is over. -/
def AtV (p : List Fnc) (t : Tk) (s : Vs) : Prop := s.result = none → s.pc < (fnAt p t.fn).ops.length ∨ ∃ o, s.waits = some o ∧ o.k = 14
theorem joinV_inv {p : List Fnc} {t : Tk} {s : Vs} {o : Opr} (hi : InvV p t s) (ho : OpOk p (fnAt p t.fn) o) (hk : o.k = 13 ∨ o.k = 14) :
    InvV p t (joinV s o).2 ∧ (joinV s o).2.pc = s.pc ∧ (joinV s o).2.left = s.left ∧ ((joinV s o).1 = none → o.k = 13 ∧ (joinV s o).2.waits = none ∧ (joinV s o).2.result = s.result) ∧ ((joinV s o).1 ≠ none → (joinV s o).2.waits = some o ∨ (joinV s o).2.result ≠ none) := by
  unfold joinV
  by_cases h1 : (openV s).any (fun c => !c.given) = true
  · rw [if_pos h1]
    refine ⟨⟨hi.rl, hi.pc0, hi.pc1, hi.l0, hi.l1, hi.k1, hi.jl, hi.ir, fun o' h => ?_⟩, rfl, rfl, fun h => (by cases h), fun _ => .inl rfl⟩
    simp only [Option.some.injEq] at h
    subst h; exact ⟨ho, hk⟩
  rw [if_neg h1]
  simp only []
  by_cases h2 : firstE ((openV s).map (·.r.e)) ≠ 0
  · rw [if_pos h2]
    unfold endV
    exact ⟨⟨hi.rl, hi.pc0, hi.pc1, hi.l0, hi.l1, hi.k1, Nat.le_refl _, hi.ir, fun o' h => (by cases h)⟩, rfl, rfl, fun h => (by cases h), fun _ => .inr (by simp)⟩
  rw [if_neg h2]
  have hi2 : InvV p t { s with waits := none, joined := s.kids.length, regs := setAll s.regs ((openV s).map (·.into)) ((openV s).map (·.r)) } := ⟨by simp only [setAll_length]; exact hi.rl, hi.pc0, hi.pc1, hi.l0, hi.l1, hi.k1, Nat.le_refl _, hi.ir, fun o' h => (by cases h)⟩
  by_cases h3 : o.k = 14
  · rw [if_pos h3]
    unfold endV
    exact ⟨⟨hi2.rl, hi2.pc0, hi2.pc1, hi2.l0, hi2.l1, hi2.k1, hi2.jl, hi2.ir, hi2.wt⟩, rfl, rfl, fun h => (by cases h), fun _ => .inr (by simp)⟩
  · rw [if_neg h3]
    exact ⟨hi2, rfl, rfl, fun _ => ⟨by omega, rfl, rfl⟩, fun h => absurd rfl h⟩
/-- A child more. -/
theorem forkV_inv {p : List Fnc} {t : Tk} {s : Vs} {o : Opr} (hi : InvV p t s) (ho : OpOk p (fnAt p t.fn) o) (hk : o.k = 12) : InvV p t (forkV p t s o).2 ∧ (forkV p t s o).2.pc = s.pc := by
  unfold forkV
  have hl0 := hi.l0
  have hl1 := hi.l1
  by_cases h1 : 16 ≤ s.kids.length
  · rw [if_pos h1]
    unfold endV
    exact ⟨⟨hi.rl, hi.pc0, hi.pc1, hi.l0, hi.l1, hi.k1, hi.jl, hi.ir, hi.wt⟩, rfl⟩
  rw [if_neg h1]
  by_cases h2 : kidB t.p ((s.kids.length : Int) + 1) = false
  · rw [if_pos h2]
    unfold endV
    exact ⟨⟨hi.rl, hi.pc0, hi.pc1, hi.l0, hi.l1, hi.k1, hi.jl, hi.ir, hi.wt⟩, rfl⟩
  rw [if_neg h2]
  refine ⟨⟨hi.rl, hi.pc0, hi.pc1, by simp only []; omega, by simp only []; omega, by simp; omega, by have := hi.jl; simp; omega, fun c hc => ?_, hi.wt⟩, rfl⟩
  simp only [List.mem_append, List.mem_singleton] at hc
  rcases hc with hc | hc
  · exact hi.ir c hc
  · subst hc; exact ⟨ho.d0, ho.d (.inr hk)⟩
theorem newV_inv {p : List Fnc} {t : Tk} (hp : WfP p) (ht : TkOk p t) : InvV p t (newV p t) := by
  have hf := hp.fn ht.f0 ht.f1
  have h1 := ht.args
  have h2 := hf.r1
  have h3 := hf.r0
  unfold newV
  exact ⟨by simp; omega, by simp, by simp, ht.u0, ht.u1, by simp, by simp, fun c hc => (by cases hc), fun o h => (by cases h)⟩
end Go.Proofs.Ytdhbjejejeljoaa
