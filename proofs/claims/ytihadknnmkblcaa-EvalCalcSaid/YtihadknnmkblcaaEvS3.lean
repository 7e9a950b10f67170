/- Chapter 13: what a program of one op comes to. -/
import Derived.Test.YtihadknnmkblcaaEvS2
namespace Go.Proofs.Ytihadknnmkblcaa
open Go.RowKit Go.Sort Go.Lib

/-- The op's other number. -/
def secB (k : Int) : Int := if k = 2 then 0 else 1
def oneP (k : Int) (oa : Option Addr) (oc : Nat) : List Fnc := [⟨2, 3, [⟨k, 2, 0, secB k, 0⟩, ⟨14, 0, 2, 0, 0⟩], oa, oc⟩]
theorem k_cases {k : Int} (h1 : 2 ≤ k) (h2 : k ≤ 9) : k = 2 ∨ k = 3 ∨ k = 4 ∨ k = 5 ∨ k = 6 ∨ k = 7 ∨ k = 8 ∨ k = 9 := by omega
theorem one_root {k : Int} (h1 : 2 ≤ k) (h2 : k ≤ 9) (oa : Option Addr) (oc : Nat) (a b : Int) : rootE (oneP k oa oc) [a, b].length 2 = 0 := by
  rcases k_cases h1 h2 with rfl | rfl | rfl | rfl | rfl | rfl | rfl | rfl <;> rfl
theorem one_opS {k : Int} (h1 : 2 ≤ k) (h2 : k ≤ 9) (p : List Fnc) (D : Tk → Rs × List Dn) (t : Tk) (s : St) (o : Opr) (ho : o.k = k) : opS p D t s o = match calcP k (rg s.regs o.a) (rg s.regs o.b) with
    | none => (true, 131, { s with pc := s.pc + 1 })
    | some x => (false, 0, { s with pc := s.pc + 1, regs := s.regs.set o.d.toNat x }) := by
  unfold opS
  simp only [ho]
  rw [if_neg (by omega), if_neg (by omega), if_neg (by omega), if_neg (by omega), if_neg (by omega), if_neg (by omega)]
  cases calcP k (rg s.regs o.a) (rg s.regs o.b) <;> rfl
/-- What comes of two numbers, as a result. -/
def calcR (k a b : Int) : Rs := match calcP k a b with
  | none => ⟨0, 131⟩
  | some x => ⟨x, 0⟩
theorem one_eval {k : Int} (h1 : 2 ≤ k) (h2 : k ≤ 9) (oa : Option Addr) (oc : Nat) (a b : Int) : evalR (oneP k oa oc) [a, b] 2 = calcR k a b := by
  unfold evalR
  rw [if_pos (one_root h1 h2 oa oc a b)]
  have hc : calcP k (rg [a, b, 0] 0) (rg [a, b, 0] (secB k)) = calcP k a b := by
    by_cases hk : k = 2
    · subst hk; rfl
    · unfold secB; rw [if_neg hk]; rfl
  have hs : ∀ D : Tk → Rs × List Dn, stepP (oneP k oa oc) D (rootT [a, b] 2) (beginS (oneP k oa oc) (rootT [a, b] 2)) = match calcP k a b with
      | none => .stop { regs := [a, b, 0], pc := 1, left := 1, kids := 0, into := [], waits := [], done := [] } ⟨0, 131⟩
      | some x => .go { regs := [a, b, x], pc := 1, left := 1, kids := 0, into := [], waits := [], done := [] } := by
    intro D
    have e := one_opS h1 h2 (oneP k oa oc) D (rootT [a, b] 2) { regs := [a, b, 0], pc := 0, left := 1, kids := 0, into := [], waits := [], done := [] } ⟨k, 2, 0, secB k, 0⟩ rfl
    simp only [] at e
    rw [hc] at e
    show (if (2 : Int) = 0 then _ else let x := opS (oneP k oa oc) D (rootT [a, b] 2) { regs := [a, b, 0], pc := 0, left := 1, kids := 0, into := [], waits := [], done := [] } ⟨k, 2, 0, secB k, 0⟩; if x.2.1 ≠ 0 then Out.stop x.2.2 ⟨0, x.2.1⟩ else if x.1 then Out.stop x.2.2 ⟨rg x.2.2.regs 0, 0⟩ else Out.go x.2.2) = _
    rw [if_neg (by decide), e]
    cases calcP k a b with
    | none => rfl
    | some x => rfl
  have hr : ∀ D : Tk → Rs × List Dn, (runP (oneP k oa oc) D (rootT [a, b] 2) 3 (beginS (oneP k oa oc) (rootT [a, b] 2))).2 = calcR k a b := by
    intro D
    unfold runP
    rw [hs D]
    unfold calcR
    cases calcP k a b with
    | none => rfl
    | some x => rfl
  exact hr _
end Go.Proofs.Ytihadknnmkblcaa
