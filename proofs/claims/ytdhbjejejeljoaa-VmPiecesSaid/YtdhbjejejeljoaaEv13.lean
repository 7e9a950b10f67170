/- Contract: eval.task.op. -/
import Derived.Test.YtdhbjejejeljoaaEv12
namespace Go.Proofs.Ytdhbjejejeljoaa
open Go.RowKit Go.Sort Go.Lib
theorem opS_set {p : List Fnc} {D : Tk → Rs × List Dn} {t : Tk} {s : St} {o : Opr} (h : o.k = 1) : opS p D t s o = (false, 0, { s with pc := s.pc + 1, regs := s.regs.set o.d.toNat o.n }) := by unfold opS; simp [h]
theorem opS_go {p : List Fnc} {D : Tk → Rs × List Dn} {t : Tk} {s : St} {o : Opr} (h : o.k = 10) : opS p D t s o = (false, 0, { s with pc := o.n }) := by unfold opS; simp [h]
theorem opS_if {p : List Fnc} {D : Tk → Rs × List Dn} {t : Tk} {s : St} {o : Opr} (h : o.k = 11) : opS p D t s o = (false, 0, if rg s.regs o.a = 0 then { s with pc := s.pc + 1 } else { s with pc := o.n }) := by unfold opS; simp [h]
theorem opS_fork {p : List Fnc} {D : Tk → Rs × List Dn} {t : Tk} {s : St} {o : Opr} (h : o.k = 12) : opS p D t s o = (false, forkS p D t { s with pc := s.pc + 1 } o) := by unfold opS; simp [h]
theorem opS_join {p : List Fnc} {D : Tk → Rs × List Dn} {t : Tk} {s : St} {o : Opr} (h : o.k = 13) : opS p D t s o = (false, joinS { s with pc := s.pc + 1 }) := by unfold opS; simp [h]
theorem opS_ret {p : List Fnc} {D : Tk → Rs × List Dn} {t : Tk} {s : St} {o : Opr} (h : o.k = 14) : opS p D t s o = (true, joinS { s with pc := s.pc + 1 }) := by unfold opS; simp [h]
theorem opS_zero {p : List Fnc} {D : Tk → Rs × List Dn} {t : Tk} {s : St} {o : Opr} (h1 : 2 ≤ o.k) (h2 : o.k ≤ 9) (h : calcP o.k (rg s.regs o.a) (rg s.regs o.b) = none) : opS p D t s o = (true, 131, { s with pc := s.pc + 1 }) := by
  unfold opS
  simp only []
  rw [if_neg (by omega), if_neg (by omega), if_neg (by omega), if_neg (by omega), if_neg (by omega), if_neg (by omega), h]
theorem opS_calc {p : List Fnc} {D : Tk → Rs × List Dn} {t : Tk} {s : St} {o : Opr} {v : Int} (h1 : 2 ≤ o.k) (h2 : o.k ≤ 9) (h : calcP o.k (rg s.regs o.a) (rg s.regs o.b) = some v) : opS p D t s o = (false, 0, { s with pc := s.pc + 1, regs := s.regs.set o.d.toNat v }) := by
  unfold opS
  simp only []
  rw [if_neg (by omega), if_neg (by omega), if_neg (by omega), if_neg (by omega), if_neg (by omega), if_neg (by omega), h]
theorem calc_none {k a b : Int} (h : (k = 6 ∨ k = 7) ∧ b = 0) : calcP k a b = none := by
  obtain ⟨h | h, rfl⟩ := h <;> simp [calcP, h]
theorem calc_some {k a b : Int} (h : ¬ ((k = 6 ∨ k = 7) ∧ b = 0)) : ∃ v, calcP k a b = some v := by
  unfold calcP
  by_cases h0 : b = 0
  · have h6 : k ≠ 6 := fun e => h ⟨.inl e, h0⟩
    have h7 : k ≠ 7 := fun e => h ⟨.inr e, h0⟩
    simp only [if_neg h6, if_neg h7]
    repeat' split
    all_goals exact ⟨_, rfl⟩
  · simp only [if_neg h0]
    repeat' split
    all_goals exact ⟨_, rfl⟩
end Go.Proofs.Ytdhbjejejeljoaa
