/- Contract: eval.task.run. -/
import Derived.Test.YtdhbjejejeljoaaEv13
namespace Go.Proofs.Ytdhbjejejeljoaa
open Go.RowKit Go.Sort Go.Lib

theorem res_set {w : World} {rb : Nat} {q : Rs} (h : BoxAt w rb (resC q) ResT) (v e : Int) : BoxAt ((w.setCell ⟨rb, 0, none⟩ (.int .i64 v)).setCell ⟨rb, 1, none⟩ (.int .i64 e)) rb (resC ⟨v, e⟩) ResT :=
  Go.heap_setCell_same _ rb 1 _ _ _ (Go.heap_setCell_same w rb 0 _ _ _ h)
theorem opS_done {p : List Fnc} {D : Tk → Rs × List Dn} {t : Tk} {s s5 : St} {o : Opr} {f : Fnc} {ee : Int} (h : opS p D t s o = (true, ee, s5)) (he : ee = 0) (ho : OpOk p f o) : o.k = 14 := by
  by_cases k14 : o.k = 14
  · exact k14
  exfalso
  subst he
  by_cases k1 : o.k = 1
  · rw [opS_set k1] at h; cases h
  by_cases k10 : o.k = 10
  · rw [opS_go k10] at h; cases h
  by_cases k11 : o.k = 11
  · rw [opS_if k11] at h; cases h
  by_cases k12 : o.k = 12
  · rw [opS_fork k12] at h; cases h
  by_cases k13 : o.k = 13
  · rw [opS_join k13] at h; cases h
  have h1 := ho.k1
  have h2 := ho.k2
  cases hc : calcP o.k (rg s.regs o.a) (rg s.regs o.b) with
  | none => rw [opS_zero (by omega) (by omega) hc] at h; cases h
  | some v => rw [opS_calc (by omega) (by omega) hc] at h; cases h
end Go.Proofs.Ytdhbjejejeljoaa
