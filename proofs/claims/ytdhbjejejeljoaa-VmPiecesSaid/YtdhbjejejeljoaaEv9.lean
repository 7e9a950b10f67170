/- Contracts: eval.calcs, what the ops make of two numbers. (Printed by gen/genev9.py.) -/
import Derived.Test.YtdhbjejejeljoaaEv8
namespace Go.Proofs.Ytdhbjejejeljoaa
open Go.RowKit Go.Sort Go.Lib

def evC (n : Nat) : Value := .func (.func n) #[] #[]
theorem below_only {w w1 w2 : World} {m : Nat} (h : Below w.heap.size w w1) (ho : OnlyAt w1 w2 m) (hm : w.heap.size ≤ m) : Below w.heap.size w w2 :=
  ⟨ho.1.trans h.os, ho.2.1.trans h.tape, ho.2.2.1.trans h.output, by rw [ho.2.2.2.1]; exact h.size, fun k hk => (ho.2.2.2.2.1 k (by omega)).trans (h.block k hk)⟩
end Go.Proofs.Ytdhbjejejeljoaa
