/- How a list of structs that came in reads. -/
import Derived.Test.YthbkbmkcgpdedaaReads
import Derived.ProofKit
import Derived.Lib.SmallJoins
import Derived.Deep.Slices
namespace Go.Proofs.Ythbkbmkcgpdedaa
open Go.ChangeShapes Go.WideShapes Go.ChangeAt Go.RowKit Go.Deep

theorem open_K {P : Program} {α H : Type} {encV : TypeId × Value → H} {W : World} {base : Nat} {v : Value} {d : DataW H} {p : List MemPlace} {t e : TypeId} {enc : α → List Value} {k : Nat} {Q : α → Prop} (ht : P.underlying t = some (.slice e)) (hC : P.cellsOf e = k) (hk : ∀ x, (enc x).length = k) (h0 : 0 < k)
    (hel : ∀ n cs x, DataW.trod encV P W 0 (fun _ => true) true n e cs = some x → ∃ y, cs = enc y ∧ Q y)
    (hv : Value.okWide P W .any base t v) (h : DataW.Trod encV P W 0 (fun _ => true) true t v d p) : ∃ l, ReadsK enc k W v l ∧ l.length ≤ maxLen ∧ ∀ x ∈ l, Q x := by
  obtain ⟨a0, len, cap, rfl⟩ := okWide_slice ht hv
  obtain ⟨fuel, hf⟩ := h
  rcases open_slice ht hf with ⟨hcs, _⟩ | ⟨a, len', cap', m, n, D, Pl, hcs, hb, hl, hm, hmm, hx, hi⟩
  · simp [Value.cells] at hcs
    obtain ⟨rfl, rfl, rfl⟩ := hcs
    exact ⟨[], .inl ⟨rfl, _, _, rfl⟩, Nat.zero_le _, by simp⟩
  · simp [Value.cells] at hcs
    obtain ⟨rfl, rfl, rfl⟩ := hcs
    have hlm : len ≤ m := by rw [hmm]; split <;> omega
    have hall : ∀ i : Fin len, ∃ y : α, Q y ∧ ∀ j u, (enc y)[j]? = some u → W.cell? (a.add (i.1 * k + j)) = some u := by
      intro i
      obtain ⟨cs', hc, ht'⟩ := hi i.1 (by omega)
      rw [hC] at hc
      obtain ⟨y, rfl, hq⟩ := hel _ _ _ ht'
      obtain ⟨_, hcl, hat⟩ := World.cells?_some hc
      refine ⟨y, hq, fun j u hu => ?_⟩
      have hj : j < k := by have := (List.getElem?_eq_some_iff.1 hu).1; rw [hk] at this; exact this
      rw [← Go.Deep.add_add, hat j hj, hu]
    obtain ⟨f, hf2⟩ := Classical.axiomOfChoice hall
    by_cases h1 : len = 0
    · subst h1
      exact ⟨[], .inl ⟨rfl, _, _, rfl⟩, Nat.zero_le _, by simp⟩
    · obtain ⟨b, off, spot⟩ := a
      have hne : (enc (f ⟨0, by omega⟩))[0]? = some ((enc (f ⟨0, by omega⟩))[0]'(by rw [hk]; exact h0)) := List.getElem?_eq_getElem _
      have c0 := (hf2 ⟨0, by omega⟩).2 0 _ hne
      have hsp : spot = none := by
        simp only [Addr.add, Nat.zero_mul, Nat.zero_add, if_true, World.cell?] at c0
        split at c0
        · cases spot with
          | none => rfl
          | some s => simp at c0
        · cases c0
      subst hsp
      have hbb : b < W.heap.size := by
        simp only [Addr.add, Nat.zero_mul, Nat.zero_add, if_true, World.cell?] at c0
        split at c0
        · rename_i hh; exact (Array.getElem?_eq_some_iff.1 hh).1
        · cases c0
      refine ⟨List.ofFn f, .inr ⟨b, off, cap, by rw [List.length_ofFn], hbb, fun i hi2 t u hu => ?_⟩, by rw [List.length_ofFn]; exact Nat.le_trans hl hm, fun x hx2 => ?_⟩
      · rw [List.getElem_ofFn] at hu
        have cj := (hf2 ⟨i, by simpa using hi2⟩).2 t u hu
        have e2 : (⟨b, off, none⟩ : Addr).add (i * k + t) = ⟨b, off + (i * k + t), none⟩ := by
          by_cases hj0 : i * k + t = 0
          · rw [hj0]; rfl
          · unfold Addr.add; rw [if_neg hj0]
        rw [e2] at cj; exact cj
      · obtain ⟨i, hi2⟩ := List.mem_ofFn.1 hx2
        rw [← hi2]; exact (hf2 i).1
end Go.Proofs.Ythbkbmkcgpdedaa
