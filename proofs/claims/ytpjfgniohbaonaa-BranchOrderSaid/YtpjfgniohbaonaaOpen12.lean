/- How a list of texts that came in reads. -/
import Derived.Test.YtpjfgniohbaonaaRefSort
import Derived.ProofKit
import Derived.SliceStrings
namespace Go.Proofs.Ytpjfgniohbaonaa
open Go.ChangeShapes Go.WideShapes Go.ChangeAt Go.RowKit

theorem open_ss {H : Type} {enc : TypeId × Value → H} {W : World} {base : Nat} {v : Value} {d : DataW H} {p : List MemPlace} (hv : Value.okWide Try.prog W .any base 32 v)
    (h : DataW.Trod enc Try.prog W 0 (fun _ => true) true 32 v d p) : ∃ ss, ReadsS W v ss ∧ ∀ x ∈ ss, x.size ≤ maxLen := by
  obtain ⟨a0, len, cap, rfl⟩ := okWide_slice Try.underlying32 hv
  have lt : ∀ x ∈ p, x.block < W.heap.size := by obtain ⟨m, hm⟩ := h; exact DataW.trod_lt m _ _ _ hm
  obtain ⟨fuel, hf⟩ := h
  rcases open_strings Try.underlying32 Try.underlying9 (by kernel_rfl) hf with ⟨hcs, _⟩ | ⟨x, l, c, ss, hcs, _, hl, hm, hz, hx, hcell, hwz⟩
  · simp [Value.cells] at hcs
    obtain ⟨rfl, rfl, rfl⟩ := hcs
    exact ⟨[], .inl ⟨rfl, .inl rfl⟩, fun x hx => by simp at hx⟩
  · simp [Value.cells] at hcs
    obtain ⟨rfl, rfl, rfl⟩ := hcs
    simp at hz
    by_cases h0 : len = 0
    · subst h0
      exact ⟨[], .inl ⟨rfl, .inr ⟨_, _, rfl⟩⟩, fun x hx => by simp at hx⟩
    · obtain ⟨b, off, spot⟩ := x
      have c0 := hcell 0 (by omega)
      have hsp : spot = none := by
        simp only [Addr.add, if_true, World.cell?] at c0
        split at c0
        · cases spot with
          | none => rfl
          | some s => simp at c0
        · cases c0
      subst hsp
      have hb : b < W.heap.size := by
        simp only [Addr.add, if_true, World.cell?] at c0
        split at c0
        · rename_i hh; exact (Array.getElem?_eq_some_iff.1 hh).1
        · cases c0
      have hlen : (ss.take len).length = len := by rw [List.length_take]; omega
      refine ⟨ss.take len, .inr ⟨b, off, cap, by rw [hlen], hb, fun j hj => ?_⟩, fun x hx => hwz x (List.mem_of_mem_take hx)⟩
      have cj := hcell j (by omega)
      have e : (⟨b, off, none⟩ : Addr).add j = ⟨b, off + j, none⟩ := by
        by_cases hj0 : j = 0
        · subst hj0; rfl
        · simp [Addr.add, hj0]
      rw [e, List.getD_eq_getElem?_getD, List.getElem?_eq_getElem (by omega)] at cj
      rw [cj, List.getElem_take]; rfl
end Go.Proofs.Ytpjfgniohbaonaa
