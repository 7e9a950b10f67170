/- The first and the last part of a slice that reads as a list; both as lists. -/
import Derived.Test.YthbkbmkcgpdedaaBox
namespace Go.Proofs.Ythbkbmkcgpdedaa
open Go.RowKit Go.Sort Go.Lib

section
variable {α : Type} {enc : α → List Value} {k : Nat} {w : World}
theorem readsK_take {a : Option Addr} {n cap : Nat} {l : List α} (h : ReadsK enc k w (.slice a n cap) l) (j : Nat) (hj : j ≤ l.length) (c : Nat) : ReadsK enc k w (.slice a j c) (l.take j) := by
  rcases h with ⟨rfl, _⟩ | ⟨b, off, cap', he, hb, hc⟩
  · simp at hj; subst hj; exact .inl ⟨by simp, _, _, rfl⟩
  · injection he with he1 _ _
    subst he1
    refine .inr ⟨b, off, c, by rw [List.length_take, Nat.min_eq_left hj], hb, fun i hi t u hu => ?_⟩
    rw [List.getElem_take] at hu
    rw [List.length_take] at hi
    exact hc i (by omega) t u hu
theorem readsK_drop {b off n cap : Nat} {l : List α} (h : ReadsK enc k w (.slice (some ⟨b, off, none⟩) n cap) l) (j : Nat) (hj : j ≤ l.length) (c : Nat) : ReadsK enc k w (.slice (some ⟨b, off + j * k, none⟩) (l.length - j) c) (l.drop j) := by
  rcases h with ⟨rfl, _⟩ | ⟨b', off', cap', he, hb, hc⟩
  · simp at hj; subst hj; exact .inl ⟨by simp, _, _, rfl⟩
  · injection he with he1 _ _
    injection he1 with he1
    injection he1 with h1 h2 h3
    subst h1 h2
    refine .inr ⟨b, off + j * k, c, by rw [List.length_drop], hb, fun i hi t u hu => ?_⟩
    rw [List.getElem_drop] at hu
    rw [List.length_drop] at hi
    have := hc (j + i) (by omega) t u hu
    rwa [show off + ((j + i) * k + t) = off + j * k + (i * k + t) by rw [Nat.add_mul]; omega] at this
theorem readsK_own (hk : ∀ x, (enc x).length = k) (h0 : 0 < k) {Z n : Nat} {E : TypeId} {v : Value} {l : List α} (h : w.ownsRow Z E k v n (l.flatMap enc)) (hn : l.length = n) : ReadsK enc k w v l := by
  subst hn
  exact own_readsK (enc := enc) hk h0 h
end
end Go.Proofs.Ythbkbmkcgpdedaa
