/- What came in, with its sizes: each string and slice is at most as long as the row says. -/
import Derived.Test.YthbkbmkcgpdedaaOpenT
import Derived.SizedLaws
namespace Go.Proofs.Ythbkbmkcgpdedaa
open Go.ChangeShapes Go.WideShapes Go.ChangeAt Go.RowKit Go.Joins Go.Deep

def Wle {H : Type} (P : Program) (t : TypeId) (d : DataW H) : Prop := ∀ n ∈ d.weights P t, n ≤ reachBytes
theorem weightsAll_mem {H : Type} {P : Program} {e : TypeId} : ∀ {l : List (DataW H)} {d : DataW H}, d ∈ l → ∀ {n : Nat}, n ∈ d.weights P e → n ∈ DataW.weightsAll P e l
  | a :: l, d, h, n, hn => by
    simp only [DataW.weightsAll, List.mem_append]
    rcases List.mem_cons.1 h with rfl | h
    · exact .inl hn
    · exact .inr (weightsAll_mem h hn)
theorem wle_arg {H : Type} {P : Program} {ts : List TypeId} {ds : List (DataW H)} (h : (DataW.weightsEach P ts ds).all (· ≤ reachBytes) = true) {j : Nat} {t : TypeId} {d : DataW H} (ht : ts[j]? = some t) (hd : ds[j]? = some d) : Wle P t d := by
  intro n hn
  have := List.all_eq_true.1 h n (DataW.weights_mem_each ht hd n hn)
  simpa using this
section
variable {H : Type} {enc : TypeId × Value → H} {W : World} {P : Program} {t : TypeId} {fuel : Nat} {cs : List Value} {x : DataW H × List MemPlace}
theorem trod_stringW (ht : P.underlying t = some .string) (h : DataW.trod enc P W 0 (fun _ => true) true fuel t cs = some x) (hw : Wle P t x.1) : ∃ s : ByteArray, cs = [.string s] ∧ s.size ≤ maxLen ∧ s.size ≤ reachBytes := by
  obtain ⟨s, e0, hx, hs⟩ := DataW.trod_string ht h
  refine ⟨s, e0, hs, ?_⟩
  rw [hx] at hw
  have := hw s.data.toList.length (by simp [DataW.weights])
  simpa using this
/-- The fields of a struct, each with its sizes. -/
theorem trod_structW {fs : Array Field} (ht : P.underlying t = some (.struct fs)) (h : DataW.trod enc P W 0 (fun _ => true) true fuel t cs = some x) (hw : Wle P t x.1) :
    ∃ (ys : Nat → DataW H × List MemPlace) (n : Nat), cs.length = P.cellsOf t ∧ ∀ (i : Nat) (f : Field), fs[i]? = some f → DataW.trod enc P W 0 (fun _ => true) true n f.type ((cs.drop f.offset).take (P.cellsOf f.type)) = some (ys i) ∧ Wle P f.type (ys i).1 := by
  obtain ⟨xs, n, _, hx, hl, hlen, hf⟩ := DataW.trod_struct ht h
  refine ⟨fun i => (xs[i]?).getD (.nil, []), n, hl, fun i f hfi => ?_⟩
  have hi : i < xs.length := by rw [hlen]; exact (Array.getElem?_eq_some_iff.1 hfi).1
  have h1 : xs[i]? = some xs[i] := List.getElem?_eq_getElem hi
  refine ⟨by rw [hf i f hfi]; show xs[i]? = some ((xs[i]?).getD (.nil, [])); rw [h1]; rfl, ?_⟩
  simp only [h1, Option.getD_some]
  intro m hm
  refine hw m ?_
  rw [hx]
  simp only [DataW.weights, ht]
  exact DataW.weights_mem_each (j := i) (t := f.type) (d := xs[i].1) (by rw [List.getElem?_map, Array.getElem?_toList, hfi]; rfl) (by rw [List.getElem?_map, h1]; rfl) m hm
end
theorem open_KtW {P : Program} {α H : Type} {encV : TypeId × Value → H} {W : World} {v : Value} {x : DataW H × List MemPlace} {t e : TypeId} {enc : α → List Value} {k fuel : Nat} {Q : α → Prop} (ht : P.underlying t = some (.slice e)) (hC : P.cellsOf e = k) (hk : ∀ x, (enc x).length = k) (h0 : 0 < k)
    (hel : ∀ n cs x, DataW.trod encV P W 0 (fun _ => true) true n e cs = some x → Wle P e x.1 → ∃ y, cs = enc y ∧ Q y)
    (hf : DataW.trod encV P W 0 (fun _ => true) true fuel t [v] = some x) (hw : Wle P t x.1) : ∃ l, ReadsK enc k W v l ∧ l.length ≤ maxLen ∧ l.length * P.bytesOf e ≤ reachBytes ∧ ∀ x ∈ l, Q x := by
  rcases open_slice ht hf with ⟨hcs, _⟩ | ⟨a, len, cap, m, n, D, Pl, hcs, hb, hl, hm, hmm, hx, hi⟩
  · injection hcs with hcs
    subst hcs
    exact ⟨[], .inl ⟨rfl, _, _, rfl⟩, Nat.zero_le _, by simp, by simp⟩
  · injection hcs with hcs
    subst hcs
    rw [hx] at hw
    have hbytes : len * P.bytesOf e ≤ reachBytes := Nat.le_trans (Nat.mul_le_mul_right _ (show len ≤ ((List.range len).map D).length + ((List.range (m - len)).map fun j => D (len + j)).length by simp)) (hw _ (by simp only [DataW.weights, ht]; exact List.mem_cons_self))
    have hwD : ∀ i, i < len → Wle P e (D i) := fun i hi2 n hn => hw n (by
      simp only [DataW.weights, ht]
      exact List.mem_cons_of_mem _ (List.mem_append.2 (.inl (weightsAll_mem (List.mem_map.2 ⟨i, List.mem_range.2 hi2, rfl⟩) hn))))
    have hlm : len ≤ m := by rw [hmm]; split <;> omega
    have hall : ∀ i : Fin len, ∃ y : α, Q y ∧ ∀ j u, (enc y)[j]? = some u → W.cell? (a.add (i.1 * k + j)) = some u := by
      intro i
      obtain ⟨cs', hc, ht'⟩ := hi i.1 (by omega)
      rw [hC] at hc
      obtain ⟨y, rfl, hq⟩ := hel _ _ _ ht' (hwD i.1 i.2)
      obtain ⟨_, hcl, hat⟩ := World.cells?_some hc
      refine ⟨y, hq, fun j u hu => ?_⟩
      have hj : j < k := by have := (List.getElem?_eq_some_iff.1 hu).1; rw [hk] at this; exact this
      rw [← Go.Deep.add_add, hat j hj, hu]
    obtain ⟨f, hf2⟩ := Classical.axiomOfChoice hall
    by_cases h1 : len = 0
    · subst h1
      exact ⟨[], .inl ⟨rfl, _, _, rfl⟩, Nat.zero_le _, by simp, by simp⟩
    · obtain ⟨b, off, spot⟩ := a
      have hne : (enc (f ⟨0, by omega⟩))[0]? = some ((enc (f ⟨0, by omega⟩))[0]'(by rw [hk]; exact h0)) := List.getElem?_eq_getElem _
      have c0 := (hf2 ⟨0, by omega⟩).2 0 _ hne
      have hsp : spot = none := by
        simp only [Addr.add, Nat.zero_mul, Nat.zero_add, if_true, World.cell?] at c0
        split at c0
        · cases spot with
          | none => rfl
          | some s => simp at c0
        · cases c0
      subst hsp
      have hbb : b < W.heap.size := by
        simp only [Addr.add, Nat.zero_mul, Nat.zero_add, if_true, World.cell?] at c0
        split at c0
        · rename_i hh; exact (Array.getElem?_eq_some_iff.1 hh).1
        · cases c0
      refine ⟨List.ofFn f, .inr ⟨b, off, cap, by rw [List.length_ofFn], hbb, fun i hi2 t u hu => ?_⟩, by rw [List.length_ofFn]; exact Nat.le_trans hl hm, by rw [List.length_ofFn]; exact hbytes, fun x hx2 => ?_⟩
      · rw [List.getElem_ofFn] at hu
        have cj := (hf2 ⟨i, by simpa using hi2⟩).2 t u hu
        have e2 : (⟨b, off, none⟩ : Addr).add (i * k + t) = ⟨b, off + (i * k + t), none⟩ := by
          by_cases hj0 : i * k + t = 0
          · rw [hj0]; rfl
          · unfold Addr.add; rw [if_neg hj0]
        rw [e2] at cj; exact cj
      · obtain ⟨i, hi2⟩ := List.mem_ofFn.1 hx2
        rw [← hi2]; exact (hf2 i).1
theorem open_KW {P : Program} {α H : Type} {encV : TypeId × Value → H} {W : World} {base : Nat} {v : Value} {d : DataW H} {p : List MemPlace} {t e : TypeId} {enc : α → List Value} {k : Nat} {Q : α → Prop} (ht : P.underlying t = some (.slice e)) (hC : P.cellsOf e = k) (hk : ∀ x, (enc x).length = k) (h0 : 0 < k)
    (hel : ∀ n cs x, DataW.trod encV P W 0 (fun _ => true) true n e cs = some x → Wle P e x.1 → ∃ y, cs = enc y ∧ Q y)
    (hv : Value.okWide P W .any base t v) (h : DataW.Trod encV P W 0 (fun _ => true) true t v d p) (hw : Wle P t d) : ∃ l, ReadsK enc k W v l ∧ l.length ≤ maxLen ∧ l.length * P.bytesOf e ≤ reachBytes ∧ ∀ x ∈ l, Q x := by
  obtain ⟨a0, len, cap, rfl⟩ := okWide_slice ht hv
  obtain ⟨fuel, hf⟩ := h
  exact open_KtW ht hC hk h0 hel hf hw
end Go.Proofs.Ythbkbmkcgpdedaa
