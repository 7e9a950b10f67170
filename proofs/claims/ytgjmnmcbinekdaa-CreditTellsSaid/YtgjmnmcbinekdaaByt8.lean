/- Contracts: wire.all over numbers, Uints. -/
import Derived.Test.YtgjmnmcbinekdaaByt1
import Derived.Test.YtgjmnmcbinekdaaShelf20B
import Derived.Test.YtgjmnmcbinekdaaReads
namespace Go.Proofs.Ytgjmnmcbinekdaa
open Go.RowKit Go.Lib

def encN8 (n : Nat) : List Value := [.int .u64 n]
theorem builder_below {b : Nat} {bs : List Value} {w w' : World} (h : IsBuilderF 89 5 b b bs w) (hB : Below w.heap.size w w') : IsBuilderF 89 5 b b bs w' := by
  have key : ∀ p, BuilderAtF 89 5 b b p bs w → BuilderAtF 89 5 b b p bs w' := by
    rintro p ⟨hb, v, hc, ⟨hl, ho⟩, hne⟩
    refine ⟨hb, v, (hB.block b (Array.getElem?_eq_some_iff.1 hc).1).trans hc, ⟨hl, ?_⟩, hne⟩
    rcases ho with ho | ⟨g, cap, cur, fz, hv, hg, hh, hrest⟩
    · exact .inl ho
    · exact .inr ⟨g, cap, cur, fz, hv, hg, (hB.block g (Array.getElem?_eq_some_iff.1 hh).1).trans hh, hrest⟩
  rcases h with h | h
  · exact .inl (key _ h)
  · exact .inr (key _ h)
def allB (l : List Nat) : List UInt8 := l.flatMap uBytes
theorem allB_len {l : List Nat} (h : ∀ n ∈ l, n < 18446744073709551616) : (allB l).length ≤ 10 * l.length := by
  induction l with
  | nil => simp [allB]
  | cons x t ih =>
    have h1 := uBytes_len10 (h x (by simp))
    have h2 := ih (fun n hn => h n (by simp [hn]))
    unfold allB at *
    rw [List.flatMap_cons, List.length_append, List.length_cons]
    omega
theorem allB_take {l : List Nat} {k : Nat} (h : k < l.length) : allB (l.take (k + 1)) = allB (l.take k) ++ uBytes l[k] := by
  unfold allB
  rw [List.take_succ_eq_append_getElem h, List.flatMap_append]
  simp
theorem reads_n8 {w : World} {l : List Nat} {b off : Nat} (hc : ∀ i (h : i < l.length) t u, (encN8 l[i])[t]? = some u → w.cell? ⟨b, off + (i * 1 + t), none⟩ = some u) (k : Nat) (hk : k < l.length) : w.cell? ⟨b, off + k, none⟩ = some (.int .u64 l[k]) := by
  have h := hc k hk 0 _ rfl
  rwa [Nat.mul_one, Nat.add_zero] at h
theorem rsE {a b : List UInt8} (h : a = b) : Ending.returned (.string ⟨a.toArray⟩) = Ending.returned (.string ⟨b.toArray⟩) := by rw [h]
def StrR (l : List UInt8) (w : World) (e : Ending) (w' : World) : Prop := e = .returned (.string ⟨l.toArray⟩) ∧ Below w.heap.size w w'
set_option maxHeartbeats 1600000 in
set_option maxRecDepth 100000 in
theorem all_any (l : List Nat) (v : Value) (w : World) (h : ReadsK encN8 1 w v l) (hl : l.length ≤ 1000000) (hn : ∀ n ∈ l, n < 18446744073709551616) :
    Calls Try.prog 42 #[.func (Fn.func 43) #[] #[], v] w (StrR (allB l) w) := by
  obtain ⟨va, vc, rfl⟩ := h.slice
  have HN := Lib.hid hn
  clear hn
  have h0 : IsBuilderF 89 5 w.heap.size w.heap.size (byteCells (allB (l.take 0))) (w.alloc (.cells #[.pointer none, .slice none 0 0] 89)) := IsBuilderF.of (fresh_isBuilder _ _ w)
  have b0 : Below w.heap.size w (w.alloc (.cells #[.pointer none, .slice none 0 0] 89)) := (Below.refl _ w).alloc (Nat.le_refl _) _
  have H0 := Lib.hid h0
  have B0 := Lib.hid b0
  have HV := Lib.hid h
  clear h0 b0 h
  go_enter Try.func42, Try.ntmps42
  go_wp2_with fail
  go_loopg [10] l.length (fun gk si wr => ∃ k : Nat, gk + k = l.length ∧ si = .int .i64 k ∧ IsBuilderF 89 5 w.heap.size w.heap.size (byteCells (allB (l.take k))) wr ∧ Below w.heap.size w wr)
  case atStart => exact ⟨0, by omega, rfl, H0.out, B0.out⟩
  case round =>
    obtain ⟨k, hk, rfl, hb, hB⟩ := hrel
    have HB := Lib.hid hB
    have HBU := Lib.hid hb
    clear hb hB H0 B0
    by_cases hkl : k < l.length
    · obtain ⟨g, off, cc, he, hg, hc⟩ := (HV.out.below HB.out).at (by omega)
      injection he with he1 he2 he3
      subst he1
      have k1 := reads_n8 hc k hkl
      have hx := HN.out l[k] (List.getElem_mem hkl)
      have HT := Lib.hid (allB_take hkl)
      obtain ⟨x, hxx⟩ : ∃ x, l[k] = x := ⟨_, rfl⟩
      rw [hxx] at k1 hx HT
      have HLEN := Lib.hid (allB_len (l := l.take k) (fun n hn => HN.out n (List.mem_of_mem_take hn)))
      have HXL := Lib.hid (uBytes_len10 hx)
      clear hc he2 he3 hg hxx
      go_wp2_with fail
      refine (numUint_any x wr hx).mono ?_
      rintro e w2 ⟨rfl, hB2⟩
      have HBU2 := Lib.hid (builder_below HBU.out hB2)
      have HB2 := Lib.hid (HB.out.trans (hB2.mono HB.out.size))
      clear hB2 HBU k1
      go_wp2_with fail
      refine (Try.writeString w.heap.size w.heap.size _ ⟨(uBytes x).toArray⟩ w2 HBU2.out ?hs HB2.out.size).mono ?_
      case hs =>
        have h1 := HLEN.out
        have h2 := HXL.out
        rw [byteCells_length]
        rw [List.length_take] at h1
        show _ + (uBytes x).toArray.size ≤ _
        simp only [List.size_toArray]
        omega
      rintro e w3 ⟨rfl, hbu3, hB3, _⟩
      have HBU3 : Hid (IsBuilderF 89 5 w.heap.size w.heap.size (byteCells (allB (l.take (k + 1)))) w3) := by
        rw [strCells_eq, ← byteCells_append] at hbu3
        show IsBuilderF _ _ _ _ _ _
        rw [HT.out]
        exact Or.inr hbu3
      have HB3 := Lib.hid (HB2.out.trans hB3)
      clear hbu3 hB3
      go_wp2_with fail
      go_roundg (gk - 1)
      case rel => exact ⟨k + 1, by omega, by go_num, HBU3.out, HB3.out⟩
      case measure => omega
    · have HE : Hid (l.take k = l) := List.take_of_length_le (by omega)
      go_wp2_with fail
      refine (Try.builderString w.heap.size w.heap.size _ wr HBU.out HB.out.size).mono ?_
      rintro e w2 ⟨rfl, _, hB2, _⟩
      have HB2 := Lib.hid (HB.out.trans hB2)
      clear hB2
      go_wp2_with fail
      go_ret
      exact ⟨rsE (by rw [HE.out]), HB2.out⟩
set_option maxHeartbeats 400000 in
theorem uints_any (l : List Nat) (v : Value) (w : World) (h : ReadsK encN8 1 w v l) (hl : l.length ≤ 1000000) (hn : ∀ n ∈ l, n < 18446744073709551616) :
    Calls Try.prog 27 #[v] w (StrR (allB l) w) := by
  obtain ⟨va, vc, rfl⟩ := h.slice
  go_enter Try.func27, Try.ntmps27
  go_wp2_with fail
  refine (all_any l _ w h hl hn).mono ?_
  rintro e w2 ⟨rfl, hB⟩
  go_wp2_with fail
  go_ret
  exact ⟨rfl, hB⟩
end Go.Proofs.Ytgjmnmcbinekdaa
