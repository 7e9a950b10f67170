/- Credits: one power more. -/
import Derived.Test.YtgjmnmcbinekdaaCred6
import Derived.WalkMore
namespace Go.Proofs.Ytgjmnmcbinekdaa
open Go.RowKit Go.Sort Go.Lib Go.Shelf

theorem split_at {k : Int} : ∀ {l : List Int}, l.Pairwise (· < ·) → (∀ x ∈ l.take (atC l k), x < k) ∧ (∀ x ∈ l.drop (atC l k), k ≤ x)
  | [], _ => by simp
  | x :: l, h => by
    have h1 := List.pairwise_cons.1 h
    by_cases hx : x < k
    · have e : atC (x :: l) k = atC l k + 1 := by unfold atC; rw [List.countP_cons_of_pos (by simpa using hx)]
      have ih := split_at (k := k) h1.2
      rw [e, List.take_succ_cons, List.drop_succ_cons]
      refine ⟨fun y hy => ?_, ih.2⟩
      rcases List.mem_cons.1 hy with rfl | hy
      · exact hx
      · exact ih.1 y hy
    · have e : atC (x :: l) k = 0 := by
        unfold atC
        rw [List.countP_eq_zero]
        intro y hy
        rcases List.mem_cons.1 hy with rfl | hy
        · simpa using hx
        · have := h1.1 y hy
          simp; omega
      rw [e]
      refine ⟨by simp, fun y hy => ?_⟩
      rcases List.mem_cons.1 hy with rfl | hy
      · omega
      · have := h1.1 y hy; omega
theorem insAt_sorted {l : List Int} {k : Int} (h : l.Pairwise (· < ·)) (hk : k ∉ l) : (insAt l (atC l k) k).Pairwise (· < ·) := by
  obtain ⟨h1, h2⟩ := split_at (k := k) h
  unfold insAt
  rw [List.pairwise_append]
  refine ⟨h.sublist (List.take_sublist _ _), List.pairwise_cons.2 ⟨fun y hy => ?_, h.sublist (List.drop_sublist _ _)⟩, fun a ha b hb => ?_⟩
  · have := h2 y hy
    have : y ≠ k := fun e => hk (e ▸ List.mem_of_mem_drop hy)
    omega
  · have := h1 a ha
    rcases List.mem_cons.1 hb with rfl | hb
    · exact this
    · have := h2 b hb; omega
theorem delC_sorted {l : List Int} {k : Int} (h : l.Pairwise (· < ·)) : (delC l k).Pairwise (· < ·) := by
  unfold delC
  refine h.sublist ?_
  conv => rhs; rw [← List.take_append_drop (atC l k) l]
  refine List.Sublist.append (List.Sublist.refl _) ?_
  have e : l.drop (atC l k + 1) = (l.drop (atC l k)).drop 1 := by rw [List.drop_drop]
  rw [e]
  exact List.drop_sublist _ _
theorem drop_at {l : List Int} {k : Int} (h : l.Pairwise (· < ·)) (hk : k ∈ l) : atC l k < l.length ∧ l.drop (atC l k) = k :: l.drop (atC l k + 1) := by
  obtain ⟨h1, h2⟩ := split_at (k := k) h
  have hm : k ∈ l.drop (atC l k) := by
    rw [← List.take_append_drop (atC l k) l] at hk
    rcases List.mem_append.1 hk with hk | hk
    · exact absurd (h1 k hk) (by omega)
    · exact hk
  have hlt : atC l k < l.length := by
    rcases Nat.lt_or_ge (atC l k) l.length with h | h
    · exact h
    · rw [List.drop_eq_nil_of_le h] at hm; cases hm
  refine ⟨hlt, ?_⟩
  have hge : k ≤ l[atC l k] := h2 _ (by have := List.getElem_mem (l := l.drop (atC l k)) (n := 0) (by simp; omega); simpa using this)
  rw [List.drop_eq_getElem_cons hlt] at hm ⊢
  rcases List.mem_cons.1 hm with e | hm
  · rw [← e]
  · have hs := h.sublist (List.drop_sublist (atC l k) l)
    rw [List.drop_eq_getElem_cons hlt] at hs
    have := (List.pairwise_cons.1 hs).1 k hm
    omega
/-- A credit and one power more. -/
def plusN (c : List Int) : Nat → Option (List Int)
  | 0 => if c.contains 0 then none else some (insAt c (atC c 0) 0)
  | k + 1 => if c.contains ((k + 1 : Nat) : Int) then plusN (delC c ((k + 1 : Nat) : Int)) k else some (insAt c (atC c ((k + 1 : Nat) : Int)) ((k + 1 : Nat) : Int))
theorem plusN_no {c : List Int} {k : Nat} (h : c.contains (k : Int) = false) : plusN c k = some (insAt c (atC c (k : Int)) (k : Int)) := by
  cases k with
  | zero =>
    have h' : c.contains 0 = false := h
    unfold plusN; rw [h']; rfl
  | succ k => unfold plusN; rw [h]; rfl
theorem plusN_zero {c : List Int} (h : c.contains ((0 : Nat) : Int) = true) : plusN c 0 = none := by
  have h' : c.contains 0 = true := h
  unfold plusN; rw [h']; rfl
theorem plusN_succ {c : List Int} {k : Nat} (h : c.contains ((k + 1 : Nat) : Int) = true) : plusN c (k + 1) = plusN (delC c ((k + 1 : Nat) : Int)) k := by
  conv => lhs; unfold plusN
  rw [h]; rfl
theorem delC_len {c : List Int} {k : Int} (h : c.Pairwise (· < ·)) (hk : c.contains k = true) : (delC c k).length + 1 = c.length := by
  have := drop_at h (by simpa using hk)
  unfold delC
  simp
  omega
/-- What plus answers. -/
def PlusR (o : Option (List Int)) (B : Nat) (w : World) (e : Ending) (w' : World) : Prop :=
  match o with
  | none => e = .returned (.tuple #[.slice none 0 0, .bool false]) ∧ Below B w w'
  | some r => ∃ v, e = .returned (.tuple #[v, .bool true]) ∧ COwn w' B v r ∧ Below B w w'
set_option maxHeartbeats 1600000 in
set_option maxRecDepth 100000 in
theorem plus_own (l : List Int) (k : Nat) (v : Value) (B : Nat) (w : World) (h : COwn w B v l) (hs : l.Pairwise (· < ·)) (hl : l.length ≤ 100000) (hk : k ≤ 100000) (hB0 : B ≤ w.heap.size) :
    Calls Try.prog 38 #[v, .int .i64 (k : Int)] w (PlusR (plusN l k) B w) := by
  obtain ⟨R, hR⟩ : ∃ R, plusN l k = R := ⟨_, rfl⟩
  rw [hR]
  have H := Lib.hid h
  have HS := Lib.hid hs
  have HRR := Lib.hid hR
  have HB := Lib.hid (show Below B w w from Below.refl _ _)
  clear h hs hR
  go_enter Try.func38, Try.ntmps38
  go_wp2_with fail
  apply wp_scope_straight
  go_wp2
  apply wp_label
  go_wp2
  go_loopg [0, 1] (k + 1) (fun gk vv kk wr => ∃ (j : Nat) (c : List Int), gk = j + 1 ∧ kk = .int .i64 (j : Int) ∧ COwn wr B vv c ∧ c.Pairwise (· < ·) ∧ c.length ≤ 100000 ∧ j ≤ 100000 ∧ plusN c j = R ∧ Below B w wr)
  case atStart => exact ⟨k, l, rfl, rfl, H.out, HS.out, hl, hk, HRR.out, HB.out⟩
  case round =>
    obtain ⟨j, c, rfl, rfl, ho, hs, hcl, hj, hr, hB⟩ := hrel
    have HO := Lib.hid ho
    have HS' := Lib.hid hs
    have HR := Lib.hid hr
    have HB' := Lib.hid hB
    have hlow : B ≤ wr.heap.size := Nat.le_trans hB0 hB.size
    clear ho hs hr hB H HS HRR HB
    go_wp2_with fail
    refine (bs_own c (j : Int) _ B wr HO.out (by omega) HS'.out).mono ?_
    rintro e w1 ⟨rfl, hB1⟩
    replace HO := Lib.hid (cowns HO.out hB1)
    replace HB' := Lib.hid (cthen HB'.out hB0 hB1)
    have hlow1 : B ≤ w1.heap.size := Nat.le_trans hlow hB1.size
    clear hB1
    cases hc : c.contains (j : Int)
    · have HN := Lib.hid ((plusN_no hc).symm.trans HR.out)
      have HC := Lib.hid hc
      have hle := atC_le c (j : Int)
      have hA : Below w1.heap.size w1 (w1.alloc (.cells #[.int .i64 (j : Int)] 3)) := below_allocC _ _
      have HA := Lib.hid hA
      have hnew := heap_alloc_new w1 (.cells #[.int .i64 (j : Int)] 3)
      have HNEW := Lib.hid hnew
      have hne : u0.ownBlock ≠ some w1.heap.size := fun e => by have := (owns_lt HO.out _ e).2; omega
      have HNE := Lib.hid hne
      clear hc hA hnew hne
      go_wp2_with fail
      refine (ins_own c (atC c (j : Int)) (j : Int) u0 B w1.heap.size _ (cowns HO.out HA.out) hle hcl (Nat.le_trans hlow1 HA.out.size) HNEW.out HNE.out).mono ?_
      rintro e w2 ⟨v', rfl, hO2, hB2⟩
      have HO2 := Lib.hid hO2
      have HB2 := Lib.hid ((cthen HB'.out hB0 HA.out).trans hB2)
      clear hO2 hB2
      go_wp2_with fail
      change bodyPost Try.prog Try.f38 (PlusR R B w) Exit.ret _ _
      go_ret2
      rw [← HN.out]
      exact ⟨v', rfl, HO2.out, HB2.out⟩
    · have HD := Lib.hid (drop_at HS'.out (k := (j : Int)) (by simpa using hc))
      have HC := Lib.hid hc
      have hlt := HD.out.1
      clear hc
      go_wp2_with fail
      refine (del_own c (atC c (j : Int)) u0 B w1 HO.out hlt hlow1).mono ?_
      rintro e w2 ⟨v', rfl, hO2, hB2⟩
      have HO2 : Hid (COwn w2 B v' (delC c (j : Int))) := hO2
      have HB2 := Lib.hid (HB'.out.trans hB2)
      have hlow2 : B ≤ w2.heap.size := Nat.le_trans hB0 HB2.out.size
      have hdl := delC_len HS'.out HC.out
      clear hO2 hB2
      cases j with
      | zero =>
        have HN := Lib.hid ((plusN_zero HC.out).symm.trans HR.out)
        go_wp2_with fail
        change bodyPost Try.prog Try.f38 (PlusR R B w) Exit.ret _ _
        go_ret2
        rw [← HN.out]
        exact ⟨rfl, HB2.out⟩
      | succ j =>
        have HN := Lib.hid ((plusN_succ HC.out).symm.trans HR.out)
        have e1 : ((j + 1 : Nat) : Int) - 1 = (j : Int) := by omega
        go_wp2_with fail
        go_roundg (j + 1)
        case rel => exact ⟨j, _, rfl, by go_num, HO2.out, delC_sorted HS'.out, by omega, by omega, HN.out, HB2.out⟩
        case measure => omega
end Go.Proofs.Ytgjmnmcbinekdaa
