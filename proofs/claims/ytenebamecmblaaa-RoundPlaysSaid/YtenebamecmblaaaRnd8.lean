/- Rounds of a call's own: what a script sees. -/
import Derived.Test.YtenebamecmblaaaRnd7
namespace Go.Proofs.Ytenebamecmblaaa
open Go.RowKit Go.Sort Go.Lib

/-- What a call on rounds may turn: maps and boxes, none that is kept apart. -/
def Sx (Q : Nat → Prop) (w : World) (i : Nat) : Prop := ¬ Q i ∧ ((∃ es c, w.heap[i]? = some (.map es c)) ∨ ∃ cur, w.heap[i]? = some (Obj.cells cur 65 (0, 0)))
def Stp (Q : Nat → Prop) (w w' : World) : Prop := Fr (Sx Q w) w w'
/-- The rounds in block r, their map in block m; no block of theirs is kept apart. -/
def Wr (Q : Nat → Prop) (r m : Nat) (w : World) (A : AB) : Prop := ∃ L, Rds w r m L ∧ absR L = A ∧ GoodA A ∧ ∀ i, RS m L i → ¬ Q i
section
variable {Q : Nat → Prop} {w w' w'' : World} {r m : Nat} {A A' : AB}
theorem Stp.below (h : Below w.heap.size w w') : Stp Q w w' := .of_below h
theorem Stp.trans (h : Stp Q w w') (k : Stp Q w' w'') : Stp Q w w'' := by
  refine ⟨k.os.trans h.os, k.tape.trans h.tape, k.output.trans h.output, Nat.le_trans h.size k.size, fun i hi hs => ?_⟩
  have h1 := h.block i hi hs
  refine (k.block i (Nat.lt_of_lt_of_le hi h.size) (fun e => hs ?_)).trans h1
  unfold Sx at e ⊢
  rwa [h1] at e
theorem Stp.mono {Q' : Nat → Prop} (h : Stp Q w w') (hQ : ∀ i, Q' i → Q i) : Stp Q' w w' := Fr.mono h fun i hi => ⟨fun e => hi.1 (hQ i e), hi.2⟩
theorem Stp.kept (h : Stp Q w w') {i : Nat} (hi : i < w.heap.size) (hq : Q i) : w'.heap[i]? = w.heap[i]? := h.block i hi fun e => e.1 hq
theorem Stp.cells (h : Stp Q w w') {i : Nat} {cur : Array Value} {t : TypeId} {f : Nat × Nat} (hi : w.heap[i]? = some (Obj.cells cur t f)) (ht : t ≠ 65) : w'.heap[i]? = some (Obj.cells cur t f) := by
  refine (h.block i (Array.getElem?_eq_some_iff.1 hi).1 ?_).trans hi
  rintro ⟨_, ⟨es, c, e⟩ | ⟨cur', e⟩⟩
  · rw [hi] at e; cases e
  · rw [hi] at e; injection e with e; injection e with _ e _; exact ht e
theorem Stp.cown (h : Stp Q w w') {B : Nat} {v : Value} {l : List Int} (ho : COwn w B v l) : COwn w' B v l := ho.keepI fun i ⟨cur, hi⟩ => (h.cells hi (by decide)).trans hi.symm
theorem Stp.all {B : Nat} (h : Stp Q w w') (hQ : ∀ i, i < B → Q i) (hB : B ≤ w.heap.size) : Below B w w' := Fr.below h (fun i hi => Nat.le_of_not_lt fun e => hi.1 (hQ i e)) hB
theorem Rds.sx {L : Rd} (h : Rds w r m L) (hd : ∀ i, RS m L i → ¬ Q i) {i : Nat} (hi : RS m L i) : Sx Q w i := ⟨hd i hi, h.kind hi⟩
theorem Wr.of_nxt {L : Rd} (h : Rds w r m L) (hd : ∀ i, RS m L i → ¬ Q i) (hQ : ∀ i, Q i → i < w.heap.size) (hG : GoodA A') (hn : Nxt r m L w A' w') : Wr Q r m w' A' ∧ Stp Q w w' := by
  obtain ⟨L', e, h', hM⟩ := hn
  refine ⟨⟨L', h', e, hG, fun i hi hq => ?_⟩, hM.fr.mono fun i hi => h.sx hd hi⟩
  rcases hM.ids i hi with hi | hi
  · exact hd i hi hq
  · have := hQ i hq; omega
theorem Wr.below (h : Wr Q r m w A) (hB : Below w.heap.size w w') : Wr Q r m w' A := by
  obtain ⟨L, h1, h2, h3, h4⟩ := h
  exact ⟨L, h1.below hB, h2, h3, h4⟩
theorem Wr.good (h : Wr Q r m w A) : GoodA A := by obtain ⟨L, _, _, h, _⟩ := h; exact h
/-- More that is kept apart: blocks that are new. -/
theorem Wr.more {Q' : Nat → Prop} (h : Wr Q r m w A) (hB : Below w.heap.size w w') (hQ : ∀ i, Q' i → Q i ∨ w.heap.size ≤ i) : Wr Q' r m w' A := by
  obtain ⟨L, h1, h2, h3, h4⟩ := h
  refine ⟨L, h1.below hB, h2, h3, fun i hi hq => ?_⟩
  rcases hQ i hq with e | e
  · exact h4 i hi e
  · have := h1.rs_lt hi; omega
end
section
variable {Q : Nat → Prop} {w : World} {r m : Nat} {A : AB}
theorem GoodA.nil : GoodA [] := ⟨List.nodup_nil, by intro p hp; cases hp⟩
theorem GoodO.one (n : Int) : GoodO n ([0], []) := ⟨mayC_sc one_may, by simp, (by intro q hq; cases hq), List.nodup_nil, (by intro q hq; cases hq), (by intro q hq; cases hq), by simp only [List.map_nil, List.sum_nil, one_vC, Nat.add_zero]⟩
theorem GoodA.begin (h : GoodA A) (n : Int) : GoodA (beginA A n) := by
  unfold beginA
  split
  · rename_i he
    have hg : U.getL A n = none := by
      unfold beginE at he
      cases hg : U.getL A n with
      | none => rfl
      | some x => rw [hg] at he; simp at he
    refine ⟨?_, fun p hp => ?_⟩
    · rw [List.map_append, List.nodup_append]
      refine ⟨h.1, by simp, fun a ha b hb e => ?_⟩
      obtain ⟨p, hp, rfl⟩ := List.mem_map.1 ha
      simp at hb
      exact U.getL_none_iffV.1 hg p hp (e.trans hb)
    · rcases List.mem_append.1 hp with hp | hp
      · exact h.2 p hp
      · rw [List.mem_singleton] at hp; rw [hp]; exact GoodO.one n
  · exact h
theorem give_ok {n : Nm} (he : giveE A n = 0) : ∃ x, U.getL A n.1 = some x ∧ getL x.2 n = none ∧ x.1.getD (x.1.length - 1) 0 + 1 ≤ 4096 ∧ heldA A n.1 = x ∧ mayS n.2 = true := by
  unfold giveE at he
  cases hm : mayS n.2
  · rw [hm] at he; simp at he
  · rw [hm, if_pos rfl] at he
    cases hg : U.getL A n.1 with
    | none => rw [hg] at he; cases he
    | some x =>
      rw [hg] at he
      simp only at he
      cases ho : getL x.2 n with
      | some c => rw [ho] at he; simp at he
      | none =>
        rw [ho] at he
        simp only [Option.isSome_none, Bool.false_eq_true, if_false] at he
        by_cases hl : 4096 < x.1.getD (x.1.length - 1) 0 + 1
        · rw [if_pos hl] at he; cases he
        · exact ⟨x, rfl, ho, by omega, by unfold heldA; rw [hg]; rfl, rfl⟩
theorem GoodA.give (h : GoodA A) (n : Nm) : GoodA (giveA A n) := by
  unfold giveA
  split
  · rename_i he
    obtain ⟨x, hg, ho, hl, hx, hmay⟩ := give_ok he
    rw [hx]
    have hG := getA_good h hg
    obtain ⟨h1, h2, h3⟩ := half_val hG.heldMay hG.ne hl
    refine h.upd ⟨h2, ?_, fun q hq => ?_, ?_, fun q hq => ?_, fun q hq => ?_, ?_⟩
    · unfold keepL; simp
    · rcases List.mem_append.1 hq with hq | hq
      · exact hG.may q hq
      · rw [List.mem_singleton] at hq; rw [hq]; exact ⟨h3, by unfold giveL; simp⟩
    · rw [List.map_append, List.nodup_append]
      refine ⟨hG.keys, by simp, fun a ha b hb e => ?_⟩
      obtain ⟨p, hp, rfl⟩ := List.mem_map.1 ha
      simp at hb
      exact getL_none_iffV.1 ho p hp (e.trans hb)
    · rcases List.mem_append.1 hq with hq | hq
      · exact hG.job q hq
      · rw [List.mem_singleton] at hq; rw [hq]
    · rcases List.mem_append.1 hq with hq | hq
      · exact hG.pth q hq
      · rw [List.mem_singleton] at hq; rw [hq]; exact hmay
    · have := hG.sum
      simp only [List.map_append, List.map_cons, List.map_nil, List.sum_append, List.sum_cons, List.sum_nil]
      omega
  · exact h
theorem GoodA.take : ∀ (l : List Nm) {A : AB}, GoodA A → GoodA (takeA A l)
  | [], _, h => h
  | n :: l, _, h => GoodA.take l (h.take1 n)
theorem GoodA.drop : ∀ (l : List Int) {A : AB}, GoodA A → GoodA (dropA A l)
  | [], _, h => h
  | n :: l, A, h => GoodA.drop l (A := U.delL A n) ⟨h.1.sublist (List.filter_sublist.map _), fun p hp => h.2 p (List.mem_filter.1 hp).1⟩
theorem wr_new (w : World) (hQ : ∀ i, Q i → i < w.heap.size) : Calls Try.prog 7 #[] w fun e w' => ∃ r m, e = .returned (.pointer (some ⟨r, 0, none⟩)) ∧ Wr Q r m w' [] ∧ Below w.heap.size w w' := by
  refine (new_rnd w).mono ?_
  rintro e w' ⟨r, m, rfl, _, hm, h, hB⟩
  refine ⟨r, m, rfl, ⟨[], h, rfl, GoodA.nil, fun i hi hq => ?_⟩, hB⟩
  rcases hi with rfl | ⟨p, hp, _⟩
  · have := hQ i hq; omega
  · cases hp
theorem wr_begin (h : Wr Q r m w A) (hQ : ∀ i, Q i → i < w.heap.size) (n : Int) (hl : A.length ≤ 1000000) : Calls Try.prog 8 #[.pointer (some ⟨r, 0, none⟩), .int .u64 n] w fun e w' => e = .returned (.int .i64 (beginE A n)) ∧ Wr Q r m w' (beginA A n) ∧ Stp Q w w' := by
  obtain ⟨L, h1, rfl, h3, h4⟩ := h
  refine (begin_rnd r m L n w h1 (by rwa [absR_len] at hl)).mono ?_
  rintro e w' ⟨rfl, hN⟩
  exact ⟨rfl, Wr.of_nxt h1 h4 hQ (h3.begin n) hN⟩
theorem wr_give (h : Wr Q r m w A) (hQ : ∀ i, Q i → i < w.heap.size) (n : Nm) (hn : n.2.size ≤ 9223372036854775807) : Calls Try.prog 13 #[.pointer (some ⟨r, 0, none⟩), .agg #[.int .u64 n.1, .string n.2]] w fun e w' =>
    ∃ v, e = .returned (.tuple #[v, .int .i64 (giveE A n)]) ∧ COwn w' w.heap.size v (giveVv A n) ∧ Wr Q r m w' (giveA A n) ∧ Stp Q w w' := by
  obtain ⟨L, h1, rfl, h3, h4⟩ := h
  refine (give_rnd r m L n w h1 h3 hn).mono ?_
  rintro e w' ⟨v, rfl, hv, hN⟩
  exact ⟨v, rfl, hv, Wr.of_nxt h1 h4 hQ (h3.give n) hN⟩
theorem wr_take (h : Wr Q r m w A) (hQ : ∀ i, Q i → i < w.heap.size) {l : List Nm} {v : Value} (hv : ReadsK encM 2 w v l) (hs : ∀ a n c, v = .slice (some a) n c → ¬ Sx Q w a.block) (hl : l.length ≤ 1000000) : Calls Try.prog 18 #[.pointer (some ⟨r, 0, none⟩), v] w fun e w' =>
    e = .returned (.int .i64 (takeN A l : Nat)) ∧ Wr Q r m w' (takeA A l) ∧ Stp Q w w' := by
  obtain ⟨L, h1, rfl, h3, h4⟩ := h
  refine (take_rnd r m L l v w h1 h3 hv (fun a n c e hr => hs a n c e (h1.sx h4 hr)) hl).mono ?_
  rintro e w' ⟨rfl, hN⟩
  exact ⟨rfl, Wr.of_nxt h1 h4 hQ (h3.take l) hN⟩
theorem wr_drop (h : Wr Q r m w A) (hQ : ∀ i, Q i → i < w.heap.size) {l : List Int} {v : Value} (hv : ReadsK encU1 1 w v l) (hs : ∀ a n c, v = .slice (some a) n c → ¬ Sx Q w a.block) (hl : l.length ≤ 1000000) : Calls Try.prog 9 #[.pointer (some ⟨r, 0, none⟩), v] w fun e w' =>
    e = .returned (.int .i64 (dropN A l : Nat)) ∧ Wr Q r m w' (dropA A l) ∧ Stp Q w w' := by
  obtain ⟨L, h1, rfl, h3, h4⟩ := h
  refine (drop_rnd r m L l v w h1 hv (fun a n c e hr => hs a n c e (h1.sx h4 hr)) hl).mono ?_
  rintro e w' ⟨rfl, hN⟩
  exact ⟨rfl, Wr.of_nxt h1 h4 hQ (h3.drop l) hN⟩
theorem wr_held (h : Wr Q r m w A) (n : Int) : Calls Try.prog 19 #[.pointer (some ⟨r, 0, none⟩), .int .u64 n] w fun e w' =>
    ∃ v, e = .returned (.tuple #[v, .bool (U.getL A n).isSome]) ∧ COwn w' w.heap.size v (heldV A n) ∧ Below w.heap.size w w' := by
  obtain ⟨L, h1, rfl, h3, h4⟩ := h
  exact held_rnd r m L n w h1 h3
theorem wr_over (h : Wr Q r m w A) (n : Int) : Calls Try.prog 22 #[.pointer (some ⟨r, 0, none⟩), .int .u64 n] w fun e w' => e = .returned (.bool (overV A n)) ∧ Below w.heap.size w w' := by
  obtain ⟨L, h1, rfl, h3, h4⟩ := h
  exact over_rnd r m L n w h1 h3
end
end Go.Proofs.Ytenebamecmblaaa
