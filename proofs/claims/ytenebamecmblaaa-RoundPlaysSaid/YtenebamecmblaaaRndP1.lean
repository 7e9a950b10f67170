/- RoundPlays: what is written down beside the rounds. -/
import Derived.Test.YtenebamecmblaaaSums21
import Derived.Test.YtenebamecmblaaaRef12b
namespace Go.Proofs.Ytenebamecmblaaa
open Go.RowKit Go.Sort Go.Lib

theorem getL_del {V : Type} (l : List (Nm × V)) (n m : Nm) : getL (delL l n) m = if m = n then none else getL l m := by
  unfold getL delL
  rw [List.find?_filter]
  split
  · rename_i e; subst e
    rw [Option.map_eq_none_iff, List.find?_eq_none]
    intro x _; simp
  · rename_i e
    congr 1
    congr 1
    funext p
    by_cases h : p.1 = m
    · subst h; simp [e]
    · simp [h]
theorem getU_del {V : Type} (l : List (Int × V)) (n m : Int) : U.getL (U.delL l n) m = if m = n then none else U.getL l m := by
  unfold U.getL U.delL
  rw [List.find?_filter]
  split
  · rename_i e; subst e
    rw [Option.map_eq_none_iff, List.find?_eq_none]
    intro x _; simp
  · rename_i e
    congr 1
    congr 1
    funext p
    by_cases h : p.1 = m
    · subst h; simp [e]
    · simp [h]
theorem getU_upd {A : AB} {n : Int} {x y : AO} (h : U.getL A n = some y) (m : Int) : U.getL (updA A n x) m = if m = n then some x else U.getL A m := by
  unfold updA U.getL at *
  induction A with
  | nil => cases h
  | cons p A ih =>
    rw [List.map_cons]
    by_cases e : p.1 = n
    · rw [if_pos e]
      by_cases em : m = n
      · subst em; simp
      · rw [if_neg em]
        have e2 : ¬ n = m := fun e => em e.symm
        have e3 : ¬ p.1 = m := by rw [e]; exact e2
        rw [List.find?_cons_of_neg (by simpa using e2), List.find?_cons_of_neg (by simpa using e3)]
        have hrest : ∀ B : AB, (B.map fun p => if p.1 = n then (n, x) else p).find? (fun p => decide (p.1 = m)) = B.find? (fun p => decide (p.1 = m)) := by
          intro B
          induction B with
          | nil => rfl
          | cons q B ihB =>
            rw [List.map_cons]
            by_cases eq : q.1 = n
            · rw [if_pos eq, List.find?_cons_of_neg (by simpa using e2), List.find?_cons_of_neg (by rw [eq]; simpa using e2), ihB]
            · rw [if_neg eq, List.find?_cons, List.find?_cons, ihB]
        rw [hrest]
    · rw [if_neg e]
      rw [List.find?_cons_of_neg (by simpa using e)] at h
      rw [List.find?_cons, List.find?_cons]
      by_cases em : p.1 = m
      · have : ¬ m = n := fun e2 => e (em.trans e2)
        simp [em, this]
      · rw [decide_eq_false em]
        exact ih h
theorem getU_add {A : AB} {n : Int} {x : AO} (h : U.getL A n = none) (m : Int) : U.getL (A ++ [(n, x)]) m = if m = n then some x else U.getL A m := by
  rw [← U.putL_newV h, U.getL_putV]
theorem getL_add {V : Type} {l : List (Nm × V)} {n : Nm} {v : V} (h : getL l n = none) (m : Nm) : getL (l ++ [(n, v)]) m = if m = n then some v else getL l m := by
  rw [← putL_newV h, getL_putV]
/-- The two maps say what the rounds hold. -/
structure RlP (A : AB) (H : List (Int × Cr)) (O : List (Nm × Cr)) : Prop where
  h : ∀ n, (U.getL H n).map (·.l) = (U.getL A n).map (·.1)
  o : ∀ nm : Nm, (getL O nm).map (·.l) = (U.getL A nm.1).bind fun x => getL x.2 nm
section
variable {A : AB} {H : List (Int × Cr)} {O : List (Nm × Cr)}
theorem RlP.hnone (h : RlP A H O) {n : Int} (hg : U.getL A n = none) : U.getL H n = none := by
  have := h.h n
  rw [hg] at this
  simpa using this
theorem RlP.hsome (h : RlP A H O) {n : Int} {x : AO} (hg : U.getL A n = some x) : ∃ c, U.getL H n = some c ∧ c.l = x.1 := by
  have := h.h n
  rw [hg] at this
  simpa using this
theorem RlP.onone (h : RlP A H O) {n : Nm} (hg : U.getL A n.1 = none) : getL O n = none := by
  have := h.o n
  rw [hg] at this
  simpa using this
theorem RlP.begin (h : RlP A H O) {n : Int} (hg : U.getL A n = none) {c : Cr} (hc : c.l = [0]) : RlP (A ++ [(n, ([0], []))]) (U.putL H n c) O := by
  refine ⟨fun m => ?_, fun m => ?_⟩
  · rw [U.getL_putV, getU_add hg]
    split
    · simp [hc]
    · exact h.h m
  · rw [getU_add hg]
    split
    · rename_i e
      have := h.o m
      rw [e, hg] at this
      rw [this]; rfl
    · exact h.o m
theorem RlP.give (h : RlP A H O) {n : Nm} {x : AO} (hg : U.getL A n.1 = some x) (ho : getL x.2 n = none) {k g : Cr} : RlP (updA A n.1 (k.l, x.2 ++ [(n, g.l)])) (U.putL H n.1 k) (putL O n g) := by
  refine ⟨fun m => ?_, fun m => ?_⟩
  · rw [U.getL_putV, getU_upd hg]
    split
    · rfl
    · exact h.h m
  · rw [getL_putV, getU_upd hg]
    by_cases e : m = n
    · subst e
      rw [if_pos rfl, if_pos rfl]
      simp only [Option.map_some, Option.bind_some]
      rw [getL_add ho, if_pos rfl]
    · rw [if_neg e]
      have := h.o m
      split
      · rename_i e1
        rw [e1, hg] at this
        rw [this]
        simp only [Option.bind_some]
        rw [getL_add ho, if_neg e]
      · exact this
theorem RlP.take (h : RlP A H O) {n : Nm} {x : AO} {c : List Int} (he : takeE A n = some (x, c)) {s : Cr} (hs : s.l = (addL [x.1, c]).2) : RlP (take1 A n) (U.putL H n.1 s) (delL O n) := by
  have hg : U.getL A n.1 = some x := by
    unfold takeE at he
    cases hg : U.getL A n.1 with
    | none => rw [hg] at he; cases he
    | some x' =>
      rw [hg] at he
      simp only [Option.bind_some, Option.map_eq_some_iff] at he
      obtain ⟨c', hc, he⟩ := he
      injection he with e1 _
      rw [e1]
  unfold take1
  rw [he]
  simp only
  refine ⟨fun m => ?_, fun m => ?_⟩
  · rw [U.getL_putV, getU_upd hg]
    split
    · simp [hs]
    · exact h.h m
  · rw [getL_del, getU_upd hg]
    by_cases e : m = n
    · subst e
      rw [if_pos rfl, if_pos rfl]
      simp only [Option.bind_some]
      rw [getL_del, if_pos rfl]; rfl
    · rw [if_neg e]
      have := h.o m
      split
      · rename_i e1
        rw [e1, hg] at this
        rw [this]
        simp only [Option.bind_some]
        rw [getL_del, if_neg e]
      · exact this
theorem RlP.drop (h : RlP A H O) (n : Int) {O' : List (Nm × Cr)} (hO : ∀ m : Nm, getL O' m = if m.1 = n then none else getL O m) : RlP (U.delL A n) (U.delL H n) O' := by
  refine ⟨fun m => ?_, fun m => ?_⟩
  · rw [getU_del, getU_del]
    split
    · rfl
    · exact h.h m
  · rw [hO, getU_del]
    split
    · rfl
    · exact h.o m
/-- What is out at a job, counted in the map. -/
theorem RlP.count (h : RlP A H O) (hG : GoodA A) (hn : (O.map (·.1)).Nodup) (n : Int) : ((O.map (·.1)).filter fun m => decide (m.1 = n)).length = (heldA A n).2.length := by
  have hp : ((O.map (·.1)).filter fun m => decide (m.1 = n)).Perm ((heldA A n).2.map (·.1)) := by
    have hk : ((heldA A n).2.map (·.1)).Nodup := by
      unfold heldA
      cases hg : U.getL A n with
      | none => exact List.nodup_nil
      | some x => exact (getA_good hG hg).keys
    refine (List.perm_ext_iff_of_nodup (hn.filter _) hk).2 fun m => ?_
    rw [List.mem_filter, decide_eq_true_iff]
    constructor
    · rintro ⟨h1, rfl⟩
      obtain ⟨p, hp, rfl⟩ := List.mem_map.1 h1
      have := h.o p.1
      rw [(getL_memV hn p.1 p.2).2 hp] at this
      cases hg : U.getL A p.1.1 with
      | none => rw [hg] at this; cases this
      | some x =>
        rw [hg] at this
        unfold heldA
        rw [hg]
        simp only [Option.bind_some, Option.map_some] at this
        exact List.mem_map.2 ⟨(p.1, p.2.l), getL_mem' this.symm, rfl⟩
    · intro hm
      cases hg : U.getL A n with
      | none => unfold heldA at hm; rw [hg] at hm; cases hm
      | some x =>
        have hG' := getA_good hG hg
        unfold heldA at hm
        rw [hg] at hm
        obtain ⟨q, hq, rfl⟩ := List.mem_map.1 hm
        have hj := hG'.job q hq
        refine ⟨?_, hj⟩
        have := h.o q.1
        rw [hj, hg] at this
        simp only [Option.bind_some] at this
        rw [(getL_memV hG'.keys q.1 q.2).2 hq, Option.map_eq_some_iff] at this
        obtain ⟨c, hc, _⟩ := this
        exact List.mem_map.2 ⟨_, getL_mem' hc, rfl⟩
  rw [hp.length_eq, List.length_map]
/-- What was lent is written down. -/
theorem RlP.lent (h : RlP A H O) (hG : GoodA A) {n : Int} {q : Nm × List Int} (hq : q ∈ (heldA A n).2) : q.1.1 = n ∧ ∃ c, getL O q.1 = some c ∧ c.l = q.2 := by
  cases hg : U.getL A n with
  | none => unfold heldA at hq; rw [hg] at hq; cases hq
  | some x =>
    have hG' := getA_good hG hg
    unfold heldA at hq
    rw [hg] at hq
    have hj := hG'.job q hq
    refine ⟨hj, ?_⟩
    have := h.o q.1
    rw [hj, hg] at this
    simp only [Option.bind_some] at this
    rw [(getL_memV hG'.keys q.1 q.2).2 hq, Option.map_eq_some_iff] at this
    exact this
end
end Go.Proofs.Ytenebamecmblaaa
