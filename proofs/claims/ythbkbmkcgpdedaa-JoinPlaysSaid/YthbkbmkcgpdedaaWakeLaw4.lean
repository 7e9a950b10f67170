/- The table's rows, plainly: held against who was forked from whom. -/
import Derived.Test.YthbkbmkcgpdedaaWakeLaw3
namespace Go.Proofs.Ythbkbmkcgpdedaa
open Go.RowKit Go.Lib

/-- A list of who was forked from whom says what the table does. -/
def KOk (T : Tb) (K : List (Nm × Nm)) : Prop := ∀ n, getL K n = kidK T n
theorem getL_filter {V : Type} (bad : Nm → Bool) (n : Nm) : ∀ l : List (Nm × V), getL (l.filter (fun p => !bad p.1)) n = if bad n then none else getL l n
  | [] => by simp [getL]
  | p :: l => by
    have ih := getL_filter bad n l
    by_cases e : p.1 = n
    · by_cases hb : bad p.1 = true
      · rw [List.filter_cons_of_neg (by simp [hb]), ih]
        rw [e] at hb
        rw [if_pos hb, if_pos hb]
      · rw [List.filter_cons_of_pos (by simpa using hb)]
        rw [e] at hb
        rw [if_neg hb]
        unfold getL
        rw [List.find?_cons_of_pos (by simp [e]), List.find?_cons_of_pos (by simp [e])]
    · have h0 : getL (p :: l) n = getL l n := by unfold getL; rw [List.find?_cons_of_neg (by simp [e])]
      rw [h0]
      by_cases hb : bad p.1 = true
      · rw [List.filter_cons_of_neg (by simp [hb]), ih]
      · rw [List.filter_cons_of_pos (by simpa using hb)]
        rw [← ih]
        unfold getL
        rw [List.find?_cons_of_neg (by simp [e])]
theorem kidK_drop {T : Tb} (h : Ok T) (root n : Nm) : kidK (dropT T root) n = if badN root n then none else kidK T n := by
  by_cases hm : mayS root.2 = true
  · rw [dropT_yes hm]
    have h1 : kidK (dropT1 T root) n = kidK T n := by
      unfold dropT1
      cases hg : getL T root with
      | none => rfl
      | some br =>
        obtain ⟨b, r⟩ := br
        simp only
        by_cases hc : r.fk = true ∧ r.st ≠ 6
        · rw [if_pos hc]
          unfold decT
          obtain ⟨_, pb, q, hpg, _⟩ := h.pars hg hc.1 hc.2
          rw [show getL T (root.1, parS root.2) = some (pb, q) from hpg]
          exact kidK_upd (r' := { q with op := q.op - 1 }) hpg rfl n
        · rw [if_neg hc]
    rw [← h1]
    unfold kidK
    rw [getL_filter]
    by_cases hb : badN root n = true
    · rw [if_pos hb, if_pos hb]
    · rw [if_neg hb, if_neg hb]
  · rw [dropT_no (by simpa using hm), if_neg]
    unfold badN underS
    simp [hm]
def openF (K : List (Nm × Nm)) (a : Nm) (p : Rl) : Bool := decide (getL K p.1 = some a) && !decide (p.2.st = 6)
theorem row_of {T : Tb} {S : List Rl} (hS : S.map coreP = sortV (rowsT T)) {p : Rl} (hp : p ∈ S) : ∃ q ∈ T, q.1 = p.1 ∧ core q.2.2 = core p.2 := by
  have h1 : coreP p ∈ S.map coreP := List.mem_map.2 ⟨p, hp, rfl⟩
  rw [hS] at h1
  have h2 := (sortV_perm (rowsT T)).mem_iff.1 h1
  obtain ⟨q, hq, he⟩ := List.mem_map.1 h2
  exact ⟨q, hq, congrArg Prod.fst he, congrArg Prod.snd he⟩
theorem rows_open {T : Tb} {K : List (Nm × Nm)} {S : List Rl} (h : Ok T) (hK : KOk T K) (hS : S.map coreP = sortV (rowsT T)) {p : Rl} (hp : p ∈ S) : p.2.op = (S.countP (openF K p.1) : Int) := by
  obtain ⟨q, hq, e1, e2⟩ := row_of hS hp
  have ho : p.2.op = q.2.2.op := by
    have := congrArg Rw.op e2
    exact this.symm
  have h1 : S.countP (openF K p.1) = (S.map coreP).countP (openF K p.1) := by rw [List.countP_map]; rfl
  have h2 : (S.map coreP).countP (openF K p.1) = kidsN T p.1 := by
    rw [hS, (sortV_perm _).countP_eq]
    unfold rowsT kidsN
    rw [List.countP_map]
    apply List.countP_congr
    intro z hz
    have hg := getT h.nd hz
    have hk := hK z.1
    unfold kidK at hk
    rw [show getL T z.1 = some (z.2.1, z.2.2) from hg] at hk
    simp only at hk
    simp only [Function.comp]
    unfold openF isKid
    simp only [hk]
    cases hf : z.2.2.fk
    · simp
    · simp [core]
      exact ⟨fun ⟨x, y⟩ => ⟨of_decide_eq_false y, x⟩, fun ⟨x, y⟩ => ⟨y, decide_eq_false x⟩⟩
  rw [ho, h.op q hq, e1, h1, h2]
theorem rows_nodup {T : Tb} {S : List Rl} (h : Ok T) (hS : S.map coreP = sortV (rowsT T)) : (S.map (·.1)).Nodup := by
  have h1 : (S.map coreP).map (·.1) = S.map (·.1) := coreP_keys S
  rw [← h1, hS]
  have h2 : ((sortV (rowsT T)).map (·.1)).Perm ((rowsT T).map (·.1)) := (sortV_perm _).map _
  rw [h2.nodup_iff, rowsT_keys]
  exact h.nd
theorem rows_order {T : Tb} {S : List Rl} (h : Ok T) (hS : S.map coreP = sortV (rowsT T)) {a : Nat} (ha : a + 1 < S.length) : cmpN S[a].1 S[a + 1].1 < 0 := by
  have hs := sortV_sorted (rowsT T)
  rw [← hS, List.pairwise_iff_getElem] at hs
  have h1 := hs a (a + 1) (by simp; omega) (by simp; omega) (by omega)
  rw [leN_iff, List.getElem_map, List.getElem_map] at h1
  have h2 : cmpN S[a].1 S[a + 1].1 ≤ 0 := h1
  have hne : cmpN S[a].1 S[a + 1].1 ≠ 0 := fun e => by
    have e2 := cmpN_zero e
    have hn := rows_nodup h hS
    rw [List.nodup_iff_pairwise_ne, List.pairwise_iff_getElem] at hn
    have := hn a (a + 1) (by simp; omega) (by simp; omega) (by omega)
    rw [List.getElem_map, List.getElem_map] at this
    exact this e2
  omega
theorem rows_len {T : Tb} {S : List Rl} (hS : S.map coreP = sortV (rowsT T)) : S.length = T.length := by
  have h := congrArg List.length hS
  rw [List.length_map, (sortV_perm _).length_eq] at h
  unfold rowsT at h
  rw [List.length_map] at h
  exact h
end Go.Proofs.Ythbkbmkcgpdedaa
