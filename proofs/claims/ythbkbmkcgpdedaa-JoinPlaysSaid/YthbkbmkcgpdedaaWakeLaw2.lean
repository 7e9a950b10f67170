/- The table, plainly: what is over, what is dropped; who was forked from whom. -/
import Derived.Test.YthbkbmkcgpdedaaWakeLaw17
namespace Go.Proofs.Ythbkbmkcgpdedaa
open Go.RowKit Go.Lib

theorem Ok.dec {T : Tb} (h : Ok T) {n pn : Nm} {b pb : Nat} {r r1 q q1 : Rw} (hg : getL T n = some (b, r)) (hpg : getL T pn = some (pb, q)) (hpn : pn ≠ n) (hpar : par n = pn) (hf : r.fk = true) (hs : r.st ≠ 6) (_h1 : r1.fk = true) (h2 : r1.st = 6) (h3 : r1.op = r.op) (h4 : r1.args = r.args)
    (k1 : q1.fk = q.fk) (k2 : q1.st = 6 ↔ q.st = 6) (k3 : q1.op = q.op - 1) (k4 : q1.args = q.args) : Ok (updT (updT T n r1) pn q1) := by
  have hm := getT_mem hg
  have hqm := getT_mem hpg
  have hg1 : getL (updT T n r1) pn = some (pb, q) := by rw [getL_upd_ne hpn]; exact hpg
  have hnd1 : ((updT T n r1).map (·.1)).Nodup := by rw [updT_keys]; exact h.nd
  have hk : ∀ a, kidsN (updT (updT T n r1) pn q1) a + (decide (pn = a)).toNat = kidsN T a := fun a => by
    have c1 := count_upd (isKid a) (r' := r1) h.nd hg
    have c2 := count_upd (isKid a) (r' := q1) hnd1 hg1
    have e1 : isKid a (n, b, r1) = false := by unfold isKid; simp [h2]
    have e2 : isKid a (n, b, r) = decide (pn = a) := by unfold isKid; simp [hf, hs, hpar]
    have e3 : isKid a (pn, pb, q1) = isKid a (pn, pb, q) := by
      unfold isKid
      simp only [k1]
      congr 2
      simp [k2]
    rw [e1, e2] at c1
    rw [e3] at c2
    simp only [Bool.toNat_false] at c1
    unfold kidsN; omega
  have hmem : ∀ p ∈ updT (updT T n r1) pn q1, p = (pn, pb, q1) ∨ p = (n, b, r1) ∨ (p ∈ T ∧ p.1 ≠ n ∧ p.1 ≠ pn) := fun p hp => by
    rcases updT_mem hnd1 hg1 hp with e | ⟨hp, hne⟩
    · exact .inl e
    · rcases updT_mem h.nd hg hp with e | ⟨hp, hne2⟩
      · exact .inr (.inl e)
      · exact .inr (.inr ⟨hp, hne2, hne⟩)
  have hhas : ∀ z ∈ T, ∃ z' ∈ updT (updT T n r1) pn q1, z'.1 = z.1 := fun z hz => by
    obtain ⟨z1, g1, g2⟩ := updT_has (n := n) (r' := r1) hz
    obtain ⟨z2, g3, g4⟩ := updT_has (n := pn) (r' := q1) g1
    exact ⟨z2, g3, g4.trans g2⟩
  refine ⟨by rw [updT_keys, updT_keys]; exact h.nd, fun p hp => ?_, fun p hp hfk => ?_, fun p hp => ?_, fun p hp => ?_⟩
  · rcases hmem p hp with rfl | rfl | ⟨hp, _⟩
    · exact (show mayS pn.2 = true from h.may (pn, pb, q) hqm)
    · exact (show mayS n.2 = true from h.may (n, b, r) hm)
    · exact h.may p hp
  · have up : ∀ z ∈ T, z.2.2.fk = true → parB z.1.2 = true ∧ ∃ z' ∈ updT (updT T n r1) pn q1, z'.1 = par z.1 := fun z hz hzf => by
      obtain ⟨g1, y, hy, he⟩ := h.up z hz hzf
      obtain ⟨y', hy', he'⟩ := hhas y hy
      exact ⟨g1, y', hy', he'.trans he⟩
    rcases hmem p hp with rfl | rfl | ⟨hp, _⟩
    · exact up (pn, pb, q) hqm (k1 ▸ hfk)
    · exact up (n, b, r) hm hf
    · exact up p hp hfk
  · have hkp := hk p.1
    rcases hmem p hp with rfl | rfl | ⟨hp, hne, hne2⟩
    · have := h.op _ hqm
      simp only at this hkp ⊢
      have hkp : kidsN (updT (updT T n r1) pn q1) pn + 1 = kidsN T pn := hkp
      rw [k3, this, ← hkp]
      omega
    · have := h.op _ hm
      simp only at this hkp ⊢
      rw [decide_eq_false hpn] at hkp
      rw [h3, this, ← hkp]
      simp
    · have := h.op p hp
      rw [decide_eq_false (fun e => hne2 e.symm)] at hkp
      rw [this, ← hkp]
      simp
  · rcases hmem p hp with rfl | rfl | ⟨hp, _⟩
    · simp only; rw [k4]; exact h.args (pn, pb, q) hqm
    · simp only; rw [h4]; exact h.args (n, b, r) hm
    · exact h.args p hp
/-- A row that is no child is over. -/
theorem Ok.over0 {T : Tb} (h : Ok T) {n : Nm} {b : Nat} {r r1 : Rw} (hg : getL T n = some (b, r)) (hf : r.fk = false) (h1 : r1.fk = false) (h3 : r1.op = r.op) (h4 : r1.args = r.args) : Ok (updT T n r1) := by
  have hm := getT_mem hg
  have hk : ∀ a, kidsN (updT T n r1) a = kidsN T a := fun a => by
    have c1 := count_upd (isKid a) (r' := r1) h.nd hg
    have e1 : isKid a (n, b, r1) = false := by unfold isKid; simp [h1]
    have e2 : isKid a (n, b, r) = false := by unfold isKid; simp [hf]
    rw [e1, e2] at c1
    unfold kidsN; omega
  refine ⟨by rw [updT_keys]; exact h.nd, fun p hp => ?_, fun p hp hfk => ?_, fun p hp => ?_, fun p hp => ?_⟩
  · rcases updT_mem h.nd hg hp with rfl | ⟨hp, _⟩
    · exact (show mayS n.2 = true from h.may (n, b, r) hm)
    · exact h.may _ hp
  · rcases updT_mem h.nd hg hp with rfl | ⟨hp, _⟩
    · simp only at hfk
      rw [h1] at hfk; cases hfk
    · obtain ⟨h5, q, hq, he⟩ := h.up _ hp hfk
      obtain ⟨q', hq', he'⟩ := updT_has (n := n) (r' := r1) hq
      exact ⟨h5, q', hq', he'.trans he⟩
  · rw [hk]
    rcases updT_mem h.nd hg hp with rfl | ⟨hp, _⟩
    · have := h.op _ hm
      simp only at this ⊢
      rw [h3]; exact this
    · exact h.op _ hp
  · rcases updT_mem h.nd hg hp with rfl | ⟨hp, _⟩
    · have := h.args _ hm
      simp only at this ⊢
      rw [h4]; exact this
    · exact h.args _ hp
/-- A row that is a child is over: its parent counts one less, and may wake. -/
theorem Ok.over {T : Tb} (h : Ok T) {n : Nm} {b : Nat} {r : Rw} (hg : getL T n = some (b, r)) (hs : r.st ≠ 6) (val err : Int) : Ok (overU (updT T n (overR1 r val err)) n r).2 := by
  by_cases hf : r.fk = true
  · obtain ⟨hne, pb, q, hpg, hq1, _⟩ := h.pars hg hf hs
    have hpn : par n ≠ n := fun e => hne (congrArg Prod.snd e)
    have hg1 : getL (updT T n (overR1 r val err)) (n.1, parS n.2) = some (pb, q) := (getL_upd_ne (show (n.1, parS n.2) ≠ n from hpn)).trans hpg
    unfold overU
    rw [if_pos hf, hg1]
    simp only
    by_cases hw : 0 < q.op - 1 ∨ q.st ≠ 3
    · rw [if_pos hw]
      exact h.dec hg hpg hpn rfl hf hs hf rfl rfl rfl rfl Iff.rfl rfl rfl
    · rw [if_neg hw]
      have hst : q.st = 3 := by omega
      have o1 : Ok (updT (updT T n (overR1 r val err)) (par n) { q with op := q.op - 1 }) := h.dec hg hpg hpn rfl hf hs hf rfl rfl rfl rfl Iff.rfl rfl rfl
      exact o1.same (getL_upd hg1) rfl ⟨fun e => absurd (show (4 : Int) = 6 from e) (by decide), fun e => absurd (show q.st = 6 from e) (by omega)⟩ rfl rfl
  · have hf' : r.fk = false := by simpa using hf
    unfold overU
    rw [if_neg hf]
    exact h.over0 hg hf' hf' rfl rfl
/-- Who was forked from whom, by the table. -/
def kidK (T : Tb) (n : Nm) : Option Nm := match getL T n with
  | some (_, r) => if r.fk then some (par n) else none
  | none => none
theorem kidK_upd {T : Tb} {n : Nm} {b : Nat} {r r' : Rw} (hg : getL T n = some (b, r)) (hf : r'.fk = r.fk) (a : Nm) : kidK (updT T n r') a = kidK T a := by
  unfold kidK
  by_cases e : a = n
  · subst e
    rw [getL_upd hg, hg]
    simp only [hf]
  · rw [getL_upd_ne e]
theorem kidK_over {T : Tb} (h : Ok T) {n : Nm} {b : Nat} {r : Rw} (hg : getL T n = some (b, r)) (hs : r.st ≠ 6) (val err : Int) (a : Nm) : kidK (overU (updT T n (overR1 r val err)) n r).2 a = kidK T a := by
  have k1 : ∀ a, kidK (updT T n (overR1 r val err)) a = kidK T a := kidK_upd hg rfl
  unfold overU
  by_cases hf : r.fk = true
  · obtain ⟨hne, pb, q, hpg, hq1, _⟩ := h.pars hg hf hs
    have hpn : par n ≠ n := fun e => hne (congrArg Prod.snd e)
    have hg1 : getL (updT T n (overR1 r val err)) (n.1, parS n.2) = some (pb, q) := (getL_upd_ne (show (n.1, parS n.2) ≠ n from hpn)).trans hpg
    rw [if_pos hf, hg1]
    simp only
    by_cases hw : 0 < q.op - 1 ∨ q.st ≠ 3
    · rw [if_pos hw]
      exact (kidK_upd (r' := { q with op := q.op - 1 }) hg1 rfl a).trans (k1 a)
    · rw [if_neg hw]
      exact (kidK_upd (r' := { q with op := q.op - 1, st := 4 }) (getL_upd (r' := { q with op := q.op - 1 }) hg1) rfl a).trans ((kidK_upd (r' := { q with op := q.op - 1 }) hg1 rfl a).trans (k1 a))
  · rw [if_neg hf]
    exact k1 a
theorem getL_app_new {V : Type} {T : List (Nm × V)} {n : Nm} {v : V} (hn : ∀ p ∈ T, p.1 ≠ n) (a : Nm) : getL (T ++ [(n, v)]) a = if a = n then some v else getL T a := by
  unfold getL
  rw [List.find?_append]
  by_cases e : a = n
  · subst e
    rw [if_pos rfl]
    have : T.find? (fun p => decide (p.1 = a)) = none := List.find?_eq_none.2 fun p hp => by simpa using hn p hp
    rw [this]
    simp
  · rw [if_neg e]
    cases h : T.find? (fun p => decide (p.1 = a)) with
    | some x => rfl
    | none =>
      have : List.find? (fun p : Nm × V => decide (p.1 = a)) [(n, v)] = none := by simp; exact fun h => e h.symm
      rw [this]; rfl
theorem kidK_put {T : Tb} {n : Nm} {b : Nat} {r : Rw} (hn : ∀ p ∈ T, p.1 ≠ n) (hf : r.fk = false) (a : Nm) : kidK (T ++ [(n, b, r)]) a = kidK T a := by
  unfold kidK
  rw [getL_app_new hn]
  by_cases e : a = n
  · subst e
    rw [if_pos rfl, getL_noneV hn]
    simp [hf]
  · rw [if_neg e]
theorem kidK_fork {T : Tb} (h : Ok T) {pn c : Nm} {pb b : Nat} {q r : Rw} (hg : getL T pn = some (pb, q)) (hn : ∀ p ∈ T, p.1 ≠ c) (hf : r.fk = true) (a : Nm) :
    kidK (updT T pn { q with op := q.op + 1 } ++ [(c, b, r)]) a = if a = c then some (par c) else kidK T a := by
  have hn' : ∀ p ∈ updT T pn { q with op := q.op + 1 }, p.1 ≠ c := fun p hp' => by
    rcases updT_mem h.nd hg hp' with rfl | ⟨hp', _⟩
    · exact (show pn ≠ c from hn (pn, pb, q) (getT_mem hg))
    · exact hn p hp'
  have k1 := kidK_upd (r' := { q with op := q.op + 1 }) hg rfl a
  unfold kidK at *
  rw [getL_app_new hn']
  by_cases e : a = c
  · subst e
    rw [if_pos rfl, if_pos rfl]
    simp [hf]
  · rw [if_neg e, if_neg e]
    exact k1
end Go.Proofs.Ythbkbmkcgpdedaa
