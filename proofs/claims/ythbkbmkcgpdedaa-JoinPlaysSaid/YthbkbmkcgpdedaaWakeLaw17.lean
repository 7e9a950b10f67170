/- The table, plainly: each row counts its children that are there and not over. -/
import Derived.Test.YthbkbmkcgpdedaaJoin16
import Derived.Test.YthbkbmkcgpdedaaJoin18
namespace Go.Proofs.Ythbkbmkcgpdedaa
open Go.RowKit Go.Lib

def par (n : Nm) : Nm := (n.1, parS n.2)
def isKid (n : Nm) (p : Nm × Nat × Rw) : Bool := p.2.2.fk && !decide (p.2.2.st = 6) && decide (par p.1 = n)
def kidsN (T : Tb) (n : Nm) : Nat := T.countP (isKid n)
structure Ok (T : Tb) : Prop where
  nd : (T.map (·.1)).Nodup
  may : ∀ p ∈ T, mayS p.1.2 = true
  up : ∀ p ∈ T, p.2.2.fk = true → parB p.1.2 = true ∧ ∃ q ∈ T, q.1 = par p.1
  op : ∀ p ∈ T, p.2.2.op = (kidsN T p.1 : Int)
  args : ∀ p ∈ T, p.2.2.args.length ≤ 8192
theorem Ok.nil : Ok [] := ⟨List.nodup_nil, by simp, by simp, by simp, by simp⟩
theorem parS_ne {s : ByteArray} (h : parB s = true) : parS s ≠ s := by
  have hp := parB_size h
  unfold parS
  rw [if_pos h]
  intro e
  have := congrArg ByteArray.size e
  simp at this
  omega
theorem getT {T : Tb} (hn : (T.map (·.1)).Nodup) {p : Nm × Nat × Rw} (h : p ∈ T) : getL T p.1 = some p.2 := (getL_memV hn _ _).2 h
theorem getT_mem {T : Tb} {n : Nm} {b : Nat} {r : Rw} (h : getL T n = some (b, r)) : (n, b, r) ∈ T := getL_mem' h
theorem updT_out {T : Tb} {n : Nm} {r' : Rw} (h : ∀ p ∈ T, p.1 ≠ n) : updT T n r' = T := by
  unfold updT
  conv => rhs; rw [← List.map_id T]
  exact List.map_congr_left fun p hp => by rw [if_neg (h p hp)]; rfl
theorem updT_mem {T : Tb} (hn : (T.map (·.1)).Nodup) {n : Nm} {b : Nat} {r r' : Rw} (hg : getL T n = some (b, r)) {p : Nm × Nat × Rw} (h : p ∈ updT T n r') : p = (n, b, r') ∨ (p ∈ T ∧ p.1 ≠ n) := by
  unfold updT at h
  obtain ⟨q, hq, rfl⟩ := List.mem_map.1 h
  by_cases e : q.1 = n
  · left
    rw [if_pos e]
    have := getT hn hq
    rw [e, hg] at this
    injection this with this
    rw [← this, e]
  · right
    rw [if_neg e]
    exact ⟨hq, e⟩
theorem updT_keys (T : Tb) (n : Nm) (r' : Rw) : (updT T n r').map (·.1) = T.map (·.1) := by
  unfold updT
  rw [List.map_map]
  apply List.map_congr_left
  intro p _
  simp only [Function.comp]
  split <;> rfl
theorem updT_has {T : Tb} {n : Nm} {r' : Rw} {q : Nm × Nat × Rw} (h : q ∈ T) : ∃ q' ∈ updT T n r', q'.1 = q.1 := by
  have : q.1 ∈ (updT T n r').map (·.1) := by rw [updT_keys]; exact List.mem_map.2 ⟨q, h, rfl⟩
  obtain ⟨q', h1, h2⟩ := List.mem_map.1 this
  exact ⟨q', h1, h2⟩
theorem count_upd (f : Nm × Nat × Rw → Bool) : ∀ {T : Tb} {n : Nm} {b : Nat} {r r' : Rw}, (T.map (·.1)).Nodup → getL T n = some (b, r) → T.countP f + (f (n, b, r')).toNat = (updT T n r').countP f + (f (n, b, r)).toNat
  | [], _, _, _, _, _, hg => by cases hg
  | p :: T, n, b, r, r', hn, hg => by
    rw [List.map_cons, List.nodup_cons] at hn
    by_cases e : p.1 = n
    · have hp : p = (n, b, r) := by
        have h0 : getL (p :: T) n = some p.2 := by unfold getL; rw [List.find?_cons_of_pos (by simp [e])]; rfl
        rw [hg] at h0
        injection h0 with h0
        exact Prod.ext e h0.symm
      have hout : updT T n r' = T := updT_out fun q hq h => hn.1 (List.mem_map.2 ⟨q, hq, by rw [h, e]⟩)
      have hu : updT (p :: T) n r' = (n, b, r') :: T := by
        show (if p.1 = n then (p.1, p.2.1, r') else p) :: updT T n r' = _
        rw [if_pos e, hout, hp]
      rw [hu, hp, List.countP_cons, List.countP_cons]
      cases f (n, b, r) <;> cases f (n, b, r') <;> simp
    · have hg' : getL T n = some (b, r) := by
        unfold getL at hg ⊢
        rwa [List.find?_cons_of_neg (by simp [e])] at hg
      have ih := count_upd f (r' := r') hn.2 hg'
      have hu : updT (p :: T) n r' = p :: updT T n r' := by
        show (if p.1 = n then (p.1, p.2.1, r') else p) :: updT T n r' = _
        rw [if_neg e]
      rw [hu, List.countP_cons, List.countP_cons]
      omega
theorem kids_none {T : Tb} (h : Ok T) {n : Nm} (hn : ∀ p ∈ T, p.1 ≠ n) : kidsN T n = 0 := by
  unfold kidsN
  rw [List.countP_eq_zero]
  intro p hp hk
  unfold isKid at hk
  simp only [Bool.and_eq_true, decide_eq_true_eq] at hk
  obtain ⟨_, q, hq, he⟩ := h.up p hp hk.1.1
  exact hn q hq (he.trans hk.2)
/-- A row is turned, but for its count and what makes it a child. -/
theorem Ok.same {T : Tb} (h : Ok T) {n : Nm} {b : Nat} {r r' : Rw} (hg : getL T n = some (b, r)) (h1 : r'.fk = r.fk) (h2 : r'.st = 6 ↔ r.st = 6) (h3 : r'.op = r.op) (h4 : r'.args = r.args) : Ok (updT T n r') := by
  have hm := getT_mem hg
  have hk : ∀ a, kidsN (updT T n r') a = kidsN T a := fun a => by
    have := count_upd (isKid a) (r' := r') h.nd hg
    have e : isKid a (n, b, r') = isKid a (n, b, r) := by
      unfold isKid
      simp only [h1]
      congr 2
      simp [h2]
    rw [e] at this
    unfold kidsN; omega
  refine ⟨by rw [updT_keys]; exact h.nd, fun p hp => ?_, fun p hp hf => ?_, fun p hp => ?_, fun p hp => ?_⟩
  · rcases updT_mem h.nd hg hp with rfl | ⟨hp, _⟩
    · exact (show mayS n.2 = true from h.may (n, b, r) hm)
    · exact h.may _ hp
  · rcases updT_mem h.nd hg hp with rfl | ⟨hp, _⟩
    · obtain ⟨h5, q, hq, he⟩ := h.up _ hm (h1 ▸ hf)
      obtain ⟨q', hq', he'⟩ := updT_has (n := n) (r' := r') hq
      exact ⟨h5, q', hq', he'.trans he⟩
    · obtain ⟨h5, q, hq, he⟩ := h.up _ hp hf
      obtain ⟨q', hq', he'⟩ := updT_has (n := n) (r' := r') hq
      exact ⟨h5, q', hq', he'.trans he⟩
  · rw [hk]
    rcases updT_mem h.nd hg hp with rfl | ⟨hp, _⟩
    · have := h.op _ hm
      simp only at this ⊢
      rw [h3]; exact this
    · exact h.op _ hp
  · rcases updT_mem h.nd hg hp with rfl | ⟨hp, _⟩
    · have := h.args _ hm
      simp only at this ⊢
      rw [h4]; exact this
    · exact h.args _ hp
theorem kids_app (T : Tb) (x : Nm × Nat × Rw) (a : Nm) : kidsN (T ++ [x]) a = kidsN T a + (isKid a x).toNat := by
  unfold kidsN
  rw [List.countP_append]
  cases h : isKid a x <;> simp [h]
theorem app_nd {T : Tb} (h : (T.map (·.1)).Nodup) {x : Nm × Nat × Rw} (hn : ∀ p ∈ T, p.1 ≠ x.1) : ((T ++ [x]).map (·.1)).Nodup := by
  rw [List.map_append, List.nodup_append]
  refine ⟨h, by simp, fun a ha b hb e => ?_⟩
  simp at hb
  subst hb
  obtain ⟨p, hp, rfl⟩ := List.mem_map.1 ha
  exact hn p hp e
theorem Ok.put {T : Tb} (h : Ok T) {n : Nm} {b : Nat} {r : Rw} (hn : ∀ p ∈ T, p.1 ≠ n) (hm : mayS n.2 = true) (hf : r.fk = false) (h0 : r.op = 0) (ha : r.args.length ≤ 8192) : Ok (T ++ [(n, b, r)]) := by
  have hk : ∀ a, kidsN (T ++ [(n, b, r)]) a = kidsN T a := fun a => by
    rw [kids_app]
    have : isKid a (n, b, r) = false := by unfold isKid; simp [hf]
    rw [this]; rfl
  refine ⟨app_nd h.nd hn, fun p hp => ?_, fun p hp hfk => ?_, fun p hp => ?_, fun p hp => ?_⟩
  · rcases List.mem_append.1 hp with hp | hp
    · exact h.may p hp
    · rw [List.mem_singleton] at hp; subst hp; exact hm
  · rcases List.mem_append.1 hp with hp | hp
    · obtain ⟨h1, q, hq, he⟩ := h.up p hp hfk
      exact ⟨h1, q, List.mem_append_left _ hq, he⟩
    · rw [List.mem_singleton] at hp; subst hp
      simp only at hfk
      rw [hf] at hfk; cases hfk
  · rw [hk]
    rcases List.mem_append.1 hp with hp | hp
    · exact h.op p hp
    · rw [List.mem_singleton] at hp; subst hp
      simp only
      rw [h0, kids_none h hn]; rfl
  · rcases List.mem_append.1 hp with hp | hp
    · exact h.args p hp
    · rw [List.mem_singleton] at hp; subst hp; exact ha
theorem Ok.fork {T : Tb} (h : Ok T) {pn c : Nm} {pb b : Nat} {q r : Rw} (hg : getL T pn = some (pb, q)) (hn : ∀ p ∈ T, p.1 ≠ c) (hm : mayS c.2 = true) (hp : parB c.2 = true) (hc : par c = pn) (hf : r.fk = true) (hs : r.st ≠ 6) (h0 : r.op = 0) (ha : r.args.length ≤ 8192) :
    Ok (updT T pn { q with op := q.op + 1 } ++ [(c, b, r)]) := by
  have hqm := getT_mem hg
  have hpc : pn ≠ c := fun e => hn _ hqm e
  have hn' : ∀ p ∈ updT T pn { q with op := q.op + 1 }, p.1 ≠ c := fun p hp' => by
    rcases updT_mem h.nd hg hp' with rfl | ⟨hp', _⟩
    · exact hpc
    · exact hn p hp'
  have hk : ∀ a, kidsN (updT T pn { q with op := q.op + 1 } ++ [(c, b, r)]) a = kidsN T a + (decide (pn = a)).toNat := fun a => by
    rw [kids_app]
    have h1 := count_upd (isKid a) (r' := { q with op := q.op + 1 }) h.nd hg
    have e : isKid a (pn, pb, { q with op := q.op + 1 }) = isKid a (pn, pb, q) := rfl
    rw [e] at h1
    have e2 : isKid a (c, b, r) = decide (pn = a) := by unfold isKid; simp [hf, hs, hc]
    rw [e2]
    unfold kidsN; omega
  have hkc : kidsN T c = 0 := kids_none h hn
  refine ⟨app_nd (by rw [updT_keys]; exact h.nd) hn', fun p hp' => ?_, fun p hp' hfk => ?_, fun p hp' => ?_, fun p hp' => ?_⟩
  · rcases List.mem_append.1 hp' with hp' | hp'
    · rcases updT_mem h.nd hg hp' with rfl | ⟨hp', _⟩
      · exact (show mayS pn.2 = true from h.may (pn, pb, q) hqm)
      · exact h.may p hp'
    · rw [List.mem_singleton] at hp'; subst hp'; exact hm
  · rcases List.mem_append.1 hp' with hp' | hp'
    · rcases updT_mem h.nd hg hp' with rfl | ⟨hp', _⟩
      · obtain ⟨h1, z, hz, he⟩ := h.up _ hqm hfk
        obtain ⟨z', hz', he'⟩ := updT_has (n := pn) (r' := { q with op := q.op + 1 }) hz
        exact ⟨h1, z', List.mem_append_left _ hz', he'.trans he⟩
      · obtain ⟨h1, z, hz, he⟩ := h.up p hp' hfk
        obtain ⟨z', hz', he'⟩ := updT_has (n := pn) (r' := { q with op := q.op + 1 }) hz
        exact ⟨h1, z', List.mem_append_left _ hz', he'.trans he⟩
    · rw [List.mem_singleton] at hp'; subst hp'
      obtain ⟨z', hz', he'⟩ := updT_has (n := pn) (r' := { q with op := q.op + 1 }) hqm
      exact ⟨hp, z', List.mem_append_left _ hz', he'.trans hc.symm⟩
  · rw [hk]
    rcases List.mem_append.1 hp' with hp' | hp'
    · rcases updT_mem h.nd hg hp' with rfl | ⟨hp', hne⟩
      · have := h.op _ hqm
        simp only at this ⊢
        rw [this]; simp
      · rw [decide_eq_false (fun e => hne e.symm)]
        have := h.op p hp'
        simpa using this
    · rw [List.mem_singleton] at hp'; subst hp'
      simp only
      rw [h0, hkc, decide_eq_false hpc]; rfl
  · rcases List.mem_append.1 hp' with hp' | hp'
    · rcases updT_mem h.nd hg hp' with rfl | ⟨hp', _⟩
      · exact (show q.args.length ≤ 8192 from h.args (pn, pb, q) hqm)
      · exact h.args p hp'
    · rw [List.mem_singleton] at hp'; subst hp'; exact ha
/-- A parent is there, and counts. -/
theorem Ok.pars {T : Tb} (h : Ok T) {n : Nm} {b : Nat} {r : Rw} (hg : getL T n = some (b, r)) (hf : r.fk = true) (hs : r.st ≠ 6) : parS n.2 ≠ n.2 ∧ ∃ pb q, getL T (par n) = some (pb, q) ∧ 1 ≤ q.op ∧ q.op ≤ T.length := by
  have hm := getT_mem hg
  obtain ⟨h1, z, hz, he⟩ := h.up _ hm hf
  refine ⟨parS_ne h1, z.2.1, z.2.2, ?_, ?_, ?_⟩
  · have := getT h.nd hz
    rw [he] at this
    exact this
  · have h2 := h.op z hz
    rw [h2]
    have : 0 < kidsN T z.1 := by
      unfold kidsN
      rw [List.countP_pos_iff]
      refine ⟨_, hm, ?_⟩
      unfold isKid
      simp [hf, hs, he]
    omega
  · have h2 := h.op z hz
    rw [h2]
    have : kidsN T z.1 ≤ T.length := List.countP_le_length
    omega
theorem Ok.bound {T : Tb} (h : Ok T) {n : Nm} {b : Nat} {r : Rw} (hg : getL T n = some (b, r)) : 0 ≤ r.op ∧ r.op ≤ T.length := by
  have h2 := h.op _ (getT_mem hg)
  simp only at h2
  have : kidsN T n ≤ T.length := List.countP_le_length
  omega
end Go.Proofs.Ythbkbmkcgpdedaa
