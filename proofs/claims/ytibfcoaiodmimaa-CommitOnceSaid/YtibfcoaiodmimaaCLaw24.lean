/- The plain law of commit: trees of what is wanted; entries in whatever order. -/
import Derived.Test.YtibfcoaiodmimaaWant3
import Derived.Test.YtibfcoaiodmimaaMapLaw
namespace Go.Proofs.Ytibfcoaiodmimaa

/-- A ledger's list. -/
structure GL (l : List (Nm × Ent)) : Prop where
  good : GoodL l
  key : ∀ p ∈ l, p.2.1 = p.1
  nd : (l.map (·.1)).Nodup
theorem GL.nil : GL [] := ⟨(by intro p hp; cases hp), (by intro p hp; cases hp), List.nodup_nil⟩
theorem good_snocL {l : List (Nm × Ent)} {x : Ent} (h : GoodL l) (hx : badX x = false) : GoodL (l ++ [(x.1, x)]) := by
  intro p hp
  rcases List.mem_append.1 hp with hp | hp
  · exact h p hp
  · rw [List.mem_singleton] at hp; rw [hp]; exact hx
theorem cm_cases (l : List (Nm × Ent)) (most : Int) (x : Ent) :
    (badX x = true ∧ cmA l most x = (false, 2)) ∨ (badX x = false ∧ ∃ old, getL l x.1 = some old ∧ cmA l most x = (false, if old = x then 0 else 240)) ∨ (badX x = false ∧ getL l x.1 = none ∧ most ≤ l.length ∧ cmA l most x = (false, 6)) ∨
    (badX x = false ∧ getL l x.1 = none ∧ (l.length : Int) < most ∧ cmA l most x = (true, 0)) := by
  unfold cmA
  cases hb : badX x
  · cases hg : getL l x.1 with
    | some old => refine .inr (.inl ⟨rfl, old, rfl, ?_⟩); simp; split <;> rfl
    | none =>
      by_cases hm : most ≤ l.length
      · exact .inr (.inr (.inl ⟨rfl, rfl, hm, by simp [hm]⟩))
      · exact .inr (.inr (.inr ⟨rfl, rfl, by omega, by simp [hm]⟩))
  · exact .inl ⟨rfl, by simp⟩
theorem cm_new {l : List (Nm × Ent)} {most : Int} {x : Ent} (h : (cmA l most x).1 = true) : badX x = false ∧ getL l x.1 = none ∧ (l.length : Int) < most ∧ cmA l most x = (true, 0) ∧ cmL l most x = l ++ [(x.1, x)] := by
  rcases cm_cases l most x with ⟨_, e⟩ | ⟨_, old, _, e⟩ | ⟨_, _, _, e⟩ | ⟨h1, h2, h3, e⟩
  · rw [e] at h; cases h
  · rw [e] at h; cases h
  · rw [e] at h; cases h
  · exact ⟨h1, h2, h3, e, by unfold cmL; rw [e]; exact putL_newV h2 x⟩
theorem cm_old {l : List (Nm × Ent)} {most : Int} {x : Ent} (h : (cmA l most x).1 = false) : cmL l most x = l := by
  unfold cmL; rw [h]; rfl
theorem GL.cm {l : List (Nm × Ent)} (h : GL l) (most : Int) (x : Ent) : GL (cmL l most x) := by
  cases hc : (cmA l most x).1
  · rw [cm_old hc]; exact h
  · obtain ⟨h1, h2, _, _, h5⟩ := cm_new hc
    rw [h5]
    refine ⟨good_snocL h.good h1, ?_, ?_⟩
    · intro p hp
      rcases List.mem_append.1 hp with hp | hp
      · exact h.key p hp
      · rw [List.mem_singleton] at hp; rw [hp]
    · rw [List.map_append, List.nodup_append]
      refine ⟨h.nd, by simp, fun a ha b hb e => ?_⟩
      obtain ⟨p, hp, rfl⟩ := List.mem_map.1 ha
      simp at hb
      exact getL_none_iffV.1 h2 p hp (e.trans hb)
theorem cm_len {l : List (Nm × Ent)} {most : Int} {x : Ent} (h : (l.length : Int) ≤ most) : ((cmL l most x).length : Int) ≤ most := by
  cases hc : (cmA l most x).1
  · rw [cm_old hc]; exact h
  · obtain ⟨_, _, h3, _, h5⟩ := cm_new hc
    rw [h5]; simp; omega

def ents (l : List Ent) : List (Nm × Ent) := l.map fun x => (x.1, x)
theorem ents_snoc (l : List Ent) (x : Ent) : ents (l ++ [x]) = ents l ++ [(x.1, x)] := by unfold ents; simp
theorem ents_keys (l : List Ent) : (ents l).map (·.1) = l.map (·.1) := by unfold ents; rw [List.map_map]; rfl
/-- While entries come. -/
structure OrdI (la : List (Nm × Ent)) (l : List Ent) : Prop where
  eq : la = ents l
  gl : GL la
  len : l.length ≤ 4096
theorem OrdI.start : OrdI [] [] := ⟨rfl, GL.nil, by simp⟩
theorem OrdI.step {la : List (Nm × Ent)} {l : List Ent} (h : OrdI la l) {x : Ent} (hc : (cmA la 4096 x).1 = true) : OrdI (cmL la 4096 x) (l ++ [x]) := by
  obtain ⟨_, _, h3, _, h5⟩ := cm_new hc
  refine ⟨by rw [h5, h.eq, ents_snoc], h.gl.cm _ _, ?_⟩
  rw [h.eq] at h3
  simp [ents] at h3 ⊢
  omega
theorem OrdI.nd {la : List (Nm × Ent)} {l : List Ent} (h : OrdI la l) : (l.map (·.1)).Nodup := by have := h.gl.nd; rw [h.eq, ents_keys] at this; exact this
theorem OrdI.ok {la : List (Nm × Ent)} {l : List Ent} (h : OrdI la l) {x : Ent} (hx : x ∈ l) : badX x = false := h.gl.good (x.1, x) (by rw [h.eq]; exact List.mem_map.2 ⟨x, hx, rfl⟩)
/-- The same entries, from behind. -/
def backL (l : List Ent) (k : Nat) : List (Nm × Ent) := ents (l.drop k).reverse
theorem back_start (l : List Ent) : backL l l.length = [] := by unfold backL; simp [ents]
theorem back_step {la : List (Nm × Ent)} {l : List Ent} (h : OrdI la l) {k : Nat} (hk : k < l.length) :
    cmA (backL l (k + 1)) 4096 l[k] = (true, 0) ∧ cmL (backL l (k + 1)) 4096 l[k] = backL l k := by
  have hd : l.drop k = l[k] :: l.drop (k + 1) := List.drop_eq_getElem_cons hk
  have hlen : ((backL l (k + 1)).length : Int) < 4096 := by have := h.len; simp [backL, ents]; omega
  have hn : getL (backL l (k + 1)) l[k].1 = none := by
    refine getL_noneV fun p hp e => ?_
    unfold backL ents at hp
    obtain ⟨y, hy, rfl⟩ := List.mem_map.1 hp
    rw [List.mem_reverse] at hy
    have h1 : ((l.drop k).map (·.1)).Nodup := (h.nd).sublist ((List.drop_sublist k l).map _)
    rw [hd, List.map_cons, List.nodup_cons] at h1
    exact h1.1 (List.mem_map.2 ⟨y, hy, e⟩)
  have ha : cmA (backL l (k + 1)) 4096 l[k] = (true, 0) := by
    rcases cm_cases (backL l (k + 1)) 4096 l[k] with ⟨hb, _⟩ | ⟨_, old, hg, _⟩ | ⟨_, _, hm, _⟩ | ⟨_, _, _, e⟩
    · rw [h.ok (List.getElem_mem hk)] at hb; cases hb
    · rw [hn] at hg; cases hg
    · omega
    · exact e
  refine ⟨ha, ?_⟩
  rw [(cm_new (by rw [ha])).2.2.2.2]
  unfold backL
  rw [hd, List.reverse_cons, ents_snoc]
theorem back_gl {la : List (Nm × Ent)} {l : List Ent} (h : OrdI la l) : ∀ (k : Nat), k ≤ l.length → GL (backL l (l.length - k))
  | 0, _ => by rw [Nat.sub_zero, back_start]; exact GL.nil
  | k + 1, hk => by
    have h1 : l.length - (k + 1) < l.length := by omega
    rw [← (back_step h h1).2, show l.length - (k + 1) + 1 = l.length - k by omega]
    exact (back_gl h k (by omega)).cm _ _
theorem back_perm {la : List (Nm × Ent)} {l : List Ent} (h : OrdI la l) : (backL l 0).Perm la := by
  rw [h.eq]; unfold backL ents
  rw [List.drop_zero]
  exact (List.reverse_perm l).map _
theorem wantP_congr {l m : List (Nm × Ent)} (h : ∀ n, getL l n = getL m n) (job : Int) : ∀ (k : Nat) (p : ByteArray), wantP l job k p = wantP m job k p
  | 0, _ => rfl
  | k + 1, p => by
    unfold wantP
    rw [h]
    cases getL m (job, p) with
    | none => rfl
    | some x => simp only; congr 1; funext i; exact wantP_congr h job k _
theorem want_same {l m : List (Nm × Ent)} (hl : GL l) (hp : m.Perm l) (root : Nm) : wantR root m = wantR root l ∧ undR root m = undR root l ∧ wholeR root m = wholeR root l := by
  have hg : ∀ n, getL m n = getL l n := fun n => (getL_permV hl.nd hp n).symm
  have hw : wantR root m = wantR root l := by unfold wantR; rw [wantP_congr hg]
  refine ⟨hw, ?_, by unfold wholeR; rw [hw]⟩
  unfold undR
  split
  · exact sortE_perm_eq (undA_nodup hl.nd hl.key) (undA_perm root hp)
  · rfl

/-! ### Trees -/
def treeP (l : List (Nm × Ent)) (job : Int) : Nat → ByteArray → List ByteArray
  | 0, p => [p]
  | k + 1, p => match getL l (job, p) with
    | none => [p]
    | some x => p :: (List.range x.2.1.toNat).flatMap (fun i => treeP l job k (kidS p (i + 1 : Nat)))
def inL (l : List (Nm × Ent)) (job : Int) (q : ByteArray) : Bool := (getL l (job, q)).isSome
theorem flat_le {α : Type} {f g : Nat → List α} : ∀ (is : List Nat), (∀ i ∈ is, (f i).length ≤ (g i).length) → (is.flatMap f).length ≤ (is.flatMap g).length
  | [], _ => by simp
  | i :: is, h => by
    rw [List.flatMap_cons, List.flatMap_cons, List.length_append, List.length_append]
    exact Nat.add_le_add (h i (by simp)) (flat_le is (fun j hj => h j (by simp [hj])))
theorem want_le_tree (l : List (Nm × Ent)) (job : Int) : ∀ (k : Nat) (p : ByteArray), (wantP l job k p).length ≤ (treeP l job k p).length
  | 0, _ => Nat.le_refl _
  | k + 1, p => by
    unfold wantP treeP
    cases getL l (job, p) with
    | none => exact Nat.le_refl _
    | some x =>
      simp only [List.length_cons]
      exact Nat.le_succ_of_le (flat_le _ (fun i _ => want_le_tree l job k _))
section
variable {l : List (Nm × Ent)} (h : GL l) {job : Int}
include h
theorem GL.ent {p : ByteArray} {x : Ent} (hg : getL l (job, p) = some x) : x.1 = (job, p) ∧ 0 ≤ x.2.1 ∧ x.2.1 ≤ 16 ∧ p.size ≤ 12 ∧ mayS p = true ∧ (0 < x.2.1 → p.size < 12) := by
  have hm := getL_memE hg
  have hk : x.1 = (job, p) := h.key _ hm
  have := good_ent (h.good _ hm)
  rw [hk] at this
  exact ⟨hk, this⟩
theorem GL.kid {p : ByteArray} {x : Ent} (hg : getL l (job, p) = some x) {i : Nat} (hi : i < x.2.1.toNat) : kidB p ((i + 1 : Nat) : Int) = true ∧ i + 1 ≤ 16 := by
  obtain ⟨_, h1, h2, _, h4, h5⟩ := h.ent hg
  exact ⟨kid_ok h4 (by omega) (by omega) (h5 (by omega)), by omega⟩
end
theorem kid_list {p : ByteArray} {n : Int} (h : kidB p n = true) : (kidS p n).data.toList = p.data.toList ++ [UInt8.ofNat n.toNat] := by
  unfold kidS; rw [h]; simp
theorem tree_pref {l : List (Nm × Ent)} (h : GL l) {job : Int} : ∀ (k : Nat) (p q : ByteArray), q ∈ treeP l job k p → p.data.toList <+: q.data.toList
  | 0, p, q, hq => by rw [treeP, List.mem_singleton] at hq; rw [hq]; exact List.prefix_refl _
  | k + 1, p, q, hq => by
    unfold treeP at hq
    cases hg : getL l (job, p) with
    | none => rw [hg] at hq; simp at hq; rw [hq]; exact List.prefix_refl _
    | some x =>
      rw [hg] at hq
      simp only [List.mem_cons, List.mem_flatMap, List.mem_range] at hq
      rcases hq with rfl | ⟨i, hi, hq⟩
      · exact List.prefix_refl _
      · have h1 := tree_pref h k _ q hq
        rw [kid_list (h.kid hg hi).1] at h1
        exact (List.prefix_append _ _).trans h1
theorem byte_inj {i j : Nat} (hi : i < 256) (hj : j < 256) (h : UInt8.ofNat i = UInt8.ofNat j) : i = j := by
  have h1 := congrArg UInt8.toNat h
  simp at h1
  omega
theorem tree_nodup {l : List (Nm × Ent)} (h : GL l) {job : Int} : ∀ (k : Nat) (p : ByteArray), (treeP l job k p).Nodup
  | 0, p => by unfold treeP; simp
  | k + 1, p => by
    unfold treeP
    cases hg : getL l (job, p) with
    | none => simp
    | some x =>
      simp only [List.nodup_cons, List.mem_flatMap, List.mem_range]
      refine ⟨?_, ?_⟩
      · rintro ⟨i, hi, hq⟩
        have h1 := (tree_pref h k _ p hq).length_le
        rw [kid_list (h.kid hg hi).1] at h1
        simp at h1
        omega
      · rw [List.nodup_iff_pairwise_ne, List.pairwise_flatMap]
        refine ⟨fun i _ => tree_nodup h k _, ?_⟩
        have hr : (List.range x.2.1.toNat).Pairwise (fun a b => a < b ∧ b < x.2.1.toNat) := by
          rw [List.pairwise_iff_getElem]
          intro i j hi hj hij
          simp at hi hj ⊢
          omega
        refine hr.imp ?_
        rintro i j ⟨hij, hj⟩ a ha b hb e
        subst e
        have h1 := tree_pref h k _ a ha
        have h2 := tree_pref h k _ a hb
        rw [kid_list (h.kid hg (by omega)).1] at h1
        rw [kid_list (h.kid hg hj).1] at h2
        have h3 := List.prefix_of_prefix_length_le h1 h2 (by simp)
        have h4 := h3.eq_of_length (by simp)
        have h5 := List.append_cancel_left h4
        have b1 := (h.kid hg (i := i) (by omega)).2
        have b2 := (h.kid hg hj).2
        simp only [List.cons.injEq, and_true] at h5
        have := byte_inj (by simp; omega) (by simp; omega) h5
        simp at this
        omega
theorem flat_count {α : Type} {f : Nat → List α} {p : α → Bool} : ∀ (is : List Nat), (∀ i ∈ is, (f i).length ≤ 1 + 16 * ((f i).filter p).length) → (is.flatMap f).length ≤ is.length + 16 * ((is.flatMap f).filter p).length
  | [], _ => by simp
  | i :: is, h => by
    rw [List.flatMap_cons, List.filter_append, List.length_append, List.length_append, List.length_cons]
    have h1 := h i (by simp)
    have h2 := flat_count (p := p) is (fun j hj => h j (by simp [hj]))
    omega
theorem tree_count {l : List (Nm × Ent)} (h : GL l) {job : Int} : ∀ (k : Nat) (p : ByteArray), (treeP l job k p).length ≤ 1 + 16 * ((treeP l job k p).filter (inL l job)).length
  | 0, p => by unfold treeP; simp
  | k + 1, p => by
    unfold treeP
    cases hg : getL l (job, p) with
    | none => simp
    | some x =>
      have hin : inL l job p = true := by unfold inL; rw [hg]; rfl
      have h1 := flat_count (f := fun i => treeP l job k (kidS p (i + 1 : Nat))) (p := inL l job) (List.range x.2.1.toNat) (fun i _ => tree_count h k _)
      have h2 := (h.ent hg).2.2.1
      simp only [List.filter_cons, hin, if_true, List.length_cons, List.length_range] at h1 ⊢
      omega
theorem tree_in_len {l : List (Nm × Ent)} (h : GL l) (job : Int) (k : Nat) (p : ByteArray) : ((treeP l job k p).filter (inL l job)).length ≤ l.length := by
  have h1 : (((treeP l job k p).filter (inL l job)).map (fun q => (job, q))).Nodup :=
    List.Pairwise.map (R := (· ≠ ·)) _ (fun a b hab e => hab (by injection e)) ((tree_nodup h k p).filter _)
  have h2 : (((treeP l job k p).filter (inL l job)).map (fun q => (job, q))).length ≤ (l.map (·.1)).length := by
    refine List.Nodup.length_le_of_subset h1 fun n hn => ?_
    obtain ⟨q, hq, rfl⟩ := List.mem_map.1 hn
    have h3 := (List.mem_filter.1 hq).2
    unfold inL at h3
    obtain ⟨x, hx⟩ := Option.isSome_iff_exists.1 h3
    exact List.mem_map.2 ⟨_, getL_memE hx, rfl⟩
  simpa using h2
/-- Not many paths are wanted. -/
theorem want_len {l : List (Nm × Ent)} (h : GL l) (hl : l.length ≤ 4096) (job : Int) (p : ByteArray) : (wantP l job 13 p).length ≤ 1000000 := by
  have h1 := want_le_tree l job 13 p
  have h2 := tree_count h (job := job) 13 p
  have h3 := tree_in_len h job 13 p
  omega
end Go.Proofs.Ytibfcoaiodmimaa
