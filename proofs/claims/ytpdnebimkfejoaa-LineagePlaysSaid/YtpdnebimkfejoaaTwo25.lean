/- Two trees side by side. -/
import Derived.Test.YtpdnebimkfejoaaLin17
import Derived.Test.YtpdnebimkfejoaaLinLaw
namespace Go.Proofs.Ytpdnebimkfejoaa
open Go.RowKit Go.Sort Go.Lib

section
variable {w0 w w' : World} {f m f2 m2 : Nat} {T T' U : Tb} {A B : Al}
theorem LtT.base {w1 : World} (h : LtT w1 f m T w) (hB : Below w0.heap.size w0 w1) : LtT w0 f m T w :=
  ⟨Nat.le_trans hB.size h.hf, Nat.le_trans hB.size h.hm, fun p hp => Nat.le_trans hB.size (h.hr p hp), h.tab, hB.trans (h.low.mono hB.size), h.ok, h.sz⟩
theorem Tab.mapAt (h : Tab w f m T) : ∃ es c, w.heap[m]? = some (.map es c) := by
  obtain ⟨es, c, hb, _⟩ := h.map
  exact ⟨es, c, hb⟩
theorem Tab.rowAt (h : Tab w f m T) {i : Nat} (hi : InRows T i) : ∃ c, w.heap[i]? = some (.cells c 73 (0, 0)) := by
  obtain ⟨p, hp, rfl⟩ := hi
  exact ⟨_, (h.row p hp).1⟩
theorem Tab.other (hU : Tab w f2 m2 U) (hT : Tab w f m T) (hF : Fr (fun i => i = m ∨ InRows T i) w w') (mm : m ≠ m2) (dj : ∀ i, InRows T i → ¬ InRows U i) : Tab w' f2 m2 U := by
  have far : ∀ (i : Nat) (c : Array Value) (E : TypeId) (fr : Nat × Nat), w.heap[i]? = some (.cells c E fr) → ¬ InRows T i → w'.heap[i]? = w.heap[i]? := fun i c E fr hi hn =>
    hF.block i (Array.getElem?_eq_some_iff.1 hi).1 (by
      rintro (e | e)
      · exact hT.notMap hi e
      · exact hn e)
  have ty : ∀ (i : Nat) (c : Array Value) (E : TypeId) (fr : Nat × Nat), w.heap[i]? = some (.cells c E fr) → E ≠ 73 → ¬ InRows T i := fun i c E fr hi hE hn => by
    obtain ⟨c', h'⟩ := hT.rowAt hn
    rw [hi] at h'
    injection h' with h'
    injection h' with _ h' _
    exact hE h'
  refine ⟨(far _ _ _ _ hU.box (ty _ _ _ _ hU.box (by decide))).trans hU.box, hU.map.block (hF.block m2 hU.lt.2.1 ?_), fun p hp => ?_, hU.nd⟩
  · rintro (e | e)
    · exact mm e.symm
    · obtain ⟨c', h'⟩ := hT.rowAt e
      obtain ⟨es, c, h2⟩ := hU.mapAt
      rw [h2] at h'; cases h'
  · have hr := hU.row p hp
    exact ⟨(far _ _ _ _ hr.1 (fun e => dj _ e ⟨p, hp, rfl⟩)).trans hr.1, Args.far hr.2 (fun i cur hi => far i _ _ _ hi (ty _ _ _ _ hi (by decide)))⟩
structure Two (w0 : World) (f m f2 m2 : Nat) (T U : Tb) (w : World) : Prop where
  t : LtT w0 f m T w
  x : LtT w0 f2 m2 U w
  mm : m ≠ m2
  dj : ∀ i, InRows T i → ¬ InRows U i
theorem Two.symm (h : Two w0 f m f2 m2 T U w) : Two w0 f2 m2 f m U T w := ⟨h.x, h.t, fun e => h.mm e.symm, fun i h1 h2 => h.dj i h2 h1⟩
theorem Two.below (h : Two w0 f m f2 m2 T U w) (hB : Below w.heap.size w w') : Two w0 f m f2 m2 T U w' := ⟨h.t.below hB, h.x.below hB, h.mm, h.dj⟩
theorem Two.step (h : Two w0 f m f2 m2 T U w) (hT' : LtT w0 f m T' w') (hF : Fr (fun i => i = m ∨ InRows T i) w w') (hr : ∀ i, InRows T' i → InRows T i ∨ w.heap.size ≤ i) : Two w0 f m f2 m2 T' U w' := by
  have hX := h.x.tab.other h.t.tab hF h.mm h.dj
  refine ⟨hT', ⟨h.x.hf, h.x.hm, h.x.hr, hX, hT'.low, h.x.ok, h.x.sz⟩, h.mm, fun i h1 h2 => ?_⟩
  rcases hr i h1 with h3 | h3
  · exact h.dj i h3 h2
  · obtain ⟨c, hc⟩ := h.x.tab.rowAt h2
    have := (Array.getElem?_eq_some_iff.1 hc).1
    omega
theorem two_add (h : Two w0 f m f2 m2 T U w) (job : Int) (p : ByteArray) (fn fuel : Int) (v : Value) (l : List Int) (hv : ReadsK encI 1 w v l) (hl : l.length ≤ 8192) (hp : p.size ≤ 9223372036854775807) :
    Calls Try.prog 10 #[.pointer (some ⟨f, 0, none⟩), .int .u64 job, .agg #[.string p, .int .i64 fn, v, .int .i64 fuel]] w fun e w' => e = .returned (.int .i64 (addEA (rowsT T) (job, p))) ∧ (∃ T', rowsT T' = addA (rowsT T) (job, p) ⟨fn, none, 0, l, fuel, 1, 0, 0⟩ ∧ Two w0 f m f2 m2 T' U w') ∧ Kept w w' := by
  refine (add_tab f m T job p fn fuel v l w h.t.tab hv (by omega) h.t.sz' hp).mono ?_
  unfold addA
  rw [rowsT_addE]
  rintro e w1 ⟨he, ⟨h0, hT, hB⟩ | ⟨h0, b, aa, ac, hb, hT, hF⟩⟩
  · rw [if_neg h0]
    exact ⟨he, ⟨T, rfl, h.below hB⟩, .below hB⟩
  · rw [if_pos h0]
    have hmay : mayS p = true := by
      cases hm : mayS p
      · unfold addE at h0; rw [if_pos (by exact hm)] at h0; cases h0
      · rfl
    have hlen : T.length < 1024 := by
      unfold addE at h0
      split at h0
      · cases h0
      · split at h0
        · cases h0
        · split at h0
          · cases h0
          · split at h0
            · cases h0
            · omega
    obtain ⟨h1, h2⟩ := h.t.fr hT hF (fun i hi => .inl hi) (fun q hq => by
      rcases List.mem_append.1 hq with hq | hq
      · exact h.t.hr q hq
      · rw [List.mem_singleton] at hq; subst hq; exact Nat.le_trans h.t.low.size hb) (fun q hq => by
      rcases List.mem_append.1 hq with hq | hq
      · exact h.t.ok q hq
      · rw [List.mem_singleton] at hq; subst hq; exact ⟨hmay, hl⟩) (by rw [List.length_append]; exact hlen)
    refine ⟨he, ⟨_, by unfold rowsT; rw [List.map_append]; rfl, h.step h1 (hF.mono fun i hi => .inl hi) (fun i hi => ?_)⟩, h2⟩
    obtain ⟨q, hq, rfl⟩ := hi
    rcases List.mem_append.1 hq with hq | hq
    · exact .inl ⟨q, hq, rfl⟩
    · rw [List.mem_singleton] at hq; subst hq; exact .inr hb
theorem two_drop (h : Two w0 f m f2 m2 T U w) (v : Value) (js : List Int) (hv : ReadsK encU64 1 w v js) (hk : js.length ≤ 1000000) :
    Calls Try.prog 12 #[.pointer (some ⟨f, 0, none⟩), v] w fun e w' => (∃ i : Int, e = .returned (.int .i64 i)) ∧ (∃ T', rowsT T' = dropA (rowsT T) js ∧ Two w0 f m f2 m2 T' U w') ∧ Kept w w' := by
  refine (drop_tab f m T v js w h.t.tab h.t.sz' hv hk).mono ?_
  rintro e w1 ⟨he, hT, hF⟩
  obtain ⟨h1, h2⟩ := h.t.fr hT hF (fun i hi => .inl hi) (fun p hp => h.t.hr p (List.mem_filter.1 hp).1) (fun p hp => h.t.ok p (List.mem_filter.1 hp).1) (Nat.le_trans (List.length_filter_le _ _) h.t.sz)
  refine ⟨⟨_, he⟩, ⟨_, rowsT_drop T js, h.step h1 (hF.mono fun i hi => .inl hi) (fun i hi => ?_)⟩, h2⟩
  obtain ⟨q, hq, rfl⟩ := hi
  exact .inl ⟨q, (List.mem_filter.1 hq).1, rfl⟩
def TwoA (w0 : World) (f m f2 m2 : Nat) (A B : Al) (w : World) : Prop := ∃ T U, rowsT T = A ∧ rowsT U = B ∧ Two w0 f m f2 m2 T U w
theorem TwoA.fst (h : TwoA w0 f m f2 m2 A B w) : Lt w0 f m A w := by obtain ⟨T, U, e, _, h⟩ := h; exact ⟨T, e, h.t⟩
theorem TwoA.snd (h : TwoA w0 f m f2 m2 A B w) : Lt w0 f2 m2 B w := by obtain ⟨T, U, _, e, h⟩ := h; exact ⟨U, e, h.x⟩
theorem TwoA.below (h : TwoA w0 f m f2 m2 A B w) (hB : Below w.heap.size w w') : TwoA w0 f m f2 m2 A B w' := by obtain ⟨T, U, e, e2, h⟩ := h; exact ⟨T, U, e, e2, h.below hB⟩
theorem TwoA.symm (h : TwoA w0 f m f2 m2 A B w) : TwoA w0 f2 m2 f m B A w := by obtain ⟨T, U, e, e2, h⟩ := h; exact ⟨U, T, e2, e, h.symm⟩
theorem TwoA.cores (h : TwoA w0 f m f2 m2 A B w) : ∀ p ∈ A, core p.2 = p.2 := by
  obtain ⟨T, U, rfl, _, _⟩ := h
  intro p hp
  unfold rowsT at hp
  obtain ⟨q, _, rfl⟩ := List.mem_map.1 hp
  rfl
theorem ta_add (h : TwoA w0 f m f2 m2 A B w) (job : Int) (p : ByteArray) (fn fuel : Int) (v : Value) (l : List Int) (hv : ReadsK encI 1 w v l) (hl : l.length ≤ 8192) (hp : p.size ≤ 9223372036854775807) :
    Calls Try.prog 10 #[.pointer (some ⟨f, 0, none⟩), .int .u64 job, .agg #[.string p, .int .i64 fn, v, .int .i64 fuel]] w fun e w' => e = .returned (.int .i64 (addEA A (job, p))) ∧ TwoA w0 f m f2 m2 (addA A (job, p) ⟨fn, none, 0, l, fuel, 1, 0, 0⟩) B w' ∧ Kept w w' := by
  obtain ⟨T, U, rfl, rfl, h⟩ := h
  refine (two_add h job p fn fuel v l hv hl hp).mono ?_
  rintro e w1 ⟨he, ⟨T', e1, h1⟩, hk⟩
  exact ⟨he, ⟨T', U, e1, rfl, h1⟩, hk⟩
theorem ta_add2 (h : TwoA w0 f m f2 m2 A B w) (job : Int) (p : ByteArray) (fn fuel : Int) (v : Value) (l : List Int) (hv : ReadsK encI 1 w v l) (hl : l.length ≤ 8192) (hp : p.size ≤ 9223372036854775807) :
    Calls Try.prog 10 #[.pointer (some ⟨f2, 0, none⟩), .int .u64 job, .agg #[.string p, .int .i64 fn, v, .int .i64 fuel]] w fun e w' => e = .returned (.int .i64 (addEA B (job, p))) ∧ TwoA w0 f m f2 m2 A (addA B (job, p) ⟨fn, none, 0, l, fuel, 1, 0, 0⟩) w' ∧ Kept w w' :=
  (ta_add h.symm job p fn fuel v l hv hl hp).mono fun _ _ ⟨he, h1, hk⟩ => ⟨he, h1.symm, hk⟩
theorem ta_drop (h : TwoA w0 f m f2 m2 A B w) (v : Value) (js : List Int) (hv : ReadsK encU64 1 w v js) (hk : js.length ≤ 1000000) :
    Calls Try.prog 12 #[.pointer (some ⟨f, 0, none⟩), v] w fun e w' => (∃ i : Int, e = .returned (.int .i64 i)) ∧ TwoA w0 f m f2 m2 (dropA A js) B w' ∧ Kept w w' := by
  obtain ⟨T, U, rfl, rfl, h⟩ := h
  refine (two_drop h v js hv hk).mono ?_
  rintro e w1 ⟨he, ⟨T', e1, h1⟩, hk⟩
  exact ⟨he, ⟨T', U, e1, rfl, h1⟩, hk⟩
theorem ta_new {w1 w2 : World} (h1 : Lt w f m [] w1) (hB : Below w.heap.size w w1) (h2 : Lt w1 f2 m2 [] w2) (hB2 : Below w1.heap.size w1 w2) : TwoA w f m f2 m2 [] [] w2 := by
  obtain ⟨T, e1, h1⟩ := h1
  obtain ⟨U, e2, h2⟩ := h2
  have t0 : T = [] := by unfold rowsT at e1; simpa using e1
  have u0 : U = [] := by unfold rowsT at e2; simpa using e2
  subst t0; subst u0
  refine ⟨[], [], rfl, rfl, h1.below hB2, h2.base hB, ?_, fun i hi => ?_⟩
  · have := h1.tab.lt.2.1
    have := h2.hm
    omega
  · obtain ⟨p, hp, _⟩ := hi; cases hp
end
theorem cell_keepL {w w' : World} {a : Addr} {v : Value} (hB : Below w.heap.size w w') (h : w.cell? a = some v) : w'.cell? a = some v := cell_keep hB h
theorem wlen {S L : List Rl} {n : Nat} (h : L.length ≤ n) (e : S.map coreP = L) : S.length ≤ n := by
  have := congrArg List.length e
  simp at this; omega
theorem wargs {S L : List Rl} {n : Nat} (h : ∀ p ∈ L, p.2.args.length ≤ n) (e : S.map coreP = L) : ∀ p ∈ S, p.2.args.length ≤ n := fun p hp => by
  have := h (coreP p) (by rw [← e]; exact List.mem_map.2 ⟨p, hp, rfl⟩)
  exact this
def zeroRl : Rl := ((0, ⟨#[]⟩), ⟨0, none, 0, [], 0, 0, 0, 0⟩)
/-- What is told, and whether, in one form. -/
theorem told_uni {o : Option Rl} {w w' : World} {e : Ending} (h : ToldR o w e w') : ∃ q : Rl, e = .returned (.tuple #[.agg (encT q).toArray, .bool o.isSome]) ∧ coreP q = o.getD zeroRl ∧ ArgsR w' q.2 ∧ Below w.heap.size w w' := by
  obtain ⟨⟨rfl, he⟩ | ⟨q, rfl, he, ha⟩, hB⟩ := h
  · exact ⟨zeroRl, he, rfl, .inl ⟨rfl, none, 0, rfl⟩, hB⟩
  · exact ⟨q, he, rfl, argsB_reads ha, hB⟩
theorem aboveA_args {A : Al} {n : Nm} (h : ∀ p ∈ A, p.2.args.length ≤ 8192) {q : Rl} (hq : coreP q = (aboveA A n).getD zeroRl) : q.2.args.length ≤ 8192 := by
  have e : q.2.args = ((aboveA A n).getD zeroRl).2.args := by rw [← hq]; rfl
  rw [e]
  unfold aboveA
  cases hu : upN (hasA A) n with
  | none => exact Nat.zero_le _
  | some u =>
    simp only [Option.bind_some]
    cases hg : getL A u with
    | none => exact Nat.zero_le _
    | some r => exact h (u, r) (getL_mem' hg)
theorem pick_permV {A B : Al} {P : Nm → Rw → Bool} (hn : (A.map (·.1)).Nodup) (hp : B.Perm A) : sortV (pickA B P) = sortV (pickA A P) := by
  have h1 : (pickA B P).Perm (pickA A P) := hp.filter _
  have h2 : ((pickA A P).map (·.1)).Nodup := hn.sublist (List.filter_sublist.map _)
  exact (sortV_unique h2 ((sortV_perm _).trans h1) (sortV_sorted _)).symm
theorem has_perm {A B : Al} (hn : (A.map (·.1)).Nodup) (hp : B.Perm A) : hasA B = hasA A := by
  funext n
  unfold hasA
  rw [getL_permV hn hp n]
theorem above_perm {A B : Al} (hn : (A.map (·.1)).Nodup) (hp : B.Perm A) (n : Nm) : aboveA B n = aboveA A n := by
  unfold aboveA
  rw [has_perm hn hp]
  cases upN (hasA A) n with
  | none => rfl
  | some u => simp only [Option.bind_some]; rw [getL_permV hn hp u]
theorem within_perm {A B : Al} (hn : (A.map (·.1)).Nodup) (hp : B.Perm A) : withinA B = withinA A := by
  funext n a
  unfold withinA
  rw [has_perm hn hp]
theorem sort_sort {A : Al} (hn : (A.map (·.1)).Nodup) : sortV (sortV A) = sortV A := sortV_id (((sortV_perm A).map (·.1)).nodup_iff.2 hn) (sortV_sorted A)
end Go.Proofs.Ytpdnebimkfejoaa
