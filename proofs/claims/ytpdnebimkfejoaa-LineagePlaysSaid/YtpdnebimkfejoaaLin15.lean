/- The tree as a plain list of roots; what each call answers and leaves. -/
import Derived.Test.YtpdnebimkfejoaaLin14
namespace Go.Proofs.Ytpdnebimkfejoaa
open Go.RowKit Go.Sort Go.Lib

abbrev Al := List Rl
def hasA (A : Al) (n : Nm) : Bool := (getL A n).isSome
def addEA (A : Al) (n : Nm) : Int := if mayS n.2 = false then 2 else if (getL A n).isSome then 7 else if n.2.toList ≠ [] ∧ upN (hasA A) n = none then 5 else if 1024 ≤ A.length then 6 else 0
def addA (A : Al) (n : Nm) (c : Rw) : Al := if addEA A n = 0 then A ++ [(n, c)] else A
def updA (A : Al) (n : Nm) (c : Rw) : Al := A.map fun p => if p.1 = n then (p.1, c) else p
def holdEA (A : Al) (n : Nm) (k e : Int) : Int := match getL A n with
  | none => 5
  | some r => if k < 1 ∨ 32 < k ∨ e < 1 ∨ 281474976710656 < e then 2 else if r.st ≠ 1 then 3 else 0
def holdA (A : Al) (n : Nm) (k e : Int) : Al := match getL A n with
  | none => A
  | some r => if holdEA A n k e = 0 then updA A n { r with st := 2, wk := k, ep := e } else A
def overEA (A : Al) (n : Nm) : Int := match getL A n with
  | none => 5
  | some r => if r.st = 3 then 3 else 0
def overA (A : Al) (n : Nm) : Al := match getL A n with
  | none => A
  | some r => if r.st = 3 then A else updA A n { r with st := 3, wk := 0, ep := 0 }
def lostA (A : Al) (ks : List Int) : Al := A.map fun p => if lostB ks p.2 then (p.1, freeR p.2) else p
def dropA (A : Al) (js : List Int) : Al := A.filter fun p => !badJ js p.1
def withinA (A : Al) (n a : Nm) : Bool := decide (upN (hasA A) a = some n)
def pickA (A : Al) (P : Nm → Rw → Bool) : Al := A.filter fun p => P p.1 p.2

theorem rowsT_keys (T : Tb) : (rowsT T).map (·.1) = T.map (·.1) := by unfold rowsT; rw [List.map_map]; rfl
theorem rowsT_len (T : Tb) : (rowsT T).length = T.length := by unfold rowsT; simp
theorem rowsT_get (T : Tb) (n : Nm) : getL (rowsT T) n = (getL T n).map (fun q => core q.2) := by
  unfold getL rowsT
  rw [List.find?_map, Option.map_map, Option.map_map]; rfl
theorem rowsT_has (T : Tb) : hasA (rowsT T) = hasT T := by
  funext n; unfold hasA hasT; rw [rowsT_get]; simp
theorem rowsT_addE (T : Tb) (n : Nm) : addEA (rowsT T) n = addE T n := by
  unfold addEA addE
  rw [rowsT_has, rowsT_len, rowsT_get]; simp
theorem rowsT_upd (T : Tb) (n : Nm) (r : Rw) : rowsT (updT T n r) = updA (rowsT T) n (core r) := by
  unfold rowsT updT updA
  rw [List.map_map, List.map_map]
  apply List.map_congr_left
  intro p _
  simp only [Function.comp]
  by_cases h : p.1 = n
  · simp [h]
  · simp [h]
theorem rowsT_holdE (T : Tb) (n : Nm) (k e : Int) : holdEA (rowsT T) n k e = holdE T n k e := by
  unfold holdEA holdE
  rw [rowsT_get]
  cases getL T n <;> rfl
theorem rowsT_hold (T : Tb) (n : Nm) (k e : Int) : rowsT (holdT T n k e) = holdA (rowsT T) n k e := by
  unfold holdA holdT
  rw [rowsT_holdE, rowsT_get]
  cases hg : getL T n with
  | none => rfl
  | some q =>
    simp only [Option.map_some]
    by_cases h : holdE T n k e = 0
    · rw [if_pos h, if_pos h, rowsT_upd]; rfl
    · rw [if_neg h, if_neg h]
theorem rowsT_overE (T : Tb) (n : Nm) : overEA (rowsT T) n = overE T n := by
  unfold overEA overE
  rw [rowsT_get]
  cases getL T n <;> rfl
theorem rowsT_over (T : Tb) (n : Nm) : rowsT (overT T n) = overA (rowsT T) n := by
  unfold overA overT
  rw [rowsT_get]
  cases hg : getL T n with
  | none => rfl
  | some q =>
    simp only [Option.map_some]
    by_cases h : q.2.st = 3
    · rw [if_pos h, if_pos (show (core q.2).st = 3 from h)]
    · rw [if_neg h, if_neg (show ¬ (core q.2).st = 3 from h), rowsT_upd]; rfl
theorem rowsT_lost (T : Tb) (ks : List Int) : rowsT (lostT T ks) = lostA (rowsT T) ks := by
  unfold rowsT lostT lostA
  rw [List.map_map, List.map_map]
  apply List.map_congr_left
  intro p _
  simp only [Function.comp]
  rw [show lostB ks (core p.2.2) = lostB ks p.2.2 from rfl]
  cases lostB ks p.2.2 <;> rfl
theorem rowsT_drop (T : Tb) (js : List Int) : rowsT (dropT T js) = dropA (rowsT T) js := by
  unfold rowsT dropT dropA
  rw [List.filter_map]; rfl
theorem rowsT_pick (T : Tb) (P : Nm → Rw → Bool) (hP : ∀ n r, P n (core r) = P n r) : rowsT (pick T P) = pickA (rowsT T) P := by
  unfold rowsT pick pickA
  rw [List.filter_map]
  congr 1
  apply List.filter_congr
  intro p _
  exact (hP p.1 p.2.2).symm
theorem rowsT_sort (T : Tb) : rowsT (sortV T) = sortV (rowsT T) := by
  unfold rowsT sortV
  rw [List.map_mergeSort]
  intro a _ b _
  rfl
theorem rowsT_keysS (T : Tb) (P : Nm → Rw → Bool) (hP : ∀ n r, P n (core r) = P n r) : (sortV (pick T P)).map (·.1) = (sortV (pickA (rowsT T) P)).map (·.1) := by
  rw [← rowsT_pick T P hP, ← rowsT_sort, rowsT_keys]

/-- A block of another type than roots. -/
def Box (r : Nat) (c : Array Value) (E : TypeId) (w : World) : Prop := w.heap[r]? = some (.cells c E (0, 0))
/-- Boxes stay. -/
def Kept (w w' : World) : Prop := ∀ r c E, E ≠ 73 → Box r c E w → Box r c E w'
theorem Kept.refl (w : World) : Kept w w := fun _ _ _ _ h => h
theorem Kept.trans {a b c : World} (h : Kept a b) (k : Kept b c) : Kept a c := fun r x E hE hb => k r x E hE (h r x E hE hb)
theorem Kept.below {w w' : World} (h : Below w.heap.size w w') : Kept w w' := fun r _ _ _ hb => (h.block r (Array.getElem?_eq_some_iff.1 hb).1).trans hb
theorem Box.cell {r : Nat} {c : Array Value} {E : TypeId} {w : World} (h : Box r c E w) (o : Nat) : w.cell? ⟨r, o, none⟩ = c[o]? := by unfold Box at h; simp [World.cell?, h]
theorem Box.zero {r : Nat} {c : Array Value} {E : TypeId} {w : World} (h : Box r c E w) (o : Nat) : w.frozen? ⟨r, o, none⟩ = false := by unfold Box at h; simp [World.frozen?, h]
theorem own_kept {w w' : World} {B : Nat} {E : TypeId} {size : Nat} {v : Value} {n : Nat} {xs : List Value} (h : w.ownsRow B E size v n xs) (hE : E ≠ 73) (hk : Kept w w') : w'.ownsRow B E size v n xs := by
  refine ⟨h.1, h.2.imp id ?_⟩
  rintro ⟨g, cap, cur, hv, h1, h2, h3⟩
  exact ⟨g, cap, cur, hv, h1, hk _ _ _ hE h2, h3⟩
theorem args_kept {w w' : World} {B : Nat} {r : Rw} (h : ArgsB B w r) (hk : Kept w w') : ArgsB B w' r := own_kept h (by decide) hk
theorem Tab.kept {w w' : World} {f m : Nat} {T : Tb} {S : Nat → Prop} (h : Tab w f m T) (hF : Fr S w w') (hS : ∀ i, S i → i < w.heap.size → i = m ∨ InRows T i) : Kept w w' := by
  intro r c E hE hb
  have hl := (Array.getElem?_eq_some_iff.1 hb).1
  refine (hF.block r hl ?_).trans hb
  intro hs
  rcases hS r hs hl with rfl | ⟨p, hp, rfl⟩
  · exact h.notMap hb rfl
  · have h1 := (h.row p hp).1
    unfold Box at hb
    rw [hb] at h1
    unfold rowO at h1
    injection h1 with h1
    injection h1 with _ h1 _
    exact hE h1
structure LtT (w0 : World) (f m : Nat) (T : Tb) (w : World) : Prop where
  hf : w0.heap.size ≤ f
  hm : w0.heap.size ≤ m
  hr : ∀ p ∈ T, w0.heap.size ≤ p.2.1
  tab : Tab w f m T
  low : Below w0.heap.size w0 w
  ok : ∀ p ∈ T, mayS p.1.2 = true ∧ p.2.2.args.length ≤ 8192
  sz : T.length ≤ 1024
theorem may_size {p : ByteArray} (h : mayS p = true) : p.size ≤ 9223372036854775807 := by
  unfold mayS mayL at h
  simp only [Bool.and_eq_true, decide_eq_true_eq] at h
  have := h.1
  simp at this
  omega
def Lt (w0 : World) (f m : Nat) (A : Al) (w : World) : Prop := ∃ T, rowsT T = A ∧ LtT w0 f m T w
section
variable {w0 w w' : World} {f m : Nat} {T T' : Tb} {A : Al}
theorem LtT.below (h : LtT w0 f m T w) (hB : Below w.heap.size w w') : LtT w0 f m T w' := ⟨h.hf, h.hm, h.hr, h.tab.below hB, h.low.trans (hB.mono h.low.size), h.ok, h.sz⟩
theorem LtT.fr {S : Nat → Prop} (h : LtT w0 f m T w) (hT : Tab w' f m T') (hF : Fr S w w') (hS : ∀ i, S i → i = m ∨ InRows T i) (hr : ∀ p ∈ T', w0.heap.size ≤ p.2.1) (ok : ∀ p ∈ T', mayS p.1.2 = true ∧ p.2.2.args.length ≤ 8192) (sz : T'.length ≤ 1024) : LtT w0 f m T' w' ∧ Kept w w' :=
  ⟨⟨h.hf, h.hm, hr, hT, h.low.trans (hF.below (fun i hi => by rcases hS i hi with rfl | ⟨p, hp, rfl⟩; exact h.hm; exact h.hr p hp) h.low.size), ok, sz⟩, h.tab.kept hF (fun i hi _ => hS i hi)⟩
theorem Lt.below (h : Lt w0 f m A w) (hB : Below w.heap.size w w') : Lt w0 f m A w' := by
  obtain ⟨T, e, h⟩ := h
  exact ⟨T, e, h.below hB⟩
theorem Lt.low (h : Lt w0 f m A w) : Below w0.heap.size w0 w := by obtain ⟨T, _, h⟩ := h; exact h.low
theorem Lt.len (h : Lt w0 f m A w) : A.length ≤ 1024 := by obtain ⟨T, rfl, h⟩ := h; rw [rowsT_len]; exact h.sz
theorem Lt.ok (h : Lt w0 f m A w) : ∀ p ∈ A, mayS p.1.2 = true ∧ p.2.args.length ≤ 8192 := by
  obtain ⟨T, rfl, h⟩ := h
  intro p hp
  unfold rowsT at hp
  obtain ⟨q, hq, rfl⟩ := List.mem_map.1 hp
  exact h.ok q hq
theorem Lt.nd (h : Lt w0 f m A w) : (A.map (·.1)).Nodup := by obtain ⟨T, rfl, h⟩ := h; rw [rowsT_keys]; exact h.tab.keys
theorem LtT.args (h : LtT w0 f m T w) : ∀ p ∈ T, p.2.2.args.length ≤ 1000000 := fun p hp => Nat.le_trans (h.ok p hp).2 (by decide)
theorem LtT.names (h : LtT w0 f m T w) : ∀ p ∈ T, p.1.2.size ≤ 9223372036854775807 := fun p hp => may_size (h.ok p hp).1
theorem LtT.sz' (h : LtT w0 f m T w) : T.length ≤ 1000000 := Nat.le_trans h.sz (by decide)
theorem updT_mem {n : Nm} {r' : Rw} {p : Nm × Nat × Rw} (h : p ∈ updT T n r') : ∃ q ∈ T, p.1 = q.1 ∧ p.2.1 = q.2.1 ∧ (p.2.2 = r' ∧ q.1 = n ∨ p.2.2 = q.2.2) := by
  unfold updT at h
  obtain ⟨q, hq, rfl⟩ := List.mem_map.1 h
  refine ⟨q, hq, ?_⟩
  by_cases e : q.1 = n
  · rw [if_pos e]; exact ⟨rfl, rfl, .inl ⟨rfl, e⟩⟩
  · rw [if_neg e]; exact ⟨rfl, rfl, .inr rfl⟩
theorem lt_new (w : World) : Calls Try.prog 9 #[] w fun e w' => ∃ f m, e = .returned (.pointer (some ⟨f, 0, none⟩)) ∧ Lt w f m [] w' ∧ Below w.heap.size w w' := by
  refine (new_tab w).mono ?_
  rintro e w' ⟨f, m, rfl, hf, hm, hT, hB⟩
  exact ⟨f, m, rfl, ⟨[], rfl, hf, hm, (by intro p hp; cases hp), hT, hB, (by intro p hp; cases hp), by decide⟩, hB⟩
theorem lt_add (h : Lt w0 f m A w) (job : Int) (p : ByteArray) (fn fuel : Int) (v : Value) (l : List Int) (hv : ReadsK encI 1 w v l) (hl : l.length ≤ 8192) (hp : p.size ≤ 9223372036854775807) :
    Calls Try.prog 10 #[.pointer (some ⟨f, 0, none⟩), .int .u64 job, .agg #[.string p, .int .i64 fn, v, .int .i64 fuel]] w fun e w' => e = .returned (.int .i64 (addEA A (job, p))) ∧ Lt w0 f m (addA A (job, p) ⟨fn, none, 0, l, fuel, 1, 0, 0⟩) w' ∧ Kept w w' := by
  obtain ⟨T, rfl, h⟩ := h
  refine (add_tab f m T job p fn fuel v l w h.tab hv (by omega) h.sz' hp).mono ?_
  unfold addA
  rw [rowsT_addE]
  rintro e w1 ⟨he, ⟨h0, hT, hB⟩ | ⟨h0, b, aa, ac, hb, hT, hF⟩⟩
  · rw [if_neg h0]
    exact ⟨he, ⟨T, rfl, h.below hB⟩, .below hB⟩
  · rw [if_pos h0]
    have hmay : mayS p = true := by
      cases hm : mayS p
      · unfold addE at h0; rw [if_pos (by exact hm)] at h0; cases h0
      · rfl
    have hlen : T.length < 1024 := by
      unfold addE at h0
      split at h0
      · cases h0
      · split at h0
        · cases h0
        · split at h0
          · cases h0
          · split at h0
            · cases h0
            · omega
    obtain ⟨h1, h2⟩ := h.fr hT hF (fun i hi => .inl hi) (fun q hq => by
      rcases List.mem_append.1 hq with hq | hq
      · exact h.hr q hq
      · rw [List.mem_singleton] at hq; subst hq; exact Nat.le_trans h.low.size hb) (fun q hq => by
      rcases List.mem_append.1 hq with hq | hq
      · exact h.ok q hq
      · rw [List.mem_singleton] at hq; subst hq; exact ⟨hmay, hl⟩) (by rw [List.length_append]; exact hlen)
    exact ⟨he, ⟨_, by unfold rowsT; rw [List.map_append]; rfl, h1⟩, h2⟩
theorem lt_hold (h : Lt w0 f m A w) (n : Nm) (k e : Int) :
    Calls Try.prog 20 #[.pointer (some ⟨f, 0, none⟩), .agg #[.int .u64 n.1, .string n.2], .int .i64 k, .int .u64 e] w fun e' w' => e' = .returned (.int .i64 (holdEA A n k e)) ∧ Lt w0 f m (holdA A n k e) w' ∧ Kept w w' := by
  obtain ⟨T, rfl, h⟩ := h
  refine (hold_tab f m T n k e w h.tab).mono ?_
  rintro e' w1 ⟨he, hT, hF⟩
  have hup : ∀ p ∈ holdT T n k e, ∃ q ∈ T, p.1 = q.1 ∧ p.2.1 = q.2.1 ∧ p.2.2.args = q.2.2.args := by
    intro p hp
    unfold holdT at hp
    split at hp
    · exact ⟨p, hp, rfl, rfl, rfl⟩
    · rename_i b r hg
      split at hp
      · obtain ⟨q, hq, h1, h2, ⟨h3, h4⟩ | h3⟩ := updT_mem hp
        · have := eq_of_keyV h.tab.keys hq (getL_mem' hg) h4
          exact ⟨q, hq, h1, h2, by rw [h3, this]⟩
        · exact ⟨q, hq, h1, h2, by rw [h3]⟩
      · exact ⟨p, hp, rfl, rfl, rfl⟩
  have hlen : (holdT T n k e).length = T.length := by
    rw [← rowsT_len, rowsT_hold]
    unfold holdA
    split
    · exact rowsT_len T
    · split <;> simp [updA, rowsT_len]
  obtain ⟨h1, h2⟩ := h.fr hT hF (fun i hi => .inr hi) (fun p hp => by obtain ⟨q, hq, _, e, _⟩ := hup p hp; rw [e]; exact h.hr q hq) (fun p hp => by obtain ⟨q, hq, e1, _, e2⟩ := hup p hp; rw [e1, e2]; exact h.ok q hq) (by rw [hlen]; exact h.sz)
  exact ⟨by rw [rowsT_holdE]; exact he, ⟨_, rowsT_hold T n k e, h1⟩, h2⟩
theorem lt_over (h : Lt w0 f m A w) (n : Nm) :
    Calls Try.prog 21 #[.pointer (some ⟨f, 0, none⟩), .agg #[.int .u64 n.1, .string n.2]] w fun e' w' => e' = .returned (.int .i64 (overEA A n)) ∧ Lt w0 f m (overA A n) w' ∧ Kept w w' := by
  obtain ⟨T, rfl, h⟩ := h
  refine (over_tab f m T n w h.tab).mono ?_
  rintro e' w1 ⟨he, hT, hF⟩
  have hup : ∀ p ∈ overT T n, ∃ q ∈ T, p.1 = q.1 ∧ p.2.1 = q.2.1 ∧ p.2.2.args = q.2.2.args := by
    intro p hp
    unfold overT at hp
    split at hp
    · exact ⟨p, hp, rfl, rfl, rfl⟩
    · rename_i b r hg
      split at hp
      · exact ⟨p, hp, rfl, rfl, rfl⟩
      · obtain ⟨q, hq, h1, h2, ⟨h3, h4⟩ | h3⟩ := updT_mem hp
        · have := eq_of_keyV h.tab.keys hq (getL_mem' hg) h4
          exact ⟨q, hq, h1, h2, by rw [h3, this]⟩
        · exact ⟨q, hq, h1, h2, by rw [h3]⟩
  have hlen : (overT T n).length = T.length := by
    rw [← rowsT_len, rowsT_over]
    unfold overA
    split
    · exact rowsT_len T
    · split <;> simp [updA, rowsT_len]
  obtain ⟨h1, h2⟩ := h.fr hT hF (fun i hi => .inr hi) (fun p hp => by obtain ⟨q, hq, _, e, _⟩ := hup p hp; rw [e]; exact h.hr q hq) (fun p hp => by obtain ⟨q, hq, e1, _, e2⟩ := hup p hp; rw [e1, e2]; exact h.ok q hq) (by rw [hlen]; exact h.sz)
  exact ⟨by rw [rowsT_overE]; exact he, ⟨_, rowsT_over T n, h1⟩, h2⟩
theorem lt_lost (h : Lt w0 f m A w) (v : Value) (ks : List Int) (hv : ReadsK encI 1 w v ks) (hk : ks.length ≤ 1000000) :
    Calls Try.prog 22 #[.pointer (some ⟨f, 0, none⟩), v] w fun e w' => (∃ u, e = .returned u ∧ w'.ownsRow w.heap.size 29 2 u ((sortV (pickA A (fun _ r => lostB ks r))).map (·.1)).length (((sortV (pickA A (fun _ r => lostB ks r))).map (·.1)).flatMap encM)) ∧ Lt w0 f m (lostA A ks) w' ∧ Kept w w' := by
  obtain ⟨T, rfl, h⟩ := h
  refine (lost_tab f m T v ks w h.tab h.sz' hv hk).mono ?_
  rintro e w1 ⟨u, he, ho, hT, hF⟩
  have hup : ∀ p ∈ lostT T ks, ∃ q ∈ T, p.1 = q.1 ∧ p.2.1 = q.2.1 ∧ p.2.2.args = q.2.2.args := by
    intro p hp
    unfold lostT at hp
    obtain ⟨q, hq, rfl⟩ := List.mem_map.1 hp
    refine ⟨q, hq, ?_⟩
    split <;> exact ⟨rfl, rfl, rfl⟩
  have hlen : (lostT T ks).length = T.length := by unfold lostT; simp
  obtain ⟨h1, h2⟩ := h.fr hT hF (fun i hi => .inr hi) (fun p hp => by obtain ⟨q, hq, _, e, _⟩ := hup p hp; rw [e]; exact h.hr q hq) (fun p hp => by obtain ⟨q, hq, e1, _, e2⟩ := hup p hp; rw [e1, e2]; exact h.ok q hq) (by rw [hlen]; exact h.sz)
  refine ⟨⟨u, he, ?_⟩, ⟨_, rowsT_lost T ks, h1⟩, h2⟩
  rw [← rowsT_keysS T _ (fun _ _ => rfl), List.length_map, List.flatMap_map]
  exact ho
theorem lt_drop (h : Lt w0 f m A w) (v : Value) (js : List Int) (hv : ReadsK encU64 1 w v js) (hk : js.length ≤ 1000000) :
    Calls Try.prog 12 #[.pointer (some ⟨f, 0, none⟩), v] w fun e w' => e = .returned (.int .i64 ((A.length : Int) - (dropA A js).length)) ∧ Lt w0 f m (dropA A js) w' ∧ Kept w w' := by
  obtain ⟨T, rfl, h⟩ := h
  refine (drop_tab f m T v js w h.tab h.sz' hv hk).mono ?_
  rintro e w1 ⟨he, hT, hF⟩
  obtain ⟨h1, h2⟩ := h.fr hT hF (fun i hi => .inl hi) (fun p hp => h.hr p (List.mem_filter.1 hp).1) (fun p hp => h.ok p (List.mem_filter.1 hp).1) (Nat.le_trans (List.length_filter_le _ _) h.sz)
  exact ⟨by rw [← rowsT_drop, rowsT_len, rowsT_len]; exact he, ⟨_, rowsT_drop T js, h1⟩, h2⟩
theorem lt_waits (h : Lt w0 f m A w) :
    Calls Try.prog 16 #[.pointer (some ⟨f, 0, none⟩)] w (NamesR ((sortV (pickA A (fun _ r => decide (r.st = 1)))).map (·.1)) w) := by
  obtain ⟨T, rfl, h⟩ := h
  rw [← rowsT_keysS T _ (fun _ _ => rfl)]
  exact waits_tab f m T w h.tab h.sz'
theorem lt_rows (h : Lt w0 f m A w) : Calls Try.prog 13 #[.pointer (some ⟨f, 0, none⟩)] w (RowsR (sortV A) w) := by
  obtain ⟨T, rfl, h⟩ := h
  rw [← rowsT_sort]
  exact rows_tab f m T w h.tab h.sz' h.args
theorem lt_within (h : Lt w0 f m A w) (n : Nm) :
    Calls Try.prog 19 #[.pointer (some ⟨f, 0, none⟩), .agg #[.int .u64 n.1, .string n.2]] w (RowsR (sortV (pickA A (fun a _ => withinA A n a))) w) := by
  obtain ⟨T, rfl, h⟩ := h
  have : withinA (rowsT T) n = withinB T n := by funext a; unfold withinA withinB; rw [rowsT_has]
  rw [this, ← rowsT_pick T _ (fun _ _ => rfl), ← rowsT_sort]
  exact within_tab f m T n w h.tab h.sz' h.args h.names
/-- A root that is told, or none. -/
def ToldR (o : Option Rl) (w : World) (e : Ending) (w' : World) : Prop :=
  ((o = none ∧ e = .returned (.tuple #[zR, .bool false])) ∨ ∃ q : Rl, o = some (coreP q) ∧ e = .returned (.tuple #[.agg (encT q).toArray, .bool true]) ∧ ArgsB w.heap.size w' q.2) ∧ Below w.heap.size w w'
def aboveA (A : Al) (n : Nm) : Option Rl := (upN (hasA A) n).bind fun u => (getL A u).map fun r => (u, r)
def ofA (A : Al) (n : Nm) : Option Rl := (getL A n).map fun r => (n, r)
theorem lt_above (h : Lt w0 f m A w) (n : Nm) (hn : n.2.size ≤ 9223372036854775807) :
    Calls Try.prog 17 #[.pointer (some ⟨f, 0, none⟩), .agg #[.int .u64 n.1, .string n.2]] w (ToldR (aboveA A n) w) := by
  obtain ⟨T, rfl, h⟩ := h
  refine (aboveA_tab f m T n w h.tab h.args hn).mono ?_
  rintro e w' ⟨⟨h1, he⟩ | ⟨u, b, r, aa, ac, h1, h2, he, ho⟩, hB⟩
  · exact ⟨.inl ⟨by unfold aboveA; rw [rowsT_has, h1]; rfl, he⟩, hB⟩
  · exact ⟨.inr ⟨(u, { r with aa := aa, ac := ac }), by unfold aboveA; rw [rowsT_has, h1]; simp only [Option.bind_some]; rw [rowsT_get, h2]; rfl, he, ho⟩, hB⟩
theorem lt_of (h : Lt w0 f m A w) (n : Nm) :
    Calls Try.prog 29 #[.pointer (some ⟨f, 0, none⟩), .agg #[.int .u64 n.1, .string n.2]] w (ToldR (ofA A n) w) := by
  obtain ⟨T, rfl, h⟩ := h
  refine (ofA_tab f m T n w h.tab h.args).mono ?_
  rintro e w' ⟨⟨h1, he⟩ | ⟨u, b, r, aa, ac, rfl, h2, he, ho⟩, hB⟩
  · exact ⟨.inl ⟨by unfold ofA; rw [rowsT_get, h1]; rfl, he⟩, hB⟩
  · exact ⟨.inr ⟨(u, { r with aa := aa, ac := ac }), by unfold ofA; rw [rowsT_get, h2]; rfl, he, ho⟩, hB⟩
end
end Go.Proofs.Ytpdnebimkfejoaa
