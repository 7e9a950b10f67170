/- RoundPlays: ranging over what is out. -/
import Derived.Test.YtenebamecmblaaaRndP2
namespace Go.Proofs.Ytenebamecmblaaa
open Go.RowKit Go.Sort Go.Lib

abbrev OnlyB (b : Nat) (w w2 : World) : Prop := w2.os = w.os ∧ w2.tape = w.tape ∧ w2.output = w.output ∧ w2.heap.size = w.heap.size ∧ (∀ i, i ≠ b → w2.heap[i]? = w.heap[i]?)
theorem below_onlyB {B b : Nat} {w w2 : World} (h : OnlyB b w w2) (hb : B ≤ b) : Below B w w2 := ⟨h.1, h.2.1, h.2.2.1, by rw [h.2.2.2.1]; exact Nat.le_refl _, fun k hk => h.2.2.2.2 k (by omega)⟩
section
variable {V : Type} {ev : V → Value} {w : World} {r m : Nat} {l : List (Nm × V)} {done : List Nm}
theorem IterL.no_cells (h : IterL ev w r m l done) {c : Array Value} {t : TypeId} {f : Nat × Nat} : w.heap[r]? ≠ some (Obj.cells c t f) := by
  obtain ⟨es, c', s, sn, la, _, _, _, _, _, _, _, h2, _⟩ := h
  rw [h2]; intro e; cases e
theorem IterL.no_map (h : IterL ev w r m l done) {es : Array MapEntry} {c : Nat} : w.heap[r]? ≠ some (Obj.map es c) := by
  obtain ⟨es, c', s, sn, la, _, _, _, _, _, _, _, h2, _⟩ := h
  rw [h2]; intro e; cases e
theorem MapL.is_map (h : MapL ev w m l) : ∃ es c, w.heap[m]? = some (Obj.map es c) := by obtain ⟨es, c, hb, _⟩ := h; exact ⟨es, c, hb⟩
end
theorem U.MapL.is_map {V : Type} {ev : V → Value} {w : World} {m : Nat} {l : List (Int × V)} (h : U.MapL ev w m l) : ∃ es c, w.heap[m]? = some (Obj.map es c) := by obtain ⟨es, c, hb, _⟩ := h; exact ⟨es, c, hb⟩
theorem Wr.sub {Q Q' : Nat → Prop} {r m : Nat} {w : World} {A : AB} (h : Wr Q r m w A) (hQ : ∀ i, Q' i → Q i) : Wr Q' r m w A := by
  obtain ⟨L, h1, h2, h3, h4⟩ := h
  exact ⟨L, h1, h2, h3, fun i hi hq => h4 i hi (hQ i hq)⟩
/-- While the map is gone through: the rounds, the maps, the iterator, the list that is made. -/
structure Dw (w0 : World) (r m hm om lm it : Nat) (A : AB) (H : List (Int × Cr)) (O L : List (Nm × Cr)) (done : List Nm) (x : Sp) (s : Nat) (w : World) : Prop where
  wr : Wr (fun i => Qp w0 hm om i ∨ i = lm) r m w A
  ph : Ph w0 hm om H O w
  itr : IterL evC w it om O done
  lmap : MapL evC w lm L
  lc : ∀ p ∈ L, CrOk w p.2
  so : w.heap[s]? = some (stepO x)
  lo : w0.heap.size ≤ lm
  ito : w0.heap.size ≤ it
  n1 : hm ≠ lm
  n2 : om ≠ lm
section
variable {w0 w w2 : World} {r m hm om lm it s : Nat} {A : AB} {H : List (Int × Cr)} {O L : List (Nm × Cr)} {done : List Nm} {x : Sp}
theorem Dw.below (h : Dw w0 r m hm om lm it A H O L done x s w) (hB : Below w.heap.size w w2) : Dw w0 r m hm om lm it A H O L done x s w2 :=
  ⟨h.wr.below hB, h.ph.below hB, h.itr.block (hB.block _ h.itr.lt.2.1) (hB.block _ h.itr.lt.1), h.lmap.block (hB.block _ h.lmap.lt), fun p hp => (h.lc p hp).below hB, (hB.block _ (Array.getElem?_eq_some_iff.1 h.so).1).trans h.so, h.lo, h.ito, h.n1, h.n2⟩
theorem Dw.next (h : Dw w0 r m hm om lm it A H O L done x s w) {done' : List Nm} (hI : IterL evC w2 it om O done') (hO : OnlyB it w w2) : Dw w0 r m hm om lm it A H O L done' x s w2 := by
  have hmap : ∀ b, (∃ es c, w.heap[b]? = some (Obj.map es c)) → w2.heap[b]? = w.heap[b]? := fun b ⟨es, c, e⟩ => hO.2.2.2.2 b (fun e2 => h.itr.no_map (e2 ▸ e))
  have hcell : ∀ b, (∃ c t f, w.heap[b]? = some (Obj.cells c t f)) → w2.heap[b]? = w.heap[b]? := fun b ⟨c, t, f, e⟩ => hO.2.2.2.2 b (fun e2 => h.itr.no_cells (e2 ▸ e))
  have hint : ∀ i, IntB w i → w2.heap[i]? = w.heap[i]? := fun i ⟨cur, e⟩ => hcell i ⟨_, _, _, e⟩
  exact ⟨h.wr.far it (fun i hi _ => hO.2.2.2.2 i hi) (fun _ _ _ => h.itr.no_cells) (.inr fun _ _ => h.itr.no_map), h.ph.keep (below_onlyB hO h.ito) (hmap _ h.ph.hmap.is_map) (hmap _ h.ph.omap.is_map) hint, hI, h.lmap.block (hmap _ h.lmap.is_map), fun p hp => (h.lc p hp).keep hint, (hcell s ⟨_, _, _, h.so⟩).trans h.so, h.lo, h.ito, h.n1, h.n2⟩
theorem Dw.put (h : Dw w0 r m hm om lm it A H O L done x s w) {n : Nm} {c : Cr} (hM : MapL evC w2 lm (putL L n c)) (hO : OnlyAt w w2 lm) (hc : CrOk w c) : Dw w0 r m hm om lm it A H O (putL L n c) done x s w2 := by
  have hint : ∀ i, IntB w i → w2.heap[i]? = w.heap[i]? := fun i hi => hO.2.2.2.2.1 i (h.lmap.no_int hi)
  refine ⟨h.wr.far lm (fun i hi _ => hO.2.2.2.2.1 i hi) (fun _ _ _ => h.lmap.no_cells) (.inl (.inr rfl)), h.ph.keep (below_only hO h.lo) (hO.2.2.2.2.1 _ h.n1) (hO.2.2.2.2.1 _ h.n2) hint, h.itr.block (hO.2.2.2.2.1 _ h.n2) (hO.2.2.2.2.1 _ (fun e => ?_)), hM, fun p hp => ?_, (hO.2.2.2.2.1 s (fun e => h.lmap.no_cells (e ▸ h.so))).trans h.so, h.lo, h.ito, h.n1, h.n2⟩
  · obtain ⟨es, c, hb⟩ := h.lmap.is_map
    exact h.itr.no_map (e ▸ hb)
  · rcases mem_putN hp with hp | rfl
    · exact (h.lc p hp).keep hint
    · exact hc.keep hint
end
/-- What was gone through. -/
structure Dn (O : List (Nm × Cr)) (done : List Nm) : Prop where
  nd : done.Nodup
  sub : ∀ n ∈ done, n ∈ O.map (·.1)
theorem Dn.len {O : List (Nm × Cr)} {done : List Nm} (h : Dn O done) : done.length ≤ O.length := by
  have := List.Nodup.length_le_of_subset h.nd (l₂ := O.map (·.1)) (fun n hn => h.sub n hn)
  simpa using this
theorem Dn.next {O : List (Nm × Cr)} {done : List Nm} (h : Dn O done) {p : Nm × Cr} (hp : p ∈ O) (hn : p.1 ∉ done) : Dn O (done ++ [p.1]) := by
  refine ⟨?_, fun n hn' => ?_⟩
  · rw [List.nodup_append]
    exact ⟨h.nd, by simp, fun a ha b hb e => by simp at hb; subst hb; subst e; exact hn ha⟩
  · rcases List.mem_append.1 hn' with h1 | h1
    · exact h.sub n h1
    · rw [List.mem_singleton] at h1; rw [h1]; exact List.mem_map.2 ⟨p, hp, rfl⟩
def Dg (O L : List (Nm × Cr)) (done : List Nm) (job : Int) : Prop := ∀ n : Nm, (n ∈ done → n.1 ≠ job → getL L n = getL O n) ∧ (n ∉ done ∨ n.1 = job → getL L n = none)
theorem Dg.start (O : List (Nm × Cr)) (job : Int) : Dg O [] [] job := fun n => ⟨(fun h => by cases h), fun _ => rfl⟩
theorem Dg.skip {O L : List (Nm × Cr)} {done : List Nm} {job : Int} (h : Dg O L done job) {n : Nm} (hn : n.1 = job) : Dg O L (done ++ [n]) job := fun k => by
  refine ⟨fun hk hj => (h k).1 ?_ hj, fun hk => (h k).2 ?_⟩
  · rcases List.mem_append.1 hk with hk | hk
    · exact hk
    · rw [List.mem_singleton] at hk; subst hk; exact absurd hn hj
  · rcases hk with hk | hk
    · exact .inl fun e => hk (List.mem_append.2 (.inl e))
    · exact .inr hk
theorem Dg.put {O L : List (Nm × Cr)} {done : List Nm} {job : Int} (h : Dg O L done job) {p : Nm × Cr} (hO : (O.map (·.1)).Nodup) (hp : p ∈ O) (hn : p.1.1 ≠ job) : Dg O (putL L p.1 p.2) (done ++ [p.1]) job := fun k => by
  rw [getL_putV]
  by_cases e : k = p.1
  · subst e
    rw [if_pos rfl]
    exact ⟨fun _ _ => ((getL_memV hO p.1 p.2).2 hp).symm, fun hk => by
      rcases hk with hk | hk
      · exact absurd (List.mem_append.2 (.inr (List.mem_singleton.2 rfl))) hk
      · exact absurd hk hn⟩
  · rw [if_neg e]
    refine ⟨fun hk hj => (h k).1 ?_ hj, fun hk => (h k).2 ?_⟩
    · rcases List.mem_append.1 hk with hk | hk
      · exact hk
      · rw [List.mem_singleton] at hk; exact absurd hk e
    · rcases hk with hk | hk
      · exact .inl fun e => hk (List.mem_append.2 (.inl e))
      · exact .inr hk
theorem Dg.done {O L : List (Nm × Cr)} {done : List Nm} {job : Int} (h : Dg O L done job) (hall : ∀ p ∈ O, p.1 ∈ done) (m : Nm) : getL L m = if m.1 = job then none else getL O m := by
  by_cases e : m.1 = job
  · rw [if_pos e]; exact (h m).2 (.inr e)
  · rw [if_neg e]
    cases hg : getL O m with
    | none =>
      by_cases hd : m ∈ done
      · rw [(h m).1 hd e, hg]
      · exact (h m).2 (.inl hd)
    | some c => rw [(h m).1 (hall _ (getL_mem' hg)) e, hg]
/-- How many of them are a job's. -/
def cntJ (done : List Nm) (job : Int) : Nat := (done.filter fun m => decide (m.1 = job)).length
theorem cntJ_le (done : List Nm) (job : Int) : cntJ done job ≤ done.length := List.length_filter_le _ _
theorem cntJ_add (done : List Nm) (n : Nm) (job : Int) : cntJ (done ++ [n]) job = cntJ done job + (if n.1 = job then 1 else 0) := by
  unfold cntJ
  rw [List.filter_append, List.length_append]
  by_cases e : n.1 = job <;> simp [e]
theorem cntJ_all {O : List (Nm × Cr)} {done : List Nm} (h : Dn O done) (hO : (O.map (·.1)).Nodup) (hall : ∀ p ∈ O, p.1 ∈ done) (job : Int) : cntJ done job = ((O.map (·.1)).filter fun m => decide (m.1 = job)).length := by
  have hp : done.Perm (O.map (·.1)) := (List.perm_ext_iff_of_nodup h.nd hO).2 fun a => ⟨h.sub a, fun ha => by
    obtain ⟨p, hp, rfl⟩ := List.mem_map.1 ha
    exact hall p hp⟩
  exact (hp.filter _).length_eq
theorem cntJ_bound {O : List (Nm × Cr)} {done : List Nm} (h : Dn O done) (job : Int) : cntJ done job ≤ ((O.map (·.1)).filter fun m => decide (m.1 = job)).length :=
  List.Nodup.length_le_of_subset (h.nd.filter _) fun a ha => by
    rw [List.mem_filter] at ha ⊢
    exact ⟨h.sub a ha.1, ha.2⟩
/-- While it is counted. -/
structure Cw (w0 : World) (r m hm om it : Nat) (A : AB) (H : List (Int × Cr)) (O : List (Nm × Cr)) (done : List Nm) (x : Sp) (s : Nat) (w : World) : Prop where
  wr : Wr (Qp w0 hm om) r m w A
  ph : Ph w0 hm om H O w
  itr : IterL evC w it om O done
  so : w.heap[s]? = some (stepO x)
  ito : w0.heap.size ≤ it
section
variable {w0 w w2 : World} {r m hm om it s : Nat} {A : AB} {H : List (Int × Cr)} {O : List (Nm × Cr)} {done : List Nm} {x : Sp}
theorem Cw.below (h : Cw w0 r m hm om it A H O done x s w) (hB : Below w.heap.size w w2) : Cw w0 r m hm om it A H O done x s w2 :=
  ⟨h.wr.below hB, h.ph.below hB, h.itr.block (hB.block _ h.itr.lt.2.1) (hB.block _ h.itr.lt.1), (hB.block _ (Array.getElem?_eq_some_iff.1 h.so).1).trans h.so, h.ito⟩
theorem Cw.next (h : Cw w0 r m hm om it A H O done x s w) {done' : List Nm} (hI : IterL evC w2 it om O done') (hO : OnlyB it w w2) : Cw w0 r m hm om it A H O done' x s w2 := by
  have hmap : ∀ b, (∃ es c, w.heap[b]? = some (Obj.map es c)) → w2.heap[b]? = w.heap[b]? := fun b ⟨es, c, e⟩ => hO.2.2.2.2 b (fun e2 => h.itr.no_map (e2 ▸ e))
  have hcell : ∀ b, (∃ c t f, w.heap[b]? = some (Obj.cells c t f)) → w2.heap[b]? = w.heap[b]? := fun b ⟨c, t, f, e⟩ => hO.2.2.2.2 b (fun e2 => h.itr.no_cells (e2 ▸ e))
  have hint : ∀ i, IntB w i → w2.heap[i]? = w.heap[i]? := fun i ⟨cur, e⟩ => hcell i ⟨_, _, _, e⟩
  exact ⟨h.wr.far it (fun i hi _ => hO.2.2.2.2 i hi) (fun _ _ _ => h.itr.no_cells) (.inr fun _ _ => h.itr.no_map), h.ph.keep (below_onlyB hO h.ito) (hmap _ h.ph.hmap.is_map) (hmap _ h.ph.omap.is_map) hint, hI, (hcell s ⟨_, _, _, h.so⟩).trans h.so, h.ito⟩
end
/-- What else is kept while it is gone through: blocks of cells. -/
theorem onlyB_cells {w w2 : World} {it om : Nat} {O : List (Nm × Cr)} {done : List Nm} (h : IterL evC w it om O done) (hO : OnlyB it w w2) {b : Nat} {c : Array Value} {t : TypeId} {f : Nat × Nat} (hb : w.heap[b]? = some (Obj.cells c t f)) : w2.heap[b]? = some (Obj.cells c t f) :=
  (hO.2.2.2.2 b (fun e2 => h.no_cells (e2 ▸ hb))).trans hb
end Go.Proofs.Ytenebamecmblaaa
