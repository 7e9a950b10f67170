/- rows: the roots of which something is so, sorted. -/
import Derived.Test.YtpdnebimkfejoaaLin8
import Derived.Test.YtpdnebimkfejoaaIter
import Derived.Deep.LoopGhost
namespace Go.Proofs.Ytpdnebimkfejoaa
open Go.RowKit Go.Sort Go.Lib

/-- The roots of which something is so. -/
def pick (T : Tb) (P : Nm → Rw → Bool) : Tb := T.filter fun p => P p.1 p.2.2
def ptrs (l : Tb) : List Value := l.map fun p => evP p.2.1
structure Rg (m : Nat) (T : Tb) (P : Nm → Rw → Bool) (w : World) (u : Value) (done : List Nm) (acc : Tb) (wr : World) : Prop where
  it : IterL evP wr w.heap.size m (mapT T) done
  low : Below w.heap.size w wr
  own : wr.ownsRow (w.heap.size + 1) 69 1 u acc.length (ptrs acc)
  dn : done.Nodup ∧ ∀ n ∈ done, n ∈ T.map (·.1)
  nd : (acc.map (·.1)).Nodup
  mem : ∀ p, p ∈ acc ↔ p ∈ T ∧ P p.1 p.2.2 = true ∧ p.1 ∈ done
theorem Rg.len {m : Nat} {T : Tb} {P : Nm → Rw → Bool} {w : World} {u : Value} {done : List Nm} {acc : Tb} {wr : World} (h : Rg m T P w u done acc wr) : acc.length ≤ T.length ∧ done.length ≤ T.length := by
  constructor
  · have := List.Nodup.length_le_of_subset h.nd (l₂ := T.map (·.1)) (fun n hn => by
      obtain ⟨q, hq, rfl⟩ := List.mem_map.1 hn
      exact List.mem_map.2 ⟨q, ((h.mem q).1 hq).1, rfl⟩)
    simpa using this
  · have := List.Nodup.length_le_of_subset h.dn.1 (l₂ := T.map (·.1)) (fun n hn => h.dn.2 n hn)
    simpa using this
/-- The iterator took a step. -/
theorem Rg.step {m : Nat} {T : Tb} {P : Nm → Rw → Bool} {w : World} {u : Value} {done : List Nm} {acc : Tb} {wr w2 : World} (h : Rg m T P w u done acc wr)
    (hO : w2.os = wr.os ∧ w2.tape = wr.tape ∧ w2.output = wr.output ∧ w2.heap.size = wr.heap.size ∧ (∀ i, i ≠ w.heap.size → w2.heap[i]? = wr.heap[i]?)) :
    Below w.heap.size w w2 ∧ w2.ownsRow (w.heap.size + 1) 69 1 u acc.length (ptrs acc) := by
  refine ⟨⟨hO.1.trans h.low.os, hO.2.1.trans h.low.tape, hO.2.2.1.trans h.low.output, by rw [hO.2.2.2.1]; exact h.low.size, fun i hi => (hO.2.2.2.2 i (by omega)).trans (h.low.block i hi)⟩, ?_⟩
  obtain ⟨h0, h1 | ⟨g, cap, cur, hv, h1, h2, h3⟩⟩ := h.own
  · exact ⟨h0, .inl h1⟩
  · exact ⟨h0, .inr ⟨g, cap, cur, hv, h1, (hO.2.2.2.2 g (by omega)).trans h2, h3⟩⟩
/-- A root of which it is not so. -/
theorem Rg.skip {m : Nat} {T : Tb} {P : Nm → Rw → Bool} {w : World} {u : Value} {done : List Nm} {acc : Tb} {wr w3 : World} {p : Nm × Nat × Rw} (h : Rg m T P w u done acc wr) (hn : (T.map (·.1)).Nodup) (hp : p ∈ T) (hnot : p.1 ∉ done) (hP : P p.1 p.2.2 = false)
    (hI3 : IterL evP w3 w.heap.size m (mapT T) (done ++ [p.1])) (hB3 : Below w.heap.size w w3) (ho3 : w3.ownsRow (w.heap.size + 1) 69 1 u acc.length (ptrs acc)) : Rg m T P w u (done ++ [p.1]) acc w3 := by
  refine ⟨hI3, hB3, ho3, ⟨?_, ?_⟩, h.nd, fun q => ?_⟩
  · rw [List.nodup_append]
    exact ⟨h.dn.1, by simp, fun a ha b hb e => by simp at hb; subst hb; subst e; exact hnot ha⟩
  · intro n hn'
    rcases List.mem_append.1 hn' with h1 | h1
    · exact h.dn.2 n h1
    · rw [List.mem_singleton] at h1; subst h1; exact List.mem_map.2 ⟨p, hp, rfl⟩
  · rw [h.mem q]
    constructor
    · rintro ⟨h1, h2, h3⟩; exact ⟨h1, h2, List.mem_append.2 (.inl h3)⟩
    · rintro ⟨h1, h2, h3⟩
      rcases List.mem_append.1 h3 with h3 | h3
      · exact ⟨h1, h2, h3⟩
      · rw [List.mem_singleton] at h3
        have := eq_of_keyV hn h1 hp h3
        subst this; rw [hP] at h2; cases h2
/-- A root more. -/
theorem Rg.push {m : Nat} {T : Tb} {P : Nm → Rw → Bool} {w : World} {u v' : Value} {done : List Nm} {acc : Tb} {wr w3 w' : World} {p : Nm × Nat × Rw} {o : Obj} (h : Rg m T P w u done acc wr) (hn : (T.map (·.1)).Nodup) (hp : p ∈ T) (hnot : p.1 ∉ done) (hP : P p.1 p.2.2 = true)
    (hI3 : IterL evP w3 w.heap.size m (mapT T) (done ++ [p.1])) (hB3 : Below w.heap.size w w3) (ho3 : w3.ownsRow (w.heap.size + 1) 69 1 u acc.length (ptrs acc)) (hm : m < w.heap.size) (hs : w.heap.size < w3.heap.size)
    (hown : w'.ownsRow (w.heap.size + 1) 69 1 v' (acc.length + 1) (ptrs acc ++ [evP p.2.1])) (hg : (w3.alloc o).grownBy w' u.ownBlock) : Rg m T P w v' (done ++ [p.1]) (acc ++ [p]) w' := by
  have hob : ∀ b, u.ownBlock = some b → w.heap.size + 1 ≤ b := fun b hb => (ho3.lt b hb).1
  have hsame : ∀ i, i < w.heap.size + 1 → w'.heap[i]? = w3.heap[i]? := fun i hi => by
    have h1 := hg.block i (by simp; omega) (fun e => by have := hob i e.symm; omega)
    exact h1.trans (Lib.alloc_old w3 o i (by omega))
  have hpn : p ∉ acc := fun hq => hnot ((h.mem p).1 hq).2.2
  refine ⟨hI3.block (hsame m (by omega)) (hsame _ (by omega)), ⟨hg.os.trans hB3.os, hg.tape.trans hB3.tape, hg.output.trans hB3.output, by have h1 := hg.size; have h2 := hB3.size; simp at h1; omega, fun i hi => (hsame i (by omega)).trans (hB3.block i hi)⟩, ?_, ⟨?_, ?_⟩, ?_, fun q => ?_⟩
  · rw [List.length_append, show ptrs (acc ++ [p]) = ptrs acc ++ [evP p.2.1] by unfold ptrs; simp]; simpa using hown
  · rw [List.nodup_append]
    exact ⟨h.dn.1, by simp, fun a ha b hb e => by simp at hb; subst hb; subst e; exact hnot ha⟩
  · intro n hn'
    rcases List.mem_append.1 hn' with h1 | h1
    · exact h.dn.2 n h1
    · rw [List.mem_singleton] at h1; subst h1; exact List.mem_map.2 ⟨p, hp, rfl⟩
  · rw [List.map_append, List.nodup_append]
    refine ⟨h.nd, by simp, fun a ha b hb e => ?_⟩
    simp at hb; subst hb; subst e
    obtain ⟨q, hq, he⟩ := List.mem_map.1 ha
    have hq' := (h.mem q).1 hq
    have := eq_of_keyV hn hq'.1 hp he
    subst this; exact hpn hq
  · rw [List.mem_append, List.mem_singleton, h.mem q]
    constructor
    · rintro (⟨h1, h2, h3⟩ | rfl)
      · exact ⟨h1, h2, List.mem_append.2 (.inl h3)⟩
      · exact ⟨hp, hP, by simp⟩
    · rintro ⟨h1, h2, h3⟩
      rcases List.mem_append.1 h3 with h3 | h3
      · exact .inl ⟨h1, h2, h3⟩
      · rw [List.mem_singleton] at h3
        exact .inr (eq_of_keyV hn h1 hp h3)
/-- All names handed out: what was gathered is what was asked for. -/
theorem gathered {T acc : Tb} {P : Nm → Rw → Bool} {done : List Nm} (hn : (T.map (·.1)).Nodup) (ha : (acc.map (·.1)).Nodup) (hm : ∀ p, p ∈ acc ↔ p ∈ T ∧ P p.1 p.2.2 = true ∧ p.1 ∈ done) (hall : ∀ p ∈ mapT T, p.1 ∈ done) : sortV acc = sortV (pick T P) := by
  have hp : (pick T P).Perm acc := by
    refine (List.perm_ext_iff_of_nodup (List.Pairwise.of_map (S := (· ≠ ·)) _ (fun a b h e => h (by rw [e])) (hn.sublist ((List.filter_sublist (p := fun p => P p.1 p.2.2)).map _))) (List.Pairwise.of_map (S := (· ≠ ·)) _ (fun a b h e => h (by rw [e])) ha)).2 fun a => ?_
    rw [hm a]
    rw [List.mem_filter]
    constructor
    · rintro ⟨h1, h2⟩; exact ⟨h1, h2, hall (a.1, a.2.1) (List.mem_map.2 ⟨a, h1, rfl⟩)⟩
    · rintro ⟨h1, h2, _⟩; exact ⟨h1, h2⟩
  exact sortV_unique ha ((sortV_perm _).trans hp) (sortV_sorted _)
theorem info_ptr : (Try.prog.info? 69).map (fun i => (i.zero, i.size, i.bytes)) = some (some (.pointer none), 1, 8) := by kernel_rfl
/-- What rows answers. -/
def PickR (T : Tb) (P : Nm → Rw → Bool) (w : World) (e : Ending) (w' : World) : Prop :=
  ∃ v, e = .returned v ∧ w'.ownsRow w.heap.size 69 1 v (sortV (pick T P)).length (ptrs (sortV (pick T P))) ∧ Below w.heap.size w w'
theorem own_low {w w' : World} {B : Nat} {E : TypeId} {size : Nat} {v : Value} {n : Nat} {xs : List Value} (h : w.ownsRow B E size v n xs) (hB : Below w.heap.size w w') : w'.ownsRow B E size v n xs := by
  refine ⟨h.1, h.2.imp id ?_⟩
  rintro ⟨g, cap, cur, hv, h1, h2, h3⟩
  exact ⟨g, cap, cur, hv, h1, (hB.block g (Array.getElem?_eq_some_iff.1 h2).1).trans h2, h3⟩
set_option maxHeartbeats 3200000 in
set_option maxRecDepth 100000 in
theorem rowsAll (f m : Nat) (T : Tb) (w : World) (h : Tab w f m T) (hl : T.length ≤ 1000000) :
    Calls Try.prog 42 #[.pointer (some ⟨f, 0, none⟩), .func (.func 43) #[] #[]] w (PickR T (fun _ _ => true) w) := by
  obtain ⟨ig, hig, hg0, hg1, hg2⟩ := info_parts info_ptr
  obtain ⟨w1, hrun, hI, hB, hsz⟩ := range_run (P := Try.prog) h.map Try.underlying65
  have hnd := h.keys
  have c0 := h.c0
  have hflt := h.lt
  have HT := Lib.hid h
  clear h
  obtain ⟨PP, hPP⟩ : ∃ PP : Nm → Rw → Bool, PP = (fun _ _ => true) := ⟨_, rfl⟩
  have HPP := Lib.hid hPP
  rw [← hPP]
  clear hPP
  go_enter Try.func42, Try.ntmps42
  go_wp2_with fail
  go_loopg [4] T.length (fun gk u wr => ∃ (done : List Nm) (acc : Tb), gk + done.length = T.length ∧ Rg m T PP w u done acc wr)
  case atStart => exact ⟨[], [], by simp, ⟨hI, hB, World.ownsRow_nil _ _ _ _, ⟨List.nodup_nil, by simp⟩, List.nodup_nil, by simp⟩⟩
  case round =>
    clear hI hrun hB hsz w1
    obtain ⟨done, acc, hlen, hR⟩ := hrel
    rcases hR.it.next (P := Try.prog) 0 with ⟨hall, hrun⟩ | ⟨p, hp, hnotin, w2, hrun, hI2, hO2, hent⟩
    · have hG := Lib.hid (gathered hnd hR.nd hR.mem hall)
      have HR := Lib.hid hR
      have hll : acc.length ≤ 1000000 := Nat.le_trans hR.len.1 hl
      have hrow : Hid (∀ p ∈ acc, wr.heap[p.2.1]? = some (rowO p.1 p.2.2)) := fun p hp => by
        have h1 := (HT.out.row p ((HR.out.mem p).1 hp).1).1
        exact (HR.out.low.block _ (Array.getElem?_eq_some_iff.1 h1).1).trans h1
      clear hall hR c0
      go_wp2_with fail
      refine (sortPtr_own acc _ HR.out.nd hrow.out (by decide) HR.out.own hll).mono ?_
      rintro e w3 ⟨rfl, hown3, hg3⟩
      have HO := Lib.hid hown3
      have HB3 := Lib.hid (HR.out.low.grown hg3 HR.out.low.size (fun b hb => by have := (HR.out.own.lt b hb).1; omega))
      clear hown3 hg3 HR hrow
      go_wp2_with fail
      go_ret
      exact ⟨_, rfl, by rw [← hG.out]; exact owns_base HO.out (Nat.le_succ _), HB3.out⟩
    · have hstep := hR.step hO2
      have he2 := hent w2 rfl rfl
      unfold mapT at hp
      obtain ⟨q, hq, rfl⟩ := List.mem_map.1 hp
      obtain ⟨a, b, r⟩ := q
      simp only at hnotin hI2 hstep hrun he2
      have hsz2 : w.heap.size < w2.heap.size := hI2.lt.1
      have hHB : w2.heap[b]? = some (rowO a r) := by
        have hTr := HT.out.row _ hq
        exact (hstep.1.block _ (Array.getElem?_eq_some_iff.1 hTr.1).1).trans hTr.1
      have HQ := Lib.hid hq
      have HN := Lib.hid hnotin
      have HR := Lib.hid hR
      have HI2 := Lib.hid hI2
      have HS := Lib.hid hstep
      have HHB := Lib.hid hHB
      have hlen2 := hR.len
      unfold encN evP at hrun he2
      clear hR hI2 hO2 hent c0 hp hq hnotin hstep hHB
      go_wp2_with fail
      refine (soAll b w2).mono ?_
      rintro e w3 ⟨rfl, hB⟩
      have HI3 := Lib.hid (HI2.out.block (hB.block _ HI2.out.lt.2.1) (hB.block _ HI2.out.lt.1))
      have HB3 := Lib.hid (HS.out.1.trans (hB.mono (by omega)))
      have HO3 := Lib.hid (own_low HS.out.2 hB)
      have hs3 : w.heap.size < w3.heap.size := by have := hB.size; omega
      have hcap : acc.length ≤ T.length := hlen2.1
      rw [show true = PP a r by rw [HPP.out]]
      clear hB HI2 HS HHB he2 hrun
      cases hP : PP a r
      · have HR2 := Lib.hid (HR.out.skip hnd HQ.out HN.out hP HI3.out HB3.out HO3.out)
        have hlen3 := HR2.out.len
        simp only [List.length_append, List.length_cons, List.length_nil] at hlen3
        clear HR HI3 HB3 HO3 hP
        go_wp2_with fail
        go_roundg (gk - 1)
        case rel => exact ⟨done ++ [a], acc, by simp; omega, HR2.out⟩
        case measure => omega
      · have HP := Lib.hid hP
        clear hP
        go_wp2_with (at_builtin; refine wpList_append_own _ rfl _ _ 79 rfl (w.heap.size + 1) 69 ig (.pointer none) 1 8 Try.underlying79 hig hg0 hg1 hg2 rfl (by decide) _ _ _ rfl (HO3.out.alloc _) ⟨w3.heap.size, 0, none⟩ 1 1 [evP b] rfl rfl ?c1 ?c2 ?c3 ?c4 ?c5 ?_)
        case c1 =>
          intro j u hj
          match j with
          | 0 => simp at hj; subst hj; simp [go_sem, Addr.add, evP]
          | j + 1 => simp at hj
        case c2 => intro u hu; simp at hu; subst hu; rfl
        case c3 => unfold maxLen; omega
        case c4 => omega
        case c5 => simp; omega
        intro v' w4 hown' hgrow _
        have HR2 := Lib.hid (HR.out.push hnd HQ.out HN.out HP.out HI3.out HB3.out HO3.out hflt.2.1 hs3 hown' hgrow)
        have hlen3 := HR2.out.len
        simp only [List.length_append, List.length_cons, List.length_nil] at hlen3
        clear HR HI3 HB3 HO3 hown' hgrow
        go_wp2_with fail
        go_roundg (gk - 1)
        case rel => exact ⟨done ++ [a], acc ++ [(a, b, r)], by simp; omega, HR2.out⟩
        case measure => omega
set_option maxHeartbeats 3200000 in
set_option maxRecDepth 100000 in
theorem rowsWaits (f m : Nat) (T : Tb) (w : World) (h : Tab w f m T) (hl : T.length ≤ 1000000) :
    Calls Try.prog 42 #[.pointer (some ⟨f, 0, none⟩), .func (.func 45) #[] #[]] w (PickR T (fun _ r => decide (r.st = 1)) w) := by
  obtain ⟨ig, hig, hg0, hg1, hg2⟩ := info_parts info_ptr
  obtain ⟨w1, hrun, hI, hB, hsz⟩ := range_run (P := Try.prog) h.map Try.underlying65
  have hnd := h.keys
  have c0 := h.c0
  have hflt := h.lt
  have HT := Lib.hid h
  clear h
  obtain ⟨PP, hPP⟩ : ∃ PP : Nm → Rw → Bool, PP = (fun _ r => decide (r.st = 1)) := ⟨_, rfl⟩
  have HPP := Lib.hid hPP
  rw [← hPP]
  clear hPP
  go_enter Try.func42, Try.ntmps42
  go_wp2_with fail
  go_loopg [4] T.length (fun gk u wr => ∃ (done : List Nm) (acc : Tb), gk + done.length = T.length ∧ Rg m T PP w u done acc wr)
  case atStart => exact ⟨[], [], by simp, ⟨hI, hB, World.ownsRow_nil _ _ _ _, ⟨List.nodup_nil, by simp⟩, List.nodup_nil, by simp⟩⟩
  case round =>
    clear hI hrun hB hsz w1
    obtain ⟨done, acc, hlen, hR⟩ := hrel
    rcases hR.it.next (P := Try.prog) 0 with ⟨hall, hrun⟩ | ⟨p, hp, hnotin, w2, hrun, hI2, hO2, hent⟩
    · have hG := Lib.hid (gathered hnd hR.nd hR.mem hall)
      have HR := Lib.hid hR
      have hll : acc.length ≤ 1000000 := Nat.le_trans hR.len.1 hl
      have hrow : Hid (∀ p ∈ acc, wr.heap[p.2.1]? = some (rowO p.1 p.2.2)) := fun p hp => by
        have h1 := (HT.out.row p ((HR.out.mem p).1 hp).1).1
        exact (HR.out.low.block _ (Array.getElem?_eq_some_iff.1 h1).1).trans h1
      clear hall hR c0
      go_wp2_with fail
      refine (sortPtr_own acc _ HR.out.nd hrow.out (by decide) HR.out.own hll).mono ?_
      rintro e w3 ⟨rfl, hown3, hg3⟩
      have HO := Lib.hid hown3
      have HB3 := Lib.hid (HR.out.low.grown hg3 HR.out.low.size (fun b hb => by have := (HR.out.own.lt b hb).1; omega))
      clear hown3 hg3 HR hrow
      go_wp2_with fail
      go_ret
      exact ⟨_, rfl, by rw [← hG.out]; exact owns_base HO.out (Nat.le_succ _), HB3.out⟩
    · have hstep := hR.step hO2
      have he2 := hent w2 rfl rfl
      unfold mapT at hp
      obtain ⟨q, hq, rfl⟩ := List.mem_map.1 hp
      obtain ⟨a, b, r⟩ := q
      simp only at hnotin hI2 hstep hrun he2
      have hsz2 : w.heap.size < w2.heap.size := hI2.lt.1
      have hHB : w2.heap[b]? = some (rowO a r) := by
        have hTr := HT.out.row _ hq
        exact (hstep.1.block _ (Array.getElem?_eq_some_iff.1 hTr.1).1).trans hTr.1
      have HQ := Lib.hid hq
      have HN := Lib.hid hnotin
      have HR := Lib.hid hR
      have HI2 := Lib.hid hI2
      have HS := Lib.hid hstep
      have HHB := Lib.hid hHB
      have hlen2 := hR.len
      unfold encN evP at hrun he2
      clear hR hI2 hO2 hent c0 hp hq hnotin hstep hHB
      go_wp2_with fail
      refine (soWaits b a r w2 HHB.out).mono ?_
      rintro e w3 ⟨rfl, hB⟩
      have HI3 := Lib.hid (HI2.out.block (hB.block _ HI2.out.lt.2.1) (hB.block _ HI2.out.lt.1))
      have HB3 := Lib.hid (HS.out.1.trans (hB.mono (by omega)))
      have HO3 := Lib.hid (own_low HS.out.2 hB)
      have hs3 : w.heap.size < w3.heap.size := by have := hB.size; omega
      have hcap : acc.length ≤ T.length := hlen2.1
      rw [show decide (r.st = 1) = PP a r by rw [HPP.out]]
      clear hB HI2 HS HHB he2 hrun
      cases hP : PP a r
      · have HR2 := Lib.hid (HR.out.skip hnd HQ.out HN.out hP HI3.out HB3.out HO3.out)
        have hlen3 := HR2.out.len
        simp only [List.length_append, List.length_cons, List.length_nil] at hlen3
        clear HR HI3 HB3 HO3 hP
        go_wp2_with fail
        go_roundg (gk - 1)
        case rel => exact ⟨done ++ [a], acc, by simp; omega, HR2.out⟩
        case measure => omega
      · have HP := Lib.hid hP
        clear hP
        go_wp2_with (at_builtin; refine wpList_append_own _ rfl _ _ 79 rfl (w.heap.size + 1) 69 ig (.pointer none) 1 8 Try.underlying79 hig hg0 hg1 hg2 rfl (by decide) _ _ _ rfl (HO3.out.alloc _) ⟨w3.heap.size, 0, none⟩ 1 1 [evP b] rfl rfl ?c1 ?c2 ?c3 ?c4 ?c5 ?_)
        case c1 =>
          intro j u hj
          match j with
          | 0 => simp at hj; subst hj; simp [go_sem, Addr.add, evP]
          | j + 1 => simp at hj
        case c2 => intro u hu; simp at hu; subst hu; rfl
        case c3 => unfold maxLen; omega
        case c4 => omega
        case c5 => simp; omega
        intro v' w4 hown' hgrow _
        have HR2 := Lib.hid (HR.out.push hnd HQ.out HN.out HP.out HI3.out HB3.out HO3.out hflt.2.1 hs3 hown' hgrow)
        have hlen3 := HR2.out.len
        simp only [List.length_append, List.length_cons, List.length_nil] at hlen3
        clear HR HI3 HB3 HO3 hown' hgrow
        go_wp2_with fail
        go_roundg (gk - 1)
        case rel => exact ⟨done ++ [a], acc ++ [(a, b, r)], by simp; omega, HR2.out⟩
        case measure => omega
set_option maxHeartbeats 3200000 in
set_option maxRecDepth 100000 in
theorem rowsWithin (f m : Nat) (T : Tb) (n : Nm) (tb nb : Nat) (w : World) (h : Tab w f m T) (hl : T.length ≤ 1000000) (hz : ∀ p ∈ T, p.1.2.size ≤ 9223372036854775807) (h1 : w.cell? ⟨tb, 0, none⟩ = some (.pointer (some ⟨f, 0, none⟩))) (h2 : w.cell? ⟨nb, 0, none⟩ = some (.int .u64 n.1)) (h3 : w.cell? ⟨nb, 1, none⟩ = some (.string n.2)) :
    Calls Try.prog 42 #[.pointer (some ⟨f, 0, none⟩), .func (.func 48) #[] #[.pointer (some ⟨tb, 0, none⟩), .pointer (some ⟨nb, 0, none⟩)]] w (PickR T (fun a _ => withinB T n a) w) := by
  obtain ⟨ig, hig, hg0, hg1, hg2⟩ := info_parts info_ptr
  obtain ⟨w1, hrun, hI, hB, hsz⟩ := range_run (P := Try.prog) h.map Try.underlying65
  have hnd := h.keys
  have c0 := h.c0
  have hflt := h.lt
  have HT := Lib.hid h
  clear h
  obtain ⟨PP, hPP⟩ : ∃ PP : Nm → Rw → Bool, PP = (fun a _ => withinB T n a) := ⟨_, rfl⟩
  have HPP := Lib.hid hPP
  rw [← hPP]
  clear hPP
  go_enter Try.func42, Try.ntmps42
  go_wp2_with fail
  go_loopg [4] T.length (fun gk u wr => ∃ (done : List Nm) (acc : Tb), gk + done.length = T.length ∧ Rg m T PP w u done acc wr)
  case atStart => exact ⟨[], [], by simp, ⟨hI, hB, World.ownsRow_nil _ _ _ _, ⟨List.nodup_nil, by simp⟩, List.nodup_nil, by simp⟩⟩
  case round =>
    clear hI hrun hB hsz w1
    obtain ⟨done, acc, hlen, hR⟩ := hrel
    rcases hR.it.next (P := Try.prog) 0 with ⟨hall, hrun⟩ | ⟨p, hp, hnotin, w2, hrun, hI2, hO2, hent⟩
    · have hG := Lib.hid (gathered hnd hR.nd hR.mem hall)
      have HR := Lib.hid hR
      have hll : acc.length ≤ 1000000 := Nat.le_trans hR.len.1 hl
      have hrow : Hid (∀ p ∈ acc, wr.heap[p.2.1]? = some (rowO p.1 p.2.2)) := fun p hp => by
        have h1 := (HT.out.row p ((HR.out.mem p).1 hp).1).1
        exact (HR.out.low.block _ (Array.getElem?_eq_some_iff.1 h1).1).trans h1
      clear hall hR c0
      go_wp2_with fail
      refine (sortPtr_own acc _ HR.out.nd hrow.out (by decide) HR.out.own hll).mono ?_
      rintro e w3 ⟨rfl, hown3, hg3⟩
      have HO := Lib.hid hown3
      have HB3 := Lib.hid (HR.out.low.grown hg3 HR.out.low.size (fun b hb => by have := (HR.out.own.lt b hb).1; omega))
      clear hown3 hg3 HR hrow
      go_wp2_with fail
      go_ret
      exact ⟨_, rfl, by rw [← hG.out]; exact owns_base HO.out (Nat.le_succ _), HB3.out⟩
    · have hstep := hR.step hO2
      have he2 := hent w2 rfl rfl
      unfold mapT at hp
      obtain ⟨q, hq, rfl⟩ := List.mem_map.1 hp
      obtain ⟨a, b, r⟩ := q
      simp only at hnotin hI2 hstep hrun he2
      have hsz2 : w.heap.size < w2.heap.size := hI2.lt.1
      have hHB : w2.heap[b]? = some (rowO a r) := by
        have hTr := HT.out.row _ hq
        exact (hstep.1.block _ (Array.getElem?_eq_some_iff.1 hTr.1).1).trans hTr.1
      have HQ := Lib.hid hq
      have HN := Lib.hid hnotin
      have HR := Lib.hid hR
      have HI2 := Lib.hid hI2
      have HS := Lib.hid hstep
      have HHB := Lib.hid hHB
      have hlen2 := hR.len
      unfold encN evP at hrun he2
      clear hR hI2 hO2 hent c0 hp hq hnotin hstep hHB
      go_wp2_with fail
      refine (soWithin f m T n a b tb nb r w2 (HT.out.below HS.out.1) HHB.out (cell_keep HS.out.1 h1) (cell_keep HS.out.1 h2) (cell_keep HS.out.1 h3) (hz _ HQ.out)).mono ?_
      rintro e w3 ⟨rfl, hB⟩
      have HI3 := Lib.hid (HI2.out.block (hB.block _ HI2.out.lt.2.1) (hB.block _ HI2.out.lt.1))
      have HB3 := Lib.hid (HS.out.1.trans (hB.mono (by omega)))
      have HO3 := Lib.hid (own_low HS.out.2 hB)
      have hs3 : w.heap.size < w3.heap.size := by have := hB.size; omega
      have hcap : acc.length ≤ T.length := hlen2.1
      rw [show withinB T n a = PP a r by rw [HPP.out]]
      clear hB HI2 HS HHB he2 hrun
      cases hP : PP a r
      · have HR2 := Lib.hid (HR.out.skip hnd HQ.out HN.out hP HI3.out HB3.out HO3.out)
        have hlen3 := HR2.out.len
        simp only [List.length_append, List.length_cons, List.length_nil] at hlen3
        clear HR HI3 HB3 HO3 hP
        go_wp2_with fail
        go_roundg (gk - 1)
        case rel => exact ⟨done ++ [a], acc, by simp; omega, HR2.out⟩
        case measure => omega
      · have HP := Lib.hid hP
        clear hP
        go_wp2_with (at_builtin; refine wpList_append_own _ rfl _ _ 79 rfl (w.heap.size + 1) 69 ig (.pointer none) 1 8 Try.underlying79 hig hg0 hg1 hg2 rfl (by decide) _ _ _ rfl (HO3.out.alloc _) ⟨w3.heap.size, 0, none⟩ 1 1 [evP b] rfl rfl ?c1 ?c2 ?c3 ?c4 ?c5 ?_)
        case c1 =>
          intro j u hj
          match j with
          | 0 => simp at hj; subst hj; simp [go_sem, Addr.add, evP]
          | j + 1 => simp at hj
        case c2 => intro u hu; simp at hu; subst hu; rfl
        case c3 => unfold maxLen; omega
        case c4 => omega
        case c5 => simp; omega
        intro v' w4 hown' hgrow _
        have HR2 := Lib.hid (HR.out.push hnd HQ.out HN.out HP.out HI3.out HB3.out HO3.out hflt.2.1 hs3 hown' hgrow)
        have hlen3 := HR2.out.len
        simp only [List.length_append, List.length_cons, List.length_nil] at hlen3
        clear HR HI3 HB3 HO3 hown' hgrow
        go_wp2_with fail
        go_roundg (gk - 1)
        case rel => exact ⟨done ++ [a], acc ++ [(a, b, r)], by simp; omega, HR2.out⟩
        case measure => omega
set_option maxHeartbeats 3200000 in
set_option maxRecDepth 100000 in
theorem rowsLost (f m : Nat) (T : Tb) (kb : Nat) (v : Value) (ks : List Int) (w : World) (h : Tab w f m T) (hl : T.length ≤ 1000000) (hk : w.cell? ⟨kb, 0, none⟩ = some v) (hv : ReadsK encI 1 w v ks) (hkl : ks.length ≤ 1000000) :
    Calls Try.prog 42 #[.pointer (some ⟨f, 0, none⟩), .func (.func 51) #[] #[.pointer (some ⟨kb, 0, none⟩)]] w (PickR T (fun _ r => lostB ks r) w) := by
  obtain ⟨ig, hig, hg0, hg1, hg2⟩ := info_parts info_ptr
  obtain ⟨w1, hrun, hI, hB, hsz⟩ := range_run (P := Try.prog) h.map Try.underlying65
  have hnd := h.keys
  have c0 := h.c0
  have hflt := h.lt
  have HT := Lib.hid h
  clear h
  obtain ⟨PP, hPP⟩ : ∃ PP : Nm → Rw → Bool, PP = (fun _ r => lostB ks r) := ⟨_, rfl⟩
  have HPP := Lib.hid hPP
  rw [← hPP]
  clear hPP
  go_enter Try.func42, Try.ntmps42
  go_wp2_with fail
  go_loopg [4] T.length (fun gk u wr => ∃ (done : List Nm) (acc : Tb), gk + done.length = T.length ∧ Rg m T PP w u done acc wr)
  case atStart => exact ⟨[], [], by simp, ⟨hI, hB, World.ownsRow_nil _ _ _ _, ⟨List.nodup_nil, by simp⟩, List.nodup_nil, by simp⟩⟩
  case round =>
    clear hI hrun hB hsz w1
    obtain ⟨done, acc, hlen, hR⟩ := hrel
    rcases hR.it.next (P := Try.prog) 0 with ⟨hall, hrun⟩ | ⟨p, hp, hnotin, w2, hrun, hI2, hO2, hent⟩
    · have hG := Lib.hid (gathered hnd hR.nd hR.mem hall)
      have HR := Lib.hid hR
      have hll : acc.length ≤ 1000000 := Nat.le_trans hR.len.1 hl
      have hrow : Hid (∀ p ∈ acc, wr.heap[p.2.1]? = some (rowO p.1 p.2.2)) := fun p hp => by
        have h1 := (HT.out.row p ((HR.out.mem p).1 hp).1).1
        exact (HR.out.low.block _ (Array.getElem?_eq_some_iff.1 h1).1).trans h1
      clear hall hR c0
      go_wp2_with fail
      refine (sortPtr_own acc _ HR.out.nd hrow.out (by decide) HR.out.own hll).mono ?_
      rintro e w3 ⟨rfl, hown3, hg3⟩
      have HO := Lib.hid hown3
      have HB3 := Lib.hid (HR.out.low.grown hg3 HR.out.low.size (fun b hb => by have := (HR.out.own.lt b hb).1; omega))
      clear hown3 hg3 HR hrow
      go_wp2_with fail
      go_ret
      exact ⟨_, rfl, by rw [← hG.out]; exact owns_base HO.out (Nat.le_succ _), HB3.out⟩
    · have hstep := hR.step hO2
      have he2 := hent w2 rfl rfl
      unfold mapT at hp
      obtain ⟨q, hq, rfl⟩ := List.mem_map.1 hp
      obtain ⟨a, b, r⟩ := q
      simp only at hnotin hI2 hstep hrun he2
      have hsz2 : w.heap.size < w2.heap.size := hI2.lt.1
      have hHB : w2.heap[b]? = some (rowO a r) := by
        have hTr := HT.out.row _ hq
        exact (hstep.1.block _ (Array.getElem?_eq_some_iff.1 hTr.1).1).trans hTr.1
      have HQ := Lib.hid hq
      have HN := Lib.hid hnotin
      have HR := Lib.hid hR
      have HI2 := Lib.hid hI2
      have HS := Lib.hid hstep
      have HHB := Lib.hid hHB
      have hlen2 := hR.len
      unfold encN evP at hrun he2
      clear hR hI2 hO2 hent c0 hp hq hnotin hstep hHB
      go_wp2_with fail
      refine (soLost b a r kb v ks w2 HHB.out (cell_keep HS.out.1 hk) (hv.below HS.out.1) hkl).mono ?_
      rintro e w3 ⟨rfl, hB⟩
      have HI3 := Lib.hid (HI2.out.block (hB.block _ HI2.out.lt.2.1) (hB.block _ HI2.out.lt.1))
      have HB3 := Lib.hid (HS.out.1.trans (hB.mono (by omega)))
      have HO3 := Lib.hid (own_low HS.out.2 hB)
      have hs3 : w.heap.size < w3.heap.size := by have := hB.size; omega
      have hcap : acc.length ≤ T.length := hlen2.1
      rw [show lostB ks r = PP a r by rw [HPP.out]]
      clear hB HI2 HS HHB he2 hrun
      cases hP : PP a r
      · have HR2 := Lib.hid (HR.out.skip hnd HQ.out HN.out hP HI3.out HB3.out HO3.out)
        have hlen3 := HR2.out.len
        simp only [List.length_append, List.length_cons, List.length_nil] at hlen3
        clear HR HI3 HB3 HO3 hP
        go_wp2_with fail
        go_roundg (gk - 1)
        case rel => exact ⟨done ++ [a], acc, by simp; omega, HR2.out⟩
        case measure => omega
      · have HP := Lib.hid hP
        clear hP
        go_wp2_with (at_builtin; refine wpList_append_own _ rfl _ _ 79 rfl (w.heap.size + 1) 69 ig (.pointer none) 1 8 Try.underlying79 hig hg0 hg1 hg2 rfl (by decide) _ _ _ rfl (HO3.out.alloc _) ⟨w3.heap.size, 0, none⟩ 1 1 [evP b] rfl rfl ?c1 ?c2 ?c3 ?c4 ?c5 ?_)
        case c1 =>
          intro j u hj
          match j with
          | 0 => simp at hj; subst hj; simp [go_sem, Addr.add, evP]
          | j + 1 => simp at hj
        case c2 => intro u hu; simp at hu; subst hu; rfl
        case c3 => unfold maxLen; omega
        case c4 => omega
        case c5 => simp; omega
        intro v' w4 hown' hgrow _
        have HR2 := Lib.hid (HR.out.push hnd HQ.out HN.out HP.out HI3.out HB3.out HO3.out hflt.2.1 hs3 hown' hgrow)
        have hlen3 := HR2.out.len
        simp only [List.length_append, List.length_cons, List.length_nil] at hlen3
        clear HR HI3 HB3 HO3 hown' hgrow
        go_wp2_with fail
        go_roundg (gk - 1)
        case rel => exact ⟨done ++ [a], acc ++ [(a, b, r)], by simp; omega, HR2.out⟩
        case measure => omega
end Go.Proofs.Ytpdnebimkfejoaa
