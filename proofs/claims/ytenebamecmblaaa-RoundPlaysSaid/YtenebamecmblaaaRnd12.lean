/- Out. -/
import Derived.Test.YtenebamecmblaaaRnd11
import Derived.Test.YtenebamecmblaaaIter
import Derived.OwnWalk
import Derived.Laws.AppendOwn
namespace Go.Proofs.Ytenebamecmblaaa
open Go.RowKit Go.Sort Go.Lib

theorem info_lent : (Try.prog.info? 55).map (fun i => (i.zero, i.size, i.bytes)) = some (some (.agg #[.int .u64 0, .string ⟨#[]⟩, .slice none 0 0]), 3, 48) := by kernel_rfl
/-- What was gathered so far. -/
structure Ro (x : On) (w : World) (u : Value) (acc : List Lt) (wr : World) : Prop where
  it : IterL evC wr w.heap.size x.o x.out (acc.map (·.1))
  low : Below w.heap.size w wr
  own : wr.ownsRow (w.heap.size + 1) 55 3 u acc.length (acc.flatMap encL)
  cr : ∀ p ∈ acc, COwn wr w.heap.size (evC p.2) p.2.l
  sub : ∀ p ∈ acc, ∃ q ∈ x.out, q.1 = p.1 ∧ q.2.l = p.2.l
  nd : (acc.map (·.1)).Nodup
theorem Ro.len {x : On} {w wr : World} {u : Value} {acc : List Lt} (h : Ro x w u acc wr) : acc.length ≤ x.out.length := by
  have := List.Nodup.length_le_of_subset h.nd (l₂ := x.out.map (·.1)) (fun n hn => by
    obtain ⟨q, hq, rfl⟩ := List.mem_map.1 hn
    obtain ⟨y, hy, e, _⟩ := h.sub q hq
    exact List.mem_map.2 ⟨y, hy, e⟩)
  simpa using this
theorem own_lt {w : World} {B : Nat} {E : TypeId} {k : Nat} {v : Value} {n : Nat} {xs : List Value} (h : w.ownsRow B E k v n xs) (i : Nat) (hi : v.ownBlock = some i) : B ≤ i ∧ i < w.heap.size := owns_lt h i hi
theorem ownsG_block {w w' : World} {B : Nat} {E : TypeId} {size : Nat} {v : Value} {n : Nat} {xs : List Value} (h : w.ownsRow B E size v n xs) (hb : ∀ i, B ≤ i → i < w.heap.size → w'.heap[i]? = w.heap[i]?) : w'.ownsRow B E size v n xs := by
  obtain ⟨h0, h | ⟨g, cap, cur, hv, h1, h2, h3⟩⟩ := h
  · exact ⟨h0, .inl h⟩
  · exact ⟨h0, .inr ⟨g, cap, cur, hv, h1, (hb g h1 (Array.getElem?_eq_some_iff.1 h2).1).trans h2, h3⟩⟩
theorem own_type {w : World} {B : Nat} {E : TypeId} {k : Nat} {v : Value} {n : Nat} {xs : List Value} (h : w.ownsRow B E k v n xs) (i : Nat) (hi : v.ownBlock = some i) : ∃ cur, w.heap[i]? = some (.cells cur E (0, 0)) := by
  obtain ⟨h0, ⟨rfl, _⟩ | ⟨g, cap, cur, rfl, h1, h2, h3⟩⟩ := h
  · cases hi
  · simp [Value.ownBlock] at hi; subst hi; exact ⟨cur, h2⟩
theorem gathered_paths {n : Int} {x : On} {acc : List Lt} (hG : GoodO n (abO x)) (hs : ∀ p ∈ acc, ∃ q ∈ x.out, q.1 = p.1 ∧ q.2.l = p.2.l) (hn : (acc.map (·.1)).Nodup) : (acc.map (·.1.2)).Nodup := by
  have hj : ∀ p ∈ acc, p.1.1 = n := fun p hp => by
    obtain ⟨q, hq, e, _⟩ := hs p hp
    rw [← e]
    exact hG.job (q.1, q.2.l) (List.mem_map.2 ⟨q, hq, rfl⟩)
  rw [List.nodup_iff_pairwise_ne] at hn ⊢
  rw [List.pairwise_map] at hn ⊢
  exact hn.imp_of_mem fun ha hb h e => h (Prod.ext ((hj _ ha).trans (hj _ hb).symm) e)
theorem out_sorted {x : On} {w wr w3 : World} {u : Value} {acc : List Lt} (h : Ro x w u acc wr) (ho : w3.ownsRow (w.heap.size + 1) 55 3 u (sortO acc).length ((sortO acc).flatMap encL)) (hB : Below (w.heap.size + 1) wr w3) (hk : ∀ i, i < wr.heap.size → u.ownBlock ≠ some i → w3.heap[i]? = wr.heap[i]?) :
    w3.ownsRow w.heap.size 55 3 u (sortO acc).length ((sortO acc).flatMap encL) ∧ (∀ p ∈ acc, COwn w3 w.heap.size (evC p.2) p.2.l) ∧ Below w.heap.size w w3 := by
  refine ⟨owns_low ho (Nat.le_succ _), fun p hp => (h.cr p hp).keepI fun i ⟨cur, hi⟩ => hk i (Array.getElem?_eq_some_iff.1 hi).1 (fun e => ?_), h.low.trans (hB.mono (Nat.le_succ _))⟩
  obtain ⟨cur', h2⟩ := own_type h.own i e
  rw [hi] at h2
  injection h2 with h2
  injection h2 with _ h2 _
  exact absurd h2 (by decide)
theorem step_append_run {P : Program} {ops : Array Oper} {o : Oper} {a : Act} {w : World} {K : Act → World → Prop} {Q : Exit → Act → World → Prop} {E : Prop}
    (hg : o.guard = none) (s x : Operand) (t t' : TypeId) (hop : o.op = Op.call { callee := Callee.builtin Builtin.append, args := #[s, x], argTypes := #[t, t'] })
    (v u : Value) (hd : a.eval s = v) (hx : a.eval x = u) {v' : Value} {w' : World} (hr : (Builtin.append_ #[t, t'] o.type #[v, u]).run P w = .ok v' w') (hK : K (a.put o.dst v') w') :
    if Region.wanted o (yielded ops a.tmps) = true then Oper.wp P o a w K Q else E := by
  have hw : Region.wanted o (yielded ops a.tmps) = true := by simp [Region.wanted, hg]
  rw [if_pos hw]
  unfold Oper.wp
  simp [execOp, hop, resolve, invoke, builtin, hd, hx, hr, Result.andThen]
  exact hK
theorem Fr.grown {S : Option Nat} {a w w' : World} (h : Fr (fun i => S = some i) a w) (hg : w.grownBy w' S) : Fr (fun i => S = some i) a w' :=
  h.trans ⟨hg.os, hg.tape, hg.output, hg.size, fun i hi hs => hg.block i hi (fun e => hs e.symm)⟩
abbrev OnlyIt (w wr w2 : World) : Prop := w2.os = wr.os ∧ w2.tape = wr.tape ∧ w2.output = wr.output ∧ w2.heap.size = wr.heap.size ∧ (∀ i, i ≠ w.heap.size → w2.heap[i]? = wr.heap[i]?)
theorem lent_cells (wc : World) (n : Nm) (a : Option Addr) (c : Nat) (l : List Int) : ∀ j u, (encL (n, ⟨a, c, l⟩))[j]? = some u → (wc.alloc (.cells #[.int .u64 n.1, .string n.2, .slice a l.length c] 55)).cell? ((⟨wc.heap.size, 0, none⟩ : Addr).add j) = some u := by
  intro j u hj
  match j with
  | 0 => simp [encL] at hj; subst hj; simp [go_sem, Addr.add]
  | 1 => simp [encL] at hj; subst hj; simp [go_sem, Addr.add]
  | 2 => simp [encL, evC] at hj; subst hj; simp [go_sem, Addr.add]
  | j + 3 => simp [encL] at hj
theorem ro_reads {x : On} {w wr w2 : World} {u : Value} {acc : List Lt} {p : Lt} {o : Obj} (hx : OnOk w x) (h : Ro x w u acc wr) (hp : p ∈ x.out) (hO : OnlyIt w wr w2) : ReadsK encC 1 (w2.alloc o).drew (evC p.2) p.2.l := by
  have h2 : CrOk w2 p.2 := (hx.out p hp).keep fun i hi => (hO.2.2.2.2 i (by have := hi.lt; omega)).trans (h.low.block i hi.lt)
  exact (h2.below (below_allocC w2 o)).readsC
theorem ro_own {x : On} {w wr w2 wc : World} {u : Value} {acc : List Lt} {o : Obj} (h : Ro x w u acc wr) (hO : OnlyIt w wr w2) (hB : Below w2.heap.size w2 wc) : (wc.alloc o).ownsRow (w.heap.size + 1) 55 3 u acc.length (acc.flatMap encL) := by
  refine ownsG_block h.own fun i hi hl => ?_
  have hs := hO.2.2.2.1
  rw [(below_allocC wc o).block i (by have := hB.size; omega), hB.block i (by omega), hO.2.2.2.2 i (by omega)]
/-- One entry more. -/
theorem Ro.next {x : On} {w wr w2 wc w5 : World} {u v' : Value} {acc : List Lt} {p : Lt} {aa : Option Addr} {ac B : Nat} {o : Obj} (h : Ro x w u acc wr) (hx : OnOk w x) (hp : p ∈ x.out) (hnot : ¬ p.1 ∈ acc.map (·.1)) (hI : IterL evC w2 w.heap.size x.o x.out (acc.map (·.1) ++ [p.1])) (hO : OnlyIt w wr w2) (hB : Below w2.heap.size w2 wc)
    (ho : wc.ownsRow B 3 1 (.slice aa p.2.l.length ac) p.2.l.length (p.2.l.flatMap encC)) (hown : w5.ownsRow (w.heap.size + 1) 55 3 v' (acc.length + 1) (acc.flatMap encL ++ encL (p.1, ⟨aa, ac, p.2.l⟩))) (hg : (wc.alloc o).grownBy w5 u.ownBlock) (hBB : w.heap.size ≤ B) :
    Ro x w v' (acc ++ [(p.1, ⟨aa, ac, p.2.l⟩)]) w5 := by
  have hs := hO.2.2.2.1
  have hws := h.low.size
  have hwr : w.heap.size < wr.heap.size := by have := hI.lt.1; omega
  have hcs := hB.size
  have hw5 : ∀ i, i < wc.heap.size → some i ≠ u.ownBlock → w5.heap[i]? = wc.heap[i]? := fun i hi hne => (hg.block i (by simp; omega) hne).trans ((below_allocC wc o).block i hi)
  have hlow : ∀ i, i < w.heap.size + 1 → w5.heap[i]? = w2.heap[i]? := fun i hi => by
    rw [hw5 i (by omega) (fun e => by have := own_lt h.own i e.symm; omega), hB.block i (by omega)]
  have hint : ∀ i, IntB wc i → w5.heap[i]? = wc.heap[i]? := fun i hi => hw5 i hi.lt fun e => by
    have h1 := own_lt h.own i e.symm
    obtain ⟨cur', h2⟩ := own_type h.own i e.symm
    obtain ⟨cur, hi⟩ := hi
    rw [hB.block i (by omega), hO.2.2.2.2 i (by omega), h2] at hi
    injection hi with hi
    injection hi with _ hi _
    exact absurd hi (by decide)
  have hcr : ∀ q ∈ acc, COwn wc w.heap.size (evC q.2) q.2.l := fun q hq => (h.cr q hq).keepI fun i hi => by
    have hl := hi.lt
    rw [hB.block i (by omega), hO.2.2.2.2 i (fun e => ?_)]
    subst e
    obtain ⟨cur, hi⟩ := hi
    obtain ⟨es, c, s, sn, la, _, _, _, _, _, _, _, h2, _⟩ := h.it
    rw [hi] at h2; cases h2
  refine ⟨?_, ?_, ?_, ?_, ?_, ?_⟩
  · rw [List.map_append]; exact hI.block (hlow _ (by have := hx.lt.2; omega)) (hlow _ (by omega))
  · refine ⟨hg.os.trans (hB.os.trans (hO.1.trans h.low.os)), hg.tape.trans (hB.tape.trans (hO.2.1.trans h.low.tape)), hg.output.trans (hB.output.trans (hO.2.2.1.trans h.low.output)), ?_, fun i hi => ?_⟩
    · have := hg.size; simp at this; omega
    · rw [hlow i (by omega), hO.2.2.2.2 i (by omega), h.low.block i hi]
  · rw [List.length_append, List.flatMap_append]; simpa using hown
  · intro q hq
    rcases List.mem_append.1 hq with hq | hq
    · exact (hcr q hq).keepI hint
    · rw [List.mem_singleton] at hq; rw [hq]
      exact COwn.keepI (owns_low ho hBB) hint
  · intro q hq
    rcases List.mem_append.1 hq with hq | hq
    · exact h.sub q hq
    · rw [List.mem_singleton] at hq; rw [hq]; exact ⟨p, hp, rfl, rfl⟩
  · rw [List.map_append, List.nodup_append]
    exact ⟨h.nd, by simp, fun a ha b hb e => by simp at hb; subst hb; subst e; exact hnot ha⟩
set_option maxHeartbeats 3200000 in
set_option maxRecDepth 100000 in
theorem out_on (r m : Nat) (L : Rd) (n : Int) (x : On) (w : World) (h : Rds w r m L) (hg : U.getL L n = some x) (hG : GoodA (absR L)) (hl : x.out.length ≤ 1000000) :
    Calls Try.prog 20 #[.pointer (some ⟨r, 0, none⟩), .int .u64 n] w fun e w' =>
      ∃ v acc, e = .returned v ∧ w'.ownsRow w.heap.size 55 3 v (sortO acc).length ((sortO acc).flatMap encL) ∧ (∀ p ∈ acc, COwn w' w.heap.size (evC p.2) p.2.l) ∧ (∀ p ∈ acc, ∃ q ∈ x.out, q.1 = p.1 ∧ q.2.l = p.2.l) ∧ (acc.map (·.1)).Nodup ∧ (∀ q ∈ x.out, q.1 ∈ acc.map (·.1)) ∧ Below w.heap.size w w' := by
  obtain ⟨ig, hig, hg0, hg1, hg2⟩ := info_parts info_lent
  have hx := (h.at hg).2
  obtain ⟨w1, hrun, hI, hB, hsz⟩ := range_run (P := Try.prog) hx.map Try.underlying33
  have H := Lib.hid h
  have HX := Lib.hid hx
  have HG := Lib.hid (h.good hG hg)
  have c1 := hx.c1
  have hxo := hx.lt.2
  have hp : ptrR L n = .pointer (some ⟨x.b, 0, none⟩) := by unfold ptrR; rw [hg]; rfl
  have HI := Lib.hid hI
  have HB := Lib.hid hB
  clear h hx hG hI hB
  go_enter Try.func20, Try.ntmps20
  go_wp2_with fail
  refine (of_rnd r m L n _ H.out).mono ?_
  rintro e w2 ⟨rfl, hw2⟩
  have hw2 := hw2.symm
  subst hw2
  rw [hp]
  clear hp
  go_wp2_with fail
  go_loopg [4] x.out.length (fun gk u wr => ∃ acc : List Lt, gk + acc.length = x.out.length ∧ Ro x w u acc wr)
  case atStart => exact ⟨[], by simp, ⟨HI.out, HB.out, World.ownsRow_nil _ _ _ _, (by intro p hp; cases hp), (by intro p hp; cases hp), List.nodup_nil⟩⟩
  case round =>
    clear HI hrun HB hsz w1
    obtain ⟨acc, hlen, hR⟩ := hrel
    rcases hR.it.next (P := Try.prog) 0 with ⟨hall, hrun⟩ | ⟨p, hp, hnotin, w2, hrun, hI2, hO2, hent⟩
    · have HALL := Lib.hid hall
      have HR := Lib.hid hR
      have hnd2 := gathered_paths HG.out hR.sub hR.nd
      have hown := hR.own
      have hrl := hR.it.lt.1
      have hll : acc.length ≤ 1000000 := Nat.le_trans hR.len hl
      clear hR hall c1
      go_wp2_with fail
      refine (sortLent_own acc _ hnd2 hown hll hrl).mono ?_
      rintro e w3 ⟨rfl, hown3, hB3, hk3⟩
      have HF := Lib.hid (out_sorted HR.out hown3 hB3 hk3)
      clear hown hB3 hown3 hk3
      go_wp2_with fail
      go_ret
      exact ⟨_, acc, rfl, HF.out.1, HF.out.2.1, HR.out.sub, HR.out.nd, HALL.out, HF.out.2.2⟩
    · have hO : (w2.os = wr.os ∧ w2.tape = wr.tape ∧ w2.output = wr.output ∧ w2.heap.size = wr.heap.size ∧ (∀ i, i ≠ w.heap.size → w2.heap[i]? = wr.heap[i]?)) := hO2
      have he2 := hent w2 rfl rfl
      have HR := Lib.hid hR
      have HI2 := Lib.hid hI2
      have HO := Lib.hid hO
      unfold encN evC at hrun he2
      clear hR hI2 hO hO2 hent c1
      go_upto_region 7 with fail
      have n0 : (w2.alloc (.cells #[.int .u64 p.1.1, .string p.1.2] 35)).cell? ⟨w2.heap.size, 0, none⟩ = some (.int .u64 p.1.1) := by simp
      have n1 : (w2.alloc (.cells #[.int .u64 p.1.1, .string p.1.2] 35)).cell? ⟨w2.heap.size, 1, none⟩ = some (.string p.1.2) := by simp
      have hs0 : w2.heap.size < (w2.alloc (.cells #[.int .u64 p.1.1, .string p.1.2] 35)).heap.size := by simp
      have hs1 : ¬ u4.ownBlock = some w2.heap.size := fun e => by have := own_lt HR.out.own _ e; have := HO.out.2.2.2.1; omega
      have HCR : Hid (ReadsK encC 1 (w2.alloc (.cells #[.int .u64 p.1.1, .string p.1.2] 35)).drew (.slice p.2.a p.2.l.length p.2.c) p.2.l) := ro_reads HX.out HR.out hp HO.out
      have HCL := Lib.hid (show p.2.l.length ≤ 1000000 from Nat.le_trans (mayC_sc (HG.out.may (p.1, p.2.l) (List.mem_map.2 ⟨p, hp, rfl⟩)).1).len (by decide))
      have HBA := Lib.hid (below_allocC w2 (.cells #[.int .u64 p.1.1, .string p.1.2] 35))
      have hacl : acc.length ≤ x.out.length := HR.out.len
      generalize hwa : w2.alloc (.cells #[.int .u64 p.1.1, .string p.1.2] 35) = wa at *
      have rheldA : ∀ {y : World}, Below wa.drew.heap.size wa.drew y → Below w2.heap.size w2 y := fun h => gthen HBA.out (rheld h)
      refine wp_region_held_drew (S := fun y => Fr (fun i => u4.ownBlock = some i) wa y) (by kernel_rfl) ((Fr.refl _ _).drew) (fun hHeld => ?_)
      refine wpAnyH_take (i := 0) (oi := _) (v := ?_) (by rw [List.getElem?_toArray]; exact rfl) (by kernel_rfl) (by kernel_rfl) (by kernel_rfl) (by exact fun _ _ _ h => h) (Or.inl ⟨by rfl, ?_⟩) hHeld ?_
      rotate_left
      · (intro wX hSw; have z0 := (hSw.cell (p := ⟨w2.heap.size, 0, none⟩) hs0 hs1).trans n0; have z1 := (hSw.cell (p := ⟨w2.heap.size, 1, none⟩) hs0 hs1).trans n1; clear hSw; go_simp; try with_reducible rfl)
      try simp only [Act.put, List.setIfInBounds_toArray, List.set_cons_zero, List.set_cons_succ]
      refine wpAnyH_take (i := 1) (oi := _) (v := ?_) (by rw [List.getElem?_toArray]; exact rfl) (by kernel_rfl) (by kernel_rfl) (by kernel_rfl) (by exact fun _ _ _ h => h) (Or.inl ⟨by rfl, ?_⟩) hHeld ?_
      rotate_left
      · (intro wX hSw; have z0 := (hSw.cell (p := ⟨w2.heap.size, 0, none⟩) hs0 hs1).trans n0; have z1 := (hSw.cell (p := ⟨w2.heap.size, 1, none⟩) hs0 hs1).trans n1; clear hSw; go_simp; try with_reducible rfl)
      try simp only [Act.put, List.setIfInBounds_toArray, List.set_cons_zero, List.set_cons_succ]
      refine wpAnyH_take (i := 2) (oi := _) (v := ?_) (by rw [List.getElem?_toArray]; exact rfl) (by kernel_rfl) (by kernel_rfl) (by kernel_rfl) (by exact fun _ _ _ h => h) (Or.inl ⟨by rfl, ?_⟩) hHeld ?_
      rotate_left
      · (intro wX hSw; have z0 := (hSw.cell (p := ⟨w2.heap.size, 0, none⟩) hs0 hs1).trans n0; have z1 := (hSw.cell (p := ⟨w2.heap.size, 1, none⟩) hs0 hs1).trans n1; clear hSw; go_simp; try with_reducible rfl)
      try simp only [Act.put, List.setIfInBounds_toArray, List.set_cons_zero, List.set_cons_succ]
      refine wpAnyH_ready (rs := [3]) (by kernel_rfl) (by simp) ?_
      refine AllReadyH.cons (o := _) (by rw [List.getElem?_toArray]; exact rfl) (fun K hK => ?_) ?_
      · go_simp
        refine (cclone_any _ p.2.l _ HCR.out HCL.out).mono ?_; rintro e wc ⟨aa, ac, rfl, ho, hB⟩; have HO2 := Lib.hid ho; have HBC := Lib.hid (rheldA hB); clear ho
        go_wp2_with fail
        refine hK.out _ _ (hHeld.then hB) (fun hHeld => ?_)
        clear hK K
        try simp only [Act.put, List.setIfInBounds_toArray, List.set_cons_zero, List.set_cons_succ]
        refine wpAnyH_take (i := 4) (oi := _) (v := ?_) (by rw [List.getElem?_toArray]; exact rfl) (by kernel_rfl) (by kernel_rfl) (by kernel_rfl) (by exact fun _ _ _ h => h) (Or.inl ⟨by rfl, ?_⟩) hHeld ?_
        rotate_left
        · (intro wX hSw; have z0 := (hSw.cell (p := ⟨w2.heap.size, 0, none⟩) hs0 hs1).trans n0; have z1 := (hSw.cell (p := ⟨w2.heap.size, 1, none⟩) hs0 hs1).trans n1; clear hSw; go_simp; try with_reducible rfl)
        try simp only [Act.put, List.setIfInBounds_toArray, List.set_cons_zero, List.set_cons_succ]
        refine wpAnyH_ready (rs := [5]) (by kernel_rfl) (by simp) ?_
        refine AllReadyH.cons (o := _) (by rw [List.getElem?_toArray]; exact rfl) (fun K hK => ?_) ?_
        · go_simp
          refine hK.out _ _ (hHeld.alloc _) (fun hHeld => ?_)
          clear hK K
          try simp only [Act.put, List.setIfInBounds_toArray, List.set_cons_zero, List.set_cons_succ]
          refine wpAnyH_ready (rs := [6]) (by kernel_rfl) (by simp) ?_
          refine AllReadyH.cons (o := _) (by rw [List.getElem?_toArray]; exact rfl) (fun K hK => ?_) ?_
          · have HOW := ro_own (o := (.cells #[.int .u64 p.1.1, .string p.1.2, .slice aa p.2.l.length ac] 55)) HR.out HO.out HBC.out
            obtain ⟨v', w5, hap, hown5, hgrow, _⟩ := run_append_own (P := Try.prog) (w := wc.alloc (.cells #[.int .u64 p.1.1, .string p.1.2, .slice aa p.2.l.length ac] 55)) (w.heap.size + 1) 52 52 55 ig _ 3 48 Try.underlying52 hig hg0 hg1 hg2 rfl (by decide) u4 acc.length (acc.flatMap encL) HOW ⟨wc.heap.size, 0, none⟩ 1 1 (encL (p.1, ⟨aa, ac, p.2.l⟩)) rfl (lent_cells wc p.1 aa ac p.2.l) (by intro v hv; simp [encL, evC] at hv; rcases hv with rfl | rfl | rfl <;> rfl) (by unfold maxLen; omega) (by omega) (by have := HI2.out.lt.1; have := HBC.out.size; simp at this ⊢; omega)
            clear HOW
            refine step_append_run rfl _ _ _ _ rfl _ _ (by simp [Act.eval]) (by simp [Act.eval]) hap ?_
            refine hK.out _ _ (hHeld.grown hgrow) (fun hHeld => ?_)
            clear hK K
            try simp only [Act.put, List.setIfInBounds_toArray, List.set_cons_zero, List.set_cons_succ]
            refine wpAnyH_take (i := 7) (oi := _) (v := ?_) (by rw [List.getElem?_toArray]; exact rfl) (by kernel_rfl) (by kernel_rfl) (by kernel_rfl) (by exact fun _ _ _ h => h) (Or.inl ⟨by rfl, ?_⟩) hHeld ?_
            rotate_left
            · (intro wX hSw; have z0 := (hSw.cell (p := ⟨w2.heap.size, 0, none⟩) hs0 hs1).trans n0; have z1 := (hSw.cell (p := ⟨w2.heap.size, 1, none⟩) hs0 hs1).trans n1; clear hSw; go_simp; try with_reducible rfl)
            try simp only [Act.put, List.setIfInBounds_toArray, List.set_cons_zero, List.set_cons_succ]
            refine wpAnyH_done (by kernel_rfl) ?_ _
            have HT := Lib.hid (HR.out.next HX.out hp hnotin HI2.out HO.out HBC.out HO2.out hown5 hgrow (by have := HBA.out.size; have := HI2.out.lt.1; simp; omega))
            have hlen3 := HT.out.len
            simp only [List.length_append, List.length_cons, List.length_nil] at hlen3
            clear hHeld hown5 hgrow hap HBC HO2 HR HI2 HO HCR
            go_wp2_with fail
            go_roundg (gk - 1)
            case rel => exact ⟨acc ++ [(p.1, ⟨aa, ac, p.2.l⟩)], by simp; omega, HT.out⟩
            case measure => omega
          exact AllReadyH.nil
        exact AllReadyH.nil
      exact AllReadyH.nil
end Go.Proofs.Ytenebamecmblaaa
