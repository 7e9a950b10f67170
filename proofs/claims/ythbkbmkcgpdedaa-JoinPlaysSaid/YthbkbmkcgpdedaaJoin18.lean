/- Rows. -/
import Derived.Test.YthbkbmkcgpdedaaJoin17
import Derived.Test.YthbkbmkcgpdedaaIter
import Derived.Test.YthbkbmkcgpdedaaOwnFr
import Derived.Deep.LoopGhost
namespace Go.Proofs.Ythbkbmkcgpdedaa
open Go.RowKit Go.Sort Go.Lib

/-- A row, but where its arguments lie. -/
def core (r : Rw) : Rw := { r with aa := none, ac := 0 }
def coreP (p : Rl) : Rl := (p.1, core p.2)
def rowsT (T : Tb) : List Rl := T.map fun p => (p.1, core p.2.2)
def ArgsB (B : Nat) (w : World) (r : Rw) : Prop := w.ownsRow B 2 1 (.slice r.aa r.args.length r.ac) r.args.length (r.args.flatMap encI)
theorem ArgsB.far {B : Nat} {w w' : World} {r : Rw} (h : ArgsB B w r) (hb : ∀ (i : Nat) (cur : Array Value), w.heap[i]? = some (Obj.cells cur 2 (0, 0)) → w'.heap[i]? = w.heap[i]?) : ArgsB B w' r := by
  obtain ⟨h0, h1 | ⟨g, cap, cur, hv, h1, h2, h3⟩⟩ := h
  · exact ⟨h0, .inl h1⟩
  · exact ⟨h0, .inr ⟨g, cap, cur, hv, h1, (hb g cur h2).trans h2, h3⟩⟩
theorem ArgsB.base {B B' : Nat} {w : World} {r : Rw} (h : ArgsB B w r) (hb : B' ≤ B) : ArgsB B' w r := owns_base h hb
theorem rowsT_keys (T : Tb) : (rowsT T).map (·.1) = T.map (·.1) := by unfold rowsT; rw [List.map_map]; rfl
theorem coreP_keys (l : List Rl) : (l.map coreP).map (·.1) = l.map (·.1) := by rw [List.map_map]; rfl
theorem sortV_map (l : List Rl) : (sortV l).map coreP = (l.map coreP).mergeSort leN := by
  unfold sortV
  rw [List.map_mergeSort]
  intro a _ b _
  rfl
/-- All names handed out: what was gathered is the table, sorted. -/
theorem gathered {T : Tb} {acc : List Rl} (hn : (T.map (·.1)).Nodup) (hs : ∀ p ∈ acc, coreP p ∈ rowsT T) (ha : (acc.map (·.1)).Nodup) (hall : ∀ p ∈ mapT T, p.1 ∈ acc.map (·.1)) : (sortV acc).map coreP = sortV (rowsT T) := by
  rw [sortV_map]
  have hn' : ((rowsT T).map (·.1)).Nodup := by rw [rowsT_keys]; exact hn
  have ha' : ((acc.map coreP).map (·.1)).Nodup := by rw [coreP_keys]; exact ha
  refine (sortV_unique hn' ?_ (sortV_sorted (acc.map coreP))).symm
  refine (sortV_perm _).trans ?_
  refine (List.perm_ext_iff_of_nodup (List.Pairwise.of_map (S := (· ≠ ·)) _ (fun a b h e => h (by rw [e])) ha') (List.Pairwise.of_map (S := (· ≠ ·)) _ (fun a b h e => h (by rw [e])) hn')).2 fun a => ⟨fun h => ?_, fun h => ?_⟩
  · obtain ⟨q, hq, rfl⟩ := List.mem_map.1 h
    exact hs q hq
  · have h0 := h
    unfold rowsT at h
    obtain ⟨p, hp, rfl⟩ := List.mem_map.1 h
    obtain ⟨q, hq, he⟩ := List.mem_map.1 (hall (p.1, p.2.1) (List.mem_map.2 ⟨p, hp, rfl⟩))
    have e := eq_of_keyN hn' (hs q hq) h0 he
    rw [← e]
    exact List.mem_map.2 ⟨q, hq, rfl⟩
structure Rg (m : Nat) (T : Tb) (w : World) (u : Value) (acc : List Rl) (wr : World) : Prop where
  it : IterL evP wr w.heap.size m (mapT T) (acc.map (·.1))
  low : Below w.heap.size w wr
  own : wr.ownsRow (w.heap.size + 1) 58 10 u acc.length (acc.flatMap encT)
  sub : ∀ p ∈ acc, coreP p ∈ rowsT T
  nd : (acc.map (·.1)).Nodup
  args : ∀ p ∈ acc, ArgsB (w.heap.size + 1) wr p.2
theorem Rg.len {m : Nat} {T : Tb} {w : World} {u : Value} {acc : List Rl} {wr : World} (h : Rg m T w u acc wr) : acc.length ≤ T.length := by
  have := List.Nodup.length_le_of_subset h.nd (l₂ := T.map (·.1)) (fun n hn => by
    obtain ⟨q, hq, rfl⟩ := List.mem_map.1 hn
    have := h.sub q hq
    rw [← rowsT_keys]
    exact List.mem_map.2 ⟨_, this, rfl⟩)
  simpa using this
/-- The iterator took a step. -/
theorem Rg.step {m : Nat} {T : Tb} {w : World} {u : Value} {acc : List Rl} {wr w2 : World} {n : Nm} (h : Rg m T w u acc wr) (_hI2 : IterL evP w2 w.heap.size m (mapT T) (acc.map (·.1) ++ [n]))
    (hO : w2.os = wr.os ∧ w2.tape = wr.tape ∧ w2.output = wr.output ∧ w2.heap.size = wr.heap.size ∧ (∀ i, i ≠ w.heap.size → w2.heap[i]? = wr.heap[i]?)) :
    Below w.heap.size w w2 ∧ w2.ownsRow (w.heap.size + 1) 58 10 u acc.length (acc.flatMap encT) ∧ ∀ p ∈ acc, ArgsB (w.heap.size + 1) w2 p.2 := by
  have hne : ∀ (i : Nat) (cs : Array Value) (t : TypeId) (fr : Nat × Nat), wr.heap[i]? = some (Obj.cells cs t fr) → i ≠ w.heap.size := by
    rintro i cs t fr hi rfl
    obtain ⟨_, _, _, _, _, _, _, _, _, _, _, _, hr, _⟩ := h.it
    rw [hr] at hi; cases hi
  refine ⟨⟨hO.1.trans h.low.os, hO.2.1.trans h.low.tape, hO.2.2.1.trans h.low.output, by rw [hO.2.2.2.1]; exact h.low.size, fun i hi => (hO.2.2.2.2 i (by omega)).trans (h.low.block i hi)⟩, ?_, fun p hp => (h.args p hp).far fun i cur hi => hO.2.2.2.2 i (hne i _ _ _ hi)⟩
  obtain ⟨h0, h1 | ⟨g, cap, cur, hv, h1, h2, h3⟩⟩ := h.own
  · exact ⟨h0, .inl h1⟩
  · exact ⟨h0, .inr ⟨g, cap, cur, hv, h1, (hO.2.2.2.2 g (by omega)).trans h2, h3⟩⟩
/-- A row more. -/
theorem Rg.push {m : Nat} {T : Tb} {w : World} {u v' : Value} {acc : List Rl} {wr w3 w' : World} {n : Nm} {b : Nat} {r : Rw} {aa : Option Addr} {ac : Nat} {o : Obj} (h : Rg m T w u acc wr) (hp : (n, b, r) ∈ T) (hnot : n ∉ acc.map (·.1))
    (hI3 : IterL evP w3 w.heap.size m (mapT T) (acc.map (·.1) ++ [n])) (hB3 : Below w.heap.size w w3) (ho3 : w3.ownsRow (w.heap.size + 1) 58 10 u acc.length (acc.flatMap encT)) (ha3 : ∀ p ∈ acc, ArgsB (w.heap.size + 1) w3 p.2)
    (har : ArgsB (w.heap.size + 1) w3 { r with aa := aa, ac := ac }) (hm : m < w.heap.size) (hs : w.heap.size < w3.heap.size)
    (hown : w'.ownsRow (w.heap.size + 1) 58 10 v' (acc.length + 1) (acc.flatMap encT ++ encT (n, { r with aa := aa, ac := ac }))) (hg : (w3.alloc o).grownBy w' u.ownBlock) : Rg m T w v' (acc ++ [(n, { r with aa := aa, ac := ac })]) w' := by
  have hob : ∀ b, u.ownBlock = some b → w.heap.size + 1 ≤ b := fun b hb => (ho3.lt b hb).1
  have hsame : ∀ i, i < w.heap.size + 1 → w'.heap[i]? = w3.heap[i]? := fun i hi => by
    have h1 := hg.block i (by simp; omega) (fun e => by have := hob i e.symm; omega)
    exact h1.trans (Lib.alloc_old w3 o i (by omega))
  have hty : ∀ (i : Nat) (cur : Array Value), w3.heap[i]? = some (Obj.cells cur 2 (0, 0)) → w'.heap[i]? = w3.heap[i]? := fun i cur hi => by
    have hlt := (Array.getElem?_eq_some_iff.1 hi).1
    rw [hg.block i (by simp; omega) (fun e => ?_), Lib.alloc_old w3 o i hlt]
    obtain ⟨_, ⟨rfl, _⟩ | ⟨g, cap, cur', rfl, _, h2, _⟩⟩ := ho3
    · cases e
    · injection e with e
      change i = g at e
      subst e
      rw [h2] at hi
      injection hi with hi
      injection hi with _ hi _
      exact absurd hi (by decide)
  refine ⟨?_, ?_, ?_, ?_, ?_, ?_⟩
  · rw [List.map_append]; exact hI3.block (hsame m (by omega)) (hsame _ (by omega))
  · exact ⟨hg.os.trans hB3.os, hg.tape.trans hB3.tape, hg.output.trans hB3.output, by have h1 := hg.size; have h2 := hB3.size; simp at h1; omega, fun i hi => (hsame i (by omega)).trans (hB3.block i hi)⟩
  · rw [List.length_append, List.flatMap_append]; simpa using hown
  · intro q hq
    rcases List.mem_append.1 hq with hq | hq
    · exact h.sub q hq
    · rw [List.mem_singleton] at hq
      subst hq
      exact List.mem_map.2 ⟨_, hp, rfl⟩
  · rw [List.map_append, List.nodup_append]
    exact ⟨h.nd, by simp, fun a ha b hb e => by simp at hb; subst hb; subst e; exact hnot ha⟩
  · intro q hq
    rcases List.mem_append.1 hq with hq | hq
    · exact (ha3 q hq).far hty
    · rw [List.mem_singleton] at hq
      subst hq
      exact har.far hty
theorem info_row : (Try.prog.info? 58).map (fun i => (i.zero, i.size, i.bytes)) = some (some (.agg #[.int .u64 0, .string ⟨#[]⟩, .string ⟨#[]⟩, .int .i64 0, .slice none 0 0, .int .i64 0, .int .u8 0, .int .i64 0, .int .i64 0, .int .i64 0]), 10, 112) := by kernel_rfl
/-- What Rows answers. -/
def RowsR (T : Tb) (w : World) (e : Ending) (w' : World) : Prop :=
  ∃ (v : Value) (S : List Rl), e = .returned v ∧ w'.ownsRow w.heap.size 58 10 v S.length (S.flatMap encT) ∧ S.map coreP = sortV (rowsT T) ∧ (∀ p ∈ S, ArgsB w.heap.size w' p.2) ∧ Below w.heap.size w w'
set_option maxHeartbeats 3200000 in
set_option maxRecDepth 100000 in
theorem rows_tab (f m : Nat) (most : Int) (T : Tb) (w : World) (h : Tab w f m most T) (hl : T.length ≤ 1000000) (hargs : ∀ p ∈ T, p.2.2.args.length ≤ 1000000) :
    Calls Try.prog 31 #[.pointer (some ⟨f, 0, none⟩)] w (RowsR T w) := by
  obtain ⟨ig, hig, hg0, hg1, hg2⟩ := info_parts info_row
  obtain ⟨w1, hrun, hI, hB, hsz⟩ := range_run (P := Try.prog) h.map Try.underlying74
  have hnd := h.keys
  have c1 := h.c1
  have hflt := h.lt
  have HT := Lib.hid h
  clear h
  go_enter Try.func31, Try.ntmps31
  go_wp2_with fail
  go_loopg [2] T.length (fun gk u wr => ∃ acc : List Rl, gk + acc.length = T.length ∧ Rg m T w u acc wr)
  case atStart => exact ⟨[], by simp, ⟨hI, hB, World.ownsRow_nil _ _ _ _, by simp, List.nodup_nil, by simp⟩⟩
  case round =>
    clear hI hrun hB hsz w1
    obtain ⟨acc, hlen, hR⟩ := hrel
    rcases hR.it.next (P := Try.prog) 0 with ⟨hall, hrun⟩ | ⟨p, hp, hnotin, w2, hrun, hI2, hO2, hent⟩
    · have hG := Lib.hid (gathered hnd hR.sub hR.nd hall)
      have HR := Lib.hid hR
      have hll : acc.length ≤ 1000000 := Nat.le_trans hR.len hl
      clear hall hR c1
      go_wp2_with fail
      refine (sortRows_own acc _ HR.out.nd HR.out.own hll).mono ?_
      rintro e w3 ⟨rfl, hown3, hg3⟩
      have HO := Lib.hid hown3
      have HB3 := Lib.hid (HR.out.low.grown hg3 HR.out.low.size (fun b hb => by have := (HR.out.own.lt b hb).1; omega))
      have HA3 : Hid (∀ p ∈ sortV acc, ArgsB w.heap.size w3 p.2) := fun p hp => ((HR.out.args p ((sortV_perm acc).mem_iff.1 hp)).far (fun i cur hi => by
        refine hg3.block i (Array.getElem?_eq_some_iff.1 hi).1 (fun e => ?_)
        obtain ⟨_, ⟨rfl, _⟩ | ⟨g, cap, cur', rfl, _, h2, _⟩⟩ := HR.out.own
        · cases e
        · injection e with e
          change i = g at e
          subst e
          rw [h2] at hi
          injection hi with hi
          injection hi with _ hi _
          exact absurd hi (by decide))).base (Nat.le_succ _)
      clear hown3 hg3 HR
      go_wp2_with fail
      go_ret
      exact ⟨_, sortV acc, rfl, owns_base HO.out (Nat.le_succ _), hG.out, HA3.out, HB3.out⟩
    · have hstep := hR.step hI2 hO2
      have he2 := hent w2 rfl rfl
      unfold mapT at hp
      obtain ⟨q, hq, rfl⟩ := List.mem_map.1 hp
      obtain ⟨n, b, r⟩ := q
      simp only at hnotin hI2 hstep hrun he2
      have hsz2 : w.heap.size < w2.heap.size := hI2.lt.1
      have hHB : w2.heap[b]? = some (rowO n r) ∧ Args w2 r := by
        have hTr := HT.out.row _ hq
        have hlow := hstep.1
        exact ⟨(hlow.block _ (Array.getElem?_eq_some_iff.1 hTr.1).1).trans hTr.1, Args.far hTr.2 (fun i cur hi => hlow.block i (Array.getElem?_eq_some_iff.1 hi).1)⟩
      have hal := hargs _ hq
      have HQ := Lib.hid hq
      have HN := Lib.hid hnotin
      have HR := Lib.hid hR
      have HI2 := Lib.hid hI2
      have HS := Lib.hid hstep
      have HHB := Lib.hid hHB
      have hlen2 := hR.len
      unfold encN evP at hrun he2
      clear hR hI2 hO2 hent c1 hp hq hnotin hstep hHB
      go_wp2_with fail
      refine (told_any b n r w2 HHB.out.1 HHB.out.2 hal).mono ?_
      rintro e w3 ⟨aa, ac, rfl, ho, hB⟩
      have HI3 := Lib.hid (HI2.out.block (hB.block _ HI2.out.lt.2.1) (hB.block _ HI2.out.lt.1))
      have HB3 := Lib.hid (HS.out.1.trans (hB.mono (by omega)))
      have HO3 := Lib.hid (own_below HS.out.2.1 hB)
      have HA3 : Hid (∀ p ∈ acc, ArgsB (w.heap.size + 1) w3 p.2) := fun p hp => (HS.out.2.2 p hp).far (fun i cur hi => hB.block i (Array.getElem?_eq_some_iff.1 hi).1)
      have HAR : Hid (ArgsB (w.heap.size + 1) w3 { r with aa := aa, ac := ac }) := owns_base ho (by omega)
      have hs3 : w.heap.size < w3.heap.size := by have := hB.size; omega
      have hcap : acc.length ≤ T.length := hlen2
      unfold rowV
      clear ho hB HI2 HS HHB he2 hrun
      go_wp2_with (at_builtin; refine wpList_append_own _ rfl _ _ 64 rfl (w.heap.size + 1) 58 ig (.agg #[.int .u64 0, .string ⟨#[]⟩, .string ⟨#[]⟩, .int .i64 0, .slice none 0 0, .int .i64 0, .int .u8 0, .int .i64 0, .int .i64 0, .int .i64 0]) 10 112 Try.underlying64 hig hg0 hg1 hg2 rfl (by decide) _ _ _ rfl (HO3.out.alloc _) ⟨w3.heap.size, 0, none⟩ 1 1 (encT (n, { r with aa := aa, ac := ac })) rfl rfl ?c1 ?c2 ?c3 ?c4 ?c5 ?_)
      case c1 =>
        intro j u hj
        match j with
        | 0 => simp [encT] at hj; subst hj; simp [go_sem, Addr.add]
        | 1 => simp [encT] at hj; subst hj; simp [go_sem, Addr.add]
        | 2 => simp [encT] at hj; subst hj; simp [go_sem, Addr.add]
        | 3 => simp [encT] at hj; subst hj; simp [go_sem, Addr.add]
        | 4 => simp [encT] at hj; subst hj; simp [go_sem, Addr.add]
        | 5 => simp [encT] at hj; subst hj; simp [go_sem, Addr.add]
        | 6 => simp [encT] at hj; subst hj; simp [go_sem, Addr.add]
        | 7 => simp [encT] at hj; subst hj; simp [go_sem, Addr.add]
        | 8 => simp [encT] at hj; subst hj; simp [go_sem, Addr.add]
        | 9 => simp [encT] at hj; subst hj; simp [go_sem, Addr.add]
        | j + 10 => simp [encT] at hj
      case c2 => intro u hu; simp [encT] at hu; rcases hu with rfl | rfl | rfl | rfl | rfl | rfl | rfl | rfl | rfl | rfl <;> rfl
      case c3 => unfold maxLen; omega
      case c4 => omega
      case c5 => simp; omega
      intro v' w4 hown' hgrow _
      have hR2 := HR.out.push HQ.out HN.out HI3.out HB3.out HO3.out HA3.out HAR.out hflt.2.1 hs3 hown' hgrow
      have hlen3 := hR2.len
      simp only [List.length_append, List.length_cons, List.length_nil] at hlen3
      have HR2 := Lib.hid hR2
      clear HR HI3 HB3 HO3 HA3 HAR hown' hgrow hR2
      go_wp2_with fail
      go_roundg (gk - 1)
      case rel => exact ⟨acc ++ [(n, { r with aa := aa, ac := ac })], by simp; omega, HR2.out⟩
      case measure => omega
end Go.Proofs.Ythbkbmkcgpdedaa
