/- Contract: Rows. -/
import Derived.Test.YtbelafkklblidaaEpoch8
import Derived.OwnWalk
namespace Go.Proofs.Ytbelafkklblidaa
open Go.RowKit Go.Sort Go.Lib

theorem owns_monoG {w : World} {B B' : Nat} {E : TypeId} {size : Nat} {v : Value} {n : Nat} {xs : List Value} (h : w.ownsRow B E size v n xs) (hb : B' ≤ B) : w.ownsRow B' E size v n xs := by
  obtain ⟨h0, h | ⟨g, cap, cur, hv, h1, h2⟩⟩ := h
  · exact ⟨h0, .inl h⟩
  · exact ⟨h0, .inr ⟨g, cap, cur, hv, Nat.le_trans hb h1, h2⟩⟩

theorem info_grant : (Try.prog.info? 43).map (fun i => (i.zero, i.size, i.bytes)) = some (some (.agg #[.int .u64 0, .string ⟨#[]⟩, .int .u64 0]), 3, 32) := by kernel_rfl

/-- All names handed out: what was gathered sorts as the map does. -/
theorem sortG_gathered {l acc : List Gr} (hn : (l.map (·.1)).Nodup) (hs : ∀ p ∈ acc, p ∈ l) (ha : (acc.map (·.1)).Nodup) (hall : ∀ p ∈ l, p.1 ∈ acc.map (·.1)) : sortG acc = sortG l := by
  refine (sortG_unique hn ?_ (sortG_sorted acc)).symm
  refine (sortG_perm acc).trans ?_
  refine (List.perm_ext_iff_of_nodup (List.Pairwise.of_map (S := (· ≠ ·)) _ (fun a b h e => h (by rw [e])) ha) (List.Pairwise.of_map (S := (· ≠ ·)) _ (fun a b h e => h (by rw [e])) hn)).2 fun a => ⟨hs a, fun h => ?_⟩
  obtain ⟨q, hq, he⟩ := List.mem_map.1 (hall a h)
  rwa [← eq_of_key hn (hs q hq) h he]

structure Rg (f m : Nat) (l : List Gr) (last : Int) (w : World) (u : Value) (acc : List Gr) (wr : World) : Prop where
  it : IterL evU wr w.heap.size m l (acc.map (·.1))
  low : Below w.heap.size w wr
  own : wr.ownsRow (w.heap.size + 1) 43 3 u acc.length (acc.flatMap encG)
  sub : ∀ p ∈ acc, p ∈ l
  nd : (acc.map (·.1)).Nodup

theorem Rg.len {f m : Nat} {l : List Gr} {last : Int} {w : World} {u : Value} {acc : List Gr} {wr : World} (h : Rg f m l last w u acc wr) : acc.length ≤ l.length := by
  have := List.Nodup.length_le_of_subset h.nd (l₂ := l.map (·.1)) (fun n hn => by
    obtain ⟨q, hq, rfl⟩ := List.mem_map.1 hn
    exact List.mem_map.2 ⟨q, h.sub q hq, rfl⟩)
  simpa using this

theorem owns_block {w w' : World} {B : Nat} {E : TypeId} {size : Nat} {v : Value} {n : Nat} {xs : List Value} (h : w.ownsRow B E size v n xs) (hb : ∀ i, B ≤ i → w'.heap[i]? = w.heap[i]?) : w'.ownsRow B E size v n xs := by
  obtain ⟨h0, h | ⟨g, cap, cur, hv, h1, h2, h3⟩⟩ := h
  · exact ⟨h0, .inl h⟩
  · exact ⟨h0, .inr ⟨g, cap, cur, hv, h1, (hb g h1).trans h2, h3⟩⟩

/-- One entry more. -/
theorem Rg.next {f m : Nat} {l : List Gr} {last : Int} {w : World} {u v' : Value} {acc : List Gr} {wr w2 w' : World} {p : Gr} {o1 o2 : Obj} (h : Rg f m l last w u acc wr) (hm : m < w.heap.size)
    (hp : p ∈ l) (hnot : p.1 ∉ acc.map (·.1)) (hI2 : IterL evU w2 w.heap.size m l (acc.map (·.1) ++ [p.1]))
    (hO : w2.os = wr.os ∧ w2.tape = wr.tape ∧ w2.output = wr.output ∧ w2.heap.size = wr.heap.size ∧ (∀ i, i ≠ w.heap.size → w2.heap[i]? = wr.heap[i]?))
    (hown : w'.ownsRow (w.heap.size + 1) 43 3 v' (acc.length + 1) (acc.flatMap encG ++ encG p)) (hg : ((w2.alloc o1).alloc o2).grownBy w' u.ownBlock) : Rg f m l last w v' (acc ++ [p]) w' := by
  have hlt := hI2.lt
  have hob : ∀ b, u.ownBlock = some b → w.heap.size + 1 ≤ b := by
    intro b hb
    obtain ⟨_, ⟨rfl, _⟩ | ⟨g, cap, cur, rfl, hb2, _⟩⟩ := h.own
    · cases hb
    · simp [Value.ownBlock] at hb; omega
  have hsame : ∀ i, i < w.heap.size + 1 → w'.heap[i]? = w2.heap[i]? := fun i hi => by
    have h1 := hg.block i (by simp; omega) (fun e => by have := hob i e.symm; omega)
    have h2 : Below w2.heap.size w2 ((w2.alloc o1).alloc o2) := ((Below.refl _ _).alloc (Nat.le_refl _) _).alloc (by simp) _
    exact h1.trans (h2.block i (by omega))
  refine ⟨?_, ?_, ?_, ?_, ?_⟩
  · rw [List.map_append]; exact hI2.block (hsame m (by omega)) (hsame _ (by omega))
  · exact ⟨hg.os.trans (hO.1.trans h.low.os), hg.tape.trans (hO.2.1.trans h.low.tape), hg.output.trans (hO.2.2.1.trans h.low.output),
      by have h1 := hg.size; have h2 := h.low.size; have h3 := hO.2.2.2.1; simp at h1; omega,
      fun i hi => (hsame i (by omega)).trans ((hO.2.2.2.2 i (by omega)).trans (h.low.block i hi))⟩
  · rw [List.length_append, List.flatMap_append]; simpa using hown
  · intro q hq; rw [List.mem_append] at hq
    rcases hq with hq | hq
    · exact h.sub q hq
    · simp at hq; subst hq; exact hp
  · rw [List.map_append, List.nodup_append]
    exact ⟨h.nd, by simp, fun a ha b hb e => by simp at hb; subst hb; subst e; exact hnot ha⟩

set_option maxHeartbeats 1600000 in
set_option maxRecDepth 100000 in
theorem rows_any (f m : Nat) (l : List Gr) (last : Int) (w : World) (h : Fen w f m l last) (hl : l.length ≤ 1000000) :
    Calls Try.prog 22 #[.pointer (some ⟨f, 0, none⟩)] w fun e w' =>
      ∃ v, e = .returned v ∧ w'.ownsRow w.heap.size 43 3 v (sortG l).length ((sortG l).flatMap encG) ∧ Below w.heap.size w w' := by
  obtain ⟨ig, hig, hg0, hg1, hg2⟩ := info_parts info_grant
  obtain ⟨w1, hrun, hI, hB, hsz⟩ := range_run (P := Try.prog) h.map Try.underlying59
  have hnd : (l.map (·.1)).Nodup := by obtain ⟨_, _, _, _, h, _⟩ := h.map; exact h
  have c0 := h.c0
  have hflt := h.lt
  go_enter Try.func22, Try.ntmps22
  go_wp2_with fail
  go_loopg [2] l.length (fun gk u wr => ∃ acc : List Gr, gk + acc.length = l.length ∧ Rg f m l last w u acc wr)
  case atStart => exact ⟨[], by simp, ⟨hI, hB, World.ownsRow_nil _ _ _ _, by simp, List.nodup_nil⟩⟩
  case round =>
    clear hI hrun hB hsz w1
    obtain ⟨acc, hlen, hR⟩ := hrel
    rcases hR.it.next (P := Try.prog) 0 with ⟨hall, hrun⟩ | ⟨p, hp, hnotin, w2, hrun, hI2, hO2, hent⟩
    · have hG := Lib.hid (sortG_gathered hnd hR.sub hR.nd hall)
      clear hall
      have hown := hR.own
      have hB := hR.low
      have hnd2 := hR.nd
      have hrl := hR.it.lt.1
      have hll : acc.length ≤ 1000000 := Nat.le_trans hR.len hl
      clear hR c0
      go_wp2_with fail
      refine (sortGrants_own acc _ hnd2 hown hll hrl).mono ?_
      rintro e w3 ⟨rfl, hown3, hB3⟩
      rw [hG.out] at hown3
      have hB4 := hB.trans (hB3.mono (by omega))
      clear hown hB hB3
      go_wp2_with fail
      go_ret
      exact ⟨_, rfl, owns_monoG hown3 (by omega), hB4⟩
    · have hO : (w2.os = wr.os ∧ w2.tape = wr.tape ∧ w2.output = wr.output ∧ w2.heap.size = wr.heap.size ∧ (∀ i, i ≠ w.heap.size → w2.heap[i]? = wr.heap[i]?)) := hO2
      have he2 := hent w2 rfl rfl
      have hlen2 := hR.len
      have hown : w2.ownsRow (w.heap.size + 1) 43 3 _ acc.length (acc.flatMap encG) := owns_block hR.own (fun i hi => hO.2.2.2.2 i (by omega))
      have HR := Lib.hid hR
      have HI2 := Lib.hid hI2
      have HO := Lib.hid hO
      have hsz2 : w.heap.size < w2.heap.size := hI2.lt.1
      unfold encN evU at hrun he2
      clear hR hI2 hO hO2 hent c0
      go_wp2_with (at_builtin; refine wpList_append_own _ rfl _ _ 23 rfl (w.heap.size + 1) 43 ig (.agg #[.int .u64 0, .string ⟨#[]⟩, .int .u64 0]) 3 32 Try.underlying23 hig hg0 hg1 hg2 rfl (by decide) _ _ _ rfl ((hown.alloc _).alloc _) ⟨w2.heap.size + 1, 0, none⟩ 1 1 (encG p) rfl rfl ?c1 ?c2 ?c3 ?c4 ?c5 ?_)
      case c1 =>
        intro j u hj
        match j with
        | 0 => simp [encG] at hj; subst hj; simp [go_sem, Addr.add]
        | 1 => simp [encG] at hj; subst hj; simp [go_sem, Addr.add]
        | 2 => simp [encG] at hj; subst hj; simp [go_sem, Addr.add]
        | j + 3 => simp [encG] at hj
      case c2 => intro u hu; simp [encG] at hu; rcases hu with rfl | rfl | rfl <;> rfl
      case c3 => unfold maxLen; omega
      case c4 => omega
      case c5 => simp; omega
      intro v' w4 hown' hgrow _
      have hR2 := HR.out.next hflt.2.1 hp hnotin HI2.out HO.out hown' hgrow
      have hlen3 := hR2.len
      simp only [List.length_append, List.length_cons, List.length_nil] at hlen3
      clear HR HI2 HO hown hown' hgrow
      go_wp2
      go_roundg (gk - 1)
      case rel => exact ⟨acc ++ [p], by simp; omega, hR2⟩
      case measure => omega
end Go.Proofs.Ytbelafkklblidaa
