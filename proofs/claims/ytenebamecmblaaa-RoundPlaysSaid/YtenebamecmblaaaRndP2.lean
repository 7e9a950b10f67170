/- RoundPlays: the two maps of the script's own. -/
import Derived.Test.YtenebamecmblaaaRndP1
namespace Go.Proofs.Ytenebamecmblaaa
open Go.RowKit Go.Sort Go.Lib

def Qp (w0 : World) (hm om : Nat) (i : Nat) : Prop := i < w0.heap.size ∨ i = hm ∨ i = om
structure Ph (w0 : World) (hm om : Nat) (H : List (Int × Cr)) (O : List (Nm × Cr)) (w : World) : Prop where
  low : Below w0.heap.size w0 w
  hmap : U.MapL evC w hm H
  omap : MapL evC w om O
  hc : ∀ p ∈ H, CrOk w p.2
  oc : ∀ p ∈ O, CrOk w p.2
  hlo : w0.heap.size ≤ hm
  olo : w0.heap.size ≤ om
  ne : hm ≠ om
section
variable {w0 w w' : World} {hm om r m : Nat} {A : AB} {H : List (Int × Cr)} {O : List (Nm × Cr)}
theorem Ph.q (h : Ph w0 hm om H O w) : ∀ i, Qp w0 hm om i → i < w.heap.size := by
  rintro i (hi | rfl | rfl)
  · exact Nat.lt_of_lt_of_le hi h.low.size
  · exact h.hmap.lt
  · exact h.omap.lt
/-- Some blocks turn, none of these. -/
theorem Ph.keep (h : Ph w0 hm om H O w) (hB : Below w0.heap.size w w') (h1 : w'.heap[hm]? = w.heap[hm]?) (h2 : w'.heap[om]? = w.heap[om]?) (hI : ∀ i, IntB w i → w'.heap[i]? = w.heap[i]?) : Ph w0 hm om H O w' :=
  ⟨h.low.trans hB, h.hmap.block h1, h.omap.block h2, fun p hp => (h.hc p hp).keep hI, fun p hp => (h.oc p hp).keep hI, h.hlo, h.olo, h.ne⟩
theorem Ph.below (h : Ph w0 hm om H O w) (hB : Below w.heap.size w w') : Ph w0 hm om H O w' :=
  h.keep (hB.mono h.low.size) (hB.block _ h.hmap.lt) (hB.block _ h.omap.lt) fun i hi => hB.block i hi.lt
theorem Ph.stp (h : Ph w0 hm om H O w) (hS : Stp (Qp w0 hm om) w w') : Ph w0 hm om H O w' :=
  h.keep (hS.all (fun i hi => .inl hi) h.low.size) (hS.kept h.hmap.lt (.inr (.inl rfl))) (hS.kept h.omap.lt (.inr (.inr rfl))) fun i ⟨cur, hi⟩ => (hS.cells hi (by decide)).trans hi.symm
theorem MapL.no_int {V : Type} {ev : V → Value} {b : Nat} {l : List (Nm × V)} (h : MapL ev w b l) {i : Nat} (hi : IntB w i) : i ≠ b := by
  rintro rfl
  obtain ⟨cur, hi⟩ := hi
  exact h.no_cells hi
theorem U.MapL.no_int {V : Type} {ev : V → Value} {b : Nat} {l : List (Int × V)} (h : U.MapL ev w b l) {i : Nat} (hi : IntB w i) : i ≠ b := by
  rintro rfl
  obtain ⟨cur, hi⟩ := hi
  exact h.no_cells hi
theorem below_only {B b : Nat} (hO : OnlyAt w w' b) (hb : B ≤ b) : Below B w w' := ⟨hO.1, hO.2.1, hO.2.2.1, by rw [hO.2.2.2.1]; exact Nat.le_refl _, fun k hk => hO.2.2.2.2.1 k (by omega)⟩
theorem Ph.hset (h : Ph w0 hm om H O w) (hO : OnlyAt w w' hm) {H' : List (Int × Cr)} (hM : U.MapL evC w' hm H') (hH : ∀ p ∈ H', p ∈ H ∨ CrOk w p.2) : Ph w0 hm om H' O w' := by
  have hI : ∀ i, IntB w i → w'.heap[i]? = w.heap[i]? := fun i hi => hO.2.2.2.2.1 i (h.hmap.no_int hi)
  exact ⟨h.low.trans (below_only hO h.hlo), hM, h.omap.block (hO.2.2.2.2.1 _ (fun e => h.ne e.symm)), fun p hp => by
    rcases hH p hp with hp | hp
    · exact (h.hc p hp).keep hI
    · exact hp.keep hI, fun p hp => (h.oc p hp).keep hI, h.hlo, h.olo, h.ne⟩
theorem Ph.oset (h : Ph w0 hm om H O w) (hO : OnlyAt w w' om) {O' : List (Nm × Cr)} (hM : MapL evC w' om O') (hH : ∀ p ∈ O', p ∈ O ∨ CrOk w p.2) : Ph w0 hm om H O' w' := by
  have hI : ∀ i, IntB w i → w'.heap[i]? = w.heap[i]? := fun i hi => hO.2.2.2.2.1 i (h.omap.no_int hi)
  exact ⟨h.low.trans (below_only hO h.olo), h.hmap.block (hO.2.2.2.2.1 _ h.ne), hM, fun p hp => (h.hc p hp).keep hI, fun p hp => by
    rcases hH p hp with hp | hp
    · exact (h.oc p hp).keep hI
    · exact hp.keep hI, h.hlo, h.olo, h.ne⟩
theorem mem_putU {V : Type} {l : List (Int × V)} {n : Int} {v : V} {p : Int × V} (h : p ∈ U.putL l n v) : p ∈ l ∨ p = (n, v) := by
  unfold U.putL at h
  split at h
  · obtain ⟨q, hq, rfl⟩ := List.mem_map.1 h
    split
    · exact .inr rfl
    · exact .inl hq
  · rcases List.mem_append.1 h with h | h
    · exact .inl h
    · exact .inr (List.mem_singleton.1 h)
theorem mem_putN {V : Type} {l : List (Nm × V)} {n : Nm} {v : V} {p : Nm × V} (h : p ∈ putL l n v) : p ∈ l ∨ p = (n, v) := by
  unfold putL at h
  split at h
  · obtain ⟨q, hq, rfl⟩ := List.mem_map.1 h
    split
    · exact .inr rfl
    · exact .inl hq
  · rcases List.mem_append.1 h with h | h
    · exact .inl h
    · exact .inr (List.mem_singleton.1 h)
theorem Ph.hput (h : Ph w0 hm om H O w) (hO : OnlyAt w w' hm) {n : Int} {c : Cr} (hM : U.MapL evC w' hm (U.putL H n c)) (hc : CrOk w c) : Ph w0 hm om (U.putL H n c) O w' :=
  h.hset hO hM fun p hp => by
    rcases mem_putU hp with hp | rfl
    · exact .inl hp
    · exact .inr hc
theorem Ph.oput (h : Ph w0 hm om H O w) (hO : OnlyAt w w' om) {n : Nm} {c : Cr} (hM : MapL evC w' om (putL O n c)) (hc : CrOk w c) : Ph w0 hm om H (putL O n c) w' :=
  h.oset hO hM fun p hp => by
    rcases mem_putN hp with hp | rfl
    · exact .inl hp
    · exact .inr hc
theorem Ph.hdel (h : Ph w0 hm om H O w) (hO : OnlyAt w w' hm) {n : Int} (hM : U.MapL evC w' hm (U.delL H n)) : Ph w0 hm om (U.delL H n) O w' := h.hset hO hM fun _ hp => .inl (List.mem_filter.1 hp).1
theorem Ph.odel (h : Ph w0 hm om H O w) (hO : OnlyAt w w' om) {n : Nm} (hM : MapL evC w' om (delL O n)) : Ph w0 hm om H (delL O n) w' := h.oset hO hM fun _ hp => .inl (List.mem_filter.1 hp).1
/-- Blocks that are none of the rounds' turn. -/
theorem Rds.far {L : Rd} (h : Rds w r m L) (hk : ∀ i, i = r ∨ RS m L i ∨ IntB w i → w'.heap[i]? = w.heap[i]?) : Rds w' r m L :=
  ⟨(hk r (.inl rfl)).trans h.box, h.map.block (hk m (.inr (.inl (.inl rfl)))), fun p hp => (h.one p hp).keep fun i hi => hk i (by
    rcases hi with rfl | rfl | hi
    · exact .inr (.inl (.inr ⟨p, hp, .inl rfl⟩))
    · exact .inr (.inl (.inr ⟨p, hp, .inr rfl⟩))
    · exact .inr (.inr hi)), h.ndb, h.ndo, h.mo⟩
theorem Wr.far {Q : Nat → Prop} (h : Wr Q r m w A) (b : Nat) (hk : ∀ i, i ≠ b → i < w.heap.size → w'.heap[i]? = w.heap[i]?) (hb : ∀ c t f, w.heap[b]? ≠ some (Obj.cells c t f)) (hq : Q b ∨ ∀ es c, w.heap[b]? ≠ some (.map es c)) : Wr Q r m w' A := by
  obtain ⟨L, h1, h2, h3, h4⟩ := h
  refine ⟨L, h1.far fun i hi => hk i ?_ ?_, h2, h3, h4⟩
  · rintro rfl
    rcases hi with rfl | hi | ⟨cur, hi⟩
    · exact hb _ _ _ h1.box
    · rcases hq with hq | hq
      · exact h4 i hi hq
      · rcases h1.kind hi with ⟨es, c, e⟩ | ⟨cur, e⟩
        · exact hq _ _ e
        · exact hb _ _ _ e
    · exact hb _ _ _ hi
  · rcases hi with rfl | hi | hi
    · exact h1.lt.1
    · exact h1.rs_lt hi
    · exact hi.lt
theorem Wr.honly (h : Wr (Qp w0 hm om) r m w A) (hp : Ph w0 hm om H O w) (hO : OnlyAt w w' hm) : Wr (Qp w0 hm om) r m w' A :=
  h.far hm (fun i hi _ => hO.2.2.2.2.1 i hi) (fun _ _ _ => hp.hmap.no_cells) (.inl (.inr (.inl rfl)))
theorem Wr.oonly (h : Wr (Qp w0 hm om) r m w A) (hp : Ph w0 hm om H O w) (hO : OnlyAt w w' om) : Wr (Qp w0 hm om) r m w' A :=
  h.far om (fun i hi _ => hO.2.2.2.2.1 i hi) (fun _ _ _ => hp.omap.no_cells) (.inl (.inr (.inr rfl)))
theorem Ph.hget (h : Ph w0 hm om H O w) {n : Int} {c : Cr} (hg : U.getL H n = some c) : CrOk w c := by
  obtain ⟨_, _, _, _, hn, _⟩ := h.hmap
  exact h.hc _ ((U.getL_memV hn n c).1 hg)
theorem Ph.oget (h : Ph w0 hm om H O w) {n : Nm} {c : Cr} (hg : getL O n = some c) : CrOk w c := h.oc _ (getL_mem' hg)
theorem Ph.onodup (h : Ph w0 hm om H O w) : (O.map (·.1)).Nodup := by obtain ⟨_, _, _, _, hn, _⟩ := h.omap; exact hn
/-- The lookups. -/
theorem Ph.hlook (h : Ph w0 hm om H O w) (n : Int) : (Instr.lookup 32 (.map (some hm)) (.int .u64 n) true).run Try.prog w = .ok (.tuple #[((U.getL H n).map evC).getD (.slice none 0 0), .bool (U.getL H n).isSome]) w :=
  h.hmap.lookupOk U.nameTy Try.underlying32 (zeroC w) n
theorem Ph.hlook1 (h : Ph w0 hm om H O w) (n : Int) : (Instr.lookup 32 (.map (some hm)) (.int .u64 n) false).run Try.prog w = .ok (((U.getL H n).map evC).getD (.slice none 0 0)) w :=
  h.hmap.lookup U.nameTy Try.underlying32 (zeroC w) n
theorem Ph.olook (h : Ph w0 hm om H O w) (n : Nm) : (Instr.lookup 33 (.map (some om)) (.agg #[.int .u64 n.1, .string n.2]) true).run Try.prog w = .ok (.tuple #[((getL O n).map evC).getD (.slice none 0 0), .bool (getL O n).isSome]) w :=
  h.omap.lookupOk nameTy Try.underlying33 (zeroC w) n
end
/-- Half, whatever it answers. -/
def halfE (l : List Int) : Int := if l = [] then 5 else if 4096 < l.getD (l.length - 1) 0 + 1 then 6 else 0
theorem half_w {l : List Int} {v : Value} {w : World} (h : CrOk w ⟨none, 0, []⟩ → COwn w 0 v l) (hm : mayC l = true) : Calls Try.prog 14 #[v] w fun e w' => ∃ a n c a' n' c', e = .returned (.tuple #[.slice a n c, .slice a' n' c', .int .i64 (halfE l)]) ∧ (halfE l = 0 → n = (keepL l).length ∧ n' = 1 ∧ COwn w' 0 (.slice a n c) (keepL l) ∧ COwn w' 0 (.slice a' n' c') (giveL l)) ∧ Below w.heap.size w w' := by
  have h := h (COwn.nil w 0)
  refine (half_any l v w h.reads (owns_cap h) (Nat.le_trans (mayC_sc hm).len (by decide))).mono ?_
  rintro e w' (⟨c, h0, hc, hl, rfl, hB⟩ | ⟨_, hn, hl, v, u, rfl, hv, hu, _, hB⟩)
  · have he : halfE l = c := by
      unfold halfE
      rw [hc, if_pos hm]
      by_cases hn : l = []
      · rw [if_pos hn, if_pos hn]
      · rw [if_neg hn, if_neg hn, if_pos (hl hm hn)]
    exact ⟨none, 0, 0, none, 0, 0, by rw [he], fun e => absurd (he.symm.trans e) h0, hB⟩
  · have he : halfE l = 0 := by unfold halfE; rw [if_neg hn, if_neg hl]
    obtain ⟨a, c, rfl⟩ := COwn.slice (l := keepL l) hv
    obtain ⟨a', c', rfl⟩ := COwn.slice (l := giveL l) hu
    exact ⟨a, _, c, a', 1, c', by rw [he]; rfl, fun _ => ⟨rfl, rfl, owns_low hv (Nat.zero_le _), owns_low hu (Nat.zero_le _)⟩, hB⟩
theorem cmp_same (l : List Int) : cmpC l l = 0 := by
  have h : ∀ l : List Int, cmpI l l = 0 := fun l => by
    induction l with
    | nil => rfl
    | cons x l ih => unfold cmpI; rw [if_pos rfl]; exact ih
  unfold cmpC
  split
  · exact h l
  · rfl
theorem compare_same {l : List Int} {v u : Value} {w : World} (hv : CrOk w ⟨none, 0, []⟩ → COwn w 0 v l) (hu : COwn w 0 u l) (hl : l.length ≤ 1000000) : Calls Try.prog 16 #[v, u] w fun e w' => e = .returned (.int .i64 0) ∧ Below w.heap.size w w' := by
  refine (ccompare_any l l v u w (COwn.reads (hv (COwn.nil w 0))) hu.reads hl hl).mono ?_
  rintro e w' ⟨rfl, hB⟩
  exact ⟨by rw [cmp_same], hB⟩
end Go.Proofs.Ytenebamecmblaaa
