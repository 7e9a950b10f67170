/- What EpochFences holds while it plays its script. -/
import Derived.Test.YtbelafkklblidaaOwnFar
import Derived.Test.YtbelafkklblidaaFenceLaw2
import Derived.Test.YtbelafkklblidaaOpenS22
namespace Go.Proofs.Ytbelafkklblidaa
open Go.RowKit Go.Sort Go.Lib

abbrev GT : TypeId := 43
theorem own_readsG {w : World} {B : Nat} {v : Value} {l : List Gr} (h : w.ownsRow B GT 3 v l.length (l.flatMap encG)) : ReadsK encG 3 w v l :=
  own_readsK (enc := encG) (k := 3) (fun _ => rfl) (by decide) h
/-- A grant that was laid ahead of an append. -/
theorem grant_cells {w : World} (p : Gr) (b : Nat) {E : TypeId} (h : b = w.heap.size) : ∀ j u, (encG p)[j]? = some u → (w.alloc (.cells #[.int .u64 p.1.1, .string p.1.2, .int .u64 p.2] E (0, 0))).cell? ((⟨b, 0, none⟩ : Addr).add j) = some u := by
  subst h
  intro j u hj
  match j with
  | 0 => simp [encG] at hj; subst hj; simp [go_sem, Addr.add]
  | 1 => simp [encG] at hj; subst hj; simp [go_sem, Addr.add]
  | 2 => simp [encG] at hj; subst hj; simp [go_sem, Addr.add]
  | j + 3 => simp [encG] at hj
theorem grant_one (p : Gr) : ∀ u ∈ encG p, u.oneCell' = true := by intro u hu; simp [encG] at hu; rcases hu with rfl | rfl | rfl <;> rfl
structure Fe (w0 : World) (f m B : Nat) (L : List Gr) (la : Int) (D V : List Gr) (d v : Value) (w : World) : Prop where
  wk : Wk w0 f m L la w
  fB : f < B
  mB : m < B
  wB : w0.heap.size ≤ B
  Bw : B ≤ w.heap.size
  od : w.ownsRow B GT 3 d D.length (D.flatMap encG)
  ov : w.ownsRow B GT 3 v V.length (V.flatMap encG)
  ap : Apart d v
section
variable {w0 w w' : World} {f m B : Nat} {L L' D V : List Gr} {la la' : Int} {d v : Value}
theorem Fe.below (h : Fe w0 f m B L la D V d v w) (hB : Below w.heap.size w w') : Fe w0 f m B L la D V d v w' :=
  ⟨h.wk.below hB, h.fB, h.mB, h.wB, Nat.le_trans h.Bw hB.size, own_below h.od hB, own_below h.ov hB, h.ap⟩
theorem Fe.moved (h : Fe w0 f m B L la D V d v w) (hN : Fen w' f m L' la') (hF : Fr (InF f m) w w') : Fe w0 f m B L' la' D V d v w' := by
  have hf := h.fB
  have hm := h.mB
  refine ⟨h.wk.fr hN hF, h.fB, h.mB, h.wB, Nat.le_trans h.Bw hF.size, own_fr h.od hF ?_, own_fr h.ov hF ?_, h.ap⟩
  · intro i hi hs; have := (h.od.lt i hi).1; rcases hs with rfl | rfl <;> omega
  · intro i hi hs; have := (h.ov.lt i hi).1; rcases hs with rfl | rfl <;> omega
theorem Fe.keep {s : Nat} {o : Obj} (h : Fe w0 f m B L la D V d v w) (hF : Fr (InF f m) w w') (hb : B ≤ s) (hs : w.heap[s]? = some o) : w'.heap[s]? = some o := by
  have hf := h.fB
  have hm := h.mB
  exact (hF.block s (Array.getElem?_eq_some_iff.1 hs).1 (fun e => by rcases e with rfl | rfl <;> omega)).trans hs
theorem Fe.wkRow {row : Option Nat} (h : Fe w0 f m B L la D V d v w) (hF : Fr (fun i => some i = row) w w') (hr : ∀ i, row = some i → B ≤ i) : Wk w0 f m L la w' := by
  have hf := h.fB
  have hm := h.mB
  have hw := h.wB
  refine ⟨h.wk.hf, h.wk.hm, h.wk.fen.fr hF (fun e => by have := hr f e.symm; omega) (fun e => by have := hr m e.symm; omega), h.wk.low.trans (hF.below (fun i hi => by have := hr i hi.symm; omega) h.wk.low.size)⟩
end

/-- .. while the list of what lives is made anew. -/
structure Fi (w0 : World) (f m B s : Nat) (o : Obj) (L : List Gr) (la : Int) (n : Nm) (D0 V : List Gr) (v : Value) (k : Nat) (D U : List Gr) (d u : Value) (w : World) : Prop where
  e : Fe w0 f m B L la D V d v w
  ou : w.ownsRow B GT 3 u U.length (U.flatMap encG)
  av : Apart u v
  ad : Apart u d
  so : w.heap[s]? = some o
  sv : v.ownBlock ≠ some s
  sd : d.ownBlock ≠ some s
  su : u.ownBlock ≠ some s
  dd : ∀ q ∈ D, q ∈ D0 ∨ (q ∈ V ∧ q.1 = n)
  uu : ∀ q ∈ U, q ∈ V
  len : D.length + U.length = D0.length + k
section
variable {w0 w w' : World} {f m B s : Nat} {o : Obj} {L : List Gr} {la : Int} {n : Nm} {D0 V : List Gr} {v : Value} {k : Nat} {D U : List Gr} {d u d' u' : Value} {p : Gr}
theorem Fi.slt (h : Fi w0 f m B s o L la n D0 V v k D U d u w) : s < w.heap.size := (Array.getElem?_eq_some_iff.1 h.so).1
theorem Fi.below (h : Fi w0 f m B s o L la n D0 V v k D U d u w) (hB : Below w.heap.size w w') : Fi w0 f m B s o L la n D0 V v k D U d u w' :=
  ⟨h.e.below hB, own_below h.ou hB, h.av, h.ad, (hB.block s h.slt).trans h.so, h.sv, h.sd, h.su, h.dd, h.uu, h.len⟩
theorem Fi.start (h : Fe w0 f m B L la D0 V d v w) (hs : w.heap[s]? = some o) (sv : v.ownBlock ≠ some s) (sd : d.ownBlock ≠ some s) : Fi w0 f m B s o L la n D0 V v 0 D0 [] d (.slice none 0 0) w :=
  ⟨h, World.ownsRow_nil _ _ _ _, Apart.nil, Apart.nil, hs, sv, sd, by simp [Value.ownBlock], fun q hq => .inl hq, by simp, by simp⟩
theorem Fi.dead (h : Fi w0 f m B s o L la n D0 V v k D U d u w) (hF : Fr (fun i => some i = d.ownBlock) w w') (ho : w'.ownsRow B GT 3 d' (D.length + 1) (D.flatMap encG ++ encG p)) (hs : Stays w d d') (hp : p ∈ V) (hn : p.1 = n) :
    Fi w0 f m B s o L la n D0 V v (k + 1) (D ++ [p]) U d' u w' := by
  refine ⟨⟨h.e.wkRow hF (fun i hi => (h.e.od.lt i hi).1), h.e.fB, h.e.mB, h.e.wB, Nat.le_trans h.e.Bw hF.size, ?_, own_fr h.e.ov hF (fun i hi e => h.e.ap i e.symm hi), ?_⟩, own_fr h.ou hF (fun i hi e => h.ad i hi e.symm), h.av, ?_, ?_, h.sv, ?_, h.su, ?_, h.uu, ?_⟩
  · rw [List.length_append, List.flatMap_append]; simpa using ho
  · exact (hs.apart h.e.ap.symm (fun b hb => (h.e.ov.lt b hb).2)).symm
  · exact hs.apart h.ad (fun b hb => (h.ou.lt b hb).2)
  · exact (hF.block s h.slt (fun e => h.sd e.symm)).trans h.so
  · exact hs.ne h.sd h.slt
  · intro q hq
    rw [List.mem_append] at hq
    rcases hq with hq | hq
    · exact h.dd q hq
    · simp at hq; subst hq; exact .inr ⟨hp, hn⟩
  · have := h.len; rw [List.length_append]; simp only [List.length_cons, List.length_nil]; omega
theorem Fi.live (h : Fi w0 f m B s o L la n D0 V v k D U d u w) (hF : Fr (fun i => some i = u.ownBlock) w w') (ho : w'.ownsRow B GT 3 u' (U.length + 1) (U.flatMap encG ++ encG p)) (hs : Stays w u u') (hp : p ∈ V) :
    Fi w0 f m B s o L la n D0 V v (k + 1) D (U ++ [p]) d u' w' := by
  refine ⟨⟨h.e.wkRow hF (fun i hi => (h.ou.lt i hi).1), h.e.fB, h.e.mB, h.e.wB, Nat.le_trans h.e.Bw hF.size, own_fr h.e.od hF (fun i hi e => h.ad i e.symm hi), own_fr h.e.ov hF (fun i hi e => h.av i e.symm hi), h.e.ap⟩, ?_, ?_, ?_, ?_, h.sv, h.sd, ?_, h.dd, ?_, ?_⟩
  · rw [List.length_append, List.flatMap_append]; simpa using ho
  · exact (hs.apart h.av.symm (fun b hb => (h.e.ov.lt b hb).2)).symm
  · exact (hs.apart h.ad.symm (fun b hb => (h.e.od.lt b hb).2)).symm
  · exact (hF.block s h.slt (fun e => h.su e.symm)).trans h.so
  · exact hs.ne h.su h.slt
  · intro q hq
    rw [List.mem_append] at hq
    rcases hq with hq | hq
    · exact h.uu q hq
    · simp at hq; subst hq; exact hp
  · have := h.len; rw [List.length_append]; simp only [List.length_cons, List.length_nil]; omega
/-- The list is made: the new grant behind it, and it is what lives from now on. -/
theorem Fi.done (h : Fi w0 f m B s o L la n D0 V v k D U d u w) (hF : Fr (fun i => some i = u.ownBlock) w w') (ho : w'.ownsRow B GT 3 u' (U.length + 1) (U.flatMap encG ++ encG p)) (hs : Stays w u u') :
    Fe w0 f m B L la D (U ++ [p]) d u' w' ∧ w'.heap[s]? = some o := by
  refine ⟨⟨h.e.wkRow hF (fun i hi => (h.ou.lt i hi).1), h.e.fB, h.e.mB, h.e.wB, Nat.le_trans h.e.Bw hF.size, own_fr h.e.od hF (fun i hi e => h.ad i e.symm hi), ?_, ?_⟩, (hF.block s h.slt (fun e => h.su e.symm)).trans h.so⟩
  · rw [List.length_append, List.flatMap_append]; simpa using ho
  · exact hs.apart h.ad.symm (fun b hb => (h.e.od.lt b hb).2)
end

/-- What the script has made of the three lists. -/
structure Fp (k : Nat) (L D V : List Gr) (la : Int) : Prop where
  inv : DeadInv L D V la
  la0 : 0 ≤ la
  lk : L.length ≤ k
  dk : D.length + V.length ≤ k
  zd : ∀ p ∈ D, p.1.2.size ≤ 9223372036854775807
  zv : ∀ p ∈ V, p.1.2.size ≤ 9223372036854775807
theorem Fp.start : Fp 0 [] [] [] 0 := ⟨DeadInv.start, by decide, by simp, by simp, by simp, by simp⟩
theorem Fp.same {k : Nat} {L D V : List Gr} {la : Int} (h : Fp k L D V la) : Fp (k + 1) L D V la :=
  ⟨h.inv, h.la0, by have := h.lk; omega, by have := h.dk; omega, h.zd, h.zv⟩
theorem Fp.take {k : Nat} {L D V : List Gr} {la : Int} (h : Fp k L D V la) (n : Nm) : Fp (k + 1) (takeL L n) D V la := by
  have hs : ∀ p ∈ takeL L n, p ∈ L := by
    intro p hp; unfold takeL at hp; split at hp
    · exact hp
    · unfold delL at hp; exact (List.mem_filter.1 hp).1
  refine ⟨h.inv.sub hs, h.la0, ?_, by have := h.dk; omega, h.zd, h.zv⟩
  have hl : (takeL L n).length ≤ L.length := by unfold takeL; split; exact Nat.le_refl _; unfold delL; exact List.length_filter_le _ _
  have := h.lk; omega
theorem Fp.drop {k : Nat} {L D V : List Gr} {la : Int} (h : Fp k L D V la) (j : Int) : Fp (k + 1) (dropL L j) D V la := by
  refine ⟨h.inv.sub (fun p hp => by unfold dropL at hp; exact (List.mem_filter.1 hp).1), h.la0, ?_, by have := h.dk; omega, h.zd, h.zv⟩
  have hl : (dropL L j).length ≤ L.length := by unfold dropL; exact List.length_filter_le _ _
  have := h.lk; omega
theorem putL_len (l : List Gr) (n : Nm) (x : Int) : (putL l n x).length ≤ l.length + 1 := by
  unfold putL; split <;> simp
theorem Fp.grant {k : Nat} {L D V D' U : List Gr} {la : Int} {n : Nm} (h : Fp k L D V la) (hn : n.2.size ≤ 9223372036854775807) (hD : ∀ q ∈ D', q ∈ D ∨ (q ∈ V ∧ q.1 = n)) (hU : ∀ q ∈ U, q ∈ V) (hl : D'.length + U.length = D.length + V.length) :
    Fp (k + 1) (putL L n (la + 1)) D' (U ++ [(n, la + 1)]) (la + 1) := by
  refine ⟨h.inv.grant hD ?_, by have := h.la0; omega, by have := putL_len L n (la + 1); have := h.lk; omega, ?_, ?_, ?_⟩
  · intro q hq; rw [List.mem_append] at hq
    rcases hq with hq | hq
    · exact .inl (hU q hq)
    · simp at hq; exact .inr hq
  · have := h.dk; rw [List.length_append]; simp only [List.length_cons, List.length_nil]; omega
  · intro p hp
    rcases hD p hp with hp | ⟨hp, _⟩
    · exact h.zd p hp
    · exact h.zv p hp
  · intro p hp; rw [List.mem_append] at hp
    rcases hp with hp | hp
    · exact h.zv p (hU p hp)
    · simp at hp; subst hp; exact hn
/-- What a region with calls holds. -/
theorem held5 {wr x y : World} {f m : Nat} {L : List Gr} {la : Int} {a1 a2 a3 a4 a5 : Addr} {v1 v2 v3 v4 v5 : Value}
    (h : Fen x f m L la ∧ Below wr.heap.size wr x ∧ x.cell? a1 = some v1 ∧ x.cell? a2 = some v2 ∧ x.cell? a3 = some v3 ∧ x.cell? a4 = some v4 ∧ x.cell? a5 = some v5) (hB : Below x.heap.size x y) :
    Fen y f m L la ∧ Below wr.heap.size wr y ∧ y.cell? a1 = some v1 ∧ y.cell? a2 = some v2 ∧ y.cell? a3 = some v3 ∧ y.cell? a4 = some v4 ∧ y.cell? a5 = some v5 := by
  obtain ⟨h0, h00, h1, h2, h3, h4, h5⟩ := h
  have hc : ∀ a v, x.cell? a = some v → y.cell? a = some v := fun a v e => (hB.cell (World.block_lt_of_cell? x a e)).trans e
  exact ⟨h0.below hB, h00.trans (hB.mono h00.size), hc _ _ h1, hc _ _ h2, hc _ _ h3, hc _ _ h4, hc _ _ h5⟩
end Go.Proofs.Ytbelafkklblidaa
