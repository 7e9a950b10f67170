/- What EpochPlays holds while it plays. -/
import Derived.Test.YtbelafkklblidaaPlayLaw2
import Derived.Test.YtbelafkklblidaaBackW22
namespace Go.Proofs.Ytbelafkklblidaa
open Go.RowKit Go.Sort Go.Lib

structure Tq (w0 : World) (f m R0 r : Nat) (L R : List Gr) (la : Int) (v : Value) (w : World) : Prop where
  a : Wk w0 f m L la w
  b : RFen w R0 r v R la
  fR : f < R0
  mR : m < R0
  wR : w0.heap.size ≤ R0
  rl : Rl L R
  la0 : 0 ≤ la
  lo : ∀ p ∈ L, 1 ≤ p.2
  sz : ∀ p ∈ L, p.1.2.size ≤ 9223372036854775807
section
variable {w0 w w' w'' : World} {f m R0 r : Nat} {L R L' R' : List Gr} {la la' : Int} {v v' : Value}
theorem Tq.below (h : Tq w0 f m R0 r L R la v w) (hB : Below w.heap.size w w') : Tq w0 f m R0 r L R la v w' := ⟨h.a.below hB, h.b.below hB, h.fR, h.mR, h.wR, h.rl, h.la0, h.lo, h.sz⟩
theorem Tq.szR (h : Tq w0 f m R0 r L R la v w) : ∀ p ∈ R, p.1.2.size ≤ 9223372036854775807 := fun p hp => h.sz p (h.rl.perm.mem_iff.1 hp)
theorem Tq.ref (h : Tq w0 f m R0 r L R la v w) (hF : Fr (InF f m) w w') : RFen w' R0 r v R la := h.b.fr hF (fun i hi => by have := h.fR; have := h.mR; rcases hi with rfl | rfl <;> assumption)
theorem Tq.both (h : Tq w0 f m R0 r L R la v w) (hN : Fen w' f m L' la') (hF : Fr (InF f m) w w') (hR : RFen w'' R0 r v' R' la') (hFr : Fr (fun i => i = r) w' w'') (rl : Rl L' R') (la0 : 0 ≤ la') (lo : ∀ p ∈ L', 1 ≤ p.2) (sz : ∀ p ∈ L', p.1.2.size ≤ 9223372036854775807) :
    Tq w0 f m R0 r L' R' la' v' w'' := by
  have h1 := h.a.fr hN hF
  have h2 := h.b.lo
  have h3 := h.fR
  have h4 := h.mR
  have h5 := h.wR
  exact ⟨⟨h1.hf, h1.hm, h1.fen.fr hFr (by omega) (by omega), h1.low.trans (hFr.below (fun i hi => by omega) h1.low.size)⟩, hR, h3, h4, h5, rl, la0, lo, sz⟩
theorem Tq.keep {s : Nat} {o : Obj} (h : Tq w0 f m R0 r L R la v w) (hF : Fr (InF f m) w w') (hFr : Fr (fun i => i = r) w' w'') (hs : w.heap[s]? = some o) (h1 : s ≠ f) (h2 : s ≠ m) (h3 : s ≠ r) : w''.heap[s]? = some o := by
  have hlt := (Array.getElem?_eq_some_iff.1 hs).1
  exact (hFr.block s (Nat.lt_of_lt_of_le hlt hF.size) h3).trans ((hF.block s hlt (fun e => by rcases e with e | e; exact h1 e; exact h2 e)).trans hs)
theorem grantL_lo (h : ∀ p ∈ L, 1 ≤ p.2) (h0 : 0 ≤ la) (n : Nm) : ∀ p ∈ grantL L la n, 1 ≤ p.2 := by
  unfold grantL; split
  · intro p hp
    rcases putL_mem hp with rfl | ⟨hp, _⟩
    · show 1 ≤ la + 1; omega
    · exact h p hp
  · exact h
theorem grantL_sz (h : ∀ p ∈ L, p.1.2.size ≤ 9223372036854775807) {n : Nm} (hn : n.2.size ≤ 9223372036854775807) : ∀ p ∈ grantL L la n, p.1.2.size ≤ 9223372036854775807 := by
  unfold grantL; split
  · intro p hp
    rcases putL_mem hp with rfl | ⟨hp, _⟩
    · exact hn
    · exact h p hp
  · exact h
theorem grantN_0 (h0 : 0 ≤ la) (n : Nm) : 0 ≤ grantN L la n := by
  unfold grantN; split <;> omega
theorem takeL_mem {n : Nm} {p : Gr} (hp : p ∈ takeL L n) : p ∈ L := by
  unfold takeL at hp; split at hp
  · exact hp
  · unfold delL at hp; exact (List.mem_filter.1 hp).1
theorem takeL_len (n : Nm) : (takeL L n).length ≤ L.length := by
  unfold takeL; split; exact Nat.le_refl _; unfold delL; exact List.length_filter_le _ _
theorem dropL_mem {j : Int} {p : Gr} (hp : p ∈ dropL L j) : p ∈ L := by unfold dropL at hp; exact (List.mem_filter.1 hp).1
theorem dropL_len (j : Int) : (dropL L j).length ≤ L.length := by unfold dropL; exact List.length_filter_le _ _
theorem RFen.drew {w : World} (h : RFen w R0 r v R la) : RFen w.drew R0 r v R la := h.below (Below.refl _ _).drew
end

/-- What the comparison of the two holds. -/
structure Sr (f m R0 r : Nat) (L R : List Gr) (la : Int) (v : Value) (wq : World) (s1 s2 s3 : Nat) (n : Nm) (ep : Int) (og : Gr) (x : World) : Prop where
  fen1 : Fen x f m L la
  fen2 : RFen x R0 r v R la
  low : Below wq.heap.size wq x
  a0 : x.cell? ⟨s1, 1, none⟩ = some (.int .u64 n.1)
  a1 : x.cell? ⟨s1, 2, none⟩ = some (.string n.2)
  a2 : x.cell? ⟨s1, 3, none⟩ = some (.int .u64 ep)
  b0 : x.cell? ⟨s2, 0, none⟩ = some (.int .u64 og.1.1)
  b1 : x.cell? ⟨s2, 1, none⟩ = some (.string og.1.2)
  b2 : x.cell? ⟨s2, 2, none⟩ = some (.int .u64 og.2)
  c0 : x.cell? ⟨s3, 0, none⟩ = some (.int .u64 og.1.1)
  c1 : x.cell? ⟨s3, 1, none⟩ = some (.string og.1.2)
  c2 : x.cell? ⟨s3, 2, none⟩ = some (.int .u64 og.2)
theorem Sr.next {f m R0 r : Nat} {L R : List Gr} {la : Int} {v : Value} {wq : World} {s1 s2 s3 : Nat} {n : Nm} {ep : Int} {og : Gr} {x y : World} (h : Sr f m R0 r L R la v wq s1 s2 s3 n ep og x) (hB : Below x.heap.size x y) : Sr f m R0 r L R la v wq s1 s2 s3 n ep og y :=
  ⟨h.fen1.below hB, h.fen2.below hB, h.low.trans (hB.mono h.low.size), cell_keep hB h.a0, cell_keep hB h.a1, cell_keep hB h.a2, cell_keep hB h.b0, cell_keep hB h.b1, cell_keep hB h.b2, cell_keep hB h.c0, cell_keep hB h.c1, cell_keep hB h.c2⟩
theorem rowner_val (R r : Nat) (v : Value) (l : List Gr) (last : Int) (n : Nm) (w : World) (h : RFen w R r v l last) (hl : l.length ≤ 10000) (hzl : ∀ p ∈ l, p.1.2.size ≤ 9223372036854775807) (hs : n.2.size ≤ 9223372036854775807) {og : Gr} {ob : Bool} (h1 : grV (ownR l n) = .agg #[.int .u64 og.1.1, .string og.1.2, .int .u64 og.2]) (h2 : (ownR l n).isSome = ob) :
    Calls Try.prog 18 #[.pointer (some ⟨r, 0, none⟩), .agg #[.int .u64 n.1, .string n.2]] w fun e w' =>
      e = .returned (.tuple #[.agg #[.int .u64 og.1.1, .string og.1.2, .int .u64 og.2], .bool ob]) ∧ Below w.heap.size w w' := by
  have := rowner_any R r v l last n w h hl hzl hs
  rwa [h1, h2] at this
theorem NewP.not {last : Int} {rows : List Gr} {w w' : World} {e : Ending} (h0 : newE last rows ≠ 0) (h : NewP last rows w e w') : e = .returned (.tuple #[.pointer none, .int .i64 (newE last rows)]) ∧ Below w.heap.size w w' := by
  rcases h with ⟨h, _⟩ | ⟨_, h⟩
  · exact absurd h h0
  · exact h
theorem RNewP.not {last : Int} {rows : List Gr} {w w' : World} {e : Ending} (h : RNewP last rows w e w') (h0 : newE last rows ≠ 0) : e = .returned (.tuple #[.pointer none, .int .i64 (newE last rows)]) ∧ Below w.heap.size w w' := by
  rcases h with ⟨h, _⟩ | ⟨_, h⟩
  · exact absurd h h0
  · exact h
theorem RNewP.yes {last : Int} {rows : List Gr} {w w' : World} {e : Ending} (h : RNewP last rows w e w') (h0 : newE last rows = 0) :
    ∃ r v, e = .returned (.tuple #[.pointer (some ⟨r, 0, none⟩), .int .i64 0]) ∧ RFen w' w.heap.size r v (rowsR rows) last ∧ (rowsR rows).Perm rows ∧ Below w.heap.size w w' := by
  rcases h with ⟨_, h⟩ | ⟨h, _⟩
  · exact h
  · exact absurd h0 h
theorem newE_nodup {last : Int} {rows : List Gr} (h : newE last rows = 0) : (rows.map (·.1)).Nodup := by
  unfold newE at h
  split at h
  · cases h
  · split at h
    · cases h
    · rename_i hh; exact Classical.not_not.1 hh
theorem newE_lo {last : Int} {rows : List Gr} (h : newE last rows = 0) : ∀ p ∈ rows, 1 ≤ p.2 := by
  unfold newE at h
  split at h
  · cases h
  · rename_i hh
    intro p hp
    have h1 : rows.any (badG last) = false := by
      cases hb : rows.any (badG last)
      · rfl
      · exact absurd (.inr hb) hh
    have h2 := List.any_eq_false.1 h1 p hp
    unfold badG at h2
    simp at h2
    omega
def stepOb (x : Stp) : Obj := .cells #[.int .i64 x.1, .int .u64 x.2.1.1, .string x.2.1.2, .int .u64 x.2.2] 37 (0, 0)
theorem stepO_cells {w : World} {s : Nat} {op ep : Int} {n : Nm} (h : w.heap[s]? = some (stepOb (op, n, ep))) : w.cell? ⟨s, 0, none⟩ = some (.int .i64 op) ∧ w.cell? ⟨s, 1, none⟩ = some (.int .u64 n.1) ∧ w.cell? ⟨s, 2, none⟩ = some (.string n.2) ∧ w.cell? ⟨s, 3, none⟩ = some (.int .u64 ep) := by
  refine ⟨?_, ?_, ?_, ?_⟩ <;> simp [World.cell?, h, stepOb]
end Go.Proofs.Ytbelafkklblidaa
