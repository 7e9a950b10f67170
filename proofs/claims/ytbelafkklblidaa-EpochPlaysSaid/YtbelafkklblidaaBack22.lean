/- Walk: EpochBack. -/
import Derived.Test.YtbelafkklblidaaNewR22
import Derived.Test.YtbelafkklblidaaFence1
import Derived.Deep.CutBlock
import Derived.Deep.RegionHeld3
namespace Go.Proofs.Ytbelafkklblidaa
open Go.RowKit Go.Sort Go.Lib

theorem cell_keep {x y : World} (hB : Below x.heap.size x y) {a : Addr} {v : Value} (h : x.cell? a = some v) : y.cell? a = some v := (hB.cell (World.block_lt_of_cell? x a h)).trans h
theorem grV_form (o : Option Gr) : ∃ g : Gr, grV o = .agg #[.int .u64 g.1.1, .string g.1.2, .int .u64 g.2] := by
  cases o with
  | none => exact ⟨((0, ⟨#[]⟩), 0), rfl⟩
  | some g => exact ⟨g, rfl⟩

/-- What a script leaves in the fences. -/
structure Bp (k : Nat) (L : List Gr) (la : Int) : Prop where
  la0 : 0 ≤ la
  la1 : la ≤ maxE
  lk : L.length ≤ k
  may : ∀ p ∈ L, mayS p.1.2 = true
  lo : ∀ p ∈ L, 1 ≤ p.2
  hi : ∀ p ∈ L, p.2 ≤ la
  sz : ∀ p ∈ L, p.1.2.size ≤ 9223372036854775807
theorem Bp.start : Bp 0 [] 3 := ⟨by decide, by decide, by simp, by simp, by simp, by simp, by simp⟩
section
variable {k : Nat} {L : List Gr} {la : Int}
theorem Bp.same (h : Bp k L la) : Bp (k + 1) L la := ⟨h.la0, h.la1, by have := h.lk; omega, h.may, h.lo, h.hi, h.sz⟩
theorem Bp.sub {L' : List Gr} (h : Bp k L la) (hs : ∀ p ∈ L', p ∈ L) (hl : L'.length ≤ L.length) : Bp (k + 1) L' la :=
  ⟨h.la0, h.la1, by have := h.lk; omega, fun p hp => h.may p (hs p hp), fun p hp => h.lo p (hs p hp), fun p hp => h.hi p (hs p hp), fun p hp => h.sz p (hs p hp)⟩
theorem Bp.take (h : Bp k L la) (n : Nm) : Bp (k + 1) (takeL L n) la := by
  refine h.sub ?_ ?_
  · intro p hp; unfold takeL at hp; split at hp
    · exact hp
    · unfold delL at hp; exact (List.mem_filter.1 hp).1
  · unfold takeL; split; exact Nat.le_refl _; unfold delL; exact List.length_filter_le _ _
theorem Bp.drop (h : Bp k L la) (j : Int) : Bp (k + 1) (dropL L j) la :=
  h.sub (fun p hp => by unfold dropL at hp; exact (List.mem_filter.1 hp).1) (by unfold dropL; exact List.length_filter_le _ _)
theorem grantL_len (L : List Gr) (la : Int) (n : Nm) : (grantL L la n).length ≤ L.length + 1 := by
  unfold grantL; split
  · exact putL_len _ _ _
  · omega
theorem Bp.grant (h : Bp k L la) (n : Nm) (hs : n.2.size ≤ 9223372036854775807) : Bp (k + 1) (grantL L la n) (grantN L la n) := by
  have h0 := h.la0
  have h1 := h.la1
  by_cases he : grantE L la n = 0
  · have hg := grant_yes he
    rw [hg.2.1, hg.2.2]
    have hm : mayS n.2 = true := by
      unfold grantE at he; split at he
      · cases he
      · rename_i hh; simpa using hh
    have hla : la < maxE := by
      unfold grantE at he; rw [hm, if_neg (by simp)] at he; split at he
      · cases he
      · omega
    refine ⟨by omega, by omega, by have := putL_len L n (la + 1); have := h.lk; omega, ?_, ?_, ?_, ?_⟩
    · intro p hp; rcases putL_mem hp with rfl | ⟨hp, _⟩; exact hm; exact h.may p hp
    · intro p hp; rcases putL_mem hp with rfl | ⟨hp, _⟩; show 1 ≤ la + 1; omega; exact h.lo p hp
    · intro p hp; rcases putL_mem hp with rfl | ⟨hp, _⟩; exact Int.le_refl _; have := h.hi p hp; omega
    · intro p hp; rcases putL_mem hp with rfl | ⟨hp, _⟩; exact hs; exact h.sz p hp
  · have hg := grant_no rfl he
    rw [hg.2.1, hg.2.2]; exact h.same
theorem Bp.newE (h : Bp k L la) (hk : k ≤ 1024) (hn : (L.map (·.1)).Nodup) : newE la (sortG L) = 0 := by
  have hp := sortG_perm L
  have hm := h.la1
  have hb : (sortG L).any (badG la) = false := by
    refine List.any_eq_false.2 fun p hq => ?_
    have hq := hp.mem_iff.1 hq
    have h2 := h.lo p hq
    have h3 := h.hi p hq
    simp [badG, h.may p hq]; omega
  unfold Go.Proofs.Ytbelafkklblidaa.newE
  rw [if_neg (by rw [hb]; simp; omega), if_neg (by rw [Classical.not_not]; exact ((hp.map _).nodup_iff).2 hn), if_neg (by rw [hp.length_eq]; have := h.lk; omega)]
end

/-- Two fences that say the same. -/
structure Tw (w0 : World) (f m f2 m2 : Nat) (L M : List Gr) (la : Int) (w : World) : Prop where
  a : Wk w0 f m L la w
  b : Wk w0 f2 m2 M la w
  af : ¬ InF f m f2 ∧ ¬ InF f m m2
  bf : ¬ InF f2 m2 f ∧ ¬ InF f2 m2 m
  sm : Sm L M
section
variable {w0 w w' : World} {f m f2 m2 : Nat} {L M : List Gr} {la : Int}
theorem Tw.below (h : Tw w0 f m f2 m2 L M la w) (hB : Below w.heap.size w w') : Tw w0 f m f2 m2 L M la w' := ⟨h.a.below hB, h.b.below hB, h.af, h.bf, h.sm⟩
/-- .. one has granted, the other one has not yet. -/
theorem Tw.both {n : Nm} {w'' : World} (h : Tw w0 f m f2 m2 L M la w) (h1 : Granted f m L la n w w') (h2 : Granted f2 m2 M la n w' w'') : Tw w0 f m f2 m2 (grantL L la n) (grantL M la n) (grantN L la n) w'' := by
  have ha := h.a.granted h1
  have hb : Wk w0 f2 m2 M la w' := ⟨h.b.hf, h.b.hm, h.b.fen.fr h1.2 h.af.1 h.af.2, ha.low⟩
  have hb2 := hb.granted h2
  refine ⟨⟨h.a.hf, h.a.hm, ha.fen.fr h2.2 h.bf.1 h.bf.2, hb2.low⟩, ?_, h.af, h.bf, h.sm.grantL _ _⟩
  rw [h.sm.grantN]; exact hb2
theorem Tw.second {n : Nm} (h : Tw w0 f m f2 m2 L M la w) (h1 : Granted f m L la n w w') : Fen w' f2 m2 M la := h.b.fen.fr h1.2 h.af.1 h.af.2
end
/-- What the comparison of two fences holds. -/
structure Sb (f m f2 m2 : Nat) (L M : List Gr) (la : Int) (wq : World) (s1 s2 s3 : Nat) (eb : Addr) (n : Nm) (ep : Int) (og : Gr) (x : World) : Prop where
  fen1 : Fen x f m L la
  fen2 : Fen x f2 m2 M la
  low : Below wq.heap.size wq x
  a0 : x.cell? ⟨s1, 0, none⟩ = some (.int .u64 n.1)
  a1 : x.cell? ⟨s1, 1, none⟩ = some (.string n.2)
  b0 : x.cell? ⟨s2, 0, none⟩ = some (.int .u64 og.1.1)
  b1 : x.cell? ⟨s2, 1, none⟩ = some (.string og.1.2)
  b2 : x.cell? ⟨s2, 2, none⟩ = some (.int .u64 og.2)
  c0 : x.cell? ⟨s3, 0, none⟩ = some (.int .u64 og.1.1)
  c1 : x.cell? ⟨s3, 1, none⟩ = some (.string og.1.2)
  c2 : x.cell? ⟨s3, 2, none⟩ = some (.int .u64 og.2)
  e : x.cell? eb = some (.int .u64 ep)
theorem Sb.next {f m f2 m2 : Nat} {L M : List Gr} {la : Int} {wq : World} {s1 s2 s3 : Nat} {eb : Addr} {n : Nm} {ep : Int} {og : Gr} {x y : World} (h : Sb f m f2 m2 L M la wq s1 s2 s3 eb n ep og x) (hB : Below x.heap.size x y) : Sb f m f2 m2 L M la wq s1 s2 s3 eb n ep og y :=
  ⟨h.fen1.below hB, h.fen2.below hB, h.low.trans (hB.mono h.low.size), cell_keep hB h.a0, cell_keep hB h.a1, cell_keep hB h.b0, cell_keep hB h.b1, cell_keep hB h.b2, cell_keep hB h.c0, cell_keep hB h.c1, cell_keep hB h.c2, cell_keep hB h.e⟩
theorem owner_val (f m : Nat) (l : List Gr) (last : Int) (n : Nm) (w : World) (h : Fen w f m l last) (hs : n.2.size ≤ 9223372036854775807) {og : Gr} {ob : Bool} (h1 : grV (ownG l n) = .agg #[.int .u64 og.1.1, .string og.1.2, .int .u64 og.2]) (h2 : (ownG l n).isSome = ob) :
    Calls Try.prog 17 #[.pointer (some ⟨f, 0, none⟩), .agg #[.int .u64 n.1, .string n.2]] w fun e w' =>
      e = .returned (.tuple #[.agg #[.int .u64 og.1.1, .string og.1.2, .int .u64 og.2], .bool ob]) ∧ Below w.heap.size w w' := by
  have := owner_any f m l last n w h hs
  rwa [h1, h2] at this
end Go.Proofs.Ytbelafkklblidaa
