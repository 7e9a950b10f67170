/- Out at a script's rounds. -/
import Derived.Test.YtenebamecmblaaaRnd12
import Derived.Test.YtenebamecmblaaaRnd8
namespace Go.Proofs.Ytenebamecmblaaa
open Go.RowKit Go.Sort Go.Lib

def abL (p : Lt) : Nm × List Int := (p.1, p.2.l)
/-- What Out answers. -/
structure OutL (A : AB) (n : Int) (l : List (Nm × List Int)) : Prop where
  perm : l.Perm (heldA A n).2
  sorted : l.Pairwise fun a b => cmpS a.1.2 b.1.2 < 0
def OutR (A : AB) (n : Int) (w : World) (e : Ending) (w' : World) : Prop :=
  ∃ (v : Value) (l : List Lt), e = .returned v ∧ w'.ownsRow w.heap.size 55 3 v l.length (l.flatMap encL) ∧ (∀ p ∈ l, COwn w' w.heap.size (evC p.2) p.2.l) ∧ OutL A n (l.map abL) ∧ Below w.heap.size w w'
theorem abL_perm {n : Int} {x : On} {acc : List Lt} (hG : GoodO n (abO x)) (hs : ∀ p ∈ acc, ∃ q ∈ x.out, q.1 = p.1 ∧ q.2.l = p.2.l) (hn : (acc.map (·.1)).Nodup) (hall : ∀ q ∈ x.out, q.1 ∈ acc.map (·.1)) : (acc.map abL).Perm (x.out.map abL) := by
  have hk : (x.out.map (·.1)).Nodup := by
    have := hG.keys
    unfold abO at this
    rwa [List.map_map] at this
  have ho : ∀ l : List Lt, (l.map (·.1)).Nodup → (l.map abL).Nodup := fun l h => by
    rw [List.nodup_iff_pairwise_ne] at h ⊢
    rw [List.pairwise_map] at h ⊢
    exact h.imp fun h e => h (congrArg (·.1) e)
  refine (List.perm_ext_iff_of_nodup (ho _ hn) (ho _ hk)).2 fun a => ⟨fun h => ?_, fun h => ?_⟩
  · obtain ⟨p, hp, rfl⟩ := List.mem_map.1 h
    obtain ⟨q, hq, e1, e2⟩ := hs p hp
    exact List.mem_map.2 ⟨q, hq, by unfold abL; rw [e1, e2]⟩
  · obtain ⟨q, hq, rfl⟩ := List.mem_map.1 h
    obtain ⟨p, hp, e⟩ := List.mem_map.1 (hall q hq)
    obtain ⟨q', hq', e1, e2⟩ := hs p hp
    have : q' = q := nodup_eq (f := fun p : Lt => p.1) hk hq' hq (e1.trans e)
    subst this
    exact List.mem_map.2 ⟨p, hp, by unfold abL; rw [e1, e2]⟩
theorem sortO_strict {acc : List Lt} (hn : (acc.map (·.1.2)).Nodup) : (sortO acc).Pairwise fun a b => cmpS a.1.2 b.1.2 < 0 := by
  have h1 := sortO_sorted acc
  have h2 : ((sortO acc).map (·.1.2)).Nodup := ((sortO_perm acc).map (·.1.2)).nodup_iff.2 hn
  rw [List.nodup_iff_pairwise_ne, List.pairwise_map] at h2
  refine (h1.and h2).imp fun ⟨h, h'⟩ => ?_
  have := (leO_iff _ _).1 h
  unfold cmpO at this
  rcases Int.lt_or_le (cmpS _ _) 0 with h3 | h3
  · exact h3
  · exact absurd (cmpS_zeroP (Int.le_antisymm this h3)) h'
set_option maxHeartbeats 800000 in
set_option maxRecDepth 100000 in
theorem out_none (r m : Nat) (L : Rd) (n : Int) (w : World) (h : Rds w r m L) (hg : U.getL L n = none) : Calls Try.prog 20 #[.pointer (some ⟨r, 0, none⟩), .int .u64 n] w fun e w' => e = .returned (.slice none 0 0) ∧ w' = w := by
  have hp : ptrR L n = .pointer none := by unfold ptrR; rw [hg]; rfl
  have H := Lib.hid h
  clear h
  go_enter Try.func20, Try.ntmps20
  go_wp2_with fail
  refine (of_rnd r m L n _ H.out).mono ?_
  rintro e w2 ⟨rfl, hw2⟩
  have hw2 := hw2.symm
  subst hw2
  rw [hp]
  clear hp
  go_wp2_with fail
  go_ret
  exact ⟨rfl, rfl⟩
theorem wr_out {Q : Nat → Prop} {w : World} {r m : Nat} {A : AB} (h : Wr Q r m w A) (n : Int) (hl : (heldA A n).2.length ≤ 1000000) : Calls Try.prog 20 #[.pointer (some ⟨r, 0, none⟩), .int .u64 n] w (OutR A n w) := by
  obtain ⟨L, h1, rfl, h3, h4⟩ := h
  cases hg : U.getL L n with
  | none =>
    refine (out_none r m L n w h1 hg).mono ?_
    rintro e w' ⟨rfl, rfl⟩
    have he : heldA (absR L) n = ([], []) := by unfold heldA; rw [getL_absR, hg]; rfl
    exact ⟨_, [], rfl, World.ownsRow_nil _ _ _ _, (by intro p hp; cases hp), ⟨by rw [he]; exact List.Perm.nil, List.Pairwise.nil⟩, Below.refl _ _⟩
  | some x =>
    have he : heldA (absR L) n = abO x := by unfold heldA; rw [getL_absR, hg]; rfl
    have hG := h1.good h3 hg
    rw [he] at hl
    refine (out_on r m L n x w h1 hg h3 (by unfold abO at hl; simpa using hl)).mono ?_
    rintro e w' ⟨v, acc, rfl, ho, hc, hs, hn, hall, hB⟩
    refine ⟨v, sortO acc, rfl, ho, fun p hp => hc p ((sortO_perm acc).mem_iff.1 hp), ⟨?_, ?_⟩, hB⟩
    · rw [he]
      exact ((sortO_perm acc).map abL).trans (abL_perm hG hs hn hall)
    · rw [List.pairwise_map]
      exact sortO_strict (gathered_paths hG hs hn)
end Go.Proofs.Ytenebamecmblaaa
