/- Held, Over. -/
import Derived.Test.YtenebamecmblaaaRnd3
namespace Go.Proofs.Ytenebamecmblaaa
open Go.RowKit Go.Sort Go.Lib

/-- What a script keeps up. -/
structure GoodO (n : Int) (x : AO) : Prop where
  held : SC x.1
  ne : x.1 ≠ []
  may : ∀ q ∈ x.2, mayC q.2 = true ∧ q.2 ≠ []
  keys : (x.2.map (·.1)).Nodup
  job : ∀ q ∈ x.2, q.1.1 = n
  pth : ∀ q ∈ x.2, mayS q.1.2 = true
  sum : vC x.1 + (x.2.map fun q => vC q.2).sum = pw 0
def GoodA (A : AB) : Prop := (A.map (·.1)).Nodup ∧ ∀ p ∈ A, GoodO p.1 p.2
theorem GoodO.heldMay {n : Int} {x : AO} (h : GoodO n x) : mayC x.1 = true := sc_may h.held (by have := h.sum; omega)
theorem GoodO.len {n : Int} {x : AO} (h : GoodO n x) : x.1.length ≤ 4097 := h.held.len
theorem getA_good {A : AB} (h : GoodA A) {n : Int} {x : AO} (hg : U.getL A n = some x) : GoodO n x := h.2 _ ((U.getL_memV h.1 n x).1 hg)
theorem Rds.good {w : World} {r m : Nat} {L : Rd} {n : Int} {x : On} (_h : Rds w r m L) (hG : GoodA (absR L)) (hg : U.getL L n = some x) : GoodO n (abO x) := getA_good hG (by rw [getL_absR, hg]; rfl)
def heldV (A : AB) (n : Int) : List Int := ((U.getL A n).map (·.1)).getD []
def HeldR (A : AB) (n : Int) (w : World) (e : Ending) (w' : World) : Prop := ∃ v, e = .returned (.tuple #[v, .bool (U.getL A n).isSome]) ∧ COwn w' w.heap.size v (heldV A n) ∧ Below w.heap.size w w'
theorem CrOk.readsC {w : World} {y : Cr} (h : CrOk w y) : ReadsK encC 1 w (evC y) y.l := COwn.reads h
set_option maxHeartbeats 1600000 in
set_option maxRecDepth 100000 in
theorem held_rnd (r m : Nat) (L : Rd) (n : Int) (w : World) (h : Rds w r m L) (hG : GoodA (absR L)) : Calls Try.prog 19 #[.pointer (some ⟨r, 0, none⟩), .int .u64 n] w (HeldR (absR L) n w) := by
  have H := Lib.hid h
  have HG := Lib.hid hG
  clear h hG
  go_enter Try.func19, Try.ntmps19
  go_wp2_with fail
  refine (of_rnd r m L n _ H.out).mono ?_
  rintro e w2 ⟨rfl, rfl⟩
  unfold ptrR
  cases hg : U.getL L n with
  | none =>
    simp only [Option.map_none]
    have e1 := Lib.hid (show (U.getL (absR L) n).isSome = false by rw [getL_absR, hg]; rfl)
    have e2 := Lib.hid (show heldV (absR L) n = [] by unfold heldV; rw [getL_absR, hg]; rfl)
    go_wp2_with fail
    go_ret2
    exact ⟨_, ret_two rfl (congrArg Value.bool e1.out.symm), by rw [e2.out]; exact COwn.nil _ _, Below.refl _ _⟩
  | some x =>
    simp only [Option.map_some]
    have e1 := Lib.hid (show (U.getL (absR L) n).isSome = true by rw [getL_absR, hg]; rfl)
    have e2 := Lib.hid (show heldV (absR L) n = x.held.l by unfold heldV; rw [getL_absR, hg]; rfl)
    have hx := (H.out.at hg).2
    have hlen := (H.out.good HG.out hg).len
    have c0 : w2.cell? ⟨x.b, 0, none⟩ = some (.slice x.held.a x.held.l.length x.held.c) := by simp [World.cell?, hx.box, onO, evC]
    have HC := Lib.hid hx.held.readsC
    clear hx hg
    go_wp2_with fail
    refine (cclone_any _ x.held.l _ HC.out (Nat.le_trans hlen (by decide))).mono ?_
    rintro e w3 ⟨aa, ac, rfl, ho, hB⟩
    have HO := Lib.hid ho
    have HB := Lib.hid hB
    clear ho hB
    go_wp2_with fail
    go_ret2
    exact ⟨_, ret_two rfl (congrArg Value.bool e1.out.symm), by rw [e2.out]; exact HO.out, HB.out⟩
def overV (A : AB) (n : Int) : Bool := match U.getL A n with | none => false | some x => decide (x.1 = [0])
set_option maxHeartbeats 1600000 in
set_option maxRecDepth 100000 in
theorem over_rnd (r m : Nat) (L : Rd) (n : Int) (w : World) (h : Rds w r m L) (hG : GoodA (absR L)) : Calls Try.prog 22 #[.pointer (some ⟨r, 0, none⟩), .int .u64 n] w fun e w' => e = .returned (.bool (overV (absR L) n)) ∧ Below w.heap.size w w' := by
  have H := Lib.hid h
  have HG := Lib.hid hG
  clear h hG
  go_enter Try.func22, Try.ntmps22
  go_wp2_with fail
  refine (of_rnd r m L n _ H.out).mono ?_
  rintro e w2 ⟨rfl, rfl⟩
  unfold ptrR
  cases hg : U.getL L n with
  | none =>
    simp only [Option.map_none]
    have e1 := Lib.hid (show overV (absR L) n = false by unfold overV; rw [getL_absR, hg]; rfl)
    go_wp2_with fail
    go_ret
    exact ⟨ret_boolE e1.out.symm, Below.refl _ _⟩
  | some x =>
    simp only [Option.map_some]
    have e1 := Lib.hid (show overV (absR L) n = decide (x.held.l = [0]) by unfold overV; rw [getL_absR, hg]; rfl)
    have hx := (H.out.at hg).2
    have hlen := (H.out.good HG.out hg).len
    have c0 : w2.cell? ⟨x.b, 0, none⟩ = some (.slice x.held.a x.held.l.length x.held.c) := by simp [World.cell?, hx.box, onO, evC]
    have HC := Lib.hid hx.held.readsC
    clear hx hg
    go_wp2_with fail
    refine (isone_any x.held.l _ _ HC.out (Nat.le_trans hlen (by decide))).mono ?_
    rintro e w3 ⟨rfl, hB⟩
    have HB := Lib.hid hB
    clear hB
    go_wp2_with fail
    go_ret
    exact ⟨ret_boolE e1.out.symm, HB.out⟩
end Go.Proofs.Ytenebamecmblaaa
