/- Contract: Allows of the document's fences. -/
import Derived.Test.YtbelafkklblidaaRefE6
namespace Go.Proofs.Ytbelafkklblidaa
open Go.RowKit Go.Sort Go.Lib

def rallowE (l : List Gr) (n : Nm) (x : Int) : Int :=
  if mayS n.2 = false then 2 else match ownR l n with
    | none => 5
    | some g => if g.2 = x then 0 else 220

set_option maxHeartbeats 800000 in
set_option maxRecDepth 100000 in
theorem rallows_any (R r : Nat) (v : Value) (l : List Gr) (last : Int) (n : Nm) (x : Int) (w : World) (h : RFen w R r v l last) (hl : l.length ≤ 10000) (hzl : ∀ p ∈ l, p.1.2.size ≤ 9223372036854775807) (hs : n.2.size ≤ 9223372036854775807) :
    Calls Try.prog 20 #[.pointer (some ⟨r, 0, none⟩), .agg #[.int .u64 n.1, .string n.2], .int .u64 x] w fun e w' => e = .returned (.int .i64 (rallowE l n x)) ∧ Below w.heap.size w w' := by
  have hA : Below w.heap.size w (w.alloc (nmO n)) := (Below.refl _ _).alloc (Nat.le_refl _) _
  have HF := Lib.hid (h.below hA)
  have HA := Lib.hid hA
  have HZL := Lib.hid hzl
  have m1 : (w.alloc (nmO n)).cell? ⟨w.heap.size, 0, none⟩ = some (.int .u64 n.1) := by simp [nmO]
  have m2 : (w.alloc (nmO n)).cell? ⟨w.heap.size, 1, none⟩ = some (.string n.2) := by simp [nmO]
  clear h hA hzl
  go_enter Try.func20, Try.ntmps20
  go_wp2_with fail
  change Calls _ _ _ (w.alloc (nmO n)) _
  generalize w.alloc (nmO n) = wa at *
  refine (rmay_any n.2 _ hs).mono ?_
  rintro e w1 ⟨rfl, rfl⟩
  cases hm : mayS n.2
  · have he := Lib.hid (show rallowE l n x = 2 by unfold rallowE; rw [if_pos hm])
    clear hm
    go_wp2_with fail
    go_ret
    exact ⟨ret_int he.out.symm, HA.out⟩
  · have HM := Lib.hid hm
    clear hm
    go_wp2_with fail
    refine (rowner_any R r v l last n _ HF.out hl HZL.out hs).mono ?_
    rintro e w2 ⟨rfl, hB⟩
    have HB := Lib.hid (HA.out.trans (hB.mono HA.out.size))
    clear hB HF HA m1 m2
    cases ho : ownR l n with
    | none =>
      have he := Lib.hid (show rallowE l n x = 5 by unfold rallowE; rw [HM.out, if_neg (by simp), ho])
      clear ho
      simp only [grV, Option.isSome_none]
      go_wp2_with fail
      go_ret
      exact ⟨ret_int he.out.symm, HB.out.trans ((Below.refl _ _).alloc HB.out.size _)⟩
    | some g =>
      simp only [grV, Option.isSome_some]
      by_cases hx : g.2 = x
      · have he := Lib.hid (show rallowE l n x = 0 by unfold rallowE; rw [HM.out, if_neg (by simp), ho]; simp [hx])
        clear ho
        go_wp2_with fail
        go_ret
        exact ⟨ret_int he.out.symm, HB.out.trans ((Below.refl _ _).alloc HB.out.size _)⟩
      · have he := Lib.hid (show rallowE l n x = 220 by unfold rallowE; rw [HM.out, if_neg (by simp), ho]; simp [hx])
        clear ho
        go_wp2_with fail
        go_ret
        exact ⟨ret_int he.out.symm, HB.out.trans ((Below.refl _ _).alloc HB.out.size _)⟩
end Go.Proofs.Ytbelafkklblidaa
