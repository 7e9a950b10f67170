/- Contracts of package epoch: Take, Last. -/
import Derived.Test.YtbelafkklblidaaFr
import Derived.Test.YtbelafkklblidaaBranch3
import Derived.Deep.QuietTactic
import Derived.BigQuiet
import Derived.RegionTactic
namespace Go.Proofs.Ytbelafkklblidaa
open Go.RowKit

def valU (l : List (Nm × Int)) (n : Nm) : Int := (getL l n).getD 0
theorem zeroU (w : World) : (zeroValue 22).run Try.prog w = .ok (.int .u64 0) w := by kernel_rfl
theorem Fen.look {w : World} {f m : Nat} {l : List (Nm × Int)} {last : Int} (h : Fen w f m l last) (n : Nm) :
    (Instr.lookup 59 (.map (some m)) (.agg #[.int .u64 n.1, .string n.2]) false).run Try.prog w = .ok (.int .u64 (valU l n)) w := by
  have := h.map.lookup nameTy Try.underlying59 (zeroU w) n
  unfold valU
  cases hg : getL l n <;> rw [hg] at this <;> exact this
theorem mapNil (w : World) (r : Option Nat) : (binOp .eql 59 (.map r) (.map none)).run Try.prog w = .ok (.bool r.isNone) w :=
  run_eql_map_nil w _ _ _ r Try.underlying59
def takeErr (l : List (Nm × Int)) (n : Nm) : Int := if valU l n = 0 then 5 else 0
def takeL (l : List (Nm × Int)) (n : Nm) : List (Nm × Int) := if valU l n = 0 then l else delL l n

set_option maxHeartbeats 800000 in
set_option maxRecDepth 100000 in
theorem take_any (f m : Nat) (l : List (Nm × Int)) (last : Int) (n : Nm) (w : World) (h : Fen w f m l last) :
    Calls Try.prog 13 #[.pointer (some ⟨f, 0, none⟩), .agg #[.int .u64 n.1, .string n.2]] w fun e w' =>
      e = .returned (.int .i64 (takeErr l n)) ∧ Fen w' f m (takeL l n) last ∧ Fr (InF f m) w w' := by
  have hB1 : Below w.heap.size w (w.alloc (.cells #[.int .u64 n.1, .string n.2] 35)) := (Below.refl _ _).alloc (Nat.le_refl _) _
  have h1 := h.below hB1
  have hl := fun q => (h1.drewN q).look n
  have c0 := h1.c0
  have hlt := h.lt
  have HH := Lib.hid (And.intro h h1)
  clear h h1
  by_cases hz : valU l n = 0
  · have hzb : (valU l n == 0) = true := by simp [hz]
    have e1 := Lib.hid (show takeErr l n = 5 by simp [takeErr, hz])
    have e2 := Lib.hid (show takeL l n = l by simp [takeL, hz])
    clear hz
    have hmn := mapNil
    go_enter Try.func13, Try.ntmps13
    go_wp2_with fail
    go_quiet (fail)
    go_wp2_with fail
    go_ret
    exact ⟨ret_int e1.out.symm, by rw [e2.out]; exact HH.out.2.drewN _, .of_below (below_drewN hB1 _)⟩
  · have hzb : (valU l n == 0) = false := by simpa using hz
    have e1 := Lib.hid (show takeErr l n = 0 by simp [takeErr, hz])
    have e2 := Lib.hid (show takeL l n = delL l n by simp [takeL, hz])
    clear hz
    have hmn := mapNil
    go_enter Try.func13, Try.ntmps13
    go_wp2_with fail
    go_quiet (fail)
    go_wp2_with fail
    have hF := Lib.hid (HH.out.2.drewN nq)
    have hK : Fr (InF f m) w ((w.alloc (.cells #[.int .u64 n.1, .string n.2] 35)).drewN nq) := .of_below (below_drewN hB1 _)
    have hn : ((w.alloc (.cells #[.int .u64 n.1, .string n.2] 35)).drewN nq).cell? ⟨w.heap.size, 0, none⟩ = some (.int .u64 n.1) ∧ ((w.alloc (.cells #[.int .u64 n.1, .string n.2] 35)).drewN nq).cell? ⟨w.heap.size, 1, none⟩ = some (.string n.2) := by simp
    obtain ⟨n1, n2⟩ := hn
    generalize (w.alloc (.cells #[.int .u64 n.1, .string n.2] 35)).drewN nq = wq at *
    have d0 := hF.out.c0
    obtain ⟨w2, hrun, hM, hO, _⟩ := hF.out.drew.map.delete nameTy Try.underlying59 n 0
    unfold encN at hrun
    clear hl c0 hB1
    go_region
    all_goals
      go_wp2_with fail
      go_ret
      exact ⟨ret_int e1.out.symm, by rw [e2.out]; exact hF.out.drew.onMap hO hM, hK.drew.only hO (.inr rfl)⟩
end Go.Proofs.Ytbelafkklblidaa
