/- Contracts: Drop; the nil receiver's answers. -/
import Derived.Test.YtbelafkklblidaaEpoch6
namespace Go.Proofs.Ytbelafkklblidaa
open Go.RowKit

theorem dropL_le (l : List (Nm × Int)) (job : Int) : (dropL l job).length ≤ l.length := List.length_filter_le _ _

set_option maxHeartbeats 800000 in
set_option maxRecDepth 100000 in
theorem drop_any (f m : Nat) (l : List (Nm × Int)) (last job : Int) (w : World) (h : Fen w f m l last) (hl : l.length ≤ 9223372036854775807) :
    Calls Try.prog 15 #[.pointer (some ⟨f, 0, none⟩), .int .u64 job] w fun e w' =>
      e = .returned (.int .i64 (l.length - (dropL l job).length)) ∧ Fen w' f m (dropL l job) last ∧ Fr (InF f m) w w' := by
  have hB1 : Below w.heap.size w (w.alloc (.cells #[.int .u64 job] 22)) := (Below.refl _ _).alloc (Nat.le_refl _) _
  have h1 := Lib.hid (h.below hB1)
  have c0 := h1.out.c0
  have hln := fun ty => h1.out.map.len (P := Try.prog) (k := 35) Try.underlying59 ty
  have hmf : ∀ (fn : Fn) (first cap : Array Value) (w : World), (Instr.makeFunc fn first cap).run Try.prog w = .ok (.func fn first cap) w := fun _ _ _ _ => rfl
  have hdl := dropL_le l job
  clear h
  go_enter Try.func15, Try.ntmps15
  go_wp2_with fail
  refine (deleteFunc_any m l w.heap.size job _ h1.out.map (by simp) (by simp)).mono ?_
  rintro e w2 ⟨rfl, hM, hF⟩
  have hlt := h1.out.lt
  have h2 : Hid (Fen w2 f m (dropL l job) last) := ⟨(hF.block f hlt.1 (fun e => hlt.2.2 e)).trans h1.out.box, hM⟩
  have hF2 : Fr (InF f m) w w2 := (Fr.of_below hB1).trans (hF.mono fun i hi => .inr hi)
  have d0 := h2.out.c0
  have hln2 := fun ty => h2.out.map.len (P := Try.prog) (k := 35) Try.underlying59 ty
  clear hM hF h1 c0 hln hB1 hmf
  go_wp2_with fail
  go_ret
  exact ⟨ret_int rfl, h2.out, hF2⟩
end Go.Proofs.Ytbelafkklblidaa
