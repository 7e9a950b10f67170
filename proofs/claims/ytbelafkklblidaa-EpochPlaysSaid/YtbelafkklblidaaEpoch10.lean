/- Contracts: New without rows; what no fences answer. -/
import Derived.Test.YtbelafkklblidaaEpoch9
import Derived.Carry
namespace Go.Proofs.Ytbelafkklblidaa
open Go.RowKit Go.Sort Go.Lib

set_option maxHeartbeats 400000 in
theorem index_empty (fv : Value) (w : World) : Calls Try.prog 40 #[.slice none 0 0, fv] w fun e w' => e = .returned (.int .i64 (-1)) ∧ w' = w := by
  go_enter Try.func40, Try.ntmps40
  go_wp2_with fail
  refine wp_loop_rounds 1 ?_
  simp only [rounds_succ]
  go_wp2_with fail
  go_ret
  exact ⟨ret_int rfl, rfl⟩

set_option maxHeartbeats 400000 in
theorem contains_empty (fv : Value) (w : World) : Calls Try.prog 27 #[.slice none 0 0, fv] w fun e w' => e = .returned (.bool false) ∧ w' = w := by
  go_enter Try.func27, Try.ntmps27
  go_wp2_with fail
  refine (index_empty _ _).mono ?_
  rintro e w1 ⟨rfl, rfl⟩
  go_wp2_with fail
  go_ret
  exact ⟨ret_bool rfl, rfl⟩

theorem fen_new (w : World) (o : Obj) (last : Int) : Fen (((w.alloc o).alloc (.map #[] 0)).alloc (.cells #[.map (some (w.heap.size + 1)), .int .u64 last] 61)) (w.heap.size + 1 + 1) (w.heap.size + 1) [] last := by
  have h1 : MapL evU ((w.alloc o).alloc (.map #[] 0)) (w.heap.size + 1) [] := by
    have := MapL.made evU (w.alloc o)
    simpa using this
  constructor
  · have := heap_alloc_new ((w.alloc o).alloc (.map #[] 0)) (.cells #[.map (some (w.heap.size + 1)), .int .u64 last] 61)
    simpa using this
  · exact h1.block (Below.heap_alloc _ _ _ (by simp))

set_option maxHeartbeats 800000 in
set_option maxRecDepth 100000 in
theorem new_empty (last : Int) (w : World) (hlast : ¬ last > 281474976710656) :
    Calls Try.prog 9 #[.int .u64 last, .slice none 0 0] w fun e w' =>
      ∃ f m, e = .returned (.tuple #[.pointer (some ⟨f, 0, none⟩), .int .i64 0]) ∧ w.heap.size ≤ f ∧ w.heap.size ≤ m ∧ Fen w' f m [] last ∧ Below w.heap.size w w' := by
  have hmf : ∀ (fn : Fn) (first cap : Array Value) (w : World), (Instr.makeFunc fn first cap).run Try.prog w = .ok (.func fn first cap) w := fun _ _ _ _ => rfl
  have hf := Lib.hid (fen_new w (.cells #[.int .u64 last] 22) last)
  have hln := fun ty => hf.out.map.len (P := Try.prog) (k := 35) Try.underlying59 ty
  have hmm := @Go.RowKit.run_makeMap Try.prog
  go_enter Try.func9, Try.ntmps9
  go_wp2_with fail
  refine (contains_empty _ _).mono ?_
  rintro e w1 ⟨rfl, rfl⟩
  go_wp2_with fail
  refine wp_loop_rounds 1 ?_
  simp only [rounds_succ]
  go_wp2_with fail
  go_ret2
  exact ⟨_, _, rfl, by omega, by omega, hf.out, (((Below.refl _ _).alloc (Nat.le_refl _) _).alloc (by simp) _).alloc (by simp; omega) _⟩
end Go.Proofs.Ytbelafkklblidaa
