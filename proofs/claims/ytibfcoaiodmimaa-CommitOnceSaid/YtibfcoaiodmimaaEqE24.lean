/- Entries held against each other. -/
import Derived.Test.YtibfcoaiodmimaaWant4
namespace Go.Proofs.Ytibfcoaiodmimaa
open Go.RowKit Go.Sort Go.Lib

theorem str_eq {a b : ByteArray} : a.toList = b.toList ↔ a = b := by
  refine ⟨fun e => ?_, fun e => by rw [e]⟩
  rw [ByteArray.toList_eq, ByteArray.toList_eq] at e
  exact ByteArray.ext (Array.toList_inj.1 e)
theorem ent_eq {a x : Ent} : a = x ↔ a.1.1 = x.1.1 ∧ a.1.2 = x.1.2 ∧ a.2.1 = x.2.1 ∧ a.2.2.1 = x.2.2.1 ∧ a.2.2.2 = x.2.2.2 :=
  ⟨fun e => by rw [e]; exact ⟨rfl, rfl, rfl, rfl, rfl⟩, fun ⟨h1, h2, h3, h4, h5⟩ => Prod.ext (Prod.ext h1 h2) (Prod.ext h3 (Prod.ext h4 h5))⟩
set_option maxRecDepth 100000 in
theorem eqlE (a x : Ent) (w : World) : (binOp .eql 38 (.agg #[.int .u64 a.1.1, .string a.1.2, .int .i64 a.2.1, .int .i64 a.2.2.1, .int .i64 a.2.2.2]) (.agg #[.int .u64 x.1.1, .string x.1.2, .int .i64 x.2.1, .int .i64 x.2.2.1, .int .i64 x.2.2.2])).run Try.prog w = .ok (.bool (decide (a = x))) w := by
  go_simp
  rw [show decide (a = x) = decide (a.1.1 = x.1.1 ∧ a.1.2 = x.1.2 ∧ a.2.1 = x.2.1 ∧ a.2.2.1 = x.2.2.1 ∧ a.2.2.2 = x.2.2.2) from decide_eq_decide.2 ent_eq]
  simp only [str_eq]
  by_cases h1 : a.1.1 = x.1.1 <;> by_cases h2 : a.1.2 = x.1.2 <;> by_cases h3 : a.2.1 = x.2.1 <;> by_cases h4 : a.2.2.1 = x.2.2.1 <;> by_cases h5 : a.2.2.2 = x.2.2.2 <;> simp [h1, h2, h3, h4, h5]
set_option maxRecDepth 100000 in
theorem neqE (a x : Ent) (w : World) : (binOp .neq 38 (.agg #[.int .u64 a.1.1, .string a.1.2, .int .i64 a.2.1, .int .i64 a.2.2.1, .int .i64 a.2.2.2]) (.agg #[.int .u64 x.1.1, .string x.1.2, .int .i64 x.2.1, .int .i64 x.2.2.1, .int .i64 x.2.2.2])).run Try.prog w = .ok (.bool (!decide (a = x))) w := by
  go_simp
  rw [show decide (a = x) = decide (a.1.1 = x.1.1 ∧ a.1.2 = x.1.2 ∧ a.2.1 = x.2.1 ∧ a.2.2.1 = x.2.2.1 ∧ a.2.2.2 = x.2.2.2) from decide_eq_decide.2 ent_eq]
  simp only [str_eq]
  by_cases h1 : a.1.1 = x.1.1 <;> by_cases h2 : a.1.2 = x.1.2 <;> by_cases h3 : a.2.1 = x.2.1 <;> by_cases h4 : a.2.2.1 = x.2.2.1 <;> by_cases h5 : a.2.2.2 = x.2.2.2 <;> simp [h1, h2, h3, h4, h5]
end Go.Proofs.Ytibfcoaiodmimaa
