/- How the heap's methods are found: the queue's own, and those of its rows. -/
import Derived.Test.YteladooegjgdnaaBox
import Derived.Lib.Hide
import Derived.Deep.DeepCutAuto
import Derived.BigRegion
import Derived.BigQuiet
namespace Go.Proofs.Yteladooegjgdnaa
open Go.RowKit Go.Sort Go.Lib

abbrev QuP : TypeId := 61
abbrev QuT : TypeId := 57
abbrev RowsT : TypeId := 55
set_option maxRecDepth 100000 in
theorem load_rows (w : World) (b : Nat) (v : Value) (h : w.cell? ⟨b, 0, none⟩ = some v) : (loadVar RowsT ⟨b, 0, none⟩).run Try.prog w = .ok v w := by
  simp [go_sem, h]
set_option maxRecDepth 100000 in
theorem fol_rows (w : World) (b : Nat) : (follow [⟨QuT, 0, true⟩] QuP (.val (.pointer (some ⟨b, 0, none⟩)))).run Try.prog w = .ok (RowsT, .var ⟨b, 0, none⟩) w := by kernel_rfl
set_option maxRecDepth 100000 in
theorem rcv_rows (w : World) (b : Nat) : (receiverAt RowsT (.var ⟨b, 0, none⟩) false none).run Try.prog w = (loadVar RowsT ⟨b, 0, none⟩).run Try.prog w := by kernel_rfl
theorem qu_info : ∃ i, Try.prog.info? QuP = some i := by
  have h : (Try.prog.info? QuP).isSome = true := by kernel_rfl
  obtain ⟨i, hi⟩ := Option.isSome_iff_exists.1 h
  exact ⟨i, hi⟩
set_option maxRecDepth 100000 in
/-- A method of the rows that it embeds. -/
theorem find_rows (name : String) (f : Nat) (hm0 : (Try.prog.info? QuP).bind (fun i => (i.methods.find? fun m => m.name == name).map fun m => (m.path.toList, m.func)) = some ([⟨QuT, 0, true⟩], some (f, false))) (n : Nat) (w : World) (b : Nat) (v : Value) (h : w.cell? ⟨b, 0, none⟩ = some v) :
    (method (n + 1) QuP (.pointer (some ⟨b, 0, none⟩)) name).run Try.prog w = .ok (f, v) w := by
  obtain ⟨i, hi⟩ := qu_info
  have hm : (i.methods.find? fun m => m.name == name).map (fun m => (m.path.toList, m.func)) = some ([⟨QuT, 0, true⟩], some (f, false)) := by
    rw [hi] at hm0
    exact hm0
  obtain ⟨m, hf, he⟩ := Option.map_eq_some_iff.1 hm
  injection he with e1 e2
  have hp : m.path.isEmpty = false := by
    have : m.path = #[⟨QuT, 0, true⟩] := Array.toList_inj.1 (by simpa using e1)
    rw [this]; rfl
  have hl := load_rows w b v h
  have hr := rcv_rows w b
  have hfo := fol_rows w b
  unfold method
  simp only [Sem.run_bind, typeInfo, run_program, Result.andThen_ok, hi, Sem.run_pure, hf, e1, e2, hp, hfo]
  simp only [Bool.false_eq_true, if_false, hr, hl, Result.andThen_ok]
set_option maxRecDepth 100000 in
theorem rcv_own (w : World) (b : Nat) (name : Option String) : (receiverAt QuP (.val (.pointer (some ⟨b, 0, none⟩))) true name).run Try.prog w = .ok (.pointer (some ⟨b, 0, none⟩)) w := by kernel_rfl
set_option maxRecDepth 100000 in
/-- A method of its own. -/
theorem find_own (name : String) (f : Nat) (hm0 : (Try.prog.info? QuP).bind (fun i => (i.methods.find? fun m => m.name == name).map fun m => (m.path.toList, m.func)) = some ([], some (f, true))) (n : Nat) (w : World) (b : Nat) :
    (method (n + 1) QuP (.pointer (some ⟨b, 0, none⟩)) name).run Try.prog w = .ok (f, .pointer (some ⟨b, 0, none⟩)) w := by
  obtain ⟨i, hi⟩ := qu_info
  have hm : (i.methods.find? fun m => m.name == name).map (fun m => (m.path.toList, m.func)) = some ([], some (f, true)) := by
    rw [hi] at hm0
    exact hm0
  obtain ⟨m, hf, he⟩ := Option.map_eq_some_iff.1 hm
  injection he with e1 e2
  unfold method
  simp only [Sem.run_bind, typeInfo, run_program, Result.andThen_ok, hi, Sem.run_pure, hf, e1, e2, follow, rcv_own]
set_option maxRecDepth 100000 in
theorem find_less (w : World) (b : Nat) (v : Value) (h : w.cell? ⟨b, 0, none⟩ = some v) : (method 229 QuP (.pointer (some ⟨b, 0, none⟩)) "Less").run Try.prog w = .ok (80, v) w := find_rows "Less" _ (by kernel_rfl) _ w b v h
set_option maxRecDepth 100000 in
theorem find_swap (w : World) (b : Nat) (v : Value) (h : w.cell? ⟨b, 0, none⟩ = some v) : (method 229 QuP (.pointer (some ⟨b, 0, none⟩)) "Swap").run Try.prog w = .ok (83, v) w := find_rows "Swap" _ (by kernel_rfl) _ w b v h
set_option maxRecDepth 100000 in
theorem find_len (w : World) (b : Nat) (v : Value) (h : w.cell? ⟨b, 0, none⟩ = some v) : (method 229 QuP (.pointer (some ⟨b, 0, none⟩)) "Len").run Try.prog w = .ok (26, v) w := find_rows "Len" _ (by kernel_rfl) _ w b v h
set_option maxRecDepth 100000 in
theorem find_push (w : World) (b : Nat) : (method 229 QuP (.pointer (some ⟨b, 0, none⟩)) "Push").run Try.prog w = .ok (82, .pointer (some ⟨b, 0, none⟩)) w := find_own "Push" _ (by kernel_rfl) _ w b
set_option maxRecDepth 100000 in
theorem find_pop (w : World) (b : Nat) : (method 229 QuP (.pointer (some ⟨b, 0, none⟩)) "Pop").run Try.prog w = .ok (81, .pointer (some ⟨b, 0, none⟩)) w := find_own "Pop" _ (by kernel_rfl) _ w b
end Go.Proofs.Yteladooegjgdnaa
