/- Contracts: package vm at no frame; Kids, Left. -/
import Derived.Test.YtdhbjejejeljoaaVm3
namespace Go.Proofs.Ytdhbjejejeljoaa
open Go.RowKit Go.Sort Go.Lib

abbrev zSp : Array Value := #[.int .u8 0, .string ⟨#[]⟩, .int .i64 0, .slice none 0 0, .int .i64 0, .int .i64 0, .int .i64 0]
theorem vrun_end {wz : World} {tmps : Array Value} {c : Array Value} {a0 a1 a2 a3 a4 a5 a6 : Value} {err : Int} {r : Nat} {R : Ending → World → Prop}
    (hc : c = #[a0, a1, a2, a3, a4, a5, a6]) (hr : BoxAt wz r c StopT) (h2 : tmps.getD 4 undef = .pointer (some ⟨r, 0, none⟩)) (h3 : tmps.getD 5 undef = .int .i64 err) (hR : R (.returned (.tuple #[.agg c, .int .i64 err])) wz) :
    bodyPost Try.prog Try.f10 R Exit.ret { tmps := tmps, defers := [] } wz := by
  subst hc
  have c0 := hr.cell 0; have c1 := hr.cell 1; have c2 := hr.cell 2; have c3 := hr.cell 3; have c4 := hr.cell 4; have c5 := hr.cell 5; have c6 := hr.cell 6
  simp only [List.getElem?_toArray, List.getElem?_cons_zero, List.getElem?_cons_succ] at c0 c1 c2 c3 c4 c5 c6
  refine bodyPost_ret (v := .tuple #[.agg #[a0, a1, a2, a3, a4, a5, a6], .int .i64 err]) ?_ rfl hR
  have h2' : tmps[4]?.getD undef = .pointer (some ⟨r, 0, none⟩) := by simpa using h2
  have h3' : tmps[5]?.getD undef = .int .i64 err := by simpa using h3
  simp [results, Try.results10, go_sem, h2', h3', c0, c1, c2, c3, c4, c5, c6]
theorem vtask_end {wz : World} {tmps : Array Value} {p : ByteArray} {fn fuel : Int} {v : Value} {r : Nat} {R : Ending → World → Prop}
    (hr : BoxAt wz r (taC p fn v fuel) TaskT) (h2 : tmps.getD 2 undef = .pointer (some ⟨r, 0, none⟩)) (hR : R (.returned (.agg #[.string p, .int .i64 fn, v, .int .i64 fuel])) wz) :
    bodyPost Try.prog Try.f21 R Exit.ret { tmps := tmps, defers := [] } wz := by
  have c0 := hr.cell 0; have c1 := hr.cell 1; have c2 := hr.cell 2; have c3 := hr.cell 3
  simp only [taC, List.getElem?_toArray, List.getElem?_cons_zero, List.getElem?_cons_succ] at c0 c1 c2 c3
  refine bodyPost_ret (v := .agg #[.string p, .int .i64 fn, v, .int .i64 fuel]) ?_ rfl hR
  have h2' : tmps[2]?.getD undef = .pointer (some ⟨r, 0, none⟩) := by simpa using h2
  simp [results, Try.results21, go_sem, h2', c0, c1, c2, c3]
set_option maxHeartbeats 1600000 in
set_option maxRecDepth 100000 in
theorem vrun_nil (n : Int) (w : World) : Calls Try.prog 10 #[.pointer none, .int .i64 n] w fun e w' => e = .returned (.tuple #[.agg zSp, .int .i64 1]) ∧ Below w.heap.size w w' := by
  have hb : BoxAt (w.alloc (.cells zSp StopT)) w.heap.size zSp StopT := heap_alloc_new _ _
  have HB := Lib.hid (And.intro hb (alV w (.cells zSp StopT)))
  clear hb
  go_enter Try.func10, Try.ntmps10
  go_wp2_with fail
  refine (none_nil _).mono ?_
  rintro e w2 ⟨rfl, rfl⟩
  go_wp2_with fail
  exact vrun_end rfl HB.out.1 rfl rfl ⟨rfl, HB.out.2⟩
set_option maxHeartbeats 1600000 in
set_option maxRecDepth 100000 in
theorem vtask_nil (w : World) : Calls Try.prog 21 #[.pointer none] w fun e w' => e = .returned (.agg #[.string ⟨#[]⟩, .int .i64 0, .slice none 0 0, .int .i64 0]) ∧ Below w.heap.size w w' := by
  have hb : BoxAt (w.alloc (.cells (taC ⟨#[]⟩ 0 (.slice none 0 0) 0) TaskT)) w.heap.size (taC ⟨#[]⟩ 0 (.slice none 0 0) 0) TaskT := heap_alloc_new _ _
  have HB := Lib.hid (And.intro hb (alV w (.cells (taC ⟨#[]⟩ 0 (.slice none 0 0) 0) TaskT)))
  clear hb
  go_enter Try.func21, Try.ntmps21
  go_wp2_with fail
  refine (none_nil _).mono ?_
  rintro e w2 ⟨rfl, rfl⟩
  go_wp2_with fail
  exact vtask_end HB.out.1 rfl ⟨rfl, HB.out.2⟩
set_option maxHeartbeats 1600000 in
theorem vgive_nil (k v e : Int) (w : World) : Calls Try.prog 13 #[.pointer none, .int .i64 k, .agg #[.int .i64 v, .int .i64 e]] w fun e w' => e = .returned (.int .i64 1) ∧ Below w.heap.size w w' := by
  have HA := Lib.hid (alV w (.cells (resC ⟨v, e⟩) ResT))
  go_enter Try.func13, Try.ntmps13
  go_wp2_with fail
  refine (none_nil _).mono ?_
  rintro e' w2 ⟨rfl, rfl⟩
  go_wp2_with fail
  go_ret
  exact ⟨ret_int rfl, HA.out⟩
set_option maxHeartbeats 1600000 in
theorem vkids_nil (w : World) : Calls Try.prog 15 #[.pointer none] w fun e w' => e = .returned (.int .i64 0) ∧ w' = w := by
  go_enter Try.func15, Try.ntmps15
  go_wp2_with fail
  refine (none_nil _).mono ?_
  rintro e' w2 ⟨rfl, rfl⟩
  go_wp2_with fail
  go_ret
  exact ⟨rfl, rfl⟩
set_option maxHeartbeats 1600000 in
theorem vleft_nil (w : World) : Calls Try.prog 16 #[.pointer none] w fun e w' => e = .returned (.int .i64 0) ∧ w' = w := by
  go_enter Try.func16, Try.ntmps16
  go_wp2_with fail
  refine (none_nil _).mono ?_
  rintro e' w2 ⟨rfl, rfl⟩
  go_wp2_with fail
  go_ret
  exact ⟨rfl, rfl⟩
set_option maxHeartbeats 1600000 in
theorem vwaits_nil (w : World) : Calls Try.prog 18 #[.pointer none] w fun e w' => e = .returned (.slice none 0 0) ∧ w' = w := by
  go_enter Try.func18, Try.ntmps18
  go_wp2_with fail
  refine (none_nil _).mono ?_
  rintro e' w2 ⟨rfl, rfl⟩
  go_wp2_with fail
  go_ret
  exact ⟨rfl, rfl⟩
set_option maxHeartbeats 1600000 in
set_option maxRecDepth 100000 in
theorem vkids_any {x r : Nat} {pv : Value} {t : Tk} {av kv wv rv : Value} {s : Vs} {w : World} {p : List Fnc} (h : Vm x r pv t av kv wv rv s w) (hp : ProgAt w pv p) (hl : 0 < p.length) : Calls Try.prog 15 #[.pointer (some ⟨x, 0, none⟩)] w fun e w' => e = .returned (.int .i64 s.kids.length) ∧ w' = w := by
  have x8 := (vm_cells h).2.2.2.2.2.2.1
  obtain ⟨ka, kc, hkv⟩ := own_slice h.kids
  rw [hkv] at x8
  go_enter Try.func15, Try.ntmps15
  go_wp2_with fail
  refine (none_any h hp hl).mono ?_
  rintro e' w2 ⟨rfl, rfl⟩
  go_wp2_with fail
  go_ret
  exact ⟨rfl, rfl⟩
set_option maxHeartbeats 1600000 in
set_option maxRecDepth 100000 in
theorem vleft_any {x r : Nat} {pv : Value} {t : Tk} {av kv wv rv : Value} {s : Vs} {w : World} {p : List Fnc} (h : Vm x r pv t av kv wv rv s w) (hp : ProgAt w pv p) (hl : 0 < p.length) : Calls Try.prog 16 #[.pointer (some ⟨x, 0, none⟩)] w fun e w' => e = .returned (.int .i64 s.left) ∧ w' = w := by
  have x6 := (vm_cells h).2.2.2.2.1
  go_enter Try.func16, Try.ntmps16
  go_wp2_with fail
  refine (none_any h hp hl).mono ?_
  rintro e' w2 ⟨rfl, rfl⟩
  go_wp2_with fail
  go_ret
  exact ⟨rfl, rfl⟩
end Go.Proofs.Ytdhbjejejeljoaa
