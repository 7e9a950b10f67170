/- Contracts: thresherlaw14.same, stops (at what is the same), small; the answers of the known frame. -/
import Derived.Test.YtdhbjejejeljoaaVm14
import Derived.Test.YtdhbjejejeljoaaEvT
namespace Go.Proofs.Ytdhbjejejeljoaa
open Go.RowKit Go.Sort Go.Lib

set_option maxHeartbeats 800000 in
set_option maxRecDepth 100000 in
theorem same_any (v u : Value) (l : List Int) (w : World) (hv : ReadsK encN1 1 w v l) (hu : ReadsK encN1 1 w u l) (hl : l.length ≤ 1000000) :
    Calls Try.prog 17 #[v, u] w fun e w' => e = .returned (.bool true) ∧ Below w.heap.size w w' := by
  obtain ⟨va, vc, rfl⟩ := hv.slice
  obtain ⟨ua, uc, rfl⟩ := hu.slice
  have HV := Lib.hid (And.intro hv hu)
  clear hv hu
  go_enter Try.func17, Try.ntmps17
  go_wp2_with fail
  go_loopg [5] l.length (fun gk i wr => ∃ k : Nat, gk + k = l.length ∧ i = .int .i64 k ∧ Hid (Below w.heap.size w wr))
  case atStart => exact ⟨0, by omega, rfl, Below.refl _ _⟩
  case round =>
    obtain ⟨k, hk, rfl, HR⟩ := hrel
    by_cases hlt : k < l.length
    · have q1 : (k : Int) < l.length := by omega
      have q0 : (0 : Int) ≤ k := by omega
      obtain ⟨b1, o1, c1, e1, _, hc1⟩ := (HV.out.1.below HR.out).at (by omega)
      obtain ⟨b2, o2, c2, e2, _, hc2⟩ := (HV.out.2.below HR.out).at (by omega)
      injection e1 with e1 e11 e12
      injection e2 with e2 e21 e22
      subst e1; subst e2; subst e12; subst e22
      clear e11 e21
      have g1 := hc1 k hlt 0 _ rfl
      have g2 := hc2 k hlt 0 _ rfl
      rw [Nat.mul_one, Nat.add_zero] at g1 g2
      clear hc1 hc2
      generalize l[k] = z at *
      go_upto_region 6 with fail
      go_quiet (fail)
      have HN := Lib.hid (show Below w.heap.size w (wr.drewN nq) from below_drewN HR.out nq)
      clear g1 g2
      generalize wr.drewN nq = w2 at *
      go_wp2_with fail
      go_roundg (gk - 1)
      case rel => exact ⟨k + 1, by omega, by go_num, HN⟩
      case measure => omega
    · have q1 : ¬ (k : Int) < l.length := by omega
      go_wp2_with fail
      go_ret
      exact ⟨rfl, HR.out⟩
set_option maxHeartbeats 1600000 in
set_option maxRecDepth 100000 in
theorem stops_same (k : Int) (s : ByteArray) (fn fuel rv re : Int) (v u : Value) (l : List Int) (w : World) (hv : ReadsK encN1 1 w v l) (hu : ReadsK encN1 1 w u l) (hl : l.length ≤ 1000000) :
    Calls Try.prog 12 #[.agg #[.int .u8 k, .string s, .int .i64 fn, v, .int .i64 fuel, .int .i64 rv, .int .i64 re], .agg #[.int .u8 k, .string s, .int .i64 fn, u, .int .i64 fuel, .int .i64 rv, .int .i64 re]] w fun e w' => e = .returned (.bool true) ∧ Below w.heap.size w w' := by
  obtain ⟨va, vc, rfl⟩ := hv.slice
  obtain ⟨ua, uc, rfl⟩ := hu.slice
  have hA1 := alV w (.cells #[.int .u8 k, .string s, .int .i64 fn, .slice va l.length vc, .int .i64 fuel, .int .i64 rv, .int .i64 re] StopT)
  have hA2 := alV (w.alloc (.cells #[.int .u8 k, .string s, .int .i64 fn, .slice va l.length vc, .int .i64 fuel, .int .i64 rv, .int .i64 re] StopT)) (.cells #[.int .u8 k, .string s, .int .i64 fn, .slice ua l.length uc, .int .i64 fuel, .int .i64 rv, .int .i64 re] StopT)
  have b1 := BoxAt.below (heap_alloc_new w (.cells #[.int .u8 k, .string s, .int .i64 fn, .slice va l.length vc, .int .i64 fuel, .int .i64 rv, .int .i64 re] StopT)) hA2
  have b2 := heap_alloc_new (w.alloc (.cells #[.int .u8 k, .string s, .int .i64 fn, .slice va l.length vc, .int .i64 fuel, .int .i64 rv, .int .i64 re] StopT)) (.cells #[.int .u8 k, .string s, .int .i64 fn, .slice ua l.length uc, .int .i64 fuel, .int .i64 rv, .int .i64 re] StopT)
  rw [World.size_alloc] at b2
  have HB := Lib.hid (And.intro b1 (show BoxAt _ _ _ _ from b2))
  have HV := Lib.hid (And.intro ((hv.below hA1).below hA2) ((hu.below hA1).below hA2))
  have HW := Lib.hid (gthen hA1 hA2)
  clear hv hu hA1 hA2 b1 b2
  go_enter Try.func12, Try.ntmps12
  go_upto_region 1 with fail
  generalize (w.alloc (.cells #[.int .u8 k, .string s, .int .i64 fn, .slice va l.length vc, .int .i64 fuel, .int .i64 rv, .int .i64 re] StopT)).alloc (.cells #[.int .u8 k, .string s, .int .i64 fn, .slice ua l.length uc, .int .i64 fuel, .int .i64 rv, .int .i64 re] StopT) = w1 at *
  have c0 := HB.out.1.cell 0; have c1 := HB.out.1.cell 1; have c2 := HB.out.1.cell 2; have c3 := HB.out.1.cell 3; have c4 := HB.out.1.cell 4; have c5 := HB.out.1.cell 5; have c6 := HB.out.1.cell 6
  have d0 := HB.out.2.cell 0; have d1 := HB.out.2.cell 1; have d2 := HB.out.2.cell 2; have d3 := HB.out.2.cell 3; have d4 := HB.out.2.cell 4; have d5 := HB.out.2.cell 5; have d6 := HB.out.2.cell 6
  simp only [List.getElem?_toArray, List.getElem?_cons_zero, List.getElem?_cons_succ] at c0 c1 c2 c3 c4 c5 c6 d0 d1 d2 d3 d4 d5 d6
  go_wp2_with fail
  refine (tasks_same s fn fuel _ _ l _ HV.out.1 HV.out.2 hl).mono ?_
  rintro e w2 ⟨rfl, hB⟩
  have HB2 := Lib.hid (gthen HW.out hB)
  clear hB c0 c1 c2 c3 c4 c5 c6 d0 d1 d2 d3 d4 d5 d6
  go_wp2_with fail
  go_ret
  exact ⟨rfl, HB2.out⟩

def smOps1 : List Opr := [⟨12, 0, 0, 0, 1⟩, ⟨14, 0, 0, 0, 0⟩]
def smOps2 : List Opr := [⟨1, 0, 0, 0, 5⟩, ⟨14, 0, 0, 0, 0⟩]
def smP (oa ob : Option Addr) : List Fnc := [⟨0, 1, smOps1, oa, 2⟩, ⟨0, 1, smOps2, ob, 2⟩]
theorem box_readsV {α : Type} {enc : α → List Value} {k : Nat} (hk : ∀ x, (enc x).length = k) (h0 : 0 < k) {w : World} {b : Nat} {E : TypeId} {l : List α} (h : BoxAt w b (l.flatMap enc).toArray E) (cap : Nat) : ReadsK enc k w (.slice (some ⟨b, 0, none⟩) l.length cap) l := by
  refine .inr ⟨b, 0, cap, rfl, (Array.getElem?_eq_some_iff.1 h).1, fun i hi t u hu => ?_⟩
  have ht' : t < k := by have := (List.getElem?_eq_some_iff.1 hu).1; rwa [hk] at this
  have hlt : i * k + t < l.length * k := by
    have : (i + 1) * k ≤ l.length * k := Nat.mul_le_mul_right k hi
    rw [Nat.succ_mul] at this; omega
  have h2 := flat_get hk h0 l (i * k + t) hlt
  have e1 : (i * k + t) / k = i := by rw [Nat.mul_comm, Nat.mul_add_div h0, Nat.div_eq_of_lt ht', Nat.add_zero]
  have e2 : (i * k + t) % k = t := by rw [Nat.mul_comm, Nat.mul_add_mod, Nat.mod_eq_of_lt ht']
  have h3 : (l.flatMap enc)[i * k + t]? = some u := by
    rw [List.getElem?_eq_getElem (by rw [flat_len hk]; exact hlt), h2]
    simp only [e1, e2]
    obtain ⟨_, h4⟩ := List.getElem?_eq_some_iff.1 hu
    rw [h4]
  unfold BoxAt at h
  simp [World.cell?, h, h3]
theorem small_end {wz : World} {tmps : Array Value} {b : Nat} {v : Value} {R : Ending → World → Prop}
    (hb : BoxAt wz b #[v] PrgT) (h2 : tmps.getD 0 undef = .pointer (some ⟨b, 0, none⟩)) (hR : R (.returned (.agg #[v])) wz) :
    bodyPost Try.prog Try.f23 R Exit.ret { tmps := tmps, defers := [] } wz := by
  have c0 := hb.cell 0
  simp only [List.getElem?_toArray, List.getElem?_cons_zero] at c0
  refine bodyPost_ret (v := .agg #[v]) ?_ rfl hR
  have h2' : tmps[0]?.getD undef = .pointer (some ⟨b, 0, none⟩) := by simpa using h2
  simp [results, Try.results23, go_sem, h2', c0]
def SmallP (w : World) (e : Ending) (w' : World) : Prop := ∃ v oa ob, e = .returned (.agg #[v]) ∧ Below w.heap.size w w' ∧ ProgAt w' v (smP oa ob)
set_option maxHeartbeats 1600000 in
set_option maxRecDepth 100000 in
theorem small_any (w : World) : Calls Try.prog 23 #[] w (SmallP w) := by
  have H : ∀ w1 w2 w3 w4 : World, w1 = w.alloc (.cells #[.slice (some ⟨w.heap.size + 1 + 1 + 1, 0, none⟩) 2 2] PrgT) → w2 = w1.alloc (.cells (smOps1.flatMap encO).toArray OpT) → w3 = w2.alloc (.cells (smOps2.flatMap encO).toArray OpT) → w4 = w3.alloc (.cells #[.int .i64 0, .int .i64 1, .slice (some ⟨w.heap.size + 1, 0, none⟩) 2 2, .int .i64 0, .int .i64 1, .slice (some ⟨w.heap.size + 1 + 1, 0, none⟩) 2 2] FnT) →
      Below w.heap.size w w4 ∧ BoxAt w4 w.heap.size #[.slice (some ⟨w.heap.size + 1 + 1 + 1, 0, none⟩) 2 2] PrgT ∧ ProgAt w4 (.slice (some ⟨w.heap.size + 1 + 1 + 1, 0, none⟩) 2 2) (smP (some ⟨w.heap.size + 1, 0, none⟩) (some ⟨w.heap.size + 1 + 1, 0, none⟩)) := by
    intro w1 w2 w3 w4 h1 h2 h3 h4
    have s1 : w1.heap.size = w.heap.size + 1 := by rw [h1]; simp
    have s2 : w2.heap.size = w.heap.size + 1 + 1 := by rw [h2]; simp [s1]
    have s3 : w3.heap.size = w.heap.size + 1 + 1 + 1 := by rw [h3]; simp [s2]
    have B1 : Below w.heap.size w w1 := by rw [h1]; exact alV _ _
    have B2 : Below w1.heap.size w1 w2 := by rw [h2]; exact alV _ _
    have B3 : Below w2.heap.size w2 w3 := by rw [h3]; exact alV _ _
    have B4 : Below w3.heap.size w3 w4 := by rw [h4]; exact alV _ _
    have x1 : BoxAt w1 w.heap.size #[.slice (some ⟨w.heap.size + 1 + 1 + 1, 0, none⟩) 2 2] PrgT := by rw [h1]; exact heap_alloc_new _ _
    have x2 : BoxAt w2 (w.heap.size + 1) (smOps1.flatMap encO).toArray OpT := by rw [h2, ← s1]; exact heap_alloc_new _ _
    have x3 : BoxAt w3 (w.heap.size + 1 + 1) (smOps2.flatMap encO).toArray OpT := by rw [h3, ← s2]; exact heap_alloc_new _ _
    have x4 : BoxAt w4 (w.heap.size + 1 + 1 + 1) #[.int .i64 0, .int .i64 1, .slice (some ⟨w.heap.size + 1, 0, none⟩) 2 2, .int .i64 0, .int .i64 1, .slice (some ⟨w.heap.size + 1 + 1, 0, none⟩) 2 2] FnT := by rw [h4, ← s3]; exact heap_alloc_new _ _
    refine ⟨gthen (gthen (gthen B1 B2) B3) B4, ((x1.below B2).below B3).below B4, ⟨box_readsV (enc := encF) (k := 3) (l := smP (some ⟨w.heap.size + 1, 0, none⟩) (some ⟨w.heap.size + 1 + 1, 0, none⟩)) (fun _ => rfl) (by decide) x4 2, ?_, by simp [smP]⟩⟩
    intro f hf
    simp only [smP, List.mem_cons, List.not_mem_nil, or_false] at hf
    rcases hf with rfl | rfl
    · exact ⟨box_readsV (enc := encO) (k := 5) (l := smOps1) (fun _ => rfl) (by decide) ((x2.below B3).below B4) 2, (by decide : (2 : Nat) ≤ 1000)⟩
    · exact ⟨box_readsV (enc := encO) (k := 5) (l := smOps2) (fun _ => rfl) (by decide) (x3.below B4) 2, (by decide : (2 : Nat) ≤ 1000)⟩
  obtain ⟨g1, g2, g3⟩ := H _ _ _ _ rfl rfl rfl rfl
  go_enter Try.func23, Try.ntmps23
  go_wp2_with fail
  exact small_end g2 rfl ⟨_, _, _, rfl, g1, g3⟩

def smT : Tk := ⟨⟨#[]⟩, 0, [], 20⟩
def smV0 : Vs := { regs := [0], left := 20, pc := 0, kids := [], joined := 0, waits := none, result := none }
def smV1 : Vs := { regs := [0], left := 10, pc := 1, kids := [⟨0, false, ⟨0, 0⟩⟩], joined := 0, waits := none, result := none }
def smV2 : Vs := { regs := [0], left := 9, pc := 2, kids := [⟨0, false, ⟨0, 0⟩⟩], joined := 0, waits := some ⟨14, 0, 0, 0, 0⟩, result := none }
def smV3 : Vs := { regs := [0], left := 9, pc := 2, kids := [⟨0, true, ⟨5, 0⟩⟩], joined := 0, waits := some ⟨14, 0, 0, 0, 0⟩, result := none }
def smV4 : Vs := { regs := [5], left := 9, pc := 2, kids := [⟨0, true, ⟨5, 0⟩⟩], joined := 1, waits := none, result := some ⟨5, 0⟩ }
set_option maxRecDepth 100000 in
theorem sm_new (oa ob : Option Addr) : newE (smP oa ob) smT = 0 ∧ newV (smP oa ob) smT = smV0 := ⟨by kernel_rfl, by kernel_rfl⟩
set_option maxRecDepth 100000 in
theorem sm_run1 (oa ob : Option Addr) : runV (smP oa ob) smT 9 smV0 = (⟨2, ⟨⟨#[1]⟩, 1, [], 9⟩, ⟨0, 0⟩⟩, smV1) := by kernel_rfl
set_option maxRecDepth 100000 in
theorem sm_run2 (oa ob : Option Addr) : runV (smP oa ob) smT 9 smV1 = (⟨3, ⟨⟨#[]⟩, 0, [], 0⟩, ⟨0, 0⟩⟩, smV2) := by kernel_rfl
theorem sm_waits : waitsV smV2 = [1] := by kernel_rfl
theorem sm_give1 : giveV smV2 1 ⟨5, 0⟩ = (0, smV3) := by kernel_rfl
set_option maxRecDepth 100000 in
theorem sm_run3 (oa ob : Option Addr) : runV (smP oa ob) smT 9 smV3 = (⟨4, ⟨⟨#[]⟩, 0, [], 0⟩, ⟨5, 0⟩⟩, smV4) := by kernel_rfl
theorem sm_give2 : giveV smV4 1 ⟨0, 0⟩ = (7, smV4) := by kernel_rfl
theorem sm_give3 : giveV smV4 2 ⟨0, 0⟩ = (5, smV4) := by kernel_rfl
end Go.Proofs.Ytdhbjejejeljoaa
