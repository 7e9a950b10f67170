/- Two frames side by side; fuel never grows. -/
import Derived.Test.YtdhbjejejeljoaaGreatVm14
import Derived.Test.YtdhbjejejeljoaaGreatEvT
namespace Go.Proofs.YtdhbjejejeljoaaGreat
open Go.RowKit Go.Sort Go.Lib

def smOps1 : List Opr := [⟨12, 0, 0, 0, 1⟩, ⟨14, 0, 0, 0, 0⟩]
def smOps2 : List Opr := [⟨1, 0, 0, 0, 5⟩, ⟨14, 0, 0, 0, 0⟩]
def smP (oa ob : Option Addr) : List Fnc := [⟨0, 1, smOps1, oa, 2⟩, ⟨0, 1, smOps2, ob, 2⟩]
theorem box_readsV {α : Type} {enc : α → List Value} {k : Nat} (hk : ∀ x, (enc x).length = k) (h0 : 0 < k) {w : World} {b : Nat} {E : TypeId} {l : List α} (h : BoxAt w b (l.flatMap enc).toArray E) (cap : Nat) : ReadsK enc k w (.slice (some ⟨b, 0, none⟩) l.length cap) l := by
  refine .inr ⟨b, 0, cap, rfl, (Array.getElem?_eq_some_iff.1 h).1, fun i hi t u hu => ?_⟩
  have ht' : t < k := by have := (List.getElem?_eq_some_iff.1 hu).1; rwa [hk] at this
  have hlt : i * k + t < l.length * k := by
    have : (i + 1) * k ≤ l.length * k := Nat.mul_le_mul_right k hi
    rw [Nat.succ_mul] at this; omega
  have h2 := flat_get hk h0 l (i * k + t) hlt
  have e1 : (i * k + t) / k = i := by rw [Nat.mul_comm, Nat.mul_add_div h0, Nat.div_eq_of_lt ht', Nat.add_zero]
  have e2 : (i * k + t) % k = t := by rw [Nat.mul_comm, Nat.mul_add_mod, Nat.mod_eq_of_lt ht']
  have h3 : (l.flatMap enc)[i * k + t]? = some u := by
    rw [List.getElem?_eq_getElem (by rw [flat_len hk]; exact hlt), h2]
    simp only [e1, e2]
    obtain ⟨_, h4⟩ := List.getElem?_eq_some_iff.1 hu
    rw [h4]
  unfold BoxAt at h
  simp [World.cell?, h, h3]
theorem small_end {wz : World} {tmps : Array Value} {b : Nat} {v : Value} {R : Ending → World → Prop}
    (hb : BoxAt wz b #[v] PrgT) (h2 : tmps.getD 0 undef = .pointer (some ⟨b, 0, none⟩)) (hR : R (.returned (.agg #[v])) wz) :
    bodyPost Tryz.prog Tryz.f13 R Exit.ret { tmps := tmps, defers := [] } wz := by
  have c0 := hb.cell 0
  simp only [List.getElem?_toArray, List.getElem?_cons_zero] at c0
  refine bodyPost_ret (v := .agg #[v]) ?_ rfl hR
  have h2' : tmps[0]?.getD undef = .pointer (some ⟨b, 0, none⟩) := by simpa using h2
  simp [results, Tryz.results13, go_sem, h2', c0]
def SmallP (w : World) (e : Ending) (w' : World) : Prop := ∃ v oa ob, e = .returned (.agg #[v]) ∧ Below w.heap.size w w' ∧ ProgAt w' v (smP oa ob)
set_option maxHeartbeats 1600000 in
set_option maxRecDepth 100000 in
theorem small_any (w : World) : Calls Tryz.prog 13 #[] w (SmallP w) := by
  have H : ∀ w1 w2 w3 w4 : World, w1 = w.alloc (.cells #[.slice (some ⟨w.heap.size + 1 + 1 + 1, 0, none⟩) 2 2] PrgT) → w2 = w1.alloc (.cells (smOps1.flatMap encO).toArray OpT) → w3 = w2.alloc (.cells (smOps2.flatMap encO).toArray OpT) → w4 = w3.alloc (.cells #[.int .i64 0, .int .i64 1, .slice (some ⟨w.heap.size + 1, 0, none⟩) 2 2, .int .i64 0, .int .i64 1, .slice (some ⟨w.heap.size + 1 + 1, 0, none⟩) 2 2] FnT) →
      Below w.heap.size w w4 ∧ BoxAt w4 w.heap.size #[.slice (some ⟨w.heap.size + 1 + 1 + 1, 0, none⟩) 2 2] PrgT ∧ ProgAt w4 (.slice (some ⟨w.heap.size + 1 + 1 + 1, 0, none⟩) 2 2) (smP (some ⟨w.heap.size + 1, 0, none⟩) (some ⟨w.heap.size + 1 + 1, 0, none⟩)) := by
    intro w1 w2 w3 w4 h1 h2 h3 h4
    have s1 : w1.heap.size = w.heap.size + 1 := by rw [h1]; simp
    have s2 : w2.heap.size = w.heap.size + 1 + 1 := by rw [h2]; simp [s1]
    have s3 : w3.heap.size = w.heap.size + 1 + 1 + 1 := by rw [h3]; simp [s2]
    have B1 : Below w.heap.size w w1 := by rw [h1]; exact alV _ _
    have B2 : Below w1.heap.size w1 w2 := by rw [h2]; exact alV _ _
    have B3 : Below w2.heap.size w2 w3 := by rw [h3]; exact alV _ _
    have B4 : Below w3.heap.size w3 w4 := by rw [h4]; exact alV _ _
    have x1 : BoxAt w1 w.heap.size #[.slice (some ⟨w.heap.size + 1 + 1 + 1, 0, none⟩) 2 2] PrgT := by rw [h1]; exact heap_alloc_new _ _
    have x2 : BoxAt w2 (w.heap.size + 1) (smOps1.flatMap encO).toArray OpT := by rw [h2, ← s1]; exact heap_alloc_new _ _
    have x3 : BoxAt w3 (w.heap.size + 1 + 1) (smOps2.flatMap encO).toArray OpT := by rw [h3, ← s2]; exact heap_alloc_new _ _
    have x4 : BoxAt w4 (w.heap.size + 1 + 1 + 1) #[.int .i64 0, .int .i64 1, .slice (some ⟨w.heap.size + 1, 0, none⟩) 2 2, .int .i64 0, .int .i64 1, .slice (some ⟨w.heap.size + 1 + 1, 0, none⟩) 2 2] FnT := by rw [h4, ← s3]; exact heap_alloc_new _ _
    refine ⟨gthen (gthen (gthen B1 B2) B3) B4, ((x1.below B2).below B3).below B4, ⟨box_readsV (enc := encF) (k := 3) (l := smP (some ⟨w.heap.size + 1, 0, none⟩) (some ⟨w.heap.size + 1 + 1, 0, none⟩)) (fun _ => rfl) (by decide) x4 2, ?_, by simp [smP]⟩⟩
    intro f hf
    simp only [smP, List.mem_cons, List.not_mem_nil, or_false] at hf
    rcases hf with rfl | rfl
    · exact ⟨box_readsV (enc := encO) (k := 5) (l := smOps1) (fun _ => rfl) (by decide) ((x2.below B3).below B4) 2, (by decide : (2 : Nat) ≤ 1000)⟩
    · exact ⟨box_readsV (enc := encO) (k := 5) (l := smOps2) (fun _ => rfl) (by decide) (x3.below B4) 2, (by decide : (2 : Nat) ≤ 1000)⟩
  obtain ⟨g1, g2, g3⟩ := H _ _ _ _ rfl rfl rfl rfl
  go_enter Tryz.func13, Tryz.ntmps13
  go_wp2_with fail
  exact small_end g2 rfl ⟨_, _, _, rfl, g1, g3⟩

def smT : Tk := ⟨⟨#[]⟩, 0, [], 20⟩
def smV0 : Vs := { regs := [0], left := 20, pc := 0, kids := [], joined := 0, waits := none, result := none }
def smV1 : Vs := { regs := [0], left := 10, pc := 1, kids := [⟨0, false, ⟨0, 0⟩⟩], joined := 0, waits := none, result := none }
def smV2 : Vs := { regs := [0], left := 9, pc := 2, kids := [⟨0, false, ⟨0, 0⟩⟩], joined := 0, waits := some ⟨14, 0, 0, 0, 0⟩, result := none }
def smV3 : Vs := { regs := [0], left := 9, pc := 2, kids := [⟨0, true, ⟨5, 0⟩⟩], joined := 0, waits := some ⟨14, 0, 0, 0, 0⟩, result := none }
def smV4 : Vs := { regs := [5], left := 9, pc := 2, kids := [⟨0, true, ⟨5, 0⟩⟩], joined := 1, waits := none, result := some ⟨5, 0⟩ }
set_option maxRecDepth 100000 in
theorem sm_new (oa ob : Option Addr) : newE (smP oa ob) smT = 0 ∧ newV (smP oa ob) smT = smV0 := ⟨by kernel_rfl, by kernel_rfl⟩
set_option maxRecDepth 100000 in
theorem sm_run1 (oa ob : Option Addr) : runV (smP oa ob) smT 9 smV0 = (⟨2, ⟨⟨#[1]⟩, 1, [], 9⟩, ⟨0, 0⟩⟩, smV1) := by kernel_rfl
set_option maxRecDepth 100000 in
theorem sm_run2 (oa ob : Option Addr) : runV (smP oa ob) smT 9 smV1 = (⟨3, ⟨⟨#[]⟩, 0, [], 0⟩, ⟨0, 0⟩⟩, smV2) := by kernel_rfl
theorem sm_waits : waitsV smV2 = [1] := by kernel_rfl
theorem sm_give1 : giveV smV2 1 ⟨5, 0⟩ = (0, smV3) := by kernel_rfl
set_option maxRecDepth 100000 in
theorem sm_run3 (oa ob : Option Addr) : runV (smP oa ob) smT 9 smV3 = (⟨4, ⟨⟨#[]⟩, 0, [], 0⟩, ⟨5, 0⟩⟩, smV4) := by kernel_rfl
theorem sm_give2 : giveV smV4 1 ⟨0, 0⟩ = (7, smV4) := by kernel_rfl
theorem sm_give3 : giveV smV4 2 ⟨0, 0⟩ = (5, smV4) := by kernel_rfl
end Go.Proofs.YtdhbjejejeljoaaGreat
namespace Go.Proofs.YtdhbjejejeljoaaGreat
open Go.RowKit Go.Sort Go.Lib

theorem Frm.low {B x r : Nat} {kv : Value} {p : List Fnc} {t : Tk} {s : Vs} {w : World} (h : Frm B x r kv p t s w) : ∀ i, VmS x r kv i → B ≤ i := by
  obtain ⟨pv, p', av, wv, rv, h1, h2⟩ := h
  rintro i ((e | e) | e)
  · have := h1.bx.1; omega
  · have := h1.bx.2; omega
  · exact h1.bk i e
/-- The known frame, at this state; nothing old has turned. -/
structure AlW (oa ob : Option Addr) (B x r : Nat) (kv : Value) (s : Vs) (w0 w : World) : Prop where
  frm : Frm B x r kv (smP oa ob) smT s w
  low : Below w0.heap.size w0 w
  le : w0.heap.size ≤ B
section
variable {oa ob : Option Addr} {B x r : Nat} {kv kv' : Value} {s s' : Vs} {w0 w w' : World}
theorem AlW.below (h : AlW oa ob B x r kv s w0 w) (hB : Below w.heap.size w w') : AlW oa ob B x r kv s w0 w' := ⟨h.frm.below hB, gthen h.low hB, h.le⟩
theorem AlW.next (h : AlW oa ob B x r kv s w0 w) (hf : Frm B x r kv' (smP oa ob) smT s' w') (hl : VmL x r kv w kv' w') : AlW oa ob B x r kv' s' w0 w' :=
  ⟨hf, h.low.trans (hl.fr.below (fun i hi => Nat.le_trans h.le (h.frm.low i hi)) h.low.size), h.le⟩
theorem AlW.box (h : AlW oa ob B x r kv s w0 w) (hl : VmL x r kv w kv' w') {b : Nat} {cur : Array Value} (hb : BoxAt w b cur StopT) : BoxAt w' b cur StopT := box_typed hb hl.fr h.frm.typed (by decide)
theorem AlW.own (h : AlW oa ob B x r kv s w0 w) (hl : VmL x r kv w kv' w') {Z k n : Nat} {v : Value} {xs : List Value} (ho : w.ownsRow Z IntT k v n xs) : w'.ownsRow Z IntT k v n xs := own_typed ho hl.fr h.frm.typed (by decide)
end
theorem task_fuel (s : ByteArray) (n u : Int) (a : Option Addr) (l c : Nat) (w : World) : (Instr.field TaskT (.agg #[.string s, .int .i64 n, .slice a l c, .int .i64 u]) 3).run Tryz.prog w = .ok (.int .i64 u) w := by kernel_rfl
set_option maxHeartbeats 12800000 in
set_option maxRecDepth 100000 in
theorem valive_any (w : World) : Calls Tryz.prog 5 #[] w fun e w' => e = .returned (.bool true) ∧ Below w.heap.size w w' := by
  go_enter Tryz.func5, Tryz.ntmps5
  go_wp2_with fail
  refine (small_any _).mono ?_
  rintro e w1 ⟨v, oa, ob, rfl, hB1, hP⟩
  obtain ⟨va, vc, rfl⟩ := hP.fns.slice
  have HL := Lib.hid hB1
  have HP := Lib.hid hP
  clear hB1 hP
  go_wp2_with fail
  refine (vnew_any _ (.slice none 0 0) (smP oa ob) smT w1 HP.out (.inl ⟨rfl, none, 0, rfl⟩) (by decide) (by decide)).mono ?_
  rintro e w2 hh
  obtain ⟨hB2, ⟨h0, _⟩ | ⟨h0, x, r, rfl, hf⟩⟩ := hh.frm
  · exact absurd (sm_new oa ob).1 h0
  rw [(sm_new oa ob).2] at hf
  have H2 := Lib.hid (show AlW oa ob w1.heap.size x r (.slice none 0 0) smV0 w w2 from ⟨hf, gthen HL.out hB2, HL.out.size⟩)
  clear hf hB2 hh h0 HP HL
  go_wp2_with fail
  refine (frm_run 9 (by decide) (by decide) H2.out.frm (sm_run1 oa ob)).mono ?_
  rintro e w3 ⟨qa, qc, kv3, rfl, ho3, hf3, hl3⟩
  have H3 := Lib.hid (H2.out.next hf3 hl3)
  clear ho3 hf3 hl3 H2
  go_upto_region 5 with fail
  have hA4 := alV w3 (.cells #[.int .u8 2, .string ⟨#[1]⟩, .int .i64 1, .slice qa 0 qc, .int .i64 9, .int .i64 0, .int .i64 0] StopT)
  have H4 := Lib.hid (show AlW oa ob w1.heap.size x r kv3 smV1 w (w3.alloc (.cells #[.int .u8 2, .string ⟨#[1]⟩, .int .i64 1, .slice qa 0 qc, .int .i64 9, .int .i64 0, .int .i64 0] StopT)) ∧ BoxAt (w3.alloc (.cells #[.int .u8 2, .string ⟨#[1]⟩, .int .i64 1, .slice qa 0 qc, .int .i64 9, .int .i64 0, .int .i64 0] StopT)) w3.heap.size #[.int .u8 2, .string ⟨#[1]⟩, .int .i64 1, .slice qa 0 qc, .int .i64 9, .int .i64 0, .int .i64 0] StopT from ⟨H3.out.below hA4, heap_alloc_new _ _⟩)
  clear hA4 H3
  generalize w3.alloc (.cells #[.int .u8 2, .string ⟨#[1]⟩, .int .i64 1, .slice qa 0 qc, .int .i64 9, .int .i64 0, .int .i64 0] StopT) = w4 at *
  generalize w3.heap.size = b1 at *
  go_wp2_with fail
  refine (frm_run 9 (by decide) (by decide) H4.out.1.frm (sm_run2 oa ob)).mono ?_
  rintro e w5 ⟨qa2, qc2, kv5, rfl, ho5, hf5, hl5⟩
  have H5 := Lib.hid (show AlW oa ob w1.heap.size x r kv5 smV2 w w5 ∧ BoxAt w5 b1 #[.int .u8 2, .string ⟨#[1]⟩, .int .i64 1, .slice qa 0 qc, .int .i64 9, .int .i64 0, .int .i64 0] StopT from ⟨H4.out.1.next hf5 hl5, H4.out.1.box hl5 H4.out.2⟩)
  clear ho5 hf5 hl5 H4
  go_upto_region 6 with fail
  have hA6 := alV w5 (.cells #[.int .u8 3, .string ⟨#[]⟩, .int .i64 0, .slice qa2 0 qc2, .int .i64 0, .int .i64 0, .int .i64 0] StopT)
  have H6 := Lib.hid (show AlW oa ob w1.heap.size x r kv5 smV2 w (w5.alloc (.cells #[.int .u8 3, .string ⟨#[]⟩, .int .i64 0, .slice qa2 0 qc2, .int .i64 0, .int .i64 0, .int .i64 0] StopT)) ∧ BoxAt (w5.alloc (.cells #[.int .u8 3, .string ⟨#[]⟩, .int .i64 0, .slice qa2 0 qc2, .int .i64 0, .int .i64 0, .int .i64 0] StopT)) b1 #[.int .u8 2, .string ⟨#[1]⟩, .int .i64 1, .slice qa 0 qc, .int .i64 9, .int .i64 0, .int .i64 0] StopT ∧ BoxAt (w5.alloc (.cells #[.int .u8 3, .string ⟨#[]⟩, .int .i64 0, .slice qa2 0 qc2, .int .i64 0, .int .i64 0, .int .i64 0] StopT)) w5.heap.size #[.int .u8 3, .string ⟨#[]⟩, .int .i64 0, .slice qa2 0 qc2, .int .i64 0, .int .i64 0, .int .i64 0] StopT from ⟨H5.out.1.below hA6, H5.out.2.below hA6, heap_alloc_new _ _⟩)
  clear hA6 H5
  generalize w5.alloc (.cells #[.int .u8 3, .string ⟨#[]⟩, .int .i64 0, .slice qa2 0 qc2, .int .i64 0, .int .i64 0, .int .i64 0] StopT) = w6 at *
  generalize w5.heap.size = b2 at *
  go_wp2_with fail
  refine (frm_waits H6.out.1.frm sm_waits).mono ?_
  rintro e w7 ⟨ia, ic, rfl, ho7, hB7⟩
  have H7 := Lib.hid (show AlW oa ob w1.heap.size x r kv5 smV2 w w7 ∧ BoxAt w7 b1 #[.int .u8 2, .string ⟨#[1]⟩, .int .i64 1, .slice qa 0 qc, .int .i64 9, .int .i64 0, .int .i64 0] StopT ∧ BoxAt w7 b2 #[.int .u8 3, .string ⟨#[]⟩, .int .i64 0, .slice qa2 0 qc2, .int .i64 0, .int .i64 0, .int .i64 0] StopT ∧ w7.ownsRow w6.heap.size IntT 1 (.slice ia 1 ic) 1 ([(1 : Int)].flatMap encN1) from ⟨H6.out.1.below hB7, H6.out.2.1.below hB7, H6.out.2.2.below hB7, ho7⟩)
  clear ho7 hB7 H6
  go_wp2_with fail
  refine (frm_give 1 ⟨5, 0⟩ H7.out.1.frm sm_give1).mono ?_
  rintro e w8 ⟨rfl, hf8, hl8⟩
  have H8 := Lib.hid (show AlW oa ob w1.heap.size x r kv5 smV3 w w8 ∧ BoxAt w8 b1 #[.int .u8 2, .string ⟨#[1]⟩, .int .i64 1, .slice qa 0 qc, .int .i64 9, .int .i64 0, .int .i64 0] StopT ∧ BoxAt w8 b2 #[.int .u8 3, .string ⟨#[]⟩, .int .i64 0, .slice qa2 0 qc2, .int .i64 0, .int .i64 0, .int .i64 0] StopT ∧ w8.ownsRow w6.heap.size IntT 1 (.slice ia 1 ic) 1 ([(1 : Int)].flatMap encN1) from ⟨H7.out.1.next hf8 hl8, H7.out.1.box hl8 H7.out.2.1, H7.out.1.box hl8 H7.out.2.2.1, H7.out.1.own hl8 H7.out.2.2.2⟩)
  clear hf8 hl8 H7
  go_wp2_with fail
  refine (frm_run 9 (by decide) (by decide) H8.out.1.frm (sm_run3 oa ob)).mono ?_
  rintro e w9 ⟨qa3, qc3, kv9, rfl, ho9, hf9, hl9⟩
  have H9 := Lib.hid (show AlW oa ob w1.heap.size x r kv9 smV4 w w9 ∧ BoxAt w9 b1 #[.int .u8 2, .string ⟨#[1]⟩, .int .i64 1, .slice qa 0 qc, .int .i64 9, .int .i64 0, .int .i64 0] StopT ∧ BoxAt w9 b2 #[.int .u8 3, .string ⟨#[]⟩, .int .i64 0, .slice qa2 0 qc2, .int .i64 0, .int .i64 0, .int .i64 0] StopT ∧ w9.ownsRow w6.heap.size IntT 1 (.slice ia 1 ic) 1 ([(1 : Int)].flatMap encN1) from ⟨H8.out.1.next hf9 hl9, H8.out.1.box hl9 H8.out.2.1, H8.out.1.box hl9 H8.out.2.2.1, H8.out.1.own hl9 H8.out.2.2.2⟩)
  clear ho9 hf9 hl9 H8
  go_upto_region 9 with fail
  have hA10 := alV w9 (.cells #[.int .u8 4, .string ⟨#[]⟩, .int .i64 0, .slice qa3 0 qc3, .int .i64 0, .int .i64 5, .int .i64 0] StopT)
  have H10 := Lib.hid (show AlW oa ob w1.heap.size x r kv9 smV4 w (w9.alloc (.cells #[.int .u8 4, .string ⟨#[]⟩, .int .i64 0, .slice qa3 0 qc3, .int .i64 0, .int .i64 5, .int .i64 0] StopT)) ∧ BoxAt (w9.alloc (.cells #[.int .u8 4, .string ⟨#[]⟩, .int .i64 0, .slice qa3 0 qc3, .int .i64 0, .int .i64 5, .int .i64 0] StopT)) b1 #[.int .u8 2, .string ⟨#[1]⟩, .int .i64 1, .slice qa 0 qc, .int .i64 9, .int .i64 0, .int .i64 0] StopT ∧ BoxAt (w9.alloc (.cells #[.int .u8 4, .string ⟨#[]⟩, .int .i64 0, .slice qa3 0 qc3, .int .i64 0, .int .i64 5, .int .i64 0] StopT)) b2 #[.int .u8 3, .string ⟨#[]⟩, .int .i64 0, .slice qa2 0 qc2, .int .i64 0, .int .i64 0, .int .i64 0] StopT ∧ (w9.alloc (.cells #[.int .u8 4, .string ⟨#[]⟩, .int .i64 0, .slice qa3 0 qc3, .int .i64 0, .int .i64 5, .int .i64 0] StopT)).ownsRow w6.heap.size IntT 1 (.slice ia 1 ic) 1 ([(1 : Int)].flatMap encN1) ∧ BoxAt (w9.alloc (.cells #[.int .u8 4, .string ⟨#[]⟩, .int .i64 0, .slice qa3 0 qc3, .int .i64 0, .int .i64 5, .int .i64 0] StopT)) w9.heap.size #[.int .u8 4, .string ⟨#[]⟩, .int .i64 0, .slice qa3 0 qc3, .int .i64 0, .int .i64 5, .int .i64 0] StopT from ⟨H9.out.1.below hA10, H9.out.2.1.below hA10, H9.out.2.2.1.below hA10, own_below H9.out.2.2.2 hA10, heap_alloc_new _ _⟩)
  clear hA10 H9
  generalize w9.alloc (.cells #[.int .u8 4, .string ⟨#[]⟩, .int .i64 0, .slice qa3 0 qc3, .int .i64 0, .int .i64 5, .int .i64 0] StopT) = w10 at *
  generalize w9.heap.size = b3 at *
  go_wp2_with fail
  refine (frm_give 1 ⟨0, 0⟩ H10.out.1.frm sm_give2).mono ?_
  rintro e w11 ⟨rfl, hf11, hl11⟩
  have H11 := Lib.hid (show AlW oa ob w1.heap.size x r kv9 smV4 w w11 ∧ BoxAt w11 b1 #[.int .u8 2, .string ⟨#[1]⟩, .int .i64 1, .slice qa 0 qc, .int .i64 9, .int .i64 0, .int .i64 0] StopT ∧ BoxAt w11 b2 #[.int .u8 3, .string ⟨#[]⟩, .int .i64 0, .slice qa2 0 qc2, .int .i64 0, .int .i64 0, .int .i64 0] StopT ∧ w11.ownsRow w6.heap.size IntT 1 (.slice ia 1 ic) 1 ([(1 : Int)].flatMap encN1) ∧ BoxAt w11 b3 #[.int .u8 4, .string ⟨#[]⟩, .int .i64 0, .slice qa3 0 qc3, .int .i64 0, .int .i64 5, .int .i64 0] StopT from ⟨H10.out.1.next hf11 hl11, H10.out.1.box hl11 H10.out.2.1, H10.out.1.box hl11 H10.out.2.2.1, H10.out.1.own hl11 H10.out.2.2.2.1, H10.out.1.box hl11 H10.out.2.2.2.2⟩)
  clear hf11 hl11 H10
  go_upto_region 10 with fail
  go_wp2_with fail
  refine (frm_low 0 (by decide) H11.out.1.frm).mono ?_
  rintro e w12 ⟨rfl, hB12⟩
  have hB13 := gthen hB12 (alV w12 (.cells #[.int .u8 0, .string ⟨#[]⟩, .int .i64 0, .slice none 0 0, .int .i64 0, .int .i64 0, .int .i64 0] StopT))
  have H13 := Lib.hid (show AlW oa ob w1.heap.size x r kv9 smV4 w (w12.alloc (.cells #[.int .u8 0, .string ⟨#[]⟩, .int .i64 0, .slice none 0 0, .int .i64 0, .int .i64 0, .int .i64 0] StopT)) ∧ BoxAt (w12.alloc (.cells #[.int .u8 0, .string ⟨#[]⟩, .int .i64 0, .slice none 0 0, .int .i64 0, .int .i64 0, .int .i64 0] StopT)) b1 #[.int .u8 2, .string ⟨#[1]⟩, .int .i64 1, .slice qa 0 qc, .int .i64 9, .int .i64 0, .int .i64 0] StopT ∧ BoxAt (w12.alloc (.cells #[.int .u8 0, .string ⟨#[]⟩, .int .i64 0, .slice none 0 0, .int .i64 0, .int .i64 0, .int .i64 0] StopT)) b2 #[.int .u8 3, .string ⟨#[]⟩, .int .i64 0, .slice qa2 0 qc2, .int .i64 0, .int .i64 0, .int .i64 0] StopT ∧ (w12.alloc (.cells #[.int .u8 0, .string ⟨#[]⟩, .int .i64 0, .slice none 0 0, .int .i64 0, .int .i64 0, .int .i64 0] StopT)).ownsRow w6.heap.size IntT 1 (.slice ia 1 ic) 1 ([(1 : Int)].flatMap encN1) ∧ BoxAt (w12.alloc (.cells #[.int .u8 0, .string ⟨#[]⟩, .int .i64 0, .slice none 0 0, .int .i64 0, .int .i64 0, .int .i64 0] StopT)) b3 #[.int .u8 4, .string ⟨#[]⟩, .int .i64 0, .slice qa3 0 qc3, .int .i64 0, .int .i64 5, .int .i64 0] StopT from ⟨H11.out.1.below hB13, H11.out.2.1.below hB13, H11.out.2.2.1.below hB13, own_below H11.out.2.2.2.1 hB13, H11.out.2.2.2.2.below hB13⟩)
  have hal : ∀ (o : Obj) (a : Addr) (v : Value), w12.cell? a = some v → (w12.alloc o).cell? a = some v := fun o a v h => ((alV w12 o).cell (World.block_lt_of_cell? _ _ h)).trans h
  have k1 := H11.out.2.1.below hB12
  have k2 := H11.out.2.2.1.below hB12
  have k3 := H11.out.2.2.2.2.below hB12
  obtain ⟨g, off, cc, he, _, hc⟩ := (own_readsK (enc := encN1) (k := 1) (l := [(1 : Int)]) (fun _ => rfl) (by decide) (own_below H11.out.2.2.2.1 hB12)).at (by decide)
  injection he with he e2 e3
  subst he
  clear e2 e3
  have kw := hc 0 (by decide) 0 _ rfl
  have a0 := fun o => hal o _ _ (k1.cell 0)
  have a1 := fun o => hal o _ _ (k1.cell 1)
  have a2 := fun o => hal o _ _ (k1.cell 2)
  have a4 := fun o => hal o _ _ (k1.cell 4)
  have d0 := fun o => hal o _ _ (k2.cell 0)
  have e0 := fun o => hal o _ _ (k3.cell 0)
  have e5 := fun o => hal o _ _ (k3.cell 5)
  have e6 := fun o => hal o _ _ (k3.cell 6)
  have g0 := fun o => hal o _ _ kw
  simp only [Nat.zero_mul, Nat.add_zero, List.getElem_cons_zero] at g0
  clear hal k1 k2 k3 hc kw hB12 hB13 H11
  simp only [zSp]
  go_wp2_with fail
  refine (frm_give 2 ⟨0, 0⟩ H13.out.1.frm sm_give3).mono ?_
  rintro e w14 ⟨rfl, hf14, hl14⟩
  have H14 := Lib.hid (H13.out.1.next hf14 hl14)
  clear hf14 hl14 H13 a0 a1 a2 a4 d0 e0 e5 e6 g0
  go_wp2_with fail
  refine (frm_kids H14.out.frm).mono ?_
  rintro e w15 ⟨rfl, rfl⟩
  go_wp2_with fail
  refine (frm_left H14.out.frm).mono ?_
  rintro e w16 ⟨rfl, rfl⟩
  go_wp2_with fail
  refine (frm_task H14.out.frm).mono ?_
  rintro e w17 ⟨ta, tc, rfl, ho17, hB17⟩
  have H17 := Lib.hid (gthen H14.out.low hB17)
  clear ho17 hB17 H14
  simp only [smT, List.length_nil]
  have hfd := fun w => task_fuel ⟨#[]⟩ 0 20 ta 0 tc w
  go_wp2_with fail
  go_ret
  exact ⟨rfl, H17.out⟩
end Go.Proofs.YtdhbjejejeljoaaGreat
namespace Go.Proofs.YtdhbjejejeljoaaGreat
open Go.RowKit Go.Sort Go.Lib

theorem joinV_left {s : Vs} {o : Opr} : (joinV s o).2.left = s.left := by
  unfold joinV
  by_cases h1 : (openV s).any (fun c => !c.given) = true
  · rw [if_pos h1]
  rw [if_neg h1]
  simp only []
  by_cases h2 : firstE ((openV s).map (·.r.e)) ≠ 0
  · rw [if_pos h2]; rfl
  rw [if_neg h2]
  by_cases h3 : o.k = 14
  · rw [if_pos h3]; rfl
  · rw [if_neg h3]
theorem stepV_left {p : List Fnc} {t : Tk} {s : Vs} (h0 : 0 ≤ s.left) : (stepV p t s).2.left ≤ s.left := by
  unfold stepV
  by_cases hz : s.left = 0
  · rw [if_pos hz]; exact Int.le_refl _
  rw [if_neg hz]
  generalize atV p t s = o
  unfold opV2
  by_cases k1 : o.k = 1
  · rw [if_pos k1]; simp only []; omega
  rw [if_neg k1]
  by_cases k10 : o.k = 10
  · rw [if_pos k10]; simp only []; omega
  rw [if_neg k10]
  by_cases k11 : o.k = 11
  · rw [if_pos k11]; simp only []; split <;> simp only [] <;> omega
  rw [if_neg k11]
  by_cases k12 : o.k = 12
  · rw [if_pos k12]
    unfold forkV
    simp only []
    split
    · unfold endV; simp only []; omega
    · split
      · unfold endV; simp only []; omega
      · simp only []; omega
  rw [if_neg k12]
  by_cases k13 : o.k = 13 ∨ o.k = 14
  · rw [if_pos k13, joinV_left]; simp only []; omega
  rw [if_neg k13]
  cases calcP o.k (rg s.regs o.a) (rg s.regs o.b) with
  | none => unfold endV; simp only []; omega
  | some v => simp only []; omega
theorem stepsV_left {p : List Fnc} {t : Tk} (hp : WfP p) (ht : TkOk p t) : ∀ (n : Nat) (s : Vs), InvV p t s → AtV p t s → Runs s → (stepsV p t n s).2.left ≤ s.left
  | 0, s, _, _, _ => Int.le_refl _
  | n + 1, s, hi, ha, hr => by
    have h1 := stepV_inv hp ht hi hr (ha.runs hr)
    have hg := stepV_goes (p := p) (t := t) hr
    have hl := stepV_left (p := p) (t := t) hi.l0
    unfold stepsV
    generalize stepV p t s = z at *
    obtain ⟨z1, z2⟩ := z
    cases z1 with
    | some x => exact hl
    | none => exact Int.le_trans (stepsV_left hp ht n z2 h1.1 h1.2 (hg.2 rfl).1) hl
theorem runV_left {p : List Fnc} {t : Tk} {s : Vs} (hp : WfP p) (ht : TkOk p t) (n : Nat) (hi : InvV p t s) (ha : AtV p t s) : (runV p t n s).2.left ≤ s.left := by
  unfold runV
  cases hr : s.result with
  | some r => exact Int.le_refl _
  | none =>
    cases hw : s.waits with
    | none => exact stepsV_left hp ht n s hi ha ⟨hw, hr⟩
    | some o =>
      have h1 := joinV_at hi ha hw hr
      have hg := joinV_goes (s := s) (o := o)
      have hl := joinV_left (s := s) (o := o)
      simp only []
      generalize joinV s o = z at *
      obtain ⟨z1, z2⟩ := z
      cases z1 with
      | some x => exact Int.le_of_eq hl
      | none => exact Int.le_trans (stepsV_left hp ht n z2 h1.1 h1.2 (hg rfl hr).1) (Int.le_of_eq hl)

/-- Two frames side by side. -/
structure TwF (B1 x1 r1 : Nat) (kv1 : Value) (B2 x2 r2 : Nat) (kv2 : Value) (p : List Fnc) (t : Tk) (s1 s2 : Vs) (w0 w : World) : Prop where
  f : Frm B1 x1 r1 kv1 p t s1 w
  g : Frm B2 x2 r2 kv2 p t s2 w
  ap : Apart kv1 kv2
  lt : x1 < B2 ∧ r1 < B2
  low : Below w0.heap.size w0 w
  le : w0.heap.size ≤ B1 ∧ w0.heap.size ≤ B2
section
variable {B1 x1 r1 B2 x2 r2 : Nat} {kv1 kv2 kv' : Value} {p : List Fnc} {t : Tk} {s1 s2 s' : Vs} {w0 w w' : World}
theorem TwF.below (h : TwF B1 x1 r1 kv1 B2 x2 r2 kv2 p t s1 s2 w0 w) (hB : Below w.heap.size w w') : TwF B1 x1 r1 kv1 B2 x2 r2 kv2 p t s1 s2 w0 w' := ⟨h.f.below hB, h.g.below hB, h.ap, h.lt, gthen h.low hB, h.le⟩
theorem TwF.runf (h : TwF B1 x1 r1 kv1 B2 x2 r2 kv2 p t s1 s2 w0 w) (hf : Frm B1 x1 r1 kv' p t s' w') (hl : VmL x1 r1 kv1 w kv' w') : TwF B1 x1 r1 kv' B2 x2 r2 kv2 p t s' s2 w0 w' := by
  have hg := h.g.lt
  have hlt := h.lt
  refine ⟨hf, h.g.far h.f hl.fr (by omega) (by omega) (by omega) h.ap.symm, fun b hb hu => ?_, h.lt, h.low.trans (hl.fr.below (fun i hi => Nat.le_trans h.le.1 (h.f.low i hi)) h.low.size), h.le⟩
  rcases hl.own with e | e
  · exact h.ap b (by rw [← e]; exact hb) hu
  · have h1 := e b hb
    have h2 := hg.2.2.2.2 b hu
    omega
theorem TwF.rung (h : TwF B1 x1 r1 kv1 B2 x2 r2 kv2 p t s1 s2 w0 w) (hf : Frm B2 x2 r2 kv' p t s' w') (hl : VmL x2 r2 kv2 w kv' w') : TwF B1 x1 r1 kv1 B2 x2 r2 kv' p t s1 s' w0 w' := by
  have hf1 := h.f.lt
  have hg := h.g.lt
  have hlt := h.lt
  refine ⟨h.f.far h.g hl.fr (by omega) (by omega) (by omega) h.ap, hf, fun b hb hu => ?_, h.lt, h.low.trans (hl.fr.below (fun i hi => Nat.le_trans h.le.2 (h.g.low i hi)) h.low.size), h.le⟩
  rcases hl.own with e | e
  · exact h.ap b hb (by rw [← e]; exact hu)
  · have h1 := e b hu
    have h2 := hf1.2.2.2.2 b hb
    omega
theorem TwF.boxf (h : TwF B1 x1 r1 kv1 B2 x2 r2 kv2 p t s1 s2 w0 w) (hl : VmL x1 r1 kv1 w kv' w') {b : Nat} {cur : Array Value} {E : TypeId} (hb : BoxAt w b cur E) (hE : E ∉ [FrameT, I64T, ChT]) : BoxAt w' b cur E := box_typed hb hl.fr h.f.typed hE
theorem TwF.boxg (h : TwF B1 x1 r1 kv1 B2 x2 r2 kv2 p t s1 s2 w0 w) (hl : VmL x2 r2 kv2 w kv' w') {b : Nat} {cur : Array Value} {E : TypeId} (hb : BoxAt w b cur E) (hE : E ∉ [FrameT, I64T, ChT]) : BoxAt w' b cur E := box_typed hb hl.fr h.g.typed hE
/-- Numbers that were told stay, while a frame older than they runs. -/
theorem Frm.nums {B x r : Nat} {kv : Value} {s : Vs} {n Z : Nat} {v : Value} {xs : List Value} (h : Frm B x r kv p t s w) (hl : VmL x r kv w kv' w') (ho : w.ownsRow Z I64T 1 v n xs) (hr : r < Z) : w'.ownsRow Z I64T 1 v n xs := by
  obtain ⟨pv, p', av, wv, rv, h1, _⟩ := h
  refine own_fr ho hl.fr (fun i hi hs => ?_)
  rcases hs with (e | e) | e
  · exact own_not_box ho h1.vm.box (by decide) (by rw [hi, e])
  · have := (ho.lt i hi).1; omega
  · exact own_not_own ho h1.vm.kids (by decide) hi e
/-- Something else is written: a box that holds none of a frame's. -/
theorem Frm.beside {B x r : Nat} {kv : Value} {s : Vs} {b : Nat} {cur : Array Value} {E : TypeId} (h : Frm B x r kv p t s w) (hb : BoxAt w b cur E) (hE : E ∉ [FrameT, I64T, ChT, OpT, ResT, FnT]) (hF : Fr (fun i => i = b) w w') : Frm B x r kv p t s w' := by
  have hT := typed_box hb
  simp only [List.mem_cons, List.not_mem_nil, or_false, not_or] at hE
  obtain ⟨e1, e2, e3, e4, e5, e6⟩ := hE
  have n : ∀ {T : TypeId}, E ≠ T → T ∉ [E] := fun h => by simpa using fun e => h e.symm
  obtain ⟨pv, p', av, wv, rv, h1, h2⟩ := h
  exact ⟨pv, p', av, wv, rv, ⟨h1.vm.far hF hT (n e4) (n e5) (box_ne h1.vm.box hb (Ne.symm e1)) (box_ne h1.vm.regs hb (Ne.symm e2)) (fun i hi e => own_not_box h1.vm.kids hb (Ne.symm e3) (by rw [hi, e])), h1.pr.typed hF hT (n e6) (n e4), h1.same, own_typed h1.args hF hT (n e2), h1.sep, h1.bx, h1.bk, h1.al⟩, h2⟩
theorem TwF.beside {b : Nat} {cur : Array Value} {E : TypeId} (h : TwF B1 x1 r1 kv1 B2 x2 r2 kv2 p t s1 s2 w0 w) (hb : BoxAt w b cur E) (hE : E ∉ [FrameT, I64T, ChT, OpT, ResT, FnT]) (hF : Fr (fun i => i = b) w w') (hl : w0.heap.size ≤ b) : TwF B1 x1 r1 kv1 B2 x2 r2 kv2 p t s1 s2 w0 w' :=
  ⟨h.f.beside hb hE hF, h.g.beside hb hE hF, h.ap, h.lt, h.low.trans (hF.below (fun i hi => by omega) h.low.size), h.le⟩
end
/-- A box of a result is written, while neither is over. -/
theorem Frm.besideR {B x r : Nat} {kv : Value} {p : List Fnc} {t : Tk} {s : Vs} {w w' : World} {b : Nat} {cur : Array Value} (h : Frm B x r kv p t s w) (hs : s.result = none) (hb : BoxAt w b cur ResT) (hF : Fr (fun i => i = b) w w') : Frm B x r kv p t s w' := by
  have hT := typed_box hb
  obtain ⟨pv, p', av, wv, rv, h1, h2⟩ := h
  have hv := h1.vm
  have hr := hv.rs
  rw [hs] at hr
  refine ⟨pv, p', av, wv, rv, ⟨⟨hv.box.fr hF (box_ne hv.box hb (by decide)), hv.regs.fr hF (box_ne hv.regs hb (by decide)), own_typed hv.kids hF hT (by decide), hv.wt.typed hF hT (by decide), by rw [hs]; exact hr⟩, h1.pr.typed hF hT (by decide) (by decide), h1.same, own_typed h1.args hF hT (by decide), h1.sep, h1.bx, h1.bk, h1.al⟩, h2⟩
theorem TwF.besideR {B1 x1 r1 B2 x2 r2 : Nat} {kv1 kv2 : Value} {p : List Fnc} {t : Tk} {s1 s2 : Vs} {w0 w w' : World} {b : Nat} {cur : Array Value} (h : TwF B1 x1 r1 kv1 B2 x2 r2 kv2 p t s1 s2 w0 w) (h1 : s1.result = none) (h2 : s2.result = none) (hb : BoxAt w b cur ResT) (hF : Fr (fun i => i = b) w w') (hl : w0.heap.size ≤ b) : TwF B1 x1 r1 kv1 B2 x2 r2 kv2 p t s1 s2 w0 w' :=
  ⟨h.f.besideR h1 hb hF, h.g.besideR h2 hb hF, h.ap, h.lt, h.low.trans (hF.below (fun i hi => by omega) h.low.size), h.le⟩
/-- A child's arguments are few. -/
theorem opV2_args {p : List Fnc} {t : Tk} {s : Vs} {o : Opr} : ∀ x, (opV2 p t s o).1 = some x → x.kid.args.length ≤ s.regs.length := by
  intro x h
  have hj : ∀ y, (joinV s o).1 = some y → y.kid.args.length = 0 := by
    intro y h
    unfold joinV at h
    by_cases h1 : (openV s).any (fun c => !c.given) = true
    · rw [if_pos h1] at h; cases h; rfl
    rw [if_neg h1] at h
    simp only [] at h
    by_cases h2 : firstE ((openV s).map (·.r.e)) ≠ 0
    · rw [if_pos h2] at h; cases h; rfl
    rw [if_neg h2] at h
    by_cases h3 : o.k = 14
    · rw [if_pos h3] at h; cases h; rfl
    · rw [if_neg h3] at h; cases h
  unfold opV2 at h
  by_cases k1 : o.k = 1
  · rw [if_pos k1] at h; cases h
  rw [if_neg k1] at h
  by_cases k10 : o.k = 10
  · rw [if_pos k10] at h; cases h
  rw [if_neg k10] at h
  by_cases k11 : o.k = 11
  · rw [if_pos k11] at h; cases h
  rw [if_neg k11] at h
  by_cases k12 : o.k = 12
  · rw [if_pos k12] at h
    unfold forkV at h
    by_cases h1 : 16 ≤ s.kids.length
    · rw [if_pos h1] at h; cases h; exact Nat.zero_le _
    rw [if_neg h1] at h
    by_cases h2 : kidB t.p ((s.kids.length : Int) + 1) = false
    · rw [if_pos h2] at h; cases h; exact Nat.zero_le _
    rw [if_neg h2] at h
    cases h
    simp only [kidV, List.length_take, List.length_drop]
    omega
  rw [if_neg k12] at h
  by_cases k13 : o.k = 13 ∨ o.k = 14
  · rw [if_pos k13] at h
    rw [hj x h]; exact Nat.zero_le _
  rw [if_neg k13] at h
  generalize calcP _ _ _ = c at h
  cases c with
  | none => cases h; exact Nat.zero_le _
  | some v => cases h
theorem stepsV_args {p : List Fnc} {t : Tk} (hp : WfP p) (ht : TkOk p t) : ∀ (n : Nat) (s : Vs), InvV p t s → AtV p t s → Runs s → (stepsV p t n s).1.kid.args.length ≤ 16
  | 0, s, _, _, _ => Nat.zero_le _
  | n + 1, s, hi, ha, hr => by
    have h1 := stepV_inv hp ht hi hr (ha.runs hr)
    have hg := stepV_goes (p := p) (t := t) hr
    have hl : ∀ x, (stepV p t s).1 = some x → x.kid.args.length ≤ 16 := by
      intro x h
      have hrl := hi.rl
      have hr2 := (hp.fn ht.f0 ht.f1).r2
      unfold stepV at h
      by_cases hz : s.left = 0
      · rw [if_pos hz] at h; cases h; exact Nat.zero_le _
      rw [if_neg hz] at h
      have := opV2_args x h
      simp only [] at this
      omega
    unfold stepsV
    generalize stepV p t s = z at *
    obtain ⟨z1, z2⟩ := z
    cases z1 with
    | some x => exact hl x rfl
    | none => exact stepsV_args hp ht n z2 h1.1 h1.2 (hg.2 rfl).1
theorem runV_args {p : List Fnc} {t : Tk} {s : Vs} (hp : WfP p) (ht : TkOk p t) (n : Nat) (hi : InvV p t s) (ha : AtV p t s) : (runV p t n s).1.kid.args.length ≤ 16 := by
  unfold runV
  cases hr : s.result with
  | some r => exact Nat.zero_le _
  | none =>
    cases hw : s.waits with
    | none => exact stepsV_args hp ht n s hi ha ⟨hw, hr⟩
    | some o =>
      have h1 := joinV_at hi ha hw hr
      have hg := joinV_goes (s := s) (o := o)
      have hj : ∀ y, (joinV s o).1 = some y → y.kid.args.length ≤ 16 := by
        intro y h
        unfold joinV at h
        by_cases h1 : (openV s).any (fun c => !c.given) = true
        · rw [if_pos h1] at h; cases h; exact Nat.zero_le _
        rw [if_neg h1] at h
        simp only [] at h
        by_cases h2 : firstE ((openV s).map (·.r.e)) ≠ 0
        · rw [if_pos h2] at h; cases h; exact Nat.zero_le _
        rw [if_neg h2] at h
        by_cases h3 : o.k = 14
        · rw [if_pos h3] at h; cases h; exact Nat.zero_le _
        · rw [if_neg h3] at h; cases h
      simp only []
      generalize joinV s o = z at *
      obtain ⟨z1, z2⟩ := z
      cases z1 with
      | some x => exact hj x rfl
      | none => exact stepsV_args hp ht n z2 h1.1 h1.2 (hg rfl hr).1
end Go.Proofs.YtdhbjejejeljoaaGreat
