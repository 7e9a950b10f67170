/- Contract: thresherlaw13.begun. -/
import Derived.Test.YtihadknnmkblcaaEvC1
namespace Go.Proofs.Ytihadknnmkblcaa
open Go.RowKit Go.Sort Go.Lib

/-- The functions of the program that begins with another one. -/
def srcL (p : List Fnc) (fn : Int) : List Fnc := fnAt p fn :: p
/-- Up to i they are turned, the others as they were. -/
def HalfB (S L : List Fnc) (i : Nat) : Prop := L.length = S.length ∧ ∀ (j : Nat) (h : j < S.length) (h' : j < L.length), (j < i → SimF S[j] L[j]) ∧ (i ≤ j → FnEq S[j] L[j])
theorem HalfB.start {S L : List Fnc} (h : All2 FnEq S L) : HalfB S L 0 := ⟨h.length.symm, fun j hj hj' => ⟨fun h => absurd h (by omega), fun _ => h.get j hj hj'⟩⟩
theorem HalfB.step {S L : List Fnc} {i : Nat} (h : HalfB S L i) (hi : i < S.length) {f : Fnc} (hf : SimF S[i] f) : HalfB S (L.set i f) (i + 1) := by
  refine ⟨by rw [List.length_set]; exact h.1, fun j hj hj' => ⟨fun hji => ?_, fun hji => ?_⟩⟩
  · by_cases e : j = i
    · subst e; rw [List.getElem_set_self]; exact hf
    · rw [List.getElem_set_ne (by omega)]
      exact (h.2 j hj (by rw [List.length_set] at hj'; exact hj')).1 (by omega)
  · rw [List.getElem_set_ne (by omega)]
    exact (h.2 j hj (by rw [List.length_set] at hj'; exact hj')).2 (by omega)
theorem HalfB.done {p L : List Fnc} {fn : Int} (h : HalfB (srcL p fn) L (p.length + 1)) (h0 : 0 ≤ fn) (h1 : fn < p.length) : Bg p L fn := by
  have hl : L.length = p.length + 1 := by rw [h.1]; rfl
  refine ⟨hl, h0, h1, ?_, fun i hi0 hi1 => ?_⟩
  · have h2 := (h.2 0 (by simp [srcL]) (by omega)).1 (by omega)
    have h3 : fnAt L 0 = L[0]'(by omega) := by
      unfold fnAt
      rw [List.getD_eq_getElem?_getD, show (0 : Int).toNat = 0 from rfl, List.getElem?_eq_getElem (by omega)]; rfl
    rw [h3]; exact h2
  · obtain ⟨j, rfl⟩ : ∃ j : Nat, i = j := ⟨i.toNat, by omega⟩
    have hj : j < p.length := by omega
    have h2 := (h.2 (j + 1) (by simp [srcL]; omega) (by omega)).1 (by omega)
    have h3 : fnAt L ((j : Int) + 1) = L[j + 1]'(by omega) := by
      unfold fnAt
      rw [List.getD_eq_getElem?_getD, show ((j : Int) + 1).toNat = j + 1 by omega, List.getElem?_eq_getElem (by omega)]; rfl
    have h4 : fnAt p (j : Int) = p[j] := by
      unfold fnAt
      rw [List.getD_eq_getElem?_getD, Int.toNat_natCast, List.getElem?_eq_getElem hj]; rfl
    rw [h3, h4]; exact h2
theorem flat_setF (L : List Fnc) (i : Nat) (h : i < L.length) (f : Fnc) (ha : f.args = L[i].args) (hr : f.regs = L[i].regs) : (L.flatMap encF).set (i * 3 + 2) (.slice f.oa f.ops.length f.oc) = (L.set i f).flatMap encF := by
  induction L generalizing i with
  | nil => simp at h
  | cons g L ih =>
    cases i with
    | zero =>
      simp only [List.getElem_cons_zero] at ha hr
      simp [encF, ha, hr]
    | succ i =>
      rw [List.flatMap_cons, List.set_cons_succ, List.flatMap_cons, List.set_append_right _ _ (by simp [encF]; omega)]
      rw [show (i + 1) * 3 + 2 - (encF g).length = i * 3 + 2 by simp [encF]; omega, ih i (by simpa using h) (by simpa using ha) (by simpa using hr)]
theorem flat_setO (L : List Opr) (i : Nat) (h : i < L.length) (x : Int) : (L.flatMap encO).set (i * 5 + 4) (.int .i64 x) = (L.set i { L[i] with n := x }).flatMap encO := by
  induction L generalizing i with
  | nil => simp at h
  | cons g L ih =>
    cases i with
    | zero => simp [encO]
    | succ i =>
      rw [List.flatMap_cons, List.set_cons_succ, List.flatMap_cons, List.set_append_right _ _ (by simp [encO]; omega)]
      rw [show (i + 1) * 5 + 4 - (encO g).length = i * 5 + 4 by simp [encO]; omega, ih i (by simpa using h)]
      simp
theorem cell_ofC {w w' : World} {a : Addr} {v : Value} (hB : Below w.heap.size w w') (h : w.cell? a = some v) : w'.cell? a = some v := (hB.cell (World.block_lt_of_cell? _ _ h)).trans h
theorem own0 {B : Nat} {w : World} {f : Fnc} (h : OpsOwn B w f) : OpsOwn 0 w f := owns_base h (Nat.zero_le _)
theorem own_at0 {w : World} {B k n : Nat} {E : TypeId} {v : Value} {xs : List Value} (h : w.ownsRow B E k v n xs) (hn : 0 < n) : ∃ g c, v = .slice (some ⟨g, 0, none⟩) n c ∧ B ≤ g := by
  obtain ⟨_, ⟨_, h0⟩ | ⟨g, cap, cur, hv, hb, _⟩⟩ := h
  · omega
  · exact ⟨g, cap, hv, hb⟩
theorem sh_step {l : List Opr} {m : Nat} (h : m < l.length) : ((l.take m).map shO ++ l.drop m).set m (shO l[m]) = (l.take (m + 1)).map shO ++ l.drop (m + 1) := by
  rw [List.set_append_right _ _ (by simp; omega)]
  have e1 : m - ((l.take m).map shO).length = 0 := by simp; omega
  rw [e1, List.drop_eq_getElem_cons h, List.set_cons_zero, List.take_succ_eq_append_getElem h, List.map_append, List.append_assoc]
  rfl
theorem sh_at {l : List Opr} {m : Nat} (h : m < l.length) (h' : m < ((l.take m).map shO ++ l.drop m).length) : ((l.take m).map shO ++ l.drop m)[m] = l[m] := by
  rw [List.getElem_append_right (by simp; omega)]
  simp only [List.getElem_drop]
  congr 1
  simp; omega
theorem sh_same {l : List Opr} {m : Nat} (h : m < l.length) (hk : l[m].k ≠ 12) : (l.take (m + 1)).map shO ++ l.drop (m + 1) = (l.take m).map shO ++ l.drop m := by
  rw [List.take_succ_eq_append_getElem h, List.map_append, List.drop_eq_getElem_cons h (i := m), List.append_assoc]
  simp [shO_id hk]
def BegunP (p : List Fnc) (fn : Int) (w : World) (e : Ending) (w' : World) : Prop := ∃ (v : Value) (q : List Fnc), e = .returned (.agg #[v]) ∧ Below w.heap.size w w' ∧ ProgAt w' v q ∧ Bg p q fn
theorem begun_end {wz : World} {tmps : Array Value} {b : Nat} {v : Value} {R : Ending → World → Prop}
    (hb : BoxAt wz b #[v] 24) (h2 : tmps.getD 4 undef = .pointer (some ⟨b, 0, none⟩)) (hR : R (.returned (.agg #[v])) wz) :
    bodyPost Try.prog Try.f18 R Exit.ret { tmps := tmps, defers := [] } wz := by
  have c0 := hb.cell 0
  simp only [List.getElem?_toArray, List.getElem?_cons_zero] at c0
  refine bodyPost_ret (v := .agg #[v]) ?_ rfl hR
  have h2' : tmps[4]?.getD undef = .pointer (some ⟨b, 0, none⟩) := by simpa using h2
  simp [results, Try.results18, go_sem, h2', c0]
/-- What grows out of the copy: the struct in the block that comes first behind w0. -/
structure BeW (w0 : World) (v : Value) (L : List Fnc) (w : World) : Prop where
  low : Below w0.heap.size w0 w
  box : BoxAt w w0.heap.size #[v] PrgT
  fns : w.ownsRow w0.heap.size FnT 3 v L.length (L.flatMap encF)
  ops : ∀ f ∈ L, OpsOwn 0 w f
section
variable {w0 : World} {v : Value} {L : List Fnc} {w w1 w2 : World}
theorem Below.loN {w0 w : World} (h : Below w0.heap.size w0 w) : Below w0.heap.size w0 w := h
theorem BeW.below (h : BeW w0 v L w) (hB : Below w.heap.size w w1) : BeW w0 v L w1 := ⟨h.low.trans (hB.mono h.low.size), h.box.below hB, own_below h.fns hB, fun f hf => own_below (h.ops f hf) hB⟩
/-- A function more. -/
theorem BeW.push {f : Fnc} {a' : Option Addr} {n' c' : Nat} (h : BeW w0 v L w) (hA : Below w.heap.size w w1) (hF : Fr (fun i => v.ownBlock = some i) w1 w2) (ho : w2.ownsRow w0.heap.size FnT 3 (.slice a' n' c') (L ++ [f]).length ((L ++ [f]).flatMap encF)) (hf : OpsOwn 0 w f) :
    BeW w0 (.slice a' n' c') (L ++ [f]) (w2.setCell ⟨w0.heap.size, 0, none⟩ (.slice a' n' c')) := by
  have h1 := h.below hA
  have hT := typed_own h1.fns
  have hb2 := box_typed h1.box hF hT (by decide)
  have hF2 : Fr (fun i => i = w0.heap.size) w2 (w2.setCell ⟨w0.heap.size, 0, none⟩ (.slice a' n' c')) := (Fr.refl (fun i => i = w0.heap.size) w2).setCell (p := ⟨w0.heap.size, 0, none⟩) rfl _
  have hT2 := typed_box hb2
  refine ⟨(h1.low.trans (hF.below (fun i hi => (h1.fns.lt i hi).1) h1.low.size)).trans (hF2.below (fun i hi => by omega) (Nat.le_trans h1.low.size hF.size)), Go.heap_setCell_same w2 _ 0 _ _ _ hb2, own_typed ho hF2 hT2 (by decide), fun g hg => ?_⟩
  rcases List.mem_append.1 hg with hg | hg
  · exact own_typed (own_typed (h1.ops g hg) hF hT (by decide)) hF2 hT2 (by decide)
  · rw [List.mem_singleton] at hg; subst hg
    exact own_typed (own_typed (own_below hf hA) hF hT (by decide)) hF2 hT2 (by decide)
end
set_option maxHeartbeats 6400000 in
set_option maxRecDepth 100000 in
theorem begun_any (pv : Value) (p : List Fnc) (fn : Int) (w : World) (hp : ProgAt w pv p) (hwf : WfP p) (h0 : 0 ≤ fn) (h1 : fn < p.length) :
    Calls Try.prog 18 #[.agg #[pv], .int .i64 fn] w (BegunP p fn w) := by
  obtain ⟨pa, pc, rfl⟩ := hp.fns.slice
  have hA1 : Below w.heap.size w (w.alloc (.cells #[.slice pa p.length pc] PrgT)) := alC _ _
  have hA2 : Below (w.alloc (.cells #[.slice pa p.length pc] PrgT)).heap.size _ ((w.alloc (.cells #[.slice pa p.length pc] PrgT)).alloc (.cells #[.slice none 0 0] PrgT)) := alC _ _
  have b1 : BoxAt (w.alloc (.cells #[.slice pa p.length pc] PrgT)) w.heap.size #[.slice pa p.length pc] PrgT := heap_alloc_new _ _
  have b2 : BoxAt ((w.alloc (.cells #[.slice pa p.length pc] PrgT)).alloc (.cells #[.slice none 0 0] PrgT)) (w.heap.size + 1) #[.slice none 0 0] PrgT := by
    have h1 := heap_alloc_new (w.alloc (.cells #[.slice pa p.length pc] PrgT)) (.cells #[.slice none 0 0] PrgT)
    rwa [World.size_alloc] at h1
  have hlow := gthen hA1 hA2
  have H1 := Lib.hid (And.intro (BoxAt.below b1 hA2) (And.intro b2 (And.intro hlow (hp.below hlow))))
  have hlen : p.length ≤ 16 := hwf.1
  have HWF := Lib.hid hwf
  clear hp hA1 hA2 b1 b2 hlow hwf
  go_enter Try.func18, Try.ntmps18
  go_upto_region 1 with fail
  generalize (w.alloc (.cells #[.slice pa p.length pc] PrgT)).alloc (.cells #[.slice none 0 0] PrgT) = w1 at *
  have c0 := H1.out.1.cell 0
  simp only [List.getElem?_toArray, List.getElem?_cons_zero] at c0
  go_wp2_with fail
  refine (copy_any _ p _ H1.out.2.2.2).mono ?_
  rintro e w2 ⟨qv, p', rfl, hB2, hown, heq⟩
  have hpl : p'.length = p.length := heq.length.symm
  obtain ⟨j, rfl⟩ : ∃ j : Nat, fn = j := ⟨fn.toNat, by omega⟩
  have hj : j < p'.length := by omega
  obtain ⟨qb, qoff, qc, rfl, hqb, hqc⟩ := (own_readsK (enc := encF) (k := 3) (fun _ => rfl) (by decide) hown.fns).at (by omega)
  have HPL := Lib.hid hpl
  have hp16 : p'.length ≤ 16 := by omega
  clear hpl
  have hA3 := alC w2 (.cells #[.slice (some ⟨qb, qoff, none⟩) p'.length qc] PrgT)
  have H3 := Lib.hid (show (BoxAt (w2.alloc (.cells #[.slice (some ⟨qb, qoff, none⟩) p'.length qc] PrgT)) (w.heap.size + 1) #[.slice none 0 0] PrgT ∧ Below w.heap.size w (w2.alloc (.cells #[.slice (some ⟨qb, qoff, none⟩) p'.length qc] PrgT)) ∧ w.heap.size + 1 < w2.heap.size) ∧ BoxAt (w2.alloc (.cells #[.slice (some ⟨qb, qoff, none⟩) p'.length qc] PrgT)) w2.heap.size #[.slice (some ⟨qb, qoff, none⟩) p'.length qc] PrgT ∧ ProgOwn w1.heap.size (w2.alloc (.cells #[.slice (some ⟨qb, qoff, none⟩) p'.length qc] PrgT)) (.slice (some ⟨qb, qoff, none⟩) p'.length qc) p' ∧ (w2.alloc (.cells #[.slice (some ⟨qb, qoff, none⟩) p'.length qc] PrgT)).heap.size = w2.heap.size + 1 from
    ⟨⟨(BoxAt.below H1.out.2.1 hB2).below hA3, gthen (gthen H1.out.2.2.1 hB2) hA3, Nat.lt_of_lt_of_le (Array.getElem?_eq_some_iff.1 H1.out.2.1).1 hB2.size⟩, heap_alloc_new _ _, hown.below hA3, World.size_alloc _ _⟩)
  have HQC := Lib.hid (show ∀ y, Below w2.heap.size w2 y → ∀ i (h : i < p'.length), y.cell? ⟨qb, qoff + i * 3, none⟩ = some (.int .i64 p'[i].args) ∧ y.cell? ⟨qb, qoff + i * 3 + 1, none⟩ = some (.int .i64 p'[i].regs) ∧ y.cell? ⟨qb, qoff + i * 3 + 2, none⟩ = some (.slice p'[i].oa p'[i].ops.length p'[i].oc) from fun y hy i h => by
    obtain ⟨f0, f1, f2⟩ := fn_at hqc h
    exact ⟨cell_ofC hy f0, cell_ofC hy f1, cell_ofC hy f2⟩)
  have HEQ := Lib.hid heq
  clear hB2 hA3 hown hqc H1 c0 heq
  go_upto_region 2 with fail
  obtain ⟨w3, hw3⟩ : ∃ w3, w2.alloc (.cells #[.slice (some ⟨qb, qoff, none⟩) p'.length qc] PrgT) = w3 := ⟨_, rfl⟩
  have HB3 := Lib.hid (show Below w2.heap.size w2 w3 from hw3 ▸ alC _ _)
  rw [hw3] at H3 ⊢
  clear hw3
  have HW4 := Lib.hid (show BeW w3 (.slice none 0 0) [] (w3.alloc (.cells #[.slice none 0 0] PrgT)) from ⟨alC _ _, heap_alloc_new _ _, World.ownsRow_nil _ _ _ _, fun f hf => by cases hf⟩)
  go_upto_region 3 with fail
  obtain ⟨N, hN⟩ : ∃ N, w3.heap.size = N := ⟨_, rfl⟩
  have HN := Lib.hid hN
  obtain ⟨cb, hcb⟩ : ∃ cb, w2.heap.size = cb := ⟨_, rfl⟩
  have HCB := Lib.hid hcb
  rw [hcb] at H3 ⊢
  rw [hN] at H3 ⊢
  clear hcb hN
  have HCN := Lib.hid (show cb < N ∧ qb < N from by have h1 := H3.out.2.2.2; have h2 := HCB.out; omega)
  obtain ⟨w4, hw4⟩ : ∃ w4, w3.alloc (.cells #[.slice none 0 0] PrgT) = w4 := ⟨_, rfl⟩
  rw [hw4] at HW4 ⊢
  clear hw4
  go_cut [] (fun wc => ∃ v, Hid (BeW w3 v [p'[j]] wc))
  case first =>
    have hg0 := HQC.out _ (gthen HB3.out HW4.out.low) j (by omega)
    have hgo := own0 (H3.out.2.2.1.ops _ (List.getElem_mem (show j < p'.length by omega)))
    obtain ⟨gx, hgx⟩ : ∃ g, p'[j] = g := ⟨_, rfl⟩
    rw [hgx] at hg0 hgo
    have HGX := Lib.hid hgx
    clear hgx
    have hvlt : ∀ i, ((.slice none 0 0) : Value).ownBlock = some i → N ≤ i := fun i hi => by have h1 := (HW4.out.fns.lt i hi).1; have h2 := HN.out; omega
    have hsW : N ≤ (w4).heap.size := by have h1 := HW4.out.low.size; have h2 := HN.out; omega
    have x0 : (w4).cell? ⟨cb, 0, none⟩ = some (.slice (some ⟨qb, qoff, none⟩) p'.length qc) := cell_ofC (by have h1 := HW4.out.low; rw [HN.out] at h1; rw [HN.out]; exact h1) (by have h1 := H3.out.2.1.cell 0; simpa using h1)
    have HS := Lib.hid (show ∀ y, Fr (fun i => i = N ∨ ((.slice none 0 0) : Value).ownBlock = some i) (w4) y → y.cell? ⟨cb, 0, none⟩ = some (.slice (some ⟨qb, qoff, none⟩) p'.length qc) ∧ y.cell? ⟨qb, qoff + j * 3, none⟩ = some (.int .i64 gx.args) ∧ y.cell? ⟨qb, qoff + j * 3 + 1, none⟩ = some (.int .i64 gx.regs) ∧ y.cell? ⟨qb, qoff + j * 3 + 2, none⟩ = some (.slice gx.oa gx.ops.length gx.oc) from fun y hy => by
      have hc1 : ¬ (cb = N ∨ ((.slice none 0 0) : Value).ownBlock = some cb) := fun h => h.elim (fun h => by have := HCN.out; omega) (fun h => by have h1 := hvlt _ h; have := HCN.out; omega)
      have hc2 : ¬ (qb = N ∨ ((.slice none 0 0) : Value).ownBlock = some qb) := fun h => h.elim (fun h => by have := HCN.out; omega) (fun h => by have h1 := hvlt _ h; have := HCN.out; omega)
      exact ⟨(hy.cell (p := ⟨cb, 0, none⟩) (World.block_lt_of_cell? _ _ x0) hc1).trans x0, (hy.cell (p := ⟨qb, qoff + j * 3, none⟩) (World.block_lt_of_cell? _ _ hg0.1) hc2).trans hg0.1, (hy.cell (p := ⟨qb, qoff + j * 3 + 1, none⟩) (World.block_lt_of_cell? _ _ hg0.2.1) hc2).trans hg0.2.1, (hy.cell (p := ⟨qb, qoff + j * 3 + 2, none⟩) (World.block_lt_of_cell? _ _ hg0.2.2) hc2).trans hg0.2.2⟩)
    have c0 : (w4).cell? ⟨N, 0, none⟩ = some (.slice none 0 0) := by have h1 := HW4.out.box.cell 0; rw [HN.out] at h1; simpa using h1
    have y0 := fun o => cell_ofC (alC (w4) o) c0
    have hAL : Below (w4).heap.size (w4) ((w4).drew.alloc (.cells #[.int .i64 gx.args, .int .i64 gx.regs, .slice gx.oa gx.ops.length gx.oc] FnT)) := (Below.refl _ _).drew.alloc (Nat.le_refl _) _
    obtain ⟨v9, w9, hap, hown9, hg9⟩ := run_appK (enc := encF) (k := 3) (bytes := 40) (B := N) (w := (w4).drew.alloc (.cells #[.int .i64 gx.args, .int .i64 gx.regs, .slice gx.oa gx.ops.length gx.oc] FnT)) (v := .slice none 0 0) (xs := ([] : List Fnc)) (ys := [gx]) Try.underlying22 info_fn rfl (by decide) (fun _ => rfl) encF_one 22 (HN.out ▸ own_below HW4.out.fns hAL) (box_readsC (enc := encF) (k := 3) (l := [gx]) (fun _ => rfl) (by decide) (heap_alloc_new (w4).drew _) 1) (by first | (simp; omega) | simp) (by decide) (by have := hAL.size; omega)
    have hF9 := grow_fr' (Below.refl _ _) hg9
    obtain ⟨a9, c9, hv9⟩ := own_slice hown9
    obtain ⟨n9, hn9⟩ : ∃ n, ((([] : List Fnc)) ++ [gx]).length = n := ⟨_, rfl⟩
    rw [hn9] at hv9
    subst hv9
    have HF9 := Lib.hid (show Fr (fun i => i = N ∨ ((.slice none 0 0) : Value).ownBlock = some i) (w4) w9 from (Fr.of_below hAL).trans (hF9.mono fun i hi => .inr hi))
    have HNX := Lib.hid (show BeW w3 (.slice a9 n9 c9) ((([] : List Fnc)) ++ [gx]) (w9.setCell ⟨N, 0, none⟩ (.slice a9 n9 c9)) from by
      have h1 := HW4.out.push hAL hF9 (by rw [HN.out]; exact hown9) (own_below hgo HW4.out.low)
      rw [HN.out] at h1
      exact h1)
    have hb9 : BoxAt w9 N #[.slice none 0 0] PrgT := by have h1 := box_typed (HW4.out.box.below hAL) hF9 (typed_own (own_below HW4.out.fns hAL)) (by decide); rw [HN.out] at h1; exact h1
    have e0 := hb9.cell 0
    have fe0 := hb9.frozen 0
    simp only [List.getElem?_toArray, List.getElem?_cons_zero] at e0
    have q1 : ((j : Nat) : Int) < p'.length := by omega
    have q0 : (0 : Int) ≤ (j : Nat) := by omega
    clear hAL hown9 hg9 hF9 hb9 hgo hg0
    refine wp_region_held_drew (S := fun y => Fr (fun i => i = N ∨ ((.slice none 0 0) : Value).ownBlock = some i) (w4) y) (by kernel_rfl) ((Fr.refl _ _).drew) (fun hHeld => ?_)
    refine wpAnyH_take (i := 0) (oi := _) (v := ?_) (by rw [List.getElem?_toArray]; exact rfl) (by kernel_rfl) (by kernel_rfl) (by kernel_rfl) (by exact fun _ _ _ h => h) (Or.inl ⟨by rfl, ?_⟩) hHeld ?_
    rotate_left
    · (intro wX hSw; clear hSw; go_simp; try with_reducible rfl)
    try simp only [Act.put, List.setIfInBounds_toArray, List.set_cons_zero, List.set_cons_succ]
    refine wpAnyH_take (i := 2) (oi := _) (v := ?_) (by rw [List.getElem?_toArray]; exact rfl) (by kernel_rfl) (by kernel_rfl) (by kernel_rfl) (by exact fun _ _ _ h => h) (Or.inl ⟨by rfl, ?_⟩) hHeld ?_
    rotate_left
    · (intro wX hSw; clear hSw; go_simp; try with_reducible rfl)
    try simp only [Act.put, List.setIfInBounds_toArray, List.set_cons_zero, List.set_cons_succ]
    refine wpAnyH_take (i := 3) (oi := _) (v := ?_) (by rw [List.getElem?_toArray]; exact rfl) (by kernel_rfl) (by kernel_rfl) (by kernel_rfl) (by exact fun _ _ _ h => h) (Or.inl ⟨by rfl, ?_⟩) hHeld ?_
    rotate_left
    · (intro wX hSw; obtain ⟨s0, s1, s2, s3⟩ := HS.out _ hSw; clear s1 s2 s3 hSw; go_simp; try with_reducible rfl)
    try simp only [Act.put, List.setIfInBounds_toArray, List.set_cons_zero, List.set_cons_succ]
    refine wpAnyH_take (i := 4) (oi := _) (v := ?_) (by rw [List.getElem?_toArray]; exact rfl) (by kernel_rfl) (by kernel_rfl) (by kernel_rfl) (by exact fun _ _ _ h => h) (Or.inl ⟨by rfl, ?_⟩) hHeld ?_
    rotate_left
    · (intro wX hSw; clear hSw; go_simp; try with_reducible rfl)
    try simp only [Act.put, List.setIfInBounds_toArray, List.set_cons_zero, List.set_cons_succ]
    refine wpAnyH_take (i := 5) (oi := _) (v := ?_) (by rw [List.getElem?_toArray]; exact rfl) (by kernel_rfl) (by kernel_rfl) (by kernel_rfl) (by exact fun _ _ _ h => h) (Or.inl ⟨by rfl, ?_⟩) hHeld ?_
    rotate_left
    · (intro wX hSw; clear hSw; go_simp; try with_reducible rfl)
    try simp only [Act.put, List.setIfInBounds_toArray, List.set_cons_zero, List.set_cons_succ]
    refine wpAnyH_take (i := 6) (oi := _) (v := ?_) (by rw [List.getElem?_toArray]; exact rfl) (by kernel_rfl) (by kernel_rfl) (by kernel_rfl) (by exact fun _ _ _ h => h) (Or.inl ⟨by rfl, ?_⟩) hHeld ?_
    rotate_left
    · (intro wX hSw; obtain ⟨s0, s1, s2, s3⟩ := HS.out _ hSw; clear s0 hSw; go_simp; try with_reducible rfl)
    try simp only [Act.put, List.setIfInBounds_toArray, List.set_cons_zero, List.set_cons_succ]
    refine wpAnyH_ready (rs := [1, 7]) (by kernel_rfl) (by simp) ?_
    refine AllReadyH.cons (o := _) (by rw [List.getElem?_toArray]; exact rfl) (fun K hK => ?_) ?_
    · go_simp
      refine hK.out _ _ (hHeld) (fun hHeld => ?_)
      clear hK K
      try simp only [Act.put, List.setIfInBounds_toArray, List.set_cons_zero, List.set_cons_succ]
      refine wpAnyH_ready (rs := [7]) (by kernel_rfl) (by simp) ?_
      refine AllReadyH.cons (o := _) (by rw [List.getElem?_toArray]; exact rfl) (fun K hK => ?_) ?_
      · go_simp
        refine hK.out _ _ (hHeld.then (alC _ _)) (fun hHeld => ?_)
        clear hK K
        try simp only [Act.put, List.setIfInBounds_toArray, List.set_cons_zero, List.set_cons_succ]
        refine wpAnyH_ready (rs := [8]) (by kernel_rfl) (by simp) ?_
        refine AllReadyH.cons (o := _) (by rw [List.getElem?_toArray]; exact rfl) (fun K hK => ?_) ?_
        · refine step_append_run rfl _ _ _ _ rfl _ _ (by simp [Act.eval, Act.put]) (by simp [Act.eval, Act.put]) hap ?_
          refine hK.out _ _ (HF9.out) (fun hHeld => ?_)
          clear hK K
          try simp only [Act.put, List.setIfInBounds_toArray, List.set_cons_zero, List.set_cons_succ]
          refine wpAnyH_take (i := 9) (oi := _) (v := ?_) (by rw [List.getElem?_toArray]; exact rfl) (by kernel_rfl) (by kernel_rfl) (by kernel_rfl) (by exact fun _ _ _ h => h) (Or.inl ⟨by rfl, ?_⟩) hHeld ?_
          rotate_left
          · (intro wX hSw; clear hSw; go_simp; try with_reducible rfl)
          try simp only [Act.put, List.setIfInBounds_toArray, List.set_cons_zero, List.set_cons_succ]
          refine wpAnyH_ready (rs := [10]) (by kernel_rfl) (by simp) ?_
          refine AllReadyH.cons (o := _) (by rw [List.getElem?_toArray]; exact rfl) (fun K hK => ?_) ?_
          · go_simp
            refine hK.out _ _ (HF9.out.trans (((Fr.refl (fun i => i = N) w9).setCell (p := ⟨N, 0, none⟩) rfl _).mono fun i hi => .inl hi)) (fun hHeld => ?_)
            clear hK K
            try simp only [Act.put, List.setIfInBounds_toArray, List.set_cons_zero, List.set_cons_succ]
            refine wpAnyH_done (by kernel_rfl) ?_ _
            go_wp2_with fail
            go_meet
            exact ⟨_, by rw [HGX.out]; exact HNX⟩
          exact AllReadyH.nil
        exact AllReadyH.nil
      exact AllReadyH.nil
    refine AllReadyH.cons (o := _) (by rw [List.getElem?_toArray]; exact rfl) (fun K hK => ?_) ?_
    · go_simp
      refine hK.out _ _ (hHeld.then (alC _ _)) (fun hHeld => ?_)
      clear hK K
      try simp only [Act.put, List.setIfInBounds_toArray, List.set_cons_zero, List.set_cons_succ]
      refine wpAnyH_ready (rs := [1]) (by kernel_rfl) (by simp) ?_
      refine AllReadyH.cons (o := _) (by rw [List.getElem?_toArray]; exact rfl) (fun K hK => ?_) ?_
      · go_simp
        refine hK.out _ _ (hHeld) (fun hHeld => ?_)
        clear hK K
        try simp only [Act.put, List.setIfInBounds_toArray, List.set_cons_zero, List.set_cons_succ]
        refine wpAnyH_ready (rs := [8]) (by kernel_rfl) (by simp) ?_
        refine AllReadyH.cons (o := _) (by rw [List.getElem?_toArray]; exact rfl) (fun K hK => ?_) ?_
        · refine step_append_run rfl _ _ _ _ rfl _ _ (by simp [Act.eval, Act.put]) (by simp [Act.eval, Act.put]) hap ?_
          refine hK.out _ _ (HF9.out) (fun hHeld => ?_)
          clear hK K
          try simp only [Act.put, List.setIfInBounds_toArray, List.set_cons_zero, List.set_cons_succ]
          refine wpAnyH_take (i := 9) (oi := _) (v := ?_) (by rw [List.getElem?_toArray]; exact rfl) (by kernel_rfl) (by kernel_rfl) (by kernel_rfl) (by exact fun _ _ _ h => h) (Or.inl ⟨by rfl, ?_⟩) hHeld ?_
          rotate_left
          · (intro wX hSw; clear hSw; go_simp; try with_reducible rfl)
          try simp only [Act.put, List.setIfInBounds_toArray, List.set_cons_zero, List.set_cons_succ]
          refine wpAnyH_ready (rs := [10]) (by kernel_rfl) (by simp) ?_
          refine AllReadyH.cons (o := _) (by rw [List.getElem?_toArray]; exact rfl) (fun K hK => ?_) ?_
          · go_simp
            refine hK.out _ _ (HF9.out.trans (((Fr.refl (fun i => i = N) w9).setCell (p := ⟨N, 0, none⟩) rfl _).mono fun i hi => .inl hi)) (fun hHeld => ?_)
            clear hK K
            try simp only [Act.put, List.setIfInBounds_toArray, List.set_cons_zero, List.set_cons_succ]
            refine wpAnyH_done (by kernel_rfl) ?_ _
            go_wp2_with fail
            go_meet
            exact ⟨_, by rw [HGX.out]; exact HNX⟩
          exact AllReadyH.nil
        exact AllReadyH.nil
      exact AllReadyH.nil
    exact AllReadyH.nil
  case rest =>
  obtain ⟨v5, HW5⟩ := hcut
  clear HW4
  go_wp2_with fail
  go_loopg [7] p'.length (fun gk i wr => ∃ (k : Nat) (v : Value), gk + k = p'.length ∧ i = .int .i64 k ∧ Hid (BeW w3 v (p'[j] :: p'.take k) wr))
  case atStart => exact ⟨0, v5, by omega, rfl, by rw [List.take_zero]; exact HW5⟩
  case round =>
    clear HW5
    obtain ⟨k, v, hk, rfl, HR⟩ := hrel
    obtain ⟨va, vc, hva⟩ := own_slice HR.out.fns
    obtain ⟨vn, hvn⟩ : ∃ n, (p'[j] :: p'.take k).length = n := ⟨_, rfl⟩
    rw [hvn] at hva
    subst hva
    have hx : wr.cell? ⟨cb, 0, none⟩ = some (.slice (some ⟨qb, qoff, none⟩) p'.length qc) := cell_ofC (by have h1 := HR.out.low; rw [HN.out] at h1; rw [HN.out]; exact h1) (by have h1 := H3.out.2.1.cell 0; simpa using h1)
    by_cases hlt : k < p'.length
    · have hlt2 : (p'[j] :: p'.take k).length ≤ 1000 := by simp; omega
      have HTK := Lib.hid (show p'.take (k + 1) = p'.take k ++ [p'[k]] from List.take_succ_eq_append_getElem hlt)
      have q1 : (k : Int) < p'.length := by omega
      go_upto_region 7 with fail
      clear q1 hx
      have hg0 := HQC.out _ (gthen HB3.out HR.out.low) k (by omega)
      have hgo := own0 (H3.out.2.2.1.ops _ (List.getElem_mem (show k < p'.length by omega)))
      obtain ⟨gx, hgx⟩ : ∃ g, p'[k] = g := ⟨_, rfl⟩
      rw [hgx] at hg0 hgo
      have HGX := Lib.hid hgx
      clear hgx
      have hvlt : ∀ i, ((.slice va vn vc) : Value).ownBlock = some i → N ≤ i := fun i hi => by have h1 := (HR.out.fns.lt i hi).1; have h2 := HN.out; omega
      have hsW : N ≤ (wr).heap.size := by have h1 := HR.out.low.size; have h2 := HN.out; omega
      have x0 : (wr).cell? ⟨cb, 0, none⟩ = some (.slice (some ⟨qb, qoff, none⟩) p'.length qc) := cell_ofC (by have h1 := HR.out.low; rw [HN.out] at h1; rw [HN.out]; exact h1) (by have h1 := H3.out.2.1.cell 0; simpa using h1)
      have HS := Lib.hid (show ∀ y, Fr (fun i => i = N ∨ ((.slice va vn vc) : Value).ownBlock = some i) (wr) y → y.cell? ⟨cb, 0, none⟩ = some (.slice (some ⟨qb, qoff, none⟩) p'.length qc) ∧ y.cell? ⟨qb, qoff + k * 3, none⟩ = some (.int .i64 gx.args) ∧ y.cell? ⟨qb, qoff + k * 3 + 1, none⟩ = some (.int .i64 gx.regs) ∧ y.cell? ⟨qb, qoff + k * 3 + 2, none⟩ = some (.slice gx.oa gx.ops.length gx.oc) from fun y hy => by
        have hc1 : ¬ (cb = N ∨ ((.slice va vn vc) : Value).ownBlock = some cb) := fun h => h.elim (fun h => by have := HCN.out; omega) (fun h => by have h1 := hvlt _ h; have := HCN.out; omega)
        have hc2 : ¬ (qb = N ∨ ((.slice va vn vc) : Value).ownBlock = some qb) := fun h => h.elim (fun h => by have := HCN.out; omega) (fun h => by have h1 := hvlt _ h; have := HCN.out; omega)
        exact ⟨(hy.cell (p := ⟨cb, 0, none⟩) (World.block_lt_of_cell? _ _ x0) hc1).trans x0, (hy.cell (p := ⟨qb, qoff + k * 3, none⟩) (World.block_lt_of_cell? _ _ hg0.1) hc2).trans hg0.1, (hy.cell (p := ⟨qb, qoff + k * 3 + 1, none⟩) (World.block_lt_of_cell? _ _ hg0.2.1) hc2).trans hg0.2.1, (hy.cell (p := ⟨qb, qoff + k * 3 + 2, none⟩) (World.block_lt_of_cell? _ _ hg0.2.2) hc2).trans hg0.2.2⟩)
      have c0 : (wr).cell? ⟨N, 0, none⟩ = some (.slice va vn vc) := by have h1 := HR.out.box.cell 0; rw [HN.out] at h1; simpa using h1
      have y0 := fun o => cell_ofC (alC (wr) o) c0
      have hAL : Below (wr).heap.size (wr) ((wr).drew.alloc (.cells #[.int .i64 gx.args, .int .i64 gx.regs, .slice gx.oa gx.ops.length gx.oc] FnT)) := (Below.refl _ _).drew.alloc (Nat.le_refl _) _
      obtain ⟨v9, w9, hap, hown9, hg9⟩ := run_appK (enc := encF) (k := 3) (bytes := 40) (B := N) (w := (wr).drew.alloc (.cells #[.int .i64 gx.args, .int .i64 gx.regs, .slice gx.oa gx.ops.length gx.oc] FnT)) (v := .slice va vn vc) (xs := p'[j] :: p'.take k) (ys := [gx]) Try.underlying22 info_fn rfl (by decide) (fun _ => rfl) encF_one 22 (HN.out ▸ own_below HR.out.fns hAL) (box_readsC (enc := encF) (k := 3) (l := [gx]) (fun _ => rfl) (by decide) (heap_alloc_new (wr).drew _) 1) (by first | (simp; omega) | simp) (by decide) (by have := hAL.size; omega)
      have hF9 := grow_fr' (Below.refl _ _) hg9
      obtain ⟨a9, c9, hv9⟩ := own_slice hown9
      obtain ⟨n9, hn9⟩ : ∃ n, ((p'[j] :: p'.take k) ++ [gx]).length = n := ⟨_, rfl⟩
      rw [hn9] at hv9
      subst hv9
      have HF9 := Lib.hid (show Fr (fun i => i = N ∨ ((.slice va vn vc) : Value).ownBlock = some i) (wr) w9 from (Fr.of_below hAL).trans (hF9.mono fun i hi => .inr hi))
      have HNX := Lib.hid (show BeW w3 (.slice a9 n9 c9) ((p'[j] :: p'.take k) ++ [gx]) (w9.setCell ⟨N, 0, none⟩ (.slice a9 n9 c9)) from by
        have h1 := HR.out.push hAL hF9 (by rw [HN.out]; exact hown9) (own_below hgo HR.out.low)
        rw [HN.out] at h1
        exact h1)
      have hb9 : BoxAt w9 N #[.slice va vn vc] PrgT := by have h1 := box_typed (HR.out.box.below hAL) hF9 (typed_own (own_below HR.out.fns hAL)) (by decide); rw [HN.out] at h1; exact h1
      have e0 := hb9.cell 0
      have fe0 := hb9.frozen 0
      simp only [List.getElem?_toArray, List.getElem?_cons_zero] at e0
      have q1 : ((k : Nat) : Int) < p'.length := by omega
      have q0 : (0 : Int) ≤ (k : Nat) := by omega
      clear hAL hown9 hg9 hF9 hb9 hgo hg0
      refine wp_region_held_drew (S := fun y => Fr (fun i => i = N ∨ ((.slice va vn vc) : Value).ownBlock = some i) (wr) y) (by kernel_rfl) ((Fr.refl _ _).drew) (fun hHeld => ?_)
      refine wpAnyH_take (i := 0) (oi := _) (v := ?_) (by rw [List.getElem?_toArray]; exact rfl) (by kernel_rfl) (by kernel_rfl) (by kernel_rfl) (by exact fun _ _ _ h => h) (Or.inl ⟨by rfl, ?_⟩) hHeld ?_
      rotate_left
      · (intro wX hSw; clear hSw; go_simp; try with_reducible rfl)
      try simp only [Act.put, List.setIfInBounds_toArray, List.set_cons_zero, List.set_cons_succ]
      refine wpAnyH_take (i := 2) (oi := _) (v := ?_) (by rw [List.getElem?_toArray]; exact rfl) (by kernel_rfl) (by kernel_rfl) (by kernel_rfl) (by exact fun _ _ _ h => h) (Or.inl ⟨by rfl, ?_⟩) hHeld ?_
      rotate_left
      · (intro wX hSw; clear hSw; go_simp; try with_reducible rfl)
      try simp only [Act.put, List.setIfInBounds_toArray, List.set_cons_zero, List.set_cons_succ]
      refine wpAnyH_take (i := 3) (oi := _) (v := ?_) (by rw [List.getElem?_toArray]; exact rfl) (by kernel_rfl) (by kernel_rfl) (by kernel_rfl) (by exact fun _ _ _ h => h) (Or.inl ⟨by rfl, ?_⟩) hHeld ?_
      rotate_left
      · (intro wX hSw; obtain ⟨s0, s1, s2, s3⟩ := HS.out _ hSw; clear s1 s2 s3 hSw; go_simp; try with_reducible rfl)
      try simp only [Act.put, List.setIfInBounds_toArray, List.set_cons_zero, List.set_cons_succ]
      refine wpAnyH_take (i := 4) (oi := _) (v := ?_) (by rw [List.getElem?_toArray]; exact rfl) (by kernel_rfl) (by kernel_rfl) (by kernel_rfl) (by exact fun _ _ _ h => h) (Or.inl ⟨by rfl, ?_⟩) hHeld ?_
      rotate_left
      · (intro wX hSw; clear hSw; go_simp; try with_reducible rfl)
      try simp only [Act.put, List.setIfInBounds_toArray, List.set_cons_zero, List.set_cons_succ]
      refine wpAnyH_take (i := 5) (oi := _) (v := ?_) (by rw [List.getElem?_toArray]; exact rfl) (by kernel_rfl) (by kernel_rfl) (by kernel_rfl) (by exact fun _ _ _ h => h) (Or.inl ⟨by rfl, ?_⟩) hHeld ?_
      rotate_left
      · (intro wX hSw; clear hSw; go_simp; try with_reducible rfl)
      try simp only [Act.put, List.setIfInBounds_toArray, List.set_cons_zero, List.set_cons_succ]
      refine wpAnyH_take (i := 6) (oi := _) (v := ?_) (by rw [List.getElem?_toArray]; exact rfl) (by kernel_rfl) (by kernel_rfl) (by kernel_rfl) (by exact fun _ _ _ h => h) (Or.inl ⟨by rfl, ?_⟩) hHeld ?_
      rotate_left
      · (intro wX hSw; obtain ⟨s0, s1, s2, s3⟩ := HS.out _ hSw; clear s0 hSw; go_simp; try with_reducible rfl)
      try simp only [Act.put, List.setIfInBounds_toArray, List.set_cons_zero, List.set_cons_succ]
      refine wpAnyH_ready (rs := [1, 7]) (by kernel_rfl) (by simp) ?_
      refine AllReadyH.cons (o := _) (by rw [List.getElem?_toArray]; exact rfl) (fun K hK => ?_) ?_
      · go_simp
        refine hK.out _ _ (hHeld) (fun hHeld => ?_)
        clear hK K
        try simp only [Act.put, List.setIfInBounds_toArray, List.set_cons_zero, List.set_cons_succ]
        refine wpAnyH_ready (rs := [7]) (by kernel_rfl) (by simp) ?_
        refine AllReadyH.cons (o := _) (by rw [List.getElem?_toArray]; exact rfl) (fun K hK => ?_) ?_
        · go_simp
          refine hK.out _ _ (hHeld.then (alC _ _)) (fun hHeld => ?_)
          clear hK K
          try simp only [Act.put, List.setIfInBounds_toArray, List.set_cons_zero, List.set_cons_succ]
          refine wpAnyH_ready (rs := [8]) (by kernel_rfl) (by simp) ?_
          refine AllReadyH.cons (o := _) (by rw [List.getElem?_toArray]; exact rfl) (fun K hK => ?_) ?_
          · refine step_append_run rfl _ _ _ _ rfl _ _ (by simp [Act.eval, Act.put]) (by simp [Act.eval, Act.put]) hap ?_
            refine hK.out _ _ (HF9.out) (fun hHeld => ?_)
            clear hK K
            try simp only [Act.put, List.setIfInBounds_toArray, List.set_cons_zero, List.set_cons_succ]
            refine wpAnyH_take (i := 9) (oi := _) (v := ?_) (by rw [List.getElem?_toArray]; exact rfl) (by kernel_rfl) (by kernel_rfl) (by kernel_rfl) (by exact fun _ _ _ h => h) (Or.inl ⟨by rfl, ?_⟩) hHeld ?_
            rotate_left
            · (intro wX hSw; clear hSw; go_simp; try with_reducible rfl)
            try simp only [Act.put, List.setIfInBounds_toArray, List.set_cons_zero, List.set_cons_succ]
            refine wpAnyH_ready (rs := [10]) (by kernel_rfl) (by simp) ?_
            refine AllReadyH.cons (o := _) (by rw [List.getElem?_toArray]; exact rfl) (fun K hK => ?_) ?_
            · go_simp
              refine hK.out _ _ (HF9.out.trans (((Fr.refl (fun i => i = N) w9).setCell (p := ⟨N, 0, none⟩) rfl _).mono fun i hi => .inl hi)) (fun hHeld => ?_)
              clear hK K
              try simp only [Act.put, List.setIfInBounds_toArray, List.set_cons_zero, List.set_cons_succ]
              refine wpAnyH_done (by kernel_rfl) ?_ _
              go_wp2_with fail
              go_roundg (gk - 1)
              case rel => exact ⟨k + 1, _, by omega, by go_num, by rw [HTK.out, HGX.out]; exact HNX⟩
              case measure => omega
            exact AllReadyH.nil
          exact AllReadyH.nil
        exact AllReadyH.nil
      refine AllReadyH.cons (o := _) (by rw [List.getElem?_toArray]; exact rfl) (fun K hK => ?_) ?_
      · go_simp
        refine hK.out _ _ (hHeld.then (alC _ _)) (fun hHeld => ?_)
        clear hK K
        try simp only [Act.put, List.setIfInBounds_toArray, List.set_cons_zero, List.set_cons_succ]
        refine wpAnyH_ready (rs := [1]) (by kernel_rfl) (by simp) ?_
        refine AllReadyH.cons (o := _) (by rw [List.getElem?_toArray]; exact rfl) (fun K hK => ?_) ?_
        · go_simp
          refine hK.out _ _ (hHeld) (fun hHeld => ?_)
          clear hK K
          try simp only [Act.put, List.setIfInBounds_toArray, List.set_cons_zero, List.set_cons_succ]
          refine wpAnyH_ready (rs := [8]) (by kernel_rfl) (by simp) ?_
          refine AllReadyH.cons (o := _) (by rw [List.getElem?_toArray]; exact rfl) (fun K hK => ?_) ?_
          · refine step_append_run rfl _ _ _ _ rfl _ _ (by simp [Act.eval, Act.put]) (by simp [Act.eval, Act.put]) hap ?_
            refine hK.out _ _ (HF9.out) (fun hHeld => ?_)
            clear hK K
            try simp only [Act.put, List.setIfInBounds_toArray, List.set_cons_zero, List.set_cons_succ]
            refine wpAnyH_take (i := 9) (oi := _) (v := ?_) (by rw [List.getElem?_toArray]; exact rfl) (by kernel_rfl) (by kernel_rfl) (by kernel_rfl) (by exact fun _ _ _ h => h) (Or.inl ⟨by rfl, ?_⟩) hHeld ?_
            rotate_left
            · (intro wX hSw; clear hSw; go_simp; try with_reducible rfl)
            try simp only [Act.put, List.setIfInBounds_toArray, List.set_cons_zero, List.set_cons_succ]
            refine wpAnyH_ready (rs := [10]) (by kernel_rfl) (by simp) ?_
            refine AllReadyH.cons (o := _) (by rw [List.getElem?_toArray]; exact rfl) (fun K hK => ?_) ?_
            · go_simp
              refine hK.out _ _ (HF9.out.trans (((Fr.refl (fun i => i = N) w9).setCell (p := ⟨N, 0, none⟩) rfl _).mono fun i hi => .inl hi)) (fun hHeld => ?_)
              clear hK K
              try simp only [Act.put, List.setIfInBounds_toArray, List.set_cons_zero, List.set_cons_succ]
              refine wpAnyH_done (by kernel_rfl) ?_ _
              go_wp2_with fail
              go_roundg (gk - 1)
              case rel => exact ⟨k + 1, _, by omega, by go_num, by rw [HTK.out, HGX.out]; exact HNX⟩
              case measure => omega
            exact AllReadyH.nil
          exact AllReadyH.nil
        exact AllReadyH.nil
      exact AllReadyH.nil
    · have hkl : k = p'.length := by omega
      have HW6 := Lib.hid (show BeW w3 (.slice va vn vc) (p'[j] :: p') wr from by have h1 := HR.out; rw [hkl, List.take_length] at h1; exact h1)
      have HH6 := Lib.hid (show HalfB (srcL p j) (p'[j] :: p') 0 from HalfB.start (.cons (by
        have h1 : fnAt p (j : Int) = p[j]'(by omega) := by
          unfold fnAt
          rw [List.getD_eq_getElem?_getD, Int.toNat_natCast, List.getElem?_eq_getElem (by omega)]; rfl
        rw [h1]; exact HEQ.out.get j (by omega) hj) HEQ.out))
      clear HR hvn
      obtain ⟨w6, rfl⟩ : ∃ x, x = wr := ⟨_, rfl⟩
      go_wp2_with fail
      go_loopg [8] (p.length + 1) (fun gk i wr => ∃ (k : Nat) (v : Value) (L : List Fnc), gk + k = p.length + 1 ∧ i = .int .i64 k ∧ Hid (BeW w3 v L wr ∧ HalfB (srcL p j) L k))
      case atStart => exact ⟨0, _, _, by omega, rfl, HW6.out, HH6.out⟩
      case round =>
        clear HW6 HH6 hx hk hkl
        obtain ⟨i, v, L, hi, rfl, HR⟩ := hrel
        obtain ⟨wk, rfl⟩ : ∃ x, x = wr := ⟨_, rfl⟩
        obtain ⟨go, rfl⟩ : ∃ x, x = gk := ⟨_, rfl⟩
        have hLl : L.length = p.length + 1 := by rw [HR.out.2.1]; rfl
        have HLL := Lib.hid hLl
        obtain ⟨vb, vc2, rfl, hvb⟩ := own_at0 HR.out.1.fns (by omega)
        have c0 : wk.cell? ⟨N, 0, none⟩ = some (.slice (some ⟨vb, 0, none⟩) L.length vc2) := by have h1 := HR.out.1.box.cell 0; rw [HN.out] at h1; simpa using h1
        by_cases hlt : i < p.length + 1
        · have hlL : i < L.length := by omega
          have hlS : i < (srcL p j).length := by simp [srcL]; omega
          clear hLl
          obtain ⟨b, off, c, he, hb, hc⟩ := (own_readsK (enc := encF) (k := 3) (fun _ => rfl) (by decide) HR.out.1.fns).at (by omega)
          injection he with he1 he2 he3
          injection he1 with he1
          injection he1 with e1 e2 _
          subst e1; subst e2
          obtain ⟨f0, f1, f2⟩ := fn_at hc hlL
          rw [Nat.zero_add] at f0 f1 f2
          have hfo := HR.out.1.ops _ (List.getElem_mem hlL)
          have hfe := (HR.out.2.2 i hlS hlL).2 (Nat.le_refl _)
          have hwf : ∀ o ∈ (srcL p j)[i].ops, o.k = 12 → 0 ≤ o.n ∧ o.n < 16 := fun o ho hk => by
            have hm : (srcL p j)[i] ∈ p := by
              have h2 : ∀ f ∈ srcL p j, f ∈ p := fun f hf => by
                rcases List.mem_cons.1 hf with rfl | hf
                · obtain ⟨h3, h4⟩ := fnAt_get h0 h1
                  rw [h4]; exact List.getElem_mem h3
                · exact hf
              exact h2 _ (List.getElem_mem hlS)
            have h3 := ((HWF.out.2 _ hm).op o ho).fk hk
            omega
          have hol : (srcL p j)[i].ops.length ≤ 64 := by
            have hm : (srcL p j)[i] ∈ p := by
              have h2 : ∀ f ∈ srcL p j, f ∈ p := fun f hf => by
                rcases List.mem_cons.1 hf with rfl | hf
                · obtain ⟨h3, h4⟩ := fnAt_get h0 h1
                  rw [h4]; exact List.getElem_mem h3
                · exact hf
              exact h2 _ (List.getElem_mem hlS)
            exact (HWF.out.2 _ hm).o1
          rw [← hfe.2.2] at hwf hol
          have HFE := Lib.hid hfe
          have HWO := Lib.hid hwf
          have q1 : (i : Int) < L.length := by omega
          have q0 : (0 : Int) ≤ i := by omega
          obtain ⟨f, hfL⟩ : ∃ f, L[i] = f := ⟨_, rfl⟩
          rw [hfL] at f0 f1 f2 hfo hol
          rw [hfL] at HFE HWO
          have HFL := Lib.hid hfL
          have hB5 : Below wk.heap.size wk (wk.alloc (.cells #[] OpT)) := alC _ _
          obtain ⟨ov, w7, hap, hown7, hg7⟩ := run_appK (enc := encO) (k := 5) (bytes := 40) (B := wk.heap.size) Try.underlying51 info_op rfl (by decide) (fun _ => rfl) encO_one (xs := []) 51 (World.ownsRow_made wk #[] 0 (Nat.le_refl _) (Nat.zero_le _) (by simp)) ((own_readsK (enc := encO) (k := 5) (fun _ => rfl) (by decide) hfo).below hB5) (by simp; omega) (by decide) (by simp)
          have hF7 := grow_fr' (Below.refl _ _) hg7
          simp only [List.nil_append] at hown7
          obtain ⟨oa', oc', rfl⟩ := own_slice hown7
          have HB7 := Lib.hid (show Below wk.heap.size wk w7 from hB5.trans (hF7.below (fun i hi => by injection hi with hi; have hi2 : wk.heap.size = i := hi; omega) hB5.size))
          have HO7 := Lib.hid hown7
          have y0 := fun o => cell_ofC (alC wk o) c0
          have g2 := fun o => cell_ofC (alC wk o) f2
          clear hF7 hB5 hown7 hg7 hfL hfo hc hb he2 he3 hfe hwf
          go_wp2_with (at_builtin; refine wpList_arunC rfl _ _ _ _ rfl rfl rfl hap ?_)
          obtain ⟨on, hon⟩ : ∃ n, f.ops.length = n := ⟨_, rfl⟩
          rw [hon] at HO7 hol f2 g2 ⊢
          have HON := Lib.hid hon
          clear hon hap y0 g2
          go_loopg [10] on (fun gk i3 wr => ∃ m : Nat, gk + m = on ∧ i3 = .int .i64 m ∧ Hid (Below wk.heap.size wk wr ∧ wr.ownsRow wk.heap.size OpT 5 (.slice oa' on oc') ((f.ops.take m).map shO ++ f.ops.drop m).length (((f.ops.take m).map shO ++ f.ops.drop m).flatMap encO)))
          case atStart => exact ⟨0, by omega, rfl, HB7.out, by simpa [HON.out] using HO7.out⟩
          case round =>
            clear HB7 HO7
            obtain ⟨m, hm, rfl, HM⟩ := hrel
            have hml : ((f.ops.take m).map shO ++ f.ops.drop m).length = on := by simp; have := HON.out; omega
            by_cases hmt : m < on
            · have hmo : m < f.ops.length := by have := HON.out; omega
              obtain ⟨ob, oc2, hov, hobl⟩ := own_at0 HM.out.2 (by omega)
              rw [hml] at hov
              injection hov with e1 _ e3
              subst e1; subst e3
              obtain ⟨b, off, c, he, hb, hc⟩ := (own_readsK (enc := encO) (k := 5) (fun _ => rfl) (by decide) (by rw [hml]; rw [hml] at HM; exact HM.out.2)).at (l := (f.ops.take m).map shO ++ f.ops.drop m) (by omega)
              injection he with he1 he2 he3
              injection he1 with he1
              injection he1 with e1 e2 _
              subst e1; subst e2
              obtain ⟨g0, g1, g2, g3, g4⟩ := op_at hc (k := m) (by omega)
              have hgm := sh_at hmo (by omega)
              rw [hgm] at g0 g4
              rw [Nat.zero_add] at g0 g4
              have fz := own_frozen (by rw [hml] at HM; exact HM.out.2) (m * 5 + 4)
              have q3 : (m : Int) < on := by omega
              have q4 : (0 : Int) ≤ m := by omega
              have hwo := HWO.out f.ops[m] (List.getElem_mem hmo)
              clear hc hb he2 he3 g1 g2 g3
              by_cases hk12 : f.ops[m].k = 12
              · obtain ⟨z0, z1⟩ := hwo hk12
                have hsh : shO f.ops[m] = { f.ops[m] with n := f.ops[m].n + 1 } := by unfold shO; rw [if_pos hk12]
                have hwr : IntKind.i64.wrap (f.ops[m].n + 1) = f.ops[m].n + 1 := IntWalk.i64_in _ (by omega)
                have HST := Lib.hid (show ∀ y : World, y.ownsRow wk.heap.size OpT 5 (.slice (some ⟨ob, 0, none⟩) on oc') ((f.ops.take m).map shO ++ f.ops.drop m).length (((f.ops.take m).map shO ++ f.ops.drop m).flatMap encO) → (y.setCell ⟨ob, m * 5 + 4, none⟩ (.int .i64 (f.ops[m].n + 1))).ownsRow wk.heap.size OpT 5 (.slice (some ⟨ob, 0, none⟩) on oc') ((f.ops.take (m + 1)).map shO ++ f.ops.drop (m + 1)).length (((f.ops.take (m + 1)).map shO ++ f.ops.drop (m + 1)).flatMap encO) from fun y hy => by
                  rw [hml] at hy
                  have h1 := own_set hy (j := m * 5 + 4) (v := .int .i64 (f.ops[m].n + 1))
                  rw [flat_setO _ m (by omega), hgm, ← hsh, sh_step hmo] at h1
                  rw [show ((f.ops.take (m + 1)).map shO ++ f.ops.drop (m + 1)).length = on by simp; have := HON.out; omega]
                  exact h1)
                rw [hk12] at g0
                have HOB := Lib.hid (show wk.heap.size ≤ ob from hobl)
                generalize f.ops[m].n = nn at *
                clear hwo hgm hsh hk12
                go_wp2_with fail
                go_roundg (gk - 1)
                case rel =>
                  refine ⟨m + 1, by omega, by go_num, ?_, HST.out _ HM.out.2⟩
                  exact HM.out.1.setCell HOB.out _
                case measure => omega
              · have hkb : (f.ops[m].k == 12) = false := by simpa using hk12
                have HSM := Lib.hid (sh_same hmo hk12)
                generalize f.ops[m].k = kk at *
                clear hwo hgm hk12
                go_wp2_with fail
                go_roundg (gk - 1)
                case rel => exact ⟨m + 1, by omega, by go_num, HM.out.1, by rw [HSM.out]; exact HM.out.2⟩
                case measure => omega
            · have hmn : m = f.ops.length := by have := HON.out; omega
              have HM2 := Lib.hid (show Below wk.heap.size wk wr ∧ wr.ownsRow wk.heap.size OpT 5 (.slice oa' on oc') (f.ops.map shO).length ((f.ops.map shO).flatMap encO) from by
                have h1 := HM.out
                rw [hmn, List.take_length, List.drop_length, List.append_nil] at h1
                exact h1)
              have hR := HR.out.1.below HM2.out.1
              have c0' := cell_ofC HM2.out.1 c0
              have f2' := cell_ofC HM2.out.1 f2
              have fz := own_frozen hR.fns (i * 3 + 2)
              have HRX := Lib.hid hR
              have HVB := Lib.hid hvb
              clear hR HM hmn hml
              go_wp2_with fail
              go_roundg (go - 1)
              case rel =>
                have hF : Fr (fun x => x = vb) wr (wr.setCell ⟨vb, i * 3 + 2, none⟩ (.slice oa' on oc')) := (Fr.refl (fun x => x = vb) wr).setCell (p := ⟨vb, i * 3 + 2, none⟩) rfl _
                have hT : Typed (fun x => x = vb) wr [FnT] := fun x hx hl => typed_own HRX.out.fns x (by rw [hx]; rfl) hl
                have hfn := own_set HRX.out.fns (j := i * 3 + 2) (v := .slice oa' on oc')
                have hon : on = (⟨f.args, f.regs, f.ops.map shO, oa', oc'⟩ : Fnc).ops.length := by simp [HON.out]
                have hfx := flat_setF L i hlL ⟨f.args, f.regs, f.ops.map shO, oa', oc'⟩ (by rw [HFL.out]) (by rw [HFL.out])
                rw [← hon] at hfx
                simp only [] at hfx
                rw [hfx] at hfn
                refine ⟨i + 1, .slice (some ⟨vb, 0, none⟩) L.length vc2, L.set i ⟨f.args, f.regs, f.ops.map shO, oa', oc'⟩, by omega, by go_num, ⟨HRX.out.low.trans (hF.below (fun x hx => by rw [hx]; exact HVB.out) HRX.out.low.size), box_typed HRX.out.box hF hT (by decide), by rw [List.length_set]; exact hfn, fun g hg => ?_⟩, HR.out.2.step hlS ⟨HFE.out.1, HFE.out.2.1, by show f.ops.map shO = _; rw [HFE.out.2.2]⟩⟩
                rcases List.mem_or_eq_of_mem_set hg with hg | rfl
                · exact own_typed (HRX.out.ops g hg) hF hT (by decide)
                · have h1 := own_typed HM2.out.2 hF hT (by decide)
                  have hlen2 : (f.ops.map shO).length = on := by simp [HON.out]
                  rw [hlen2] at h1
                  show World.ownsRow _ 0 OpT 5 (.slice oa' (f.ops.map shO).length oc') (f.ops.map shO).length ((f.ops.map shO).flatMap encO)
                  rw [hlen2]
                  exact owns_base h1 (Nat.zero_le _)
              case measure => omega
        · have hiN : i = p.length + 1 := by omega
          have r0 := cell_ofC (by have h1 := HR.out.1.low; exact h1) (H3.out.1.1.cell 0)
          have frz := (BoxAt.below H3.out.1.1 HR.out.1.low).frozen 0
          have r0' : wk.cell? ⟨w.heap.size + 1, 0, none⟩ = some (.slice none 0 0) := by simpa using r0
          clear r0
          have HB1 := Lib.hid (BoxAt.below H3.out.1.1 HR.out.1.low)
          go_wp2_with fail
          have hF : ∀ u, Fr (fun x => x = w.heap.size + 1) wk (wk.setCell ⟨w.heap.size + 1, 0, none⟩ u) := fun u => (Fr.refl (fun x => x = w.heap.size + 1) wk).setCell (p := ⟨w.heap.size + 1, 0, none⟩) rfl _
          have hT := typed_box HB1.out
          have HF9 := Lib.hid (show wk.ownsRow w3.heap.size FnT 3 (.slice (some ⟨vb, 0, none⟩) (p.length + 1) vc2) L.length (L.flatMap encF) from by have h9 := HR.out.1.fns; rw [HLL.out] at h9 ⊢; exact h9)
          have hlw : Below w.heap.size w wk := H3.out.1.2.1.trans (HR.out.1.low.mono H3.out.1.2.1.size)
          refine begun_end (Go.heap_setCell_same wk _ 0 _ _ _ HB1.out) rfl ⟨_, L, rfl, hlw.trans ((hF _).below (fun x hx => by omega) hlw.size), ⟨own_readsK (enc := encF) (k := 3) (fun _ => rfl) (by decide) (own_typed (E := FnT) HF9.out (hF _) hT (by decide)), fun g hg => ⟨own_readsK (enc := encO) (k := 5) (fun _ => rfl) (by decide) (own_typed (HR.out.1.ops g hg) (hF _) hT (by decide)), ?_⟩, by have := HLL.out; omega⟩, (hiN ▸ HR.out.2).done h0 h1⟩
          obtain ⟨x, hx, rfl⟩ := List.getElem_of_mem hg
          have h2 := (HR.out.2.2 x (by rw [← HR.out.2.1]; exact hx) hx).1 (by omega)
          have hm : (srcL p j)[x]'(by rw [← HR.out.2.1]; exact hx) ∈ p := by
            have h2 : ∀ f ∈ srcL p j, f ∈ p := fun f hf => by
              rcases List.mem_cons.1 hf with rfl | hf
              · obtain ⟨h3, h4⟩ := fnAt_get h0 h1
                rw [h4]; exact List.getElem_mem h3
              · exact hf
            exact h2 _ (List.getElem_mem _)
          rw [h2.ops, List.length_map]
          have := (HWF.out.2 _ hm).o1
          omega
end Go.Proofs.Ytihadknnmkblcaa
