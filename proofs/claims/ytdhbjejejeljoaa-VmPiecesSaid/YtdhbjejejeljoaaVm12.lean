/- Contract: vm.copied. -/
import Derived.Test.YtdhbjejejeljoaaVm11
namespace Go.Proofs.Ytdhbjejejeljoaa
open Go.RowKit Go.Sort Go.Lib

abbrev PrgT : TypeId := 24
/-- The same functions, wherever their ops lie. -/
def SameP (p q : List Fnc) : Prop := q.length = p.length ∧ ∀ (i : Nat) (h : i < p.length) (h' : i < q.length), FnEq p[i] q[i]
def CopyVP (p : List Fnc) (w : World) (e : Ending) (w' : World) : Prop := ∃ (v : Value) (p' : List Fnc), e = .returned (.agg #[v]) ∧ Below w.heap.size w w' ∧ ProgOwn w.heap.size w' v p' ∧ SameP p p'
theorem copied_end {wz : World} {tmps : Array Value} {b : Nat} {v : Value} {R : Ending → World → Prop}
    (hb : BoxAt wz b #[v] PrgT) (h2 : tmps.getD 2 undef = .pointer (some ⟨b, 0, none⟩)) (hR : R (.returned (.agg #[v])) wz) :
    bodyPost Try.prog Try.f27 R Exit.ret { tmps := tmps, defers := [] } wz := by
  have k0 := hb.cell 0
  simp only [List.getElem?_toArray, List.getElem?_cons_zero] at k0
  refine bodyPost_ret (v := .agg #[v]) ?_ rfl hR
  have h2' : tmps[2]?.getD undef = .pointer (some ⟨b, 0, none⟩) := by simpa using h2
  simp [results, Try.results27, go_sem, h2', k0]
theorem flat_setFn (L : List Fnc) (i : Nat) (h : i < L.length) (f : Fnc) (ha : f.args = L[i].args) (hr : f.regs = L[i].regs) : (L.flatMap encF).set (i * 3 + 2) (.slice f.oa f.ops.length f.oc) = (L.set i f).flatMap encF := by
  induction L generalizing i with
  | nil => simp at h
  | cons g L ih =>
    cases i with
    | zero =>
      simp only [List.getElem_cons_zero] at ha hr
      simp [encF, ha, hr]
    | succ i =>
      rw [List.flatMap_cons, List.set_cons_succ, List.flatMap_cons, List.set_append_right _ _ (by simp [encF]; omega)]
      rw [show (i + 1) * 3 + 2 - (encF g).length = i * 3 + 2 by simp [encF]; omega, ih i (by simpa using h) (by simpa using ha) (by simpa using hr)]
/-- The first k functions have ops of their own. -/
structure CpV (B pb rb g cap : Nat) (p : List Fnc) (k : Nat) (q : List Fnc) (w : World) : Prop where
  pbox : BoxAt w pb #[.slice (some ⟨g, 0, none⟩) p.length cap] PrgT
  rbox : BoxAt w rb #[.slice none 0 0] PrgT
  own : w.ownsRow B FnT 3 (.slice (some ⟨g, 0, none⟩) p.length cap) p.length (q.flatMap encF)
  len : q.length = p.length
  did : ∀ (j : Nat) (h : j < p.length) (h' : j < q.length), j < k → FnEq p[j] q[j] ∧ OpsOwn B w q[j]
  old : ∀ (j : Nat) (h : j < p.length) (h' : j < q.length), k ≤ j → q[j] = p[j]
theorem CpV.next {B pb rb g cap : Nat} {p : List Fnc} {k : Nat} {q : List Fnc} {w w5 : World} {aa : Option Addr} {ac : Nat} (h : CpV B pb rb g cap p k q w) (hk : k < p.length) (hB : Below w.heap.size w w5) (hb : B ≤ w.heap.size)
    (ho : w5.ownsRow w.heap.size OpT 5 (.slice aa p[k].ops.length ac) p[k].ops.length (p[k].ops.flatMap encO)) :
    ∃ q', CpV B pb rb g cap p (k + 1) q' (w5.setCell ⟨g, k * 3 + 2, none⟩ (.slice aa p[k].ops.length ac)) ∧ Below B w (w5.setCell ⟨g, k * 3 + 2, none⟩ (.slice aa p[k].ops.length ac)) := by
  have hkq : k < q.length := by rw [h.len]; exact hk
  have hqk := h.old k hk hkq (Nat.le_refl _)
  have ho5 := own_below h.own hB
  have hF : Fr (fun i => i = g) w5 (w5.setCell ⟨g, k * 3 + 2, none⟩ (.slice aa p[k].ops.length ac)) := (Fr.refl (fun i => i = g) w5).setCell (p := ⟨g, k * 3 + 2, none⟩) rfl _
  have hT : Typed (fun i => i = g) w5 [FnT] := fun i hi hl => typed_own ho5 i (by rw [hi]; rfl) hl
  have ho6 := own_set ho5 (j := k * 3 + 2) (v := .slice aa p[k].ops.length ac)
  have hgl : B ≤ g := (h.own.lt g rfl).1
  rw [flat_setFn q k hkq ⟨p[k].args, p[k].regs, p[k].ops, aa, ac⟩ (by rw [hqk]) (by rw [hqk])] at ho6
  refine ⟨q.set k ⟨p[k].args, p[k].regs, p[k].ops, aa, ac⟩, ⟨box_typed (h.pbox.below hB) hF hT (by decide), box_typed (h.rbox.below hB) hF hT (by decide), ho6, by simpa using h.len, fun j h1 h2 h3 => ?_, fun j h1 h2 h3 => ?_⟩, (hB.mono hb).trans (hF.below (fun i hi => by omega) (Nat.le_trans hb hB.size))⟩
  · by_cases hj : j = k
    · subst hj
      rw [List.getElem_set_self]
      exact ⟨⟨rfl, rfl, rfl⟩, own_typed (owns_monoG ho hb) hF hT (by decide)⟩
    · rw [List.getElem_set_ne (by omega)]
      obtain ⟨g1, g2⟩ := h.did j h1 (by simpa using h2) (by omega)
      exact ⟨g1, own_typed (own_below g2 hB) hF hT (by decide)⟩
  · rw [List.getElem_set_ne (by omega)]
    exact h.old j h1 (by simpa using h2) (by omega)
set_option maxHeartbeats 6400000 in
set_option maxRecDepth 100000 in
theorem copied_any (pv : Value) (p : List Fnc) (w : World) (hp : ProgAt w pv p) (hl : 0 < p.length) :
    Calls Try.prog 27 #[.agg #[pv]] w (CopyVP p w) := by
  obtain ⟨pa, pc, rfl⟩ := hp.fns.slice
  have hA1 : Below w.heap.size w (w.alloc (.cells #[.slice pa p.length pc] PrgT)) := alV _ _
  have hA2 : Below (w.alloc (.cells #[.slice pa p.length pc] PrgT)).heap.size _ ((w.alloc (.cells #[.slice pa p.length pc] PrgT)).alloc (.cells #[.slice none 0 0] PrgT)) := alV _ _
  have b1 : BoxAt (w.alloc (.cells #[.slice pa p.length pc] PrgT)) w.heap.size #[.slice pa p.length pc] PrgT := heap_alloc_new _ _
  have b2 : BoxAt ((w.alloc (.cells #[.slice pa p.length pc] PrgT)).alloc (.cells #[.slice none 0 0] PrgT)) (w.heap.size + 1) #[.slice none 0 0] PrgT := by
    have h1 := heap_alloc_new (w.alloc (.cells #[.slice pa p.length pc] PrgT)) (.cells #[.slice none 0 0] PrgT)
    rwa [World.size_alloc] at h1
  have hsz : ((w.alloc (.cells #[.slice pa p.length pc] PrgT)).alloc (.cells #[.slice none 0 0] PrgT)).heap.size = w.heap.size + 2 := by simp
  have H1 := Lib.hid (And.intro (And.intro (BoxAt.below b1 hA2) b2) (And.intro (gthen hA1 hA2) hsz))
  have HP := Lib.hid hp
  have hlen := hp.len
  clear hp hA1 hA2 b1 b2 hsz
  go_enter Try.func27, Try.ntmps27
  go_upto_region 1 with fail
  generalize (w.alloc (.cells #[.slice pa p.length pc] PrgT)).alloc (.cells #[.slice none 0 0] PrgT) = w1 at *
  have c0 := H1.out.1.1.cell 0
  simp only [List.getElem?_toArray, List.getElem?_cons_zero] at c0
  go_wp2_with fail
  refine (cloneF_any _ p _ (HP.out.below H1.out.2.1).fns hlen).mono ?_
  rintro e w2 ⟨ga, cap, rfl, ho, hB⟩
  obtain ⟨g, cap', cur, hv, hgb, _⟩ := own_blockK ho (by omega)
  injection hv with hv1 hv2 hv3
  subst hv1
  subst hv3
  clear hv2
  have hb2 := H1.out.1.1.below hB
  have hF : Fr (fun i => i = w.heap.size) w2 (w2.setCell ⟨w.heap.size, 0, none⟩ (.slice (some ⟨g, 0, none⟩) p.length cap)) := (Fr.refl (fun i => i = w.heap.size) w2).setCell (p := ⟨w.heap.size, 0, none⟩) rfl _
  have hT := typed_box hb2
  have H3 := Lib.hid (show CpV w.heap.size w.heap.size (w.heap.size + 1) g cap p 0 p (w2.setCell ⟨w.heap.size, 0, none⟩ (.slice (some ⟨g, 0, none⟩) p.length cap)) ∧ Below w.heap.size w (w2.setCell ⟨w.heap.size, 0, none⟩ (.slice (some ⟨g, 0, none⟩) p.length cap)) from
    ⟨⟨Go.heap_setCell_same w2 w.heap.size 0 _ _ _ hb2, (H1.out.1.2.below hB).fr hF (by omega), own_typed (owns_monoG ho (by have := H1.out.2.2; omega)) hF hT (by decide), rfl, fun j h1 h2 h3 => by omega, fun j h1 h2 h3 => rfl⟩,
     (gthen H1.out.2.1 hB).trans (hF.below (fun i hi => by omega) (gthen H1.out.2.1 hB).size)⟩)
  have y0 := hb2.cell 0; have fy0 := hb2.frozen 0
  simp only [List.getElem?_toArray, List.getElem?_cons_zero] at y0
  clear hF hT hb2 ho hB hgb c0
  go_upto_region 2 with fail
  clear y0 fy0 H1
  generalize w2.setCell ⟨w.heap.size, 0, none⟩ (.slice (some ⟨g, 0, none⟩) p.length cap) = w3 at *
  have z0 := H3.out.1.pbox.cell 0
  simp only [List.getElem?_toArray, List.getElem?_cons_zero] at z0
  go_wp2_with fail
  clear z0
  go_loopg [3, 11] p.length (fun gk t3 i wr => ∃ (k : Nat) (q : List Fnc), gk + k = p.length ∧ i = .int .i64 k ∧ Hid (CpV w.heap.size w.heap.size (w.heap.size + 1) g cap p k q wr ∧ Below w.heap.size w wr))
  case atStart => exact ⟨0, p, by omega, rfl, H3.out⟩
  case round =>
    clear H3
    obtain ⟨k, q, hk, rfl, HR⟩ := hrel
    by_cases hlt : k < p.length
    · have q4 : (k : Int) < p.length := by omega
      have q5 : (0 : Int) ≤ k := by omega
      have hkq : k < q.length := by rw [HR.out.1.len]; exact hlt
      obtain ⟨b3, off3, c3, he3, _, hc3⟩ := (own_readsK (enc := encF) (k := 3) (fun _ => rfl) (by decide) (show wr.ownsRow w.heap.size FnT 3 (.slice (some ⟨g, 0, none⟩) p.length cap) q.length (q.flatMap encF) from by rw [HR.out.1.len]; exact HR.out.1.own)).at (by omega)
      injection he3 with he3 hnn hcc
      injection he3 with he3
      injection he3 with e31 e32 _
      subst e31; subst e32
      clear hnn hcc
      obtain ⟨d0, d1, d2⟩ := fn_at hc3 hkq
      rw [HR.out.1.old k hlt hkq (Nat.le_refl _)] at d2
      simp only [Nat.zero_add] at d2
      have hops := HP.out.ops _ (List.getElem_mem hlt)
      have HOP := Lib.hid (show ∀ y, Below wr.heap.size wr y → OpsAt y p[k] from fun y hy => (hops.below HR.out.2).below hy)
      have hol := hops.2
      have HNX := Lib.hid (fun w5 aa ac (hB : Below wr.heap.size wr w5) ho => HR.out.1.next (aa := aa) (ac := ac) hlt hB HR.out.2.size ho)
      have hgf : ∀ y, Below wr.heap.size wr y → y.frozen? ⟨g, k * 3 + 2, none⟩ = false := fun y hy => by
        obtain ⟨g', cap', cur', hv', _, _, hb', _⟩ := own_blockK (own_below HR.out.1.own hy) (by omega)
        injection hv' with hv' _ _
        injection hv' with hv'
        injection hv' with hv' _ _
        subst hv'
        simp [World.frozen?, hb']
      have HGF := Lib.hid hgf
      clear d0 d1 hc3 hops hgf
      generalize p[k] = f at *
      have HC := Lib.hid (show ∀ y, Below wr.heap.size wr y → Calls Try.prog 38 #[.slice f.oa f.ops.length f.oc] y (fun e w' => ∃ aa ac, e = .returned (.slice aa f.ops.length ac) ∧ w'.ownsRow wr.heap.size OpT 5 (.slice aa f.ops.length ac) f.ops.length (f.ops.flatMap encO) ∧ Below wr.heap.size wr w') from fun y hy =>
        (cloneO_any _ f.ops y (HOP.out y hy).1 hol).mono fun e w' hh => by
          obtain ⟨aa, ac, h1, h2, h3⟩ := hh
          exact ⟨aa, ac, h1, owns_monoG h2 hy.size, gthen hy h3⟩)
      have z0 := HR.out.1.pbox.cell 0
      have HZ := Lib.hid (show ∀ y, Below wr.heap.size wr y → y.cell? ⟨w.heap.size, 0, none⟩ = some (.slice (some ⟨g, 0, none⟩) p.length cap) from fun y hy => (BoxAt.below HR.out.1.pbox hy).cell 0)
      have HD := Lib.hid (show ∀ y, Below wr.heap.size wr y → y.cell? ⟨g, k * 3 + 2, none⟩ = some (.slice f.oa f.ops.length f.oc) from fun y hy => (hy.cell (World.block_lt_of_cell? _ _ d2)).trans d2)
      simp only [List.getElem?_toArray, List.getElem?_cons_zero] at z0
      go_upto_region 5 with fail
      go_region_with (go_at_call 38; refine (HC.out _ (by first | exact Below.refl _ _ | exact (Below.refl _ _).drew)).mono ?_; rintro e w5 ⟨aa, ac, rfl, ho, hB⟩; have HO := Lib.hid (And.intro ho hB); have m0 := HZ.out _ hB; have m1 := HD.out _ hB; have m2 := HGF.out _ hB; clear ho hB)
      all_goals
        obtain ⟨q', hq', hB'⟩ := HNX.out _ _ _ HO.out.2 HO.out.1
        have HN := Lib.hid (show CpV w.heap.size w.heap.size (w.heap.size + 1) g cap p (k + 1) q' (w5.setCell ⟨g, k * 3 + 2, none⟩ (.slice aa f.ops.length ac)) ∧ Below w.heap.size w (w5.setCell ⟨g, k * 3 + 2, none⟩ (.slice aa f.ops.length ac)) from ⟨hq', HR.out.2.trans hB'⟩)
        clear hq' hB' m0 m1 m2 z0 d2
        go_wp2_with fail
        go_roundg (gk - 1)
        case rel => exact ⟨k + 1, q', by omega, by go_num, HN⟩
        case measure => omega
    · have hkl : k = p.length := by omega
      have q4 : ¬ (k : Int) < p.length := by omega
      have z0 := HR.out.1.pbox.cell 0
      have r0 := HR.out.1.rbox.cell 0
      have fr0 := HR.out.1.rbox.frozen 0
      simp only [List.getElem?_toArray, List.getElem?_cons_zero] at z0 r0
      have HK := Lib.hid hkl
      clear hkl
      go_wp2_with fail
      have hF : Fr (fun i => i = w.heap.size + 1) wr (wr.setCell ⟨w.heap.size + 1, 0, none⟩ (.slice (some ⟨g, 0, none⟩) p.length cap)) := (Fr.refl (fun i => i = w.heap.size + 1) wr).setCell (p := ⟨w.heap.size + 1, 0, none⟩) rfl _
      have hT := typed_box HR.out.1.rbox
      refine copied_end (Go.heap_setCell_same wr _ 0 _ _ _ HR.out.1.rbox) rfl ⟨_, q, rfl, HR.out.2.trans (hF.below (fun i hi => by omega) HR.out.2.size), ⟨?_, fun f hf => ?_⟩, HR.out.1.len, fun i h h' => (HR.out.1.did i h h' (by have := HK.out; omega)).1⟩
      · rw [HR.out.1.len]; exact own_typed HR.out.1.own hF hT (by decide)
      · obtain ⟨i, hi, rfl⟩ := List.getElem_of_mem hf
        have hl := HR.out.1.len
        exact own_typed (HR.out.1.did i (by omega) hi (by have := HK.out; omega)).2 hF hT (by decide)
end Go.Proofs.Ytdhbjejejeljoaa
