/- Contract: vm.Frame.Give. -/
import Derived.Test.YtdhbjejejeljoaaVm9
import Derived.Test.YtdhbjejejeljoaaEv15
namespace Go.Proofs.Ytdhbjejejeljoaa
open Go.RowKit Go.Sort Go.Lib

theorem flat_setCh (L : List Ch) (i : Nat) (h : i < L.length) (z : Rs) : (((L.flatMap encCh).set (i * 4 + 1) (.bool true)).set (i * 4 + 2) (.int .i64 z.v)).set (i * 4 + 3) (.int .i64 z.e) = (L.set i ⟨L[i].into, true, z⟩).flatMap encCh := by
  induction L generalizing i with
  | nil => simp at h
  | cons g L ih =>
    cases i with
    | zero => simp [encCh]
    | succ i =>
      rw [List.flatMap_cons, List.set_cons_succ, List.flatMap_cons, List.set_append_right _ _ (by simp [encCh]; omega)]
      rw [show (i + 1) * 4 + 1 - (encCh g).length = i * 4 + 1 by simp [encCh]; omega]
      rw [List.set_append_right _ _ (by simp [encCh]; omega)]
      rw [show (i + 1) * 4 + 2 - (encCh g).length = i * 4 + 2 by simp [encCh]; omega]
      rw [List.set_append_right _ _ (by simp [encCh]; omega)]
      rw [show (i + 1) * 4 + 3 - (encCh g).length = i * 4 + 3 by simp [encCh]; omega, ih i (by simpa using h)]
      simp
/-- A child's result is laid. -/
theorem Vm.give {x r : Nat} {pv : Value} {t : Tk} {av wv rv : Value} {s : Vs} {w : World} {g kc k : Nat} {z : Rs} (h : Vm x r pv t av (.slice (some ⟨g, 0, none⟩) s.kids.length kc) wv rv s w) (hk : k < s.kids.length) :
    Vm x r pv t av (.slice (some ⟨g, 0, none⟩) s.kids.length kc) wv rv { s with kids := s.kids.set k ⟨s.kids[k].into, true, z⟩ } (((w.setCell ⟨g, k * 4 + 1, none⟩ (.bool true)).setCell ⟨g, k * 4 + 2, none⟩ (.int .i64 z.v)).setCell ⟨g, k * 4 + 3, none⟩ (.int .i64 z.e)) ∧
    Fr (fun i => i = g) w (((w.setCell ⟨g, k * 4 + 1, none⟩ (.bool true)).setCell ⟨g, k * 4 + 2, none⟩ (.int .i64 z.v)).setCell ⟨g, k * 4 + 3, none⟩ (.int .i64 z.e)) := by
  have hF : Fr (fun i => i = g) w (((w.setCell ⟨g, k * 4 + 1, none⟩ (.bool true)).setCell ⟨g, k * 4 + 2, none⟩ (.int .i64 z.v)).setCell ⟨g, k * 4 + 3, none⟩ (.int .i64 z.e)) := (((Fr.refl (fun i => i = g) w).setCell (p := ⟨g, k * 4 + 1, none⟩) rfl _).setCell (p := ⟨g, k * 4 + 2, none⟩) rfl _).setCell (p := ⟨g, k * 4 + 3, none⟩) rfl _
  have hT : Typed (fun i => i = g) w [ChT] := fun i hi hl => typed_own h.kids i (by rw [hi]; rfl) hl
  have ho := own_set (own_set (own_set h.kids (j := k * 4 + 1) (v := .bool true)) (j := k * 4 + 2) (v := .int .i64 z.v)) (j := k * 4 + 3) (v := .int .i64 z.e)
  rw [flat_setCh _ _ hk] at ho
  refine ⟨⟨box_typed h.box hF hT (by decide), box_typed h.regs hF hT (by decide), by simpa using ho, h.wt.typed hF hT (by decide), h.rs.typed hF hT (by decide)⟩, hF⟩
/-- Which of the first children weren't given. -/
def waitsL : Nat → List Ch → List Int
  | 0, _ => []
  | k + 1, l => waitsL k l ++ (if (l.getD k default).given then [] else [(k : Int) + 1])
def waitsV (s : Vs) : List Int := waitsL s.kids.length s.kids
theorem waitsL_len : ∀ (k : Nat) (l : List Ch), (waitsL k l).length ≤ k
  | 0, _ => by simp [waitsL]
  | k + 1, l => by
    have := waitsL_len k l
    simp only [waitsL, List.length_append]
    split
    · simp; omega
    · simp; omega
/-- What a gift leaves. -/
def GiveVP (x r : Nat) (pv : Value) (t : Tk) (av kv wv rv : Value) (R : Int × Vs) (w : World) (e : Ending) (w' : World) : Prop :=
  e = .returned (.int .i64 R.1) ∧ Vm x r pv t av kv wv rv R.2 w' ∧ Fr (fun i => kv.ownBlock = some i) w w'
set_option maxHeartbeats 6400000 in
set_option maxRecDepth 100000 in
theorem vgive_any {x r : Nat} {pv : Value} {t : Tk} {av kv wv rv : Value} {s : Vs} {w : World} {p : List Fnc} (c : Int) (z : Rs) (h : Vm x r pv t av kv wv rv s w) (hpr : ProgAt w pv p) (hl : 0 < p.length) (hk16 : s.kids.length ≤ 16) :
    Calls Try.prog 13 #[.pointer (some ⟨x, 0, none⟩), .int .i64 c, .agg #[.int .i64 z.v, .int .i64 z.e]] w (GiveVP x r pv t av kv wv rv (giveV s c z) w) := by
  have hA := alV w (.cells (resC z) ResT)
  have hb : BoxAt (w.alloc (.cells (resC z) ResT)) w.heap.size (resC z) ResT := heap_alloc_new _ _
  have H := Lib.hid (show (Vm x r pv t av kv wv rv s (w.alloc (.cells (resC z) ResT)) ∧ BoxAt (w.alloc (.cells (resC z) ResT)) w.heap.size (resC z) ResT) ∧ Below w.heap.size w (w.alloc (.cells (resC z) ResT)) from ⟨⟨h.below hA, hb⟩, hA⟩)
  have HN := Lib.hid (none_any (h.below hA) (hpr.below hA) hl)
  obtain ⟨ka, kc, hkv⟩ := own_slice h.kids
  subst hkv
  clear h hpr hb hA hl
  go_enter Try.func13, Try.ntmps13
  go_upto_region 1 with fail
  simp only [resC] at H HN
  generalize w.alloc (.cells #[.int .i64 z.v, .int .i64 z.e] ResT) = w1 at *
  obtain ⟨b, hb⟩ : ∃ b, w.heap.size = b := ⟨_, rfl⟩
  rw [hb] at H ⊢
  have HBB := Lib.hid hb
  clear hb
  go_wp2_with fail
  refine HN.out.mono ?_
  rintro e w2 ⟨rfl, rfl⟩
  have x8 := (vm_cells H.out.1.1).2.2.2.2.2.2.1
  have x11 := (vm_cells H.out.1.1).2.2.2.2.2.2.2.2.2
  by_cases h1 : c < 1 ∨ (s.kids.length : Int) < c
  · have HG := Lib.hid (show giveV s c z = (5, s) by unfold giveV; rw [if_pos h1])
    by_cases h2 : c < 1
    · have q1 : decide (c < 1) = true := by simpa using h2
      clear h1 h2
      go_wp2_with fail
      go_ret
      refine ⟨by rw [HG.out]; rfl, by rw [HG.out]; exact H.out.1.1, .of_below (by rw [HBB.out]; exact H.out.2)⟩
    · have q1 : decide (c < 1) = false := by simp; omega
      have q2 : (s.kids.length : Int) < c := by omega
      clear h1 h2
      go_wp2_with fail
      go_ret
      refine ⟨by rw [HG.out]; rfl, by rw [HG.out]; exact H.out.1.1, .of_below (by rw [HBB.out]; exact H.out.2)⟩
  · obtain ⟨k, hk⟩ : ∃ k : Nat, (k : Int) = c - 1 := ⟨(c - 1).toNat, by omega⟩
    have hkl : k < s.kids.length := by omega
    obtain ⟨g, cap, cur, hv, _, _, _, _, _, _, _⟩ := own_blockK H.out.1.1.kids (by omega)
    injection hv with hv1 _ hv3
    subst hv1
    have hkg : s.kids.getD (c - 1).toNat default = s.kids[k] := by
      rw [List.getD_eq_getElem?_getD, show (c - 1).toNat = k by omega, List.getElem?_eq_getElem hkl]; rfl
    have HG : ∀ R, (if s.kids[k].given then (7, s) else if s.result.isSome then (3, s) else (0, { s with kids := s.kids.set k ⟨s.kids[k].into, true, z⟩ })) = R → giveV s c z = R := by
      intro R hR
      unfold giveV
      rw [if_neg h1, hkg, show (c - 1).toNat = k by omega]
      exact hR
    have HGG := Lib.hid HG
    have q1 : decide (c < 1) = false := by simp; omega
    have q2 : ¬ (s.kids.length : Int) < c := by omega
    have q3 : IntKind.i64.wrap (c - 1) = (k : Int) := by rw [← hk]; exact IntWalk.i64_in _ (by omega)
    have q4 : (k : Int) < s.kids.length := by omega
    have q5 : (0 : Int) ≤ k := by omega
    obtain ⟨b3, off3, c3, he3, _, hc3⟩ := (own_readsK (enc := encCh) (k := 4) encCh_len (by decide) H.out.1.1.kids).at (by omega)
    injection he3 with he3 _ _
    injection he3 with he3
    injection he3 with e31 e32 _
    subst e31; subst e32
    obtain ⟨d0, d1, d2, d3⟩ := ch_at hc3 hkl
    simp only [Nat.zero_add] at d0 d1 d2 d3
    have hgf : ∀ j, w2.frozen? ⟨g, j, none⟩ = false := fun j => by
      obtain ⟨E, cu, fz, hE, hbk⟩ := typed_own H.out.1.1.kids g rfl ((H.out.1.1.kids.lt g rfl).2)
      obtain ⟨g', cap', cur', hv', _, _, hb', _⟩ := own_blockK H.out.1.1.kids (by omega)
      injection hv' with hv' _ _
      injection hv' with hv'
      injection hv' with hv' _ _
      subst hv'
      simp [World.frozen?, hb']
    have f1 := hgf (k * 4 + 1)
    have f2 := hgf (k * 4 + 2)
    have f3 := hgf (k * 4 + 3)
    have r0 := H.out.1.2.cell 0; have r1 := H.out.1.2.cell 1
    simp only [List.getElem?_toArray, List.getElem?_cons_zero, List.getElem?_cons_succ] at r0 r1
    have HV := Lib.hid (H.out.1.1.give (z := z) hkl)
    clear hc3 hgf h1 hkg HG hv3
    obtain ⟨G, hG⟩ : ∃ G, s.kids[k].given = G := ⟨_, rfl⟩
    rw [hG] at d1 HGG
    clear hG
    cases G
    · cases hrs : s.result with
      | some zz =>
        have hrt := H.out.1.1.rs
        rw [hrs] at hrt
        obtain ⟨zb, rfl, hzb⟩ := hrt
        have HE := Lib.hid (HGG.out _ rfl)
        rw [hrs] at HE
        clear hrs hzb hk d0 d2 d3 f1 f2 f3 r0 r1
        go_wp2_with fail
        go_ret
        refine ⟨by rw [HE.out]; rfl, by rw [HE.out]; exact H.out.1.1, .of_below (by rw [HBB.out]; exact H.out.2)⟩
      | none =>
        have hrt := H.out.1.1.rs
        rw [hrs] at hrt
        simp only [RsAt] at hrt
        subst hrt
        have HE := Lib.hid (show giveV s c z = (0, { s with kids := s.kids.set k ⟨s.kids[k].into, true, z⟩ }) from HGG.out _ (by rw [if_neg (by simp), if_neg (by rw [hrs]; simp)]))
        have hbs := box_typed H.out.1.2 ((Fr.refl (fun i => i = g) w2).setCell (p := ⟨g, k * 4 + 1, none⟩) rfl (.bool true)) (fun i hi hl => typed_own H.out.1.1.kids i (by rw [hi]; rfl) hl) (by decide)
        have s0 := hbs.cell 0; have s1 := hbs.cell 1
        simp only [List.getElem?_toArray, List.getElem?_cons_zero, List.getElem?_cons_succ] at s0 s1
        clear hrs hk hbs
        go_upto_region 9 with fail
        go_region
        go_wp2_with fail
        go_ret
        refine ⟨by rw [HE.out]; rfl, ?_, ?_⟩
        · rw [HE.out]
          exact HV.out.1.below (Below.refl _ _).drew
        · refine ((Fr.of_below (by rw [HBB.out]; exact H.out.2)).trans (HV.out.2.mono fun i hi => ?_)).drew
          subst hi; rfl
    · have HE := Lib.hid (HGG.out _ rfl)
      clear hk d0 d2 d3 f1 f2 f3 r0 r1
      go_wp2_with fail
      go_ret
      refine ⟨by rw [HE.out]; rfl, by rw [HE.out]; exact H.out.1.1, .of_below (by rw [HBB.out]; exact H.out.2)⟩
set_option maxHeartbeats 1600000 in
set_option maxRecDepth 100000 in
theorem vwaits_any {x r : Nat} {pv : Value} {t : Tk} {av kv wv rv : Value} {s : Vs} {w : World} {p : List Fnc} (h : Vm x r pv t av kv wv rv s w) (hpr : ProgAt w pv p) (hl : 0 < p.length) (hk16 : s.kids.length ≤ 16) :
    Calls Try.prog 18 #[.pointer (some ⟨x, 0, none⟩)] w fun e w' => ∃ v, e = .returned v ∧ w'.ownsRow w.heap.size IntT 1 v (waitsV s).length ((waitsV s).flatMap encN1) ∧ Below w.heap.size w w' := by
  have HN := Lib.hid (none_any h hpr hl)
  have H := Lib.hid h
  obtain ⟨ka, kc, hkv⟩ := own_slice h.kids
  subst hkv
  have x8 := (vm_cells h).2.2.2.2.2.2.1
  clear h hpr hl
  go_enter Try.func18, Try.ntmps18
  go_wp2_with fail
  refine HN.out.mono ?_
  rintro e w2 ⟨rfl, rfl⟩
  go_wp2_with fail
  go_loopg [2, 3, 4, 12] s.kids.length (fun gk t2 t3 t4 i wr => ∃ (k : Nat) (v : Value), gk + k = s.kids.length ∧ i = .int .i64 k ∧ v = t2 ∧ Hid (wr.ownsRow w2.heap.size IntT 1 v (waitsL k s.kids).length ((waitsL k s.kids).flatMap encN1) ∧ Below w2.heap.size w2 wr))
  case atStart => exact ⟨0, .slice none 0 0, by omega, rfl, rfl, World.ownsRow_nil _ _ _ _, Below.refl _ _⟩
  case round =>
    obtain ⟨k, v, hk, rfl, rfl, HR⟩ := hrel
    by_cases hlt : k < s.kids.length
    · have q4 : (k : Int) < s.kids.length := by omega
      have q5 : (0 : Int) ≤ k := by omega
      have q6 : IntKind.i64.wrap ((k : Int) + 1) = (k : Int) + 1 := IntWalk.i64_in _ (by omega)
      have HK := Lib.hid (own_below H.out.kids HR.out.2)
      obtain ⟨b3, off3, c3, he3, _, hc3⟩ := (own_readsK (enc := encCh) (k := 4) encCh_len (by decide) HK.out).at (by omega)
      injection he3 with he3 hnn hcc
      subst he3
      subst hcc
      clear hnn
      obtain ⟨d0, d1, d2, d3⟩ := ch_at hc3 hlt
      have hkg : s.kids.getD k default = s.kids[k] := by
        rw [List.getD_eq_getElem?_getD, List.getElem?_eq_getElem hlt]; rfl
      have HWL := Lib.hid (show waitsL (k + 1) s.kids = waitsL k s.kids ++ (if s.kids[k].given then [] else [(k : Int) + 1]) by rw [← hkg]; rfl)
      have hwl := waitsL_len k s.kids
      obtain ⟨va, vc, hv⟩ := own_slice HR.out.1
      subst hv
      clear hc3 hkg
      generalize s.kids[k] = cc at *
      have hA := alV wr (.cells #[.int .i64 cc.into, .bool cc.given, .int .i64 cc.r.v, .int .i64 cc.r.e] ChT)
      have hcb : BoxAt (wr.alloc (.cells #[.int .i64 cc.into, .bool cc.given, .int .i64 cc.r.v, .int .i64 cc.r.e] ChT)) wr.heap.size #[.int .i64 cc.into, .bool cc.given, .int .i64 cc.r.v, .int .i64 cc.r.e] ChT := heap_alloc_new _ _
      have HA := Lib.hid (show (wr.alloc (.cells #[.int .i64 cc.into, .bool cc.given, .int .i64 cc.r.v, .int .i64 cc.r.e] ChT)).ownsRow w2.heap.size IntT 1 (.slice va (waitsL k s.kids).length vc) (waitsL k s.kids).length ((waitsL k s.kids).flatMap encN1) ∧ Below w2.heap.size w2 (wr.alloc (.cells #[.int .i64 cc.into, .bool cc.given, .int .i64 cc.r.v, .int .i64 cc.r.e] ChT)) from ⟨own_below HR.out.1 hA, gthen HR.out.2 hA⟩)
      have y1 := hcb.cell 1
      simp only [List.getElem?_toArray, List.getElem?_cons_zero, List.getElem?_cons_succ] at y1
      clear hA hcb HR HK
      go_upto_region 6 with fail
      clear d0 d1 d2 d3
      generalize wr.alloc (.cells #[.int .i64 cc.into, .bool cc.given, .int .i64 cc.r.v, .int .i64 cc.r.e] ChT) = w4 at *
      cases hg : cc.given
      · rw [hg] at y1 HWL
        have HL := Lib.hid (show waitsL (k + 1) s.kids = waitsL k s.kids ++ [(k : Int) + 1] from by rw [HWL.out]; rfl)
        clear hg HWL
        obtain ⟨n, hn⟩ : ∃ n, (waitsL k s.kids).length = n := ⟨_, rfl⟩
        rw [hn] at HA hwl ⊢
        have HNN := Lib.hid hn
        clear hn
        obtain ⟨ig, hig, hg0, hg1, hg2⟩ := info_parts info_int
        obtain ⟨v', w5, hap, hown, hgrow, _⟩ := run_append_own (P := Try.prog) (w := w4.alloc (.cells #[.int .i64 ((k : Int) + 1)] 3)) w2.heap.size 59 59 3 ig (.int .i64 0) 1 8 Try.underlying59 hig hg0 hg1 hg2 rfl (by decide) (.slice va n vc) n ((waitsL k s.kids).flatMap encN1) (own_below HA.out.1 (alV _ _)) ⟨w4.heap.size, 0, none⟩ 1 1 (encN1 ((k : Int) + 1)) rfl (one_int w4 _) (by intro v hv; simp [encN1] at hv; subst hv; rfl) (by unfold maxLen; omega) (by omega) (by have := HA.out.2.size; simp; omega)
        have hF5 := grow_fr' (alV w4 (.cells #[.int .i64 ((k : Int) + 1)] 3)) hgrow
        have HN := Lib.hid (show w5.ownsRow w2.heap.size IntT 1 v' (waitsL (k + 1) s.kids).length ((waitsL (k + 1) s.kids).flatMap encN1) ∧ Below w2.heap.size w2 w5 from by
          refine ⟨?_, HA.out.2.trans (hF5.below (fun i hi => (HA.out.1.lt i hi).1) HA.out.2.size)⟩
          rw [HL.out, List.length_append, HNN.out, List.flatMap_append]
          simpa using hown)
        clear hgrow hown hF5 ig hig hg0 hg1 hg2
        go_wp2_with (at_builtin; refine wpList_arunC rfl _ _ _ _ rfl rfl rfl hap ?_)
        go_roundg (gk - 1)
        case rel => exact ⟨k + 1, _, by omega, by go_num, rfl, HN⟩
        case measure => omega
      · rw [hg] at y1 HWL
        have HL := Lib.hid (show waitsL (k + 1) s.kids = waitsL k s.kids from by rw [HWL.out]; simp)
        clear hg HWL
        go_wp2_with fail
        go_roundg (gk - 1)
        case rel => exact ⟨k + 1, _, by omega, by go_num, rfl, by rw [HL.out]; exact HA.out⟩
        case measure => omega
    · have hkl : k = s.kids.length := by omega
      subst hkl
      have q4 : ¬ (s.kids.length : Int) < s.kids.length := by omega
      go_wp2_with fail
      go_ret
      exact ⟨_, rfl, HR.out.1, HR.out.2⟩
end Go.Proofs.Ytdhbjejejeljoaa
