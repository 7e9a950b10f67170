/- Contracts: vm.Frame.Task; slices.Clone of ops and of functions; vm.copied. -/
import Derived.Test.YtdhbjejejeljoaaVm10
namespace Go.Proofs.Ytdhbjejejeljoaa
open Go.RowKit Go.Sort Go.Lib

theorem vtask_set {w : World} {b : Nat} {a a' : ByteArray} {n u n' u' : Int} {v v' : Value} (h : BoxAt w b (taC a n v u) TaskT) : BoxAt ((((w.setCell ⟨b, 0, none⟩ (.string a')).setCell ⟨b, 1, none⟩ (.int .i64 n')).setCell ⟨b, 2, none⟩ v').setCell ⟨b, 3, none⟩ (.int .i64 u')) b (taC a' n' v' u') TaskT ∧
    Fr (fun i => i = b) w ((((w.setCell ⟨b, 0, none⟩ (.string a')).setCell ⟨b, 1, none⟩ (.int .i64 n')).setCell ⟨b, 2, none⟩ v').setCell ⟨b, 3, none⟩ (.int .i64 u')) := by
  have h1 := Go.heap_setCell_same w b 0 _ _ (.string a') h
  have h2 := Go.heap_setCell_same _ b 1 _ _ (.int .i64 n') h1
  have h3 := Go.heap_setCell_same _ b 2 _ _ v' h2
  exact ⟨Go.heap_setCell_same _ b 3 _ _ (.int .i64 u') h3, ((((Fr.refl (fun i => i = b) w).setCell (p := ⟨b, 0, none⟩) rfl _).setCell (p := ⟨b, 1, none⟩) rfl _).setCell (p := ⟨b, 2, none⟩) rfl _).setCell (p := ⟨b, 3, none⟩) rfl _⟩
set_option maxHeartbeats 1600000 in
set_option maxRecDepth 100000 in
theorem vtask_any {x r : Nat} {pv : Value} {t : Tk} {av kv wv rv : Value} {s : Vs} {w : World} {p : List Fnc} (h : Vm x r pv t av kv wv rv s w) (hpr : ProgAt w pv p) (hl : 0 < p.length) (hav : ReadsK encN1 1 w av t.args) (hal : t.args.length ≤ 1000) :
    Calls Try.prog 21 #[.pointer (some ⟨x, 0, none⟩)] w fun e w' => ∃ v, e = .returned (.agg #[.string t.p, .int .i64 t.fn, v, .int .i64 t.fuel]) ∧ w'.ownsRow w.heap.size I64T 1 v t.args.length (t.args.flatMap encN1) ∧ Below w.heap.size w w' := by
  have hA := alV w (.cells (taC ⟨#[]⟩ 0 (.slice none 0 0) 0) TaskT)
  have hb : BoxAt (w.alloc (.cells (taC ⟨#[]⟩ 0 (.slice none 0 0) 0) TaskT)) w.heap.size (taC ⟨#[]⟩ 0 (.slice none 0 0) 0) TaskT := heap_alloc_new _ _
  have HN := Lib.hid (none_any (h.below hA) (hpr.below hA) hl)
  have HR := Lib.hid (hav.below hA)
  have HV := Lib.hid (h.below hA)
  obtain ⟨b, hbb⟩ : ∃ b, w.heap.size = b := ⟨_, rfl⟩
  have HW := Lib.hid (And.intro hA hbb)
  rw [hbb] at hb
  have HB := Lib.hid hb
  obtain ⟨aa, ac, rfl⟩ := hav.slice
  clear h hpr hb hA hl hav
  go_enter Try.func21, Try.ntmps21
  go_upto_region 1 with fail
  simp only [taC] at HN HR HV HB HW
  generalize w.alloc (.cells #[.string ⟨#[]⟩, .int .i64 0, .slice none 0 0, .int .i64 0] TaskT) = w1 at *
  clear hbb
  go_wp2_with fail
  refine HN.out.mono ?_
  rintro e w2 ⟨rfl, rfl⟩
  have x1 := HV.out.box.cell 1; have x2 := HV.out.box.cell 2; have x3 := HV.out.box.cell 3; have x4 := HV.out.box.cell 4
  simp only [vmC, List.getElem?_toArray, List.getElem?_cons_zero, List.getElem?_cons_succ] at x1 x2 x3 x4
  go_upto_region 4 with fail
  have hA3 := alV w2 (.cells (taC t.p t.fn (.slice aa t.args.length ac) t.fuel) TaskT)
  have hb3 : BoxAt (w2.alloc (.cells (taC t.p t.fn (.slice aa t.args.length ac) t.fuel) TaskT)) w2.heap.size (taC t.p t.fn (.slice aa t.args.length ac) t.fuel) TaskT := heap_alloc_new _ _
  have H3 := Lib.hid (show (BoxAt (w2.alloc (.cells (taC t.p t.fn (.slice aa t.args.length ac) t.fuel) TaskT)) b (taC ⟨#[]⟩ 0 (.slice none 0 0) 0) TaskT ∧ BoxAt (w2.alloc (.cells (taC t.p t.fn (.slice aa t.args.length ac) t.fuel) TaskT)) w2.heap.size (taC t.p t.fn (.slice aa t.args.length ac) t.fuel) TaskT) ∧ Below w.heap.size w (w2.alloc (.cells (taC t.p t.fn (.slice aa t.args.length ac) t.fuel) TaskT)) from
    ⟨⟨BoxAt.below HB.out hA3, hb3⟩, gthen HW.out.1 hA3⟩)
  have HR3 := Lib.hid (HR.out.below hA3)
  have HLT := Lib.hid (show b < w2.heap.size from (Array.getElem?_eq_some_iff.1 HB.out).1)
  clear hA3 hb3 x1 x2 x3 x4 HR HB HV
  simp only [taC] at H3 HR3
  generalize w2.alloc (.cells #[.string t.p, .int .i64 t.fn, .slice aa t.args.length ac, .int .i64 t.fuel] TaskT) = w3 at *
  generalize w2.heap.size = tb at *
  have z2 := H3.out.1.2.cell 2
  simp only [List.getElem?_toArray, List.getElem?_cons_zero, List.getElem?_cons_succ] at z2
  go_wp2_with fail
  refine (clone_any _ t.args _ HR3.out (by omega)).mono ?_
  rintro e w4 ⟨va, vc, rfl, ho, hB⟩
  have H4 := Lib.hid (show (BoxAt w4 b (taC ⟨#[]⟩ 0 (.slice none 0 0) 0) TaskT ∧ BoxAt w4 tb (taC t.p t.fn (.slice aa t.args.length ac) t.fuel) TaskT) ∧ Below w.heap.size w w4 from ⟨⟨BoxAt.below H3.out.1.1 hB, BoxAt.below H3.out.1.2 hB⟩, gthen H3.out.2 hB⟩)
  have HO := Lib.hid (show w4.ownsRow w.heap.size I64T 1 (.slice va t.args.length vc) t.args.length (t.args.flatMap encN1) from owns_monoG ho H3.out.2.size)
  clear ho hB H3 z2 HR3
  have z2 := H4.out.1.2.cell 2; have fz2 := H4.out.1.2.frozen 2
  simp only [taC, List.getElem?_toArray, List.getElem?_cons_zero, List.getElem?_cons_succ] at z2
  go_upto_region 5 with fail
  have hb5 : BoxAt (w4.setCell ⟨tb, 2, none⟩ (.slice va t.args.length vc)) tb (taC t.p t.fn (.slice va t.args.length vc) t.fuel) TaskT := Go.heap_setCell_same w4 tb 2 _ _ _ H4.out.1.2
  have hF5 : Fr (fun i => i = tb) w4 (w4.setCell ⟨tb, 2, none⟩ (.slice va t.args.length vc)) := (Fr.refl (fun i => i = tb) w4).setCell (p := ⟨tb, 2, none⟩) rfl _
  have hwb : w.heap.size ≤ tb := by have h1 := HLT.out; have h2 := HW.out.2; omega
  have H5 := Lib.hid (show (BoxAt (w4.setCell ⟨tb, 2, none⟩ (.slice va t.args.length vc)) b (taC ⟨#[]⟩ 0 (.slice none 0 0) 0) TaskT ∧ BoxAt (w4.setCell ⟨tb, 2, none⟩ (.slice va t.args.length vc)) tb (taC t.p t.fn (.slice va t.args.length vc) t.fuel) TaskT) ∧ Below w.heap.size w (w4.setCell ⟨tb, 2, none⟩ (.slice va t.args.length vc)) ∧ (w4.setCell ⟨tb, 2, none⟩ (.slice va t.args.length vc)).ownsRow w.heap.size I64T 1 (.slice va t.args.length vc) t.args.length (t.args.flatMap encN1) from
    ⟨⟨H4.out.1.1.fr hF5 (by have := HLT.out; omega), hb5⟩, H4.out.2.trans (hF5.below (fun i hi => by omega) H4.out.2.size), own_typed HO.out hF5 (typed_box H4.out.1.2) (by decide)⟩)
  clear hb5 hF5 H4 HO z2 fz2 hwb
  generalize w4.setCell ⟨tb, 2, none⟩ (.slice va t.args.length vc) = w5 at *
  have z0 := H5.out.1.2.cell 0; have z1 := H5.out.1.2.cell 1; have z2 := H5.out.1.2.cell 2; have z3 := H5.out.1.2.cell 3
  have r0 := H5.out.1.1.cell 0; have r1 := H5.out.1.1.cell 1; have r2 := H5.out.1.1.cell 2; have r3 := H5.out.1.1.cell 3
  have f0 := H5.out.1.1.frozen 0; have f1 := H5.out.1.1.frozen 1; have f2 := H5.out.1.1.frozen 2; have f3 := H5.out.1.1.frozen 3
  simp only [taC, List.getElem?_toArray, List.getElem?_cons_zero, List.getElem?_cons_succ] at z0 z1 z2 z3 r0 r1 r2 r3
  go_wp2_with fail
  obtain ⟨hb6, hF6⟩ := vtask_set (a' := t.p) (n' := t.fn) (v' := .slice va t.args.length vc) (u' := t.fuel) H5.out.1.1
  refine vtask_end hb6 rfl ⟨_, rfl, own_typed H5.out.2.2 hF6 (typed_box H5.out.1.1) (by decide), ?_⟩
  exact H5.out.2.1.trans (hF6.below (fun i hi => by have := HW.out.2; omega) H5.out.2.1.size)
set_option maxHeartbeats 800000 in
set_option maxRecDepth 100000 in
theorem cloneO_any (v : Value) (l : List Opr) (w : World) (h : ReadsK encO 5 w v l) (hl : l.length ≤ 1000) :
    Calls Try.prog 38 #[v] w fun e w' => ∃ aa ac, e = .returned (.slice aa l.length ac) ∧ w'.ownsRow w.heap.size OpT 5 (.slice aa l.length ac) l.length (l.flatMap encO) ∧ Below w.heap.size w w' := by
  have q36 : ∀ (w : World) (a : Option Addr) (n c n' c' : Nat), (binOp .eql 76 (.slice a n c) (.slice none n' c')).run Try.prog w = .ok (.bool a.isNone) w := fun w a n c n' c' => Lib.run_eql_slice_nil w _ _ a n c n' c' Try.underlying76
  have hB1 := alV w (.cells #[] OpT)
  obtain ⟨v', w1, hap, hown, hgrow⟩ := run_appK (enc := encO) (k := 5) (bytes := 40) (B := w.heap.size) (w := w.alloc (.cells #[] OpT)) (v := .slice (some ⟨w.heap.size, 0, none⟩) 0 0) (u := v) (xs := []) (ys := l) Try.underlying76 info_op rfl (by decide) (fun _ => rfl) encO_one 76 (World.ownsRow_made w #[] 0 (Nat.le_refl _) (Nat.zero_le _) (by simp)) (h.below hB1) (by simp; omega) (by decide) (by simp)
  have hB : Below w.heap.size w w1 := hB1.grown hgrow (by simp) (by intro k hk; simp [Value.ownBlock] at hk; omega)
  simp only [List.nil_append] at hown
  obtain ⟨a1, c1, rfl⟩ := own_slice hown
  have HO := Lib.hid (And.intro hown hB)
  have main : ∀ (ad : Addr) (cap : Nat), v = .slice (some ad) l.length cap →
      Calls Try.prog 38 #[v] w fun e w' => ∃ aa ac, e = .returned (.slice aa l.length ac) ∧ w'.ownsRow w.heap.size OpT 5 (.slice aa l.length ac) l.length (l.flatMap encO) ∧ Below w.heap.size w w' := by
    rintro ad cap rfl
    clear h hB hown hgrow
    go_enter Try.func38, Try.ntmps38
    go_wp2_with (at_builtin; refine wpList_arunC rfl _ _ _ _ rfl rfl rfl hap ?_)
    go_ret
    exact ⟨a1, c1, rfl, HO.out.1, HO.out.2⟩
  rcases h with ⟨rfl, a, cap, rfl⟩ | ⟨b, off, cap, rfl, hb, hc⟩
  · cases a with
    | none =>
      clear main hap hB hown hgrow
      go_enter Try.func38, Try.ntmps38
      go_wp2_with fail
      go_ret
      exact ⟨none, 0, rfl, World.ownsRow_nil _ _ _ _, Below.refl _ _⟩
    | some ad => exact main ad cap rfl
  · exact main _ _ rfl
set_option maxHeartbeats 800000 in
set_option maxRecDepth 100000 in
theorem cloneF_any (v : Value) (l : List Fnc) (w : World) (h : ReadsK encF 3 w v l) (hl : l.length ≤ 1000) :
    Calls Try.prog 37 #[v] w fun e w' => ∃ aa ac, e = .returned (.slice aa l.length ac) ∧ w'.ownsRow w.heap.size FnT 3 (.slice aa l.length ac) l.length (l.flatMap encF) ∧ Below w.heap.size w w' := by
  have q36 : ∀ (w : World) (a : Option Addr) (n c n' c' : Nat), (binOp .eql 22 (.slice a n c) (.slice none n' c')).run Try.prog w = .ok (.bool a.isNone) w := fun w a n c n' c' => Lib.run_eql_slice_nil w _ _ a n c n' c' Try.underlying22
  have hB1 := alV w (.cells #[] FnT)
  obtain ⟨v', w1, hap, hown, hgrow⟩ := run_appK (enc := encF) (k := 3) (bytes := 40) (B := w.heap.size) (w := w.alloc (.cells #[] FnT)) (v := .slice (some ⟨w.heap.size, 0, none⟩) 0 0) (u := v) (xs := []) (ys := l) Try.underlying22 info_fn rfl (by decide) (fun _ => rfl) encF_one 22 (World.ownsRow_made w #[] 0 (Nat.le_refl _) (Nat.zero_le _) (by simp)) (h.below hB1) (by simp; omega) (by decide) (by simp)
  have hB : Below w.heap.size w w1 := hB1.grown hgrow (by simp) (by intro k hk; simp [Value.ownBlock] at hk; omega)
  simp only [List.nil_append] at hown
  obtain ⟨a1, c1, rfl⟩ := own_slice hown
  have HO := Lib.hid (And.intro hown hB)
  have main : ∀ (ad : Addr) (cap : Nat), v = .slice (some ad) l.length cap →
      Calls Try.prog 37 #[v] w fun e w' => ∃ aa ac, e = .returned (.slice aa l.length ac) ∧ w'.ownsRow w.heap.size FnT 3 (.slice aa l.length ac) l.length (l.flatMap encF) ∧ Below w.heap.size w w' := by
    rintro ad cap rfl
    clear h hB hown hgrow
    go_enter Try.func37, Try.ntmps37
    go_wp2_with (at_builtin; refine wpList_arunC rfl _ _ _ _ rfl rfl rfl hap ?_)
    go_ret
    exact ⟨a1, c1, rfl, HO.out.1, HO.out.2⟩
  rcases h with ⟨rfl, a, cap, rfl⟩ | ⟨b, off, cap, rfl, hb, hc⟩
  · cases a with
    | none =>
      clear main hap hB hown hgrow
      go_enter Try.func37, Try.ntmps37
      go_wp2_with fail
      go_ret
      exact ⟨none, 0, rfl, World.ownsRow_nil _ _ _ _, Below.refl _ _⟩
    | some ad => exact main ad cap rfl
  · exact main _ _ rfl
end Go.Proofs.Ytdhbjejejeljoaa
