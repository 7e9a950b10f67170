/- The world of a frame; contracts: none, end, fail. -/
import Derived.Test.YtdhbjejejeljoaaVm0
import Derived.Test.YtdhbjejejeljoaaEv14
namespace Go.Proofs.Ytdhbjejejeljoaa
open Go.RowKit Go.Sort Go.Lib

abbrev FrameT : TypeId := 87
abbrev ChT : TypeId := 96
abbrev StopT : TypeId := 43
def encCh (c : Ch) : List Value := [.int .i64 c.into, .bool c.given, .int .i64 c.r.v, .int .i64 c.r.e]
theorem encCh_len (c : Ch) : (encCh c).length = 4 := rfl
theorem alV (w : World) (o : Obj) : Below w.heap.size w (w.alloc o) := (Below.refl _ _).alloc (Nat.le_refl _) _
abbrev vmC (pv : Value) (t : Tk) (av : Value) (r : Nat) (s : Vs) (kv wv rv : Value) : Array Value :=
  #[pv, .string t.p, .int .i64 t.fn, av, .int .i64 t.fuel, .slice (some ⟨r, 0, none⟩) s.regs.length s.regs.length, .int .i64 s.left, .int .i64 s.pc, kv, .int .i64 s.joined, wv, rv]
def WtAt (w : World) (v : Value) : Option Opr → Prop
  | none => v = .pointer none
  | some o => ∃ b, v = .pointer (some ⟨b, 0, none⟩) ∧ BoxAt w b (opC o) OpT
def RsAt (w : World) (v : Value) : Option Rs → Prop
  | none => v = .pointer none
  | some o => ∃ b, v = .pointer (some ⟨b, 0, none⟩) ∧ BoxAt w b (resC o) ResT
theorem WtAt.typed {w w' : World} {v : Value} {o : Option Opr} {S : Nat → Prop} {Es : List TypeId} (h : WtAt w v o) (hF : Fr S w w') (hT : Typed S w Es) (hE : OpT ∉ Es) : WtAt w' v o := by
  cases o with
  | none => exact h
  | some o => obtain ⟨b, h1, h2⟩ := h; exact ⟨b, h1, box_typed h2 hF hT hE⟩
theorem RsAt.typed {w w' : World} {v : Value} {o : Option Rs} {S : Nat → Prop} {Es : List TypeId} (h : RsAt w v o) (hF : Fr S w w') (hT : Typed S w Es) (hE : ResT ∉ Es) : RsAt w' v o := by
  cases o with
  | none => exact h
  | some o => obtain ⟨b, h1, h2⟩ := h; exact ⟨b, h1, box_typed h2 hF hT hE⟩
/-- A frame in block x, its registers in block r, its children in a slice of their own. -/
structure Vm (x r : Nat) (pv : Value) (t : Tk) (av kv wv rv : Value) (s : Vs) (w : World) : Prop where
  box : BoxAt w x (vmC pv t av r s kv wv rv) FrameT
  regs : BoxAt w r (s.regs.map (Value.int .i64)).toArray I64T
  kids : w.ownsRow 0 ChT 4 kv s.kids.length (s.kids.flatMap encCh)
  wt : WtAt w wv s.waits
  rs : RsAt w rv s.result
/-- The blocks that a call turns. -/
abbrev VmS (x r : Nat) (kv : Value) : Nat → Prop := fun i => (i = x ∨ i = r) ∨ kv.ownBlock = some i
section
variable {x r : Nat} {pv : Value} {t : Tk} {av kv wv rv : Value} {s : Vs} {w w' : World}
theorem Vm.typedS (h : Vm x r pv t av kv wv rv s w) : Typed (VmS x r kv) w [FrameT, I64T, ChT] := ((typed_box h.box).or (typed_box h.regs)).or (typed_own h.kids)
/-- Something else turns: blocks that are none of these, of other types or of another frame. -/
theorem Vm.far {S : Nat → Prop} {Es : List TypeId} (h : Vm x r pv t av kv wv rv s w) (hF : Fr S w w') (hT : Typed S w Es) (h1 : OpT ∉ Es) (h2 : ResT ∉ Es) (hx : ¬ S x) (hr : ¬ S r) (hk : ∀ i, kv.ownBlock = some i → ¬ S i) : Vm x r pv t av kv wv rv s w' :=
  ⟨h.box.fr hF hx, h.regs.fr hF hr, own_fr h.kids hF hk, h.wt.typed hF hT h1, h.rs.typed hF hT h2⟩
theorem Vm.below (h : Vm x r pv t av kv wv rv s w) (hB : Below w.heap.size w w') : Vm x r pv t av kv wv rv s w' :=
  h.far (S := fun _ => False) (Es := []) (.of_below hB) (fun _ h => absurd h id) (by simp) (by simp) id id (fun _ _ => id)
/-- The struct turns. -/
theorem Vm.boxX {s' : Vs} {wv' rv' : Value} (h : Vm x r pv t av kv wv rv s w) (hF : Fr (fun i => i = x) w w') (hb : BoxAt w' x (vmC pv t av r s' kv wv' rv') FrameT) (e1 : s'.regs = s.regs) (e2 : s'.kids = s.kids) (hw : WtAt w' wv' s'.waits) (hr : RsAt w' rv' s'.result) : Vm x r pv t av kv wv' rv' s' w' := by
  have hT := typed_box h.box
  exact ⟨hb, e1 ▸ box_typed h.regs hF hT (by decide), e2 ▸ own_typed h.kids hF hT (by decide), hw, hr⟩
theorem vm_cells (h : Vm x r pv t av kv wv rv s w) :
    w.cell? ⟨x, 0, none⟩ = some pv ∧ w.cell? ⟨x, 1, none⟩ = some (.string t.p) ∧ w.cell? ⟨x, 2, none⟩ = some (.int .i64 t.fn) ∧ w.cell? ⟨x, 5, none⟩ = some (.slice (some ⟨r, 0, none⟩) s.regs.length s.regs.length) ∧ w.cell? ⟨x, 6, none⟩ = some (.int .i64 s.left) ∧
    w.cell? ⟨x, 7, none⟩ = some (.int .i64 s.pc) ∧ w.cell? ⟨x, 8, none⟩ = some kv ∧ w.cell? ⟨x, 9, none⟩ = some (.int .i64 s.joined) ∧ w.cell? ⟨x, 10, none⟩ = some wv ∧ w.cell? ⟨x, 11, none⟩ = some rv :=
  ⟨h.box.cell 0, h.box.cell 1, h.box.cell 2, h.box.cell 5, h.box.cell 6, h.box.cell 7, h.box.cell 8, h.box.cell 9, h.box.cell 10, h.box.cell 11⟩
end
/-- A stop that was told: no pointer, or a box. -/
abbrev spC (y : Sp) (v : Value) : Array Value := #[.int .u8 y.k, .string y.kid.p, .int .i64 y.kid.fn, v, .int .i64 y.kid.fuel, .int .i64 y.r.v, .int .i64 y.r.e]
def SpAt (B : Nat) (w : World) (e : Value) : Option Sp → Prop
  | none => e = .pointer none
  | some y => ∃ b v, e = .pointer (some ⟨b, 0, none⟩) ∧ BoxAt w b (spC y v) StopT ∧ w.ownsRow B I64T 1 v y.kid.args.length (y.kid.args.flatMap encN1)
theorem SpAt.mono {B B' : Nat} {w : World} {e : Value} {y : Option Sp} (h : SpAt B w e y) (hb : B' ≤ B) : SpAt B' w e y := by
  cases y with
  | none => exact h
  | some y => obtain ⟨b, v, h1, h2, h3⟩ := h; exact ⟨b, v, h1, h2, owns_monoG h3 hb⟩
/-- What a call of a frame leaves. -/
def VmP (x r : Nat) (pv : Value) (t : Tk) (av kv : Value) (R : Option Sp × Vs) (w : World) (e : Ending) (w' : World) : Prop :=
  ∃ ev kv' wv' rv', e = .returned ev ∧ SpAt w.heap.size w' ev R.1 ∧ Vm x r pv t av kv' wv' rv' R.2 w' ∧ Fr (VmS x r kv) w w' ∧ (kv'.ownBlock = kv.ownBlock ∨ ∀ b, kv'.ownBlock = some b → w.heap.size ≤ b)
theorem none_nil (w : World) : Calls Try.prog 30 #[.pointer none] w fun e w' => e = .returned (.bool true) ∧ w' = w := by
  go_enter Try.func30, Try.ntmps30
  go_wp2_with fail
  go_ret
  exact ⟨rfl, rfl⟩
set_option maxHeartbeats 1600000 in
set_option maxRecDepth 100000 in
theorem none_any {x r : Nat} {pv : Value} {t : Tk} {av kv wv rv : Value} {s : Vs} {w : World} {p : List Fnc} (h : Vm x r pv t av kv wv rv s w) (hp : ProgAt w pv p) (hl : 0 < p.length) : Calls Try.prog 30 #[.pointer (some ⟨x, 0, none⟩)] w fun e w' => e = .returned (.bool false) ∧ w' = w := by
  obtain ⟨pa, pc, rfl⟩ := hp.fns.slice
  obtain ⟨x0, x1, x2, x5, x6, x7, x8, x9, x10, x11⟩ := vm_cells h
  have hne : ((p.length : Int) == 0) = false := by rw [beq_eq_false_iff_ne]; omega
  clear h hp
  go_enter Try.func30, Try.ntmps30
  go_wp2_with fail
  go_ret
  exact ⟨rfl, rfl⟩
set_option maxHeartbeats 1600000 in
set_option maxRecDepth 100000 in
theorem end_any {x r : Nat} {pv : Value} {t : Tk} {av kv wv rv : Value} {s : Vs} {w : World} (z : Rs) (h : Vm x r pv t av kv wv rv s w) : Calls Try.prog 46 #[.pointer (some ⟨x, 0, none⟩), .agg #[.int .i64 z.v, .int .i64 z.e]] w (VmP x r pv t av kv (endV s z) w) := by
  have hA := alV w (.cells (resC z) ResT)
  have H := Lib.hid (show Vm x r pv t av kv wv rv s (w.alloc (.cells (resC z) ResT)) ∧ BoxAt (w.alloc (.cells (resC z) ResT)) w.heap.size (resC z) ResT ∧ Below w.heap.size w (w.alloc (.cells (resC z) ResT)) from ⟨h.below hA, heap_alloc_new _ _, hA⟩)
  clear h hA
  go_enter Try.func46, Try.ntmps46
  go_upto_region 1 with fail
  simp only [resC] at H
  generalize w.alloc (.cells #[.int .i64 z.v, .int .i64 z.e] ResT) = w1 at *
  obtain ⟨x0, x1, x2, x5, x6, x7, x8, x9, x10, x11⟩ := vm_cells H.out.1
  have f11 := H.out.1.box.frozen 11
  obtain ⟨b, hb⟩ : ∃ b, w.heap.size = b := ⟨_, rfl⟩
  have HBB := Lib.hid hb
  rw [hb] at H ⊢
  clear hb
  go_upto_region 2 with fail
  have hF : Fr (fun i => i = x) w1 (w1.setCell ⟨x, 11, none⟩ (.pointer (some ⟨b, 0, none⟩))) := (Fr.refl (fun i => i = x) w1).setCell (p := ⟨x, 11, none⟩) rfl _
  have hbx : BoxAt (w1.setCell ⟨x, 11, none⟩ (.pointer (some ⟨b, 0, none⟩))) x (vmC pv t av r { s with result := some z } kv wv (.pointer (some ⟨b, 0, none⟩))) FrameT := Go.heap_setCell_same w1 x 11 _ _ _ H.out.1.box
  have hbr := box_typed H.out.2.1 hF (typed_box H.out.1.box) (by decide)
  have H2 := Lib.hid (show Vm x r pv t av kv wv (.pointer (some ⟨b, 0, none⟩)) { s with result := some z } (w1.setCell ⟨x, 11, none⟩ (.pointer (some ⟨b, 0, none⟩))) ∧ Fr (fun i => i = x) w1 (w1.setCell ⟨x, 11, none⟩ (.pointer (some ⟨b, 0, none⟩))) from
    ⟨H.out.1.boxX hF hbx rfl rfl (H.out.1.wt.typed hF (typed_box H.out.1.box) (by decide)) ⟨b, rfl, hbr⟩, hF⟩)
  clear x0 x1 x2 x5 x6 x7 x8 x9 x10 x11 f11 hF hbx
  generalize w1.setCell ⟨x, 11, none⟩ (.pointer (some ⟨b, 0, none⟩)) = w2 at *
  have c0 := hbr.cell 0; have c1 := hbr.cell 1
  simp only [List.getElem?_toArray, List.getElem?_cons_zero, List.getElem?_cons_succ] at c0 c1
  clear hbr
  go_wp2_with fail
  go_ret
  have hA2 := alV w2 (.cells (spC (spDone z) (.slice none 0 0)) StopT)
  exact ⟨_, kv, wv, _, rfl, ⟨_, .slice none 0 0, rfl, heap_alloc_new w2 _, World.ownsRow_nil _ _ _ _⟩, H2.out.1.below hA2, ((Fr.of_below (HBB.out ▸ H.out.2.2)).trans (H2.out.2.mono fun i hi => .inl (.inl hi))).then hA2, .inl rfl⟩
end Go.Proofs.Ytdhbjejejeljoaa
