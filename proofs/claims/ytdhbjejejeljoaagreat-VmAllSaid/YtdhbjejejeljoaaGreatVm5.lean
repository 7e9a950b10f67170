/- Contracts: the closures of vm.Frame.join; IndexFunc, ContainsFunc over children. (Printed by gen/genvm5.py.) -/
import Derived.Test.YtdhbjejejeljoaaGreatEv1
import Derived.Test.YtdhbjejejeljoaaGreatEv14
namespace Go.Proofs.YtdhbjejejeljoaaGreat
open Go.RowKit

/-- A child that was begun: where its value comes, whether it was given, what it came to. -/
structure Ch where
  into : Int
  given : Bool
  r : Rs
instance : Inhabited Ch := ⟨⟨0, false, ⟨0, 0⟩⟩⟩
/-- A frame. -/
structure Vs where
  regs : List Int
  left : Int
  pc : Int
  kids : List Ch
  joined : Nat
  waits : Option Opr
  result : Option Rs
/-- A stop. -/
structure Sp where
  k : Int
  kid : Tk
  r : Rs
def noTk : Tk := ⟨⟨#[]⟩, 0, [], 0⟩
def spDone (r : Rs) : Sp := ⟨4, noTk, r⟩
def endV (s : Vs) (r : Rs) : Option Sp × Vs := (some (spDone r), { s with result := some r })
def openV (s : Vs) : List Ch := s.kids.drop s.joined
/-- A join of an op. -/
def joinV (s : Vs) (o : Opr) : Option Sp × Vs :=
  if (openV s).any (fun c => !c.given) then (some ⟨3, noTk, ⟨0, 0⟩⟩, { s with waits := some o })
  else
    let s1 : Vs := { s with waits := none, joined := s.kids.length }
    if firstE ((openV s).map (·.r.e)) ≠ 0 then endV s1 ⟨0, firstE ((openV s).map (·.r.e))⟩
    else
      let s2 : Vs := { s1 with regs := setAll s.regs ((openV s).map (·.into)) ((openV s).map (·.r)) }
      if o.k = 14 then endV s2 ⟨rg s2.regs o.a, 0⟩ else (none, s2)
/-- The child that a fork begins. -/
def kidV (p : List Fnc) (t : Tk) (s : Vs) (o : Opr) : Tk :=
  ⟨kidS t.p ((s.kids.length : Int) + 1), o.n, (s.regs.drop o.a.toNat).take (fnAt p o.n).args.toNat, s.left / 2⟩
def forkV (p : List Fnc) (t : Tk) (s : Vs) (o : Opr) : Option Sp × Vs :=
  if 16 ≤ s.kids.length then endV s ⟨0, 132⟩
  else if kidB t.p ((s.kids.length : Int) + 1) = false then endV s ⟨0, 133⟩
  else (some ⟨2, kidV p t s o, ⟨0, 0⟩⟩, { s with left := s.left - s.left / 2, kids := s.kids ++ [⟨o.d, false, ⟨0, 0⟩⟩] })
def atV (p : List Fnc) (t : Tk) (s : Vs) : Opr := (fnAt p t.fn).ops.getD s.pc.toNat default
/-- An op. -/
def opV2 (p : List Fnc) (t : Tk) (s : Vs) (o : Opr) : Option Sp × Vs :=
  if o.k = 1 then (none, { s with regs := s.regs.set o.d.toNat o.n })
  else if o.k = 10 then (none, { s with pc := o.n })
  else if o.k = 11 then (none, if rg s.regs o.a = 0 then s else { s with pc := o.n })
  else if o.k = 12 then forkV p t s o
  else if o.k = 13 ∨ o.k = 14 then joinV s o
  else match calcP o.k (rg s.regs o.a) (rg s.regs o.b) with
    | none => endV s ⟨0, 131⟩
    | some x => (none, { s with regs := s.regs.set o.d.toNat x })
def stepV (p : List Fnc) (t : Tk) (s : Vs) : Option Sp × Vs :=
  if s.left = 0 then endV s ⟨0, 130⟩
  else opV2 p t { s with left := s.left - 1, pc := s.pc + 1 } (atV p t s)
/-- So many ops, or up to a stop. -/
def stepsV (p : List Fnc) (t : Tk) : Nat → Vs → Sp × Vs
  | 0, s => (⟨1, noTk, ⟨0, 0⟩⟩, s)
  | n + 1, s => match stepV p t s with
    | (some x, s') => (x, s')
    | (none, s') => stepsV p t n s'
def runV (p : List Fnc) (t : Tk) (n : Nat) (s : Vs) : Sp × Vs :=
  match s.result with
  | some r => (spDone r, s)
  | none => match s.waits with
    | none => stepsV p t n s
    | some o => match joinV s o with
      | (some x, s') => (x, s')
      | (none, s') => stepsV p t n s'
def giveV (s : Vs) (k : Int) (r : Rs) : Int × Vs :=
  if k < 1 ∨ (s.kids.length : Int) < k then (5, s)
  else if (s.kids.getD (k - 1).toNat default).given then (7, s)
  else if s.result.isSome then (3, s)
  else (0, { s with kids := s.kids.set (k - 1).toNat ⟨(s.kids.getD (k - 1).toNat default).into, true, r⟩ })
def newV (p : List Fnc) (t : Tk) : Vs :=
  { regs := t.args ++ List.replicate ((fnAt p t.fn).regs.toNat - t.args.length) 0, left := t.fuel, pc := 0, kids := [], joined := 0, waits := none, result := none }
/-- What holds of each state. -/
structure InvV (p : List Fnc) (t : Tk) (s : Vs) : Prop where
  rl : (s.regs.length : Int) = (fnAt p t.fn).regs
  pc0 : 0 ≤ s.pc
  pc1 : s.pc ≤ 64
  l0 : 0 ≤ s.left
  l1 : s.left ≤ 65536
  k1 : s.kids.length ≤ 16
  jl : s.joined ≤ s.kids.length
  ir : ∀ c ∈ s.kids, 0 ≤ c.into ∧ c.into < (fnAt p t.fn).regs
  wt : ∀ o, s.waits = some o → OpOk p (fnAt p t.fn) o ∧ (o.k = 13 ∨ o.k = 14)
/-- Where it stands is in the function, unless it is over. -/
def AtV (p : List Fnc) (t : Tk) (s : Vs) : Prop := s.result = none → s.pc < (fnAt p t.fn).ops.length ∨ ∃ o, s.waits = some o ∧ o.k = 14
theorem joinV_inv {p : List Fnc} {t : Tk} {s : Vs} {o : Opr} (hi : InvV p t s) (ho : OpOk p (fnAt p t.fn) o) (hk : o.k = 13 ∨ o.k = 14) :
    InvV p t (joinV s o).2 ∧ (joinV s o).2.pc = s.pc ∧ (joinV s o).2.left = s.left ∧ ((joinV s o).1 = none → o.k = 13 ∧ (joinV s o).2.waits = none ∧ (joinV s o).2.result = s.result) ∧ ((joinV s o).1 ≠ none → (joinV s o).2.waits = some o ∨ (joinV s o).2.result ≠ none) := by
  unfold joinV
  by_cases h1 : (openV s).any (fun c => !c.given) = true
  · rw [if_pos h1]
    refine ⟨⟨hi.rl, hi.pc0, hi.pc1, hi.l0, hi.l1, hi.k1, hi.jl, hi.ir, fun o' h => ?_⟩, rfl, rfl, fun h => (by cases h), fun _ => .inl rfl⟩
    simp only [Option.some.injEq] at h
    subst h; exact ⟨ho, hk⟩
  rw [if_neg h1]
  simp only []
  by_cases h2 : firstE ((openV s).map (·.r.e)) ≠ 0
  · rw [if_pos h2]
    unfold endV
    exact ⟨⟨hi.rl, hi.pc0, hi.pc1, hi.l0, hi.l1, hi.k1, Nat.le_refl _, hi.ir, fun o' h => (by cases h)⟩, rfl, rfl, fun h => (by cases h), fun _ => .inr (by simp)⟩
  rw [if_neg h2]
  have hi2 : InvV p t { s with waits := none, joined := s.kids.length, regs := setAll s.regs ((openV s).map (·.into)) ((openV s).map (·.r)) } := ⟨by simp only [setAll_length]; exact hi.rl, hi.pc0, hi.pc1, hi.l0, hi.l1, hi.k1, Nat.le_refl _, hi.ir, fun o' h => (by cases h)⟩
  by_cases h3 : o.k = 14
  · rw [if_pos h3]
    unfold endV
    exact ⟨⟨hi2.rl, hi2.pc0, hi2.pc1, hi2.l0, hi2.l1, hi2.k1, hi2.jl, hi2.ir, hi2.wt⟩, rfl, rfl, fun h => (by cases h), fun _ => .inr (by simp)⟩
  · rw [if_neg h3]
    exact ⟨hi2, rfl, rfl, fun _ => ⟨by omega, rfl, rfl⟩, fun h => absurd rfl h⟩
/-- A child more. -/
theorem forkV_inv {p : List Fnc} {t : Tk} {s : Vs} {o : Opr} (hi : InvV p t s) (ho : OpOk p (fnAt p t.fn) o) (hk : o.k = 12) : InvV p t (forkV p t s o).2 ∧ (forkV p t s o).2.pc = s.pc := by
  unfold forkV
  have hl0 := hi.l0
  have hl1 := hi.l1
  by_cases h1 : 16 ≤ s.kids.length
  · rw [if_pos h1]
    unfold endV
    exact ⟨⟨hi.rl, hi.pc0, hi.pc1, hi.l0, hi.l1, hi.k1, hi.jl, hi.ir, hi.wt⟩, rfl⟩
  rw [if_neg h1]
  by_cases h2 : kidB t.p ((s.kids.length : Int) + 1) = false
  · rw [if_pos h2]
    unfold endV
    exact ⟨⟨hi.rl, hi.pc0, hi.pc1, hi.l0, hi.l1, hi.k1, hi.jl, hi.ir, hi.wt⟩, rfl⟩
  rw [if_neg h2]
  refine ⟨⟨hi.rl, hi.pc0, hi.pc1, by simp only []; omega, by simp only []; omega, by simp; omega, by have := hi.jl; simp; omega, fun c hc => ?_, hi.wt⟩, rfl⟩
  simp only [List.mem_append, List.mem_singleton] at hc
  rcases hc with hc | hc
  · exact hi.ir c hc
  · subst hc; exact ⟨ho.d0, ho.d (.inr hk)⟩
theorem newV_inv {p : List Fnc} {t : Tk} (hp : WfP p) (ht : TkOk p t) : InvV p t (newV p t) := by
  have hf := hp.fn ht.f0 ht.f1
  have h1 := ht.args
  have h2 := hf.r1
  have h3 := hf.r0
  unfold newV
  exact ⟨by simp; omega, by simp, by simp, ht.u0, ht.u1, by simp, by simp, fun c hc => (by cases hc), fun o h => (by cases h)⟩
end Go.Proofs.YtdhbjejejeljoaaGreat
namespace Go.Proofs.YtdhbjejejeljoaaGreat
open Go.RowKit Go.Sort Go.Lib

abbrev FrameT : TypeId := 85
abbrev ChT : TypeId := 98
abbrev StopT : TypeId := 56
def encCh (c : Ch) : List Value := [.int .i64 c.into, .bool c.given, .int .i64 c.r.v, .int .i64 c.r.e]
theorem encCh_len (c : Ch) : (encCh c).length = 4 := rfl
theorem alV (w : World) (o : Obj) : Below w.heap.size w (w.alloc o) := (Below.refl _ _).alloc (Nat.le_refl _) _
abbrev vmC (pv : Value) (t : Tk) (av : Value) (r : Nat) (s : Vs) (kv wv rv : Value) : Array Value :=
  #[pv, .string t.p, .int .i64 t.fn, av, .int .i64 t.fuel, .slice (some ⟨r, 0, none⟩) s.regs.length s.regs.length, .int .i64 s.left, .int .i64 s.pc, kv, .int .i64 s.joined, wv, rv]
def WtAt (w : World) (v : Value) : Option Opr → Prop
  | none => v = .pointer none
  | some o => ∃ b, v = .pointer (some ⟨b, 0, none⟩) ∧ BoxAt w b (opC o) OpT
def RsAt (w : World) (v : Value) : Option Rs → Prop
  | none => v = .pointer none
  | some o => ∃ b, v = .pointer (some ⟨b, 0, none⟩) ∧ BoxAt w b (resC o) ResT
theorem WtAt.typed {w w' : World} {v : Value} {o : Option Opr} {S : Nat → Prop} {Es : List TypeId} (h : WtAt w v o) (hF : Fr S w w') (hT : Typed S w Es) (hE : OpT ∉ Es) : WtAt w' v o := by
  cases o with
  | none => exact h
  | some o => obtain ⟨b, h1, h2⟩ := h; exact ⟨b, h1, box_typed h2 hF hT hE⟩
theorem RsAt.typed {w w' : World} {v : Value} {o : Option Rs} {S : Nat → Prop} {Es : List TypeId} (h : RsAt w v o) (hF : Fr S w w') (hT : Typed S w Es) (hE : ResT ∉ Es) : RsAt w' v o := by
  cases o with
  | none => exact h
  | some o => obtain ⟨b, h1, h2⟩ := h; exact ⟨b, h1, box_typed h2 hF hT hE⟩
/-- A frame in block x, its registers in block r, its children in a slice of their own. -/
structure Vm (x r : Nat) (pv : Value) (t : Tk) (av kv wv rv : Value) (s : Vs) (w : World) : Prop where
  box : BoxAt w x (vmC pv t av r s kv wv rv) FrameT
  regs : BoxAt w r (s.regs.map (Value.int .i64)).toArray I64T
  kids : w.ownsRow 0 ChT 4 kv s.kids.length (s.kids.flatMap encCh)
  wt : WtAt w wv s.waits
  rs : RsAt w rv s.result
/-- The blocks that a call turns. -/
abbrev VmS (x r : Nat) (kv : Value) : Nat → Prop := fun i => (i = x ∨ i = r) ∨ kv.ownBlock = some i
section
variable {x r : Nat} {pv : Value} {t : Tk} {av kv wv rv : Value} {s : Vs} {w w' : World}
theorem Vm.typedS (h : Vm x r pv t av kv wv rv s w) : Typed (VmS x r kv) w [FrameT, I64T, ChT] := ((typed_box h.box).or (typed_box h.regs)).or (typed_own h.kids)
/-- Something else turns: blocks that are none of these, of other types or of another frame. -/
theorem Vm.far {S : Nat → Prop} {Es : List TypeId} (h : Vm x r pv t av kv wv rv s w) (hF : Fr S w w') (hT : Typed S w Es) (h1 : OpT ∉ Es) (h2 : ResT ∉ Es) (hx : ¬ S x) (hr : ¬ S r) (hk : ∀ i, kv.ownBlock = some i → ¬ S i) : Vm x r pv t av kv wv rv s w' :=
  ⟨h.box.fr hF hx, h.regs.fr hF hr, own_fr h.kids hF hk, h.wt.typed hF hT h1, h.rs.typed hF hT h2⟩
theorem Vm.below (h : Vm x r pv t av kv wv rv s w) (hB : Below w.heap.size w w') : Vm x r pv t av kv wv rv s w' :=
  h.far (S := fun _ => False) (Es := []) (.of_below hB) (fun _ h => absurd h id) (by simp) (by simp) id id (fun _ _ => id)
/-- The struct turns. -/
theorem Vm.boxX {s' : Vs} {wv' rv' : Value} (h : Vm x r pv t av kv wv rv s w) (hF : Fr (fun i => i = x) w w') (hb : BoxAt w' x (vmC pv t av r s' kv wv' rv') FrameT) (e1 : s'.regs = s.regs) (e2 : s'.kids = s.kids) (hw : WtAt w' wv' s'.waits) (hr : RsAt w' rv' s'.result) : Vm x r pv t av kv wv' rv' s' w' := by
  have hT := typed_box h.box
  exact ⟨hb, e1 ▸ box_typed h.regs hF hT (by decide), e2 ▸ own_typed h.kids hF hT (by decide), hw, hr⟩
theorem vm_cells (h : Vm x r pv t av kv wv rv s w) :
    w.cell? ⟨x, 0, none⟩ = some pv ∧ w.cell? ⟨x, 1, none⟩ = some (.string t.p) ∧ w.cell? ⟨x, 2, none⟩ = some (.int .i64 t.fn) ∧ w.cell? ⟨x, 5, none⟩ = some (.slice (some ⟨r, 0, none⟩) s.regs.length s.regs.length) ∧ w.cell? ⟨x, 6, none⟩ = some (.int .i64 s.left) ∧
    w.cell? ⟨x, 7, none⟩ = some (.int .i64 s.pc) ∧ w.cell? ⟨x, 8, none⟩ = some kv ∧ w.cell? ⟨x, 9, none⟩ = some (.int .i64 s.joined) ∧ w.cell? ⟨x, 10, none⟩ = some wv ∧ w.cell? ⟨x, 11, none⟩ = some rv :=
  ⟨h.box.cell 0, h.box.cell 1, h.box.cell 2, h.box.cell 5, h.box.cell 6, h.box.cell 7, h.box.cell 8, h.box.cell 9, h.box.cell 10, h.box.cell 11⟩
end
/-- A stop that was told: no pointer, or a box. -/
abbrev spC (y : Sp) (v : Value) : Array Value := #[.int .u8 y.k, .string y.kid.p, .int .i64 y.kid.fn, v, .int .i64 y.kid.fuel, .int .i64 y.r.v, .int .i64 y.r.e]
def SpAt (B : Nat) (w : World) (e : Value) : Option Sp → Prop
  | none => e = .pointer none
  | some y => ∃ b v, e = .pointer (some ⟨b, 0, none⟩) ∧ BoxAt w b (spC y v) StopT ∧ w.ownsRow B I64T 1 v y.kid.args.length (y.kid.args.flatMap encN1)
theorem SpAt.mono {B B' : Nat} {w : World} {e : Value} {y : Option Sp} (h : SpAt B w e y) (hb : B' ≤ B) : SpAt B' w e y := by
  cases y with
  | none => exact h
  | some y => obtain ⟨b, v, h1, h2, h3⟩ := h; exact ⟨b, v, h1, h2, owns_monoG h3 hb⟩
/-- What a call of a frame leaves. -/
def VmP (x r : Nat) (pv : Value) (t : Tk) (av kv : Value) (R : Option Sp × Vs) (w : World) (e : Ending) (w' : World) : Prop :=
  ∃ ev kv' wv' rv', e = .returned ev ∧ SpAt w.heap.size w' ev R.1 ∧ Vm x r pv t av kv' wv' rv' R.2 w' ∧ Fr (VmS x r kv) w w' ∧ (kv'.ownBlock = kv.ownBlock ∨ ∀ b, kv'.ownBlock = some b → w.heap.size ≤ b)
theorem none_nil (w : World) : Calls Tryz.prog 30 #[.pointer none] w fun e w' => e = .returned (.bool true) ∧ w' = w := by
  go_enter Tryz.func30, Tryz.ntmps30
  go_wp2_with fail
  go_ret
  exact ⟨rfl, rfl⟩
set_option maxHeartbeats 1600000 in
set_option maxRecDepth 100000 in
theorem none_any {x r : Nat} {pv : Value} {t : Tk} {av kv wv rv : Value} {s : Vs} {w : World} {p : List Fnc} (h : Vm x r pv t av kv wv rv s w) (hp : ProgAt w pv p) (hl : 0 < p.length) : Calls Tryz.prog 30 #[.pointer (some ⟨x, 0, none⟩)] w fun e w' => e = .returned (.bool false) ∧ w' = w := by
  obtain ⟨pa, pc, rfl⟩ := hp.fns.slice
  obtain ⟨x0, x1, x2, x5, x6, x7, x8, x9, x10, x11⟩ := vm_cells h
  have hne : ((p.length : Int) == 0) = false := by rw [beq_eq_false_iff_ne]; omega
  clear h hp
  go_enter Tryz.func30, Tryz.ntmps30
  go_wp2_with fail
  go_ret
  exact ⟨rfl, rfl⟩
set_option maxHeartbeats 1600000 in
set_option maxRecDepth 100000 in
theorem vend_any {x r : Nat} {pv : Value} {t : Tk} {av kv wv rv : Value} {s : Vs} {w : World} (z : Rs) (h : Vm x r pv t av kv wv rv s w) : Calls Tryz.prog 55 #[.pointer (some ⟨x, 0, none⟩), .agg #[.int .i64 z.v, .int .i64 z.e]] w (VmP x r pv t av kv (endV s z) w) := by
  have hA := alV w (.cells (resC z) ResT)
  have H := Lib.hid (show Vm x r pv t av kv wv rv s (w.alloc (.cells (resC z) ResT)) ∧ BoxAt (w.alloc (.cells (resC z) ResT)) w.heap.size (resC z) ResT ∧ Below w.heap.size w (w.alloc (.cells (resC z) ResT)) from ⟨h.below hA, heap_alloc_new _ _, hA⟩)
  clear h hA
  go_enter Tryz.func55, Tryz.ntmps55
  go_upto_region 1 with fail
  simp only [resC] at H
  generalize w.alloc (.cells #[.int .i64 z.v, .int .i64 z.e] ResT) = w1 at *
  obtain ⟨x0, x1, x2, x5, x6, x7, x8, x9, x10, x11⟩ := vm_cells H.out.1
  have f11 := H.out.1.box.frozen 11
  obtain ⟨b, hb⟩ : ∃ b, w.heap.size = b := ⟨_, rfl⟩
  have HBB := Lib.hid hb
  rw [hb] at H ⊢
  clear hb
  go_upto_region 2 with fail
  have hF : Fr (fun i => i = x) w1 (w1.setCell ⟨x, 11, none⟩ (.pointer (some ⟨b, 0, none⟩))) := (Fr.refl (fun i => i = x) w1).setCell (p := ⟨x, 11, none⟩) rfl _
  have hbx : BoxAt (w1.setCell ⟨x, 11, none⟩ (.pointer (some ⟨b, 0, none⟩))) x (vmC pv t av r { s with result := some z } kv wv (.pointer (some ⟨b, 0, none⟩))) FrameT := Go.heap_setCell_same w1 x 11 _ _ _ H.out.1.box
  have hbr := box_typed H.out.2.1 hF (typed_box H.out.1.box) (by decide)
  have H2 := Lib.hid (show Vm x r pv t av kv wv (.pointer (some ⟨b, 0, none⟩)) { s with result := some z } (w1.setCell ⟨x, 11, none⟩ (.pointer (some ⟨b, 0, none⟩))) ∧ Fr (fun i => i = x) w1 (w1.setCell ⟨x, 11, none⟩ (.pointer (some ⟨b, 0, none⟩))) from
    ⟨H.out.1.boxX hF hbx rfl rfl (H.out.1.wt.typed hF (typed_box H.out.1.box) (by decide)) ⟨b, rfl, hbr⟩, hF⟩)
  clear x0 x1 x2 x5 x6 x7 x8 x9 x10 x11 f11 hF hbx
  generalize w1.setCell ⟨x, 11, none⟩ (.pointer (some ⟨b, 0, none⟩)) = w2 at *
  have c0 := hbr.cell 0; have c1 := hbr.cell 1
  simp only [List.getElem?_toArray, List.getElem?_cons_zero, List.getElem?_cons_succ] at c0 c1
  clear hbr
  go_wp2_with fail
  go_ret
  have hA2 := alV w2 (.cells (spC (spDone z) (.slice none 0 0)) StopT)
  exact ⟨_, kv, wv, _, rfl, ⟨_, .slice none 0 0, rfl, heap_alloc_new w2 _, World.ownsRow_nil _ _ _ _⟩, H2.out.1.below hA2, ((Fr.of_below (HBB.out ▸ H.out.2.2)).trans (H2.out.2.mono fun i hi => .inl (.inl hi))).then hA2, .inl rfl⟩
end Go.Proofs.YtdhbjejejeljoaaGreat
namespace Go.Proofs.YtdhbjejejeljoaaGreat
open Go.RowKit Go.Sort Go.Lib

set_option maxHeartbeats 1600000 in
set_option maxRecDepth 100000 in
theorem vfail_any {x r : Nat} {pv : Value} {t : Tk} {av kv wv rv : Value} {s : Vs} {w : World} (z : Int) (h : Vm x r pv t av kv wv rv s w) : Calls Tryz.prog 54 #[.pointer (some ⟨x, 0, none⟩), .int .i64 z] w (VmP x r pv t av kv (endV s ⟨0, z⟩) w) := by
  go_enter Tryz.func54, Tryz.ntmps54
  go_wp2_with fail
  refine (vend_any ⟨0, z⟩ h).mono ?_
  rintro e w2 ⟨ev, kv', wv', rv', rfl, h1⟩
  go_wp2_with fail
  go_ret
  exact ⟨ev, kv', wv', rv', rfl, h1⟩
set_option maxHeartbeats 1600000 in
set_option maxRecDepth 100000 in
theorem vops_any {x r : Nat} {pv : Value} {t : Tk} {av kv wv rv : Value} {s : Vs} {w : World} {p : List Fnc} (h : Vm x r pv t av kv wv rv s w) (hp : ProgAt w pv p) (h0 : 0 ≤ t.fn) (h1 : t.fn < p.length) : Calls Tryz.prog 56 #[.pointer (some ⟨x, 0, none⟩)] w fun e w' => e = .returned (.slice (fnAt p t.fn).oa (fnAt p t.fn).ops.length (fnAt p t.fn).oc) ∧ ∃ n, w' = w.drewN n := by
  obtain ⟨j, hj⟩ : ∃ j : Nat, t.fn = j := ⟨t.fn.toNat, by omega⟩
  have hjl : j < p.length := by omega
  have hfa : fnAt p t.fn = p[j] := by
    unfold fnAt
    rw [hj, List.getD_eq_getElem?_getD, Int.toNat_natCast, List.getElem?_eq_getElem hjl]; rfl
  obtain ⟨pb, poff, pcap, he, hpb, hpc⟩ := hp.fns.at (by omega)
  subst he
  obtain ⟨f0, f1, f2⟩ := fn_at hpc hjl
  obtain ⟨x0, x1, x2, x5, x6, x7, x8, x9, x10, x11⟩ := vm_cells h
  rw [hj] at x2
  rw [hfa]
  have q1 : (j : Int) < p.length := by omega
  have q0 : (0 : Int) ≤ j := by omega
  generalize p[j] = f at *
  clear hpc hpb h hp hfa h0 h1 x1 x5 x6 x7 x8 x9 x10 x11 f0 f1 hj
  go_enter Tryz.func56, Tryz.ntmps56
  go_upto_region 1 with fail
  go_quiet (fail)
  go_wp2_with fail
  go_ret
  exact ⟨rfl, _, rfl⟩
set_option maxHeartbeats 400000 in
theorem vtruth_any (b : Bool) (w : World) : Calls Tryz.prog 69 #[.bool b] w fun e w' => e = .returned (.int .i64 (if b then 1 else 0)) ∧ w' = w := by
  go_enter Tryz.func69, Tryz.ntmps69
  cases b
  · go_wp2_with fail
    go_ret
    exact ⟨rfl, rfl⟩
  · go_wp2_with fail
    go_ret
    exact ⟨rfl, rfl⟩
end Go.Proofs.YtdhbjejejeljoaaGreat
namespace Go.Proofs.YtdhbjejejeljoaaGreat
open Go.RowKit Go.Sort Go.Lib

def calcV (c : Option Int) : Value := .tuple #[.int .i64 (c.getD 0), .bool c.isSome]
theorem calcV_some {c : Option Int} {v : Int} (h : c = some v) : Ending.returned (.tuple #[.int .i64 v, .bool true]) = .returned (calcV c) := by subst h; rfl
theorem calcV_none {c : Option Int} (h : c = none) : Ending.returned (.tuple #[.int .i64 0, .bool false]) = .returned (calcV c) := by subst h; rfl
set_option maxHeartbeats 6400000 in
set_option maxRecDepth 100000 in
theorem vcalc_any {x r : Nat} {pv : Value} {t : Tk} {av kv wv rv : Value} {s : Vs} {w : World} {p : List Fnc} {o : Opr} (h : Vm x r pv t av kv wv rv s w) (hrl : (s.regs.length : Int) = (fnAt p t.fn).regs) (ho : OpOk p (fnAt p t.fn) o) (h1 : 2 ≤ o.k) (h2 : o.k ≤ 9) :
    Calls Tryz.prog 58 #[.pointer (some ⟨x, 0, none⟩), .agg #[.int .u8 o.k, .int .i64 o.d, .int .i64 o.a, .int .i64 o.b, .int .i64 o.n]] w fun e w' => e = .returned (calcV (calcP o.k (rg s.regs o.a) (rg s.regs o.b))) ∧ Below w.heap.size w w' := by
  have hA := alV w (.cells (opC o) OpT)
  have hb := heap_alloc_new w (.cells (opC o) OpT)
  have HA := Lib.hid hA
  obtain ⟨x0, x1, x2, x5, x6, x7, x8, x9, x10, x11⟩ := vm_cells (h.below hA)
  obtain ⟨k0, k1, k2, k3, k4⟩ := op_cells (show BoxAt _ _ _ _ from hb)
  have hregs := (h.below hA).regs
  have ha0 := ho.a0
  have har := ho.a (.inl ⟨h1, h2⟩)
  obtain ⟨qa, hqa⟩ : ∃ q : Nat, o.a = q := ⟨o.a.toNat, by omega⟩
  have ha1 : qa < s.regs.length := by omega
  have ha2 : (qa : Int) < s.regs.length := by omega
  have ha3 : (0 : Int) ≤ qa := by omega
  have hga : rg s.regs o.a = s.regs[qa] := by
    unfold rg
    rw [hqa, List.getD_eq_getElem?_getD, Int.toNat_natCast, List.getElem?_eq_getElem ha1]; rfl
  have g0 := regs_cell hregs (q := qa) ha1
  rw [hqa] at k2
  rw [hga]
  have hbq : ∃ (qb : Nat) (hqb : qb < s.regs.length), o.k ≠ 2 → o.b = qb ∧ rg s.regs o.b = s.regs[qb] := by
    by_cases hk : o.k = 2
    · exact ⟨qa, ha1, fun h => absurd hk h⟩
    · have hbr := ho.b ⟨by omega, h2⟩
      have hb0 := ho.b0
      have hqb : o.b.toNat < s.regs.length := by omega
      refine ⟨o.b.toNat, hqb, fun _ => ⟨by omega, ?_⟩⟩
      unfold rg
      rw [List.getD_eq_getElem?_getD, List.getElem?_eq_getElem hqb]; rfl
  obtain ⟨qb, hb1, hqb⟩ := hbq
  have g1 := regs_cell hregs (q := qb) hb1
  have hb2 : (qb : Int) < s.regs.length := by omega
  have hb3 : (0 : Int) ≤ qb := by omega
  generalize s.regs[qa] = a at *
  obtain ⟨b, hbb⟩ : ∃ b, s.regs[qb] = b := ⟨_, rfl⟩
  rw [hbb] at g1 hqb
  generalize rg s.regs o.b = b' at *
  clear h hA hb hregs har hqa hga hbb ho x0 x1 x2 x6 x7 x8 x9 x10 x11 k1 k4 hrl ha0
  go_enter Tryz.func58, Tryz.ntmps58
  go_upto_region 1 with fail
  simp only [opC] at HA k0 k2 k3 x5 g0 g1
  generalize w.alloc (.cells #[.int .u8 o.k, .int .i64 o.d, .int .i64 o.a, .int .i64 o.b, .int .i64 o.n] OpT) = w1 at *
  have HB := Lib.hid (show ∀ y z, Below w.heap.size w ((w1.drewN y).drewN z) from fun y z => below_drewN (below_drewN HA.out y) z)
  have HB1 := Lib.hid (show ∀ y, Below w.heap.size w (w1.drewN y) from fun y => below_drewN HA.out y)
  clear HA
  generalize w.heap.size = ob at k0 k2 k3 ⊢
  go_upto_region 2 with fail
  go_quiet (fail)
  have hkk : o.k = 2 ∨ o.k = 3 ∨ o.k = 4 ∨ o.k = 5 ∨ o.k = 6 ∨ o.k = 7 ∨ o.k = 8 ∨ o.k = 9 := by omega
  obtain ⟨k, hk⟩ : ∃ k, o.k = k := ⟨_, rfl⟩
  rw [hk] at k0 hqb hkk
  have HK := Lib.hid hk
  clear hk h1 h2
  rcases hkk with rfl | rfl | rfl | rfl | rfl | rfl | rfl | rfl
  · go_wp2_with fail
    go_ret2
    exact ⟨calcV_some (by rw [HK.out]; rfl), HB1.out _⟩
  · obtain ⟨e1, rfl⟩ := hqb (by decide)
    rw [e1] at k3
    clear e1 hqb
    go_upto_region 5 with fail
    go_quiet (fail)
    go_wp2_with fail
    go_ret2
    exact ⟨calcV_some (by rw [HK.out]; rfl), by first | exact HB.out _ _ | exact HB1.out _⟩
  · obtain ⟨e1, rfl⟩ := hqb (by decide)
    rw [e1] at k3
    clear e1 hqb
    go_upto_region 5 with fail
    go_quiet (fail)
    go_wp2_with fail
    go_ret2
    exact ⟨calcV_some (by rw [HK.out]; rfl), by first | exact HB.out _ _ | exact HB1.out _⟩
  · obtain ⟨e1, rfl⟩ := hqb (by decide)
    rw [e1] at k3
    clear e1 hqb
    go_upto_region 5 with fail
    go_quiet (fail)
    go_wp2_with fail
    go_ret2
    exact ⟨calcV_some (by rw [HK.out]; rfl), by first | exact HB.out _ _ | exact HB1.out _⟩
  · obtain ⟨e1, rfl⟩ := hqb (by decide)
    rw [e1] at k3
    clear e1 hqb
    go_upto_region 5 with fail
    go_quiet (fail)
    by_cases hz : b' = 0
    · have hz1 : (b' == 0) = true := by simp [hz]
      have HC := Lib.hid (show calcP 6 a b' = none by unfold calcP; simp [hz])
      clear hz
      go_wp2_with fail
      go_ret2
      exact ⟨calcV_none (by rw [HK.out]; exact HC.out), by first | exact HB.out _ _ | exact HB1.out _⟩
    · have hz1 : (b' == 0) = false := by simpa using hz
      have HC := Lib.hid (show calcP 6 a b' = some (wrap64 (a.tdiv b')) by unfold calcP; simp [hz])
      go_wp2_with fail
      go_ret2
      exact ⟨calcV_some (by rw [HK.out]; exact HC.out), by first | exact HB.out _ _ | exact HB1.out _⟩
  · obtain ⟨e1, rfl⟩ := hqb (by decide)
    rw [e1] at k3
    clear e1 hqb
    go_upto_region 5 with fail
    go_quiet (fail)
    by_cases hz : b' = 0
    · have hz1 : (b' == 0) = true := by simp [hz]
      have HC := Lib.hid (show calcP 7 a b' = none by unfold calcP; simp [hz])
      clear hz
      go_wp2_with fail
      go_ret2
      exact ⟨calcV_none (by rw [HK.out]; exact HC.out), by first | exact HB.out _ _ | exact HB1.out _⟩
    · have hz1 : (b' == 0) = false := by simpa using hz
      have HC := Lib.hid (show calcP 7 a b' = some (a.tmod b') by unfold calcP; simp [hz])
      go_wp2_with fail
      go_ret2
      exact ⟨calcV_some (by rw [HK.out]; exact HC.out), by first | exact HB.out _ _ | exact HB1.out _⟩
  · obtain ⟨e1, rfl⟩ := hqb (by decide)
    rw [e1] at k3
    clear e1 hqb
    go_upto_region 5 with fail
    go_quiet (fail)
    by_cases hz : a < b'
    · have hz1 : (decide (a < b')) = true := by simpa using hz
      have HC := Lib.hid (show calcP 8 a b' = some 1 by unfold calcP; simp [hz])
      clear hz
      go_wp2_with fail
      refine (vtruth_any _ _).mono ?_
      rintro e w3 ⟨rfl, rfl⟩
      go_wp2_with fail
      go_ret2
      exact ⟨calcV_some (by rw [HK.out]; exact HC.out), by first | exact HB.out _ _ | exact HB1.out _⟩
    · have hz1 : (decide (a < b')) = false := by simpa using hz
      have HC := Lib.hid (show calcP 8 a b' = some 0 by unfold calcP; simp [hz])
      clear hz
      go_wp2_with fail
      refine (vtruth_any _ _).mono ?_
      rintro e w3 ⟨rfl, rfl⟩
      go_wp2_with fail
      go_ret2
      exact ⟨calcV_some (by rw [HK.out]; exact HC.out), by first | exact HB.out _ _ | exact HB1.out _⟩
  · obtain ⟨e1, rfl⟩ := hqb (by decide)
    rw [e1] at k3
    clear e1 hqb
    go_upto_region 5 with fail
    go_quiet (fail)
    by_cases hz : a = b'
    · have hz1 : (a == b') = true := by simpa using hz
      have HC := Lib.hid (show calcP 9 a b' = some 1 by unfold calcP; simp [hz])
      clear hz
      go_wp2_with fail
      refine (vtruth_any _ _).mono ?_
      rintro e w3 ⟨rfl, rfl⟩
      go_wp2_with fail
      go_ret2
      exact ⟨calcV_some (by rw [HK.out]; exact HC.out), by first | exact HB.out _ _ | exact HB1.out _⟩
    · have hz1 : (a == b') = false := by simpa using hz
      have HC := Lib.hid (show calcP 9 a b' = some 0 by unfold calcP; simp [hz])
      clear hz
      go_wp2_with fail
      refine (vtruth_any _ _).mono ?_
      rintro e w3 ⟨rfl, rfl⟩
      go_wp2_with fail
      go_ret2
      exact ⟨calcV_some (by rw [HK.out]; exact HC.out), by first | exact HB.out _ _ | exact HB1.out _⟩
end Go.Proofs.YtdhbjejejeljoaaGreat
namespace Go.Proofs.YtdhbjejejeljoaaGreat
open Go.RowKit Go.Sort Go.Lib

abbrev zSp : Array Value := #[.int .u8 0, .string ⟨#[]⟩, .int .i64 0, .slice none 0 0, .int .i64 0, .int .i64 0, .int .i64 0]
theorem vrun_end {wz : World} {tmps : Array Value} {c : Array Value} {a0 a1 a2 a3 a4 a5 a6 : Value} {err : Int} {r : Nat} {R : Ending → World → Prop}
    (hc : c = #[a0, a1, a2, a3, a4, a5, a6]) (hr : BoxAt wz r c StopT) (h2 : tmps.getD 4 undef = .pointer (some ⟨r, 0, none⟩)) (h3 : tmps.getD 5 undef = .int .i64 err) (hR : R (.returned (.tuple #[.agg c, .int .i64 err])) wz) :
    bodyPost Tryz.prog Tryz.f14 R Exit.ret { tmps := tmps, defers := [] } wz := by
  subst hc
  have c0 := hr.cell 0; have c1 := hr.cell 1; have c2 := hr.cell 2; have c3 := hr.cell 3; have c4 := hr.cell 4; have c5 := hr.cell 5; have c6 := hr.cell 6
  simp only [List.getElem?_toArray, List.getElem?_cons_zero, List.getElem?_cons_succ] at c0 c1 c2 c3 c4 c5 c6
  refine bodyPost_ret (v := .tuple #[.agg #[a0, a1, a2, a3, a4, a5, a6], .int .i64 err]) ?_ rfl hR
  have h2' : tmps[4]?.getD undef = .pointer (some ⟨r, 0, none⟩) := by simpa using h2
  have h3' : tmps[5]?.getD undef = .int .i64 err := by simpa using h3
  simp [results, Tryz.results14, go_sem, h2', h3', c0, c1, c2, c3, c4, c5, c6]
theorem vtask_end {wz : World} {tmps : Array Value} {p : ByteArray} {fn fuel : Int} {v : Value} {r : Nat} {R : Ending → World → Prop}
    (hr : BoxAt wz r (taC p fn v fuel) TaskT) (h2 : tmps.getD 2 undef = .pointer (some ⟨r, 0, none⟩)) (hR : R (.returned (.agg #[.string p, .int .i64 fn, v, .int .i64 fuel])) wz) :
    bodyPost Tryz.prog Tryz.f19 R Exit.ret { tmps := tmps, defers := [] } wz := by
  have c0 := hr.cell 0; have c1 := hr.cell 1; have c2 := hr.cell 2; have c3 := hr.cell 3
  simp only [taC, List.getElem?_toArray, List.getElem?_cons_zero, List.getElem?_cons_succ] at c0 c1 c2 c3
  refine bodyPost_ret (v := .agg #[.string p, .int .i64 fn, v, .int .i64 fuel]) ?_ rfl hR
  have h2' : tmps[2]?.getD undef = .pointer (some ⟨r, 0, none⟩) := by simpa using h2
  simp [results, Tryz.results19, go_sem, h2', c0, c1, c2, c3]
set_option maxHeartbeats 1600000 in
set_option maxRecDepth 100000 in
theorem vrun_nil (n : Int) (w : World) : Calls Tryz.prog 14 #[.pointer none, .int .i64 n] w fun e w' => e = .returned (.tuple #[.agg zSp, .int .i64 1]) ∧ Below w.heap.size w w' := by
  have hb : BoxAt (w.alloc (.cells zSp StopT)) w.heap.size zSp StopT := heap_alloc_new _ _
  have HB := Lib.hid (And.intro hb (alV w (.cells zSp StopT)))
  clear hb
  go_enter Tryz.func14, Tryz.ntmps14
  go_wp2_with fail
  refine (none_nil _).mono ?_
  rintro e w2 ⟨rfl, rfl⟩
  go_wp2_with fail
  exact vrun_end rfl HB.out.1 rfl rfl ⟨rfl, HB.out.2⟩
set_option maxHeartbeats 1600000 in
set_option maxRecDepth 100000 in
theorem vtask_nil (w : World) : Calls Tryz.prog 19 #[.pointer none] w fun e w' => e = .returned (.agg #[.string ⟨#[]⟩, .int .i64 0, .slice none 0 0, .int .i64 0]) ∧ Below w.heap.size w w' := by
  have hb : BoxAt (w.alloc (.cells (taC ⟨#[]⟩ 0 (.slice none 0 0) 0) TaskT)) w.heap.size (taC ⟨#[]⟩ 0 (.slice none 0 0) 0) TaskT := heap_alloc_new _ _
  have HB := Lib.hid (And.intro hb (alV w (.cells (taC ⟨#[]⟩ 0 (.slice none 0 0) 0) TaskT)))
  clear hb
  go_enter Tryz.func19, Tryz.ntmps19
  go_wp2_with fail
  refine (none_nil _).mono ?_
  rintro e w2 ⟨rfl, rfl⟩
  go_wp2_with fail
  exact vtask_end HB.out.1 rfl ⟨rfl, HB.out.2⟩
set_option maxHeartbeats 1600000 in
theorem vgive_nil (k v e : Int) (w : World) : Calls Tryz.prog 16 #[.pointer none, .int .i64 k, .agg #[.int .i64 v, .int .i64 e]] w fun e w' => e = .returned (.int .i64 1) ∧ Below w.heap.size w w' := by
  have HA := Lib.hid (alV w (.cells (resC ⟨v, e⟩) ResT))
  go_enter Tryz.func16, Tryz.ntmps16
  go_wp2_with fail
  refine (none_nil _).mono ?_
  rintro e' w2 ⟨rfl, rfl⟩
  go_wp2_with fail
  go_ret
  exact ⟨ret_int rfl, HA.out⟩
set_option maxHeartbeats 1600000 in
theorem vkids_nil (w : World) : Calls Tryz.prog 17 #[.pointer none] w fun e w' => e = .returned (.int .i64 0) ∧ w' = w := by
  go_enter Tryz.func17, Tryz.ntmps17
  go_wp2_with fail
  refine (none_nil _).mono ?_
  rintro e' w2 ⟨rfl, rfl⟩
  go_wp2_with fail
  go_ret
  exact ⟨rfl, rfl⟩
set_option maxHeartbeats 1600000 in
theorem vleft_nil (w : World) : Calls Tryz.prog 18 #[.pointer none] w fun e w' => e = .returned (.int .i64 0) ∧ w' = w := by
  go_enter Tryz.func18, Tryz.ntmps18
  go_wp2_with fail
  refine (none_nil _).mono ?_
  rintro e' w2 ⟨rfl, rfl⟩
  go_wp2_with fail
  go_ret
  exact ⟨rfl, rfl⟩
set_option maxHeartbeats 1600000 in
theorem vwaits_nil (w : World) : Calls Tryz.prog 15 #[.pointer none] w fun e w' => e = .returned (.slice none 0 0) ∧ w' = w := by
  go_enter Tryz.func15, Tryz.ntmps15
  go_wp2_with fail
  refine (none_nil _).mono ?_
  rintro e' w2 ⟨rfl, rfl⟩
  go_wp2_with fail
  go_ret
  exact ⟨rfl, rfl⟩
set_option maxHeartbeats 1600000 in
set_option maxRecDepth 100000 in
theorem vkids_any {x r : Nat} {pv : Value} {t : Tk} {av kv wv rv : Value} {s : Vs} {w : World} {p : List Fnc} (h : Vm x r pv t av kv wv rv s w) (hp : ProgAt w pv p) (hl : 0 < p.length) : Calls Tryz.prog 17 #[.pointer (some ⟨x, 0, none⟩)] w fun e w' => e = .returned (.int .i64 s.kids.length) ∧ w' = w := by
  have x8 := (vm_cells h).2.2.2.2.2.2.1
  obtain ⟨ka, kc, hkv⟩ := own_slice h.kids
  rw [hkv] at x8
  go_enter Tryz.func17, Tryz.ntmps17
  go_wp2_with fail
  refine (none_any h hp hl).mono ?_
  rintro e' w2 ⟨rfl, rfl⟩
  go_wp2_with fail
  go_ret
  exact ⟨rfl, rfl⟩
set_option maxHeartbeats 1600000 in
set_option maxRecDepth 100000 in
theorem vleft_any {x r : Nat} {pv : Value} {t : Tk} {av kv wv rv : Value} {s : Vs} {w : World} {p : List Fnc} (h : Vm x r pv t av kv wv rv s w) (hp : ProgAt w pv p) (hl : 0 < p.length) : Calls Tryz.prog 18 #[.pointer (some ⟨x, 0, none⟩)] w fun e w' => e = .returned (.int .i64 s.left) ∧ w' = w := by
  have x6 := (vm_cells h).2.2.2.2.1
  go_enter Tryz.func18, Tryz.ntmps18
  go_wp2_with fail
  refine (none_any h hp hl).mono ?_
  rintro e' w2 ⟨rfl, rfl⟩
  go_wp2_with fail
  go_ret
  exact ⟨rfl, rfl⟩
end Go.Proofs.YtdhbjejejeljoaaGreat
namespace Go.Proofs.YtdhbjejejeljoaaGreat
open Go.RowKit Go.Sort Go.Lib

theorem ch_at {w : World} {b off : Nat} {l : List Ch} (hc : ∀ i (h : i < l.length) t u, (encCh l[i])[t]? = some u → w.cell? ⟨b, off + (i * 4 + t), none⟩ = some u) {k : Nat} (h : k < l.length) :
    w.cell? ⟨b, off + k * 4, none⟩ = some (.int .i64 l[k].into) ∧ w.cell? ⟨b, off + k * 4 + 1, none⟩ = some (.bool l[k].given) ∧ w.cell? ⟨b, off + k * 4 + 2, none⟩ = some (.int .i64 l[k].r.v) ∧ w.cell? ⟨b, off + k * 4 + 3, none⟩ = some (.int .i64 l[k].r.e) :=
  ⟨hc k h 0 _ rfl, hc k h 1 _ rfl, hc k h 2 _ rfl, hc k h 3 _ rfl⟩
def chOpen (c : Ch) : Bool := !c.given
def chBad (c : Ch) : Bool := c.r.e != 0
set_option maxHeartbeats 800000 in
theorem j1_any {b : Bool} (c : Ch) (w : World) (h : chOpen c = b) : Calls Tryz.prog 51 #[.agg #[.int .i64 c.into, .bool c.given, .int .i64 c.r.v, .int .i64 c.r.e]] w fun e w' => e = .returned (.bool b) ∧ Below w.heap.size w w' := by
  have HA := Lib.hid (alV w (.cells #[.int .i64 c.into, .bool c.given, .int .i64 c.r.v, .int .i64 c.r.e] ChT))
  have HH := Lib.hid h
  clear h
  go_enter Tryz.func51, Tryz.ntmps51
  go_wp2_with fail
  go_ret
  exact ⟨ret_bool HH.out, HA.out⟩
set_option maxHeartbeats 800000 in
theorem j2_any {b : Bool} (c : Ch) (w : World) (h : chBad c = b) : Calls Tryz.prog 53 #[.agg #[.int .i64 c.into, .bool c.given, .int .i64 c.r.v, .int .i64 c.r.e]] w fun e w' => e = .returned (.bool b) ∧ Below w.heap.size w w' := by
  have HA := Lib.hid (alV w (.cells #[.int .i64 c.into, .bool c.given, .int .i64 c.r.v, .int .i64 c.r.e] ChT))
  have HH := Lib.hid h
  clear h
  go_enter Tryz.func53, Tryz.ntmps53
  go_wp2_with fail
  go_ret
  exact ⟨ret_bool HH.out, HA.out⟩
set_option maxHeartbeats 1600000 in
set_option maxRecDepth 100000 in
theorem idx_open (v : Value) (l : List Ch) (w : World) (hv : ReadsK encCh 4 w v l) (hm : l.length ≤ 1000) :
    Calls Tryz.prog 52 #[v, .func (.func 51) #[] #[]] w fun e w' => e = .returned (.int .i64 (idxP chOpen l)) ∧ Below w.heap.size w w' := by
  obtain ⟨a, cap, rfl⟩ := hv.slice
  have HV := Lib.hid hv
  clear hv
  go_enter Tryz.func52, Tryz.ntmps52
  go_wp2
  go_loopg [8] l.length (fun gk i wr => ∃ k : Nat, gk + k = l.length ∧ i = .int .i64 k ∧ Below w.heap.size w wr ∧ Hid (∀ j, (hj : j < l.length) → j < k → chOpen l[j] = false))
  case atStart => exact ⟨0, by omega, rfl, Below.refl _ _, fun j _ hj => absurd hj (by omega)⟩
  case round =>
    obtain ⟨k, hk, rfl, hB, hn⟩ := hrel
    have HB := Lib.hid hB
    clear hB
    by_cases hlt : k < l.length
    · obtain ⟨b, off, c, he, hb, hc⟩ := (HV.out.below HB.out).at (by omega)
      injection he with he1 he2 he3
      subst he1
      obtain ⟨c0, c1, c2, c3⟩ := ch_at hc hlt
      clear hc he2 he3 hb
      cases hp : chOpen l[k]
      all_goals
        have HP := Lib.hid hp
        clear hp
        go_wp2_with fail
        refine (j1_any l[k] _ HP.out).mono ?_
        rintro e w1 ⟨rfl, hB⟩
        have HB1 := Lib.hid (gthen HB.out hB)
        clear hB c0 c1 c2 c3
      · go_wp2_with fail
        go_roundg (gk - 1)
        case rel => exact ⟨k + 1, by omega, by go_num, HB1.out, fun j hj hjk => by
          by_cases e : j = k
          · subst e; exact HP.out
          · exact hn j hj (by omega)⟩
        case measure => omega
      · go_wp2_with fail
        go_ret
        exact ⟨ret_int (idxP_hit (p := chOpen) l k hlt hn HP.out).symm, HB1.out⟩
    · have hke : k = l.length := by omega
      go_wp2_with fail
      go_ret
      exact ⟨ret_int (idxP_none (p := chOpen) l (fun j hj => hn j hj (by omega))).symm, HB.out⟩
set_option maxHeartbeats 1600000 in
set_option maxRecDepth 100000 in
theorem idx_bad (v : Value) (l : List Ch) (w : World) (hv : ReadsK encCh 4 w v l) (hm : l.length ≤ 1000) :
    Calls Tryz.prog 52 #[v, .func (.func 53) #[] #[]] w fun e w' => e = .returned (.int .i64 (idxP chBad l)) ∧ Below w.heap.size w w' := by
  obtain ⟨a, cap, rfl⟩ := hv.slice
  have HV := Lib.hid hv
  clear hv
  go_enter Tryz.func52, Tryz.ntmps52
  go_wp2
  go_loopg [8] l.length (fun gk i wr => ∃ k : Nat, gk + k = l.length ∧ i = .int .i64 k ∧ Below w.heap.size w wr ∧ Hid (∀ j, (hj : j < l.length) → j < k → chBad l[j] = false))
  case atStart => exact ⟨0, by omega, rfl, Below.refl _ _, fun j _ hj => absurd hj (by omega)⟩
  case round =>
    obtain ⟨k, hk, rfl, hB, hn⟩ := hrel
    have HB := Lib.hid hB
    clear hB
    by_cases hlt : k < l.length
    · obtain ⟨b, off, c, he, hb, hc⟩ := (HV.out.below HB.out).at (by omega)
      injection he with he1 he2 he3
      subst he1
      obtain ⟨c0, c1, c2, c3⟩ := ch_at hc hlt
      clear hc he2 he3 hb
      cases hp : chBad l[k]
      all_goals
        have HP := Lib.hid hp
        clear hp
        go_wp2_with fail
        refine (j2_any l[k] _ HP.out).mono ?_
        rintro e w1 ⟨rfl, hB⟩
        have HB1 := Lib.hid (gthen HB.out hB)
        clear hB c0 c1 c2 c3
      · go_wp2_with fail
        go_roundg (gk - 1)
        case rel => exact ⟨k + 1, by omega, by go_num, HB1.out, fun j hj hjk => by
          by_cases e : j = k
          · subst e; exact HP.out
          · exact hn j hj (by omega)⟩
        case measure => omega
      · go_wp2_with fail
        go_ret
        exact ⟨ret_int (idxP_hit (p := chBad) l k hlt hn HP.out).symm, HB1.out⟩
    · have hke : k = l.length := by omega
      go_wp2_with fail
      go_ret
      exact ⟨ret_int (idxP_none (p := chBad) l (fun j hj => hn j hj (by omega))).symm, HB.out⟩
theorem cont_open {b : Bool} (v : Value) (l : List Ch) (w : World) (hv : ReadsK encCh 4 w v l) (hm : l.length ≤ 1000) (h : l.any chOpen = b) :
    Calls Tryz.prog 50 #[v, .func (.func 51) #[] #[]] w fun e w' => e = .returned (.bool b) ∧ Below w.heap.size w w' := by
  have h1 := idxP_ge chOpen l
  rw [h] at h1
  rw [← h1]
  clear h1 h
  go_enter Tryz.func50, Tryz.ntmps50
  go_wp2_with fail
  refine (idx_open _ _ _ hv hm).mono ?_
  rintro e w1 ⟨rfl, hB⟩
  have HB := Lib.hid hB
  clear hB
  go_wp2_with fail
  go_ret
  exact ⟨rfl, HB.out⟩
end Go.Proofs.YtdhbjejejeljoaaGreat
