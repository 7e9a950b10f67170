/- Contracts over a frame as a whole: New, Run, Give, Kids, Left, Waits, Task; two frames apart. -/
import Derived.Test.YtdhbjejejeljoaaGreatVm13
namespace Go.Proofs.YtdhbjejejeljoaaGreat
open Go.RowKit Go.Sort Go.Lib

theorem SameP.at {p q : List Fnc} (h : SameP p q) (t : Tk) (s : Vs) : atV q t s = atV p t s := by unfold atV; rw [(h.fn t.fn).2.2]
theorem SameP.kid {p q : List Fnc} (h : SameP p q) (t : Tk) (s : Vs) (o : Opr) : kidV q t s o = kidV p t s o := by unfold kidV; rw [(h.fn o.n).1]
theorem SameP.op {p q : List Fnc} (h : SameP p q) (t : Tk) (s : Vs) (o : Opr) : opV2 q t s o = opV2 p t s o := by
  unfold opV2 forkV
  rw [h.kid]
theorem SameP.step {p q : List Fnc} (h : SameP p q) (t : Tk) (s : Vs) : stepV q t s = stepV p t s := by
  unfold stepV
  rw [h.at, h.op]
theorem SameP.steps {p q : List Fnc} (h : SameP p q) (t : Tk) : ∀ (n : Nat) (s : Vs), stepsV q t n s = stepsV p t n s
  | 0, _ => rfl
  | n + 1, s => by
    unfold stepsV
    rw [h.step]
    cases stepV p t s with
    | mk a s' =>
      cases a with
      | some x => rfl
      | none => exact h.steps t n s'
theorem SameP.run {p q : List Fnc} (h : SameP p q) (t : Tk) (n : Nat) (s : Vs) : runV q t n s = runV p t n s := by
  unfold runV
  cases s.result with
  | some r => rfl
  | none =>
    cases s.waits with
    | none => exact h.steps t n s
    | some o =>
      simp only []
      cases joinV s o with
      | mk a s' =>
        cases a with
        | some x => rfl
        | none => exact h.steps t n s'
theorem SameP.inv {p q : List Fnc} (h : SameP p q) {t : Tk} {s : Vs} (hi : InvV p t s) : InvV q t s := by
  have hr := (h.fn t.fn).2.1
  exact ⟨by rw [hr]; exact hi.rl, hi.pc0, hi.pc1, hi.l0, hi.l1, hi.k1, hi.jl, by rw [hr]; exact hi.ir, fun o ho => ⟨(hi.wt o ho).1.same h (h.fn t.fn), (hi.wt o ho).2⟩⟩
theorem SameP.atV {p q : List Fnc} (h : SameP p q) {t : Tk} {s : Vs} (ha : AtV p t s) : AtV q t s := by
  intro hr
  rw [(h.fn t.fn).2.2]
  exact ha hr
/-- A box and an own slice of another type, or two own slices of other types, lie apart. -/
theorem own_not_box {w : World} {Z k n x : Nat} {E T : TypeId} {v : Value} {xs : List Value} {cur : Array Value} (h : w.ownsRow Z E k v n xs) (hb : BoxAt w x cur T) (hE : E ≠ T) : v.ownBlock ≠ some x := by
  intro e
  obtain ⟨E', cu, fz, hE', hbk⟩ := typed_own h x e ((h.lt x e).2)
  rw [List.mem_singleton] at hE'
  subst hE'
  unfold BoxAt at hb
  rw [hb] at hbk
  injection hbk with hbk
  injection hbk with _ h1 _
  exact hE h1.symm
theorem own_not_own {w : World} {Z Z' k k' n n' : Nat} {E T : TypeId} {v u : Value} {xs ys : List Value} (h : w.ownsRow Z E k v n xs) (h' : w.ownsRow Z' T k' u n' ys) (hE : E ≠ T) {i : Nat} (hi : v.ownBlock = some i) : u.ownBlock ≠ some i := by
  intro e
  obtain ⟨E', cu, fz, hE', hbk⟩ := typed_own h i hi ((h.lt i hi).2)
  obtain ⟨T', cu', fz', hT', hbk'⟩ := typed_own h' i e ((h'.lt i e).2)
  rw [List.mem_singleton] at hE' hT'
  subst hE'; subst hT'
  rw [hbk] at hbk'
  injection hbk' with hbk'
  injection hbk' with _ h1 _
  exact hE h1
section
variable {B x r : Nat} {pv : Value} {p p' : List Fnc} {t : Tk} {av kv wv rv kv' wv' rv' : Value} {s s' : Vs} {w w' : World}
theorem Fa.below (h : Fa B x r pv p p' t av kv wv rv s w) (hB : Below w.heap.size w w') : Fa B x r pv p p' t av kv wv rv s w' :=
  ⟨h.vm.below hB, h.pr.below hB, h.same, own_below h.args hB, h.sep, h.bx, h.bk, h.al⟩
theorem Fa.next (h : Fa B x r pv p p' t av kv wv rv s w) (hv : Vm x r pv t av kv' wv' rv' s' w') (hl : VmL x r kv w kv' w') : Fa B x r pv p p' t av kv' wv' rv' s' w' := by
  have hxl := (Array.getElem?_eq_some_iff.1 h.vm.box).1
  refine ⟨hv, h.pr.typed hl.fr h.vm.typedS (by decide) (by decide), h.same, own_fr h.args hl.fr (fun i hi hs => ?_), h.sep, h.bx, fun i hi => ?_, h.al⟩
  · rcases hs with (hs | hs) | hs
    · exact own_not_box h.args h.vm.box (by decide) (by rw [hi, hs])
    · exact h.sep (by rw [hi, hs])
    · exact own_not_own h.args h.vm.kids (by decide) hi hs
  · rcases hl.own with e | e
    · exact h.bk i (by rw [← e]; exact hi)
    · have := e i hi; have := h.bx.1; omega
end
/-- A frame, whatever else it holds. -/
def Frm (B x r : Nat) (kv : Value) (p : List Fnc) (t : Tk) (s : Vs) (w : World) : Prop := ∃ pv p' av wv rv, Fa B x r pv p p' t av kv wv rv s w ∧ WfP p ∧ TkOk p t ∧ InvV p t s ∧ AtV p t s
theorem Frm.below {B x r : Nat} {kv : Value} {p : List Fnc} {t : Tk} {s : Vs} {w w' : World} (h : Frm B x r kv p t s w) (hB : Below w.heap.size w w') : Frm B x r kv p t s w' := by
  obtain ⟨pv, p', av, wv, rv, h1, h2⟩ := h
  exact ⟨pv, p', av, wv, rv, h1.below hB, h2⟩
theorem Frm.inv {B x r : Nat} {kv : Value} {p : List Fnc} {t : Tk} {s : Vs} {w : World} (h : Frm B x r kv p t s w) : WfP p ∧ TkOk p t ∧ InvV p t s ∧ AtV p t s := by
  obtain ⟨pv, p', av, wv, rv, h1, h2⟩ := h
  exact h2
theorem Frm.lt {B x r : Nat} {kv : Value} {p : List Fnc} {t : Tk} {s : Vs} {w : World} (h : Frm B x r kv p t s w) : B ≤ x ∧ B ≤ r ∧ x < w.heap.size ∧ r < w.heap.size ∧ ∀ i, kv.ownBlock = some i → i < w.heap.size := by
  obtain ⟨pv, p', av, wv, rv, h1, h2⟩ := h
  exact ⟨h1.bx.1, h1.bx.2, (Array.getElem?_eq_some_iff.1 h1.vm.box).1, (Array.getElem?_eq_some_iff.1 h1.vm.regs).1, fun i hi => (h1.vm.kids.lt i hi).2⟩
theorem Frm.typed {B x r : Nat} {kv : Value} {p : List Fnc} {t : Tk} {s : Vs} {w : World} (h : Frm B x r kv p t s w) : Typed (VmS x r kv) w [FrameT, I64T, ChT] := by
  obtain ⟨pv, p', av, wv, rv, h1, h2⟩ := h
  exact h1.vm.typedS
theorem box_ne {w : World} {a b : Nat} {E T : TypeId} {c d : Array Value} (h : BoxAt w a c E) (k : BoxAt w b d T) (hE : E ≠ T) : a ≠ b := by
  intro e
  subst e
  unfold BoxAt at h k
  rw [h] at k
  injection k with k
  injection k with _ h1 _
  exact hE h1
/-- Another frame turns. -/
theorem Frm.far {B x r B2 x2 r2 : Nat} {kv kv2 : Value} {p p2 : List Fnc} {t t2 : Tk} {s s2 : Vs} {w w' : World} (h : Frm B x r kv p t s w) (h2 : Frm B2 x2 r2 kv2 p2 t2 s2 w) (hF : Fr (VmS x2 r2 kv2) w w') (hx : x ≠ x2) (hr : r ≠ r2) (ha : r2 < B ∨ x ≤ r2) (hk : Apart kv kv2) : Frm B x r kv p t s w' := by
  have hT := h2.typed
  obtain ⟨pv, p', av, wv, rv, h1, hi⟩ := h
  obtain ⟨_, _, _, _, _, g1, _⟩ := h2
  refine ⟨pv, p', av, wv, rv, ⟨h1.vm.far hF hT (by decide) (by decide) ?_ ?_ ?_, h1.pr.typed hF hT (by decide) (by decide), h1.same, own_fr h1.args hF (fun i hi hs => ?_), h1.sep, h1.bx, h1.bk, h1.al⟩, hi⟩
  · rintro ((e | e) | e)
    · exact hx e
    · exact box_ne h1.vm.box g1.vm.regs (by decide) e
    · exact own_not_box g1.vm.kids h1.vm.box (by decide) e
  · rintro ((e | e) | e)
    · exact box_ne h1.vm.regs g1.vm.box (by decide) e
    · exact hr e
    · exact own_not_box g1.vm.kids h1.vm.regs (by decide) e
  · intro i hi hs
    rcases hs with (e | e) | e
    · exact own_not_box h1.vm.kids g1.vm.box (by decide) (by rw [hi, e])
    · exact own_not_box h1.vm.kids g1.vm.regs (by decide) (by rw [hi, e])
    · exact hk i hi e
  · rcases hs with (e | e) | e
    · exact own_not_box h1.args g1.vm.box (by decide) (by rw [hi, e])
    · have h3 := (h1.args.lt i hi).1
      have h4 := h1.al i hi
      omega
    · exact own_not_own h1.args g1.vm.kids (by decide) hi e
theorem VmL.fr' {x r : Nat} {kv kv' : Value} {w w' : World} (h : VmL x r kv w kv' w') : Fr (VmS x r kv) w w' := h.fr
/-- A frame that was begun. -/
theorem NewVP.frm {p : List Fnc} {t : Tk} {w w' : World} {e : Ending} (h : NewVP p t w e w') : Below w.heap.size w w' ∧ ((newE p t ≠ 0 ∧ e = .returned (.tuple #[.pointer none, .int .i64 (newE p t)])) ∨
    (newE p t = 0 ∧ ∃ x r, e = .returned (.tuple #[.pointer (some ⟨x, 0, none⟩), .int .i64 0]) ∧ Frm w.heap.size x r (.slice none 0 0) p t (newV p t) w')) := by
  obtain ⟨hB, h | ⟨h0, x, r, pv, p', av, he, hf⟩⟩ := h
  · exact ⟨hB, .inl h⟩
  · obtain ⟨g1, g2, g3⟩ := newE_ok h0
    exact ⟨hB, .inr ⟨h0, x, r, he, pv, p', av, _, _, hf, g1, g2, newV_inv g1 g2, newV_at g1 g2⟩⟩
section
variable {B x r : Nat} {kv : Value} {p : List Fnc} {t : Tk} {s : Vs} {w : World}
theorem frm_run (n : Nat) (hn : 1 ≤ n) (hnm : n ≤ 9223372036854775807) (h : Frm B x r kv p t s w) {R : Sp × Vs} (hR : runV p t n s = R) : Calls Tryz.prog 14 #[.pointer (some ⟨x, 0, none⟩), .int .i64 n] w fun e w' =>
    ∃ va vc kv', e = .returned (.tuple #[.agg #[.int .u8 R.1.k, .string R.1.kid.p, .int .i64 R.1.kid.fn, .slice va R.1.kid.args.length vc, .int .i64 R.1.kid.fuel, .int .i64 R.1.r.v, .int .i64 R.1.r.e], .int .i64 0]) ∧ w'.ownsRow w.heap.size I64T 1 (.slice va R.1.kid.args.length vc) R.1.kid.args.length (R.1.kid.args.flatMap encN1) ∧ Frm B x r kv' p t R.2 w' ∧ VmL x r kv w kv' w' := by
  obtain ⟨pv, p', av, wv, rv, h1, hp, ht, hi, ha⟩ := h
  refine (vrun_any n hn hnm h1.vm (h1.same.wf hp) h1.pr (h1.same.tk ht) (h1.same.inv hi) (h1.same.atV ha)).mono ?_
  rintro e w' ⟨v, kv', wv', rv', he, ho, hv, hl⟩
  have hinv := runV_inv hp ht n hi ha
  rw [h1.same.run, hR] at he ho hv
  rw [hR] at hinv
  obtain ⟨va, vc, rfl⟩ := own_slice ho
  exact ⟨va, vc, kv', he, ho, ⟨pv, p', av, wv', rv', h1.next hv hl, hp, ht, hinv.1, hinv.2⟩, hl⟩
theorem frm_low (n : Int) (hn : n < 1) (h : Frm B x r kv p t s w) : Calls Tryz.prog 14 #[.pointer (some ⟨x, 0, none⟩), .int .i64 n] w fun e w' => e = .returned (.tuple #[.agg zSp, .int .i64 2]) ∧ Below w.heap.size w w' := by
  obtain ⟨pv, p', av, wv, rv, h1, hp, ht, hi, ha⟩ := h
  exact vrun_low n hn h1.vm (h1.same.wf hp) h1.pr (by have := (h1.same.tk ht).f0; have := (h1.same.tk ht).f1; omega)
theorem Fa.prog {pv av wv rv : Value} {p' : List Fnc} (h : Fa B x r pv p p' t av kv wv rv s w) (hp : WfP p) (ht : TkOk p t) : ProgAt w pv p' ∧ 0 < p'.length := ⟨h.pr.at (h.same.wf hp), by have := (h.same.tk ht).f0; have := (h.same.tk ht).f1; omega⟩
theorem frm_give (c : Int) (z : Rs) (h : Frm B x r kv p t s w) {R : Int × Vs} (hR : giveV s c z = R) : Calls Tryz.prog 16 #[.pointer (some ⟨x, 0, none⟩), .int .i64 c, .agg #[.int .i64 z.v, .int .i64 z.e]] w fun e w' =>
    e = .returned (.int .i64 R.1) ∧ Frm B x r kv p t R.2 w' ∧ VmL x r kv w kv w' := by
  obtain ⟨pv, p', av, wv, rv, h1, hp, ht, hi, ha⟩ := h
  obtain ⟨g1, g2⟩ := h1.prog hp ht
  refine (vgive_any c z h1.vm g1 g2 hi.k1).mono ?_
  rintro e w' ⟨he, hv, hF⟩
  have hinv := giveV_inv c z hi ha
  rw [hR] at he hv hinv
  have hl : VmL x r kv w kv w' := ⟨hF.mono fun i hi => .inr hi, .inl rfl⟩
  exact ⟨he, ⟨pv, p', av, wv, rv, h1.next hv hl, hp, ht, hinv.1, hinv.2⟩, hl⟩
theorem frm_kids (h : Frm B x r kv p t s w) : Calls Tryz.prog 17 #[.pointer (some ⟨x, 0, none⟩)] w fun e w' => e = .returned (.int .i64 s.kids.length) ∧ w' = w := by
  obtain ⟨pv, p', av, wv, rv, h1, hp, ht, hi, ha⟩ := h
  obtain ⟨g1, g2⟩ := h1.prog hp ht
  exact vkids_any h1.vm g1 g2
theorem frm_left (h : Frm B x r kv p t s w) : Calls Tryz.prog 18 #[.pointer (some ⟨x, 0, none⟩)] w fun e w' => e = .returned (.int .i64 s.left) ∧ w' = w := by
  obtain ⟨pv, p', av, wv, rv, h1, hp, ht, hi, ha⟩ := h
  obtain ⟨g1, g2⟩ := h1.prog hp ht
  exact vleft_any h1.vm g1 g2
theorem frm_waits (h : Frm B x r kv p t s w) {L : List Int} (hL : waitsV s = L) : Calls Tryz.prog 15 #[.pointer (some ⟨x, 0, none⟩)] w fun e w' => ∃ va vc, e = .returned (.slice va L.length vc) ∧ w'.ownsRow w.heap.size IntT 1 (.slice va L.length vc) L.length (L.flatMap encN1) ∧ Below w.heap.size w w' := by
  obtain ⟨pv, p', av, wv, rv, h1, hp, ht, hi, ha⟩ := h
  obtain ⟨g1, g2⟩ := h1.prog hp ht
  refine (vwaits_any h1.vm g1 g2 hi.k1).mono ?_
  rintro e w' ⟨v, rfl, ho, hB⟩
  rw [hL] at ho
  obtain ⟨va, vc, rfl⟩ := own_slice ho
  exact ⟨va, vc, rfl, ho, hB⟩
theorem frm_task (h : Frm B x r kv p t s w) : Calls Tryz.prog 19 #[.pointer (some ⟨x, 0, none⟩)] w fun e w' => ∃ va vc, e = .returned (.agg #[.string t.p, .int .i64 t.fn, .slice va t.args.length vc, .int .i64 t.fuel]) ∧ w'.ownsRow w.heap.size I64T 1 (.slice va t.args.length vc) t.args.length (t.args.flatMap encN1) ∧ Below w.heap.size w w' := by
  obtain ⟨pv, p', av, wv, rv, h1, hp, ht, hi, ha⟩ := h
  obtain ⟨g1, g2⟩ := h1.prog hp ht
  have hal : t.args.length ≤ 1000 := by have h2 := (hp.fn ht.f0 ht.f1).r1; have h3 := (hp.fn ht.f0 ht.f1).r2; have h4 := ht.args; omega
  refine (vtask_any h1.vm g1 g2 (own_readsK (enc := encN1) (k := 1) (fun _ => rfl) (by decide) h1.args) hal).mono ?_
  rintro e w' ⟨v, rfl, ho, hB⟩
  obtain ⟨va, vc, rfl⟩ := own_slice ho
  exact ⟨va, vc, rfl, ho, hB⟩
end
end Go.Proofs.YtdhbjejejeljoaaGreat
