/- An append of a part of a slice, for any elements; contract: thresherref10.Copy. -/
import Derived.Test.YtihadknnmkblcaaEvP3
import Derived.Test.YtihadknnmkblcaaEv15
import Derived.Deep.DeepCutAuto
namespace Go.Proofs.Ytihadknnmkblcaa
open Go.RowKit Go.Sort Go.Lib

abbrev PrgT : TypeId := 24
theorem alC (w : World) (o : Obj) : Below w.heap.size w (w.alloc o) := (Below.refl _ _).alloc (Nat.le_refl _) _
theorem wpList_arunC {P : Program} {ops : Array Oper} {rest : List Oper} {o : Oper} {a : Act} {w : World} {Q : Exit → Act → World → Prop} (hgd : o.guard = none) (s x : Operand) (t t' : TypeId)
    (ho : o.op = .call { callee := .builtin .append, args := #[s, x], argTypes := #[t, t'] }) {v u : Value} (hs : a.eval s = v) (hx : a.eval x = u) {v' : Value} {w' : World} (hr : (Builtin.append_ #[t, t'] o.type #[v, u]).run P w = .ok v' w')
    (h : wpList P ops Q rest (a.put o.dst v') w') : wpList P ops Q (o :: rest) a w := by
  refine wpList_plain hgd fun _ hK => ?_
  unfold Oper.wp execOp
  simp only [ho, resolve, invoke, builtin, Sem.run_bind, Sem.run_pure, Result.andThen_ok, List.map_toArray, List.map_cons, List.map_nil, hs, hx, hr]
  exact hK _ _ h
/-- 'append(own, part...)'. -/
theorem run_appK {P : Program} {α : Type} {enc : α → List Value} {k bytes : Nat} {E t : TypeId} {z : Value} (hund : P.underlying t = some (.slice E)) (hinf : (P.info? E).map (fun i => (i.zero, i.size, i.bytes)) = some (some z, k, bytes)) (hz : z.cells.size = k) (h0 : 0 < k) (hk : ∀ x, (enc x).length = k) (h1 : ∀ x, ∀ u ∈ enc x, u.oneCell' = true)
    {w : World} {B : Nat} {v u : Value} {xs ys : List α} (ty : TypeId) (ho : w.ownsRow B E k v xs.length (xs.flatMap enc)) (hu : ReadsK enc k w u ys) (hl : xs.length + ys.length ≤ 1000000) (hb : bytes ≤ 1000) (hB : B ≤ w.heap.size) :
    ∃ v' w', (Builtin.append_ #[t, t] ty #[v, u]).run P w = .ok v' w' ∧ w'.ownsRow B E k v' (xs ++ ys).length ((xs ++ ys).flatMap enc) ∧ w.grownBy w' v.ownBlock := by
  obtain ⟨ig, hig, hg0, hg1, hg2⟩ := info_parts hinf
  have hlb : (xs.length + ys.length) * bytes ≤ 140737488355328 := Nat.le_trans (Nat.mul_le_mul hl hb) (by decide)
  have big : ∀ (ad : Addr) c, (u = .slice (some ad) ys.length c) → (∀ j x, (ys.flatMap enc)[j]? = some x → w.cell? (ad.add j) = some x) → ∃ v' w', (Builtin.append_ #[t, t] ty #[v, u]).run P w = .ok v' w' ∧ w'.ownsRow B E k v' (xs ++ ys).length ((xs ++ ys).flatMap enc) ∧ w.grownBy w' v.ownBlock := by
    intro ad c he hc
    subst he
    obtain ⟨v', w', hr, h2, h3, _⟩ := run_append_own (P := P) w B t ty E ig z k bytes hund hig hg0 hg1 hg2 hz h0 v xs.length (xs.flatMap enc) ho ad ys.length c (ys.flatMap enc) (flat_len (enc := enc) hk ys) hc
      (fun x hx => by obtain ⟨y, _, hy⟩ := List.mem_flatMap.1 hx; exact h1 y x hy) (by unfold maxLen; omega) hlb hB
    exact ⟨v', w', hr, by rw [List.length_append, List.flatMap_append]; exact h2, h3⟩
  rcases hu with ⟨rfl, a, cap, rfl⟩ | ⟨b, off, cap, rfl, hb2, hc⟩
  · cases a with
    | some ad => exact big ad cap rfl (fun j x h => by simp at h)
    | none =>
      refine ⟨v, w, ?_, by simpa using ho, ⟨rfl, rfl, rfl, Nat.le_refl _, fun _ _ _ => rfl⟩⟩
      obtain ⟨_, ⟨rfl, _⟩ | ⟨g, cap2, cur, rfl, _, _, h1, _⟩⟩ := ho
      · simp [Builtin.append_, run_underlying hund, sizeOf, typeInfo, hig, Builtin.lenOf, Builtin.firstCells]
      · simp [Builtin.append_, run_underlying hund, sizeOf, typeInfo, hig, Builtin.lenOf, Builtin.firstCells, h1, storeCells]
  · refine big ⟨b, off, none⟩ cap rfl (fun j x h => ?_)
    have hj : j < ys.length * k := by
      have := (List.getElem?_eq_some_iff.1 h).1
      rwa [flat_len (enc := enc) (k := k) hk] at this
    have h2 := flat_get (enc := enc) (k := k) hk h0 ys j hj
    obtain ⟨_, h4⟩ := List.getElem?_eq_some_iff.1 h
    rw [h2] at h4
    have hjk : j / k < ys.length := Nat.div_lt_of_lt_mul (by rw [Nat.mul_comm]; exact hj)
    have h3 := hc (j / k) hjk (j % k) x (by rw [← h4]; exact List.getElem?_eq_getElem _)
    rw [show j / k * k + j % k = j by rw [Nat.mul_comm]; exact Nat.div_add_mod j k] at h3
    rw [← h3]
    by_cases h0 : j = 0
    · subst h0; rfl
    · simp [Addr.add, h0]
theorem info_op : (Try.prog.info? 50).map (fun i => (i.zero, i.size, i.bytes)) = some (some (.agg #[.int .u8 0, .int .i64 0, .int .i64 0, .int .i64 0, .int .i64 0]), 5, 40) := by kernel_rfl
theorem info_fn : (Try.prog.info? 53).map (fun i => (i.zero, i.size, i.bytes)) = some (some (.agg #[.int .i64 0, .int .i64 0, .slice none 0 0]), 3, 40) := by kernel_rfl
theorem encO_one (o : Opr) : ∀ u ∈ encO o, u.oneCell' = true := by
  intro x hy
  simp only [encO, List.mem_cons, List.not_mem_nil, or_false] at hy
  rcases hy with h | h | h | h | h <;> subst h <;> rfl
theorem encF_one (f : Fnc) : ∀ u ∈ encF f, u.oneCell' = true := by
  intro x hy
  simp only [encF, List.mem_cons, List.not_mem_nil, or_false] at hy
  rcases hy with h | h | h <;> subst h <;> rfl
/-- A function's ops, of the call's own. -/
def OpsOwn (B : Nat) (w : World) (f : Fnc) : Prop := w.ownsRow B OpT 5 (.slice f.oa f.ops.length f.oc) f.ops.length (f.ops.flatMap encO)
/-- The same function, wherever its ops lie. -/
def FnEq (f g : Fnc) : Prop := g.args = f.args ∧ g.regs = f.regs ∧ g.ops = f.ops
/-- A program of the call's own. -/
structure ProgOwn (B : Nat) (w : World) (v : Value) (p : List Fnc) : Prop where
  fns : w.ownsRow B FnT 3 v p.length (p.flatMap encF)
  ops : ∀ f ∈ p, OpsOwn B w f
theorem ProgOwn.below {B : Nat} {w w' : World} {v : Value} {p : List Fnc} (h : ProgOwn B w v p) (hB : Below w.heap.size w w') : ProgOwn B w' v p := ⟨own_below h.fns hB, fun f hf => own_below (h.ops f hf) hB⟩
def CopyP (p : List Fnc) (w : World) (e : Ending) (w' : World) : Prop := ∃ (v : Value) (p' : List Fnc), e = .returned (.agg #[v]) ∧ Below w.heap.size w w' ∧ ProgOwn w.heap.size w' v p' ∧ All2 FnEq p p'
theorem copy_end {wz : World} {tmps : Array Value} {b : Nat} {v : Value} {R : Ending → World → Prop}
    (hb : BoxAt wz b #[v] 24) (h2 : tmps.getD 2 undef = .pointer (some ⟨b, 0, none⟩)) (hR : R (.returned (.agg #[v])) wz) :
    bodyPost Try.prog Try.f30 R Exit.ret { tmps := tmps, defers := [] } wz := by
  have c0 := hb.cell 0
  simp only [List.getElem?_toArray, List.getElem?_cons_zero] at c0
  refine bodyPost_ret (v := .agg #[v]) ?_ rfl hR
  have h2' : tmps[2]?.getD undef = .pointer (some ⟨b, 0, none⟩) := by simpa using h2
  simp [results, Try.results30, go_sem, h2', c0]
/-- While it is copied: the copy's struct in block b, its functions so far. -/
structure CpW (B b : Nat) (v : Value) (l l' : List Fnc) (w : World) : Prop where
  box : BoxAt w b #[v] 24
  own : ProgOwn B w v l'
  eq : All2 FnEq l l'
theorem box_readsC {α : Type} {enc : α → List Value} {k : Nat} (hk : ∀ x, (enc x).length = k) (h0 : 0 < k) {w : World} {b : Nat} {E : TypeId} {l : List α} (h : BoxAt w b (l.flatMap enc).toArray E) (cap : Nat) : ReadsK enc k w (.slice (some ⟨b, 0, none⟩) l.length cap) l := by
  refine .inr ⟨b, 0, cap, rfl, (Array.getElem?_eq_some_iff.1 h).1, fun i hi t u hu => ?_⟩
  have ht' : t < k := by have := (List.getElem?_eq_some_iff.1 hu).1; rwa [hk] at this
  have hlt : i * k + t < l.length * k := by
    have : (i + 1) * k ≤ l.length * k := Nat.mul_le_mul_right k hi
    rw [Nat.succ_mul] at this; omega
  have h2 := flat_get hk h0 l (i * k + t) hlt
  have e1 : (i * k + t) / k = i := by rw [Nat.mul_comm, Nat.mul_add_div h0, Nat.div_eq_of_lt ht', Nat.add_zero]
  have e2 : (i * k + t) % k = t := by rw [Nat.mul_comm, Nat.mul_add_mod, Nat.mod_eq_of_lt ht']
  have h3 : (l.flatMap enc)[i * k + t]? = some u := by
    rw [List.getElem?_eq_getElem (by rw [flat_len hk]; exact hlt), h2]
    simp only [e1, e2]
    obtain ⟨_, h4⟩ := List.getElem?_eq_some_iff.1 hu
    rw [h4]
  unfold BoxAt at h
  simp [World.cell?, h, h3]
theorem Fr.of_below_le {w w' : World} {Z : Nat} (h : Below w.heap.size w w') (hz : Z ≤ w.heap.size) : Fr (fun i => Z ≤ i) w w' := Fr.of_below h
theorem All2.snoc {α β : Type} {R : α → β → Prop} : ∀ {a : List α} {b : List β} {x : α} {y : β}, All2 R a b → R x y → All2 R (a ++ [x]) (b ++ [y])
  | [], [], _, _, _, h => .cons h .nil
  | _ :: _, _ :: _, _, _, .cons h1 h2, h => .cons h1 (h2.snoc h)
set_option maxHeartbeats 6400000 in
set_option maxRecDepth 100000 in
theorem copy_any (pv : Value) (p : List Fnc) (w : World) (hp : ProgAt w pv p) :
    Calls Try.prog 30 #[.agg #[pv]] w (CopyP p w) := by
  obtain ⟨pa, pc, rfl⟩ := hp.fns.slice
  have hA1 : Below w.heap.size w (w.alloc (.cells #[.slice pa p.length pc] PrgT)) := alC _ _
  have hA2 : Below (w.alloc (.cells #[.slice pa p.length pc] PrgT)).heap.size _ ((w.alloc (.cells #[.slice pa p.length pc] PrgT)).alloc (.cells #[.slice none 0 0] PrgT)) := alC _ _
  have hA3 : Below ((w.alloc (.cells #[.slice pa p.length pc] PrgT)).alloc (.cells #[.slice none 0 0] PrgT)).heap.size _ (((w.alloc (.cells #[.slice pa p.length pc] PrgT)).alloc (.cells #[.slice none 0 0] PrgT)).alloc (.cells #[.slice none 0 0] PrgT)) := alC _ _
  have b1 : BoxAt (w.alloc (.cells #[.slice pa p.length pc] PrgT)) w.heap.size #[.slice pa p.length pc] PrgT := heap_alloc_new _ _
  have b2 : BoxAt ((w.alloc (.cells #[.slice pa p.length pc] PrgT)).alloc (.cells #[.slice none 0 0] PrgT)) (w.heap.size + 1) #[.slice none 0 0] PrgT := by
    have h1 := heap_alloc_new (w.alloc (.cells #[.slice pa p.length pc] PrgT)) (.cells #[.slice none 0 0] PrgT)
    rwa [World.size_alloc] at h1
  have b3 : BoxAt (((w.alloc (.cells #[.slice pa p.length pc] PrgT)).alloc (.cells #[.slice none 0 0] PrgT)).alloc (.cells #[.slice none 0 0] PrgT)) (w.heap.size + 1 + 1) #[.slice none 0 0] PrgT := by
    have h1 := heap_alloc_new ((w.alloc (.cells #[.slice pa p.length pc] PrgT)).alloc (.cells #[.slice none 0 0] PrgT)) (.cells #[.slice none 0 0] PrgT)
    rwa [World.size_alloc, World.size_alloc] at h1
  have hlow := gthen (gthen hA1 hA2) hA3
  have H1 := Lib.hid (And.intro (BoxAt.below (BoxAt.below b1 hA2) hA3) (BoxAt.below b2 hA3))
  have H0 := Lib.hid (show CpW (w.heap.size + 1 + 1) (w.heap.size + 1 + 1) (.slice none 0 0) [] [] _ from ⟨b3, ⟨World.ownsRow_nil _ _ _ _, fun f hf => by cases hf⟩, .nil⟩)
  have hsz3 : (((w.alloc (.cells #[.slice pa p.length pc] PrgT)).alloc (.cells #[.slice none 0 0] PrgT)).alloc (.cells #[.slice none 0 0] PrgT)).heap.size = w.heap.size + 3 := by simp
  have HLOW := Lib.hid (And.intro hlow hsz3)
  clear hsz3
  have HP := Lib.hid hp
  have hlen := hp.len
  clear hp hA1 hA2 hA3 b1 b2 b3 hlow
  go_enter Try.func30, Try.ntmps30
  go_upto_region 2 with fail
  generalize ((w.alloc (.cells #[.slice pa p.length pc] PrgT)).alloc (.cells #[.slice none 0 0] PrgT)).alloc (.cells #[.slice none 0 0] PrgT) = w1 at *
  go_wp2_with fail
  go_loopg [4] p.length (fun gk i wr => ∃ (k : Nat) (v : Value) (l' : List Fnc), gk + k = p.length ∧ i = .int .i64 k ∧ Hid (CpW (w.heap.size + 1 + 1) (w.heap.size + 1 + 1) v (p.take k) l' wr ∧ Fr (fun i => w.heap.size + 1 + 1 ≤ i) w1 wr))
  case atStart => exact ⟨0, .slice none 0 0, [], by omega, rfl, by rw [List.take_zero]; exact H0.out, Fr.refl _ _⟩
  case round =>
    clear H0
    obtain ⟨k, v, l', hk, rfl, HR⟩ := hrel
    have HPR := Lib.hid (show ProgAt wr (.slice pa p.length pc) p from HP.out.below (HLOW.out.1.trans (HR.out.2.below (fun i hi => by omega) HLOW.out.1.size)))
    have hb1 : BoxAt wr w.heap.size #[.slice pa p.length pc] PrgT := H1.out.1.fr HR.out.2 (by omega)
    have hb2 : BoxAt wr (w.heap.size + 1) #[.slice none 0 0] PrgT := H1.out.2.fr HR.out.2 (by omega)
    have c0 := hb1.cell 0
    simp only [List.getElem?_toArray, List.getElem?_cons_zero] at c0
    by_cases hlt : k < p.length
    · obtain ⟨b, off, c, he, hb, hc⟩ := HPR.out.fns.at (by omega)
      injection he with he1 he2 he3
      subst he1
      obtain ⟨f0, f1, f2⟩ := fn_at hc hlt
      have hops := (HPR.out.ops _ (List.getElem_mem hlt)).1
      have hol := (HPR.out.ops _ (List.getElem_mem hlt)).2
      have q1 : (k : Int) < p.length := by omega
      have q0 : (0 : Int) ≤ k := by omega
      have HT := Lib.hid (show p.take (k + 1) = p.take k ++ [p[k]] from List.take_succ_eq_append_getElem hlt)
      clear hc hb he2 he3
      generalize p[k] = f at *
      have hll : l'.length ≤ 1000 := by have h1 := HR.out.1.eq.length; rw [List.length_take] at h1; omega
      have hszr : w.heap.size + 3 ≤ wr.heap.size := by have h1 := HR.out.2.size; have h2 := HLOW.out.2; omega
      have hB1 : Below wr.heap.size wr (wr.alloc (.cells #[.int .i64 f.args, .int .i64 f.regs, .slice f.oa f.ops.length f.oc] FnT)) := alC _ _
      have hB2 : Below wr.heap.size wr ((wr.alloc (.cells #[.int .i64 f.args, .int .i64 f.regs, .slice f.oa f.ops.length f.oc] FnT)).alloc (.cells #[] OpT)) := gthen hB1 (alC _ _)
      have hx2 : BoxAt ((wr.alloc (.cells #[.int .i64 f.args, .int .i64 f.regs, .slice f.oa f.ops.length f.oc] FnT)).alloc (.cells #[] OpT)) wr.heap.size #[.int .i64 f.args, .int .i64 f.regs, .slice f.oa f.ops.length f.oc] FnT := BoxAt.below (heap_alloc_new wr _) (alC _ _)
      obtain ⟨ov, w3, hap1, hown3, hg3⟩ := run_appK (enc := encO) (k := 5) (bytes := 40) (B := w.heap.size + 1 + 1) Try.underlying51 info_op rfl (by decide) (fun _ => rfl) encO_one (xs := []) 51 (World.ownsRow_made (wr.alloc (.cells #[.int .i64 f.args, .int .i64 f.regs, .slice f.oa f.ops.length f.oc] FnT)) #[] 0 (by simp; omega) (Nat.zero_le _) (by simp)) (hops.below hB2) (by simp; omega) (by decide) (by simp; omega)
      have hF3 := grow_fr' (Below.refl _ _) hg3
      simp only [List.nil_append] at hown3
      obtain ⟨oa', oc', rfl⟩ := own_slice hown3
      have hx3 := hx2.fr hF3 (by intro h; injection h with h; simp at h)
      have hB3 : Below wr.heap.size wr w3 := hB2.trans (hF3.below (fun i hi => by injection hi with hi; simp at hi; omega) (by simp; omega))
      have hF4 : Fr (fun i => i = wr.heap.size) w3 (w3.setCell ⟨wr.heap.size, 2, none⟩ (.slice oa' f.ops.length oc')) := (Fr.refl (fun i => i = wr.heap.size) w3).setCell (p := ⟨wr.heap.size, 2, none⟩) rfl _
      have hB4 : Below wr.heap.size wr (w3.setCell ⟨wr.heap.size, 2, none⟩ (.slice oa' f.ops.length oc')) := hB3.trans (hF4.below (fun i hi => by omega) hB3.size)
      have hx4 : BoxAt (w3.setCell ⟨wr.heap.size, 2, none⟩ (.slice oa' f.ops.length oc')) wr.heap.size #[.int .i64 f.args, .int .i64 f.regs, .slice oa' f.ops.length oc'] FnT := Go.heap_setCell_same w3 wr.heap.size 2 _ _ _ hx3
      have hown4 := own_typed hown3 hF4 (typed_box hx3) (by decide)
      have hC4 : CpW (w.heap.size + 1 + 1) (w.heap.size + 1 + 1) v (p.take k) l' (w3.setCell ⟨wr.heap.size, 2, none⟩ (.slice oa' f.ops.length oc')) := ⟨HR.out.1.box.below hB4, HR.out.1.own.below hB4, HR.out.1.eq⟩
      have z2 := hx2.cell 2
      have y2 := hx3.cell 2
      have fy2 := hx3.frozen 2
      have k0 := hx4.cell 0; have k1 := hx4.cell 1; have k2 := hx4.cell 2
      have d0 := hC4.box.cell 0
      simp only [List.getElem?_toArray, List.getElem?_cons_zero, List.getElem?_cons_succ] at z2 y2 k0 k1 k2 d0
      have H4 := Lib.hid (And.intro hC4 (And.intro hown4 hB4))
      clear hC4 hown4 hB4 hx4 hF4 hB3 hx3 hF3 hg3 hown3 hx2 hops
      obtain ⟨w4, hw4⟩ : ∃ w4, w3.setCell ⟨wr.heap.size, 2, none⟩ (.slice oa' f.ops.length oc') = w4 := ⟨_, rfl⟩
      rw [hw4] at H4 k0 k1 k2 d0
      have hB5 : Below w4.heap.size w4 (w4.alloc (.cells #[.int .i64 f.args, .int .i64 f.regs, .slice oa' f.ops.length oc'] FnT)) := alC _ _
      obtain ⟨v', w6, hap2, hown6, hg6⟩ := run_appK (enc := encF) (k := 3) (bytes := 40) (B := w.heap.size + 1 + 1) (w := w4.alloc (.cells #[.int .i64 f.args, .int .i64 f.regs, .slice oa' f.ops.length oc'] FnT)) (v := v) (xs := l') (ys := [⟨f.args, f.regs, f.ops, oa', oc'⟩]) Try.underlying22 info_fn rfl (by decide) (fun _ => rfl) encF_one 22 (own_below H4.out.1.own.fns hB5) (box_readsC (enc := encF) (k := 3) (l := [⟨f.args, f.regs, f.ops, oa', oc'⟩]) (fun _ => rfl) (by decide) (heap_alloc_new w4 _) 1) (by simp; omega) (by decide) (by have h1 := H4.out.2.2.size; simp; omega)
      have hF6 := grow_fr' hB5 hg6
      have hb6 := box_typed H4.out.1.box hF6 (typed_own H4.out.1.own.fns) (by decide)
      obtain ⟨va', vc', hv'⟩ := own_slice hown6
      obtain ⟨vn, hvn⟩ : ∃ n, (l' ++ [(⟨f.args, f.regs, f.ops, oa', oc'⟩ : Fnc)]).length = n := ⟨_, rfl⟩
      rw [hvn] at hv'
      subst hv'
      have e0 := hb6.cell 0
      have fe0 := hb6.frozen 0
      simp only [List.getElem?_toArray, List.getElem?_cons_zero] at e0
      have hF7 : Fr (fun i => i = w.heap.size + 1 + 1) w6 (w6.setCell ⟨w.heap.size + 1 + 1, 0, none⟩ (.slice va' vn vc')) := (Fr.refl (fun i => i = w.heap.size + 1 + 1) w6).setCell (p := ⟨w.heap.size + 1 + 1, 0, none⟩) rfl _
      have hT6 := typed_own H4.out.1.own.fns
      have hT7 := typed_box hb6
      have HN := Lib.hid (show CpW (w.heap.size + 1 + 1) (w.heap.size + 1 + 1) (.slice va' vn vc') (p.take (k + 1)) (l' ++ [⟨f.args, f.regs, f.ops, oa', oc'⟩]) (w6.setCell ⟨w.heap.size + 1 + 1, 0, none⟩ (.slice va' vn vc')) ∧ Fr (fun i => w.heap.size + 1 + 1 ≤ i) w1 (w6.setCell ⟨w.heap.size + 1 + 1, 0, none⟩ (.slice va' vn vc')) from by
        refine ⟨⟨Go.heap_setCell_same w6 _ 0 _ _ _ hb6, ⟨own_typed hown6 hF7 hT7 (by decide), fun g hg => ?_⟩, by rw [HT.out]; exact HR.out.1.eq.snoc ⟨rfl, rfl, rfl⟩⟩, ?_⟩
        · rcases List.mem_append.1 hg with hg | hg
          · exact own_typed (own_typed (H4.out.1.own.ops g hg) hF6 hT6 (by decide)) hF7 hT7 (by decide)
          · rw [List.mem_singleton] at hg; subst hg
            exact own_typed (own_typed H4.out.2.1 hF6 hT6 (by decide)) hF7 hT7 (by decide)
        · exact ((HR.out.2.trans (.of_below_le H4.out.2.2 (by omega))).trans (hF6.mono fun i hi => (H4.out.1.own.fns.lt i hi).1)).trans (hF7.mono fun i hi => by omega))
      clear hF6 hF7 hT6 hT7 hb6 hown6 hg6 hB5 hB1 hB2
      go_upto_region 5 with fail
      rw [World.size_alloc] at hap1
      simp only [List.length_cons, List.length_nil, Nat.zero_add] at hap2
      go_wp2_with (at_builtin; first | (refine wpList_arunC rfl _ _ _ _ rfl rfl rfl hap1 ?_) | (refine wpList_arunC rfl _ _ _ _ rfl rfl rfl hap2 ?_))
      go_roundg (gk - 1)
      case rel => exact ⟨k + 1, _, _, by omega, by go_num, HN⟩
      case measure => omega
    · have hkl : k = p.length := by omega
      have d0 := HR.out.1.box.cell 0
      have e0 := hb2.cell 0
      have fe0 := hb2.frozen 0
      simp only [List.getElem?_toArray, List.getElem?_cons_zero] at d0 e0
      obtain ⟨va, vc, hva⟩ := own_slice HR.out.1.own.fns
      obtain ⟨vn, hvn⟩ : ∃ n, l'.length = n := ⟨_, rfl⟩
      rw [hvn] at hva
      subst hva
      have HEQ := Lib.hid (show All2 FnEq p l' from by have h1 := HR.out.1.eq; rw [hkl, List.take_length] at h1; exact h1)
      have HL := Lib.hid hb2
      clear hb2 hb1
      go_wp2_with fail
      have hF : Fr (fun i => i = w.heap.size + 1) wr (wr.setCell ⟨w.heap.size + 1, 0, none⟩ (.slice va vn vc)) := (Fr.refl (fun i => i = w.heap.size + 1) wr).setCell (p := ⟨w.heap.size + 1, 0, none⟩) rfl _
      have hT := typed_box HL.out
      refine copy_end (Go.heap_setCell_same wr _ 0 _ _ _ HL.out) rfl ⟨_, l', rfl, ?_, ⟨owns_base (own_typed HR.out.1.own.fns hF hT (by decide)) (by omega), fun g hg => owns_base (own_typed (HR.out.1.own.ops g hg) hF hT (by decide)) (by omega)⟩, HEQ.out⟩
      exact (HLOW.out.1.trans (HR.out.2.below (fun i hi => by omega) HLOW.out.1.size)).trans (hF.below (fun i hi => by omega) (by have h1 := HR.out.2.size; have h2 := HLOW.out.2; omega))
end Go.Proofs.Ytihadknnmkblcaa
