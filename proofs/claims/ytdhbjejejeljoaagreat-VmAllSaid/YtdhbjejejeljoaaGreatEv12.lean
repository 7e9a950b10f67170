/- Contract: eval.task.fork. -/
import Derived.Test.YtdhbjejejeljoaaGreatEv11
import Derived.Lib.SlBytesRow
namespace Go.Proofs.YtdhbjejejeljoaaGreat
open Go.RowKit Go.Sort Go.Lib
/-- What fork leaves. -/
def ForkP (wk w0 : World) (Z W m : Nat) (pv dv0 : Value) (p : List Fnc) (D : Tk → Rs × List Dn) (o : Opr) (l0 : List DnA) (x r : Nat) (t : Tk) (aa : Option Addr) (ac : Nat) (s : St) (e : Ending) (w' : World) : Prop :=
  e = .returned (.int .i64 (forkS p D t s o).1) ∧ ∃ dv iv wv nd, Rn wk w0 Z W m pv dv0 l0 x r t aa ac dv iv wv nd (forkS p D t s o).2 w'
/-- What the doing of a task leaves. -/
def DoP (Z W m : Nat) (pv dv : Value) (l : List DnA) (D : Tk → Rs × List Dn) (t : Tk) (aa : Option Addr) (ac : Nat) (w : World) (e : Ending) (w' : World) : Prop :=
  e = .returned (.agg #[.int .i64 (D t).1.v, .int .i64 (D t).1.e]) ∧ ∃ dv' k nd, Gl Z W m pv dv' (l ++ (k, aa, ac) :: nd) w' ∧ Fr (fun i => i = W ∨ dv.ownBlock = some i) w w' ∧
    (∀ i, dv'.ownBlock = some i → (i = W ∨ dv.ownBlock = some i) ∨ w.heap.size ≤ i) ∧ (D t).2 = ((k, aa, ac) :: nd).map (·.1) ∧ k.t = t ∧ ∀ d ∈ nd, ArgsAt w.heap.size w' d
/-- The contract of the doing of tasks with less than that fuel. -/
def DoC (Z W m : Nat) (pv : Value) (p : List Fnc) (D : Tk → Rs × List Dn) (N : Int) : Prop :=
  ∀ (t : Tk) (aa : Option Addr) (ac : Nat) (dv : Value) (l : List DnA) (w : World), TkOk p t → t.fuel < N → Gl Z W m pv dv l w → ProgAt w pv p → W < w.heap.size → Z ≤ w.heap.size →
    w.ownsRow Z I64T 1 (.slice aa t.args.length ac) t.args.length (t.args.flatMap encN1) → (l.length : Int) + t.fuel + 1 ≤ 200000 →
    Calls Tryz.prog 21 #[.pointer (some ⟨W, 0, none⟩), .agg #[.string t.p, .int .i64 t.fn, .slice aa t.args.length ac, .int .i64 t.fuel]] w (DoP Z W m pv dv l D t aa ac w)
theorem step_append_run {P : Program} {ops : Array Oper} {o : Oper} {a : Act} {w : World} {K : Act → World → Prop} {Q : Exit → Act → World → Prop} {E : Prop}
    (hg : o.guard = none) (s x : Operand) (t t' : TypeId) (hop : o.op = Op.call { callee := Callee.builtin Builtin.append, args := #[s, x], argTypes := #[t, t'] })
    (v u : Value) (hd : a.eval s = v) (hx : a.eval x = u) {v' : Value} {w' : World} (hr : (Builtin.append_ #[t, t'] o.type #[v, u]).run P w = .ok v' w') (hK : K (a.put o.dst v') w') :
    if Region.wanted o (yielded ops a.tmps) = true then Oper.wp P o a w K Q else E := by
  have hw : Region.wanted o (yielded ops a.tmps) = true := by simp [Region.wanted, hg]
  rw [if_pos hw]
  unfold Oper.wp
  simp [execOp, hop, resolve, invoke, builtin, hd, hx, hr, Result.andThen]
  exact hK
theorem info_int : (Tryz.prog.info? 3).map (fun i => (i.zero, i.size, i.bytes)) = some (some (.int .i64 0), 1, 8) := by kernel_rfl
theorem info_res : (Tryz.prog.info? 41).map (fun i => (i.zero, i.size, i.bytes)) = some (some (.agg #[.int .i64 0, .int .i64 0]), 2, 16) := by kernel_rfl
theorem own_slice {w : World} {Z k n : Nat} {E : TypeId} {v : Value} {xs : List Value} (h : w.ownsRow Z E k v n xs) : ∃ a c, v = .slice a n c := by
  obtain ⟨_, ⟨rfl, rfl⟩ | ⟨g, cap, cur, rfl, _⟩⟩ := h
  · exact ⟨_, _, rfl⟩
  · exact ⟨_, _, rfl⟩
theorem one_res (w : World) (d : Rs) : ∀ j u, (encRs d)[j]? = some u → (w.alloc (.cells #[.int .i64 d.v, .int .i64 d.e] ResT)).cell? ((⟨w.heap.size, 0, none⟩ : Addr).add j) = some u := by
  intro j u hj
  match j with
  | 0 => simp [encRs] at hj; subst hj; simp [go_sem, Addr.add]
  | 1 => simp [encRs] at hj; subst hj; simp [go_sem, Addr.add]
  | j + 2 => simp [encRs] at hj
theorem one_int (w : World) (d : Int) : ∀ j u, (encN1 d)[j]? = some u → (w.alloc (.cells #[.int .i64 d] 3)).cell? ((⟨w.heap.size, 0, none⟩ : Addr).add j) = some u := by
  intro j u hj
  match j with
  | 0 => simp [encN1] at hj; subst hj; simp [go_sem, Addr.add]
  | j + 1 => simp [encN1] at hj
theorem grow_fr' {w w1 w' : World} {v : Value} (hB : Below w.heap.size w w1) (hg : w1.grownBy w' v.ownBlock) : Fr (fun i => v.ownBlock = some i) w w' := (grow_fr hB hg).mono fun _i hi => hi.symm
/-- What holds from the fork's op on: the op's box, the task. -/
def FkW (wk w0 : World) (Z W m : Nat) (pv dv0 : Value) (l0 : List DnA) (x r : Nat) (t : Tk) (aa : Option Addr) (ac : Nat) (dv iv wv : Value) (nd : List DnA) (ob : Nat) (o : Opr) (s : St) (wr : World) : Prop :=
  Rn wk w0 Z W m pv dv0 l0 x r t aa ac dv iv wv nd s wr ∧ BoxAt wr ob (opC o) OpT
/-- .. and the child's task, in block kb. -/
def KdW (wk w0 : World) (Z W m : Nat) (pv dv0 : Value) (p : List Fnc) (l0 : List DnA) (x r : Nat) (t : Tk) (aa : Option Addr) (ac : Nat) (dv iv wv : Value) (nd : List DnA) (ob kb : Nat) (o : Opr) (s s4 : St) (wr : World) : Prop :=
  FkW wk w0 Z W m pv dv0 l0 x r t aa ac dv iv wv nd ob o s4 wr ∧ ∃ ka kc, BoxAt wr kb (taC (kidS t.p (s.kids + 1)) o.n (.slice ka (kidT p t s o).args.length kc) (s.left / 2)) TaskT ∧
    wr.ownsRow w0.heap.size I64T 1 (.slice ka (kidT p t s o).args.length kc) (kidT p t s o).args.length ((kidT p t s o).args.flatMap encN1) ∧ (Value.slice ka (kidT p t s o).args.length kc).ownBlock ≠ some r
theorem reads_part {y : World} {r A n : Nat} {rs L : List Int} (h : BoxAt y r (rs.map (Value.int .i64)).toArray I64T) (hn : n = L.length) (hl : A + n ≤ rs.length) (hL : L = (rs.drop A).take n) {cap : Nat} : ReadsK encN1 1 y (.slice (some ⟨r, A, none⟩) n cap) L := by
  refine .inr ⟨r, A, cap, by rw [hn], (Array.getElem?_eq_some_iff.1 h).1, fun i hi t u hu => ?_⟩
  have ht : t = 0 := by
    have := (List.getElem?_eq_some_iff.1 hu).1
    simp [encN1] at this; omega
  subst ht
  simp only [encN1, List.getElem?_cons_zero, Option.some.injEq] at hu
  subst hu
  have e : L[i] = rs[A + i]'(by omega) := by
    subst hL
    simp [List.getElem_take, List.getElem_drop]
  rw [e]
  have := regs_cell h (q := A + i) (by omega)
  simpa using this
theorem tx_cells {Z x r W : Nat} {t : Tk} {av iv wv : Value} {s : St} {w : World} (h : Tx Z x r W t av iv wv s w) :
    w.cell? ⟨x, 0, none⟩ = some (.string t.p) ∧ w.cell? ⟨x, 1, none⟩ = some (.int .i64 t.fn) ∧ w.cell? ⟨x, 3, none⟩ = some (.int .i64 s.left) ∧ w.cell? ⟨x, 4, none⟩ = some (.pointer (some ⟨W, 0, none⟩)) ∧
    w.cell? ⟨x, 5, none⟩ = some (.slice (some ⟨r, 0, none⟩) s.regs.length s.regs.length) ∧ w.cell? ⟨x, 6, none⟩ = some (.int .i64 s.pc) ∧ w.cell? ⟨x, 7, none⟩ = some (.int .i64 s.kids) ∧ w.cell? ⟨x, 8, none⟩ = some iv ∧ w.cell? ⟨x, 9, none⟩ = some wv :=
  ⟨h.box.cell 0, h.box.cell 1, h.box.cell 3, h.box.cell 4, h.box.cell 5, h.box.cell 6, h.box.cell 7, h.box.cell 8, h.box.cell 9⟩
set_option maxHeartbeats 6400000 in
set_option maxRecDepth 100000 in
theorem fork_any {wk w0 : World} {Z W m : Nat} {pv dv0 : Value} {l0 : List DnA} {x r : Nat} {t : Tk} {aa : Option Addr} {ac : Nat} {dv iv wv : Value} {nd : List DnA} {s : St} {w : World} {p : List Fnc} {D : Tk → Rs × List Dn} {o : Opr}
    (h : Rn wk w0 Z W m pv dv0 l0 x r t aa ac dv iv wv nd s w) (hp : WfP p) (ht : TkOk p t) (hi : InvS p t s) (hc : s.done.length + s.left < t.fuel) (ho : OpOk p (fnAt p t.fn) o) (hk : o.k = 12) (hpr : ProgAt w0 pv p) (hpl : ProgLow Z pv p) (hdv : ∀ i, dv0.ownBlock = some i → Z ≤ i)
    (hD : DoC Z W m pv p D t.fuel) (hl0 : (l0.length : Int) + t.fuel + 1 ≤ 200000) :
    Calls Tryz.prog 70 #[.pointer (some ⟨x, 0, none⟩), .agg #[.int .u8 o.k, .int .i64 o.d, .int .i64 o.a, .int .i64 o.b, .int .i64 o.n]] w (ForkP wk w0 Z W m pv dv0 p D o l0 x r t aa ac s) := by
  have hA : Below w.heap.size w (w.alloc (.cells (opC o) OpT)) := (Below.refl _ _).alloc (Nat.le_refl _) _
  have hb : BoxAt (w.alloc (.cells (opC o) OpT)) w.heap.size (opC o) OpT := heap_alloc_new _ _
  have H := Lib.hid (h.below hA)
  have HB := Lib.hid hb
  have hsz := ht.sz
  have hk0 := hi.k0
  have hk1 := hi.k1
  have HK := Lib.hid hk
  clear h hA hb hk
  go_enter Tryz.func70, Tryz.ntmps70
  go_upto_region 1 with fail
  simp only [opC] at H HB
  generalize w.alloc (.cells #[.int .u8 o.k, .int .i64 o.d, .int .i64 o.a, .int .i64 o.b, .int .i64 o.n] OpT) = w1 at *
  generalize w.heap.size = ob at *
  obtain ⟨x0, x1, x3, x4, x5, x6, x7, x8, x9⟩ := tx_cells H.out.tx
  have hwr : IntKind.i64.wrap (s.kids + 1) = s.kids + 1 := IntWalk.i64_in _ (by omega)
  refine wp_region_held_drew (S := fun y => Below w1.heap.size w1 y) (by kernel_rfl) ((Below.refl _ _).drew) (fun hHeld => ?_)
  refine wpAnyH_take (i := 0) (oi := _) (v := ?_) (by rw [List.getElem?_toArray]; exact rfl) (by kernel_rfl) (by kernel_rfl) (by kernel_rfl) (by exact fun _ _ _ h => h) (Or.inl ⟨by rfl, ?_⟩) hHeld ?_
  rotate_left
  · (intro wX hSw; clear hSw; go_simp; try with_reducible rfl)
  try simp only [Act.put, List.setIfInBounds_toArray, List.set_cons_zero, List.set_cons_succ]
  refine wpAnyH_take (i := 1) (oi := _) (v := ?_) (by rw [List.getElem?_toArray]; exact rfl) (by kernel_rfl) (by kernel_rfl) (by kernel_rfl) (by exact fun _ _ _ h => h) (Or.inl ⟨by rfl, ?_⟩) hHeld ?_
  rotate_left
  · (intro wX hSw; clear hSw; go_simp; try with_reducible rfl)
  try simp only [Act.put, List.setIfInBounds_toArray, List.set_cons_zero, List.set_cons_succ]
  refine wpAnyH_take (i := 2) (oi := _) (v := ?_) (by rw [List.getElem?_toArray]; exact rfl) (by kernel_rfl) (by kernel_rfl) (by kernel_rfl) (by exact fun _ _ _ h => h) (Or.inl ⟨by rfl, ?_⟩) hHeld ?_
  rotate_left
  · (intro wX hSw; clear hSw; go_simp; try with_reducible rfl)
  try simp only [Act.put, List.setIfInBounds_toArray, List.set_cons_zero, List.set_cons_succ]
  refine wpAnyH_take (i := 3) (oi := _) (v := ?_) (by rw [List.getElem?_toArray]; exact rfl) (by kernel_rfl) (by kernel_rfl) (by kernel_rfl) (by exact fun _ _ _ h => h) (Or.inl ⟨by rfl, ?_⟩) hHeld ?_
  rotate_left
  · (intro wX hSw; clear hSw; go_simp; try with_reducible rfl)
  try simp only [Act.put, List.setIfInBounds_toArray, List.set_cons_zero, List.set_cons_succ]
  refine wpAnyH_take (i := 4) (oi := _) (v := ?_) (by rw [List.getElem?_toArray]; exact rfl) (by kernel_rfl) (by kernel_rfl) (by kernel_rfl) (by exact fun _ _ _ h => h) (Or.inl ⟨by rfl, ?_⟩) hHeld ?_
  rotate_left
  · (intro wX hSw; obtain ⟨z0, z1, z3, z4, z5, z6, z7, z8, z9⟩ := tx_cells (H.out.below hSw).tx; clear hSw; go_simp; try with_reducible rfl)
  try simp only [Act.put, List.setIfInBounds_toArray, List.set_cons_zero, List.set_cons_succ]
  refine wpAnyH_take (i := 5) (oi := _) (v := ?_) (by rw [List.getElem?_toArray]; exact rfl) (by kernel_rfl) (by kernel_rfl) (by kernel_rfl) (by exact fun _ _ _ h => h) (Or.inl ⟨by rfl, ?_⟩) hHeld ?_
  rotate_left
  · (intro wX hSw; clear hSw; go_simp; try with_reducible rfl)
  try simp only [Act.put, List.setIfInBounds_toArray, List.set_cons_zero, List.set_cons_succ]
  refine wpAnyH_take (i := 6) (oi := _) (v := ?_) (by rw [List.getElem?_toArray]; exact rfl) (by kernel_rfl) (by kernel_rfl) (by kernel_rfl) (by exact fun _ _ _ h => h) (Or.inl ⟨by rfl, ?_⟩) hHeld ?_
  rotate_left
  · (intro wX hSw; clear hSw; go_simp; try with_reducible rfl)
  try simp only [Act.put, List.setIfInBounds_toArray, List.set_cons_zero, List.set_cons_succ]
  refine wpAnyH_take (i := 7) (oi := _) (v := ?_) (by rw [List.getElem?_toArray]; exact rfl) (by kernel_rfl) (by kernel_rfl) (by kernel_rfl) (by exact fun _ _ _ h => h) (Or.inl ⟨by rfl, ?_⟩) hHeld ?_
  rotate_left
  · (intro wX hSw; clear hSw; go_simp; try with_reducible rfl)
  try simp only [Act.put, List.setIfInBounds_toArray, List.set_cons_zero, List.set_cons_succ]
  refine wpAnyH_take (i := 8) (oi := _) (v := ?_) (by rw [List.getElem?_toArray]; exact rfl) (by kernel_rfl) (by kernel_rfl) (by kernel_rfl) (by exact fun _ _ _ h => h) (Or.inl ⟨by rfl, ?_⟩) hHeld ?_
  rotate_left
  · (intro wX hSw; obtain ⟨z0, z1, z3, z4, z5, z6, z7, z8, z9⟩ := tx_cells (H.out.below hSw).tx; clear hSw; go_simp; try with_reducible rfl)
  try simp only [Act.put, List.setIfInBounds_toArray, List.set_cons_zero, List.set_cons_succ]
  refine wpAnyH_take (i := 9) (oi := _) (v := ?_) (by rw [List.getElem?_toArray]; exact rfl) (by kernel_rfl) (by kernel_rfl) (by kernel_rfl) (by exact fun _ _ _ h => h) (Or.inl ⟨by rfl, ?_⟩) hHeld ?_
  rotate_left
  · (intro wX hSw; clear hSw; go_simp; try with_reducible rfl)
  try simp only [Act.put, List.setIfInBounds_toArray, List.set_cons_zero, List.set_cons_succ]
  refine wpAnyH_ready (rs := [10]) (by kernel_rfl) (by simp) ?_
  refine AllReadyH.cons (o := _) (by rw [List.getElem?_toArray]; exact rfl) (fun K hK => ?_) ?_
  · go_simp
    refine (kid_any t.p (s.kids + 1) _ (by omega)).mono ?_; rintro e w2 ⟨rfl, hB⟩
    go_wp2_with fail
    refine hK.out _ _ (gthen hHeld hB) (fun hHeld => ?_)
    clear hK K
    try simp only [Act.put, List.setIfInBounds_toArray, List.set_cons_zero, List.set_cons_succ]
    refine wpAnyH_take (i := 11) (oi := _) (v := ?_) (by rw [List.getElem?_toArray]; exact rfl) (by kernel_rfl) (by kernel_rfl) (by kernel_rfl) (by exact fun _ _ _ h => h) (Or.inl ⟨by rfl, ?_⟩) hHeld ?_
    rotate_left
    · (intro wX hSw; clear hSw; go_simp; try with_reducible rfl)
    try simp only [Act.put, List.setIfInBounds_toArray, List.set_cons_zero, List.set_cons_succ]
    refine wpAnyH_take (i := 12) (oi := _) (v := ?_) (by rw [List.getElem?_toArray]; exact rfl) (by kernel_rfl) (by kernel_rfl) (by kernel_rfl) (by exact fun _ _ _ h => h) (Or.inl ⟨by rfl, ?_⟩) hHeld ?_
    rotate_left
    · (intro wX hSw; clear hSw; go_simp; try with_reducible rfl)
    try simp only [Act.put, List.setIfInBounds_toArray, List.set_cons_zero, List.set_cons_succ]
    refine wpAnyH_take (i := 13) (oi := _) (v := ?_) (by rw [List.getElem?_toArray]; exact rfl) (by kernel_rfl) (by kernel_rfl) (by kernel_rfl) (by exact fun _ _ _ h => h) (Or.inl ⟨by rfl, ?_⟩) hHeld ?_
    rotate_left
    · (intro wX hSw; clear hSw; go_simp; try with_reducible rfl)
    try simp only [Act.put, List.setIfInBounds_toArray, List.set_cons_zero, List.set_cons_succ]
    refine wpAnyH_take (i := 14) (oi := _) (v := ?_) (by rw [List.getElem?_toArray]; exact rfl) (by kernel_rfl) (by kernel_rfl) (by kernel_rfl) (by exact fun _ _ _ h => h) (Or.inl ⟨by rfl, ?_⟩) hHeld ?_
    rotate_left
    · (intro wX hSw; clear hSw; go_simp; try with_reducible rfl)
    try simp only [Act.put, List.setIfInBounds_toArray, List.set_cons_zero, List.set_cons_succ]
    refine wpAnyH_take (i := 15) (oi := _) (v := ?_) (by rw [List.getElem?_toArray]; exact rfl) (by kernel_rfl) (by kernel_rfl) (by kernel_rfl) (by exact fun _ _ _ h => h) (Or.inl ⟨by rfl, ?_⟩) hHeld ?_
    rotate_left
    · (intro wX hSw; clear hSw; go_simp; try with_reducible rfl)
    try simp only [Act.put, List.setIfInBounds_toArray, List.set_cons_zero, List.set_cons_succ]
    refine wpAnyH_done (by kernel_rfl) ?_ _
    clear hwr
    have H2 := Lib.hid (H.out.below hHeld)
    have HB2 := Lib.hid (HB.out.below hHeld)
    clear H HB x0 x1 x3 x4 x5 x6 x7 x8 x9 hHeld
    obtain ⟨x0, x1, x3, x4, x5, x6, x7, x8, x9⟩ := tx_cells H2.out.tx
    by_cases h16 : 16 ≤ s.kids
    · have HE := Lib.hid (show forkS p D t s o = (132, s) by unfold forkS; rw [if_pos h16])
      go_wp2_with fail
      go_ret
      exact ⟨ret_int (by rw [HE.out]), by rw [HE.out]; exact ⟨_, _, _, _, H2.out⟩⟩
    cases hkb : kidB t.p (s.kids + 1)
    · have HE := Lib.hid (show forkS p D t s o = (133, s) by unfold forkS; rw [if_neg h16, if_pos hkb])
      clear hkb
      go_wp2_with fail
      go_ret
      exact ⟨ret_int (by rw [HE.out]), by rw [HE.out]; exact ⟨_, _, _, _, H2.out⟩⟩
    have HKO := Lib.hid (kid_ok hp ht hi (by omega) ho HK.out hkb)
    have HE := Lib.hid (show forkS p D t s o = (0, { s with left := s.left - s.left / 2, kids := s.kids + 1, into := s.into ++ [o.d], waits := s.waits ++ [(D (kidT p t s o)).1], done := s.done ++ (D (kidT p t s o)).2 }) by unfold forkS; rw [if_neg h16, if_neg (by rw [hkb]; decide)])
    clear hkb
    have hl0' := hi.l0
    have hlu : s.left ≤ 65536 := by have h1 := hi.cnt; have h2 := ht.u1; omega
    have f3 := H2.out.tx.box.frozen 3; have f7 := H2.out.tx.box.frozen 7
    go_upto_region 9 with fail
    have H3 := Lib.hid (show FkW wk w0 Z W m pv dv0 l0 x r t aa ac dv iv wv nd ob o { s with left := s.left - s.left / 2, kids := s.kids + 1 } ((w2.setCell ⟨x, 3, none⟩ (.int .i64 (s.left - s.left / 2))).setCell ⟨x, 7, none⟩ (.int .i64 (s.kids + 1))) from by
      have hF : Fr (fun i => i = x) w2 ((w2.setCell ⟨x, 3, none⟩ (.int .i64 (s.left - s.left / 2))).setCell ⟨x, 7, none⟩ (.int .i64 (s.kids + 1))) := ((Fr.refl (fun i => i = x) w2).setCell (p := ⟨x, 3, none⟩) rfl _).setCell (p := ⟨x, 7, none⟩) rfl _
      have hb : BoxAt ((w2.setCell ⟨x, 3, none⟩ (.int .i64 (s.left - s.left / 2))).setCell ⟨x, 7, none⟩ (.int .i64 (s.kids + 1))) x (txC t (.slice aa t.args.length ac) W r { s with left := s.left - s.left / 2, kids := s.kids + 1 } iv wv) TxT := Go.heap_setCell_same _ x 7 _ _ _ (Go.heap_setCell_same w2 x 3 _ _ _ H2.out.tx.box)
      exact ⟨H2.out.boxX hF hb rfl rfl rfl rfl, box_typed HB2.out hF (typed_box H2.out.tx.box) (by decide)⟩)
    generalize (w2.setCell ⟨x, 3, none⟩ (.int .i64 (s.left - s.left / 2))).setCell ⟨x, 7, none⟩ (.int .i64 (s.kids + 1)) = w3 at *
    clear H2 HB2 x0 x1 x3 x4 x5 x6 x7 x8 x9 f3 f7 hB
    obtain ⟨s3, hs3⟩ : ∃ s3 : St, s3 = { s with left := s.left - s.left / 2, kids := s.kids + 1 } := ⟨_, rfl⟩
    rw [← hs3] at H3
    have HS3 := Lib.hid hs3
    have hil : s3.into.length ≤ 16 := by have h1 := hi.ik; have h2 := hi.k1; rw [hs3]; simp only []; omega
    clear hs3
    go_cut [] (fun wc => ∃ iv', FkW wk w0 Z W m pv dv0 l0 x r t aa ac dv iv' wv nd ob o { s3 with into := s3.into ++ [o.d] } wc)
    case first =>
      have HOBX := Lib.hid (show ¬ ob = x from fun e => by have h1 := H3.out.2; have h2 := H3.out.1.tx.box; unfold BoxAt at h1 h2; rw [e, h2] at h1; injection h1 with h1; injection h1 with _ h1 _; exact absurd h1 (by decide))
      refine wp_region_held_drew (S := fun y => BoxAt y ob (opC o) OpT) (by kernel_rfl) (H3.out.2.below ((Below.refl _ _).drew)) (fun hHeld => ?_)
      refine wpAnyH_take (i := 0) (oi := _) (v := ?_) (by rw [List.getElem?_toArray]; exact rfl) (by kernel_rfl) (by kernel_rfl) (by kernel_rfl) (by exact fun _ _ _ h => h) (Or.inl ⟨by rfl, ?_⟩) hHeld ?_
      rotate_left
      · (intro wX hSw; clear hSw; go_simp; try with_reducible rfl)
      try simp only [Act.put, List.setIfInBounds_toArray, List.set_cons_zero, List.set_cons_succ]
      refine wpAnyH_take (i := 1) (oi := _) (v := ?_) (by rw [List.getElem?_toArray]; exact rfl) (by kernel_rfl) (by kernel_rfl) (by kernel_rfl) (by exact fun _ _ _ h => h) (Or.inl ⟨by rfl, ?_⟩) hHeld ?_
      rotate_left
      · (intro wX hSw; clear hSw; go_simp; try with_reducible rfl)
      try simp only [Act.put, List.setIfInBounds_toArray, List.set_cons_zero, List.set_cons_succ]
      refine wpAnyH_take (i := 2) (oi := _) (v := ?_) (by rw [List.getElem?_toArray]; exact rfl) (by kernel_rfl) (by kernel_rfl) (by kernel_rfl) (by exact fun _ _ _ h => h) (Or.inl ⟨by rfl, ?_⟩) hHeld ?_
      rotate_left
      · (intro wX hSw; clear hSw; go_simp; try with_reducible rfl)
      try simp only [Act.put, List.setIfInBounds_toArray, List.set_cons_zero, List.set_cons_succ]
      refine wpAnyH_take (i := 3) (oi := _) (v := ?_) (by rw [List.getElem?_toArray]; exact rfl) (by kernel_rfl) (by kernel_rfl) (by kernel_rfl) (by exact fun _ _ _ h => h) (Or.inl ⟨by rfl, ?_⟩) hHeld ?_
      rotate_left
      · (intro wX hSw; clear hSw; go_simp; try with_reducible rfl)
      try simp only [Act.put, List.setIfInBounds_toArray, List.set_cons_zero, List.set_cons_succ]
      refine wpAnyH_take (i := 5) (oi := _) (v := ?_) (by rw [List.getElem?_toArray]; exact rfl) (by kernel_rfl) (by kernel_rfl) (by kernel_rfl) (by exact fun _ _ _ h => h) (Or.inl ⟨by rfl, ?_⟩) hHeld ?_
      rotate_left
      · (intro wX hSw; clear hSw; go_simp; try with_reducible rfl)
      try simp only [Act.put, List.setIfInBounds_toArray, List.set_cons_zero, List.set_cons_succ]
      refine wpAnyH_take (i := 6) (oi := _) (v := ?_) (by rw [List.getElem?_toArray]; exact rfl) (by kernel_rfl) (by kernel_rfl) (by kernel_rfl) (by exact fun _ _ _ h => h) (Or.inl ⟨by rfl, ?_⟩) hHeld ?_
      rotate_left
      · (intro wX hSw; obtain ⟨z0, z1, z2, z3, z4⟩ := op_cells hSw; clear hSw; go_simp; try with_reducible rfl)
      try simp only [Act.put, List.setIfInBounds_toArray, List.set_cons_zero, List.set_cons_succ]
      refine wpAnyH_ready (rs := [4, 7]) (by kernel_rfl) (by simp) ?_
      refine AllReadyH.cons (o := _) (by rw [List.getElem?_toArray]; exact rfl) (fun K hK => ?_) ?_
      · have x8 := (tx_cells (H3.out.1.below (show Below w3.heap.size w3 w3.drew from (Below.refl _ _).drew)).tx).2.2.2.2.2.2.2.1
        go_simp
        refine hK.out _ _ (hHeld) (fun hHeld => ?_)
        clear hK K
        try simp only [Act.put, List.setIfInBounds_toArray, List.set_cons_zero, List.set_cons_succ]
        refine wpAnyH_ready (rs := [7]) (by kernel_rfl) (by simp) ?_
        refine AllReadyH.cons (o := _) (by rw [List.getElem?_toArray]; exact rfl) (fun K hK => ?_) ?_
        · go_simp
          refine hK.out _ _ (hHeld.below ((Below.refl _ _).alloc (Nat.le_refl _) _)) (fun hHeld => ?_)
          clear hK K
          try simp only [Act.put, List.setIfInBounds_toArray, List.set_cons_zero, List.set_cons_succ]
          refine wpAnyH_ready (rs := [8]) (by kernel_rfl) (by simp) ?_
          refine AllReadyH.cons (o := _) (by rw [List.getElem?_toArray]; exact rfl) (fun K hK => ?_) ?_
          · have HNW := (heap_alloc_new w3.drew (.cells #[.int .i64 o.d] 3))
            obtain ⟨ig, hig, hg0, hg1, hg2⟩ := info_parts info_int
            obtain ⟨iv', w5, hap, hown5, hgrow, _⟩ := run_append_own (P := Tryz.prog) (w := w3.drew.alloc (.cells #[.int .i64 o.d] 3)) w0.heap.size 59 59 3 ig (.int .i64 0) 1 8 Tryz.underlying59 hig hg0 hg1 hg2 rfl (by decide) iv s3.into.length (s3.into.flatMap encN1) (own_below H3.out.1.tx.into (((Below.refl _ _).drew).alloc (Nat.le_refl _) _)) ⟨w3.heap.size, 0, none⟩ 1 1 (encN1 o.d) rfl (one_int w3.drew o.d) (by intro v hv; simp [encN1] at hv; subst hv; rfl) (by unfold maxLen; omega) (by omega) (by have := H3.out.1.fr.size; simp; omega)
            obtain ⟨ia5, ic5, rfl⟩ := own_slice hown5
            refine step_append_run rfl _ _ _ _ rfl _ _ (by simp [Act.eval]) (by simp [Act.eval]) hap ?_
            have HB5 := Lib.hid (box_typed (BoxAt.below H3.out.2 (((Below.refl _ _).drew).alloc (Nat.le_refl _) _)) (grow_fr' (Below.refl _ _) hgrow) (typed_own (own_below H3.out.1.tx.into (((Below.refl _ _).drew).alloc (Nat.le_refl _) _))) (by decide))
            refine hK.out _ _ (HB5.out) (fun hHeld => ?_)
            clear hK K
            try simp only [Act.put, List.setIfInBounds_toArray, List.set_cons_zero, List.set_cons_succ]
            refine wpAnyH_take (i := 9) (oi := _) (v := ?_) (by rw [List.getElem?_toArray]; exact rfl) (by kernel_rfl) (by kernel_rfl) (by kernel_rfl) (by exact fun _ _ _ h => h) (Or.inl ⟨by rfl, ?_⟩) hHeld ?_
            rotate_left
            · (intro wX hSw; clear hSw; go_simp; try with_reducible rfl)
            try simp only [Act.put, List.setIfInBounds_toArray, List.set_cons_zero, List.set_cons_succ]
            refine wpAnyH_take (i := 10) (oi := _) (v := ?_) (by rw [List.getElem?_toArray]; exact rfl) (by kernel_rfl) (by kernel_rfl) (by kernel_rfl) (by exact fun _ _ _ h => h) (Or.inl ⟨by rfl, ?_⟩) hHeld ?_
            rotate_left
            · (intro wX hSw; clear hSw; go_simp; try with_reducible rfl)
            try simp only [Act.put, List.setIfInBounds_toArray, List.set_cons_zero, List.set_cons_succ]
            refine wpAnyH_ready (rs := [11]) (by kernel_rfl) (by simp) ?_
            refine AllReadyH.cons (o := _) (by rw [List.getElem?_toArray]; exact rfl) (fun K hK => ?_) ?_
            · have HF := Lib.hid (grow_fr' (show Below w3.heap.size w3 (w3.drew.alloc (.cells #[.int .i64 o.d] 3)) from ((Below.refl _ _).drew).alloc (Nat.le_refl _) _) hgrow)
              have HP4 := Lib.hid (H3.out.1.pushI HF.out hown5)
              have hxb := box_typed H3.out.1.tx.box HF.out (typed_own H3.out.1.tx.into) (by decide)
              have x8 := hxb.cell 8
              have f8 := hxb.frozen 8
              simp only [txC, List.getElem?_toArray, List.getElem?_cons_zero, List.getElem?_cons_succ] at x8
              clear hxb
              go_simp
              refine hK.out _ _ (BoxAt.fr hHeld ((Fr.refl (fun i => i = x) w5).setCell (p := ⟨x, 8, none⟩) rfl _) HOBX.out) (fun hHeld => ?_)
              clear hK K
              try simp only [Act.put, List.setIfInBounds_toArray, List.set_cons_zero, List.set_cons_succ]
              refine wpAnyH_done (by kernel_rfl) ?_ _
              go_wp2_with fail
              go_meet
              exact ⟨_, HP4.out, hHeld⟩
            exact AllReadyH.nil
          exact AllReadyH.nil
        exact AllReadyH.nil
      refine AllReadyH.cons (o := _) (by rw [List.getElem?_toArray]; exact rfl) (fun K hK => ?_) ?_
      · go_simp
        refine hK.out _ _ (hHeld.below ((Below.refl _ _).alloc (Nat.le_refl _) _)) (fun hHeld => ?_)
        clear hK K
        try simp only [Act.put, List.setIfInBounds_toArray, List.set_cons_zero, List.set_cons_succ]
        refine wpAnyH_ready (rs := [4]) (by kernel_rfl) (by simp) ?_
        refine AllReadyH.cons (o := _) (by rw [List.getElem?_toArray]; exact rfl) (fun K hK => ?_) ?_
        · have x8 := (tx_cells (H3.out.1.below (show Below w3.heap.size w3 (w3.alloc (.cells #[.int .i64 o.d] 3)).drew from ((Below.refl _ _).alloc (Nat.le_refl _) _).drew)).tx).2.2.2.2.2.2.2.1
          go_simp
          refine hK.out _ _ (hHeld) (fun hHeld => ?_)
          clear hK K
          try simp only [Act.put, List.setIfInBounds_toArray, List.set_cons_zero, List.set_cons_succ]
          refine wpAnyH_ready (rs := [8]) (by kernel_rfl) (by simp) ?_
          refine AllReadyH.cons (o := _) (by rw [List.getElem?_toArray]; exact rfl) (fun K hK => ?_) ?_
          · have HNW := (heap_alloc_new w3.drew (.cells #[.int .i64 o.d] 3))
            obtain ⟨ig, hig, hg0, hg1, hg2⟩ := info_parts info_int
            obtain ⟨iv', w5, hap, hown5, hgrow, _⟩ := run_append_own (P := Tryz.prog) (w := w3.drew.alloc (.cells #[.int .i64 o.d] 3)) w0.heap.size 59 59 3 ig (.int .i64 0) 1 8 Tryz.underlying59 hig hg0 hg1 hg2 rfl (by decide) iv s3.into.length (s3.into.flatMap encN1) (own_below H3.out.1.tx.into (((Below.refl _ _).drew).alloc (Nat.le_refl _) _)) ⟨w3.heap.size, 0, none⟩ 1 1 (encN1 o.d) rfl (one_int w3.drew o.d) (by intro v hv; simp [encN1] at hv; subst hv; rfl) (by unfold maxLen; omega) (by omega) (by have := H3.out.1.fr.size; simp; omega)
            obtain ⟨ia5, ic5, rfl⟩ := own_slice hown5
            refine step_append_run rfl _ _ _ _ rfl _ _ (by simp [Act.eval]) (by simp [Act.eval]) hap ?_
            have HB5 := Lib.hid (box_typed (BoxAt.below H3.out.2 (((Below.refl _ _).drew).alloc (Nat.le_refl _) _)) (grow_fr' (Below.refl _ _) hgrow) (typed_own (own_below H3.out.1.tx.into (((Below.refl _ _).drew).alloc (Nat.le_refl _) _))) (by decide))
            refine hK.out _ _ (HB5.out) (fun hHeld => ?_)
            clear hK K
            try simp only [Act.put, List.setIfInBounds_toArray, List.set_cons_zero, List.set_cons_succ]
            refine wpAnyH_take (i := 9) (oi := _) (v := ?_) (by rw [List.getElem?_toArray]; exact rfl) (by kernel_rfl) (by kernel_rfl) (by kernel_rfl) (by exact fun _ _ _ h => h) (Or.inl ⟨by rfl, ?_⟩) hHeld ?_
            rotate_left
            · (intro wX hSw; clear hSw; go_simp; try with_reducible rfl)
            try simp only [Act.put, List.setIfInBounds_toArray, List.set_cons_zero, List.set_cons_succ]
            refine wpAnyH_take (i := 10) (oi := _) (v := ?_) (by rw [List.getElem?_toArray]; exact rfl) (by kernel_rfl) (by kernel_rfl) (by kernel_rfl) (by exact fun _ _ _ h => h) (Or.inl ⟨by rfl, ?_⟩) hHeld ?_
            rotate_left
            · (intro wX hSw; clear hSw; go_simp; try with_reducible rfl)
            try simp only [Act.put, List.setIfInBounds_toArray, List.set_cons_zero, List.set_cons_succ]
            refine wpAnyH_ready (rs := [11]) (by kernel_rfl) (by simp) ?_
            refine AllReadyH.cons (o := _) (by rw [List.getElem?_toArray]; exact rfl) (fun K hK => ?_) ?_
            · have HF := Lib.hid (grow_fr' (show Below w3.heap.size w3 (w3.drew.alloc (.cells #[.int .i64 o.d] 3)) from ((Below.refl _ _).drew).alloc (Nat.le_refl _) _) hgrow)
              have HP4 := Lib.hid (H3.out.1.pushI HF.out hown5)
              have hxb := box_typed H3.out.1.tx.box HF.out (typed_own H3.out.1.tx.into) (by decide)
              have x8 := hxb.cell 8
              have f8 := hxb.frozen 8
              simp only [txC, List.getElem?_toArray, List.getElem?_cons_zero, List.getElem?_cons_succ] at x8
              clear hxb
              go_simp
              refine hK.out _ _ (BoxAt.fr hHeld ((Fr.refl (fun i => i = x) w5).setCell (p := ⟨x, 8, none⟩) rfl _) HOBX.out) (fun hHeld => ?_)
              clear hK K
              try simp only [Act.put, List.setIfInBounds_toArray, List.set_cons_zero, List.set_cons_succ]
              refine wpAnyH_done (by kernel_rfl) ?_ _
              go_wp2_with fail
              go_meet
              exact ⟨_, HP4.out, hHeld⟩
            exact AllReadyH.nil
          exact AllReadyH.nil
        exact AllReadyH.nil
      exact AllReadyH.nil
    case rest =>
      obtain ⟨iv4, H4'⟩ := hcut
      have H4 := Lib.hid H4'
      clear H4' H3
      obtain ⟨s4, hs4⟩ : ∃ s4 : St, s4 = { s3 with into := s3.into ++ [o.d] } := ⟨_, rfl⟩
      rw [← hs4] at H4
      have HS4 := Lib.hid hs4
      clear hs4 hil
      have HPA := Lib.hid (H4.out.1.prog hpr hpl hdv)
      obtain ⟨hn0, hn1, hn2⟩ := ho.fk HK.out
      obtain ⟨j, hj⟩ : ∃ j : Nat, o.n = j := ⟨o.n.toNat, by omega⟩
      have hjl : j < p.length := by omega
      have hfa : fnAt p o.n = p[j] := by
        unfold fnAt
        rw [hj, List.getD_eq_getElem?_getD, Int.toNat_natCast, List.getElem?_eq_getElem hjl]; rfl
      have hfo := hp.2 _ (List.getElem_mem hjl)
      have hna0 := hfo.r0
      have hna1 := hfo.r1
      have hna2 := hfo.r2
      obtain ⟨pb, poff, pcap, he, hpb, hpc⟩ := HPA.out.fns.at (by omega)
      subst he
      have g0 := (fn_at hpc hjl).1
      rw [hfa] at hn2
      obtain ⟨na, hna⟩ : ∃ na : Nat, p[j].args = na := ⟨p[j].args.toNat, by omega⟩
      rw [hna] at g0 hn2 hna0 hna1
      have HNA := Lib.hid (show (fnAt p o.n).args = na by rw [hfa, hna])
      have HJ := Lib.hid hj
      have HKB0 := Lib.hid (show wc.heap.size < (wc.alloc (.cells (taC (kidS t.p (s.kids + 1)) o.n (.slice none 0 0) (s.left / 2)) TaskT)).heap.size by simp)
      have hA5 : Below wc.heap.size wc (wc.alloc (.cells (taC (kidS t.p (s.kids + 1)) o.n (.slice none 0 0) (s.left / 2)) TaskT)) := (Below.refl _ _).alloc (Nat.le_refl _) _
      have hkbx : BoxAt (wc.alloc (.cells (taC (kidS t.p (s.kids + 1)) o.n (.slice none 0 0) (s.left / 2)) TaskT)) wc.heap.size (taC (kidS t.p (s.kids + 1)) o.n (.slice none 0 0) (s.left / 2)) TaskT := heap_alloc_new _ _
      have H5 := Lib.hid (show FkW wk w0 Z W m _ dv0 l0 x r t aa ac dv iv4 wv nd ob o s4 _ ∧ _ from ⟨⟨H4.out.1.below hA5, H4.out.2.below hA5⟩, hkbx⟩)
      have g5 := cell_of hA5 g0
      have hab : s.regs.length = (fnAt p t.fn).regs := hi.rl
      have hr16 : s.regs.length ≤ 16 := by have h1 := (hp.fn ht.f0 ht.f1).r2; omega
      have hkb0 : w0.heap.size ≤ wc.heap.size := H4.out.1.fr.size
      have ha0 := ho.a0
      have ha16 := ho.a16
      have hrl : 0 < na → o.a + na ≤ s.regs.length := fun h => by have := hn2 (by omega); omega
      have HLL := Lib.hid (show (kidT p t s o).args.length = na from by have h1 := HKO.out.1.args; rw [show (kidT p t s o).fn = o.n from rfl, HNA.out] at h1; omega)
      have HRL := Lib.hid (show s4.regs = s.regs by rw [HS4.out, HS3.out])
      obtain ⟨k0, k1, k2, k3, k4⟩ := op_cells H4.out.2
      clear hna hfa hj hfo hpc hpb hn2 HPA hA5 hkbx hab g0 hna1 hna2
      go_upto_region 11 with fail
      simp only [taC] at H5 g5
      generalize wc.alloc (.cells #[.string (kidS t.p (s.kids + 1)), .int .i64 o.n, .slice none 0 0, .int .i64 (s.left / 2)] TaskT) = w5 at *
      generalize wc.heap.size = kb at *
      clear H4 k0 k1 k2 k3 k4 HKB0
      obtain ⟨k0, k1, k2, k3, k4⟩ := op_cells H5.out.1.2
      obtain ⟨x0, x1, x3, x4, x5, x6, x7, x8, x9⟩ := tx_cells H5.out.1.1.tx
      have q0 := H5.out.1.1.gl.box.cell 0
      simp only [List.getElem?_toArray, List.getElem?_cons_zero] at q0
      rw [HJ.out] at k4
      have hj0 : (0 : Int) ≤ (j : Int) := by omega
      have hj1 : (j : Int) < (p.length : Int) := by omega
      go_quiet (fail)
      have hBq : Below w5.heap.size w5 (w5.drewN nq) := below_drewN (Below.refl _ _) nq
      have H6 := Lib.hid (show FkW wk w0 Z W m (.slice (some ⟨pb, poff, none⟩) p.length pcap) dv0 l0 x r t aa ac dv iv4 wv nd ob o s4 (w5.drewN nq) ∧ BoxAt (w5.drewN nq) kb (taC (kidS t.p (s.kids + 1)) o.n (.slice none 0 0) (s.left / 2)) TaskT from ⟨⟨H5.out.1.1.below hBq, H5.out.1.2.below hBq⟩, H5.out.2.below hBq⟩)
      generalize w5.drewN nq = w6 at *
      clear H5 hBq k0 k1 k2 k3 k4 x0 x1 x3 x4 x5 x6 x7 x8 x9 q0 g5
      obtain ⟨k0, k1, k2, k3, k4⟩ := op_cells H6.out.1.2
      obtain ⟨x0, x1, x3, x4, x5, x6, x7, x8, x9⟩ := tx_cells H6.out.1.1.tx
      rw [HRL.out] at x5
      go_upto_if 86 with fail
      go_cut [] (fun wc => KdW wk w0 Z W m (.slice (some ⟨pb, poff, none⟩) p.length pcap) dv0 p l0 x r t aa ac dv iv4 wv nd ob kb o s s4 wc)
      case first =>
        by_cases hn : 0 < na
        · have hna1 : 0 < (na : Int) := by omega
          obtain ⟨A, hA⟩ : ∃ A : Nat, o.a = A := ⟨o.a.toNat, by omega⟩
          rw [hA] at k2
          have hAN := hrl hn
          have hA1 : A + na ≤ s.regs.length := by omega
          have HA := Lib.hid hA
          have HRD := Lib.hid (show ∀ y, FkW wk w0 Z W m (.slice (some ⟨pb, poff, none⟩) p.length pcap) dv0 l0 x r t aa ac dv iv4 wv nd ob o s4 y → ReadsK encN1 1 y (.slice (some ⟨r, A, none⟩) na (s.regs.length - A)) (kidT p t s o).args from fun y hy => reads_part (by have := hy.1.tx.regs; rw [HRL.out] at this; exact this) HLL.out.symm hA1 (by unfold kidT; rw [hA]; simp only [Int.toNat_natCast]; rw [HNA.out, Int.toNat_natCast]))
          clear hA hrl hAN
          go_upto_region 13 with fail
          have hw1 : IntKind.i64.wrap ((A : Int) + (na : Int)) = (A : Int) + (na : Int) := IntWalk.i64_in _ (by omega)
          have HSL := Lib.hid (show ∀ W, (Instr.slice 25 (.slice (some ⟨r, 0, none⟩) s.regs.length s.regs.length) (some (.int .i64 (A : Int))) (some (.int .i64 ((A : Int) + (na : Int)))) none).run Tryz.prog W = .ok (.slice (some ⟨r, A, none⟩) na (s.regs.length - A)) W from fun W => by
            have h1 := Lib.run_slice_window (P := Tryz.prog) W 25 2 Tryz.underlying25 (fun w => by kernel_rfl) r 0 s.regs.length s.regs.length A (A + na) (by omega) (by omega)
            rw [Nat.zero_add, Nat.add_sub_cancel_left, show ((A + na : Nat) : Int) = (A : Int) + (na : Int) from by omega] at h1
            exact h1)
          refine wp_region_held_drew (S := fun y => FkW wk w0 Z W m (.slice (some ⟨pb, poff, none⟩) p.length pcap) dv0 l0 x r t aa ac dv iv4 wv nd ob o s4 y) (by kernel_rfl) (⟨H6.out.1.1.below ((Below.refl _ _).drew), H6.out.1.2.below ((Below.refl _ _).drew)⟩) (fun hHeld => ?_)
          refine wpAnyH_take (i := 0) (oi := _) (v := ?_) (by rw [List.getElem?_toArray]; exact rfl) (by kernel_rfl) (by kernel_rfl) (by kernel_rfl) (by exact fun _ _ _ h => h) (Or.inl ⟨by rfl, ?_⟩) hHeld ?_
          rotate_left
          · (intro wX hSw; clear hSw; go_simp; try with_reducible rfl)
          try simp only [Act.put, List.setIfInBounds_toArray, List.set_cons_zero, List.set_cons_succ]
          refine wpAnyH_take (i := 1) (oi := _) (v := ?_) (by rw [List.getElem?_toArray]; exact rfl) (by kernel_rfl) (by kernel_rfl) (by kernel_rfl) (by exact fun _ _ _ h => h) (Or.inl ⟨by rfl, ?_⟩) hHeld ?_
          rotate_left
          · (intro wX hSw; clear hSw; go_simp; try with_reducible rfl)
          try simp only [Act.put, List.setIfInBounds_toArray, List.set_cons_zero, List.set_cons_succ]
          refine wpAnyH_take (i := 2) (oi := _) (v := ?_) (by rw [List.getElem?_toArray]; exact rfl) (by kernel_rfl) (by kernel_rfl) (by kernel_rfl) (by exact fun _ _ _ h => h) (Or.inl ⟨by rfl, ?_⟩) hHeld ?_
          rotate_left
          · (intro wX hSw; clear hSw; go_simp; try with_reducible rfl)
          try simp only [Act.put, List.setIfInBounds_toArray, List.set_cons_zero, List.set_cons_succ]
          refine wpAnyH_take (i := 3) (oi := _) (v := ?_) (by rw [List.getElem?_toArray]; exact rfl) (by kernel_rfl) (by kernel_rfl) (by kernel_rfl) (by exact fun _ _ _ h => h) (Or.inl ⟨by rfl, ?_⟩) hHeld ?_
          rotate_left
          · (intro wX hSw; have z5 := (tx_cells hSw.1.tx).2.2.2.2.1; rw [HRL.out] at z5; clear hSw; go_simp; try with_reducible rfl)
          try simp only [Act.put, List.setIfInBounds_toArray, List.set_cons_zero, List.set_cons_succ]
          refine wpAnyH_take (i := 4) (oi := _) (v := ?_) (by rw [List.getElem?_toArray]; exact rfl) (by kernel_rfl) (by kernel_rfl) (by kernel_rfl) (by exact fun _ _ _ h => h) (Or.inl ⟨by rfl, ?_⟩) hHeld ?_
          rotate_left
          · (intro wX hSw; clear hSw; go_simp; try with_reducible rfl)
          try simp only [Act.put, List.setIfInBounds_toArray, List.set_cons_zero, List.set_cons_succ]
          refine wpAnyH_take (i := 5) (oi := _) (v := ?_) (by rw [List.getElem?_toArray]; exact rfl) (by kernel_rfl) (by kernel_rfl) (by kernel_rfl) (by exact fun _ _ _ h => h) (Or.inl ⟨by rfl, ?_⟩) hHeld ?_
          rotate_left
          · (intro wX hSw; have z2 := (op_cells hSw.2).2.2.1; rw [HA.out] at z2; clear hSw; go_simp; try with_reducible rfl)
          try simp only [Act.put, List.setIfInBounds_toArray, List.set_cons_zero, List.set_cons_succ]
          refine wpAnyH_take (i := 6) (oi := _) (v := ?_) (by rw [List.getElem?_toArray]; exact rfl) (by kernel_rfl) (by kernel_rfl) (by kernel_rfl) (by exact fun _ _ _ h => h) (Or.inl ⟨by rfl, ?_⟩) hHeld ?_
          rotate_left
          · (intro wX hSw; clear hSw; go_simp; try with_reducible rfl)
          try simp only [Act.put, List.setIfInBounds_toArray, List.set_cons_zero, List.set_cons_succ]
          refine wpAnyH_take (i := 7) (oi := _) (v := ?_) (by rw [List.getElem?_toArray]; exact rfl) (by kernel_rfl) (by kernel_rfl) (by kernel_rfl) (by exact fun _ _ _ h => h) (Or.inl ⟨by rfl, ?_⟩) hHeld ?_
          rotate_left
          · (intro wX hSw; have z2 := (op_cells hSw.2).2.2.1; rw [HA.out] at z2; clear hSw; go_simp; try with_reducible rfl)
          try simp only [Act.put, List.setIfInBounds_toArray, List.set_cons_zero, List.set_cons_succ]
          refine wpAnyH_take (i := 8) (oi := _) (v := ?_) (by rw [List.getElem?_toArray]; exact rfl) (by kernel_rfl) (by kernel_rfl) (by kernel_rfl) (by exact fun _ _ _ h => h) (Or.inl ⟨by rfl, ?_⟩) hHeld ?_
          rotate_left
          · (intro wX hSw; clear hSw; go_simp; try with_reducible rfl)
          try simp only [Act.put, List.setIfInBounds_toArray, List.set_cons_zero, List.set_cons_succ]
          refine wpAnyH_take (i := 9) (oi := _) (v := ?_) (by rw [List.getElem?_toArray]; exact rfl) (by kernel_rfl) (by kernel_rfl) (by kernel_rfl) (by exact fun _ _ _ h => h) (Or.inl ⟨by rfl, ?_⟩) hHeld ?_
          rotate_left
          · (intro wX hSw; clear hSw; go_simp; try with_reducible rfl)
          try simp only [Act.put, List.setIfInBounds_toArray, List.set_cons_zero, List.set_cons_succ]
          refine wpAnyH_take (i := 10) (oi := _) (v := ?_) (by rw [List.getElem?_toArray]; exact rfl) (by kernel_rfl) (by kernel_rfl) (by kernel_rfl) (by exact fun _ _ _ h => h) (Or.inl ⟨by rfl, ?_⟩) hHeld ?_
          rotate_left
          · (intro wX hSw; clear hSw; have hsl := HSL.out; go_simp; try with_reducible rfl)
          try simp only [Act.put, List.setIfInBounds_toArray, List.set_cons_zero, List.set_cons_succ]
          refine wpAnyH_ready (rs := [11]) (by kernel_rfl) (by simp) ?_
          refine AllReadyH.cons (o := _) (by rw [List.getElem?_toArray]; exact rfl) (fun K hK => ?_) ?_
          · go_simp
            refine (clone_any _ (kidT p t s o).args _ (HRD.out _ hHeld) (by rw [HLL.out]; omega)).mono ?_; rintro e w7 ⟨ka, kc, rfl, hown, hBc⟩
            go_wp2_with fail
            refine hK.out _ _ (⟨hHeld.1.below hBc, hHeld.2.below hBc⟩) (fun hHeld => ?_)
            clear hK K
            try simp only [Act.put, List.setIfInBounds_toArray, List.set_cons_zero, List.set_cons_succ]
            refine wpAnyH_take (i := 12) (oi := _) (v := ?_) (by rw [List.getElem?_toArray]; exact rfl) (by kernel_rfl) (by kernel_rfl) (by kernel_rfl) (by exact fun _ _ _ h => h) (Or.inl ⟨by rfl, ?_⟩) hHeld ?_
            rotate_left
            · (intro wX hSw; clear hSw; go_simp; try with_reducible rfl)
            try simp only [Act.put, List.setIfInBounds_toArray, List.set_cons_zero, List.set_cons_succ]
            refine wpAnyH_ready (rs := [13]) (by kernel_rfl) (by simp) ?_
            refine AllReadyH.cons (o := _) (by rw [List.getElem?_toArray]; exact rfl) (fun K hK => ?_) ?_
            · have HKB := Lib.hid (H6.out.2.below (gthen (show Below w6.heap.size w6 w6.drew from (Below.refl _ _).drew) hBc))
              have HH := Lib.hid (show FkW wk w0 Z W m (.slice (some ⟨pb, poff, none⟩) p.length pcap) dv0 l0 x r t aa ac dv iv4 wv nd ob o s4 w7 from ⟨hHeld.1.below (Below.refl _ _), hHeld.2⟩)
              have HS8 := Lib.hid (show FkW wk w0 Z W m (.slice (some ⟨pb, poff, none⟩) p.length pcap) dv0 l0 x r t aa ac dv iv4 wv nd ob o s4 (w7.setCell ⟨kb, 2, none⟩ (.slice ka (kidT p t s o).args.length kc)) from by
                have hF : Fr (fun i => i = kb) w7 (w7.setCell ⟨kb, 2, none⟩ (.slice ka (kidT p t s o).args.length kc)) := (Fr.refl (fun i => i = kb) w7).setCell (p := ⟨kb, 2, none⟩) rfl _
                exact ⟨HH.out.1.other hF (typed_box HKB.out) (fun i hi => .inr (by omega)) (by decide) (by decide) (by decide) (by decide) (by decide) (by decide) (by decide), box_typed HH.out.2 hF (typed_box HKB.out) (by decide)⟩)
              have HO8 := Lib.hid (show (w7.setCell ⟨kb, 2, none⟩ (.slice ka (kidT p t s o).args.length kc)).ownsRow w0.heap.size I64T 1 (.slice ka (kidT p t s o).args.length kc) (kidT p t s o).args.length ((kidT p t s o).args.flatMap encN1) from by
                have hF : Fr (fun i => i = kb) w7 (w7.setCell ⟨kb, 2, none⟩ (.slice ka (kidT p t s o).args.length kc)) := (Fr.refl (fun i => i = kb) w7).setCell (p := ⟨kb, 2, none⟩) rfl _
                exact owns_base (own_typed hown hF (typed_box HKB.out) (by decide)) (show w0.heap.size ≤ w6.heap.size from H6.out.1.1.fr.size))
              have HNR := Lib.hid (show (Value.slice ka (kidT p t s o).args.length kc).ownBlock ≠ some r from fun e => by
                have h1 := (hown.lt r e).1
                have h2 : r < w6.heap.size := (Array.getElem?_eq_some_iff.1 H6.out.1.1.tx.regs).1
                have h3 : w6.heap.size ≤ r := h1
                omega)
              have f2 := HKB.out.frozen 2
              have c2 := HKB.out.cell 2
              simp only [taC, List.getElem?_toArray, List.getElem?_cons_zero, List.getElem?_cons_succ] at c2
              clear hown hBc
              go_simp
              refine hK.out _ _ (HS8.out) (fun hHeld => ?_)
              clear hK K
              try simp only [Act.put, List.setIfInBounds_toArray, List.set_cons_zero, List.set_cons_succ]
              refine wpAnyH_done (by kernel_rfl) ?_ _
              clear hw1
              go_wp2_with fail
              go_meet
              exact ⟨HS8.out, ka, kc, Go.heap_setCell_same _ kb 2 _ _ _ HKB.out, HO8.out, HNR.out⟩
            exact AllReadyH.nil
          exact AllReadyH.nil
        · have hna1 : ¬ 0 < (na : Int) := by omega
          have hz : (kidT p t s o).args = [] := List.length_eq_zero_iff.1 (by rw [HLL.out]; omega)
          have HZ := Lib.hid hz
          clear hz
          go_wp2_with fail
          go_meet
          refine ⟨H6.out.1, none, 0, ?_, ?_, ?_⟩
          · rw [HZ.out]; exact H6.out.2
          · rw [HZ.out]; exact World.ownsRow_nil _ _ _ _
          · intro e; cases e
      case rest =>
        obtain ⟨hfk, ka, kc, hkb, hown, hnr⟩ := hcut
        have H7 := Lib.hid hfk
        have HK7 := Lib.hid hkb
        have HLEN := Lib.hid (show nd.length = s.done.length from by
          have h1 := congrArg List.length hfk.1.dn
          rw [List.length_map, HS4.out, HS3.out] at h1
          exact h1)
        have HDO := Lib.hid (show Calls Tryz.prog 21 #[.pointer (some ⟨W, 0, none⟩), .agg #[.string (kidS t.p (s.kids + 1)), .int .i64 o.n, .slice ka (kidT p t s o).args.length kc, .int .i64 (s.left / 2)]] wc.drew (DoP Z W m (.slice (some ⟨pb, poff, none⟩) p.length pcap) dv (l0 ++ (⟨t, ⟨0, 0⟩, 0⟩, aa, ac) :: nd) D (kidT p t s o) ka kc wc.drew) from by
          have hBd : Below wc.heap.size wc wc.drew := (Below.refl _ _).drew
          have hR := hfk.1.below hBd
          refine hD (kidT p t s o) ka kc dv _ wc.drew HKO.out.1 HKO.out.2 hR.gl (hR.prog hpr hpl hdv) ?_ ?_ (owns_base (own_below hown hBd) hR.lo.1) ?_
          · have := hR.lo.2.2.2; have := hR.fr.size; omega
          · have := hR.lo.1; have := hR.fr.size; omega
          · have h1 := HLEN.out
            have h2 : (kidT p t s o).fuel = s.left / 2 := rfl
            simp only [List.length_append, List.length_cons]
            rw [h2, h1]
            push_cast
            omega)
        have HOW := Lib.hid hown
        have HNR := Lib.hid hnr
        have hwl : s4.waits.length ≤ 16 := by have h1 := hi.il; have h2 := hi.ik; have h3 := hi.k1; rw [HS4.out, HS3.out]; simp only []; omega
        clear hfk hkb hown hnr H6 x0 x1 x3 x4 x5 x6 x7 x8 x9 k0 k1 k2 k3 k4 hrl
        have HX4 := Lib.hid (tx_cells H7.out.1.tx)
        go_upto_region 14 with fail
        refine wp_region_held_drew (S := fun y => y.cell? ⟨x, 4, none⟩ = some (.pointer (some ⟨W, 0, none⟩)) ∧ BoxAt y kb (taC (kidS t.p (s.kids + 1)) o.n (.slice ka (kidT p t s o).args.length kc) (s.left / 2)) TaskT) (by kernel_rfl) (⟨HX4.out.2.2.2.1, HK7.out.below ((Below.refl _ _).drew)⟩) (fun hHeld => ?_)
        refine wpAnyH_take (i := 0) (oi := _) (v := ?_) (by rw [List.getElem?_toArray]; exact rfl) (by kernel_rfl) (by kernel_rfl) (by kernel_rfl) (by exact fun _ _ _ h => h) (Or.inl ⟨by rfl, ?_⟩) hHeld ?_
        rotate_left
        · (intro wX hSw; clear hSw; go_simp; try with_reducible rfl)
        try simp only [Act.put, List.setIfInBounds_toArray, List.set_cons_zero, List.set_cons_succ]
        refine wpAnyH_take (i := 1) (oi := _) (v := ?_) (by rw [List.getElem?_toArray]; exact rfl) (by kernel_rfl) (by kernel_rfl) (by kernel_rfl) (by exact fun _ _ _ h => h) (Or.inl ⟨by rfl, ?_⟩) hHeld ?_
        rotate_left
        · (intro wX hSw; clear hSw; go_simp; try with_reducible rfl)
        try simp only [Act.put, List.setIfInBounds_toArray, List.set_cons_zero, List.set_cons_succ]
        refine wpAnyH_take (i := 2) (oi := _) (v := ?_) (by rw [List.getElem?_toArray]; exact rfl) (by kernel_rfl) (by kernel_rfl) (by kernel_rfl) (by exact fun _ _ _ h => h) (Or.inl ⟨by rfl, ?_⟩) hHeld ?_
        rotate_left
        · (intro wX hSw; clear hSw; go_simp; try with_reducible rfl)
        try simp only [Act.put, List.setIfInBounds_toArray, List.set_cons_zero, List.set_cons_succ]
        refine wpAnyH_take (i := 3) (oi := _) (v := ?_) (by rw [List.getElem?_toArray]; exact rfl) (by kernel_rfl) (by kernel_rfl) (by kernel_rfl) (by exact fun _ _ _ h => h) (Or.inl ⟨by rfl, ?_⟩) hHeld ?_
        rotate_left
        · (intro wX hSw; clear hSw; go_simp; try with_reducible rfl)
        try simp only [Act.put, List.setIfInBounds_toArray, List.set_cons_zero, List.set_cons_succ]
        refine wpAnyH_take (i := 5) (oi := _) (v := ?_) (by rw [List.getElem?_toArray]; exact rfl) (by kernel_rfl) (by kernel_rfl) (by kernel_rfl) (by exact fun _ _ _ h => h) (Or.inl ⟨by rfl, ?_⟩) hHeld ?_
        rotate_left
        · (intro wX hSw; clear hSw; go_simp; try with_reducible rfl)
        try simp only [Act.put, List.setIfInBounds_toArray, List.set_cons_zero, List.set_cons_succ]
        refine wpAnyH_take (i := 6) (oi := _) (v := ?_) (by rw [List.getElem?_toArray]; exact rfl) (by kernel_rfl) (by kernel_rfl) (by kernel_rfl) (by exact fun _ _ _ h => h) (Or.inl ⟨by rfl, ?_⟩) hHeld ?_
        rotate_left
        · (intro wX hSw; clear hSw; go_simp; try with_reducible rfl)
        try simp only [Act.put, List.setIfInBounds_toArray, List.set_cons_zero, List.set_cons_succ]
        refine wpAnyH_take (i := 7) (oi := _) (v := ?_) (by rw [List.getElem?_toArray]; exact rfl) (by kernel_rfl) (by kernel_rfl) (by kernel_rfl) (by exact fun _ _ _ h => h) (Or.inl ⟨by rfl, ?_⟩) hHeld ?_
        rotate_left
        · (intro wX hSw; clear hSw; go_simp; try with_reducible rfl)
        try simp only [Act.put, List.setIfInBounds_toArray, List.set_cons_zero, List.set_cons_succ]
        refine wpAnyH_take (i := 8) (oi := _) (v := ?_) (by rw [List.getElem?_toArray]; exact rfl) (by kernel_rfl) (by kernel_rfl) (by kernel_rfl) (by exact fun _ _ _ h => h) (Or.inl ⟨by rfl, ?_⟩) hHeld ?_
        rotate_left
        · (intro wX hSw; have z4 := hSw.1; clear hSw; go_simp; try with_reducible rfl)
        try simp only [Act.put, List.setIfInBounds_toArray, List.set_cons_zero, List.set_cons_succ]
        refine wpAnyH_take (i := 9) (oi := _) (v := ?_) (by rw [List.getElem?_toArray]; exact rfl) (by kernel_rfl) (by kernel_rfl) (by kernel_rfl) (by exact fun _ _ _ h => h) (Or.inl ⟨by rfl, ?_⟩) hHeld ?_
        rotate_left
        · (intro wX hSw; have z0 := hSw.2.cell 0; have z1 := hSw.2.cell 1; have z2 := hSw.2.cell 2; have z3 := hSw.2.cell 3; simp only [taC, List.getElem?_toArray, List.getElem?_cons_zero, List.getElem?_cons_succ] at z0 z1 z2 z3; clear hSw; go_simp; try with_reducible rfl)
        try simp only [Act.put, List.setIfInBounds_toArray, List.set_cons_zero, List.set_cons_succ]
        refine wpAnyH_ready (rs := [4, 10]) (by kernel_rfl) (by simp) ?_
        refine AllReadyH.cons (o := _) (by rw [List.getElem?_toArray]; exact rfl) (fun K hK => ?_) ?_
        · have x9 := (tx_cells (H7.out.1.below (show Below wc.heap.size wc wc.drew from (Below.refl _ _).drew)).tx).2.2.2.2.2.2.2.2
          go_simp
          refine hK.out _ _ (hHeld) (fun hHeld => ?_)
          clear hK K
          try simp only [Act.put, List.setIfInBounds_toArray, List.set_cons_zero, List.set_cons_succ]
          refine wpAnyH_ready (rs := [10]) (by kernel_rfl) (by simp) ?_
          refine AllReadyH.cons (o := _) (by rw [List.getElem?_toArray]; exact rfl) (fun K hK => ?_) ?_
          · go_simp
            refine HDO.out.mono ?_; rintro e wd ⟨rfl, dv', k, nd', hg, hF, hs, hdn, hkt, hda⟩
            have HC := Lib.hid (show Rn wk w0 Z W m (.slice (some ⟨pb, poff, none⟩) p.length pcap) dv0 l0 x r t aa ac dv' iv4 wv (nd ++ (k, ka, kc) :: nd') { s4 with done := s4.done ++ ((k, ka, kc) :: nd').map (·.1) } wd from by
              have hBd : Below wc.heap.size wc wc.drew := (Below.refl _ _).drew
              have hR := H7.out.1.below hBd
              have hT : Typed (fun i => i = W ∨ dv.ownBlock = some i) wc.drew [WorldT, DoneT] := (typed_box hR.gl.box).or (typed_own hR.gl.own)
              refine hR.child hg hF hs hda ?_ ?_
              · have h1 := own_typed (own_below HOW.out hBd) hF hT (by decide)
                unfold ArgsAt argV
                simp only []
                rw [hkt]; exact h1
              · unfold argV
                simp only []
                rw [hkt]; exact HNR.out)
            have HKD := Lib.hid (show BoxAt wd kb (taC (kidS t.p (s.kids + 1)) o.n (.slice ka (kidT p t s o).args.length kc) (s.left / 2)) TaskT from by
              have hBd : Below wc.heap.size wc wc.drew := (Below.refl _ _).drew
              have hR := H7.out.1.below hBd
              exact box_typed (HK7.out.below hBd) hF ((typed_box hR.gl.box).or (typed_own hR.gl.own)) (by decide))
            have HDN := Lib.hid hdn
            clear hg hF hs hdn hkt hda
            go_wp2_with fail
            refine hK.out _ _ (⟨(tx_cells HC.out.tx).2.2.2.1, HKD.out⟩) (fun hHeld => ?_)
            clear hK K
            try simp only [Act.put, List.setIfInBounds_toArray, List.set_cons_zero, List.set_cons_succ]
            refine wpAnyH_ready (rs := [11]) (by kernel_rfl) (by simp) ?_
            refine AllReadyH.cons (o := _) (by rw [List.getElem?_toArray]; exact rfl) (fun K hK => ?_) ?_
            · go_simp
              refine hK.out _ _ (⟨cell_of ((Below.refl _ _).alloc (Nat.le_refl _) _) hHeld.1, hHeld.2.below ((Below.refl _ _).alloc (Nat.le_refl _) _)⟩) (fun hHeld => ?_)
              clear hK K
              try simp only [Act.put, List.setIfInBounds_toArray, List.set_cons_zero, List.set_cons_succ]
              refine wpAnyH_ready (rs := [12]) (by kernel_rfl) (by simp) ?_
              refine AllReadyH.cons (o := _) (by rw [List.getElem?_toArray]; exact rfl) (fun K hK => ?_) ?_
              · obtain ⟨ig, hig, hg0, hg1, hg2⟩ := info_parts info_res
                obtain ⟨wv', w9, hap, hown9, hgrow, _⟩ := run_append_own (P := Tryz.prog) (w := wd.alloc (.cells #[.int .i64 (D (kidT p t s o)).1.v, .int .i64 (D (kidT p t s o)).1.e] ResT)) w0.heap.size 102 102 ResT ig (.agg #[.int .i64 0, .int .i64 0]) 2 16 Tryz.underlying102 hig hg0 hg1 hg2 rfl (by decide) wv s4.waits.length (s4.waits.flatMap encRs) (own_below HC.out.tx.waits ((Below.refl _ _).alloc (Nat.le_refl _) _)) ⟨wd.heap.size, 0, none⟩ 1 1 (encRs (D (kidT p t s o)).1) rfl (one_res wd (D (kidT p t s o)).1) (by intro v hv; simp [encRs] at hv; rcases hv with rfl | rfl <;> rfl) (by unfold maxLen; omega) (by omega) (by have := HC.out.fr.size; simp; omega)
                obtain ⟨ia9, ic9, rfl⟩ := own_slice hown9
                have HF9 := Lib.hid (grow_fr' (show Below wd.heap.size wd (wd.alloc (.cells #[.int .i64 (D (kidT p t s o)).1.v, .int .i64 (D (kidT p t s o)).1.e] ResT)) from (Below.refl _ _).alloc (Nat.le_refl _) _) hgrow)
                have HX9 := Lib.hid (box_typed HC.out.tx.box HF9.out (typed_own HC.out.tx.waits) (by decide))
                have HK9 := Lib.hid (box_typed HKD.out HF9.out (typed_own HC.out.tx.waits) (by decide))
                refine step_append_run rfl _ _ _ _ rfl _ _ (by simp [Act.eval]) (by simp [Act.eval]) hap ?_
                refine hK.out _ _ (⟨HX9.out.cell 4, HK9.out⟩) (fun hHeld => ?_)
                clear hK K
                try simp only [Act.put, List.setIfInBounds_toArray, List.set_cons_zero, List.set_cons_succ]
                refine wpAnyH_take (i := 13) (oi := _) (v := ?_) (by rw [List.getElem?_toArray]; exact rfl) (by kernel_rfl) (by kernel_rfl) (by kernel_rfl) (by exact fun _ _ _ h => h) (Or.inl ⟨by rfl, ?_⟩) hHeld ?_
                rotate_left
                · (intro wX hSw; clear hSw; go_simp; try with_reducible rfl)
                try simp only [Act.put, List.setIfInBounds_toArray, List.set_cons_zero, List.set_cons_succ]
                refine wpAnyH_take (i := 14) (oi := _) (v := ?_) (by rw [List.getElem?_toArray]; exact rfl) (by kernel_rfl) (by kernel_rfl) (by kernel_rfl) (by exact fun _ _ _ h => h) (Or.inl ⟨by rfl, ?_⟩) hHeld ?_
                rotate_left
                · (intro wX hSw; clear hSw; go_simp; try with_reducible rfl)
                try simp only [Act.put, List.setIfInBounds_toArray, List.set_cons_zero, List.set_cons_succ]
                refine wpAnyH_ready (rs := [15]) (by kernel_rfl) (by simp) ?_
                refine AllReadyH.cons (o := _) (by rw [List.getElem?_toArray]; exact rfl) (fun K hK => ?_) ?_
                · have HPW := Lib.hid (HC.out.pushW HF9.out hown9)
                  have hF9s : Fr (fun i => i = x) w9 (w9.setCell ⟨x, 9, none⟩ (.slice ia9 (s4.waits.length + 1) ic9)) := (Fr.refl (fun i => i = x) w9).setCell (p := ⟨x, 9, none⟩) rfl _
                  have HXS := Lib.hid HPW.out.tx.box
                  have HKS := Lib.hid (box_typed HK9.out hF9s (typed_box HX9.out) (by decide))
                  have x9 := HX9.out.cell 9
                  have f9 := HX9.out.frozen 9
                  simp only [txC, List.getElem?_toArray, List.getElem?_cons_zero, List.getElem?_cons_succ] at x9
                  clear hF9s
                  go_simp
                  refine hK.out _ _ (⟨(HXS.out).cell 4, HKS.out⟩) (fun hHeld => ?_)
                  clear hK K
                  try simp only [Act.put, List.setIfInBounds_toArray, List.set_cons_zero, List.set_cons_succ]
                  refine wpAnyH_done (by kernel_rfl) ?_ _
                  clear hHeld hown9 hgrow hap
                  go_wp2_with fail
                  go_ret
                  refine ⟨ret_int (by rw [HE.out]), ?_⟩
                  rw [HE.out]
                  have h9 := HPW.out
                  generalize w9.setCell ⟨x, 9, none⟩ (.slice ia9 (s4.waits.length + 1) ic9) = wz at h9 ⊢
                  rw [← HDN.out, HS4.out, HS3.out] at h9
                  exact ⟨_, _, _, _, h9⟩
                exact AllReadyH.nil
              exact AllReadyH.nil
            exact AllReadyH.nil
          exact AllReadyH.nil
        refine AllReadyH.cons (o := _) (by rw [List.getElem?_toArray]; exact rfl) (fun K hK => ?_) ?_
        · go_simp
          refine HDO.out.mono ?_; rintro e wd ⟨rfl, dv', k, nd', hg, hF, hs, hdn, hkt, hda⟩
          have HC := Lib.hid (show Rn wk w0 Z W m (.slice (some ⟨pb, poff, none⟩) p.length pcap) dv0 l0 x r t aa ac dv' iv4 wv (nd ++ (k, ka, kc) :: nd') { s4 with done := s4.done ++ ((k, ka, kc) :: nd').map (·.1) } wd from by
            have hBd : Below wc.heap.size wc wc.drew := (Below.refl _ _).drew
            have hR := H7.out.1.below hBd
            have hT : Typed (fun i => i = W ∨ dv.ownBlock = some i) wc.drew [WorldT, DoneT] := (typed_box hR.gl.box).or (typed_own hR.gl.own)
            refine hR.child hg hF hs hda ?_ ?_
            · have h1 := own_typed (own_below HOW.out hBd) hF hT (by decide)
              unfold ArgsAt argV
              simp only []
              rw [hkt]; exact h1
            · unfold argV
              simp only []
              rw [hkt]; exact HNR.out)
          have HKD := Lib.hid (show BoxAt wd kb (taC (kidS t.p (s.kids + 1)) o.n (.slice ka (kidT p t s o).args.length kc) (s.left / 2)) TaskT from by
            have hBd : Below wc.heap.size wc wc.drew := (Below.refl _ _).drew
            have hR := H7.out.1.below hBd
            exact box_typed (HK7.out.below hBd) hF ((typed_box hR.gl.box).or (typed_own hR.gl.own)) (by decide))
          have HDN := Lib.hid hdn
          clear hg hF hs hdn hkt hda
          go_wp2_with fail
          refine hK.out _ _ (⟨(tx_cells HC.out.tx).2.2.2.1, HKD.out⟩) (fun hHeld => ?_)
          clear hK K
          try simp only [Act.put, List.setIfInBounds_toArray, List.set_cons_zero, List.set_cons_succ]
          refine wpAnyH_ready (rs := [4, 11]) (by kernel_rfl) (by simp) ?_
          refine AllReadyH.cons (o := _) (by rw [List.getElem?_toArray]; exact rfl) (fun K hK => ?_) ?_
          · have x9 := (tx_cells HC.out.tx).2.2.2.2.2.2.2.2
            go_simp
            refine hK.out _ _ (hHeld) (fun hHeld => ?_)
            clear hK K
            try simp only [Act.put, List.setIfInBounds_toArray, List.set_cons_zero, List.set_cons_succ]
            refine wpAnyH_ready (rs := [11]) (by kernel_rfl) (by simp) ?_
            refine AllReadyH.cons (o := _) (by rw [List.getElem?_toArray]; exact rfl) (fun K hK => ?_) ?_
            · go_simp
              refine hK.out _ _ (⟨cell_of ((Below.refl _ _).alloc (Nat.le_refl _) _) hHeld.1, hHeld.2.below ((Below.refl _ _).alloc (Nat.le_refl _) _)⟩) (fun hHeld => ?_)
              clear hK K
              try simp only [Act.put, List.setIfInBounds_toArray, List.set_cons_zero, List.set_cons_succ]
              refine wpAnyH_ready (rs := [12]) (by kernel_rfl) (by simp) ?_
              refine AllReadyH.cons (o := _) (by rw [List.getElem?_toArray]; exact rfl) (fun K hK => ?_) ?_
              · obtain ⟨ig, hig, hg0, hg1, hg2⟩ := info_parts info_res
                obtain ⟨wv', w9, hap, hown9, hgrow, _⟩ := run_append_own (P := Tryz.prog) (w := wd.alloc (.cells #[.int .i64 (D (kidT p t s o)).1.v, .int .i64 (D (kidT p t s o)).1.e] ResT)) w0.heap.size 102 102 ResT ig (.agg #[.int .i64 0, .int .i64 0]) 2 16 Tryz.underlying102 hig hg0 hg1 hg2 rfl (by decide) wv s4.waits.length (s4.waits.flatMap encRs) (own_below HC.out.tx.waits ((Below.refl _ _).alloc (Nat.le_refl _) _)) ⟨wd.heap.size, 0, none⟩ 1 1 (encRs (D (kidT p t s o)).1) rfl (one_res wd (D (kidT p t s o)).1) (by intro v hv; simp [encRs] at hv; rcases hv with rfl | rfl <;> rfl) (by unfold maxLen; omega) (by omega) (by have := HC.out.fr.size; simp; omega)
                obtain ⟨ia9, ic9, rfl⟩ := own_slice hown9
                have HF9 := Lib.hid (grow_fr' (show Below wd.heap.size wd (wd.alloc (.cells #[.int .i64 (D (kidT p t s o)).1.v, .int .i64 (D (kidT p t s o)).1.e] ResT)) from (Below.refl _ _).alloc (Nat.le_refl _) _) hgrow)
                have HX9 := Lib.hid (box_typed HC.out.tx.box HF9.out (typed_own HC.out.tx.waits) (by decide))
                have HK9 := Lib.hid (box_typed HKD.out HF9.out (typed_own HC.out.tx.waits) (by decide))
                refine step_append_run rfl _ _ _ _ rfl _ _ (by simp [Act.eval]) (by simp [Act.eval]) hap ?_
                refine hK.out _ _ (⟨HX9.out.cell 4, HK9.out⟩) (fun hHeld => ?_)
                clear hK K
                try simp only [Act.put, List.setIfInBounds_toArray, List.set_cons_zero, List.set_cons_succ]
                refine wpAnyH_take (i := 13) (oi := _) (v := ?_) (by rw [List.getElem?_toArray]; exact rfl) (by kernel_rfl) (by kernel_rfl) (by kernel_rfl) (by exact fun _ _ _ h => h) (Or.inl ⟨by rfl, ?_⟩) hHeld ?_
                rotate_left
                · (intro wX hSw; clear hSw; go_simp; try with_reducible rfl)
                try simp only [Act.put, List.setIfInBounds_toArray, List.set_cons_zero, List.set_cons_succ]
                refine wpAnyH_take (i := 14) (oi := _) (v := ?_) (by rw [List.getElem?_toArray]; exact rfl) (by kernel_rfl) (by kernel_rfl) (by kernel_rfl) (by exact fun _ _ _ h => h) (Or.inl ⟨by rfl, ?_⟩) hHeld ?_
                rotate_left
                · (intro wX hSw; clear hSw; go_simp; try with_reducible rfl)
                try simp only [Act.put, List.setIfInBounds_toArray, List.set_cons_zero, List.set_cons_succ]
                refine wpAnyH_ready (rs := [15]) (by kernel_rfl) (by simp) ?_
                refine AllReadyH.cons (o := _) (by rw [List.getElem?_toArray]; exact rfl) (fun K hK => ?_) ?_
                · have HPW := Lib.hid (HC.out.pushW HF9.out hown9)
                  have hF9s : Fr (fun i => i = x) w9 (w9.setCell ⟨x, 9, none⟩ (.slice ia9 (s4.waits.length + 1) ic9)) := (Fr.refl (fun i => i = x) w9).setCell (p := ⟨x, 9, none⟩) rfl _
                  have HXS := Lib.hid HPW.out.tx.box
                  have HKS := Lib.hid (box_typed HK9.out hF9s (typed_box HX9.out) (by decide))
                  have x9 := HX9.out.cell 9
                  have f9 := HX9.out.frozen 9
                  simp only [txC, List.getElem?_toArray, List.getElem?_cons_zero, List.getElem?_cons_succ] at x9
                  clear hF9s
                  go_simp
                  refine hK.out _ _ (⟨(HXS.out).cell 4, HKS.out⟩) (fun hHeld => ?_)
                  clear hK K
                  try simp only [Act.put, List.setIfInBounds_toArray, List.set_cons_zero, List.set_cons_succ]
                  refine wpAnyH_done (by kernel_rfl) ?_ _
                  clear hHeld hown9 hgrow hap
                  go_wp2_with fail
                  go_ret
                  refine ⟨ret_int (by rw [HE.out]), ?_⟩
                  rw [HE.out]
                  have h9 := HPW.out
                  generalize w9.setCell ⟨x, 9, none⟩ (.slice ia9 (s4.waits.length + 1) ic9) = wz at h9 ⊢
                  rw [← HDN.out, HS4.out, HS3.out] at h9
                  exact ⟨_, _, _, _, h9⟩
                exact AllReadyH.nil
              exact AllReadyH.nil
            exact AllReadyH.nil
          refine AllReadyH.cons (o := _) (by rw [List.getElem?_toArray]; exact rfl) (fun K hK => ?_) ?_
          · go_simp
            refine hK.out _ _ (⟨cell_of ((Below.refl _ _).alloc (Nat.le_refl _) _) hHeld.1, hHeld.2.below ((Below.refl _ _).alloc (Nat.le_refl _) _)⟩) (fun hHeld => ?_)
            clear hK K
            try simp only [Act.put, List.setIfInBounds_toArray, List.set_cons_zero, List.set_cons_succ]
            refine wpAnyH_ready (rs := [4]) (by kernel_rfl) (by simp) ?_
            refine AllReadyH.cons (o := _) (by rw [List.getElem?_toArray]; exact rfl) (fun K hK => ?_) ?_
            · have x9 := (tx_cells (HC.out.below (show Below wd.heap.size wd (wd.alloc (.cells #[.int .i64 (D (kidT p t s o)).1.v, .int .i64 (D (kidT p t s o)).1.e] ResT)) from (Below.refl _ _).alloc (Nat.le_refl _) _)).tx).2.2.2.2.2.2.2.2
              go_simp
              refine hK.out _ _ (hHeld) (fun hHeld => ?_)
              clear hK K
              try simp only [Act.put, List.setIfInBounds_toArray, List.set_cons_zero, List.set_cons_succ]
              refine wpAnyH_ready (rs := [12]) (by kernel_rfl) (by simp) ?_
              refine AllReadyH.cons (o := _) (by rw [List.getElem?_toArray]; exact rfl) (fun K hK => ?_) ?_
              · obtain ⟨ig, hig, hg0, hg1, hg2⟩ := info_parts info_res
                obtain ⟨wv', w9, hap, hown9, hgrow, _⟩ := run_append_own (P := Tryz.prog) (w := wd.alloc (.cells #[.int .i64 (D (kidT p t s o)).1.v, .int .i64 (D (kidT p t s o)).1.e] ResT)) w0.heap.size 102 102 ResT ig (.agg #[.int .i64 0, .int .i64 0]) 2 16 Tryz.underlying102 hig hg0 hg1 hg2 rfl (by decide) wv s4.waits.length (s4.waits.flatMap encRs) (own_below HC.out.tx.waits ((Below.refl _ _).alloc (Nat.le_refl _) _)) ⟨wd.heap.size, 0, none⟩ 1 1 (encRs (D (kidT p t s o)).1) rfl (one_res wd (D (kidT p t s o)).1) (by intro v hv; simp [encRs] at hv; rcases hv with rfl | rfl <;> rfl) (by unfold maxLen; omega) (by omega) (by have := HC.out.fr.size; simp; omega)
                obtain ⟨ia9, ic9, rfl⟩ := own_slice hown9
                have HF9 := Lib.hid (grow_fr' (show Below wd.heap.size wd (wd.alloc (.cells #[.int .i64 (D (kidT p t s o)).1.v, .int .i64 (D (kidT p t s o)).1.e] ResT)) from (Below.refl _ _).alloc (Nat.le_refl _) _) hgrow)
                have HX9 := Lib.hid (box_typed HC.out.tx.box HF9.out (typed_own HC.out.tx.waits) (by decide))
                have HK9 := Lib.hid (box_typed HKD.out HF9.out (typed_own HC.out.tx.waits) (by decide))
                refine step_append_run rfl _ _ _ _ rfl _ _ (by simp [Act.eval]) (by simp [Act.eval]) hap ?_
                refine hK.out _ _ (⟨HX9.out.cell 4, HK9.out⟩) (fun hHeld => ?_)
                clear hK K
                try simp only [Act.put, List.setIfInBounds_toArray, List.set_cons_zero, List.set_cons_succ]
                refine wpAnyH_take (i := 13) (oi := _) (v := ?_) (by rw [List.getElem?_toArray]; exact rfl) (by kernel_rfl) (by kernel_rfl) (by kernel_rfl) (by exact fun _ _ _ h => h) (Or.inl ⟨by rfl, ?_⟩) hHeld ?_
                rotate_left
                · (intro wX hSw; clear hSw; go_simp; try with_reducible rfl)
                try simp only [Act.put, List.setIfInBounds_toArray, List.set_cons_zero, List.set_cons_succ]
                refine wpAnyH_take (i := 14) (oi := _) (v := ?_) (by rw [List.getElem?_toArray]; exact rfl) (by kernel_rfl) (by kernel_rfl) (by kernel_rfl) (by exact fun _ _ _ h => h) (Or.inl ⟨by rfl, ?_⟩) hHeld ?_
                rotate_left
                · (intro wX hSw; clear hSw; go_simp; try with_reducible rfl)
                try simp only [Act.put, List.setIfInBounds_toArray, List.set_cons_zero, List.set_cons_succ]
                refine wpAnyH_ready (rs := [15]) (by kernel_rfl) (by simp) ?_
                refine AllReadyH.cons (o := _) (by rw [List.getElem?_toArray]; exact rfl) (fun K hK => ?_) ?_
                · have HPW := Lib.hid (HC.out.pushW HF9.out hown9)
                  have hF9s : Fr (fun i => i = x) w9 (w9.setCell ⟨x, 9, none⟩ (.slice ia9 (s4.waits.length + 1) ic9)) := (Fr.refl (fun i => i = x) w9).setCell (p := ⟨x, 9, none⟩) rfl _
                  have HXS := Lib.hid HPW.out.tx.box
                  have HKS := Lib.hid (box_typed HK9.out hF9s (typed_box HX9.out) (by decide))
                  have x9 := HX9.out.cell 9
                  have f9 := HX9.out.frozen 9
                  simp only [txC, List.getElem?_toArray, List.getElem?_cons_zero, List.getElem?_cons_succ] at x9
                  clear hF9s
                  go_simp
                  refine hK.out _ _ (⟨(HXS.out).cell 4, HKS.out⟩) (fun hHeld => ?_)
                  clear hK K
                  try simp only [Act.put, List.setIfInBounds_toArray, List.set_cons_zero, List.set_cons_succ]
                  refine wpAnyH_done (by kernel_rfl) ?_ _
                  clear hHeld hown9 hgrow hap
                  go_wp2_with fail
                  go_ret
                  refine ⟨ret_int (by rw [HE.out]), ?_⟩
                  rw [HE.out]
                  have h9 := HPW.out
                  generalize w9.setCell ⟨x, 9, none⟩ (.slice ia9 (s4.waits.length + 1) ic9) = wz at h9 ⊢
                  rw [← HDN.out, HS4.out, HS3.out] at h9
                  exact ⟨_, _, _, _, h9⟩
                exact AllReadyH.nil
              exact AllReadyH.nil
            exact AllReadyH.nil
          exact AllReadyH.nil
        exact AllReadyH.nil
  exact AllReadyH.nil
end Go.Proofs.YtdhbjejejeljoaaGreat
