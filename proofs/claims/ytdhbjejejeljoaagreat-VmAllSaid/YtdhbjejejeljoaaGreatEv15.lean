/- Contract: eval.world.do. -/
import Derived.Test.YtdhbjejejeljoaaGreatEv14
import Derived.Deep.OwnRows
import Derived.Laws.CopyOwn
import Derived.Deep.AppendLies
namespace Go.Proofs.YtdhbjejejeljoaaGreat
open Go.RowKit Go.Sort Go.Lib

theorem info_done : (Tryz.prog.info? 90).map (fun i => (i.zero, i.size, i.bytes)) = some (some (.agg #[.string ⟨#[]⟩, .int .i64 0, .slice none 0 0, .int .i64 0, .int .i64 0, .int .i64 0, .int .i64 0]), 7, 80) := by kernel_rfl
/-- Behind the entry's append. -/
def AfW (Z W m : Nat) (pv dv : Value) (l : List DnA) (tb x r : Nat) (t : Tk) (aa : Option Addr) (ac : Nat) (p : List Fnc) (w wc : World) : Prop :=
  ∃ dv', Gl Z W m pv dv' (l ++ [(⟨t, ⟨0, 0⟩, 0⟩, aa, ac)]) wc ∧ ProgAt wc pv p ∧ Fr (fun i => i = W ∨ dv.ownBlock = some i) w wc ∧ (∀ i, dv'.ownBlock = some i → (i = W ∨ dv.ownBlock = some i) ∨ w.heap.size ≤ i) ∧
    BoxAt wc tb (taC t.p t.fn (.slice aa t.args.length ac) t.fuel) TaskT ∧ BoxAt wc (tb + 1) (resC ⟨0, 0⟩) ResT ∧ BoxAt wc x (txC t (.slice aa t.args.length ac) W r (beginS p t) (.slice none 0 0) (.slice none 0 0)) TxT ∧ BoxAt wc r ((beginS p t).regs.map (Value.int .i64)).toArray I64T ∧
    ∀ d ∈ l ++ [(⟨t, ⟨0, 0⟩, 0⟩, aa, ac)], (argV d).ownBlock ≠ some r
theorem wpList_copy_fr {P : Program} {w : World} {ops : Array Oper} {rest : List Oper} {o : Oper} {a : Act} {Q : Exit → Act → World → Prop} (hgd : o.guard = none) (d s : Operand) (dT sT : TypeId)
    (ho : o.op = .call { callee := .builtin .copy, args := #[d, s], argTypes := #[dT, sT] }) (elem : TypeId) (hu : P.underlying dT = some (.slice elem)) (hsz : (P.info? elem).map (·.size) = some 1)
    (dp sp : Option Addr) (dLen dCap sLen sCap : Nat) (hd : a.eval d = .slice dp dLen dCap) (hs : a.eval s = .slice sp sLen sCap)
    (g off : Nat) (cur : List Value) (t : TypeId) (hg : w.heap[g]? = some (.cells cur.toArray t (0, 0))) (cs : List Value) (hn : cs.length = Nat.min sLen dLen)
    (hpos : 0 < cs.length → dp = some ⟨g, off, none⟩ ∧ ∃ ad, sp = some ad ∧ ∀ j v, cs[j]? = some v → w.cell? (ad.add j) = some v)
    (hfit : off + cs.length ≤ cur.length) (h1 : ∀ v ∈ cs, v.oneCell' = true)
    (h : ∀ w', Hid (w'.heap[g]? = some (.cells (splice cur off cs).toArray t (0, 0))) → Hid (Fr (fun i => i = g) w w') → wpList P ops Q rest (a.put o.dst (goInt cs.length)) w') :
    wpList P ops Q (o :: rest) a w := by
  by_cases h0 : cs.length = 0
  · obtain rfl : cs = [] := List.eq_nil_of_length_eq_zero h0
    refine wpList_copy_nothing hgd d s dT sT ho elem hu hsz dp sp dLen dCap sLen sCap hd hs (by simpa using hn.symm) ?_
    exact h w (show _ = _ by simpa [splice] using hg) (Fr.refl _ _)
  · obtain ⟨rfl, ad, rfl, hsrc⟩ := hpos (by omega)
    refine wpList_copy_own hgd d s dT sT ho elem hu hsz g off dLen dCap ad sLen sCap hd hs cur.toArray t hg cs hn hsrc (by simpa using hfit) h1 ?_
    exact h _ (show _ = _ by simpa [splice] using setRow_heap w g _ _ t _ hg) ⟨rfl, rfl, rfl, by simp [World.setRow], fun k hk hs => setRow_other w g k _ hs⟩
theorem made_box {w : World} {r n : Nat} (h : w.heap[r]? = some (.cells (madeCells #[.int .i64 0] n) I64T (0, 0))) : BoxAt w r ((List.replicate n (0 : Int)).map (Value.int .i64)).toArray I64T := by
  unfold BoxAt
  rw [h, List.map_replicate, ← toList_madeCells_one]
/-- Ahead of the run: the boxes of the call, below which nothing has turned. -/
structure DoW (w0 : World) (tb x r W : Nat) (t : Tk) (aa : Option Addr) (ac : Nat) (p : List Fnc) (rs : List Int) (y : World) : Prop where
  low : Below tb w0 y
  bt : BoxAt y tb (taC t.p t.fn (.slice aa t.args.length ac) t.fuel) TaskT
  br : BoxAt y (tb + 1) (resC ⟨0, 0⟩) ResT
  bx : BoxAt y x (txC t (.slice aa t.args.length ac) W r { beginS p t with regs := rs } (.slice none 0 0) (.slice none 0 0)) TxT
  rg : BoxAt y r (rs.map (Value.int .i64)).toArray I64T
  lt : tb + 1 < r ∧ r < x
theorem DoW.below {w0 : World} {tb x r W : Nat} {t : Tk} {aa : Option Addr} {ac : Nat} {p : List Fnc} {rs : List Int} {y y' : World} (h : DoW w0 tb x r W t aa ac p rs y) (hB : Below y.heap.size y y') : DoW w0 tb x r W t aa ac p rs y' := by
  have h1 : tb ≤ y.heap.size := by have := (Array.getElem?_eq_some_iff.1 h.bt).1; omega
  exact ⟨h.low.trans (hB.mono h1), h.bt.below hB, h.br.below hB, h.bx.below hB, h.rg.below hB, h.lt⟩
theorem DoW.copied {w0 : World} {tb x r W : Nat} {t : Tk} {aa : Option Addr} {ac : Nat} {p : List Fnc} {rs rs' : List Int} {y y' : World} (h : DoW w0 tb x r W t aa ac p rs y) (hr : y'.heap[r]? = some (.cells (rs'.map (Value.int .i64)).toArray I64T (0, 0))) (hF : Fr (fun i => i = r) y y') (hl : rs'.length = rs.length) : DoW w0 tb x r W t aa ac p rs' y' := by
  have hlt := h.lt
  have hbx := h.bx.fr hF (by omega)
  unfold txC at hbx
  simp only [] at hbx
  rw [← hl] at hbx
  have h1 : tb ≤ y.heap.size := by have := (Array.getElem?_eq_some_iff.1 h.bt).1; omega
  exact ⟨h.low.trans (hF.below (fun i hi => by omega) h1), h.bt.fr hF (by omega), h.br.fr hF (by omega), hbx, hr, h.lt⟩
theorem one_done (w : World) (d : DnA) : ∀ j u, (encDn d)[j]? = some u → (w.alloc (.cells #[.string d.1.t.p, .int .i64 d.1.t.fn, .slice d.2.1 d.1.t.args.length d.2.2, .int .i64 d.1.t.fuel, .int .i64 d.1.r.v, .int .i64 d.1.r.e, .int .i64 d.1.kids] DoneT)).cell? ((⟨w.heap.size, 0, none⟩ : Addr).add j) = some u := by
  intro j u hj
  have h := World.news_of_block (heap_alloc_new w (.cells #[.string d.1.t.p, .int .i64 d.1.t.fn, .slice d.2.1 d.1.t.args.length d.2.2, .int .i64 d.1.t.fuel, .int .i64 d.1.r.v, .int .i64 d.1.r.e, .int .i64 d.1.kids] DoneT)) j u
  exact h hj
theorem after_own {Z W m : Nat} {pv dv : Value} {l : List DnA} {tb x r gg gc H : Nat} {t : Tk} {aa : Option Addr} {ac : Nat} {p : List Fnc} {w w4 w9 : World} (hg : Gl Z W m pv dv l w4) (hpr : ProgAt w4 pv p) (hd : DoW w tb x r W t aa ac p (beginS p t).regs w4) (hs : ∀ d ∈ l, (argV d).ownBlock ≠ some r) (hpl : ProgLow Z pv p) (htb : w.heap.size = tb)
    (hF : Fr (fun i => dv.ownBlock = some i) w4 w9) (hb : BoxAt w9 W #[pv, .map (some m), dv] WorldT) (hFW : Fr (fun i => i = W) w9 (w9.setCell ⟨W, 2, none⟩ (.slice (some ⟨gg, 0, none⟩) (l.length + 1) gc)))
    (ho : w9.ownsRow Z DoneT 7 (.slice (some ⟨gg, 0, none⟩) (l.length + 1) gc) (l.length + 1) (l.flatMap encDn ++ encDn (⟨t, ⟨0, 0⟩, 0⟩, aa, ac))) (hat : dv.ownBlock = some gg ∨ gg = H) (hH : w4.heap.size ≤ H) (hown : w.ownsRow Z I64T 1 (.slice aa t.args.length ac) t.args.length (t.args.flatMap encN1)) :
    AfW Z W m pv dv l tb x r t aa ac p w (w9.setCell ⟨W, 2, none⟩ (.slice (some ⟨gg, 0, none⟩) (l.length + 1) gc)) := by
  have hT := typed_own hg.own
  have hTW := typed_box hb
  have hlow : Below w.heap.size w w4 := htb ▸ hd.low
  have hsz := hlow.size
  refine ⟨_, ⟨Go.heap_setCell_same w9 W 2 _ _ _ hb, ?_, map_typed (map_typed hg.cal hF hT) hFW hTW, ?_, hg.lo⟩, ?_, ?_, ?_, ?_, ?_, ?_, ?_, ?_⟩
  · have h1 := own_typed ho hFW hTW (by decide)
    simpa [List.flatMap_append] using h1
  · intro d hd'
    rcases List.mem_append.1 hd' with h1 | h1
    · exact own_typed (own_typed (hg.args d h1) hF hT (by decide)) hFW hTW (by decide)
    · rw [List.mem_singleton] at h1
      subst h1
      exact own_typed (own_typed (own_below hown hlow) hF hT (by decide)) hFW hTW (by decide)
  · exact (hpr.fr hpl hF (fun i hi => (hg.own.lt i hi).1)).fr hpl hFW (fun i hi => by have := hg.lo; omega)
  · exact ((Fr.of_below hlow).join hF (fun i hi => .inl (.inr hi))).join hFW (fun i hi => .inl (.inl hi))
  · intro i hi
    injection hi with hi
    subst hi
    rcases hat with h1 | h1
    · exact .inl (.inr h1)
    · exact .inr (by show w.heap.size ≤ gg; omega)
  · exact box_typed (box_typed hd.bt hF hT (by decide)) hFW hTW (by decide)
  · exact box_typed (box_typed hd.br hF hT (by decide)) hFW hTW (by decide)
  · exact box_typed (box_typed hd.bx hF hT (by decide)) hFW hTW (by decide)
  · exact box_typed (box_typed hd.rg hF hT (by decide)) hFW hTW (by decide)
  · intro d hd'
    rcases List.mem_append.1 hd' with h1 | h1
    · exact hs d h1
    · rw [List.mem_singleton] at h1
      subst h1
      intro e
      have h2 := (hown.lt r e).2
      have h3 := hd.lt.1
      omega
theorem own_set {w : World} {Z k n g cap j : Nat} {E : TypeId} {xs : List Value} {v : Value} (h : w.ownsRow Z E k (.slice (some ⟨g, 0, none⟩) n cap) n xs) : (w.setCell ⟨g, j, none⟩ v).ownsRow Z E k (.slice (some ⟨g, 0, none⟩) n cap) n (xs.set j v) := by
  obtain ⟨h0, ⟨hv, _⟩ | ⟨g', cap', cur, hv, h1, h2, h3, h4, h5, h6⟩⟩ := h
  · cases hv
  injection hv with e1 _ e3
  injection e1 with e1
  injection e1 with e1
  subst e1; subst e3
  refine ⟨by simp [h0], .inr ⟨g, cap, cur.setIfInBounds j v, rfl, h1, Go.heap_setCell_same w g j cur E v h2, h3, h4, by simp [h5], ?_⟩⟩
  rw [Array.toList_setIfInBounds, ← h6, List.take_set]
theorem own_cells {w : World} {Z g cap N : Nat} {l nd : List DnA} {o : DnA} (h : w.ownsRow Z DoneT 7 (.slice (some ⟨g, 0, none⟩) N cap) (l ++ o :: nd).length ((l ++ o :: nd).flatMap encDn)) (hN : (l ++ o :: nd).length = N) :
    w.cell? ⟨g, l.length * 7 + 4, none⟩ = some (.int .i64 o.1.r.v) ∧ w.cell? ⟨g, l.length * 7 + 5, none⟩ = some (.int .i64 o.1.r.e) ∧ w.cell? ⟨g, l.length * 7 + 6, none⟩ = some (.int .i64 o.1.kids) := by
  rw [← hN] at h
  obtain ⟨b, off, c, he, _, hc⟩ := (own_readsK (enc := encDn) (k := 7) encDn_len (by decide) h).at (by simp; omega)
  injection he with he _ _
  injection he with he
  injection he with e1 e2 _
  subst e1; subst e2
  have hl : l.length < (l ++ o :: nd).length := by simp
  have hg : (l ++ o :: nd)[l.length] = o := by simp
  have h4 := hc l.length hl 4 (.int .i64 o.1.r.v) (by rw [hg]; rfl)
  have h5 := hc l.length hl 5 (.int .i64 o.1.r.e) (by rw [hg]; rfl)
  have h6 := hc l.length hl 6 (.int .i64 o.1.kids) (by rw [hg]; rfl)
  rw [Nat.zero_add] at h4 h5 h6
  exact ⟨h4, h5, h6⟩
theorem own_frozen {w : World} {Z k n g cap : Nat} {E : TypeId} {xs : List Value} {m : Nat} (h : w.ownsRow Z E k (.slice (some ⟨g, 0, none⟩) n cap) m xs) (o : Nat) : w.frozen? ⟨g, o, none⟩ = false := by
  obtain ⟨h0, ⟨hv, _⟩ | ⟨g', cap', cur, hv, h1, h2, _⟩⟩ := h
  · cases hv
  injection hv with e1 _ e3
  injection e1 with e1
  injection e1 with e1
  subst e1
  simp [World.frozen?, h2]
theorem do_end {wz : World} {tmps : Array Value} {q : Rs} {r : Nat} {R : Ending → World → Prop}
    (hr : BoxAt wz r (resC q) ResT) (h2 : tmps.getD 4 undef = .pointer (some ⟨r, 0, none⟩)) (hR : R (.returned (.agg #[.int .i64 q.v, .int .i64 q.e])) wz) :
    bodyPost Tryz.prog Tryz.f21 R Exit.ret { tmps := tmps, defers := [] } wz := by
  have c0 := hr.cell 0
  have c1 := hr.cell 1
  simp only [resC, List.getElem?_toArray, List.getElem?_cons_zero, List.getElem?_cons_succ] at c0 c1
  refine bodyPost_ret (v := .agg #[.int .i64 q.v, .int .i64 q.e]) ?_ rfl hR
  have h2' : tmps[4]?.getD undef = .pointer (some ⟨r, 0, none⟩) := by simpa using h2
  simp [results, Tryz.results21, go_sem, h2', c0, c1]
theorem flat_set (l nd : List DnA) (t : Tk) (aa : Option Addr) (ac : Nat) (v e k : Int) : ((((l ++ (⟨t, ⟨0, 0⟩, 0⟩, aa, ac) :: nd).flatMap encDn).set (l.length * 7 + 4) (.int .i64 v)).set (l.length * 7 + 5) (.int .i64 e)).set (l.length * 7 + 6) (.int .i64 k) = (l ++ ((⟨t, ⟨v, e⟩, k⟩, aa, ac) : DnA) :: nd).flatMap encDn := by
  have hl : (l.flatMap encDn).length = l.length * 7 := flat_len (k := 7) encDn_len l
  rw [List.flatMap_append, List.flatMap_append, List.flatMap_cons, List.flatMap_cons]
  rw [List.set_append_right _ _ (by omega), List.set_append_right _ _ (by omega), List.set_append_right _ _ (by omega), hl]
  simp only [Nat.add_sub_cancel_left]
  rfl
theorem do_fin {wk wb : World} {Z W m : Nat} {pv dv' : Value} {l : List DnA} {x r g N gc : Nat} {t : Tk} {aa : Option Addr} {ac : Nat} {iv wv : Value} {nd : List DnA} {s : St} {w6 w7 : World} (h : Rn wk wb Z W m pv dv' l x r t aa ac (.slice (some ⟨g, 0, none⟩) N gc) iv wv nd s w6) (hN : (l ++ (⟨t, ⟨0, 0⟩, 0⟩, aa, ac) :: nd).length = N) (hB : Below w6.heap.size w6 w7) (v e k : Int) :
    Gl Z W m pv (.slice (some ⟨g, 0, none⟩) N gc) (l ++ (⟨t, ⟨v, e⟩, k⟩, aa, ac) :: nd) (((w7.setCell ⟨g, l.length * 7 + 4, none⟩ (.int .i64 v)).setCell ⟨g, l.length * 7 + 5, none⟩ (.int .i64 e)).setCell ⟨g, l.length * 7 + 6, none⟩ (.int .i64 k)) ∧
    Fr (fun i => i = g) w7 (((w7.setCell ⟨g, l.length * 7 + 4, none⟩ (.int .i64 v)).setCell ⟨g, l.length * 7 + 5, none⟩ (.int .i64 e)).setCell ⟨g, l.length * 7 + 6, none⟩ (.int .i64 k)) ∧ Typed (fun i => i = g) w7 [DoneT] ∧ ∀ d ∈ nd, ArgsAt wb.heap.size (((w7.setCell ⟨g, l.length * 7 + 4, none⟩ (.int .i64 v)).setCell ⟨g, l.length * 7 + 5, none⟩ (.int .i64 e)).setCell ⟨g, l.length * 7 + 6, none⟩ (.int .i64 k)) d := by
  have hF : Fr (fun i => i = g) w7 (((w7.setCell ⟨g, l.length * 7 + 4, none⟩ (.int .i64 v)).setCell ⟨g, l.length * 7 + 5, none⟩ (.int .i64 e)).setCell ⟨g, l.length * 7 + 6, none⟩ (.int .i64 k)) := (((Fr.refl (fun i => i = g) w7).setCell (p := ⟨g, l.length * 7 + 4, none⟩) rfl _).setCell (p := ⟨g, l.length * 7 + 5, none⟩) rfl _).setCell (p := ⟨g, l.length * 7 + 6, none⟩) rfl _
  have h7 := h.below hB
  have hT : Typed (fun i => i = g) w7 [DoneT] := fun i hi hl => typed_own h7.gl.own i (by rw [hi]; rfl) hl
  have ho := own_set (own_set (own_set (hN ▸ h7.gl.own) (j := l.length * 7 + 4) (v := .int .i64 v)) (j := l.length * 7 + 5) (v := .int .i64 e)) (j := l.length * 7 + 6) (v := .int .i64 k)
  rw [flat_set] at ho
  refine ⟨⟨box_typed h7.gl.box hF hT (by decide), ?_, map_typed h7.gl.cal hF hT, fun d hd => ?_, h7.gl.lo⟩, hF, hT, fun d hd => own_typed (h7.da d hd) hF hT (by decide)⟩
  · have e : (l ++ ((⟨t, ⟨v, e⟩, k⟩, aa, ac) : DnA) :: nd).length = N := by rw [← hN]; simp
    rw [e]; exact ho
  · rcases List.mem_append.1 hd with h1 | h1
    · exact own_typed (h7.gl.args d (List.mem_append_left _ h1)) hF hT (by decide)
    · rcases List.mem_cons.1 h1 with rfl | h1
      · have h2 := own_typed (h7.gl.args (⟨t, ⟨0, 0⟩, 0⟩, aa, ac) (by simp)) hF hT (by decide)
        exact h2
      · exact own_typed (h7.gl.args d (by simp [h1])) hF hT (by decide)
set_option maxHeartbeats 6400000 in
set_option maxRecDepth 100000 in
theorem do_step {Z W m : Nat} {pv : Value} {p : List Fnc} {n : Nat} (hp : WfP p) (hpl : ProgLow Z pv p) (hD : DoC Z W m pv p (doP p n) n) : DoC Z W m pv p (doP p (n + 1)) (n + 1 : Nat) := by
  intro t aa ac dv l w ht hf hg hpr hW hZ hown hlen
  have hu0 := ht.u0
  have hu1 := ht.u1
  obtain ⟨R, hR⟩ : ∃ R, runP p (doP p n) t (t.fuel.toNat + 1) (beginS p t) = R := ⟨_, rfl⟩
  have HDP := Lib.hid (show doP p (n + 1) t = (R.2, ⟨t, R.2, R.1.kids⟩ :: R.1.done) by rw [← hR]; rfl)
  have HR := Lib.hid hR
  have HDC := Lib.hid (show DoC Z W m pv p (doP p n) t.fuel from fun t' aa' ac' dv' l' w' h1 h2 => hD t' aa' ac' dv' l' w' h1 (by omega))
  have HDO := Lib.hid (show DOk p (doP p n) t.fuel from fun k h1 h2 => doP_ok hp n k h1 (by omega))
  have HG := Lib.hid hg
  have HPR := Lib.hid hpr
  have HOW := Lib.hid hown
  clear hR hD hg hpr hown
  obtain ⟨da, dc, hdv⟩ := own_slice HG.out.own
  subst hdv
  go_enter Tryz.func21, Tryz.ntmps21
  go_upto_region 1 with fail
  have H2 := Lib.hid (show Below w.heap.size w ((w.alloc (.cells (taC t.p t.fn (.slice aa t.args.length ac) t.fuel) TaskT)).alloc (.cells (resC ⟨0, 0⟩) ResT)) ∧ BoxAt ((w.alloc (.cells (taC t.p t.fn (.slice aa t.args.length ac) t.fuel) TaskT)).alloc (.cells (resC ⟨0, 0⟩) ResT)) w.heap.size (taC t.p t.fn (.slice aa t.args.length ac) t.fuel) TaskT ∧ BoxAt ((w.alloc (.cells (taC t.p t.fn (.slice aa t.args.length ac) t.fuel) TaskT)).alloc (.cells (resC ⟨0, 0⟩) ResT)) (w.heap.size + 1) (resC ⟨0, 0⟩) ResT from by
    have hA1 : Below w.heap.size w (w.alloc (.cells (taC t.p t.fn (.slice aa t.args.length ac) t.fuel) TaskT)) := (Below.refl _ _).alloc (Nat.le_refl _) _
    have hA2 : Below (w.alloc (.cells (taC t.p t.fn (.slice aa t.args.length ac) t.fuel) TaskT)).heap.size _ ((w.alloc (.cells (taC t.p t.fn (.slice aa t.args.length ac) t.fuel) TaskT)).alloc (.cells (resC ⟨0, 0⟩) ResT)) := (Below.refl _ _).alloc (Nat.le_refl _) _
    have b1 : BoxAt (w.alloc (.cells (taC t.p t.fn (.slice aa t.args.length ac) t.fuel) TaskT)) w.heap.size (taC t.p t.fn (.slice aa t.args.length ac) t.fuel) TaskT := heap_alloc_new _ _
    have b2 := heap_alloc_new (w.alloc (.cells (taC t.p t.fn (.slice aa t.args.length ac) t.fuel) TaskT)) (.cells (resC ⟨0, 0⟩) ResT)
    rw [show (w.alloc (.cells (taC t.p t.fn (.slice aa t.args.length ac) t.fuel) TaskT)).heap.size = w.heap.size + 1 by simp] at b2
    exact ⟨gthen hA1 hA2, b1.below hA2, b2⟩)
  simp only [taC, resC] at H2
  obtain ⟨w2, hw2⟩ : ∃ w2, (w.alloc (.cells #[.string t.p, .int .i64 t.fn, .slice aa t.args.length ac, .int .i64 t.fuel] TaskT)).alloc (.cells #[.int .i64 0, .int .i64 0] ResT) = w2 := ⟨_, rfl⟩
  rw [hw2] at H2 ⊢
  clear hw2
  obtain ⟨tb, htb⟩ : ∃ tb, w.heap.size = tb := ⟨_, rfl⟩
  have HTB := Lib.hid htb
  have hlow := H2.out.1
  have HG2 := Lib.hid (HG.out.below hlow)
  have HP2 := Lib.hid (HPR.out.below hlow)
  rw [htb] at H2 hW hZ ⊢
  clear htb hlow
  obtain ⟨fq, hfq⟩ : ∃ q : Nat, t.fn = q := ⟨t.fn.toNat, by have := ht.f0; omega⟩
  have hfl : fq < p.length := by have := ht.f1; omega
  have hfe : fnAt p t.fn = p[fq] := by
    unfold fnAt
    rw [hfq, List.getD_eq_getElem?_getD, Int.toNat_natCast, List.getElem?_eq_getElem hfl]; rfl
  have hfo := hp.2 _ (List.getElem_mem hfl)
  have hta := ht.args
  rw [hfe] at hta
  obtain ⟨pb, poff, pcap, he, hpb, hpc⟩ := HP2.out.fns.at (by omega)
  subst he
  have c1 := (fn_at hpc hfl).2.1
  have hr0 := hfo.r0
  have hr1 := hfo.r1
  have hr2 := hfo.r2
  obtain ⟨NR, hNR⟩ : ∃ q : Nat, p[fq].regs = q := ⟨p[fq].regs.toNat, by omega⟩
  rw [hNR] at c1 hr1 hr2
  have HNR := Lib.hid (show (fnAt p t.fn).regs = NR by rw [hfe, hNR])
  have hnl : t.args.length ≤ NR := by omega
  have HFQ := Lib.hid hfq
  clear hpc hpb hfo hfe hta hr0 hr1 hNR hfq
  have q1 : (fq : Int) < p.length := by omega
  have q0 : (0 : Int) ≤ fq := by omega
  have t0 := H2.out.2.1.cell 0; have t1 := H2.out.2.1.cell 1; have t2 := H2.out.2.1.cell 2; have t3 := H2.out.2.1.cell 3
  have w0c := HG2.out.box.cell 0
  simp only [List.getElem?_toArray, List.getElem?_cons_zero, List.getElem?_cons_succ] at t0 t1 t2 t3 w0c
  have HL2 := Lib.hid (show w2.cell? ⟨tb, 0, none⟩ = some (.string t.p) ∧ w2.cell? ⟨tb, 1, none⟩ = some (.int .i64 fq) ∧ w2.cell? ⟨tb, 2, none⟩ = some (.slice aa t.args.length ac) ∧ w2.cell? ⟨tb, 3, none⟩ = some (.int .i64 t.fuel) ∧ w2.cell? ⟨W, 0, none⟩ = some (.slice (some ⟨pb, poff, none⟩) p.length pcap) ∧ w2.cell? ⟨pb, poff + fq * 3 + 1, none⟩ = some (.int .i64 NR) from ⟨t0, HFQ.out ▸ t1, t2, t3, w0c, c1⟩)
  clear t0 t1 t2 t3 w0c c1
  refine wp_region_held_drew (S := fun y => Below w2.heap.size w2 y) (by kernel_rfl) ((Below.refl _ _).drew) (fun hHeld => ?_)
  refine wpAnyH_take (i := 0) (oi := _) (v := ?_) (by rw [List.getElem?_toArray]; exact rfl) (by kernel_rfl) (by kernel_rfl) (by kernel_rfl) (by exact fun _ _ _ h => h) (Or.inl ⟨by rfl, ?_⟩) hHeld ?_
  rotate_left
  · (intro wX hSw; have z0 := cell_of hSw HL2.out.1; have z1 := cell_of hSw HL2.out.2.1; have z2 := cell_of hSw HL2.out.2.2.1; have z3 := cell_of hSw HL2.out.2.2.2.1; have z4 := cell_of hSw HL2.out.2.2.2.2.1; have z5 := cell_of hSw HL2.out.2.2.2.2.2; clear hSw; go_simp; try with_reducible rfl)
  try simp only [Act.put, List.setIfInBounds_toArray, List.set_cons_zero, List.set_cons_succ]
  refine wpAnyH_take (i := 1) (oi := _) (v := ?_) (by rw [List.getElem?_toArray]; exact rfl) (by kernel_rfl) (by kernel_rfl) (by kernel_rfl) (by exact fun _ _ _ h => h) (Or.inl ⟨by rfl, ?_⟩) hHeld ?_
  rotate_left
  · (intro wX hSw; clear hSw; go_simp; try with_reducible rfl)
  try simp only [Act.put, List.setIfInBounds_toArray, List.set_cons_zero, List.set_cons_succ]
  refine wpAnyH_take (i := 2) (oi := _) (v := ?_) (by rw [List.getElem?_toArray]; exact rfl) (by kernel_rfl) (by kernel_rfl) (by kernel_rfl) (by exact fun _ _ _ h => h) (Or.inl ⟨by rfl, ?_⟩) hHeld ?_
  rotate_left
  · (intro wX hSw; clear hSw; go_simp; try with_reducible rfl)
  try simp only [Act.put, List.setIfInBounds_toArray, List.set_cons_zero, List.set_cons_succ]
  refine wpAnyH_take (i := 3) (oi := _) (v := ?_) (by rw [List.getElem?_toArray]; exact rfl) (by kernel_rfl) (by kernel_rfl) (by kernel_rfl) (by exact fun _ _ _ h => h) (Or.inl ⟨by rfl, ?_⟩) hHeld ?_
  rotate_left
  · (intro wX hSw; clear hSw; go_simp; try with_reducible rfl)
  try simp only [Act.put, List.setIfInBounds_toArray, List.set_cons_zero, List.set_cons_succ]
  refine wpAnyH_take (i := 4) (oi := _) (v := ?_) (by rw [List.getElem?_toArray]; exact rfl) (by kernel_rfl) (by kernel_rfl) (by kernel_rfl) (by exact fun _ _ _ h => h) (Or.inl ⟨by rfl, ?_⟩) hHeld ?_
  rotate_left
  · (intro wX hSw; clear hSw; go_simp; try with_reducible rfl)
  try simp only [Act.put, List.setIfInBounds_toArray, List.set_cons_zero, List.set_cons_succ]
  refine wpAnyH_take (i := 5) (oi := _) (v := ?_) (by rw [List.getElem?_toArray]; exact rfl) (by kernel_rfl) (by kernel_rfl) (by kernel_rfl) (by exact fun _ _ _ h => h) (Or.inl ⟨by rfl, ?_⟩) hHeld ?_
  rotate_left
  · (intro wX hSw; clear hSw; go_simp; try with_reducible rfl)
  try simp only [Act.put, List.setIfInBounds_toArray, List.set_cons_zero, List.set_cons_succ]
  refine wpAnyH_take (i := 6) (oi := _) (v := ?_) (by rw [List.getElem?_toArray]; exact rfl) (by kernel_rfl) (by kernel_rfl) (by kernel_rfl) (by exact fun _ _ _ h => h) (Or.inl ⟨by rfl, ?_⟩) hHeld ?_
  rotate_left
  · (intro wX hSw; have z0 := cell_of hSw HL2.out.1; have z1 := cell_of hSw HL2.out.2.1; have z2 := cell_of hSw HL2.out.2.2.1; have z3 := cell_of hSw HL2.out.2.2.2.1; have z4 := cell_of hSw HL2.out.2.2.2.2.1; have z5 := cell_of hSw HL2.out.2.2.2.2.2; clear hSw; go_simp; try with_reducible rfl)
  try simp only [Act.put, List.setIfInBounds_toArray, List.set_cons_zero, List.set_cons_succ]
  refine wpAnyH_take (i := 7) (oi := _) (v := ?_) (by rw [List.getElem?_toArray]; exact rfl) (by kernel_rfl) (by kernel_rfl) (by kernel_rfl) (by exact fun _ _ _ h => h) (Or.inl ⟨by rfl, ?_⟩) hHeld ?_
  rotate_left
  · (intro wX hSw; clear hSw; go_simp; try with_reducible rfl)
  try simp only [Act.put, List.setIfInBounds_toArray, List.set_cons_zero, List.set_cons_succ]
  refine wpAnyH_take (i := 8) (oi := _) (v := ?_) (by rw [List.getElem?_toArray]; exact rfl) (by kernel_rfl) (by kernel_rfl) (by kernel_rfl) (by exact fun _ _ _ h => h) (Or.inl ⟨by rfl, ?_⟩) hHeld ?_
  rotate_left
  · (intro wX hSw; have z0 := cell_of hSw HL2.out.1; have z1 := cell_of hSw HL2.out.2.1; have z2 := cell_of hSw HL2.out.2.2.1; have z3 := cell_of hSw HL2.out.2.2.2.1; have z4 := cell_of hSw HL2.out.2.2.2.2.1; have z5 := cell_of hSw HL2.out.2.2.2.2.2; clear hSw; go_simp; try with_reducible rfl)
  try simp only [Act.put, List.setIfInBounds_toArray, List.set_cons_zero, List.set_cons_succ]
  refine wpAnyH_take (i := 9) (oi := _) (v := ?_) (by rw [List.getElem?_toArray]; exact rfl) (by kernel_rfl) (by kernel_rfl) (by kernel_rfl) (by exact fun _ _ _ h => h) (Or.inl ⟨by rfl, ?_⟩) hHeld ?_
  rotate_left
  · (intro wX hSw; clear hSw; go_simp; try with_reducible rfl)
  try simp only [Act.put, List.setIfInBounds_toArray, List.set_cons_zero, List.set_cons_succ]
  refine wpAnyH_take (i := 10) (oi := _) (v := ?_) (by rw [List.getElem?_toArray]; exact rfl) (by kernel_rfl) (by kernel_rfl) (by kernel_rfl) (by exact fun _ _ _ h => h) (Or.inl ⟨by rfl, ?_⟩) hHeld ?_
  rotate_left
  · (intro wX hSw; clear hSw; go_simp; try with_reducible rfl)
  try simp only [Act.put, List.setIfInBounds_toArray, List.set_cons_zero, List.set_cons_succ]
  refine wpAnyH_take (i := 11) (oi := _) (v := ?_) (by rw [List.getElem?_toArray]; exact rfl) (by kernel_rfl) (by kernel_rfl) (by kernel_rfl) (by exact fun _ _ _ h => h) (Or.inl ⟨by rfl, ?_⟩) hHeld ?_
  rotate_left
  · (intro wX hSw; have z0 := cell_of hSw HL2.out.1; have z1 := cell_of hSw HL2.out.2.1; have z2 := cell_of hSw HL2.out.2.2.1; have z3 := cell_of hSw HL2.out.2.2.2.1; have z4 := cell_of hSw HL2.out.2.2.2.2.1; have z5 := cell_of hSw HL2.out.2.2.2.2.2; clear hSw; go_simp; try with_reducible rfl)
  try simp only [Act.put, List.setIfInBounds_toArray, List.set_cons_zero, List.set_cons_succ]
  refine wpAnyH_ready (rs := [12]) (by kernel_rfl) (by simp) ?_
  refine AllReadyH.cons (o := _) (by rw [List.getElem?_toArray]; exact rfl) (fun K hK => ?_) ?_
  · have hmk := Go.run_make_row' (P := Tryz.prog) 25 I64T (.int .i64 0) 8 Tryz.underlying25 info_i64 rfl .i64 .i64 NR (by omega) (by omega) w2.drew
    go_simp
    refine hK.out _ _ (hHeld.alloc hHeld.size _) (fun hHeld => ?_)
    clear hK K
    try simp only [Act.put, List.setIfInBounds_toArray, List.set_cons_zero, List.set_cons_succ]
    refine wpAnyH_take (i := 13) (oi := _) (v := ?_) (by rw [List.getElem?_toArray]; exact rfl) (by kernel_rfl) (by kernel_rfl) (by kernel_rfl) (by exact fun _ _ _ h => h) (Or.inl ⟨by rfl, ?_⟩) hHeld ?_
    rotate_left
    · (intro wX hSw; clear hSw; go_simp; try with_reducible rfl)
    try simp only [Act.put, List.setIfInBounds_toArray, List.set_cons_zero, List.set_cons_succ]
    refine wpAnyH_ready (rs := [14]) (by kernel_rfl) (by simp) ?_
    refine AllReadyH.cons (o := _) (by rw [List.getElem?_toArray]; exact rfl) (fun K hK => ?_) ?_
    · go_simp
      refine hK.out _ _ (hHeld.alloc hHeld.size _) (fun hHeld => ?_)
      clear hK K
      try simp only [Act.put, List.setIfInBounds_toArray, List.set_cons_zero, List.set_cons_succ]
      refine wpAnyH_take (i := 15) (oi := _) (v := ?_) (by rw [List.getElem?_toArray]; exact rfl) (by kernel_rfl) (by kernel_rfl) (by kernel_rfl) (by exact fun _ _ _ h => h) (Or.inl ⟨by rfl, ?_⟩) hHeld ?_
      rotate_left
      · (intro wX hSw; clear hSw; go_simp; try with_reducible rfl)
      try simp only [Act.put, List.setIfInBounds_toArray, List.set_cons_zero, List.set_cons_succ]
      refine wpAnyH_done (by kernel_rfl) ?_ _
      clear hmk
      go_wp2_with fail
      have HD3 := Lib.hid (show DoW w tb (w2.heap.size + 1) w2.heap.size W t aa ac p (List.replicate NR 0) ((w2.alloc (.cells (madeCells #[.int .i64 0] NR) I64T)).alloc (.cells #[.string t.p, .int .i64 (fq : Int), .slice aa t.args.length ac, .int .i64 t.fuel, .pointer (some ⟨W, 0, none⟩), .slice (some ⟨w2.heap.size, 0, none⟩) NR NR, .int .i64 0, .int .i64 0, .slice none 0 0, .slice none 0 0] TxT)).drew from by
        have hB1 : Below w2.heap.size w2 (w2.alloc (.cells (madeCells #[.int .i64 0] NR) I64T)) := (Below.refl _ _).alloc (Nat.le_refl _) _
        have hB2 : Below ((w2.alloc (.cells (madeCells #[.int .i64 0] NR) I64T))).heap.size (w2.alloc (.cells (madeCells #[.int .i64 0] NR) I64T)) ((w2.alloc (.cells (madeCells #[.int .i64 0] NR) I64T)).alloc (.cells #[.string t.p, .int .i64 (fq : Int), .slice aa t.args.length ac, .int .i64 t.fuel, .pointer (some ⟨W, 0, none⟩), .slice (some ⟨w2.heap.size, 0, none⟩) NR NR, .int .i64 0, .int .i64 0, .slice none 0 0, .slice none 0 0] TxT)).drew := ((Below.refl _ _).alloc (Nat.le_refl _) _).drew
        have hB := gthen hB1 hB2
        have e1 : ((w2.alloc (.cells (madeCells #[.int .i64 0] NR) I64T))).heap.size = w2.heap.size + 1 := by simp
        have b1 : BoxAt (w2.alloc (.cells (madeCells #[.int .i64 0] NR) I64T)) w2.heap.size ((List.replicate NR (0 : Int)).map (Value.int .i64)).toArray I64T := made_box (heap_alloc_new _ _)
        have h3 := (Array.getElem?_eq_some_iff.1 H2.out.2.2).1
        refine ⟨H2.out.1.trans (hB.mono (by omega)), H2.out.2.1.below hB, H2.out.2.2.below hB, ?_, b1.below hB2, ⟨h3, Nat.lt_succ_self _⟩⟩
        have b2 := heap_alloc_new (w2.alloc (.cells (madeCells #[.int .i64 0] NR) I64T)) (.cells (txC t (.slice aa t.args.length ac) W w2.heap.size { beginS p t with regs := List.replicate NR 0 } (.slice none 0 0) (.slice none 0 0)) TxT)
        rw [e1] at b2
        unfold txC beginS at b2
        simp only [List.length_replicate] at b2
        unfold BoxAt txC beginS
        simp only [List.length_replicate]
        rw [HFQ.out] at b2 ⊢
        exact b2)
      have HB3 := Lib.hid (show Below w2.heap.size w2 ((w2.alloc (.cells (madeCells #[.int .i64 0] NR) I64T)).alloc (.cells #[.string t.p, .int .i64 (fq : Int), .slice aa t.args.length ac, .int .i64 t.fuel, .pointer (some ⟨W, 0, none⟩), .slice (some ⟨w2.heap.size, 0, none⟩) NR NR, .int .i64 0, .int .i64 0, .slice none 0 0, .slice none 0 0] TxT)).drew from ((Below.refl _ _).alloc (Nat.le_refl _) _ |>.alloc (by simp) _).drew)
      have HGP3 := Lib.hid (show Gl Z W m (.slice (some ⟨pb, poff, none⟩) p.length pcap) (.slice da l.length dc) l ((w2.alloc (.cells (madeCells #[.int .i64 0] NR) I64T)).alloc (.cells #[.string t.p, .int .i64 (fq : Int), .slice aa t.args.length ac, .int .i64 t.fuel, .pointer (some ⟨W, 0, none⟩), .slice (some ⟨w2.heap.size, 0, none⟩) NR NR, .int .i64 0, .int .i64 0, .slice none 0 0, .slice none 0 0] TxT)).drew ∧ ProgAt ((w2.alloc (.cells (madeCells #[.int .i64 0] NR) I64T)).alloc (.cells #[.string t.p, .int .i64 (fq : Int), .slice aa t.args.length ac, .int .i64 t.fuel, .pointer (some ⟨W, 0, none⟩), .slice (some ⟨w2.heap.size, 0, none⟩) NR NR, .int .i64 0, .int .i64 0, .slice none 0 0, .slice none 0 0] TxT)).drew (.slice (some ⟨pb, poff, none⟩) p.length pcap) p from ⟨HG2.out.below HB3.out, HP2.out.below HB3.out⟩)
      have HOW3 := Lib.hid (own_below (own_below HOW.out (show Below w.heap.size w w2 from by rw [HTB.out]; exact H2.out.1)) HB3.out)
      have HSEP := Lib.hid (show ∀ d ∈ l, (argV d).ownBlock ≠ some w2.heap.size from fun d hd e => by have := ((HG2.out.args d hd).lt _ e).2; omega)
      clear hHeld H2 HG2 HP2 HL2 HB3
      generalize ((w2.alloc (.cells (madeCells #[.int .i64 0] NR) I64T)).alloc (.cells #[.string t.p, .int .i64 (fq : Int), .slice aa t.args.length ac, .int .i64 t.fuel, .pointer (some ⟨W, 0, none⟩), .slice (some ⟨w2.heap.size, 0, none⟩) NR NR, .int .i64 0, .int .i64 0, .slice none 0 0, .slice none 0 0] TxT)).drew = w3 at *
      generalize w2.heap.size = r at *
      have hlr := HD3.out.lt.1
      obtain ⟨x, hx⟩ : ∃ x, r + 1 = x := ⟨_, rfl⟩
      rw [hx] at HD3 ⊢
      clear hx
      have tb2 := HD3.out.bt.cell 2
      have xr := HD3.out.bx.cell 5
      simp only [taC, txC, List.length_replicate, List.getElem?_toArray, List.getElem?_cons_zero, List.getElem?_cons_succ] at tb2 xr
      obtain ⟨cs, hcs⟩ : ∃ cs : List Value, cs = t.args.map (Value.int .i64) := ⟨_, rfl⟩
      obtain ⟨cur, hcur⟩ : ∃ cur : List Value, cur = (List.replicate NR (0 : Int)).map (Value.int .i64) := ⟨_, rfl⟩
      have HCS := Lib.hid (show cs.length = Nat.min t.args.length NR ∧ (0 < cs.length → some (⟨r, 0, none⟩ : Addr) = some ⟨r, 0, none⟩ ∧ ∃ ad, aa = some ad ∧ ∀ j v, cs[j]? = some v → w3.drew.cell? (ad.add j) = some v) ∧ 0 + cs.length ≤ cur.length ∧ ∀ v ∈ cs, v.oneCell' = true from by
        have hcl : cs.length = t.args.length := by rw [hcs, List.length_map]
        refine ⟨by rw [hcl]; exact (Nat.min_eq_left hnl).symm, fun h0 => ⟨rfl, ?_⟩, by rw [hcl, hcur]; simp; exact hnl, fun v hv => by rw [hcs] at hv; obtain ⟨y, _, rfl⟩ := List.mem_map.1 hv; rfl⟩
        obtain ⟨b, off, c, he, hb, hc⟩ := (own_readsK (enc := encN1) (k := 1) (fun _ => rfl) (by decide) HOW3.out).at (by omega)
        injection he with he _ _
        subst he
        refine ⟨_, rfl, fun j v hv => ?_⟩
        have hj : j < t.args.length := by have := (List.getElem?_eq_some_iff.1 hv).1; omega
        rw [hcs, List.getElem?_map, List.getElem?_eq_getElem hj] at hv
        injection hv with hv
        have h1 := hc j hj 0 _ rfl
        rw [Nat.mul_one, Nat.add_zero] at h1
        rw [Addr.add_lit, ← hv]; exact h1)
      have HSPL := Lib.hid (show splice cur 0 cs = (beginS p t).regs.map (Value.int .i64) from by
        unfold splice beginS
        rw [hcur, hcs, HNR.out]
        simp only [List.take_zero, List.nil_append, List.map_append, Nat.zero_add, List.length_map, Int.toNat_natCast, List.map_replicate, List.drop_replicate])
      have HRG := Lib.hid (show w3.drew.heap[r]? = some (.cells cur.toArray I64T (0, 0)) from by have h1 := HD3.out.rg; rw [← hcur] at h1; exact h1)
      clear hcs hcur
      go_upto_region 2 with fail
      go_still_tail 6, (by kernel_rfl)
      change wpList _ _ _ _ _ w3.drew
      refine wpList_copy_fr rfl _ _ 25 25 rfl I64T Tryz.underlying25 (by kernel_rfl) (some ⟨r, 0, none⟩) aa NR NR t.args.length ac rfl rfl r 0 cur I64T HRG.out cs HCS.out.1 HCS.out.2.1 HCS.out.2.2.1 HCS.out.2.2.2 ?_
      intro w4 HW4 HF4
      have HD4 := Lib.hid (show DoW w tb x r W t aa ac p (beginS p t).regs w4 from (HD3.out.below (Below.refl _ _).drew).copied (by rw [← HSPL.out]; exact HW4.out) HF4.out (by unfold beginS; simp only [List.length_append, List.length_replicate]; rw [HNR.out]; omega))
      have HGP4 := Lib.hid (show Gl Z W m (.slice (some ⟨pb, poff, none⟩) p.length pcap) (.slice da l.length dc) l w4 ∧ ProgAt w4 (.slice (some ⟨pb, poff, none⟩) p.length pcap) p from ⟨(HGP3.out.1.below (Below.refl _ _).drew).regs (HD3.out.rg.below (Below.refl _ _).drew) HSEP.out HF4.out, (HGP3.out.2.below (Below.refl _ _).drew).fr hpl HF4.out (fun i hi => by omega)⟩)
      clear HW4 HF4 HRG HSPL HCS tb2 xr HD3 HGP3 HOW3
      have w4c := HGP4.out.1.box.cell 2
      have w4d := HGP4.out.1.box.cell 0
      simp only [List.getElem?_toArray, List.getElem?_cons_zero, List.getElem?_cons_succ] at w4c w4d
      go_upto_region 4 with fail
      clear w4c w4d
      go_cut [] (fun wc => AfW Z W m (.slice (some ⟨pb, poff, none⟩) p.length pcap) (.slice da l.length dc) l tb x r t aa ac p w wc)
      case first =>
        refine wp_region_held_drew (S := fun y => BoxAt y tb (taC t.p t.fn (.slice aa t.args.length ac) t.fuel) TaskT) (by kernel_rfl) (HD4.out.bt.below ((Below.refl _ _).drew)) (fun hHeld => ?_)
        refine wpAnyH_take (i := 0) (oi := _) (v := ?_) (by rw [List.getElem?_toArray]; exact rfl) (by kernel_rfl) (by kernel_rfl) (by kernel_rfl) (by exact fun _ _ _ h => h) (Or.inl ⟨by rfl, ?_⟩) hHeld ?_
        rotate_left
        · (intro wX hSw; clear hSw; go_simp; try with_reducible rfl)
        try simp only [Act.put, List.setIfInBounds_toArray, List.set_cons_zero, List.set_cons_succ]
        refine wpAnyH_take (i := 1) (oi := _) (v := ?_) (by rw [List.getElem?_toArray]; exact rfl) (by kernel_rfl) (by kernel_rfl) (by kernel_rfl) (by exact fun _ _ _ h => h) (Or.inl ⟨by rfl, ?_⟩) hHeld ?_
        rotate_left
        · (intro wX hSw; clear hSw; go_simp; try with_reducible rfl)
        try simp only [Act.put, List.setIfInBounds_toArray, List.set_cons_zero, List.set_cons_succ]
        refine wpAnyH_take (i := 2) (oi := _) (v := ?_) (by rw [List.getElem?_toArray]; exact rfl) (by kernel_rfl) (by kernel_rfl) (by kernel_rfl) (by exact fun _ _ _ h => h) (Or.inl ⟨by rfl, ?_⟩) hHeld ?_
        rotate_left
        · (intro wX hSw; clear hSw; go_simp; try with_reducible rfl)
        try simp only [Act.put, List.setIfInBounds_toArray, List.set_cons_zero, List.set_cons_succ]
        refine wpAnyH_take (i := 3) (oi := _) (v := ?_) (by rw [List.getElem?_toArray]; exact rfl) (by kernel_rfl) (by kernel_rfl) (by kernel_rfl) (by exact fun _ _ _ h => h) (Or.inl ⟨by rfl, ?_⟩) hHeld ?_
        rotate_left
        · (intro wX hSw; clear hSw; go_simp; try with_reducible rfl)
        try simp only [Act.put, List.setIfInBounds_toArray, List.set_cons_zero, List.set_cons_succ]
        refine wpAnyH_take (i := 5) (oi := _) (v := ?_) (by rw [List.getElem?_toArray]; exact rfl) (by kernel_rfl) (by kernel_rfl) (by kernel_rfl) (by exact fun _ _ _ h => h) (Or.inl ⟨by rfl, ?_⟩) hHeld ?_
        rotate_left
        · (intro wX hSw; have z0 := BoxAt.cell hSw 0; have z1 := BoxAt.cell hSw 1; have z2 := BoxAt.cell hSw 2; have z3 := BoxAt.cell hSw 3; simp only [taC, List.getElem?_toArray, List.getElem?_cons_zero, List.getElem?_cons_succ] at z0 z1 z2 z3; clear hSw; go_simp; try with_reducible rfl)
        try simp only [Act.put, List.setIfInBounds_toArray, List.set_cons_zero, List.set_cons_succ]
        refine wpAnyH_take (i := 6) (oi := _) (v := ?_) (by rw [List.getElem?_toArray]; exact rfl) (by kernel_rfl) (by kernel_rfl) (by kernel_rfl) (by exact fun _ _ _ h => h) (Or.inl ⟨by rfl, ?_⟩) hHeld ?_
        rotate_left
        · (intro wX hSw; clear hSw; go_simp; try with_reducible rfl)
        try simp only [Act.put, List.setIfInBounds_toArray, List.set_cons_zero, List.set_cons_succ]
        refine wpAnyH_ready (rs := [4, 7]) (by kernel_rfl) (by simp) ?_
        refine AllReadyH.cons (o := _) (by rw [List.getElem?_toArray]; exact rfl) (fun K hK => ?_) ?_
        · have w4c := (HGP4.out.1.below (show Below w4.heap.size w4 w4.drew from (Below.refl _ _).drew)).box.cell 2
          simp only [List.getElem?_toArray, List.getElem?_cons_zero, List.getElem?_cons_succ] at w4c
          go_simp
          refine hK.out _ _ (hHeld) (fun hHeld => ?_)
          clear hK K
          try simp only [Act.put, List.setIfInBounds_toArray, List.set_cons_zero, List.set_cons_succ]
          refine wpAnyH_ready (rs := [7]) (by kernel_rfl) (by simp) ?_
          refine AllReadyH.cons (o := _) (by rw [List.getElem?_toArray]; exact rfl) (fun K hK => ?_) ?_
          · go_simp
            refine hK.out _ _ (BoxAt.below hHeld ((Below.refl _ _).alloc (Nat.le_refl _) _)) (fun hHeld => ?_)
            clear hK K
            try simp only [Act.put, List.setIfInBounds_toArray, List.set_cons_zero, List.set_cons_succ]
            refine wpAnyH_ready (rs := [8]) (by kernel_rfl) (by simp) ?_
            refine AllReadyH.cons (o := _) (by rw [List.getElem?_toArray]; exact rfl) (fun K hK => ?_) ?_
            · obtain ⟨ig, hig, hg0, hg1, hg2⟩ := info_parts info_done
              have hBA : Below w4.heap.size w4 (w4.drew.alloc (.cells #[.string t.p, .int .i64 t.fn, .slice aa t.args.length ac, .int .i64 t.fuel, .int .i64 0, .int .i64 0, .int .i64 0] DoneT)) := ((Below.refl _ _).drew).alloc (Nat.le_refl _) _
              obtain ⟨gg, gc, w9, hap, hown9, hgrow, hat, _⟩ := run_append_lies (P := Tryz.prog) (w := w4.drew.alloc (.cells #[.string t.p, .int .i64 t.fn, .slice aa t.args.length ac, .int .i64 t.fuel, .int .i64 0, .int .i64 0, .int .i64 0] DoneT)) 29 29 Z DoneT ig _ 7 80 Tryz.underlying29 hig hg0 hg1 hg2 rfl (by decide) (.slice da l.length dc) l.length (l.flatMap encDn) (own_below HGP4.out.1.own hBA) ⟨w4.heap.size, 0, none⟩ 1 1 (encDn (⟨t, ⟨0, 0⟩, 0⟩, aa, ac)) rfl (one_done w4.drew (⟨t, ⟨0, 0⟩, 0⟩, aa, ac)) (by intro v hv; simp [encDn] at hv; rcases hv with rfl | rfl | rfl | rfl | rfl | rfl | rfl <;> rfl) (by decide) (by unfold maxLen; omega) (by omega) (by have := HD4.out.low.size; have := HTB.out; simp; omega) _ rfl
              have HF9 := Lib.hid (grow_fr' hBA hgrow)
              have HTY := Lib.hid (typed_own HGP4.out.1.own)
              have HTB9 := Lib.hid (box_typed HD4.out.bt HF9.out HTY.out (by decide))
              have HWB9 := Lib.hid (box_typed HGP4.out.1.box HF9.out HTY.out (by decide))
              refine step_append_run rfl _ _ _ _ rfl _ _ (by simp [Act.eval]) (by simp [Act.eval]) hap ?_
              refine hK.out _ _ (HTB9.out) (fun hHeld => ?_)
              clear hK K
              try simp only [Act.put, List.setIfInBounds_toArray, List.set_cons_zero, List.set_cons_succ]
              refine wpAnyH_take (i := 9) (oi := _) (v := ?_) (by rw [List.getElem?_toArray]; exact rfl) (by kernel_rfl) (by kernel_rfl) (by kernel_rfl) (by exact fun _ _ _ h => h) (Or.inl ⟨by rfl, ?_⟩) hHeld ?_
              rotate_left
              · (intro wX hSw; clear hSw; go_simp; try with_reducible rfl)
              try simp only [Act.put, List.setIfInBounds_toArray, List.set_cons_zero, List.set_cons_succ]
              refine wpAnyH_take (i := 10) (oi := _) (v := ?_) (by rw [List.getElem?_toArray]; exact rfl) (by kernel_rfl) (by kernel_rfl) (by kernel_rfl) (by exact fun _ _ _ h => h) (Or.inl ⟨by rfl, ?_⟩) hHeld ?_
              rotate_left
              · (intro wX hSw; clear hSw; go_simp; try with_reducible rfl)
              try simp only [Act.put, List.setIfInBounds_toArray, List.set_cons_zero, List.set_cons_succ]
              refine wpAnyH_ready (rs := [11]) (by kernel_rfl) (by simp) ?_
              refine AllReadyH.cons (o := _) (by rw [List.getElem?_toArray]; exact rfl) (fun K hK => ?_) ?_
              · have w9c := HWB9.out.cell 2
                have w9f := HWB9.out.frozen 2
                simp only [List.getElem?_toArray, List.getElem?_cons_zero, List.getElem?_cons_succ] at w9c
                have HFW := Lib.hid (show Fr (fun i => i = W) w9 (w9.setCell ⟨W, 2, none⟩ (.slice (some ⟨gg, 0, none⟩) (l.length + 1) gc)) from (Fr.refl (fun i => i = W) w9).setCell (p := ⟨W, 2, none⟩) rfl _)
                go_simp
                refine hK.out _ _ (box_typed hHeld HFW.out (typed_box HWB9.out) (by decide)) (fun hHeld => ?_)
                clear hK K
                try simp only [Act.put, List.setIfInBounds_toArray, List.set_cons_zero, List.set_cons_succ]
                refine wpAnyH_done (by kernel_rfl) ?_ _
                go_wp2_with fail
                go_meet
                exact after_own HGP4.out.1 HGP4.out.2 HD4.out HSEP.out hpl HTB.out HF9.out HWB9.out HFW.out hown9 hat (by simp) HOW.out
              exact AllReadyH.nil
            exact AllReadyH.nil
          exact AllReadyH.nil
        refine AllReadyH.cons (o := _) (by rw [List.getElem?_toArray]; exact rfl) (fun K hK => ?_) ?_
        · go_simp
          refine hK.out _ _ (BoxAt.below hHeld ((Below.refl _ _).alloc (Nat.le_refl _) _)) (fun hHeld => ?_)
          clear hK K
          try simp only [Act.put, List.setIfInBounds_toArray, List.set_cons_zero, List.set_cons_succ]
          refine wpAnyH_ready (rs := [4]) (by kernel_rfl) (by simp) ?_
          refine AllReadyH.cons (o := _) (by rw [List.getElem?_toArray]; exact rfl) (fun K hK => ?_) ?_
          · have w4c := (HGP4.out.1.below (show Below w4.heap.size w4 (w4.alloc (.cells #[.string t.p, .int .i64 t.fn, .slice aa t.args.length ac, .int .i64 t.fuel, .int .i64 0, .int .i64 0, .int .i64 0] DoneT)).drew from ((Below.refl _ _).alloc (Nat.le_refl _) _).drew)).box.cell 2
            simp only [List.getElem?_toArray, List.getElem?_cons_zero, List.getElem?_cons_succ] at w4c
            go_simp
            refine hK.out _ _ (hHeld) (fun hHeld => ?_)
            clear hK K
            try simp only [Act.put, List.setIfInBounds_toArray, List.set_cons_zero, List.set_cons_succ]
            refine wpAnyH_ready (rs := [8]) (by kernel_rfl) (by simp) ?_
            refine AllReadyH.cons (o := _) (by rw [List.getElem?_toArray]; exact rfl) (fun K hK => ?_) ?_
            · obtain ⟨ig, hig, hg0, hg1, hg2⟩ := info_parts info_done
              have hBA : Below w4.heap.size w4 (w4.drew.alloc (.cells #[.string t.p, .int .i64 t.fn, .slice aa t.args.length ac, .int .i64 t.fuel, .int .i64 0, .int .i64 0, .int .i64 0] DoneT)) := ((Below.refl _ _).drew).alloc (Nat.le_refl _) _
              obtain ⟨gg, gc, w9, hap, hown9, hgrow, hat, _⟩ := run_append_lies (P := Tryz.prog) (w := w4.drew.alloc (.cells #[.string t.p, .int .i64 t.fn, .slice aa t.args.length ac, .int .i64 t.fuel, .int .i64 0, .int .i64 0, .int .i64 0] DoneT)) 29 29 Z DoneT ig _ 7 80 Tryz.underlying29 hig hg0 hg1 hg2 rfl (by decide) (.slice da l.length dc) l.length (l.flatMap encDn) (own_below HGP4.out.1.own hBA) ⟨w4.heap.size, 0, none⟩ 1 1 (encDn (⟨t, ⟨0, 0⟩, 0⟩, aa, ac)) rfl (one_done w4.drew (⟨t, ⟨0, 0⟩, 0⟩, aa, ac)) (by intro v hv; simp [encDn] at hv; rcases hv with rfl | rfl | rfl | rfl | rfl | rfl | rfl <;> rfl) (by decide) (by unfold maxLen; omega) (by omega) (by have := HD4.out.low.size; have := HTB.out; simp; omega) _ rfl
              have HF9 := Lib.hid (grow_fr' hBA hgrow)
              have HTY := Lib.hid (typed_own HGP4.out.1.own)
              have HTB9 := Lib.hid (box_typed HD4.out.bt HF9.out HTY.out (by decide))
              have HWB9 := Lib.hid (box_typed HGP4.out.1.box HF9.out HTY.out (by decide))
              refine step_append_run rfl _ _ _ _ rfl _ _ (by simp [Act.eval]) (by simp [Act.eval]) hap ?_
              refine hK.out _ _ (HTB9.out) (fun hHeld => ?_)
              clear hK K
              try simp only [Act.put, List.setIfInBounds_toArray, List.set_cons_zero, List.set_cons_succ]
              refine wpAnyH_take (i := 9) (oi := _) (v := ?_) (by rw [List.getElem?_toArray]; exact rfl) (by kernel_rfl) (by kernel_rfl) (by kernel_rfl) (by exact fun _ _ _ h => h) (Or.inl ⟨by rfl, ?_⟩) hHeld ?_
              rotate_left
              · (intro wX hSw; clear hSw; go_simp; try with_reducible rfl)
              try simp only [Act.put, List.setIfInBounds_toArray, List.set_cons_zero, List.set_cons_succ]
              refine wpAnyH_take (i := 10) (oi := _) (v := ?_) (by rw [List.getElem?_toArray]; exact rfl) (by kernel_rfl) (by kernel_rfl) (by kernel_rfl) (by exact fun _ _ _ h => h) (Or.inl ⟨by rfl, ?_⟩) hHeld ?_
              rotate_left
              · (intro wX hSw; clear hSw; go_simp; try with_reducible rfl)
              try simp only [Act.put, List.setIfInBounds_toArray, List.set_cons_zero, List.set_cons_succ]
              refine wpAnyH_ready (rs := [11]) (by kernel_rfl) (by simp) ?_
              refine AllReadyH.cons (o := _) (by rw [List.getElem?_toArray]; exact rfl) (fun K hK => ?_) ?_
              · have w9c := HWB9.out.cell 2
                have w9f := HWB9.out.frozen 2
                simp only [List.getElem?_toArray, List.getElem?_cons_zero, List.getElem?_cons_succ] at w9c
                have HFW := Lib.hid (show Fr (fun i => i = W) w9 (w9.setCell ⟨W, 2, none⟩ (.slice (some ⟨gg, 0, none⟩) (l.length + 1) gc)) from (Fr.refl (fun i => i = W) w9).setCell (p := ⟨W, 2, none⟩) rfl _)
                go_simp
                refine hK.out _ _ (box_typed hHeld HFW.out (typed_box HWB9.out) (by decide)) (fun hHeld => ?_)
                clear hK K
                try simp only [Act.put, List.setIfInBounds_toArray, List.set_cons_zero, List.set_cons_succ]
                refine wpAnyH_done (by kernel_rfl) ?_ _
                go_wp2_with fail
                go_meet
                exact after_own HGP4.out.1 HGP4.out.2 HD4.out HSEP.out hpl HTB.out HF9.out HWB9.out HFW.out hown9 hat (by simp) HOW.out
              exact AllReadyH.nil
            exact AllReadyH.nil
          exact AllReadyH.nil
        exact AllReadyH.nil
      case rest =>
        obtain ⟨dv', hgl, hpr, hfr, hst, hbt, hbr, hbx, hrg, hsep⟩ := hcut
        have HFR := Lib.hid hfr
        have HST := Lib.hid hst
        have hlt := HD4.out.lt
        have htw : w.heap.size = tb := HTB.out
        have hcsz : w.heap.size ≤ wc.heap.size := hfr.size
        have HRUN := Lib.hid (run_any hp ht HDO.out hpr hpl (fun i hi => hgl.own.lt i hi) HDC.out hlen hgl hbx hrg hsep (by omega) ⟨by omega, by omega⟩ (by omega) HR.out)
        have HBR := Lib.hid (show BoxAt wc (tb + 1) (resC ⟨0, 0⟩) ResT ∧ (tb + 1 ≠ W ∧ dv'.ownBlock ≠ some (tb + 1) ∧ tb + 1 ≠ x ∧ tb + 1 ≠ r) from ⟨hbr, by omega, fun e => by
          obtain ⟨E, cur, fz, h1, h2⟩ := typed_own hgl.own (tb + 1) e (Array.getElem?_eq_some_iff.1 hbr).1
          unfold BoxAt at hbr
          rw [hbr] at h2
          injection h2 with h2
          injection h2 with _ h2 _
          rw [List.mem_singleton] at h1
          rw [h1] at h2
          exact absurd h2 (by decide), by omega, by omega⟩)
        clear hgl hpr hfr hst hbt hbr hbx hrg hsep HD4 HGP4 HSEP htw hcsz
        go_wp2_with fail
        refine HRUN.out.mono ?_
        rintro e w5 ⟨rfl, wk, wb, dv5, iv5, wv5, nd, hBb, hrn⟩
        have H5 := Lib.hid hrn
        have HBB := Lib.hid hBb
        have HRB5 := Lib.hid (hrn.res (q := ⟨0, 0⟩) (HBR.out.1.below hBb) HBR.out.2).1
        clear hrn hBb HRUN
        have hA6 : Below w5.heap.size w5 (w5.alloc (.cells (resC R.2) ResT)) := (Below.refl _ _).alloc (Nat.le_refl _) _
        have H6 := Lib.hid (H5.out.below hA6)
        have HRB6 := Lib.hid (HRB5.out.below hA6)
        have HT7 := Lib.hid (show BoxAt (w5.alloc (.cells (resC R.2) ResT)) w5.heap.size (resC R.2) ResT from heap_alloc_new _ _)
        clear hA6
        go_upto_region 6 with fail
        simp only [resC] at H6 HRB6 HT7
        generalize w5.alloc (.cells #[.int .i64 R.2.v, .int .i64 R.2.e] ResT) = w6 at *
        generalize w5.heap.size = tr at *
        obtain ⟨g, gc, cur, hv5, _⟩ := own_blockK H6.out.gl.own (by simp)
        subst hv5
        obtain ⟨N, hN⟩ : ∃ N, (l ++ (⟨t, ⟨0, 0⟩, 0⟩, aa, ac) :: nd).length = N := ⟨_, rfl⟩
        rw [hN] at H6
        have hNL : l.length < N := by rw [← hN]; simp
        have hNL1 : (l.length : Int) < N := by omega
        have hL0 : (0 : Int) ≤ l.length := by omega
        have HNN := Lib.hid hN
        have HCELL := Lib.hid (own_cells H6.out.gl.own hN)
        have HFZ := Lib.hid (own_frozen H6.out.gl.own)
        clear hN
        go_upto_region 6 with fail
        have HS0 := Lib.hid (show BoxAt w6.drew W #[.slice (some ⟨pb, poff, none⟩) p.length pcap, .map (some m), .slice (some ⟨g, 0, none⟩) N gc] WorldT ∧ BoxAt w6.drew x (txC t (.slice aa t.args.length ac) W r R.1 iv5 wv5) TxT ∧ BoxAt w6.drew tr #[.int .i64 R.2.v, .int .i64 R.2.e] ResT from ⟨H6.out.gl.box.below (Below.refl _ _).drew, H6.out.tx.box.below (Below.refl _ _).drew, HT7.out.below (Below.refl _ _).drew⟩)
        refine wp_region_held_drew (S := fun y => BoxAt y W #[.slice (some ⟨pb, poff, none⟩) p.length pcap, .map (some m), .slice (some ⟨g, 0, none⟩) N gc] WorldT ∧ BoxAt y x (txC t (.slice aa t.args.length ac) W r R.1 iv5 wv5) TxT ∧ BoxAt y tr #[.int .i64 R.2.v, .int .i64 R.2.e] ResT) (by kernel_rfl) (HS0.out) (fun hHeld => ?_)
        refine wpAnyH_take (i := 0) (oi := _) (v := ?_) (by rw [List.getElem?_toArray]; exact rfl) (by kernel_rfl) (by kernel_rfl) (by kernel_rfl) (by exact fun _ _ _ h => h) (Or.inl ⟨by rfl, ?_⟩) hHeld ?_
        rotate_left
        · (intro wX hSw; clear hSw; go_simp; try with_reducible rfl)
        try simp only [Act.put, List.setIfInBounds_toArray, List.set_cons_zero, List.set_cons_succ]
        refine wpAnyH_take (i := 1) (oi := _) (v := ?_) (by rw [List.getElem?_toArray]; exact rfl) (by kernel_rfl) (by kernel_rfl) (by kernel_rfl) (by exact fun _ _ _ h => h) (Or.inl ⟨by rfl, ?_⟩) hHeld ?_
        rotate_left
        · (intro wX hSw; clear hSw; go_simp; try with_reducible rfl)
        try simp only [Act.put, List.setIfInBounds_toArray, List.set_cons_zero, List.set_cons_succ]
        refine wpAnyH_take (i := 2) (oi := _) (v := ?_) (by rw [List.getElem?_toArray]; exact rfl) (by kernel_rfl) (by kernel_rfl) (by kernel_rfl) (by exact fun _ _ _ h => h) (Or.inl ⟨by rfl, ?_⟩) hHeld ?_
        rotate_left
        · (intro wX hSw; clear hSw; go_simp; try with_reducible rfl)
        try simp only [Act.put, List.setIfInBounds_toArray, List.set_cons_zero, List.set_cons_succ]
        refine wpAnyH_take (i := 3) (oi := _) (v := ?_) (by rw [List.getElem?_toArray]; exact rfl) (by kernel_rfl) (by kernel_rfl) (by kernel_rfl) (by exact fun _ _ _ h => h) (Or.inl ⟨by rfl, ?_⟩) hHeld ?_
        rotate_left
        · (intro wX hSw; have z2 := hSw.1.cell 2; simp only [List.getElem?_toArray, List.getElem?_cons_zero, List.getElem?_cons_succ] at z2; clear hSw; go_simp; try with_reducible rfl)
        try simp only [Act.put, List.setIfInBounds_toArray, List.set_cons_zero, List.set_cons_succ]
        refine wpAnyH_take (i := 4) (oi := _) (v := ?_) (by rw [List.getElem?_toArray]; exact rfl) (by kernel_rfl) (by kernel_rfl) (by kernel_rfl) (by exact fun _ _ _ h => h) (Or.inl ⟨by rfl, ?_⟩) hHeld ?_
        rotate_left
        · (intro wX hSw; clear hSw; go_simp; try with_reducible rfl)
        try simp only [Act.put, List.setIfInBounds_toArray, List.set_cons_zero, List.set_cons_succ]
        refine wpAnyH_take (i := 5) (oi := _) (v := ?_) (by rw [List.getElem?_toArray]; exact rfl) (by kernel_rfl) (by kernel_rfl) (by kernel_rfl) (by exact fun _ _ _ h => h) (Or.inl ⟨by rfl, ?_⟩) hHeld ?_
        rotate_left
        · (intro wX hSw; clear hSw; go_simp; try with_reducible rfl)
        try simp only [Act.put, List.setIfInBounds_toArray, List.set_cons_zero, List.set_cons_succ]
        refine wpAnyH_take (i := 6) (oi := _) (v := ?_) (by rw [List.getElem?_toArray]; exact rfl) (by kernel_rfl) (by kernel_rfl) (by kernel_rfl) (by exact fun _ _ _ h => h) (Or.inl ⟨by rfl, ?_⟩) hHeld ?_
        rotate_left
        · (intro wX hSw; clear hSw; go_simp; try with_reducible rfl)
        try simp only [Act.put, List.setIfInBounds_toArray, List.set_cons_zero, List.set_cons_succ]
        refine wpAnyH_take (i := 7) (oi := _) (v := ?_) (by rw [List.getElem?_toArray]; exact rfl) (by kernel_rfl) (by kernel_rfl) (by kernel_rfl) (by exact fun _ _ _ h => h) (Or.inl ⟨by rfl, ?_⟩) hHeld ?_
        rotate_left
        · (intro wX hSw; clear hSw; go_simp; try with_reducible rfl)
        try simp only [Act.put, List.setIfInBounds_toArray, List.set_cons_zero, List.set_cons_succ]
        refine wpAnyH_take (i := 8) (oi := _) (v := ?_) (by rw [List.getElem?_toArray]; exact rfl) (by kernel_rfl) (by kernel_rfl) (by kernel_rfl) (by exact fun _ _ _ h => h) (Or.inl ⟨by rfl, ?_⟩) hHeld ?_
        rotate_left
        · (intro wX hSw; have z2 := hSw.1.cell 2; simp only [List.getElem?_toArray, List.getElem?_cons_zero, List.getElem?_cons_succ] at z2; clear hSw; go_simp; try with_reducible rfl)
        try simp only [Act.put, List.setIfInBounds_toArray, List.set_cons_zero, List.set_cons_succ]
        refine wpAnyH_take (i := 9) (oi := _) (v := ?_) (by rw [List.getElem?_toArray]; exact rfl) (by kernel_rfl) (by kernel_rfl) (by kernel_rfl) (by exact fun _ _ _ h => h) (Or.inl ⟨by rfl, ?_⟩) hHeld ?_
        rotate_left
        · (intro wX hSw; clear hSw; go_simp; try with_reducible rfl)
        try simp only [Act.put, List.setIfInBounds_toArray, List.set_cons_zero, List.set_cons_succ]
        refine wpAnyH_take (i := 10) (oi := _) (v := ?_) (by rw [List.getElem?_toArray]; exact rfl) (by kernel_rfl) (by kernel_rfl) (by kernel_rfl) (by exact fun _ _ _ h => h) (Or.inl ⟨by rfl, ?_⟩) hHeld ?_
        rotate_left
        · (intro wX hSw; have z0 := hSw.2.2.cell 0; have z1 := hSw.2.2.cell 1; simp only [List.getElem?_toArray, List.getElem?_cons_zero, List.getElem?_cons_succ] at z0 z1; clear hSw; go_simp; try with_reducible rfl)
        try simp only [Act.put, List.setIfInBounds_toArray, List.set_cons_zero, List.set_cons_succ]
        refine wpAnyH_take (i := 11) (oi := _) (v := ?_) (by rw [List.getElem?_toArray]; exact rfl) (by kernel_rfl) (by kernel_rfl) (by kernel_rfl) (by exact fun _ _ _ h => h) (Or.inl ⟨by rfl, ?_⟩) hHeld ?_
        rotate_left
        · (intro wX hSw; clear hSw; go_simp; try with_reducible rfl)
        try simp only [Act.put, List.setIfInBounds_toArray, List.set_cons_zero, List.set_cons_succ]
        refine wpAnyH_take (i := 12) (oi := _) (v := ?_) (by rw [List.getElem?_toArray]; exact rfl) (by kernel_rfl) (by kernel_rfl) (by kernel_rfl) (by exact fun _ _ _ h => h) (Or.inl ⟨by rfl, ?_⟩) hHeld ?_
        rotate_left
        · (intro wX hSw; clear hSw; go_simp; try with_reducible rfl)
        try simp only [Act.put, List.setIfInBounds_toArray, List.set_cons_zero, List.set_cons_succ]
        refine wpAnyH_take (i := 13) (oi := _) (v := ?_) (by rw [List.getElem?_toArray]; exact rfl) (by kernel_rfl) (by kernel_rfl) (by kernel_rfl) (by exact fun _ _ _ h => h) (Or.inl ⟨by rfl, ?_⟩) hHeld ?_
        rotate_left
        · (intro wX hSw; clear hSw; go_simp; try with_reducible rfl)
        try simp only [Act.put, List.setIfInBounds_toArray, List.set_cons_zero, List.set_cons_succ]
        refine wpAnyH_take (i := 14) (oi := _) (v := ?_) (by rw [List.getElem?_toArray]; exact rfl) (by kernel_rfl) (by kernel_rfl) (by kernel_rfl) (by exact fun _ _ _ h => h) (Or.inl ⟨by rfl, ?_⟩) hHeld ?_
        rotate_left
        · (intro wX hSw; have z7 := hSw.2.1.cell 7; simp only [txC, List.getElem?_toArray, List.getElem?_cons_zero, List.getElem?_cons_succ] at z7; clear hSw; go_simp; try with_reducible rfl)
        try simp only [Act.put, List.setIfInBounds_toArray, List.set_cons_zero, List.set_cons_succ]
        refine wpAnyH_take (i := 15) (oi := _) (v := ?_) (by rw [List.getElem?_toArray]; exact rfl) (by kernel_rfl) (by kernel_rfl) (by kernel_rfl) (by exact fun _ _ _ h => h) (Or.inl ⟨by rfl, ?_⟩) hHeld ?_
        rotate_left
        · (intro wX hSw; clear hSw; go_simp; try with_reducible rfl)
        try simp only [Act.put, List.setIfInBounds_toArray, List.set_cons_zero, List.set_cons_succ]
        refine wpAnyH_take (i := 16) (oi := _) (v := ?_) (by rw [List.getElem?_toArray]; exact rfl) (by kernel_rfl) (by kernel_rfl) (by kernel_rfl) (by exact fun _ _ _ h => h) (Or.inl ⟨by rfl, ?_⟩) hHeld ?_
        rotate_left
        · (intro wX hSw; clear hSw; go_simp; try with_reducible rfl)
        try simp only [Act.put, List.setIfInBounds_toArray, List.set_cons_zero, List.set_cons_succ]
        refine wpAnyH_ready (rs := [17]) (by kernel_rfl) (by simp) ?_
        refine AllReadyH.cons (o := _) (by rw [List.getElem?_toArray]; exact rfl) (fun K hK => ?_) ?_
        · have c4 := HCELL.out.1; have c5 := HCELL.out.2.1; have c6 := HCELL.out.2.2
          have f4 := HFZ.out (l.length * 7 + 4); have f5 := HFZ.out (l.length * 7 + 5); have f6 := HFZ.out (l.length * 7 + 6)
          have HDF := Lib.hid (do_fin H6.out HNN.out (show Below w6.heap.size w6 w6.drew from (Below.refl _ _).drew) R.2.v R.2.e R.1.kids)
          have HS17 := Lib.hid (show BoxAt ((w6.drew.setCell ⟨g, l.length * 7 + 4, none⟩ (.int .i64 R.2.v)).setCell ⟨g, l.length * 7 + 5, none⟩ (.int .i64 R.2.e)) W #[.slice (some ⟨pb, poff, none⟩) p.length pcap, .map (some m), .slice (some ⟨g, 0, none⟩) N gc] WorldT ∧ BoxAt ((w6.drew.setCell ⟨g, l.length * 7 + 4, none⟩ (.int .i64 R.2.v)).setCell ⟨g, l.length * 7 + 5, none⟩ (.int .i64 R.2.e)) x (txC t (.slice aa t.args.length ac) W r R.1 iv5 wv5) TxT ∧ BoxAt ((w6.drew.setCell ⟨g, l.length * 7 + 4, none⟩ (.int .i64 R.2.v)).setCell ⟨g, l.length * 7 + 5, none⟩ (.int .i64 R.2.e)) tr #[.int .i64 R.2.v, .int .i64 R.2.e] ResT from by
            have hF : Fr (fun i => i = g) w6.drew ((w6.drew.setCell ⟨g, l.length * 7 + 4, none⟩ (.int .i64 R.2.v)).setCell ⟨g, l.length * 7 + 5, none⟩ (.int .i64 R.2.e)) := ((Fr.refl (fun i => i = g) w6.drew).setCell (p := ⟨g, l.length * 7 + 4, none⟩) rfl _).setCell (p := ⟨g, l.length * 7 + 5, none⟩) rfl _
            exact ⟨box_typed hHeld.1 hF HDF.out.2.2.1 (by decide), box_typed hHeld.2.1 hF HDF.out.2.2.1 (by decide), box_typed hHeld.2.2 hF HDF.out.2.2.1 (by decide)⟩)
          go_simp
          refine hK.out _ _ (HS17.out) (fun hHeld => ?_)
          clear hK K
          try simp only [Act.put, List.setIfInBounds_toArray, List.set_cons_zero, List.set_cons_succ]
          refine wpAnyH_take (i := 18) (oi := _) (v := ?_) (by rw [List.getElem?_toArray]; exact rfl) (by kernel_rfl) (by kernel_rfl) (by kernel_rfl) (by exact fun _ _ _ h => h) (Or.inl ⟨by rfl, ?_⟩) hHeld ?_
          rotate_left
          · (intro wX hSw; clear hSw; go_simp; try with_reducible rfl)
          try simp only [Act.put, List.setIfInBounds_toArray, List.set_cons_zero, List.set_cons_succ]
          refine wpAnyH_take (i := 19) (oi := _) (v := ?_) (by rw [List.getElem?_toArray]; exact rfl) (by kernel_rfl) (by kernel_rfl) (by kernel_rfl) (by exact fun _ _ _ h => h) (Or.inl ⟨by rfl, ?_⟩) hHeld ?_
          rotate_left
          · (intro wX hSw; clear hSw; go_simp; try with_reducible rfl)
          try simp only [Act.put, List.setIfInBounds_toArray, List.set_cons_zero, List.set_cons_succ]
          refine wpAnyH_ready (rs := [20]) (by kernel_rfl) (by simp) ?_
          refine AllReadyH.cons (o := _) (by rw [List.getElem?_toArray]; exact rfl) (fun K hK => ?_) ?_
          · have HS20 := Lib.hid (show BoxAt (((w6.drew.setCell ⟨g, l.length * 7 + 4, none⟩ (.int .i64 R.2.v)).setCell ⟨g, l.length * 7 + 5, none⟩ (.int .i64 R.2.e)).setCell ⟨g, l.length * 7 + 6, none⟩ (.int .i64 R.1.kids)) W #[.slice (some ⟨pb, poff, none⟩) p.length pcap, .map (some m), .slice (some ⟨g, 0, none⟩) N gc] WorldT ∧ BoxAt (((w6.drew.setCell ⟨g, l.length * 7 + 4, none⟩ (.int .i64 R.2.v)).setCell ⟨g, l.length * 7 + 5, none⟩ (.int .i64 R.2.e)).setCell ⟨g, l.length * 7 + 6, none⟩ (.int .i64 R.1.kids)) x (txC t (.slice aa t.args.length ac) W r R.1 iv5 wv5) TxT ∧ BoxAt (((w6.drew.setCell ⟨g, l.length * 7 + 4, none⟩ (.int .i64 R.2.v)).setCell ⟨g, l.length * 7 + 5, none⟩ (.int .i64 R.2.e)).setCell ⟨g, l.length * 7 + 6, none⟩ (.int .i64 R.1.kids)) tr #[.int .i64 R.2.v, .int .i64 R.2.e] ResT from by
              have hS0 := HS0.out
              have hF := HDF.out.2.1
              exact ⟨box_typed hS0.1 hF HDF.out.2.2.1 (by decide), box_typed hS0.2.1 hF HDF.out.2.2.1 (by decide), box_typed hS0.2.2 hF HDF.out.2.2.1 (by decide)⟩)
            go_simp
            refine hK.out _ _ (HS20.out) (fun hHeld => ?_)
            clear hK K
            try simp only [Act.put, List.setIfInBounds_toArray, List.set_cons_zero, List.set_cons_succ]
            refine wpAnyH_done (by kernel_rfl) ?_ _
            clear c4 c5 c6 f4 f5 f6 hHeld
            have HF8 := Lib.hid (show Gl Z W m (.slice (some ⟨pb, poff, none⟩) p.length pcap) (.slice (some ⟨g, 0, none⟩) N gc) (l ++ (⟨t, R.2, R.1.kids⟩, aa, ac) :: nd) (((w6.setCell ⟨g, l.length * 7 + 4, none⟩ (.int .i64 R.2.v)).setCell ⟨g, l.length * 7 + 4 + 1, none⟩ (.int .i64 R.2.e)).setCell ⟨g, l.length * 7 + 6, none⟩ (.int .i64 R.1.kids)).drew ∧ Fr (fun i => i = g) w6.drew (((w6.setCell ⟨g, l.length * 7 + 4, none⟩ (.int .i64 R.2.v)).setCell ⟨g, l.length * 7 + 4 + 1, none⟩ (.int .i64 R.2.e)).setCell ⟨g, l.length * 7 + 6, none⟩ (.int .i64 R.1.kids)).drew ∧ Typed (fun i => i = g) w6.drew [DoneT] ∧ ∀ d ∈ nd, ArgsAt wb.heap.size (((w6.setCell ⟨g, l.length * 7 + 4, none⟩ (.int .i64 R.2.v)).setCell ⟨g, l.length * 7 + 4 + 1, none⟩ (.int .i64 R.2.e)).setCell ⟨g, l.length * 7 + 6, none⟩ (.int .i64 R.1.kids)).drew d from HDF.out)
            have HT8 := Lib.hid (show BoxAt (((w6.setCell ⟨g, l.length * 7 + 4, none⟩ (.int .i64 R.2.v)).setCell ⟨g, l.length * 7 + 4 + 1, none⟩ (.int .i64 R.2.e)).setCell ⟨g, l.length * 7 + 6, none⟩ (.int .i64 R.1.kids)).drew tr #[.int .i64 R.2.v, .int .i64 R.2.e] ResT from box_typed (BoxAt.below HT7.out (Below.refl _ _).drew) HF8.out.2.1 HF8.out.2.2.1 (by decide))
            have HRB8 := Lib.hid (show BoxAt (((w6.setCell ⟨g, l.length * 7 + 4, none⟩ (.int .i64 R.2.v)).setCell ⟨g, l.length * 7 + 4 + 1, none⟩ (.int .i64 R.2.e)).setCell ⟨g, l.length * 7 + 6, none⟩ (.int .i64 R.1.kids)).drew (tb + 1) #[.int .i64 0, .int .i64 0] ResT from box_typed (BoxAt.below HRB6.out (Below.refl _ _).drew) HF8.out.2.1 HF8.out.2.2.1 (by decide))
            clear HS17 HS20 HDF HT7 HRB6 HCELL HFZ
            generalize (((w6.setCell ⟨g, l.length * 7 + 4, none⟩ (.int .i64 R.2.v)).setCell ⟨g, l.length * 7 + 4 + 1, none⟩ (.int .i64 R.2.e)).setCell ⟨g, l.length * 7 + 6, none⟩ (.int .i64 R.1.kids)).drew = w8 at *
            have z0 := HT8.out.cell 0; have z1 := HT8.out.cell 1
            have y0 := HRB8.out.cell 0; have y1 := HRB8.out.cell 1
            have u0 := HRB8.out.frozen 0; have u1 := HRB8.out.frozen 1
            simp only [List.getElem?_toArray, List.getElem?_cons_zero, List.getElem?_cons_succ] at z0 z1 y0 y1
            go_wp2_with fail
            refine do_end (res_set (q := ⟨0, 0⟩) HRB8.out R.2.v R.2.e) rfl ⟨by rw [HDP.out], ?_⟩
            rw [HDP.out]
            have htw : w.heap.size = tb := HTB.out
            have hF9 : Fr (fun i => i = tb + 1) w8 ((w8.setCell ⟨tb + 1, 0, none⟩ (.int .i64 R.2.v)).setCell ⟨tb + 1, 1, none⟩ (.int .i64 R.2.e)) := ((Fr.refl (fun i => i = tb + 1) w8).setCell (p := ⟨tb + 1, 0, none⟩) rfl _).setCell (p := ⟨tb + 1, 1, none⟩) rfl _
            have hT9 := typed_box HRB8.out
            have hsz1 := HFR.out.size
            have hsz2 := HBB.out.size
            have hSS : ∀ i, ((i = W ∨ dv'.ownBlock = some i) ∨ (i = x ∨ i = r)) → (i = W ∨ (Value.slice da l.length dc).ownBlock = some i) ∨ w.heap.size ≤ i := fun i hi => by
              rcases hi with (hi | hi) | hi | hi
              · exact .inl (.inl hi)
              · exact HST.out i hi
              · exact .inr (by omega)
              · exact .inr (by omega)
            have hGG : (g = W ∨ (Value.slice da l.length dc).ownBlock = some g) ∨ w.heap.size ≤ g := by
              rcases H6.out.st g rfl with h1 | h1
              · exact hSS g (.inl h1)
              · exact .inr (by omega)
            have hfr6 : Fr (fun i => i = W ∨ (Value.slice da l.length dc).ownBlock = some i) w w6.drew := ((HFR.out.then HBB.out).join H6.out.fr hSS).drew
            refine ⟨.slice (some ⟨g, 0, none⟩) N gc, ⟨t, R.2, R.1.kids⟩, nd, HF8.out.1.typed hF9 hT9 (by decide) (by decide) (by decide), (hfr6.join HF8.out.2.1 (fun i hi => by rw [hi]; exact hGG)).join hF9 (fun i hi => .inr (by omega)), fun i hi => ?_, ?_, rfl, fun d hd => own_typed (owns_base (HF8.out.2.2.2 d hd) (by omega)) hF9 hT9 (by decide)⟩
            · injection hi with hi
              have e : i = g := hi.symm
              rw [e]; exact hGG
            · simp only [List.map_cons]
              rw [H6.out.dn]
          exact AllReadyH.nil
        exact AllReadyH.nil
    exact AllReadyH.nil
  exact AllReadyH.nil
end Go.Proofs.YtdhbjejejeljoaaGreat
