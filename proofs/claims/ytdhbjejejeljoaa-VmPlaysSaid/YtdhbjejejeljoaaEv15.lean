/- Contract: eval.world.do. -/
import Derived.Test.YtdhbjejejeljoaaEv11
import Derived.Lib.SlBytesRow
import Derived.Deep.OwnRows
import Derived.Laws.CopyOwn
import Derived.Deep.AppendLies
namespace Go.Proofs.Ytdhbjejejeljoaa
open Go.RowKit Go.Sort Go.Lib
theorem step_append_run {P : Program} {ops : Array Oper} {o : Oper} {a : Act} {w : World} {K : Act → World → Prop} {Q : Exit → Act → World → Prop} {E : Prop}
    (hg : o.guard = none) (s x : Operand) (t t' : TypeId) (hop : o.op = Op.call { callee := Callee.builtin Builtin.append, args := #[s, x], argTypes := #[t, t'] })
    (v u : Value) (hd : a.eval s = v) (hx : a.eval x = u) {v' : Value} {w' : World} (hr : (Builtin.append_ #[t, t'] o.type #[v, u]).run P w = .ok v' w') (hK : K (a.put o.dst v') w') :
    if Region.wanted o (yielded ops a.tmps) = true then Oper.wp P o a w K Q else E := by
  have hw : Region.wanted o (yielded ops a.tmps) = true := by simp [Region.wanted, hg]
  rw [if_pos hw]
  unfold Oper.wp
  simp [execOp, hop, resolve, invoke, builtin, hd, hx, hr, Result.andThen]
  exact hK
theorem info_int : (Try.prog.info? 3).map (fun i => (i.zero, i.size, i.bytes)) = some (some (.int .i64 0), 1, 8) := by kernel_rfl
theorem info_res : (Try.prog.info? 39).map (fun i => (i.zero, i.size, i.bytes)) = some (some (.agg #[.int .i64 0, .int .i64 0]), 2, 16) := by kernel_rfl
theorem own_slice {w : World} {Z k n : Nat} {E : TypeId} {v : Value} {xs : List Value} (h : w.ownsRow Z E k v n xs) : ∃ a c, v = .slice a n c := by
  obtain ⟨_, ⟨rfl, rfl⟩ | ⟨g, cap, cur, rfl, _⟩⟩ := h
  · exact ⟨_, _, rfl⟩
  · exact ⟨_, _, rfl⟩
theorem one_res (w : World) (d : Rs) : ∀ j u, (encRs d)[j]? = some u → (w.alloc (.cells #[.int .i64 d.v, .int .i64 d.e] ResT)).cell? ((⟨w.heap.size, 0, none⟩ : Addr).add j) = some u := by
  intro j u hj
  match j with
  | 0 => simp [encRs] at hj; subst hj; simp [go_sem, Addr.add]
  | 1 => simp [encRs] at hj; subst hj; simp [go_sem, Addr.add]
  | j + 2 => simp [encRs] at hj
theorem one_int (w : World) (d : Int) : ∀ j u, (encN1 d)[j]? = some u → (w.alloc (.cells #[.int .i64 d] 3)).cell? ((⟨w.heap.size, 0, none⟩ : Addr).add j) = some u := by
  intro j u hj
  match j with
  | 0 => simp [encN1] at hj; subst hj; simp [go_sem, Addr.add]
  | j + 1 => simp [encN1] at hj
theorem grow_fr' {w w1 w' : World} {v : Value} (hB : Below w.heap.size w w1) (hg : w1.grownBy w' v.ownBlock) : Fr (fun i => v.ownBlock = some i) w w' := (grow_fr hB hg).mono fun _i hi => hi.symm
theorem reads_part {y : World} {r A n : Nat} {rs L : List Int} (h : BoxAt y r (rs.map (Value.int .i64)).toArray I64T) (hn : n = L.length) (hl : A + n ≤ rs.length) (hL : L = (rs.drop A).take n) {cap : Nat} : ReadsK encN1 1 y (.slice (some ⟨r, A, none⟩) n cap) L := by
  refine .inr ⟨r, A, cap, by rw [hn], (Array.getElem?_eq_some_iff.1 h).1, fun i hi t u hu => ?_⟩
  have ht : t = 0 := by
    have := (List.getElem?_eq_some_iff.1 hu).1
    simp [encN1] at this; omega
  subst ht
  simp only [encN1, List.getElem?_cons_zero, Option.some.injEq] at hu
  subst hu
  have e : L[i] = rs[A + i]'(by omega) := by
    subst hL
    simp [List.getElem_take, List.getElem_drop]
  rw [e]
  have := regs_cell h (q := A + i) (by omega)
  simpa using this
end Go.Proofs.Ytdhbjejejeljoaa
namespace Go.Proofs.Ytdhbjejejeljoaa
open Go.RowKit Go.Sort Go.Lib
theorem opS_set {p : List Fnc} {D : Tk → Rs × List Dn} {t : Tk} {s : St} {o : Opr} (h : o.k = 1) : opS p D t s o = (false, 0, { s with pc := s.pc + 1, regs := s.regs.set o.d.toNat o.n }) := by unfold opS; simp [h]
theorem opS_go {p : List Fnc} {D : Tk → Rs × List Dn} {t : Tk} {s : St} {o : Opr} (h : o.k = 10) : opS p D t s o = (false, 0, { s with pc := o.n }) := by unfold opS; simp [h]
theorem opS_if {p : List Fnc} {D : Tk → Rs × List Dn} {t : Tk} {s : St} {o : Opr} (h : o.k = 11) : opS p D t s o = (false, 0, if rg s.regs o.a = 0 then { s with pc := s.pc + 1 } else { s with pc := o.n }) := by unfold opS; simp [h]
theorem opS_fork {p : List Fnc} {D : Tk → Rs × List Dn} {t : Tk} {s : St} {o : Opr} (h : o.k = 12) : opS p D t s o = (false, forkS p D t { s with pc := s.pc + 1 } o) := by unfold opS; simp [h]
theorem opS_join {p : List Fnc} {D : Tk → Rs × List Dn} {t : Tk} {s : St} {o : Opr} (h : o.k = 13) : opS p D t s o = (false, joinS { s with pc := s.pc + 1 }) := by unfold opS; simp [h]
theorem opS_ret {p : List Fnc} {D : Tk → Rs × List Dn} {t : Tk} {s : St} {o : Opr} (h : o.k = 14) : opS p D t s o = (true, joinS { s with pc := s.pc + 1 }) := by unfold opS; simp [h]
theorem opS_zero {p : List Fnc} {D : Tk → Rs × List Dn} {t : Tk} {s : St} {o : Opr} (h1 : 2 ≤ o.k) (h2 : o.k ≤ 9) (h : calcP o.k (rg s.regs o.a) (rg s.regs o.b) = none) : opS p D t s o = (true, 131, { s with pc := s.pc + 1 }) := by
  unfold opS
  simp only []
  rw [if_neg (by omega), if_neg (by omega), if_neg (by omega), if_neg (by omega), if_neg (by omega), if_neg (by omega), h]
theorem opS_calc {p : List Fnc} {D : Tk → Rs × List Dn} {t : Tk} {s : St} {o : Opr} {v : Int} (h1 : 2 ≤ o.k) (h2 : o.k ≤ 9) (h : calcP o.k (rg s.regs o.a) (rg s.regs o.b) = some v) : opS p D t s o = (false, 0, { s with pc := s.pc + 1, regs := s.regs.set o.d.toNat v }) := by
  unfold opS
  simp only []
  rw [if_neg (by omega), if_neg (by omega), if_neg (by omega), if_neg (by omega), if_neg (by omega), if_neg (by omega), h]
theorem calc_none {k a b : Int} (h : (k = 6 ∨ k = 7) ∧ b = 0) : calcP k a b = none := by
  obtain ⟨h | h, rfl⟩ := h <;> simp [calcP, h]
theorem calc_some {k a b : Int} (h : ¬ ((k = 6 ∨ k = 7) ∧ b = 0)) : ∃ v, calcP k a b = some v := by
  unfold calcP
  by_cases h0 : b = 0
  · have h6 : k ≠ 6 := fun e => h ⟨.inl e, h0⟩
    have h7 : k ≠ 7 := fun e => h ⟨.inr e, h0⟩
    simp only [if_neg h6, if_neg h7]
    repeat' split
    all_goals exact ⟨_, rfl⟩
  · simp only [if_neg h0]
    repeat' split
    all_goals exact ⟨_, rfl⟩
end Go.Proofs.Ytdhbjejejeljoaa
namespace Go.Proofs.Ytdhbjejejeljoaa
open Go.RowKit Go.Sort Go.Lib

theorem res_set {w : World} {rb : Nat} {q : Rs} (h : BoxAt w rb (resC q) ResT) (v e : Int) : BoxAt ((w.setCell ⟨rb, 0, none⟩ (.int .i64 v)).setCell ⟨rb, 1, none⟩ (.int .i64 e)) rb (resC ⟨v, e⟩) ResT :=
  Go.heap_setCell_same _ rb 1 _ _ _ (Go.heap_setCell_same w rb 0 _ _ _ h)
theorem opS_done {p : List Fnc} {D : Tk → Rs × List Dn} {t : Tk} {s s5 : St} {o : Opr} {f : Fnc} {ee : Int} (h : opS p D t s o = (true, ee, s5)) (he : ee = 0) (ho : OpOk p f o) : o.k = 14 := by
  by_cases k14 : o.k = 14
  · exact k14
  exfalso
  subst he
  by_cases k1 : o.k = 1
  · rw [opS_set k1] at h; cases h
  by_cases k10 : o.k = 10
  · rw [opS_go k10] at h; cases h
  by_cases k11 : o.k = 11
  · rw [opS_if k11] at h; cases h
  by_cases k12 : o.k = 12
  · rw [opS_fork k12] at h; cases h
  by_cases k13 : o.k = 13
  · rw [opS_join k13] at h; cases h
  have h1 := ho.k1
  have h2 := ho.k2
  cases hc : calcP o.k (rg s.regs o.a) (rg s.regs o.b) with
  | none => rw [opS_zero (by omega) (by omega) hc] at h; cases h
  | some v => rw [opS_calc (by omega) (by omega) hc] at h; cases h
end Go.Proofs.Ytdhbjejejeljoaa
namespace Go.Proofs.Ytdhbjejejeljoaa
open Go.RowKit Go.Sort Go.Lib

theorem info_done : (Try.prog.info? 169).map (fun i => (i.zero, i.size, i.bytes)) = some (some (.agg #[.string ⟨#[]⟩, .int .i64 0, .slice none 0 0, .int .i64 0, .int .i64 0, .int .i64 0, .int .i64 0]), 7, 80) := by kernel_rfl
theorem wpList_copy_fr {P : Program} {w : World} {ops : Array Oper} {rest : List Oper} {o : Oper} {a : Act} {Q : Exit → Act → World → Prop} (hgd : o.guard = none) (d s : Operand) (dT sT : TypeId)
    (ho : o.op = .call { callee := .builtin .copy, args := #[d, s], argTypes := #[dT, sT] }) (elem : TypeId) (hu : P.underlying dT = some (.slice elem)) (hsz : (P.info? elem).map (·.size) = some 1)
    (dp sp : Option Addr) (dLen dCap sLen sCap : Nat) (hd : a.eval d = .slice dp dLen dCap) (hs : a.eval s = .slice sp sLen sCap)
    (g off : Nat) (cur : List Value) (t : TypeId) (hg : w.heap[g]? = some (.cells cur.toArray t (0, 0))) (cs : List Value) (hn : cs.length = Nat.min sLen dLen)
    (hpos : 0 < cs.length → dp = some ⟨g, off, none⟩ ∧ ∃ ad, sp = some ad ∧ ∀ j v, cs[j]? = some v → w.cell? (ad.add j) = some v)
    (hfit : off + cs.length ≤ cur.length) (h1 : ∀ v ∈ cs, v.oneCell' = true)
    (h : ∀ w', Hid (w'.heap[g]? = some (.cells (splice cur off cs).toArray t (0, 0))) → Hid (Fr (fun i => i = g) w w') → wpList P ops Q rest (a.put o.dst (goInt cs.length)) w') :
    wpList P ops Q (o :: rest) a w := by
  by_cases h0 : cs.length = 0
  · obtain rfl : cs = [] := List.eq_nil_of_length_eq_zero h0
    refine wpList_copy_nothing hgd d s dT sT ho elem hu hsz dp sp dLen dCap sLen sCap hd hs (by simpa using hn.symm) ?_
    exact h w (show _ = _ by simpa [splice] using hg) (Fr.refl _ _)
  · obtain ⟨rfl, ad, rfl, hsrc⟩ := hpos (by omega)
    refine wpList_copy_own hgd d s dT sT ho elem hu hsz g off dLen dCap ad sLen sCap hd hs cur.toArray t hg cs hn hsrc (by simpa using hfit) h1 ?_
    exact h _ (show _ = _ by simpa [splice] using setRow_heap w g _ _ t _ hg) ⟨rfl, rfl, rfl, by simp [World.setRow], fun k hk hs => setRow_other w g k _ hs⟩
theorem made_box {w : World} {r n : Nat} (h : w.heap[r]? = some (.cells (madeCells #[.int .i64 0] n) I64T (0, 0))) : BoxAt w r ((List.replicate n (0 : Int)).map (Value.int .i64)).toArray I64T := by
  unfold BoxAt
  rw [h, List.map_replicate, ← toList_madeCells_one]
theorem one_done (w : World) (d : DnA) : ∀ j u, (encDn d)[j]? = some u → (w.alloc (.cells #[.string d.1.t.p, .int .i64 d.1.t.fn, .slice d.2.1 d.1.t.args.length d.2.2, .int .i64 d.1.t.fuel, .int .i64 d.1.r.v, .int .i64 d.1.r.e, .int .i64 d.1.kids] DoneT)).cell? ((⟨w.heap.size, 0, none⟩ : Addr).add j) = some u := by
  intro j u hj
  have h := World.news_of_block (heap_alloc_new w (.cells #[.string d.1.t.p, .int .i64 d.1.t.fn, .slice d.2.1 d.1.t.args.length d.2.2, .int .i64 d.1.t.fuel, .int .i64 d.1.r.v, .int .i64 d.1.r.e, .int .i64 d.1.kids] DoneT)) j u
  exact h hj
theorem own_set {w : World} {Z k n g cap j : Nat} {E : TypeId} {xs : List Value} {v : Value} (h : w.ownsRow Z E k (.slice (some ⟨g, 0, none⟩) n cap) n xs) : (w.setCell ⟨g, j, none⟩ v).ownsRow Z E k (.slice (some ⟨g, 0, none⟩) n cap) n (xs.set j v) := by
  obtain ⟨h0, ⟨hv, _⟩ | ⟨g', cap', cur, hv, h1, h2, h3, h4, h5, h6⟩⟩ := h
  · cases hv
  injection hv with e1 _ e3
  injection e1 with e1
  injection e1 with e1
  subst e1; subst e3
  refine ⟨by simp [h0], .inr ⟨g, cap, cur.setIfInBounds j v, rfl, h1, Go.heap_setCell_same w g j cur E v h2, h3, h4, by simp [h5], ?_⟩⟩
  rw [Array.toList_setIfInBounds, ← h6, List.take_set]
theorem own_cells {w : World} {Z g cap N : Nat} {l nd : List DnA} {o : DnA} (h : w.ownsRow Z DoneT 7 (.slice (some ⟨g, 0, none⟩) N cap) (l ++ o :: nd).length ((l ++ o :: nd).flatMap encDn)) (hN : (l ++ o :: nd).length = N) :
    w.cell? ⟨g, l.length * 7 + 4, none⟩ = some (.int .i64 o.1.r.v) ∧ w.cell? ⟨g, l.length * 7 + 5, none⟩ = some (.int .i64 o.1.r.e) ∧ w.cell? ⟨g, l.length * 7 + 6, none⟩ = some (.int .i64 o.1.kids) := by
  rw [← hN] at h
  obtain ⟨b, off, c, he, _, hc⟩ := (own_readsK (enc := encDn) (k := 7) encDn_len (by decide) h).at (by simp; omega)
  injection he with he _ _
  injection he with he
  injection he with e1 e2 _
  subst e1; subst e2
  have hl : l.length < (l ++ o :: nd).length := by simp
  have hg : (l ++ o :: nd)[l.length] = o := by simp
  have h4 := hc l.length hl 4 (.int .i64 o.1.r.v) (by rw [hg]; rfl)
  have h5 := hc l.length hl 5 (.int .i64 o.1.r.e) (by rw [hg]; rfl)
  have h6 := hc l.length hl 6 (.int .i64 o.1.kids) (by rw [hg]; rfl)
  rw [Nat.zero_add] at h4 h5 h6
  exact ⟨h4, h5, h6⟩
theorem own_frozen {w : World} {Z k n g cap : Nat} {E : TypeId} {xs : List Value} {m : Nat} (h : w.ownsRow Z E k (.slice (some ⟨g, 0, none⟩) n cap) m xs) (o : Nat) : w.frozen? ⟨g, o, none⟩ = false := by
  obtain ⟨h0, ⟨hv, _⟩ | ⟨g', cap', cur, hv, h1, h2, _⟩⟩ := h
  · cases hv
  injection hv with e1 _ e3
  injection e1 with e1
  injection e1 with e1
  subst e1
  simp [World.frozen?, h2]
theorem flat_set (l nd : List DnA) (t : Tk) (aa : Option Addr) (ac : Nat) (v e k : Int) : ((((l ++ (⟨t, ⟨0, 0⟩, 0⟩, aa, ac) :: nd).flatMap encDn).set (l.length * 7 + 4) (.int .i64 v)).set (l.length * 7 + 5) (.int .i64 e)).set (l.length * 7 + 6) (.int .i64 k) = (l ++ ((⟨t, ⟨v, e⟩, k⟩, aa, ac) : DnA) :: nd).flatMap encDn := by
  have hl : (l.flatMap encDn).length = l.length * 7 := flat_len (k := 7) encDn_len l
  rw [List.flatMap_append, List.flatMap_append, List.flatMap_cons, List.flatMap_cons]
  rw [List.set_append_right _ _ (by omega), List.set_append_right _ _ (by omega), List.set_append_right _ _ (by omega), hl]
  simp only [Nat.add_sub_cancel_left]
  rfl
end Go.Proofs.Ytdhbjejejeljoaa
