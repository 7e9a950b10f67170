/- slices.Values over rows: what its iterator hands out; collected. -/
import Derived.Test.YteladooegjgdnaaRange2
import Derived.Test.YteladooegjgdnaaHp17
import Derived.Deep.LoopGhost
import Derived.RangeFuncNested
import Derived.RangeFuncBound
import Derived.RangeFuncCalls
import Derived.Shelf.Abstract
import Derived.Shelf.RegionOpen
import Derived.OwnWalkIn
import Derived.TacticsInMore
import Derived.LoopNIn
import Derived.LoopIn
namespace Go.Proofs.Yteladooegjgdnaa
open Go.RowKit Go.Sort Go.Lib Go.Shelf
attribute [local go_sem] Oper.semAt_some

def postM (P : Program) (fn : Func) (R : Ending → World → Prop) : Exit → Act → World → Prop
  | .normal, a, w => LeavesInM Fence.wide 0 P fn a.tmps R a.defers .returning w
  | .ret, a, w => LeavesInM Fence.wide 0 P fn a.tmps R a.defers .returning w
  | _, _, _ => False
theorem calls_marks {P : Program} {f : FuncId} {fn : Func} {c : Code} {args : Array Value} {w : World} {R : Ending → World → Prop} (hf : P.funcs[f]? = some fn) (hb : fn.body = some c)
    (h : c.wp P (postM P fn R) { tmps := args ++ Array.replicate (fn.ntmps - args.size) undef, defers := [] } w) : Calls P f args w R := by
  refine callsIn_wide.1 (callsIn_of_wp_marks (n := 0) hf hb trivial (wpIn_wide.2 (wp_mono h ?_)) rfl)
  intro e a w hq
  cases e <;> first | exact hq | exact hq.elim
def encA (x : Tm) : Array Value := #[.agg #[.string x.k, .int .i64 x.a]]
set_option maxHeartbeats 3200000 in
set_option maxRecDepth 100000 in
theorem values_seq {Z B : Nat} {rv : Value} {l : List Tm} {w : World} (ho : w.ownsRow Z TmT 2 rv l.length (l.flatMap encT)) (hc : w.cell? ⟨B, 0, none⟩ = some rv) (hl : l.length ≤ 1000000) :
    SeqW Fence.wide 2 Try.prog 43 #[TP B] encA (B :: rv.ownBlock.toList) l w := by
  intro ly Φ J W hB hA hbs hY h0
  have hcW : W.cell? ⟨B, 0, none⟩ = some rv := (hB.cell (World.block_lt_of_cell? _ _ hc)).trans hc
  have hoW := own_below ho hB
  obtain ⟨a, cap, rfl⟩ := own_slice ho
  obtain ⟨N, hN⟩ : ∃ N, l.length = N := ⟨_, rfl⟩
  rw [hN] at hcW
  have HN := Lib.hid hN
  have HO := Lib.hid hoW
  have HNG := Lib.hid (show ∀ g, (Value.slice a N cap).ownBlock = some g → ¬ Φ W g from fun g hg => hbs g (by
    have : (Value.slice a l.length cap).ownBlock = some g := by rw [hN]; exact hg
    rw [this]; simp))
  have HY := Lib.hid hY
  have HJ0 := Lib.hid h0
  have HA := Lib.hid hA
  have hN1 : N ≤ 1000000 := by omega
  clear ho hc hbs hY h0 hB hA hoW hN hl
  refine callsIn_of_wp Try.func43 rfl trivial ?_ rfl
  simp only [Try.ntmps43, List.size_toArray, List.length_cons, List.length_nil, Nat.reduceAdd, Nat.reduceSub, Array.replicate_succ, Array.replicate_zero, List.push_toArray, List.append_toArray, List.nil_append, List.cons_append]
  gi_wp2
  gi_loopw [7] (fun i wr => ∃ k : Nat, k ≤ N ∧ i = .int .i64 k ∧ Hid (J (l.take k) wr ∧ Free Φ W wr)) (fun i _ => N - (intOf i).toNat)
  case atStart => exact ⟨0, Nat.zero_le _, rfl, by simpa using HJ0.out, Free.refl _ _⟩
  case round =>
    obtain ⟨k, hk, rfl, HR⟩ := hrel
    by_cases hlt : k < N
    · have hkl : k < l.length := by rw [HN.out]; exact hlt
      obtain ⟨g, cap', he⟩ : ∃ g cap', (Value.slice a N cap) = .slice (some ⟨g, 0, none⟩) N cap' := by
        obtain ⟨_, ⟨hv, h0⟩ | ⟨g, c', cur, hv, _⟩⟩ := HO.out
        · omega
        · rw [HN.out] at hv; exact ⟨g, c', hv⟩
      injection he with he1 _ he3
      subst he1; subst he3
      have hoo := HO.out
      rw [HN.out] at hoo
      obtain ⟨c0, c1⟩ := tm_at hoo HN.out hkl
      have d0 := (HR.out.2.cell (p := ⟨g, k * 2, none⟩) (HNG.out g rfl) c0).1
      have d1 := (HR.out.2.cell (p := ⟨g, k * 2 + 1, none⟩) (HNG.out g rfl) c1).1
      have hpre : (l.take k ++ [l[k]]) <+: l := by rw [← List.take_succ_eq_append_getElem hkl]; exact List.take_prefix _ _
      have HT := Lib.hid (List.take_succ_eq_append_getElem hkl)
      generalize l[k] = x at *
      have HRA := Lib.hid (show J (l.take k) (wr.alloc (.cells #[.string x.k, .int .i64 x.a] TmT)) ∧ Free Φ W (wr.alloc (.cells #[.string x.k, .int .i64 x.a] TmT)) from by
        obtain ⟨h1, h2⟩ := ((HA.out.mono (B' := wr.heap.size) HR.out.2.fr.size)).grow HR.out.1 (alT wr (.cells #[.string x.k, .int .i64 x.a] TmT))
        exact ⟨h1, HR.out.2.trans h2⟩)
      obtain ⟨fn, tmps, assign, body, hy, hR⟩ := HY.out (l.take k) x (wr.alloc (.cells #[.string x.k, .int .i64 x.a] TmT)) HRA.out.1 hpre
      unfold encA at hy
      have HQ := Lib.hid (show wrap64 ((k : Int) + 1) = ((k + 1 : Nat) : Int) from (IntWalk.wrap64_in _ (by omega)).trans (by omega))
      clear hoo c0 c1 hpre
      gi_wp2
      refine hR.mono ?_
      rintro e W3 ⟨rfl, hJ3, hk3⟩
      have HR3 := Lib.hid (show J (l.take (k + 1)) W3 ∧ Free Φ W W3 from ⟨by rw [HT.out]; exact hJ3, HRA.out.2.trans hk3⟩)
      clear hJ3 hk3
      gi_wp2
      go_roundw
      case rel => exact ⟨k + 1, by omega, by have hq := HQ.out; first | rfl | (rw [← hq]) | (simp; exact hq) | trace_state, HR3⟩
      case measure =>
        have hq := HQ.out
        simp [intOf]
        omega
    · obtain rfl : k = N := by omega
      have HX := Lib.hid (show J l wr ∧ Free Φ W wr from ⟨by have := HR.out.1; rwa [← HN.out, List.take_length] at this, HR.out.2⟩)
      gi_wp2
      go_end0
      exact ⟨⟨_, rfl⟩, HX.out⟩

/-- An append inside a fence to a slice of the call's own, and where the longer one lies. -/
theorem wpListIn_lies {F : Fence} {nn : Nat} {P : Program} (w : World) {ops : Array Oper} {rest : List Oper} {o : Oper} {a : Act} {Q : Exit → Act → World → Prop} (hgd : o.guard = none) (s x : Operand) (t : TypeId)
    (ho : o.op = .call { callee := .builtin .append, args := #[s, x], argTypes := #[t, t] })
    (base : Nat) (e : TypeId) (i : TypeInfo) (z : Value) (size bytes : Nat) (ht : P.underlying t = some (.slice e)) (hi : P.info? e = some i) (hz : i.zero = some z)
    (hsize : i.size = size) (hby : i.bytes = bytes) (hzs : z.cells.size = size) (hsz : 0 < size)
    (v : Value) (n : Nat) (xs : List Value) (hs : a.eval s = v) (hown : w.ownsRow base e size v n xs)
    (ad : Addr) (m c : Nat) (news : List Value) (hx : a.eval x = .slice (some ad) m c) (hl : news.length = m * size) (hnews : ∀ j u, news[j]? = some u → w.cell? (ad.add j) = some u) (h1 : ∀ u ∈ news, u.oneCell' = true)
    (hm : 0 < m) (h63 : n + m ≤ maxLen) (hbytes : (n + m) * bytes ≤ 140737488355328) (hbase : base ≤ w.heap.size)
    (h : ∀ g cap w', w'.ownsRow base e size (.slice (some ⟨g, 0, none⟩) (n + m) cap) (n + m) (xs ++ news) → w.grownBy w' v.ownBlock → (v.ownBlock = some g ∨ g = w.heap.size) → g < w'.heap.size → wpListIn F nn P ops Q rest (a.put o.dst (.slice (some ⟨g, 0, none⟩) (n + m) cap)) w') : wpListIn F nn P ops Q (o :: rest) a w := by
  obtain ⟨g, cap, w', hr, h2, h3, h4, h5⟩ := run_append_lies (P := P) w t o.type base e i z size bytes ht hi hz hsize hby hzs hsz v n xs hown ad m c news hl hnews h1 hm h63 hbytes hbase w.heap.size rfl
  refine wpListIn_plain hgd fun K hK => ?_
  unfold Oper.wpIn
  refine ⟨?_, ?_⟩
  · simp [Oper.about, ho, resolve, Target.leads, Sem.run_pure]
  · rw [Oper.semAt_plain F _ _ (by rw [ho]; intro c hc; cases hc)]
    simp [execOp, ho, resolve, invoke, builtin, hs, hx, hr, Result.andThen]
    exact hK _ _ (h g cap w' h2 h3 h4 h5)

/-- What lies between two rounds of AppendSeq: the box holds a slice of the call's own. -/
def AppJ (wa : World) (pre : List Tm) (W : World) : Prop := ∃ v, W.heap[wa.heap.size]? = some (.cells #[v] 33 (0, 0)) ∧ W.ownsRow wa.heap.size TmT 2 v pre.length (pre.flatMap encT) ∧ Below wa.heap.size wa W
def AppF (b : Nat) (W : World) (j : Nat) : Prop := j = b ∨ ∃ v, W.heap[b]? = some (.cells #[v] 33 (0, 0)) ∧ v.ownBlock = some j
theorem app_abide (wa : World) : Abide (wa.heap.size + 1) (AppF wa.heap.size) (AppJ wa) := by
  have hrow : ∀ {s : List Tm} {A : World} {row : Option Nat} {v : Value}, A.ownsRow wa.heap.size TmT 2 v s.length (s.flatMap encT) → (∀ r, row = some r → wa.heap.size + 1 ≤ r ∧ ∃ o : Obj, A.heap[r]? = some o ∧ o.isCells = false) → ∀ i, v.ownBlock = some i → some i ≠ row := by
    intro s A row v ho hr i hi e
    obtain ⟨_, o, h1, h2⟩ := hr i e.symm
    obtain ⟨_, ⟨rfl, _⟩ | ⟨g, cap, cur, rfl, _, hg, _⟩⟩ := ho
    · cases hi
    · injection hi with hi; subst hi
      rw [hg] at h1; injection h1 with h1; subst h1; cases h2
  refine ⟨?_, ?_, ?_⟩
  · rintro s A C row ⟨v, hb, ho, hl⟩ hg hr
    have hlt : wa.heap.size < A.heap.size := (Array.getElem?_eq_some_iff.1 hb).1
    refine ⟨v, (hg.block _ hlt (fun e => by have := (hr _ e.symm).1; omega)).trans hb, own_far ho (fun i hi => hg.block i (ho.lt i hi).2 (hrow ho hr i hi)), ?_⟩
    exact ⟨hg.os.trans hl.os, hg.tape.trans hl.tape, hg.output.trans hl.output, Nat.le_trans hl.size hg.size, fun k hk => (hg.block k (by omega) (fun e => by have := (hr _ e.symm).1; omega)).trans (hl.block k hk)⟩
  · rintro s A C row ⟨v, hb, ho, hl⟩ hg hr j (rfl | ⟨v', hv', hj⟩)
    · exact .inl rfl
    · have hlt : wa.heap.size < A.heap.size := (Array.getElem?_eq_some_iff.1 hb).1
      rw [hg.block _ hlt (fun e => by have := (hr _ e.symm).1; omega)] at hv'
      exact .inr ⟨v', hv', hj⟩
  · rintro s A j ⟨v, hb, ho, hl⟩ (rfl | ⟨v', hv', hj⟩)
    · exact ⟨_, hb, rfl⟩
    · rw [hb] at hv'
      injection hv' with hv'; injection hv' with hv' _ _
      injection hv' with hv'; injection hv' with hv' _
      subst hv'
      obtain ⟨_, ⟨rfl, _⟩ | ⟨g, cap, cur, rfl, _, hg, _⟩⟩ := ho
      · cases hj
      · injection hj with hj; subst hj; exact ⟨_, hg, rfl⟩

theorem app_ne {wa W : World} {pre : List Tm} {v : Value} (hb : W.heap[wa.heap.size]? = some (.cells #[v] 33 (0, 0))) (ho : W.ownsRow wa.heap.size TmT 2 v pre.length (pre.flatMap encT)) : v.ownBlock ≠ some wa.heap.size := by
  intro hi
  obtain ⟨_, ⟨rfl, _⟩ | ⟨g, cap, cur, rfl, _, hg, _⟩⟩ := ho
  · cases hi
  · injection hi with hi
    change g = wa.heap.size at hi
    subst hi
    rw [hb] at hg; injection hg with hg; injection hg with _ hg _; cases hg
theorem app_step {wa W w2 w3 : World} {pre : List Tm} {x : Tm} {v : Value} {g cap : Nat} (hb : W.heap[wa.heap.size]? = some (.cells #[v] 33 (0, 0))) (ho : W.ownsRow wa.heap.size TmT 2 v pre.length (pre.flatMap encT)) (hl : Below wa.heap.size wa W)
    (hB : Below W.heap.size W w2) (hown : w3.ownsRow wa.heap.size TmT 2 (.slice (some ⟨g, 0, none⟩) (pre.length + 1) cap) (pre.length + 1) (pre.flatMap encT ++ encT x)) (hg : w2.grownBy w3 v.ownBlock) (hgl : v.ownBlock = some g ∨ g = w2.heap.size) :
    Free (AppF wa.heap.size) W (w3.setCell ⟨wa.heap.size, 0, none⟩ (.slice (some ⟨g, 0, none⟩) (pre.length + 1) cap)) ∧ AppJ wa (pre ++ [x]) (w3.setCell ⟨wa.heap.size, 0, none⟩ (.slice (some ⟨g, 0, none⟩) (pre.length + 1) cap)) := by
  have hlt : wa.heap.size < W.heap.size := (Array.getElem?_eq_some_iff.1 hb).1
  have hne := app_ne hb ho
  have hsz : W.heap.size ≤ w3.heap.size := Nat.le_trans hB.size hg.size
  have hk : ∀ i, i < W.heap.size → v.ownBlock ≠ some i → w3.heap[i]? = W.heap[i]? := fun i hi hn => (hg.block i (Nat.lt_of_lt_of_le hi hB.size) (fun e => hn e.symm)).trans (hB.block i hi)
  have hb3 : w3.heap[wa.heap.size]? = some (.cells #[v] 33 (0, 0)) := (hk _ hlt hne).trans hb
  have hgne : g ≠ wa.heap.size := by
    rcases hgl with h | h
    · intro e; rw [e] at h; exact hne h
    · have := hB.size; omega
  have hot : ∀ i, i ≠ wa.heap.size → (w3.setCell ⟨wa.heap.size, 0, none⟩ (.slice (some ⟨g, 0, none⟩) (pre.length + 1) cap)).heap[i]? = w3.heap[i]? := fun i hi => Below.heap_setCell _ _ _ i hi
  have hb4 : (w3.setCell ⟨wa.heap.size, 0, none⟩ (.slice (some ⟨g, 0, none⟩) (pre.length + 1) cap)).heap[wa.heap.size]? = some (.cells #[.slice (some ⟨g, 0, none⟩) (pre.length + 1) cap] 33 (0, 0)) := by
    obtain ⟨h1, h2⟩ := Array.getElem?_eq_some_iff.1 hb3
    show (w3.heap.modify wa.heap.size _)[wa.heap.size]? = _
    rw [Array.getElem?_eq_getElem (by rw [Array.size_modify]; exact h1), Array.getElem_modify_self, h2]
    rfl
  have hs4 : (w3.setCell ⟨wa.heap.size, 0, none⟩ (.slice (some ⟨g, 0, none⟩) (pre.length + 1) cap)).heap.size = w3.heap.size := by simp
  have hfree : Free (AppF wa.heap.size) W (w3.setCell ⟨wa.heap.size, 0, none⟩ (.slice (some ⟨g, 0, none⟩) (pre.length + 1) cap)) := by
    refine ⟨⟨hg.os.trans hB.os, hg.tape.trans hB.tape, hg.output.trans hB.output, by rw [hs4]; exact hsz, fun i hi hn => ?_⟩, ?_⟩
    · have hi1 : i ≠ wa.heap.size := fun e => hn (.inl e)
      exact (hot i hi1).trans (hk i hi (fun e => hn (.inr ⟨v, hb, e⟩)))
    · rintro j hj (rfl | ⟨v', hv', hj'⟩)
      · exact .inl rfl
      · rw [hb4] at hv'
        injection hv' with hv'; injection hv' with hv' _ _
        injection hv' with hv'; injection hv' with hv' _
        subst hv'
        injection hj' with hj'
        change g = j at hj'
        subst hj'
        rcases hgl with h | h
        · exact .inr ⟨v, hb, h⟩
        · have := hB.size; omega
  refine ⟨hfree, _, hb4, ?_, ?_⟩
  · have := own_far (w' := w3.setCell ⟨wa.heap.size, 0, none⟩ (.slice (some ⟨g, 0, none⟩) (pre.length + 1) cap)) hown (fun i hi => by
      injection hi with hi
      change g = i at hi
      subst hi
      exact hot g hgne)
    simpa using this
  · refine hl.trans ⟨hfree.fr.os, hfree.fr.tape, hfree.fr.output, hfree.fr.size, fun i hi => hfree.fr.block i (by omega) ?_⟩
    rintro (rfl | ⟨v', hv', hj⟩)
    · omega
    · rw [hb] at hv'
      injection hv' with hv'; injection hv' with hv' _ _
      injection hv' with hv'; injection hv' with hv' _
      subst hv'
      have := (ho.lt i hj).1; omega

set_option maxHeartbeats 3200000 in
set_option maxRecDepth 100000 in
theorem append_seq (lb : Array Value) (bs : List Nat) (xs : List Tm) (w : World) (hseq : SeqW Fence.wide 2 Try.prog 43 lb encA bs xs w) (hbs : ∀ b ∈ bs, b < w.heap.size) (hn : xs.length ≤ 1000000) :
    Calls Try.prog 45 #[.slice none 0 0, .func (.func 43) #[] lb] w fun e w' => ∃ v, e = .returned v ∧ w'.ownsRow w.heap.size TmT 2 v xs.length (xs.flatMap encT) ∧ Below w.heap.size w w' := by
  obtain ⟨ig, hig, hg0, hg1, hg2⟩ := info_parts info_tm
  have hB0 : Below w.heap.size w (w.alloc (.cells #[.slice none 0 0] 33)) := (Below.refl _ _).alloc (Nat.le_refl _) _
  have HJ0 : Hid (AppJ w [] (w.alloc (.cells #[.slice none 0 0] 33))) := ⟨_, heap_alloc_new _ _, World.ownsRow_nil _ _ _ _, hB0⟩
  have HB0 := Lib.hid hB0
  have HSEQ := Lib.hid hseq
  have HBS : Hid (∀ b ∈ bs, ¬ AppF w.heap.size (w.alloc (.cells #[.slice none 0 0] 33)) b) := by
    intro b hb
    have hlt := hbs b hb
    rintro (rfl | ⟨v, hv, hj⟩)
    · omega
    · rw [heap_alloc_new] at hv
      injection hv with hv; injection hv with hv _ _
      injection hv with hv; injection hv with hv _
      subst hv; cases hj
  clear hseq hbs hB0
  refine calls_marks Try.func45 rfl ?_
  simp only [Try.ntmps45, List.size_toArray, List.length_cons, List.length_nil, Nat.reduceAdd, Nat.reduceSub, Array.replicate_succ, Array.replicate_zero, List.push_toArray, List.append_toArray, List.nil_append, List.cons_append]
  go_wp2_with fail
  have hsz0 : (w.alloc (.cells #[.slice none 0 0] 33)).heap.size = w.heap.size + 1 := by simp
  generalize w.alloc (.cells #[.slice none 0 0] 33) = w0 at *
  refine (wpIn_wide (n := 3)).1 ?_
  have hA := (app_abide w).mono (B' := w0.heap.size) (by omega)
  refine' range_boxed rfl (by decide) rfl trivial (enters_of Try.func43 (by kernel_rfl) rfl) HSEQ.out HB0.out (fun _ => rfl) (AppF w.heap.size) (AppJ w) hA HBS.out HJ0.out _ (fun x W => W.alloc (.cells #[.string x.k, .int .i64 x.a] TmT)) (fun x W => alT W _) _ _ _
  rotate_left
  · intro l2 x2 W2 K2 hK2
    have HK2 := Lib.hid hK2
    clear hK2
    have hfold : ∀ v : Value, (((#[7] : Array Tmp).zip #[v]).foldl (fun t (x : Tmp × Value) => t.setIfInBounds x.1 x.2) #[Value.slice none 0 0, Value.func (Fn.func 43) #[] lb, Value.pointer (some { block := w.heap.size, off := 0 }), undef, Value.slice none 0 0, undef, Value.func (Fn.func 43) #[] lb, undef, undef, undef, undef, undef, undef]) = #[Value.slice none 0 0, Value.func (Fn.func 43) #[] lb, Value.pointer (some { block := w.heap.size, off := 0 }), undef, Value.slice none 0 0, undef, Value.func (Fn.func 43) #[] lb, v, undef, undef, undef, undef, undef] := fun v => by simp
    unfold encA
    refine (?_ : _)
    erw [hfold]
    gi_wp2_with (rw [Oper.semAt_eq _ _ _ (fun c h => by cases h)]; go_simp; try go_bits)
    exact HK2.out
  · rintro l2 pre x2 W0 W2 ⟨v, hb, ho, hl⟩ hpre hsz2 hnew2
    have c0 : W2.cell? ⟨w.heap.size, 0, none⟩ = some v := by simp [World.cell?, hb]
    have hnb : W2.heap[W0.heap.size]? = some (.cells #[.string x2.k, .int .i64 x2.a] TmT (0, 0)) := (hnew2 _ (Nat.le_refl _)).trans (heap_alloc_new _ _)
    have e0 : W2.cell? ⟨W0.heap.size, 0, none⟩ = some (.string x2.k) := by simp [World.cell?, hnb]
    have e1 : W2.cell? ⟨W0.heap.size, 1, none⟩ = some (.int .i64 x2.a) := by simp [World.cell?, hnb]
    clear hnew2 hnb hsz2
    have z0 : W2.frozen? ⟨w.heap.size, 0, none⟩ = false := by simp [World.frozen?, hb]
    have hlen : pre.length + 1 ≤ 1000000 := by have := hpre.length_le; simp at this; omega
    have HO := Lib.hid ho
    have HB := Lib.hid hb
    have HL := Lib.hid hl
    have hblt : w.heap.size < W2.heap.size := (Array.getElem?_eq_some_iff.1 hb).1
    have HNE := Lib.hid (app_ne hb ho)
    clear ho hb hl hpre
    gi_wp2_with (first
      | (gi_at_builtin; refine wpListIn_lies _ rfl _ _ 33 rfl w.heap.size TmT ig (.agg #[.string ⟨#[]⟩, .int .i64 0]) 2 24 Try.underlying33 hig hg0 hg1 hg2 rfl (by decide) _ _ _ rfl (own_below HO.out ((Below.refl _ _).alloc (Nat.le_refl _) _)) ⟨W2.heap.size, 0, none⟩ 1 1 (encT x2) rfl rfl (one_tm _ x2) (by intro v hv; simp [encT] at hv; rcases hv with rfl | rfl <;> rfl) (by decide) (by unfold maxLen; omega) (by omega) (by simp; omega) ?_; intro g cap w3 hown hg hgl hglt; have hb3 := (hg.block w.heap.size (by simp; omega) (fun e => HNE.out e.symm)).trans ((Below.heap_alloc _ _ _ hblt).trans HB.out); have c3 : w3.cell? ⟨w.heap.size, 0, none⟩ = some v := by simp [World.cell?, hb3]
         have z3 : w3.frozen? ⟨w.heap.size, 0, none⟩ = false := by simp [World.frozen?, hb3]
         have HST := Lib.hid (app_step (x := x2) HB.out HO.out HL.out ((Below.refl _ _).alloc (Nat.le_refl _) _) (by simpa using hown) hg hgl)
         clear hb3 hown hg hgl)
      | (rw [Oper.semAt_eq _ _ _ (fun c h => by cases h)]; go_simp; try go_bits))
    exact ⟨HST.out.1, HST.out.2⟩
  · rintro D W7 hD ⟨v, hb, ho, hl⟩ hF hk
    have c7 : W7.cell? ⟨w.heap.size, 0, none⟩ = some v := by simp [World.cell?, hb]
    have HO := Lib.hid ho
    have HL := Lib.hid hl
    have HK := Lib.hid hk
    have HD := Lib.hid hD
    clear ho hl hb hF hk hD
    go_wp2_with fail
    show LeavesInM _ _ _ _ _ _ _ _ _
    refine leaves_marks (B := w0.heap.size) (fun w' => w'.ownsRow w.heap.size TmT 2 v xs.length (xs.flatMap encT) ∧ Below w.heap.size w w') ?_ ?_ [D] W7 ⟨HO.out, HL.out⟩ (by simp) (fun E hE => by rw [List.mem_singleton] at hE; rw [hE]; exact ⟨HD.out, HK.out⟩)
    · rintro w' E ⟨ho, hl⟩ hE hk
      refine ⟨own_far ho (fun i hi => World.putObj_heap_other ?_), ⟨hl.os, hl.tape, hl.output, by rw [World.putObj_size]; exact hl.size, fun i hi => (World.putObj_heap_other (show i ≠ E by omega)).trans (hl.block i hi)⟩⟩
      rintro rfl
      obtain ⟨_, ⟨rfl, _⟩ | ⟨g, cap, cur, rfl, _, hg, _⟩⟩ := ho
      · cases hi
      · injection hi with hi
        change g = i at hi
        subst hi; rw [hk] at hg; cases hg
    · rintro w' ⟨ho, hl⟩
      exact ⟨_, results_tmp rfl _ _ _, v, rfl, ho, hl⟩
set_option maxHeartbeats 400000 in
theorem collect_seq (lb : Array Value) (bs : List Nat) (xs : List Tm) (w : World) (hseq : SeqW Fence.wide 2 Try.prog 43 lb encA bs xs w) (hbs : ∀ b ∈ bs, b < w.heap.size) (hn : xs.length ≤ 1000000) :
    Calls Try.prog 41 #[.func (.func 43) #[] lb] w fun e w' => ∃ v, e = .returned v ∧ w'.ownsRow w.heap.size TmT 2 v xs.length (xs.flatMap encT) ∧ Below w.heap.size w w' := by
  go_enter Try.func41, Try.ntmps41
  go_wp2_with fail
  refine (append_seq lb bs xs w hseq hbs hn).mono ?_
  rintro e w' ⟨v, rfl, ho, hB⟩
  have HO := Lib.hid ho
  have HB := Lib.hid hB
  clear ho hB hseq
  go_wp2_with fail
  go_ret
  exact ⟨_, rfl, HO.out, HB.out⟩

end Go.Proofs.Yteladooegjgdnaa
