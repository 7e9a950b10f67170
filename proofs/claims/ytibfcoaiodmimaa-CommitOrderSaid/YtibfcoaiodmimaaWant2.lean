/- What is wanted: collected. -/
import Derived.Test.YtibfcoaiodmimaaWant1
import Derived.Test.YtibfcoaiodmimaaOwnFr
namespace Go.Proofs.Ytibfcoaiodmimaa
open Go.RowKit Go.Sort Go.Lib Go.Shelf

/-- An append inside a fence to a slice of the call's own, and where the longer one lies. -/
theorem wpListIn_lies {F : Fence} {nn : Nat} {P : Program} (w : World) {ops : Array Oper} {rest : List Oper} {o : Oper} {a : Act} {Q : Exit → Act → World → Prop} (hgd : o.guard = none) (s x : Operand) (t : TypeId)
    (ho : o.op = .call { callee := .builtin .append, args := #[s, x], argTypes := #[t, t] })
    (base : Nat) (e : TypeId) (i : TypeInfo) (z : Value) (size bytes : Nat) (ht : P.underlying t = some (.slice e)) (hi : P.info? e = some i) (hz : i.zero = some z)
    (hsize : i.size = size) (hby : i.bytes = bytes) (hzs : z.cells.size = size) (hsz : 0 < size)
    (v : Value) (n : Nat) (xs : List Value) (hs : a.eval s = v) (hown : w.ownsRow base e size v n xs)
    (ad : Addr) (m c : Nat) (news : List Value) (hx : a.eval x = .slice (some ad) m c) (hl : news.length = m * size) (hnews : ∀ j u, news[j]? = some u → w.cell? (ad.add j) = some u) (h1 : ∀ u ∈ news, u.oneCell' = true)
    (hm : 0 < m) (h63 : n + m ≤ maxLen) (hbytes : (n + m) * bytes ≤ 140737488355328) (hbase : base ≤ w.heap.size)
    (h : ∀ g cap w', w'.ownsRow base e size (.slice (some ⟨g, 0, none⟩) (n + m) cap) (n + m) (xs ++ news) → w.grownBy w' v.ownBlock → (v.ownBlock = some g ∨ g = w.heap.size) → g < w'.heap.size → wpListIn F nn P ops Q rest (a.put o.dst (.slice (some ⟨g, 0, none⟩) (n + m) cap)) w') : wpListIn F nn P ops Q (o :: rest) a w := by
  obtain ⟨g, cap, w', hr, h2, h3, h4, h5⟩ := run_append_lies (P := P) w t o.type base e i z size bytes ht hi hz hsize hby hzs hsz v n xs hown ad m c news hl hnews h1 hm h63 hbytes hbase w.heap.size rfl
  refine wpListIn_plain hgd fun K hK => ?_
  unfold Oper.wpIn
  refine ⟨?_, ?_⟩
  · simp [Oper.about, ho, resolve, Target.leads, Sem.run_pure]
  · rw [Oper.semAt_plain F _ _ (by rw [ho]; intro c hc; cases hc)]
    simp [execOp, ho, resolve, invoke, builtin, hs, hx, hr, Result.andThen]
    exact hK _ _ (h g cap w' h2 h3 h4 h5)

def encP (s : ByteArray) : Value := .string s
/-- What lies between two rounds of AppendSeq: the box holds a slice of the call's own. -/
def AppJ (wa : World) (pre : List ByteArray) (W : World) : Prop := ∃ v, W.heap[wa.heap.size]? = some (.cells #[v] 41 (0, 0)) ∧ W.ownsRow wa.heap.size 9 1 v pre.length (pre.map encP) ∧ Below wa.heap.size wa W
def AppF (b : Nat) (W : World) (j : Nat) : Prop := j = b ∨ ∃ v, W.heap[b]? = some (.cells #[v] 41 (0, 0)) ∧ v.ownBlock = some j
theorem app_abide (wa : World) : Abide (wa.heap.size + 1) (AppF wa.heap.size) (AppJ wa) := by
  have hrow : ∀ {s : List ByteArray} {A : World} {row : Option Nat} {v : Value}, A.ownsRow wa.heap.size 9 1 v s.length (s.map encP) → (∀ r, row = some r → wa.heap.size + 1 ≤ r ∧ ∃ o : Obj, A.heap[r]? = some o ∧ o.isCells = false) → ∀ i, v.ownBlock = some i → some i ≠ row := by
    intro s A row v ho hr i hi e
    obtain ⟨_, o, h1, h2⟩ := hr i e.symm
    obtain ⟨_, ⟨rfl, _⟩ | ⟨g, cap, cur, rfl, _, hg, _⟩⟩ := ho
    · cases hi
    · injection hi with hi; subst hi
      rw [hg] at h1; injection h1 with h1; subst h1; cases h2
  refine ⟨?_, ?_, ?_⟩
  · rintro s A C row ⟨v, hb, ho, hl⟩ hg hr
    have hlt : wa.heap.size < A.heap.size := (Array.getElem?_eq_some_iff.1 hb).1
    refine ⟨v, (hg.block _ hlt (fun e => by have := (hr _ e.symm).1; omega)).trans hb, own_far ho (fun i hi => hg.block i (ho.lt i hi).2 (hrow ho hr i hi)), ?_⟩
    exact ⟨hg.os.trans hl.os, hg.tape.trans hl.tape, hg.output.trans hl.output, Nat.le_trans hl.size hg.size, fun k hk => (hg.block k (by omega) (fun e => by have := (hr _ e.symm).1; omega)).trans (hl.block k hk)⟩
  · rintro s A C row ⟨v, hb, ho, hl⟩ hg hr j (rfl | ⟨v', hv', hj⟩)
    · exact .inl rfl
    · have hlt : wa.heap.size < A.heap.size := (Array.getElem?_eq_some_iff.1 hb).1
      rw [hg.block _ hlt (fun e => by have := (hr _ e.symm).1; omega)] at hv'
      exact .inr ⟨v', hv', hj⟩
  · rintro s A j ⟨v, hb, ho, hl⟩ (rfl | ⟨v', hv', hj⟩)
    · exact ⟨_, hb, rfl⟩
    · rw [hb] at hv'
      injection hv' with hv'; injection hv' with hv' _ _
      injection hv' with hv'; injection hv' with hv' _
      subst hv'
      obtain ⟨_, ⟨rfl, _⟩ | ⟨g, cap, cur, rfl, _, hg, _⟩⟩ := ho
      · cases hj
      · injection hj with hj; subst hj; exact ⟨_, hg, rfl⟩

theorem app_ne {wa W : World} {pre : List ByteArray} {v : Value} (hb : W.heap[wa.heap.size]? = some (.cells #[v] 41 (0, 0))) (ho : W.ownsRow wa.heap.size 9 1 v pre.length (pre.map encP)) : v.ownBlock ≠ some wa.heap.size := by
  intro hi
  obtain ⟨_, ⟨rfl, _⟩ | ⟨g, cap, cur, rfl, _, hg, _⟩⟩ := ho
  · cases hi
  · injection hi with hi
    change g = wa.heap.size at hi
    subst hi
    rw [hb] at hg; injection hg with hg; injection hg with _ hg _; cases hg
theorem app_step {wa W w2 w3 : World} {pre : List ByteArray} {x : ByteArray} {v : Value} {g cap : Nat} (hb : W.heap[wa.heap.size]? = some (.cells #[v] 41 (0, 0))) (ho : W.ownsRow wa.heap.size 9 1 v pre.length (pre.map encP)) (hl : Below wa.heap.size wa W)
    (hB : Below W.heap.size W w2) (hown : w3.ownsRow wa.heap.size 9 1 (.slice (some ⟨g, 0, none⟩) (pre.length + 1) cap) (pre.length + 1) (pre.map encP ++ [encP x])) (hg : w2.grownBy w3 v.ownBlock) (hgl : v.ownBlock = some g ∨ g = w2.heap.size) :
    Free (AppF wa.heap.size) W (w3.setCell ⟨wa.heap.size, 0, none⟩ (.slice (some ⟨g, 0, none⟩) (pre.length + 1) cap)) ∧ AppJ wa (pre ++ [x]) (w3.setCell ⟨wa.heap.size, 0, none⟩ (.slice (some ⟨g, 0, none⟩) (pre.length + 1) cap)) := by
  have hlt : wa.heap.size < W.heap.size := (Array.getElem?_eq_some_iff.1 hb).1
  have hne := app_ne hb ho
  have hsz : W.heap.size ≤ w3.heap.size := Nat.le_trans hB.size hg.size
  have hk : ∀ i, i < W.heap.size → v.ownBlock ≠ some i → w3.heap[i]? = W.heap[i]? := fun i hi hn => (hg.block i (Nat.lt_of_lt_of_le hi hB.size) (fun e => hn e.symm)).trans (hB.block i hi)
  have hb3 : w3.heap[wa.heap.size]? = some (.cells #[v] 41 (0, 0)) := (hk _ hlt hne).trans hb
  have hgne : g ≠ wa.heap.size := by
    rcases hgl with h | h
    · intro e; rw [e] at h; exact hne h
    · have := hB.size; omega
  have hot : ∀ i, i ≠ wa.heap.size → (w3.setCell ⟨wa.heap.size, 0, none⟩ (.slice (some ⟨g, 0, none⟩) (pre.length + 1) cap)).heap[i]? = w3.heap[i]? := fun i hi => Below.heap_setCell _ _ _ i hi
  have hb4 : (w3.setCell ⟨wa.heap.size, 0, none⟩ (.slice (some ⟨g, 0, none⟩) (pre.length + 1) cap)).heap[wa.heap.size]? = some (.cells #[.slice (some ⟨g, 0, none⟩) (pre.length + 1) cap] 41 (0, 0)) := by
    obtain ⟨h1, h2⟩ := Array.getElem?_eq_some_iff.1 hb3
    show (w3.heap.modify wa.heap.size _)[wa.heap.size]? = _
    rw [Array.getElem?_eq_getElem (by rw [Array.size_modify]; exact h1), Array.getElem_modify_self, h2]
    rfl
  have hs4 : (w3.setCell ⟨wa.heap.size, 0, none⟩ (.slice (some ⟨g, 0, none⟩) (pre.length + 1) cap)).heap.size = w3.heap.size := by simp
  have hfree : Free (AppF wa.heap.size) W (w3.setCell ⟨wa.heap.size, 0, none⟩ (.slice (some ⟨g, 0, none⟩) (pre.length + 1) cap)) := by
    refine ⟨⟨hg.os.trans hB.os, hg.tape.trans hB.tape, hg.output.trans hB.output, by rw [hs4]; exact hsz, fun i hi hn => ?_⟩, ?_⟩
    · have hi1 : i ≠ wa.heap.size := fun e => hn (.inl e)
      exact (hot i hi1).trans (hk i hi (fun e => hn (.inr ⟨v, hb, e⟩)))
    · rintro j hj (rfl | ⟨v', hv', hj'⟩)
      · exact .inl rfl
      · rw [hb4] at hv'
        injection hv' with hv'; injection hv' with hv' _ _
        injection hv' with hv'; injection hv' with hv' _
        subst hv'
        injection hj' with hj'
        change g = j at hj'
        subst hj'
        rcases hgl with h | h
        · exact .inr ⟨v, hb, h⟩
        · have := hB.size; omega
  refine ⟨hfree, _, hb4, ?_, ?_⟩
  · have := own_far (w' := w3.setCell ⟨wa.heap.size, 0, none⟩ (.slice (some ⟨g, 0, none⟩) (pre.length + 1) cap)) hown (fun i hi => by
      injection hi with hi
      change g = i at hi
      subst hi
      exact hot g hgne)
    simpa using this
  · refine hl.trans ⟨hfree.fr.os, hfree.fr.tape, hfree.fr.output, hfree.fr.size, fun i hi => hfree.fr.block i (by omega) ?_⟩
    rintro (rfl | ⟨v', hv', hj⟩)
    · omega
    · rw [hb] at hv'
      injection hv' with hv'; injection hv' with hv' _ _
      injection hv' with hv'; injection hv' with hv' _
      subst hv'
      have := (ho.lt i hj).1; omega
theorem info_str : (Try.prog.info? 9).map (fun i => (i.zero, i.size, i.bytes)) = some (some (.string ⟨#[]⟩), 1, 16) := by kernel_rfl

set_option maxHeartbeats 3200000 in
set_option maxRecDepth 100000 in
theorem append_seq (lb : Array Value) (bs : List Nat) (xs : List ByteArray) (w : World) (hseq : ∀ n, SeqW Fence.wide n Try.prog 31 lb (fun s : ByteArray => #[Value.string s]) bs xs w) (hbs : ∀ b ∈ bs, b < w.heap.size) (hn : xs.length ≤ 1000000) :
    Calls Try.prog 30 #[.slice none 0 0, .func (.func 31) #[] lb] w fun e w' => ∃ v, e = .returned v ∧ w'.ownsRow w.heap.size 9 1 v xs.length (xs.map encP) ∧ Below w.heap.size w w' := by
  obtain ⟨ig, hig, hg0, hg1, hg2⟩ := info_parts info_str
  have hB0 : Below w.heap.size w (w.alloc (.cells #[.slice none 0 0] 41)) := (Below.refl _ _).alloc (Nat.le_refl _) _
  have HJ0 : Hid (AppJ w [] (w.alloc (.cells #[.slice none 0 0] 41))) := ⟨_, heap_alloc_new _ _, World.ownsRow_nil _ _ _ _, hB0⟩
  have HB0 := Lib.hid hB0
  have HSEQ := Lib.hid (hseq 2)
  have HBS : Hid (∀ b ∈ bs, ¬ AppF w.heap.size (w.alloc (.cells #[.slice none 0 0] 41)) b) := by
    intro b hb
    have hlt := hbs b hb
    rintro (rfl | ⟨v, hv, hj⟩)
    · omega
    · rw [heap_alloc_new] at hv
      injection hv with hv; injection hv with hv _ _
      injection hv with hv; injection hv with hv _
      subst hv; cases hj
  clear hseq hbs hB0
  refine calls_marks Try.func30 rfl ?_
  simp only [Try.ntmps30, List.size_toArray, List.length_cons, List.length_nil, Nat.reduceAdd, Nat.reduceSub, Array.replicate_succ, Array.replicate_zero, List.push_toArray, List.append_toArray, List.nil_append, List.cons_append]
  go_wp2_with fail
  have hsz0 : (w.alloc (.cells #[.slice none 0 0] 41)).heap.size = w.heap.size + 1 := by simp
  generalize w.alloc (.cells #[.slice none 0 0] 41) = w0 at *
  refine (wpIn_wide (n := 3)).1 ?_
  have hA := (app_abide w).mono (B' := w0.heap.size) (by omega)
  refine' range_whole rfl (by decide) rfl trivial (enters_of Try.func31 (by kernel_rfl) rfl) HSEQ.out HB0.out (fun _ => rfl) (AppF w.heap.size) (AppJ w) hA HBS.out HJ0.out _ _ _ _
  rotate_left
  · intro l2 x2 W2 K2 hK2
    have HK2 := Lib.hid hK2
    clear hK2
    gi_wp2_with (rw [Oper.semAt_eq _ _ _ (fun c h => by cases h)]; go_simp; try go_bits)
    exact HK2.out
  · rintro l2 pre x2 W2 ⟨v, hb, ho, hl⟩ hpre
    have c0 : W2.cell? ⟨w.heap.size, 0, none⟩ = some v := by simp [World.cell?, hb]
    have z0 : W2.frozen? ⟨w.heap.size, 0, none⟩ = false := by simp [World.frozen?, hb]
    have hlen : pre.length + 1 ≤ 1000000 := by have := hpre.length_le; simp at this; omega
    have HO := Lib.hid ho
    have HB := Lib.hid hb
    have HL := Lib.hid hl
    have hblt : w.heap.size < W2.heap.size := (Array.getElem?_eq_some_iff.1 hb).1
    have HNE := Lib.hid (app_ne hb ho)
    clear ho hb hl hpre
    gi_wp2_with (first
      | (gi_at_builtin; refine wpListIn_lies _ rfl _ _ 41 rfl w.heap.size 9 ig (.string ⟨#[]⟩) 1 16 Try.underlying41 hig hg0 hg1 hg2 rfl (by decide) _ _ _ rfl (own_below HO.out ((Below.refl _ _).alloc (Nat.le_refl _) _)) ⟨W2.heap.size, 0, none⟩ 1 1 [encP x2] rfl rfl (cell_one_new _ _ _) (by simp [Value.oneCell', encP]) (by decide) (by unfold maxLen; omega) (by omega) (by simp; omega) ?_; intro g cap w3 hown hg hgl hglt; have hb3 := (hg.block w.heap.size (by simp; omega) (fun e => HNE.out e.symm)).trans ((Below.heap_alloc _ _ _ hblt).trans HB.out); have c3 : w3.cell? ⟨w.heap.size, 0, none⟩ = some v := by simp [World.cell?, hb3]
         have z3 : w3.frozen? ⟨w.heap.size, 0, none⟩ = false := by simp [World.frozen?, hb3]
         have HST := Lib.hid (app_step (x := x2) HB.out HO.out HL.out ((Below.refl _ _).alloc (Nat.le_refl _) _) (by simpa using hown) hg hgl)
         clear hb3 hown hg hgl)
      | (rw [Oper.semAt_eq _ _ _ (fun c h => by cases h)]; go_simp; try go_bits))
    exact ⟨HST.out.1, HST.out.2⟩
  · rintro D W7 hD ⟨v, hb, ho, hl⟩ hF hk
    have c7 : W7.cell? ⟨w.heap.size, 0, none⟩ = some v := by simp [World.cell?, hb]
    have HO := Lib.hid ho
    have HL := Lib.hid hl
    have HK := Lib.hid hk
    have HD := Lib.hid hD
    clear ho hl hb hF hk hD
    go_wp2_with fail
    show LeavesInM _ _ _ _ _ _ _ _ _
    refine leaves_marks (B := w0.heap.size) (fun w' => w'.ownsRow w.heap.size 9 1 v xs.length (xs.map encP) ∧ Below w.heap.size w w') ?_ ?_ [D] W7 ⟨HO.out, HL.out⟩ (by simp) (fun E hE => by rw [List.mem_singleton] at hE; rw [hE]; exact ⟨HD.out, HK.out⟩)
    · rintro w' E ⟨ho, hl⟩ hE hk
      refine ⟨own_far ho (fun i hi => World.putObj_heap_other ?_), ⟨hl.os, hl.tape, hl.output, by rw [World.putObj_size]; exact hl.size, fun i hi => (World.putObj_heap_other (show i ≠ E by omega)).trans (hl.block i hi)⟩⟩
      rintro rfl
      obtain ⟨_, ⟨rfl, _⟩ | ⟨g, cap, cur, rfl, _, hg, _⟩⟩ := ho
      · cases hi
      · injection hi with hi
        change g = i at hi
        subst hi; rw [hk] at hg; cases hg
    · rintro w' ⟨ho, hl⟩
      exact ⟨_, results_tmp rfl _ _ _, v, rfl, ho, hl⟩
set_option maxHeartbeats 400000 in
theorem collect_seq (lb : Array Value) (bs : List Nat) (xs : List ByteArray) (w : World) (hseq : ∀ n, SeqW Fence.wide n Try.prog 31 lb (fun s : ByteArray => #[Value.string s]) bs xs w) (hbs : ∀ b ∈ bs, b < w.heap.size) (hn : xs.length ≤ 1000000) :
    Calls Try.prog 19 #[.func (.func 31) #[] lb] w fun e w' => ∃ v, e = .returned v ∧ w'.ownsRow w.heap.size 9 1 v xs.length (xs.map encP) ∧ Below w.heap.size w w' := by
  go_enter Try.func19, Try.ntmps19
  go_wp2_with fail
  refine (append_seq lb bs xs w hseq hbs hn).mono ?_
  rintro e w' ⟨v, rfl, ho, hB⟩
  have HO := Lib.hid ho
  have HB := Lib.hid hB
  clear ho hB hseq
  go_wp2_with fail
  go_ret
  exact ⟨_, rfl, HO.out, HB.out⟩

def wantR (root : Nm) (l : List (Nm × Ent)) : List ByteArray := if mayS root.2 then wantP l root.1 13 root.2 else []
set_option maxHeartbeats 1600000 in
set_option maxRecDepth 100000 in
theorem wants_led (f m : Nat) (most : Int) (l : List (Nm × Ent)) (root : Nm) (w : World) (h : Led w f m most l) (HKX : GoodL l) (hn : (wantP l root.1 13 root.2).length ≤ 1000000) (hs : root.2.size ≤ 9223372036854775807) :
    Calls Try.prog 10 #[.pointer (some ⟨f, 0, none⟩), .agg #[.int .u64 root.1, .string root.2]] w fun e w' =>
      ∃ v, e = .returned v ∧ w'.ownsRow w.heap.size 9 1 v (wantR root l).length ((wantR root l).map encP) ∧ Below w.heap.size w w' := by
  have hA : Below w.heap.size w (w.alloc (.cells #[.int .u64 root.1, .string root.2] 25)) := (Below.refl _ _).alloc (Nat.le_refl _) _
  have HL := Lib.hid (h.below hA)
  have n1 : (w.alloc (.cells #[.int .u64 root.1, .string root.2] 25)).cell? ⟨w.heap.size, 0, none⟩ = some (.int .u64 root.1) := by simp
  have n2 : (w.alloc (.cells #[.int .u64 root.1, .string root.2] 25)).cell? ⟨w.heap.size, 1, none⟩ = some (.string root.2) := by simp
  have HA := Lib.hid hA
  have c1 := HL.out.c1
  have mn := mapNilE
  clear h hA
  go_enter Try.func10, Try.ntmps10
  go_wp2_with fail
  refine (may_any root.2 _ hs).mono ?_
  rintro e wb ⟨rfl, hB⟩
  have HL2 := Lib.hid (HL.out.below hB)
  replace n1 := cell_keep hB n1
  replace n2 := cell_keep hB n2
  have HB := Lib.hid (HA.out.trans (hB.mono HA.out.size))
  clear hB HL HA c1
  cases hm : mayS root.2
  · have hu := Lib.hid (show wantR root l = [] by unfold wantR; rw [hm]; rfl)
    clear hm
    go_wp2_with fail
    go_ret
    exact ⟨_, rfl, by rw [hu.out]; exact World.ownsRow_nil _ _ _ _, HB.out⟩
  · have hu := Lib.hid (show wantR root l = wantP l root.1 13 root.2 by unfold wantR; rw [hm]; rfl)
    clear hm
    go_wp2_with fail
    refine (wants_make f root.1 root.2 _).mono ?_
    rintro e w6 ⟨rfl, hw6⟩
    have hB6 : Below wb.heap.size wb w6 := by rw [hw6]; exact ((((Below.refl _ _).alloc (Nat.le_refl _) _).alloc (by simp) _).alloc (by simp; omega) _)
    have hz6 : w6.heap.size = wb.heap.size + 3 := by rw [hw6]; simp [madeW]
    have e1 : w6.cell? ⟨wb.heap.size, 0, none⟩ = some (.pointer (some ⟨f, 0, none⟩)) := by rw [hw6]; unfold madeW; exact cell_keep ((Below.refl _ _).alloc (Nat.le_refl _) _) (cell_keep ((Below.refl _ _).alloc (Nat.le_refl _) _) (by simp))
    have e2 : w6.cell? ⟨wb.heap.size + 1, 0, none⟩ = some (.int .u64 root.1) := by rw [hw6]; unfold madeW; exact cell_keep ((Below.refl _ _).alloc (Nat.le_refl _) _) (by simp)
    have e3 : w6.cell? ⟨wb.heap.size + 2, 0, none⟩ = some (.string root.2) := by rw [hw6]; exact made_third f root.1 _ wb
    clear hw6
    have HL6 := Lib.hid (HL2.out.below hB6)
    have hlt := HL2.out.lt
    have HSEQ := Lib.hid (fun n => wants_seq f m most l HKX root.1 13 root.2 n _ _ _ w6 (by omega) HL6.out e1 e2 e3)
    have HB6 := Lib.hid (HB.out.trans (hB6.mono HB.out.size))
    have hHB := HB.out.size
    clear hB6 e1 e2 e3 n1 n2
    go_wp2_with fail
    refine (collect_seq _ _ _ w6 HSEQ.out (by intro b hb; simp only [List.mem_cons, List.not_mem_nil, or_false] at hb; omega) hn).mono ?_
    rintro e w7 ⟨v, rfl, ho, hB7⟩
    have HO := Lib.hid (owns_monoG ho (show w.heap.size ≤ w6.heap.size by omega))
    have HB7 := Lib.hid (HB6.out.trans (hB7.mono (by omega)))
    clear ho hB7 HSEQ
    go_wp2_with fail
    go_ret
    exact ⟨_, rfl, by rw [hu.out]; exact HO.out, HB7.out⟩
end Go.Proofs.Ytibfcoaiodmimaa
