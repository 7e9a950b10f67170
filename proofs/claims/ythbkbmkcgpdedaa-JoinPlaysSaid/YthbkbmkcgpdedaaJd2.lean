/- The document's table: one more row, a row over another one. -/
import Derived.Test.YthbkbmkcgpdedaaWk217
import Derived.Test.YthbkbmkcgpdedaaBox
import Derived.Deep.DeepCutAuto
import Derived.Test.YthbkbmkcgpdedaaCut
namespace Go.Proofs.Ythbkbmkcgpdedaa
open Go.RowKit Go.Sort Go.Lib

abbrev TrT : TypeId := 32
abbrev RowT : TypeId := 63
abbrev NmT : TypeId := 35
abbrev RP (r : Nat) : Value := .pointer (some ⟨r, 0, none⟩)
abbrev nmA (n : Nm) : Value := .agg #[.int .u64 n.1, .string n.2]
/-- A row of the document's: with whether it was forked. -/
def encD (p : Rl) : List Value := [.int .u64 p.1.1, .string p.1.2, .string p.1.2, .int .i64 p.2.fn, .slice p.2.aa p.2.args.length p.2.ac, .int .i64 p.2.fuel, .int .u8 p.2.st, .int .i64 p.2.op, .int .i64 p.2.val, .int .i64 p.2.err, .bool p.2.fk]
theorem encD_len (x : Rl) : (encD x).length = 11 := rfl
theorem alD (w : World) (o : Obj) : Below w.heap.size w (w.alloc o) := (Below.refl _ _).alloc (Nat.le_refl _) _
theorem gthenD {w w1 w2 : World} (h : Below w.heap.size w w1) (h2 : Below w1.heap.size w1 w2) : Below w.heap.size w w2 := h.trans (h2.mono h.size)
def ArgsR (w : World) (r : Rw) : Prop := ReadsK encI 1 w (.slice r.aa r.args.length r.ac) r.args
/-- A row's numbers lie ahead of Z. -/
def ArgsZ (Z : Nat) (w : World) (r : Rw) : Prop := ArgsR w r ∧ ∀ a, r.aa = some a → r.args ≠ [] → a.block < Z
theorem ArgsZ.keep {Z : Nat} {w w' : World} {r : Rw} (h : ArgsZ Z w r) (hB : Below Z w w') : ArgsZ Z w' r := by
  refine ⟨?_, h.2⟩
  rcases h.1 with e | ⟨b, off, cap, hv, hb, hc⟩
  · exact .inl e
  · injection hv with e1 e2 e3
    by_cases hne : r.args = []
    · exact .inl ⟨hne, _, _, by rw [hne]; rfl⟩
    have hz := h.2 _ e1 hne
    refine .inr ⟨b, off, cap, by rw [e1, e3], Nat.lt_of_lt_of_le hb hB.size, fun i hi t u hu => (hB.cell (p := ⟨b, off + (i * 1 + t), none⟩) hz).trans (hc i hi t u hu)⟩
/-- The document's rows: a list, in order. -/
structure Dt (Z r : Nat) (mo : Int) (lv : Value) (l : List Rl) (w : World) : Prop where
  box : BoxAt w r #[.int .i64 mo, lv] TrT
  own : w.ownsRow Z RowT 11 lv l.length (l.flatMap encD)
  zr : Z ≤ r
  args : ∀ p ∈ l, ArgsZ Z w p.2
section
variable {Z r : Nat} {mo : Int} {lv : Value} {l : List Rl} {w w' : World}
theorem Dt.below (h : Dt Z r mo lv l w) (hB : Below w.heap.size w w') : Dt Z r mo lv l w' := by
  have hz : Z ≤ w.heap.size := by
    have h1 : r < w.heap.size := (Array.getElem?_eq_some_iff.1 h.box).1
    have h2 := h.zr
    omega
  exact ⟨h.box.below hB, own_below h.own hB, h.zr, fun p hp => (h.args p hp).keep (hB.mono hz)⟩
theorem Dt.cell (h : Dt Z r mo lv l w) : w.cell? ⟨r, 1, none⟩ = some lv := h.box.cell 1
theorem Dt.cellM (h : Dt Z r mo lv l w) : w.cell? ⟨r, 0, none⟩ = some (.int .i64 mo) := h.box.cell 0
theorem Dt.at (h : Dt Z r mo lv l w) {k : Nat} (hk : k < l.length) : ∃ g cap, lv = .slice (some ⟨g, 0, none⟩) l.length cap ∧ ∀ t u, (encD l[k])[t]? = some u → w.cell? ⟨g, k * 11 + t, none⟩ = some u := by
  obtain ⟨g, cap, cur, hv, _, hg, hb, _, _, hsz, ht⟩ := own_blockK h.own (by omega)
  refine ⟨g, cap, hv, fun t u hu => ?_⟩
  rcases own_readsK (enc := encD) encD_len (by decide) h.own with ⟨e, _⟩ | ⟨b, off, c, e, _, hc⟩
  · rw [e] at hk; simp at hk
  · rw [hv] at e
    injection e with e1 _ _
    injection e1 with e1
    injection e1 with e1 e2 _
    subst e1; subst e2
    have := hc k hk t u hu
    simpa using this
end
/-- Where a root is. -/
def FindN (l : List Rl) (n : Nm) (i : Int) : Prop := (i = -1 ∧ ∀ p ∈ l, p.1 ≠ n) ∨ ∃ (j : Nat) (hj : j < l.length), i = (j : Int) ∧ l[j].1 = n
theorem eqNm (a b : Nm) (w : World) : (binOp .eql NmT (nmA a) (nmA b)).run Try.prog w = .ok (.bool (decide (a = b))) w := by
  have := nameTy.eq w a b
  unfold encN at this
  simp only [binOp, Sem.run_bind, this, Result.andThen, Sem.run_pure]
set_option maxHeartbeats 3200000 in
set_option maxRecDepth 100000 in
theorem dfind_any {Z r : Nat} {mo : Int} {lv : Value} {l : List Rl} {w : World} (n : Nm) (h : Dt Z r mo lv l w) (hm : l.length ≤ 100000) :
    Calls Try.prog 29 #[RP r, nmA n] w fun e w' => (∃ i, e = .returned (.int .i64 i) ∧ FindN l n i) ∧ Below w.heap.size w w' := by
  have hA := alD w (.cells #[.int .u64 n.1, .string n.2] NmT)
  have H0 := Lib.hid (h.below hA)
  have hn0 : (w.alloc (.cells #[.int .u64 n.1, .string n.2] NmT)).cell? ⟨w.heap.size, 0, none⟩ = some (.int .u64 n.1) := by simp [go_sem]
  have hn1 : (w.alloc (.cells #[.int .u64 n.1, .string n.2] NmT)).cell? ⟨w.heap.size, 1, none⟩ = some (.string n.2) := by simp [go_sem]
  have HA := Lib.hid hA
  obtain ⟨la, lc, hlv⟩ := own_slice h.own
  have HLV := Lib.hid hlv
  obtain ⟨N, hN⟩ : ∃ N, l.length = N := ⟨_, rfl⟩
  clear h hlv hA
  have HN := Lib.hid hN
  go_enter Try.func29, Try.ntmps29
  go_wp2_with fail
  have hnb : w.heap.size < (w.alloc (.cells #[.int .u64 n.1, .string n.2] NmT)).heap.size := by simp
  generalize w.alloc (.cells #[.int .u64 n.1, .string n.2] NmT) = wa at *
  obtain ⟨nb, hnbe⟩ : ∃ nb, w.heap.size = nb := ⟨_, rfl⟩
  rw [hnbe] at hn0 hn1 ⊢
  have HN0 := Lib.hid (And.intro hn0 hn1)
  clear hn0 hn1 hnb hnbe
  go_loopg [5] N (fun gk i wr => ∃ k : Nat, gk + k = N ∧ i = .int .i64 k ∧ Hid (Below wa.heap.size wa wr) ∧ Hid (∀ j, (hj : j < l.length) → j < k → l[j].1 ≠ n))
  case atStart => exact ⟨0, by omega, rfl, Below.refl _ _, fun j _ hj => absurd hj (by omega)⟩
  case round =>
    obtain ⟨k, hkk, rfl, HB, hn⟩ := hrel
    have y0 := (H0.out.below HB.out).cell
    rw [HLV.out, hN] at y0
    have m0 := (HB.out.cell (p := ⟨nb, 0, none⟩) (World.block_lt_of_cell? _ _ HN0.out.1)).trans HN0.out.1
    have m1 := (HB.out.cell (p := ⟨nb, 1, none⟩) (World.block_lt_of_cell? _ _ HN0.out.2)).trans HN0.out.2
    by_cases hlt : k < N
    · have hkl : k < l.length := by omega
      obtain ⟨g, cap, e, hc⟩ := (H0.out.below HB.out).at hkl
      rw [HLV.out] at e
      injection e with e1 _ e3
      subst e1
      have c0 : wr.cell? ⟨g, k * 11, none⟩ = some (.int .u64 l[k].1.1) := hc 0 _ rfl
      have c1 : wr.cell? ⟨g, k * 11 + 1, none⟩ = some (.string l[k].1.2) := hc 1 _ rfl
      clear e3 hc
      have heq := eqNm l[k].1 n
      cases hp : decide (l[k].1 = n)
      all_goals
        have HP := Lib.hid hp
        rw [hp] at heq
        clear hp hN
        generalize l[k].1 = xk at c0 c1 heq
        go_wp2_with fail
        go_quiet (fail)
        have HB2 := Lib.hid (HB.out.trans ((below_drewN (Below.refl wr.heap.size wr) nq).mono HB.out.size))
        clear c0 c1 heq m0 m1 y0 HB
        go_wp2_with fail
      · go_roundg (gk - 1)
        case rel => exact ⟨k + 1, by omega, by go_num, HB2.out, fun j hj hjk => by
          by_cases e : j = k
          · subst e; exact of_decide_eq_false HP.out
          · exact hn.out j hj (by omega)⟩
        case measure => omega
      · go_ret
        exact ⟨⟨_, rfl, .inr ⟨k, hkl, rfl, of_decide_eq_true HP.out⟩⟩, gthenD HA.out HB2.out⟩
    · have hke : k = l.length := by omega
      clear hN
      go_wp2_with fail
      go_ret
      exact ⟨⟨_, rfl, .inl ⟨rfl, fun x hx => by
        obtain ⟨j, hj, e⟩ := List.mem_iff_getElem.1 hx
        rw [← e]
        exact hn.out j hj (by omega)⟩⟩, gthenD HA.out HB.out⟩
end Go.Proofs.Ythbkbmkcgpdedaa
namespace Go.Proofs.Ythbkbmkcgpdedaa
open Go.RowKit Go.Sort Go.Lib

abbrev zRow : Value := .agg #[.int .u64 0, .string ⟨#[]⟩, .string ⟨#[]⟩, .int .i64 0, .slice none 0 0, .int .i64 0, .int .u8 0, .int .i64 0, .int .i64 0, .int .i64 0, .bool false]
theorem info_rowD : (Try.prog.info? RowT).map (fun i => (i.zero, i.size, i.bytes)) = some (some zRow, 11, 120) := by kernel_rfl
abbrev cellsM (n : Nm) : Obj := .cells #[.int .u64 n.1, .string n.2] NmT
abbrev cellsR (p : Rl) : Obj := .cells #[.int .u64 p.1.1, .string p.1.2, .string p.1.2, .int .i64 p.2.fn, .slice p.2.aa p.2.args.length p.2.ac, .int .i64 p.2.fuel, .int .u8 p.2.st, .int .i64 p.2.op, .int .i64 p.2.val, .int .i64 p.2.err, .bool p.2.fk] RowT
/-- A row is turned. -/
def updA (A : List Rl) (n : Nm) (c : Rw) : List Rl := A.map fun p => if p.1 = n then (p.1, c) else p
theorem one_rowD (w : World) (p : Rl) : ∀ j u, (encD p)[j]? = some u → (w.alloc (cellsR p)).cell? ((⟨w.heap.size, 0, none⟩ : Addr).add j) = some u := by
  intro j u hj
  have hb : (w.alloc (cellsR p)).heap[w.heap.size]? = some (cellsR p) := heap_alloc_new _ _
  have e : (w.alloc (cellsR p)).cell? ⟨w.heap.size, j, none⟩ = (encD p)[j]? := by
    simp only [World.cell?, hb]
    exact List.getElem?_toArray (xs := encD p)
  rw [← hj, ← e]
  by_cases h0 : j = 0
  · subst h0; rfl
  · simp [Addr.add, h0]
/-- One more row. -/
theorem app_rowD {Z n : Nat} {va : Option Addr} {vc : Nat} {D : List Rl} {w : World} (x : Rl) (ho : w.ownsRow Z RowT 11 (.slice va n vc) D.length (D.flatMap encD)) (hn : D.length = n) (hl : n ≤ 100000) (hz : Z ≤ w.heap.size) :
    ∃ g c w', (Builtin.append_ #[30, 30] 30 #[.slice va n vc, .slice (some ⟨w.heap.size, 0, none⟩) 1 1]).run Try.prog (w.alloc (cellsR x)) = .ok (.slice (some ⟨g, 0, none⟩) (n + 1) c) w' ∧
      w'.ownsRow Z RowT 11 (.slice (some ⟨g, 0, none⟩) (n + 1) c) (D ++ [x]).length ((D ++ [x]).flatMap encD) ∧ Fr (fun i => (Value.slice va n vc).ownBlock = some i) w w' := by
  obtain ⟨ig, hig, hg0, hg1, hg2⟩ := info_parts info_rowD
  have hA := alD w (cellsR x)
  rw [hn] at ho
  obtain ⟨g, c, w', hap, hown, hgrow, hat, _⟩ := run_append_lies (P := Try.prog) (w.alloc (cellsR x)) 30 30 Z RowT ig zRow 11 120 Try.underlying30 hig hg0 hg1 hg2 rfl (by decide) (.slice va n vc) n (D.flatMap encD) (own_below ho hA) ⟨w.heap.size, 0, none⟩ 1 1 (encD x) rfl (one_rowD w x) (by intro v hv; simp [encD] at hv; rcases hv with rfl | rfl | rfl | rfl | rfl | rfl | rfl | rfl | rfl | rfl <;> rfl) (by decide) (by unfold maxLen; omega) (by omega) (by simp; omega) _ rfl
  refine ⟨g, c, w', hap, ?_, grow_fr' hA hgrow⟩
  have e : (D ++ [x]).length = n + 1 := by rw [List.length_append, hn]; rfl
  rw [e]
  simpa [List.flatMap_append] using hown
structure DL (r : Nat) (lv : Value) (w : World) (lv' : Value) (w' : World) : Prop where
  fr : Fr (fun i => i = r ∨ lv.ownBlock = some i) w w'
  own : lv'.ownBlock = lv.ownBlock ∨ ∀ g, lv'.ownBlock = some g → w.heap.size ≤ g
theorem DL.below {r : Nat} {lv : Value} {w w' : World} (hB : Below w.heap.size w w') : DL r lv w lv w' := ⟨Fr.of_below hB, .inl rfl⟩
theorem DL.from {r : Nat} {lv lv' : Value} {w w2 w' : World} (hB : Below w.heap.size w w2) (h : DL r lv w2 lv' w') : DL r lv w lv' w' :=
  ⟨(Fr.of_below hB).trans h.fr, h.own.imp id (fun k g hg => Nat.le_trans hB.size (k g hg))⟩
/-- The struct gets another list. -/
theorem Dt.put {Z r : Nat} {mo : Int} {lv lv' : Value} {l l' : List Rl} {w w2 : World} (h : Dt Z r mo lv l w) (hF : Fr (fun i => lv.ownBlock = some i) w w2) (ho : w2.ownsRow Z RowT 11 lv' l'.length (l'.flatMap encD)) (hs : ∀ p ∈ l', ∃ q ∈ l, p.2.aa = q.2.aa ∧ p.2.ac = q.2.ac ∧ p.2.args = q.2.args)
    (hn : lv'.ownBlock = lv.ownBlock ∨ ∀ g, lv'.ownBlock = some g → w.heap.size ≤ g) : Dt Z r mo lv' l' (w2.setCell ⟨r, 1, none⟩ lv') ∧ DL r lv w lv' (w2.setCell ⟨r, 1, none⟩ lv') := by
  have hb2 := h.box.fr hF (own_not_box h.own h.box (by decide))
  have hF2 : Fr (fun i => i = r) w2 (w2.setCell ⟨r, 1, none⟩ lv') := (Fr.refl (fun i => i = r) w2).setCell (p := ⟨r, 1, none⟩) rfl _
  have hz : Z ≤ w.heap.size := by
    have h1 : r < w.heap.size := (Array.getElem?_eq_some_iff.1 h.box).1
    have h2 := h.zr
    omega
  have hBZ : Below Z w (w2.setCell ⟨r, 1, none⟩ lv') := (hF.below (fun i hi => (h.own.lt i hi).1) hz).trans (hF2.below (fun i e => by subst e; exact h.zr) (Nat.le_trans hz hF.size))
  refine ⟨⟨Go.heap_setCell_same w2 r 1 _ _ _ hb2, own_typed ho hF2 (typed_box hb2) (by decide), h.zr, fun p hp => ?_⟩, ⟨(hF.mono fun i hi => .inr hi).trans (hF2.mono fun i hi => .inl hi), hn⟩⟩
  obtain ⟨q, hq, e1, e2, e3⟩ := hs p hp
  obtain ⟨ha, hb⟩ := (h.args q hq).keep hBZ
  refine ⟨?_, fun a ha hne => hb a (e1 ▸ ha) (fun e => hne (by first | (rw [← e2]; exact e) | (rw [← e3]; exact e) | (rw [e2]; exact e) | (rw [e3]; exact e)))⟩
  unfold ArgsR at ha ⊢
  rw [e1, e2, e3]; exact ha
theorem own_setD {w : World} {Z k n g cap j : Nat} {E : TypeId} {xs : List Value} {v : Value} (h : w.ownsRow Z E k (.slice (some ⟨g, 0, none⟩) n cap) n xs) : (w.setCell ⟨g, j, none⟩ v).ownsRow Z E k (.slice (some ⟨g, 0, none⟩) n cap) n (xs.set j v) := by
  obtain ⟨h0, ⟨hv, _⟩ | ⟨g', cap', cur, hv, h1, h2, h3, h4, h5, h6⟩⟩ := h
  · cases hv
  injection hv with e1 _ e3
  injection e1 with e1
  injection e1 with e1
  subst e1; subst e3
  refine ⟨by simp [h0], .inr ⟨g, cap, cur.setIfInBounds j v, rfl, h1, Go.heap_setCell_same w g j cur E v h2, h3, h4, by simp [h5], ?_⟩⟩
  rw [Array.toList_setIfInBounds, ← h6, List.take_set]
/-- A row is written over another one. -/
def wrt11 (w : World) (g o : Nat) (x : Rl) : World := (((((((((((w.setCell ⟨g, o, none⟩ (.int .u64 x.1.1)).setCell ⟨g, o + 1, none⟩ (.string x.1.2)).setCell ⟨g, o + 2, none⟩ (.string x.1.2)).setCell ⟨g, o + 3, none⟩ (.int .i64 x.2.fn)).setCell ⟨g, o + 4, none⟩ (.slice x.2.aa x.2.args.length x.2.ac)).setCell ⟨g, o + 5, none⟩ (.int .i64 x.2.fuel)).setCell ⟨g, o + 6, none⟩ (.int .u8 x.2.st)).setCell ⟨g, o + 7, none⟩ (.int .i64 x.2.op)).setCell ⟨g, o + 8, none⟩ (.int .i64 x.2.val)).setCell ⟨g, o + 9, none⟩ (.int .i64 x.2.err)).setCell ⟨g, o + 10, none⟩ (.bool x.2.fk))
def wrts11 (xs : List Value) (o : Nat) (x : Rl) : List Value := (((((((((((xs.set (o) (.int .u64 x.1.1)).set (o + 1) (.string x.1.2)).set (o + 2) (.string x.1.2)).set (o + 3) (.int .i64 x.2.fn)).set (o + 4) (.slice x.2.aa x.2.args.length x.2.ac)).set (o + 5) (.int .i64 x.2.fuel)).set (o + 6) (.int .u8 x.2.st)).set (o + 7) (.int .i64 x.2.op)).set (o + 8) (.int .i64 x.2.val)).set (o + 9) (.int .i64 x.2.err)).set (o + 10) (.bool x.2.fk))
theorem set_cons11 (p : List Value) (hp : p.length = 11) (xs : List Value) (o : Nat) (v : Value) : (p ++ xs).set (o + 11) v = p ++ xs.set o v := by
  rw [List.set_append_right _ _ (by omega), hp, Nat.add_sub_cancel]
theorem flat_wrt11 (x : Rl) : ∀ (l : List Rl) (j : Nat), j < l.length → wrts11 (l.flatMap encD) (j * 11) x = (l.set j x).flatMap encD
  | [], _, h => absurd h (by simp)
  | y :: l, 0, _ => by simp [wrts11, encD]
  | y :: l, j + 1, h => by
    have ih := flat_wrt11 x l j (by simpa using h)
    have e : ∀ i, (j + 1) * 11 + i = j * 11 + i + 11 := by intro i; omega
    have e0 : (j + 1) * 11 = j * 11 + 11 := by omega
    rw [List.set_cons_succ, List.flatMap_cons, List.flatMap_cons, ← ih]
    unfold wrts11
    simp only [e0, set_cons11 _ (encD_len y), Nat.add_right_comm _ 11 _]
theorem wrt11_own {Z n g cap o : Nat} {xs : List Value} {w : World} {x : Rl} (h : w.ownsRow Z RowT 11 (.slice (some ⟨g, 0, none⟩) n cap) n xs) : (wrt11 w g o x).ownsRow Z RowT 11 (.slice (some ⟨g, 0, none⟩) n cap) n (wrts11 xs o x) := by
  unfold wrt11 wrts11
  exact own_setD (own_setD (own_setD (own_setD (own_setD (own_setD (own_setD (own_setD (own_setD (own_setD (own_setD h))))))))))
theorem wrt11_fr (w : World) (g o : Nat) (x : Rl) : Fr (fun i => i = g) w (wrt11 w g o x) := by
  unfold wrt11
  exact (((((((((((Fr.refl (fun i => i = g) w).setCell (p := ⟨g, _, none⟩) rfl _).setCell (p := ⟨g, _, none⟩) rfl _).setCell (p := ⟨g, _, none⟩) rfl _).setCell (p := ⟨g, _, none⟩) rfl _).setCell (p := ⟨g, _, none⟩) rfl _).setCell (p := ⟨g, _, none⟩) rfl _).setCell (p := ⟨g, _, none⟩) rfl _).setCell (p := ⟨g, _, none⟩) rfl _).setCell (p := ⟨g, _, none⟩) rfl _).setCell (p := ⟨g, _, none⟩) rfl _).setCell (p := ⟨g, _, none⟩) rfl _
theorem Dt.set {Z r g cap j : Nat} {mo : Int} {lv : Value} {l : List Rl} {w : World} {x : Rl} (h : Dt Z r mo lv l w) (hlv : lv = .slice (some ⟨g, 0, none⟩) l.length cap) (hj : j < l.length) (h1 : x.2.aa = l[j].2.aa) (h2 : x.2.ac = l[j].2.ac) (h3 : x.2.args = l[j].2.args) :
    Dt Z r mo lv (l.set j x) (wrt11 w g (j * 11) x).drew ∧ DL r lv w lv (wrt11 w g (j * 11) x).drew := by
  have hF := wrt11_fr w g (j * 11) x
  have ho := h.own
  rw [hlv] at ho
  have hgb : lv.ownBlock = some g := by rw [hlv]; rfl
  have hgr := own_not_box h.own h.box (by decide)
  have hz : Z ≤ w.heap.size := by
    have h1 : r < w.heap.size := (Array.getElem?_eq_some_iff.1 h.box).1
    have h2 := h.zr
    omega
  have hBZ : Below Z w (wrt11 w g (j * 11) x) := hF.below (fun i e => by subst e; exact (h.own.lt _ hgb).1) hz
  have ho2 := wrt11_own (o := j * 11) (x := x) ho
  rw [flat_wrt11 x l j hj] at ho2
  have hD : Dt Z r mo lv (l.set j x) (wrt11 w g (j * 11) x) := by
    refine ⟨h.box.fr hF (fun e => hgr (by rw [hgb, e])), by rw [hlv, List.length_set]; exact ho2, h.zr, fun p hp => ?_⟩
    rcases List.mem_or_eq_of_mem_set hp with e | e
    · exact (h.args p e).keep hBZ
    · subst e
      obtain ⟨ha, hb⟩ := (h.args _ (List.getElem_mem hj)).keep hBZ
      refine ⟨?_, fun a ha hne => hb a (h1 ▸ ha) (fun e => hne (by first | (rw [← h2]; exact e) | (rw [← h3]; exact e) | (rw [h2]; exact e) | (rw [h3]; exact e)))⟩
      unfold ArgsR at ha ⊢
      rw [h1, h2, h3]; exact ha
  exact ⟨hD.below (Below.refl _ _).drew, ⟨(hF.mono fun i e => .inr (by rw [e]; exact hgb)).then (Below.refl _ _).drew, .inl rfl⟩⟩
theorem set_upd {l : List Rl} {n : Nm} {c : Rw} {j : Nat} (hn : (l.map (·.1)).Nodup) (hj : j < l.length) (he : l[j].1 = n) : l.set j (n, c) = updA l n c := by
  unfold updA
  apply List.ext_getElem
  · simp
  · intro i h1 h2
    rw [List.length_set] at h1
    rw [List.getElem_set, List.getElem_map]
    by_cases hi : j = i
    · subst hi; rw [if_pos rfl, if_pos he, he]
    · rw [if_neg hi, if_neg]
      intro e
      exact hi (idx_only hn hj h1 he e)
theorem get_at {l : List Rl} {n : Nm} {j : Nat} (hn : (l.map (·.1)).Nodup) (hj : j < l.length) (he : l[j].1 = n) : getL l n = some l[j].2 := (getL_memV hn _ _).2 (by rw [← he]; exact List.getElem_mem hj)
theorem get_no {l : List Rl} {n : Nm} (h : ∀ p ∈ l, p.1 ≠ n) : getL l n = none := getL_noneV h
theorem runR_first {a : Option Addr} {N n cap : Nat} (hn : n ≤ cap) (W : World) : (Instr.slice 30 (.slice a N cap) none (some (.int .i64 (n : Int))) none).run Try.prog W = .ok (.slice a n cap) W := by
  rw [run_slice_h (P := Try.prog) (w := W) (t := 30) (a := a) (len := N) (cap := cap) (by kernel_rfl) .i64 n (by omega) (by omega)]
  have hs : (sizeOf (Try.prog.elem 30)).run Try.prog W = .ok 11 W := by kernel_rfl
  rw [hs]
  cases a <;> simp [Result.andThen, sliced, Addr.add]
theorem runR_last {a : Option Addr} {n cap : Nat} {w : World} {l : List Rl} (h : ReadsK encD 11 w (.slice a l.length cap) l) (hn : n ≤ l.length) (hc0 : l.length ≤ cap) : ∃ v, (∀ W, (Instr.slice 30 (.slice a l.length cap) (some (.int .i64 (n : Int))) none none).run Try.prog W = .ok v W) ∧ ReadsK encD 11 w v (l.drop n) := by
  have hr : ∀ W, (Instr.slice 30 (.slice a l.length cap) (some (.int .i64 (n : Int))) none none).run Try.prog W = .ok (.slice (if cap = n then a else a.map (·.add (n * 11))) (l.length - n) (cap - n)) W := fun W => by
    rw [run_slice_l (P := Try.prog) (w := W) (t := 30) (a := a) (len := l.length) (cap := cap) (by kernel_rfl) .i64 n (by omega) (by omega)]
    have hs : (sizeOf (Try.prog.elem 30)).run Try.prog W = .ok 11 W := by kernel_rfl
    rw [hs]
    simp [Result.andThen, sliced]
  refine ⟨_, hr, ?_⟩
  by_cases he : l.length ≤ n
  · exact .inl ⟨List.drop_eq_nil_of_le he, _, _, by rw [Nat.sub_eq_zero_of_le he]⟩
  · by_cases hc : cap = n
    · omega
    · rw [if_neg hc]
      cases a with
      | none =>
        rcases h with ⟨h1, _⟩ | ⟨b, off, cap', hv, _⟩
        · rw [h1] at he; simp at he
        · cases hv
      | some p =>
        have h' := h
        rcases h with ⟨h1, _⟩ | ⟨b, off, cap', hv, _⟩
        · rw [h1] at he; simp at he
        · injection hv with e1 _ _
          injection e1 with e1
          subst e1
          have := readsK_drop h' n (by omega) (cap - n)
          by_cases hn0 : n = 0
          · subst hn0; simpa [Addr.add] using this
          · have h2 : ¬ n * 11 = 0 := by omega
            simpa [Addr.add, h2] using this
theorem own_capD {Z k n c : Nat} {E : TypeId} {a : Option Addr} {xs : List Value} {w : World} (h : w.ownsRow Z E k (.slice a n c) n xs) : n ≤ c := by
  obtain ⟨_, ⟨hv, h0⟩ | ⟨g, c', cur, hv, _, _, h3, _⟩⟩ := h
  · omega
  · injection hv with _ _ e
    rw [e]; exact h3
/-- The struct gets another list, with one that is new. -/
theorem Dt.put2 {Z r : Nat} {mo : Int} {lv lv' : Value} {l l' : List Rl} {w w2 : World} (h : Dt Z r mo lv l w) (hB : Below w.heap.size w w2) (ho : w2.ownsRow w.heap.size RowT 11 lv' l'.length (l'.flatMap encD)) (hs : ∀ p ∈ l', ArgsZ Z w p.2) :
    Dt Z r mo lv' l' (w2.setCell ⟨r, 1, none⟩ lv') ∧ DL r lv w lv' (w2.setCell ⟨r, 1, none⟩ lv') := by
  have hb2 := h.box.below hB
  have hF2 : Fr (fun i => i = r) w2 (w2.setCell ⟨r, 1, none⟩ lv') := (Fr.refl (fun i => i = r) w2).setCell (p := ⟨r, 1, none⟩) rfl _
  have hz : Z ≤ w.heap.size := by
    have h1 : r < w.heap.size := (Array.getElem?_eq_some_iff.1 h.box).1
    have h2 := h.zr
    omega
  have hBZ : Below Z w (w2.setCell ⟨r, 1, none⟩ lv') := (hB.mono hz).trans (hF2.below (fun i e => by subst e; exact h.zr) (Nat.le_trans hz hB.size))
  exact ⟨⟨Go.heap_setCell_same w2 r 1 _ _ _ hb2, own_typed (owns_monoG ho hz) hF2 (typed_box hb2) (by decide), h.zr, fun p hp => (hs p hp).keep hBZ⟩, ⟨(Fr.of_below hB).trans (hF2.mono fun i hi => .inl hi), .inr fun g hg => (ho.lt g hg).1⟩⟩
/-- Where a name goes. -/
def InsN (l : List Rl) (n : Nm) (k : Nat) : Prop := k ≤ l.length ∧ (∀ j (hj : j < l.length), j < k → cmpN l[j].1 n < 0) ∧ (k = l.length ∨ ∃ hk : k < l.length, ¬ cmpN l[k].1 n < 0)
/-- What of answers of the document's list. -/
def ofE (l : List Rl) (n : Nm) (L : List Int) : Int := match getL l n with
  | none => 5
  | some r => if r.st ∈ L then 0 else 3
def freshE (l : List Rl) (mo : Int) (n : Nm) : Int := if (getL l n).isSome then 7 else if mo ≤ l.length then 6 else 0
end Go.Proofs.Ythbkbmkcgpdedaa
