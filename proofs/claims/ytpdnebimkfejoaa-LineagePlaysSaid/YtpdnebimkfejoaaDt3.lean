/- The document's tree: Waits, Drop. -/
import Derived.Test.YtpdnebimkfejoaaDt2
namespace Go.Proofs.Ytpdnebimkfejoaa
open Go.RowKit Go.Sort Go.Lib

abbrev zRoot : Value := .agg #[.int .u64 0, .string ⟨#[]⟩, .string ⟨#[]⟩, .int .i64 0, .slice none 0 0, .int .i64 0, .int .u8 0, .int .i64 0, .int .u64 0]
theorem info_rootD : (Try.prog.info? RootT).map (fun i => (i.zero, i.size, i.bytes)) = some (some zRoot, 9, 104) := by kernel_rfl
theorem info_nmD : (Try.prog.info? NmT).map (fun i => (i.zero, i.size, i.bytes)) = some (some (.agg #[.int .u64 0, .string ⟨#[]⟩]), 2, 24) := by kernel_rfl
abbrev cellsM (n : Nm) : Obj := .cells #[.int .u64 n.1, .string n.2] NmT
abbrev cellsR (p : Rl) : Obj := .cells #[.int .u64 p.1.1, .string p.1.2, .string p.1.2, .int .i64 p.2.fn, .slice p.2.aa p.2.args.length p.2.ac, .int .i64 p.2.fuel, .int .u8 p.2.st, .int .i64 p.2.wk, .int .u64 p.2.ep] RootT
theorem one_nm (w : World) (n : Nm) : ∀ j u, (encM n)[j]? = some u → (w.alloc (cellsM n)).cell? ((⟨w.heap.size, 0, none⟩ : Addr).add j) = some u := by
  intro j u hj
  match j with
  | 0 => simp [encM] at hj; subst hj; simp [go_sem, Addr.add]
  | 1 => simp [encM] at hj; subst hj; simp [go_sem, Addr.add]
  | j + 2 => simp [encM] at hj
theorem one_root (w : World) (p : Rl) : ∀ j u, (encT p)[j]? = some u → (w.alloc (cellsR p)).cell? ((⟨w.heap.size, 0, none⟩ : Addr).add j) = some u := by
  intro j u hj
  have hb : (w.alloc (cellsR p)).heap[w.heap.size]? = some (cellsR p) := heap_alloc_new _ _
  have e : (w.alloc (cellsR p)).cell? ⟨w.heap.size, j, none⟩ = (encT p)[j]? := by
    simp only [World.cell?, hb]
    exact List.getElem?_toArray (xs := encT p)
  rw [← hj, ← e]
  by_cases h0 : j = 0
  · subst h0; rfl
  · simp [Addr.add, h0]
/-- One more name behind an own list. -/
theorem app_nm {Z n : Nat} {va : Option Addr} {vc : Nat} {D : List Nm} {w : World} (x : Nm) (ho : w.ownsRow Z NmT 2 (.slice va n vc) D.length (D.flatMap encM)) (hn : D.length = n) (hl : n ≤ 100000) (hz : Z ≤ w.heap.size) :
    ∃ g c w', (Builtin.append_ #[45, 45] 45 #[.slice va n vc, .slice (some ⟨w.heap.size, 0, none⟩) 1 1]).run Try.prog (w.alloc (cellsM x)) = .ok (.slice (some ⟨g, 0, none⟩) (n + 1) c) w' ∧
      w'.ownsRow Z NmT 2 (.slice (some ⟨g, 0, none⟩) (n + 1) c) (D ++ [x]).length ((D ++ [x]).flatMap encM) ∧ Fr (fun i => (Value.slice va n vc).ownBlock = some i) w w' := by
  obtain ⟨ig, hig, hg0, hg1, hg2⟩ := info_parts info_nmD
  have hA := alD w (cellsM x)
  rw [hn] at ho
  obtain ⟨g, c, w', hap, hown, hgrow, hat, _⟩ := run_append_lies (P := Try.prog) (w.alloc (cellsM x)) 45 45 Z NmT ig (.agg #[.int .u64 0, .string ⟨#[]⟩]) 2 24 Try.underlying45 hig hg0 hg1 hg2 rfl (by decide) (.slice va n vc) n (D.flatMap encM) (own_below ho hA) ⟨w.heap.size, 0, none⟩ 1 1 (encM x) rfl (one_nm w x) (by intro v hv; simp [encM] at hv; rcases hv with rfl | rfl <;> rfl) (by decide) (by unfold maxLen; omega) (by omega) (by simp; omega) _ rfl
  refine ⟨g, c, w', hap, ?_, grow_fr' hA hgrow⟩
  have e : (D ++ [x]).length = n + 1 := by rw [List.length_append, hn]; rfl
  rw [e]
  simpa [List.flatMap_append] using hown
/-- One more root. -/
theorem app_root {Z n : Nat} {va : Option Addr} {vc : Nat} {D : Al} {w : World} (x : Rl) (ho : w.ownsRow Z RootT 9 (.slice va n vc) D.length (D.flatMap encT)) (hn : D.length = n) (hl : n ≤ 100000) (hz : Z ≤ w.heap.size) :
    ∃ g c w', (Builtin.append_ #[39, 39] 39 #[.slice va n vc, .slice (some ⟨w.heap.size, 0, none⟩) 1 1]).run Try.prog (w.alloc (cellsR x)) = .ok (.slice (some ⟨g, 0, none⟩) (n + 1) c) w' ∧
      w'.ownsRow Z RootT 9 (.slice (some ⟨g, 0, none⟩) (n + 1) c) (D ++ [x]).length ((D ++ [x]).flatMap encT) ∧ Fr (fun i => (Value.slice va n vc).ownBlock = some i) w w' := by
  obtain ⟨ig, hig, hg0, hg1, hg2⟩ := info_parts info_rootD
  have hA := alD w (cellsR x)
  rw [hn] at ho
  obtain ⟨g, c, w', hap, hown, hgrow, hat, _⟩ := run_append_lies (P := Try.prog) (w.alloc (cellsR x)) 39 39 Z RootT ig zRoot 9 104 Try.underlying39 hig hg0 hg1 hg2 rfl (by decide) (.slice va n vc) n (D.flatMap encT) (own_below ho hA) ⟨w.heap.size, 0, none⟩ 1 1 (encT x) rfl (one_root w x) (by intro v hv; simp [encT] at hv; rcases hv with rfl | rfl | rfl | rfl | rfl | rfl | rfl | rfl <;> rfl) (by decide) (by unfold maxLen; omega) (by omega) (by simp; omega) _ rfl
  refine ⟨g, c, w', hap, ?_, grow_fr' hA hgrow⟩
  have e : (D ++ [x]).length = n + 1 := by rw [List.length_append, hn]; rfl
  rw [e]
  simpa [List.flatMap_append] using hown
def rootV (p : Rl) : Value := .agg #[.int .u64 p.1.1, .string p.1.2, .string p.1.2, .int .i64 p.2.fn, .slice p.2.aa p.2.args.length p.2.ac, .int .i64 p.2.fuel, .int .u8 p.2.st, .int .i64 p.2.wk, .int .u64 p.2.ep]
def waitsD (l : Al) : List Nm := (l.filter fun p => decide (p.2.st = 1)).map (·.1)
theorem waitsD_take {l : Al} {k : Nat} (hk : k < l.length) : waitsD (l.take (k + 1)) = waitsD (l.take k) ++ (if l[k].2.st = 1 then [l[k].1] else []) := by
  unfold waitsD
  rw [List.take_succ_eq_append_getElem hk, List.filter_append, List.map_append]
  congr 1
  by_cases h : l[k].2.st = 1 <;> simp [h]
set_option maxHeartbeats 6400000 in
set_option maxRecDepth 100000 in
theorem dwaits_any {Z r : Nat} {lv : Value} {l : Al} {w : World} (h : Dt Z r lv l w) (hm : l.length ≤ 100000) :
    Calls Try.prog 32 #[RP r] w fun e w' => ∃ v, e = .returned v ∧ w'.ownsRow w.heap.size NmT 2 v (waitsD l).length ((waitsD l).flatMap encM) ∧ Below w.heap.size w w' := by
  have H0 := Lib.hid h
  obtain ⟨la, lc, hlv⟩ := own_slice h.own
  have HLV := Lib.hid hlv
  obtain ⟨N, hN⟩ : ∃ N, l.length = N := ⟨_, rfl⟩
  clear h hlv
  have HN := Lib.hid hN
  have hN1 : N ≤ 100000 := by omega
  go_enter Try.func32, Try.ntmps32
  go_wp2_with fail
  go_loopg [3, 4] N (fun gk t3 t4 wr => ∃ (k : Nat) (va : Option Addr) (vn vc : Nat), gk + k = N ∧ t4 = .int .i64 k ∧ t3 = .slice va vn vc ∧ (waitsD (l.take k)).length = vn ∧ vn ≤ k ∧ Hid (Below w.heap.size w wr ∧ wr.ownsRow w.heap.size NmT 2 (.slice va vn vc) (waitsD (l.take k)).length ((waitsD (l.take k)).flatMap encM)))
  case atStart => exact ⟨0, none, 0, 0, by omega, rfl, rfl, rfl, by omega, Below.refl _ _, World.ownsRow_nil _ _ _ _⟩
  case round =>
    obtain ⟨k, va, vn, vc, hkk, rfl, rfl, hvn, hvk, HR⟩ := hrel
    have y0 := (H0.out.below HR.out.1).cell
    rw [HLV.out, hN] at y0
    have HVN := Lib.hid hvn
    clear hvn
    by_cases hlt : k < N
    · have hkl : k < l.length := by omega
      obtain ⟨g, cap, e, hc⟩ := (H0.out.below HR.out.1).at hkl
      rw [HLV.out] at e
      injection e with e1 _ e3
      subst e1
      have c0 : wr.cell? ⟨g, k * 9, none⟩ = some (.int .u64 l[k].1.1) := hc 0 _ rfl
      have c1 : wr.cell? ⟨g, k * 9 + 1, none⟩ = some (.string l[k].1.2) := hc 1 _ rfl
      have c6 : wr.cell? ⟨g, k * 9 + 6, none⟩ = some (.int .u8 l[k].2.st) := hc 6 _ rfl
      have HT := Lib.hid (waitsD_take hkl)
      obtain ⟨x, hx⟩ : ∃ x, l[k] = x := ⟨_, rfl⟩
      rw [hx] at c0 c1 c6 HT
      clear e3 hc hx hN
      by_cases hst : x.2.st = 1
      · have hsb : (x.2.st == 1) = true := by simp [hst]
        have HT2 := Lib.hid (show waitsD (l.take (k + 1)) = waitsD (l.take k) ++ [x.1] from by rw [HT.out, if_pos hst])
        obtain ⟨g7, c7, w7, hap, ho7, hF7⟩ := app_nm x.1 HR.out.2 HVN.out (by omega) HR.out.1.size
        have HN7 := Lib.hid (show Below w.heap.size w w7 ∧ w7.ownsRow w.heap.size NmT 2 (.slice (some ⟨g7, 0, none⟩) (vn + 1) c7) (waitsD (l.take (k + 1))).length ((waitsD (l.take (k + 1))).flatMap encM) from
          ⟨HR.out.1.trans (hF7.below (fun i hi => (HR.out.2.lt i hi).1) HR.out.1.size), by rw [HT2.out]; exact ho7⟩)
        have HL7 := Lib.hid (show (waitsD (l.take (k + 1))).length = vn + 1 from by rw [HT2.out, List.length_append, HVN.out]; rfl)
        obtain ⟨v7, hv7⟩ : ∃ n, vn + 1 = n := ⟨_, rfl⟩
        rw [hv7] at hap HL7 HN7
        have hv8 : v7 ≤ k + 1 := by omega
        clear hst ho7 hF7 hv7
        go_wp2_with (at_builtin; refine wpList_arunC rfl _ _ _ _ rfl rfl rfl hap ?_)
        go_roundg (gk - 1)
        case rel => exact ⟨k + 1, _, v7, c7, by omega, by go_num, rfl, HL7.out, hv8, HN7.out⟩
        case measure => omega
      · have hsb : (x.2.st == 1) = false := by simp [hst]
        have HT2 := Lib.hid (show waitsD (l.take (k + 1)) = waitsD (l.take k) from by rw [HT.out, if_neg hst, List.append_nil])
        clear hst
        go_wp2_with fail
        go_roundg (gk - 1)
        case rel => exact ⟨k + 1, va, vn, vc, by omega, by go_num, rfl, by rw [HT2.out]; exact HVN.out, by omega, HR.out.1, by rw [HT2.out]; exact HR.out.2⟩
        case measure => omega
    · have hke : k = l.length := by omega
      subst hke
      have HX := Lib.hid (show wr.ownsRow w.heap.size NmT 2 (.slice va vn vc) (waitsD l).length ((waitsD l).flatMap encM) from by have := HR.out.2; rwa [List.take_length] at this)
      clear hN
      go_wp2_with fail
      go_ret
      exact ⟨_, rfl, HX.out, HR.out.1⟩
def dropD (l : Al) (job : Int) : Al := l.filter fun p => !decide (p.1.1 = job)
theorem dropD_take {l : Al} {k : Nat} {job : Int} (hk : k < l.length) : dropD (l.take (k + 1)) job = dropD (l.take k) job ++ (if l[k].1.1 = job then [] else [l[k]]) := by
  unfold dropD
  rw [List.take_succ_eq_append_getElem hk, List.filter_append]
  congr 1
  by_cases h : l[k].1.1 = job <;> simp [h]
theorem dropD_le (l : Al) (job : Int) : (dropD l job).length ≤ l.length := List.length_filter_le _ _
structure DL (r : Nat) (lv : Value) (w : World) (lv' : Value) (w' : World) : Prop where
  fr : Fr (fun i => i = r ∨ lv.ownBlock = some i) w w'
  own : lv'.ownBlock = lv.ownBlock ∨ ∀ g, lv'.ownBlock = some g → w.heap.size ≤ g
theorem DL.below {r : Nat} {lv : Value} {w w' : World} (hB : Below w.heap.size w w') : DL r lv w lv w' := ⟨Fr.of_below hB, .inl rfl⟩
theorem DL.from {r : Nat} {lv lv' : Value} {w w2 w' : World} (hB : Below w.heap.size w w2) (h : DL r lv w2 lv' w') : DL r lv w lv' w' :=
  ⟨(Fr.of_below hB).trans h.fr, h.own.imp id (fun k g hg => Nat.le_trans hB.size (k g hg))⟩
/-- The struct gets another list. -/
theorem Dt.put {Z r : Nat} {lv lv' : Value} {l l' : Al} {w w2 : World} (h : Dt Z r lv l w) (hF : Fr (fun i => lv.ownBlock = some i) w w2) (ho : w2.ownsRow Z RootT 9 lv' l'.length (l'.flatMap encT)) (hs : ∀ p ∈ l', ∃ q ∈ l, p.2.aa = q.2.aa ∧ p.2.ac = q.2.ac ∧ p.2.args = q.2.args)
    (hn : lv'.ownBlock = lv.ownBlock ∨ ∀ g, lv'.ownBlock = some g → w.heap.size ≤ g) : Dt Z r lv' l' (w2.setCell ⟨r, 0, none⟩ lv') ∧ DL r lv w lv' (w2.setCell ⟨r, 0, none⟩ lv') := by
  have hb2 := h.box.fr hF (own_not_box h.own h.box (by decide))
  have hF2 : Fr (fun i => i = r) w2 (w2.setCell ⟨r, 0, none⟩ lv') := (Fr.refl (fun i => i = r) w2).setCell (p := ⟨r, 0, none⟩) rfl _
  have hz : Z ≤ w.heap.size := by
    have h1 : r < w.heap.size := (Array.getElem?_eq_some_iff.1 h.box).1
    have h2 := h.zr
    omega
  have hBZ : Below Z w (w2.setCell ⟨r, 0, none⟩ lv') := (hF.below (fun i hi => (h.own.lt i hi).1) hz).trans (hF2.below (fun i e => by subst e; exact h.zr) (Nat.le_trans hz hF.size))
  refine ⟨⟨Go.heap_setCell_same w2 r 0 _ _ _ hb2, own_typed ho hF2 (typed_box hb2) (by decide), h.zr, fun p hp => ?_⟩, ⟨(hF.mono fun i hi => .inr hi).trans (hF2.mono fun i hi => .inl hi), hn⟩⟩
  obtain ⟨q, hq, e1, e2, e3⟩ := hs p hp
  obtain ⟨ha, hb⟩ := (h.args q hq).keep hBZ
  refine ⟨?_, fun a ha hne => hb a (e1 ▸ ha) (fun e => hne (by first | (rw [← e2]; exact e) | (rw [← e3]; exact e) | (rw [e2]; exact e) | (rw [e3]; exact e)))⟩
  unfold ArgsR at ha ⊢
  rw [e1, e2, e3]; exact ha
def DropDP (Z r : Nat) (lv : Value) (l : Al) (job : Int) (w : World) (e : Ending) (w' : World) : Prop := e = .returned (.int .i64 ((l.length : Int) - (dropD l job).length)) ∧ ∃ lv', Dt Z r lv' (dropD l job) w' ∧ DL r lv w lv' w'
set_option maxHeartbeats 6400000 in
set_option maxRecDepth 100000 in
theorem ddrop_any {Z r : Nat} {lv : Value} {l : Al} {w : World} (job : Int) (h : Dt Z r lv l w) (hm : l.length ≤ 100000) :
    Calls Try.prog 28 #[RP r, .int .u64 job] w (DropDP Z r lv l job w) := by
  have H0 := Lib.hid h
  obtain ⟨la, lc, hlv⟩ := own_slice h.own
  have HLV := Lib.hid hlv
  obtain ⟨N, hN⟩ : ∃ N, l.length = N := ⟨_, rfl⟩
  clear h hlv
  have HN := Lib.hid hN
  have hN1 : N ≤ 100000 := by omega
  go_enter Try.func28, Try.ntmps28
  go_wp2_with fail
  go_loopg [5, 6] N (fun gk t5 t6 wr => ∃ (k : Nat) (va : Option Addr) (vn vc : Nat), gk + k = N ∧ t6 = .int .i64 k ∧ t5 = .slice va vn vc ∧ (dropD (l.take k) job).length = vn ∧ vn ≤ k ∧ Hid (Below w.heap.size w wr ∧ wr.ownsRow w.heap.size RootT 9 (.slice va vn vc) (dropD (l.take k) job).length ((dropD (l.take k) job).flatMap encT)))
  case atStart => exact ⟨0, none, 0, 0, by omega, rfl, rfl, rfl, by omega, Below.refl _ _, World.ownsRow_nil _ _ _ _⟩
  case round =>
    obtain ⟨k, va, vn, vc, hkk, rfl, rfl, hvn, hvk, HR⟩ := hrel
    have y0 := (H0.out.below HR.out.1).cell
    rw [HLV.out, hN] at y0
    have HVN := Lib.hid hvn
    clear hvn
    by_cases hlt : k < N
    · have hkl : k < l.length := by omega
      obtain ⟨g, cap, e, hc⟩ := (H0.out.below HR.out.1).at hkl
      rw [HLV.out] at e
      injection e with e1 _ e3
      subst e1
      have HT := Lib.hid (dropD_take (job := job) hkl)
      obtain ⟨x, hx⟩ : ∃ x, l[k] = x := ⟨_, rfl⟩
      rw [hx] at hc HT
      have c0 : wr.cell? ⟨g, k * 9, none⟩ = some (.int .u64 x.1.1) := hc 0 _ rfl
      have c1 : wr.cell? ⟨g, k * 9 + 1, none⟩ = some (.string x.1.2) := hc 1 _ rfl
      have c2 : wr.cell? ⟨g, k * 9 + 2, none⟩ = some (.string x.1.2) := hc 2 _ rfl
      have c3 : wr.cell? ⟨g, k * 9 + 3, none⟩ = some (.int .i64 x.2.fn) := hc 3 _ rfl
      have c4 : wr.cell? ⟨g, k * 9 + 4, none⟩ = some (.slice x.2.aa x.2.args.length x.2.ac) := hc 4 _ rfl
      have c5 : wr.cell? ⟨g, k * 9 + 5, none⟩ = some (.int .i64 x.2.fuel) := hc 5 _ rfl
      have c6 : wr.cell? ⟨g, k * 9 + 6, none⟩ = some (.int .u8 x.2.st) := hc 6 _ rfl
      have c7 : wr.cell? ⟨g, k * 9 + 7, none⟩ = some (.int .i64 x.2.wk) := hc 7 _ rfl
      have c8 : wr.cell? ⟨g, k * 9 + 8, none⟩ = some (.int .u64 x.2.ep) := hc 8 _ rfl
      clear e3 hc hx hN
      by_cases hst : x.1.1 = job
      · have hsb : (x.1.1 != job) = false := by simp [hst]
        have HT2 := Lib.hid (show dropD (l.take (k + 1)) job = dropD (l.take k) job from by rw [HT.out, if_pos hst, List.append_nil])
        clear hst c1 c2 c3 c4 c5 c6 c7 c8
        go_wp2_with fail
        go_roundg (gk - 1)
        case rel => exact ⟨k + 1, va, vn, vc, by omega, by go_num, rfl, by rw [HT2.out]; exact HVN.out, by omega, HR.out.1, by rw [HT2.out]; exact HR.out.2⟩
        case measure => omega
      · have hsb : (x.1.1 != job) = true := by simp [hst]
        have HT2 := Lib.hid (show dropD (l.take (k + 1)) job = dropD (l.take k) job ++ [x] from by rw [HT.out, if_neg hst])
        obtain ⟨g7, cc7, w7, hap, ho7, hF7⟩ := app_root x HR.out.2 HVN.out (by omega) HR.out.1.size
        have HN7 := Lib.hid (show Below w.heap.size w w7 ∧ w7.ownsRow w.heap.size RootT 9 (.slice (some ⟨g7, 0, none⟩) (vn + 1) cc7) (dropD (l.take (k + 1)) job).length ((dropD (l.take (k + 1)) job).flatMap encT) from
          ⟨HR.out.1.trans (hF7.below (fun i hi => (HR.out.2.lt i hi).1) HR.out.1.size), by rw [HT2.out]; exact ho7⟩)
        have HL7 := Lib.hid (show (dropD (l.take (k + 1)) job).length = vn + 1 from by rw [HT2.out, List.length_append, HVN.out]; rfl)
        obtain ⟨v7, hv7⟩ : ∃ n, vn + 1 = n := ⟨_, rfl⟩
        rw [hv7] at hap HL7 HN7
        have hv8 : v7 ≤ k + 1 := by omega
        clear hst ho7 hF7 hv7
        go_wp2_with (at_builtin; refine wpList_arunC rfl _ _ _ _ rfl rfl rfl hap ?_)
        go_roundg (gk - 1)
        case rel => exact ⟨k + 1, _, v7, cc7, by omega, by go_num, rfl, HL7.out, hv8, HN7.out⟩
        case measure => omega
    · have hke : k = l.length := by omega
      subst hke
      have HX := Lib.hid (show DropDP Z r lv l job w (.returned (.int .i64 ((N : Int) - vn))) (wr.setCell ⟨r, 0, none⟩ (.slice va vn vc)) from by
        have ho := HR.out.2
        have hvn := HVN.out
        rw [List.take_length] at ho hvn
        refine ⟨by rw [hvn, hN], .slice va vn vc, ?_⟩
        have hz : Z ≤ w.heap.size := by
          have h1 : r < w.heap.size := (Array.getElem?_eq_some_iff.1 H0.out.box).1
          have h2 := H0.out.zr
          omega
        exact H0.out.put (Fr.of_below HR.out.1) (owns_monoG ho hz) (fun p hp => ⟨p, (List.mem_filter.1 hp).1, rfl, rfl, rfl⟩) (.inr fun q hq => (ho.lt q hq).1))
      have qv : IntKind.i64.wrap ((N : Int) - (vn : Int)) = (N : Int) - (vn : Int) := IntWalk.i64_in _ (by omega)
      have f0 := (H0.out.below HR.out.1).box.frozen 0
      clear hN HR
      go_wp2_with fail
      go_ret
      exact HX.out
end Go.Proofs.Ytpdnebimkfejoaa
