/- The document's table: Over. -/
import Derived.Test.YthbkbmkcgpdedaaJd8
namespace Go.Proofs.Ythbkbmkcgpdedaa
open Go.RowKit Go.Sort Go.Lib

abbrev ResT : TypeId := 40
section
variable {Z r : Nat} {mo : Int} {lv lv' : Value} {l l' : List Rl} {w w' w2 : World}
theorem DL.more (h : DL r lv w lv' w2) (hB : Below w2.heap.size w2 w') : DL r lv w lv' w' := ⟨h.fr.then hB, h.own⟩
theorem Dt.thaw (h : Dt Z r mo lv l w) {g n cap : Nat} (hlv : lv = .slice (some ⟨g, 0, none⟩) n cap) (i : Nat) : w.frozen? ⟨g, i, none⟩ = false := by
  have ho := h.own
  obtain ⟨_, ⟨hv, h0⟩ | ⟨g', cap', cur, hv, _, hh, _⟩⟩ := ho
  · exfalso; rw [hv] at hlv; cases hlv
  · have e1 : g' = g := by rw [hv] at hlv; injection hlv with e1 _ _; injection e1 with e1; injection e1
    subst e1
    simp [World.frozen?, hh]
theorem fr2 (w1 : World) (s : Nat) (a b : Value) : Fr (fun i => i = s) w1 ((w1.setCell ⟨s, 0, none⟩ a).setCell ⟨s, 1, none⟩ b) :=
  ((Fr.refl (fun i => i = s) w1).setCell (p := ⟨s, 0, none⟩) rfl a).setCell (p := ⟨s, 1, none⟩) rfl b
theorem upd_nd {n : Nm} {c : Rw} (h : (l.map (·.1)).Nodup) : ((updA l n c).map (·.1)).Nodup := by
  have : (updA l n c).map (·.1) = l.map (·.1) := by
    unfold updA; rw [List.map_map]
    apply List.map_congr_left
    intro p _; simp only [Function.comp]; split <;> rfl
  rw [this]; exact h
theorem upd_len (l : List Rl) (n : Nm) (c : Rw) : (updA l n c).length = l.length := by unfold updA; rw [List.length_map]
theorem upd_has {n : Nm} {c c' : Rw} (hn : (l.map (·.1)).Nodup) (h : getL l n = some c) : getL (updA l n c') n = some c' := by
  refine (getL_memV (upd_nd hn) _ _).2 ?_
  unfold updA
  exact List.mem_map.2 ⟨(n, c), (getL_memV hn _ _).1 h, by simp⟩
theorem upd_upd (l : List Rl) (n : Nm) (a b : Rw) : updA (updA l n a) n b = updA l n b := by
  unfold updA
  rw [List.map_map]
  apply List.map_congr_left
  intro p _
  simp only [Function.comp]
  by_cases e : p.1 = n <;> simp [e]
theorem updA_in {n : Nm} {c : Rw} {q : Rl} (h : q ∈ updA l n c) : q = (n, c) ∨ q ∈ l := by
  unfold updA at h
  obtain ⟨p, hp, rfl⟩ := List.mem_map.1 h
  by_cases e : p.1 = n
  · left; rw [if_pos e, e]
  · right; rw [if_neg e]; exact hp
theorem at_of {n : Nm} {c : Rw} (hn : (l.map (·.1)).Nodup) (h : getL l n = some c) {j : Nat} (hj : j < l.length) (he : l[j].1 = n) : l[j] = (n, c) := by
  have h2 := getL_here hn hj he
  rw [h] at h2
  injection h2 with h2
  exact Prod.ext he h2.symm
end
/-- What Over answers and leaves, behind a row that was in one of the two states. -/
def doverU (l : List Rl) (n : Nm) (fk : Bool) : Bool × List Rl := if fk then match getL l (n.1, parS n.2) with
    | none => (false, l)
    | some q => if q.op - 1 = 0 ∧ q.st = 3 then (true, updA l (n.1, parS n.2) { q with op := q.op - 1, st := 4 }) else (false, updA l (n.1, parS n.2) { q with op := q.op - 1 })
  else (false, l)
def OverDP (Z r : Nat) (mo : Int) (lv : Value) (l : List Rl) (n : Nm) (val err : Int) (w : World) (e : Ending) (w' : World) : Prop :=
  (ofE l n [2, 5] ≠ 0 ∧ e = .returned (.tuple #[.agg #[.int .u64 0, .string ⟨#[]⟩], .bool false, .int .i64 (ofE l n [2, 5])]) ∧ Dt Z r mo lv l w' ∧ DL r lv w lv w') ∨
  (∃ c, getL l n = some c ∧ c.st ∈ [(2 : Int), 5] ∧ e = .returned (.tuple #[nmV (doverU (updA l n { c with st := 6, val := val, err := err }) n c.fk).1 (n.1, parS n.2), .bool (doverU (updA l n { c with st := 6, val := val, err := err }) n c.fk).1, .int .i64 0]) ∧ Dt Z r mo lv (doverU (updA l n { c with st := 6, val := val, err := err }) n c.fk).2 w' ∧ DL r lv w lv w')
theorem OverDP.good {Z r : Nat} {mo : Int} {lv : Value} {l : List Rl} {n : Nm} {val err : Int} {c : Rw} {w w' : World} {b : Bool} {l' : List Rl} (hg : getL l n = some c) (hs : c.st ∈ [(2 : Int), 5]) (hu : doverU (updA l n { c with st := 6, val := val, err := err }) n c.fk = (b, l')) (h : Dt Z r mo lv l' w') (hL : DL r lv w lv w') :
    OverDP Z r mo lv l n val err w (.returned (.tuple #[nmV b (n.1, parS n.2), .bool b, .int .i64 0])) w' := .inr ⟨c, hg, hs, by rw [hu], by rw [hu]; exact h, hL⟩
theorem dover_end {wz : World} {tmps : Array Value} {a : Int} {p : ByteArray} {b : Bool} {c : Int} {r : Nat} {T : TypeId} {R : Ending → World → Prop}
    (hr : wz.heap[r]? = some (.cells #[.int .u64 a, .string p] T (0, 0))) (h4 : tmps.getD 6 undef = .pointer (some ⟨r, 0, none⟩)) (h5 : tmps.getD 7 undef = .bool b) (h6 : tmps.getD 8 undef = .int .i64 c) (hR : R (.returned (.tuple #[.agg #[.int .u64 a, .string p], .bool b, .int .i64 c])) wz) :
    bodyPost Try.prog Try.f24 R Exit.ret { tmps := tmps, defers := [] } wz := by
  have c0 : wz.cell? ⟨r, 0, none⟩ = some (.int .u64 a) := by simp [World.cell?, hr]
  have c1 : wz.cell? ⟨r, 1, none⟩ = some (.string p) := by simp [World.cell?, hr]
  refine bodyPost_ret (v := .tuple #[.agg #[.int .u64 a, .string p], .bool b, .int .i64 c]) ?_ rfl hR
  have h4' : tmps[6]?.getD undef = .pointer (some ⟨r, 0, none⟩) := by simpa using h4
  have h5' : tmps[7]?.getD undef = .bool b := by simpa using h5
  have h6' : tmps[8]?.getD undef = .int .i64 c := by simpa using h6
  simp [results, Try.results24, go_sem, h4', h5', h6', c0, c1]
set_option maxHeartbeats 16000000 in
set_option maxRecDepth 100000 in
theorem dover_any {Z r : Nat} {mo : Int} {lv : Value} {l : List Rl} {w : World} (n : Nm) (val err : Int) (h : Dt Z r mo lv l w) (hm : l.length ≤ 100000) (hnd : (l.map (·.1)).Nodup) (hml : ∀ q ∈ l, q.1.2.size ≤ 9223372036854775807) (hop : ∀ q ∈ l, 0 ≤ q.2.op ∧ q.2.op ≤ 1000000) (hpb : ∀ q ∈ l, q.2.fk = true → parB q.1.2 = true) :
    Calls Try.prog 24 #[RP r, nmA n, .agg #[.int .i64 val, .int .i64 err]] w (OverDP Z r mo lv l n val err w) := by
  have HML := Lib.hid hml
  have HND := Lib.hid hnd
  have HOP := Lib.hid hop
  have HPB := Lib.hid hpb
  have hA1 := alD w (cellsM n)
  have hA2 := alD (w.alloc (cellsM n)) (.cells #[.int .i64 val, .int .i64 err] ResT)
  have hA3 := alD ((w.alloc (cellsM n)).alloc (.cells #[.int .i64 val, .int .i64 err] ResT)) (.cells #[.int .u64 0, .string ⟨#[]⟩] NmT)
  have HA := Lib.hid (gthenD (gthenD hA1 hA2) hA3)
  have HD := Lib.hid (((h.below hA1).below hA2).below hA3)
  have HBN := Lib.hid (((show BoxAt (w.alloc (cellsM n)) w.heap.size #[.int .u64 n.1, .string n.2] NmT from heap_alloc_new _ _).below hA2).below hA3)
  have HBV := Lib.hid ((show BoxAt ((w.alloc (cellsM n)).alloc (.cells #[.int .i64 val, .int .i64 err] ResT)) (w.heap.size + 1) #[.int .i64 val, .int .i64 err] ResT from by
    have := heap_alloc_new (w.alloc (cellsM n)) (.cells #[.int .i64 val, .int .i64 err] ResT)
    rwa [show (w.alloc (cellsM n)).heap.size = w.heap.size + 1 by simp] at this).below hA3)
  have HRB := Lib.hid (show BoxAt (((w.alloc (cellsM n)).alloc (.cells #[.int .i64 val, .int .i64 err] ResT)).alloc (.cells #[.int .u64 0, .string ⟨#[]⟩] NmT)) (w.heap.size + 2) #[.int .u64 0, .string ⟨#[]⟩] NmT from by
    have := heap_alloc_new ((w.alloc (cellsM n)).alloc (.cells #[.int .i64 val, .int .i64 err] ResT)) (.cells #[.int .u64 0, .string ⟨#[]⟩] NmT)
    rwa [show ((w.alloc (cellsM n)).alloc (.cells #[.int .i64 val, .int .i64 err] ResT)).heap.size = w.heap.size + 2 by simp] at this)
  have hz : Z ≤ w.heap.size := by
    have h1 : r < w.heap.size := (Array.getElem?_eq_some_iff.1 h.box).1
    have h2 := h.zr
    omega
  have HZ := Lib.hid hz
  clear h hml hnd hop hpb hA1 hA2 hA3 hz
  go_enter Try.func24, Try.ntmps24
  go_upto_region 1 with fail
  simp only [cellsM] at HBN HBV HRB HA HD
  generalize ((w.alloc (.cells #[.int .u64 n.1, .string n.2] NmT)).alloc (.cells #[.int .i64 val, .int .i64 err] ResT)).alloc (.cells #[.int .u64 0, .string ⟨#[]⟩] NmT) = wa at *
  obtain ⟨rb, hrb⟩ : ∃ t, w.heap.size + 2 = t := ⟨_, rfl⟩
  obtain ⟨vb, hvb⟩ : ∃ t, w.heap.size + 1 = t := ⟨_, rfl⟩
  obtain ⟨nb, hnb⟩ : ∃ t, w.heap.size = t := ⟨_, rfl⟩
  have HRL := Lib.hid (show w.heap.size ≤ rb by omega)
  rw [hrb] at HRB ⊢
  rw [hvb] at HBV ⊢
  rw [hnb] at HBN ⊢
  clear hrb hvb hnb
  obtain ⟨s0, s1⟩ := nm_cells HBN.out
  have hm1 : ∀ (n : Nm) (c : Rw), (updA l n c).length ≤ 100000 := fun n c => by rw [upd_len]; exact hm
  go_wp2_with fail
  refine (dstate_any n 2 5 6 HD.out hm HND.out).mono ?_
  rintro e w2 hS
  obtain ⟨q, hq⟩ : ∃ q, ofE l n [2, 5] = q := ⟨_, rfl⟩
  rcases hS with ⟨h0, rfl, hd, hl⟩ | ⟨h0, c, hg, hs, rfl, hd, hl⟩
  · rw [hq] at h0 ⊢
    have hA4 := alD w2 (.cells #[.string ⟨#[]⟩, .int .i64 0, .slice none 0 0, .int .i64 0] TaskT)
    replace HRB := Lib.hid ((box_dl HRB.out HD.out hl (by decide)).below hA4)
    replace HD := Lib.hid (hd.below hA4)
    have HL := Lib.hid ((hl.from HA.out).more hA4)
    have HQ := Lib.hid (And.intro hq h0)
    have hzc : (q != 0) = true := by simpa using h0
    clear hd hl h0 hq s0 s1 hA4
    unfold zT
    go_upto_region 2 with fail
    generalize w2.alloc (.cells #[.string ⟨#[]⟩, .int .i64 0, .slice none 0 0, .int .i64 0] TaskT) = w3 at *
    have y0 := HRB.out.cell 0; have y1 := HRB.out.cell 1
    have f0 := HRB.out.frozen 0; have f1 := HRB.out.frozen 1
    simp only [List.getElem?_toArray, List.getElem?_cons_zero, List.getElem?_cons_succ] at y0 y1
    go_wp2_with fail
    refine dover_end (set2 HRB.out (.int .u64 0) (.string ⟨#[]⟩)) rfl rfl rfl ?_
    have hF := fr2 w3 rb (.int .u64 0) (.string ⟨#[]⟩)
    exact .inl ⟨by rw [HQ.out.1]; exact HQ.out.2, by rw [HQ.out.1], HD.out.other HRB.out (by decide) (Nat.le_trans HZ.out HRL.out) hF, HL.out.then hF (fun i e => by subst e; exact HRL.out)⟩
  · have hA4 := alD w2 (.cells #[.string n.2, .int .i64 c.fn, .slice c.aa c.args.length c.ac, .int .i64 c.fuel] TaskT)
    replace HRB := Lib.hid ((box_dl HRB.out HD.out hl (by decide)).below hA4)
    replace HBN := Lib.hid ((box_dl HBN.out HD.out hl (by decide)).below hA4)
    replace HBV := Lib.hid ((box_dl HBV.out HD.out hl (by decide)).below hA4)
    replace HD := Lib.hid (hd.below hA4)
    have HL := Lib.hid ((hl.from HA.out).more hA4)
    have HG := Lib.hid hg
    have HST := Lib.hid hs
    clear hd hl h0 hq s0 s1 hA4 hg hs
    go_upto_region 2 with fail
    generalize w2.alloc (.cells #[.string n.2, .int .i64 c.fn, .slice c.aa c.args.length c.ac, .int .i64 c.fuel] TaskT) = w3 at *
    obtain ⟨s0, s1⟩ := nm_cells HBN.out
    go_wp2_with fail
    refine (dfind_any n HD.out (hm1 _ _)).mono ?_
    rintro e w4 ⟨⟨i, rfl, hF⟩, hB⟩
    replace HRB := Lib.hid (HRB.out.below hB)
    replace HBV := Lib.hid (HBV.out.below hB)
    replace HD := Lib.hid (HD.out.below hB)
    replace HL := Lib.hid (HL.out.more hB)
    clear hB s0 s1 HBN
    have hg1 := upd_has (c' := { c with st := 6 }) HND.out HG.out
    rcases hF with ⟨rfl, hno⟩ | ⟨j, hj, rfl, hjn⟩
    · exact absurd (getL_noneV hno) (by rw [hg1]; simp)
    · have hx := at_of (upd_nd HND.out) hg1 hj hjn
      have HND0 := Lib.hid HND.out
      replace HND := Lib.hid (upd_nd (n := n) (c := { c with st := 6 }) HND0.out)
      have HJ := Lib.hid hj
      have HXE := Lib.hid (show ∀ h : j < (updA l n { c with st := 6 }).length, (updA l n { c with st := 6 })[j] = ((n, { c with st := 6 }) : Rl) from fun _ => hx)
      have HJN := Lib.hid (show ((n, { c with st := 6 }) : Rl).1 = n from rfl)
      clear hx hj hjn hg1
      obtain ⟨g, cap, eg, hc⟩ := HD.out.at HJ.out
      have HLG := Lib.hid eg
      have y0 := HD.out.cell
      rw [eg] at y0
      obtain ⟨N, hN⟩ : ∃ N, (updA l n { c with st := 6 }).length = N := ⟨_, rfl⟩
      rw [hN] at y0
      rw [HXE.out HJ.out] at hc
      have hj0 : ¬ (j : Int) < 0 := by omega
      have hj1 : (0 : Int) ≤ j := by omega
      have hj2 : (j : Int) < N := by have := HJ.out; omega
      have c0 : w4.cell? ⟨g, j * 11, none⟩ = some (.int .u64 n.1) := hc 0 _ rfl
      have c1 : w4.cell? ⟨g, j * 11 + 1, none⟩ = some (.string n.2) := hc 1 _ rfl
      have c2 : w4.cell? ⟨g, j * 11 + 2, none⟩ = some (.string n.2) := hc 2 _ rfl
      have c3 : w4.cell? ⟨g, j * 11 + 3, none⟩ = some (.int .i64 c.fn) := hc 3 _ rfl
      have c4 : w4.cell? ⟨g, j * 11 + 4, none⟩ = some (.slice c.aa c.args.length c.ac) := hc 4 _ rfl
      have c5 : w4.cell? ⟨g, j * 11 + 5, none⟩ = some (.int .i64 c.fuel) := hc 5 _ rfl
      have c6 : w4.cell? ⟨g, j * 11 + 6, none⟩ = some (.int .u8 6) := hc 6 _ rfl
      have c7 : w4.cell? ⟨g, j * 11 + 7, none⟩ = some (.int .i64 c.op) := hc 7 _ rfl
      have c8 : w4.cell? ⟨g, j * 11 + 8, none⟩ = some (.int .i64 c.val) := hc 8 _ rfl
      have c9 : w4.cell? ⟨g, j * 11 + 9, none⟩ = some (.int .i64 c.err) := hc 9 _ rfl
      have c10 : w4.cell? ⟨g, j * 11 + 10, none⟩ = some (.bool c.fk) := hc 10 _ rfl
      have HGW := Lib.hid (World.block_lt_of_cell? _ _ c0)
      clear hc eg hN
      have hA2 := alD w4 (cellsR ((n, ({ c with st := 6, val := val, err := err } : Rw)) : Rl))
      replace HD := Lib.hid (HD.out.below hA2)
      replace HL := Lib.hid (HL.out.more hA2)
      replace HRB := Lib.hid (HRB.out.below hA2)
      replace HBV := Lib.hid (HBV.out.below (alD w4 (Obj.cells #[.int .u64 n.1, .string n.2, .string n.2, .int .i64 c.fn, .slice c.aa c.args.length c.ac, .int .i64 c.fuel, .int .u8 6, .int .i64 c.op, .int .i64 c.val, .int .i64 c.err, .bool c.fk] RowT)))
      have v0 : (w4.alloc (Obj.cells #[.int .u64 n.1, .string n.2, .string n.2, .int .i64 c.fn, .slice c.aa c.args.length c.ac, .int .i64 c.fuel, .int .u8 6, .int .i64 c.op, .int .i64 c.val, .int .i64 c.err, .bool c.fk] RowT)).cell? ⟨vb, 0, none⟩ = some (.int .i64 val) := HBV.out.cell 0
      have v1 : (w4.alloc (Obj.cells #[.int .u64 n.1, .string n.2, .string n.2, .int .i64 c.fn, .slice c.aa c.args.length c.ac, .int .i64 c.fuel, .int .u8 6, .int .i64 c.op, .int .i64 c.val, .int .i64 c.err, .bool c.fk] RowT)).cell? ⟨vb, 1, none⟩ = some (.int .i64 err) := HBV.out.cell 1
      go_upto_region 7 with fail
      have hbx : (w4.alloc (cellsR ((n, ({ c with st := 6, val := val, err := err } : Rw)) : Rl))).heap[w4.heap.size]? = some (cellsR ((n, ({ c with st := 6, val := val, err := err } : Rw)) : Rl)) := heap_alloc_new _ _
      try simp only [cellsR] at hbx hA2
      try simp only [cellsR] at hA2
      try simp only [cellsR] at HD
      try simp only [cellsR] at HL
      try simp only [cellsR] at HRB
      replace y0 := (hA2.cell (p := ⟨r, 1, none⟩) (World.block_lt_of_cell? _ _ y0)).trans y0
      replace c0 := (hA2.cell (p := ⟨g, j * 11, none⟩) (World.block_lt_of_cell? _ _ c0)).trans c0
      replace c1 := (hA2.cell (p := ⟨g, j * 11 + 1, none⟩) (World.block_lt_of_cell? _ _ c1)).trans c1
      replace c2 := (hA2.cell (p := ⟨g, j * 11 + 2, none⟩) (World.block_lt_of_cell? _ _ c2)).trans c2
      replace c3 := (hA2.cell (p := ⟨g, j * 11 + 3, none⟩) (World.block_lt_of_cell? _ _ c3)).trans c3
      replace c4 := (hA2.cell (p := ⟨g, j * 11 + 4, none⟩) (World.block_lt_of_cell? _ _ c4)).trans c4
      replace c5 := (hA2.cell (p := ⟨g, j * 11 + 5, none⟩) (World.block_lt_of_cell? _ _ c5)).trans c5
      replace c6 := (hA2.cell (p := ⟨g, j * 11 + 6, none⟩) (World.block_lt_of_cell? _ _ c6)).trans c6
      replace c7 := (hA2.cell (p := ⟨g, j * 11 + 7, none⟩) (World.block_lt_of_cell? _ _ c7)).trans c7
      replace c8 := (hA2.cell (p := ⟨g, j * 11 + 8, none⟩) (World.block_lt_of_cell? _ _ c8)).trans c8
      replace c9 := (hA2.cell (p := ⟨g, j * 11 + 9, none⟩) (World.block_lt_of_cell? _ _ c9)).trans c9
      replace c10 := (hA2.cell (p := ⟨g, j * 11 + 10, none⟩) (World.block_lt_of_cell? _ _ c10)).trans c10
      have HGX := Lib.hid (show g < w4.heap.size from HGW.out)
      clear HGW
      generalize w4.alloc (Obj.cells #[.int .u64 n.1, .string n.2, .string n.2, .int .i64 c.fn, .slice c.aa c.args.length c.ac, .int .i64 c.fuel, .int .u8 6, .int .i64 c.op, .int .i64 val, .int .i64 err, .bool c.fk] RowT) = wq at *
      obtain ⟨xb, hxb⟩ : ∃ t, w4.heap.size = t := ⟨_, rfl⟩
      rw [hxb] at hbx HGX ⊢
      clear hxb
      have b0 : wq.cell? ⟨xb, 0, none⟩ = some (.int .u64 n.1) := by simp [World.cell?, hbx]
      have b1 : wq.cell? ⟨xb, 1, none⟩ = some (.string n.2) := by simp [World.cell?, hbx]
      have b2 : wq.cell? ⟨xb, 2, none⟩ = some (.string n.2) := by simp [World.cell?, hbx]
      have b3 : wq.cell? ⟨xb, 3, none⟩ = some (.int .i64 c.fn) := by simp [World.cell?, hbx]
      have b4 : wq.cell? ⟨xb, 4, none⟩ = some (.slice c.aa c.args.length c.ac) := by simp [World.cell?, hbx]
      have b5 : wq.cell? ⟨xb, 5, none⟩ = some (.int .i64 c.fuel) := by simp [World.cell?, hbx]
      have b6 : wq.cell? ⟨xb, 6, none⟩ = some (.int .u8 6) := by simp [World.cell?, hbx]
      have b7 : wq.cell? ⟨xb, 7, none⟩ = some (.int .i64 c.op) := by simp [World.cell?, hbx]
      have b8 : wq.cell? ⟨xb, 8, none⟩ = some (.int .i64 val) := by simp [World.cell?, hbx]
      have b9 : wq.cell? ⟨xb, 9, none⟩ = some (.int .i64 err) := by simp [World.cell?, hbx]
      have b10 : wq.cell? ⟨xb, 10, none⟩ = some (.bool c.fk) := by simp [World.cell?, hbx]
      have hfz : ∀ i, wq.frozen? ⟨g, i, none⟩ = false := fun i => HD.out.thaw HLG.out i
      have hFW := wrt11_fr wq g (j * 11) ((n, ({ c with st := 6, val := val, err := err } : Rw)) : Rl)
      have hgo : lv.ownBlock = some g := by rw [HLG.out]; rfl
      have HDQ := Lib.hid HD.out
      have HS := Lib.hid (HD.out.set (x := ((n, ({ c with st := 6, val := val, err := err } : Rw)) : Rl)) HLG.out HJ.out (by rw [HXE.out HJ.out]) (by rw [HXE.out HJ.out]) (by rw [HXE.out HJ.out]))
      have hle : (updA l n { c with st := 6 }).set j ((n, ({ c with st := 6, val := val, err := err } : Rw)) : Rl) = updA (updA l n { c with st := 6 }) n { c with st := 6, val := val, err := err } := by
        rw [show ((n, ({ c with st := 6, val := val, err := err } : Rw)) : Rl) = (n, { c with st := 6, val := val, err := err }) from Prod.ext (rfl) rfl, set_upd HND.out HJ.out (by rw [HXE.out HJ.out]; first | done | exact rfl)]
      replace HL := Lib.hid (HL.out.trans HS.out.2)
      replace HD := Lib.hid HS.out.1
      have HNX := Lib.hid (show BoxAt (wrt11 wq g (j * 11) ((n, ({ c with st := 6, val := val, err := err } : Rw)) : Rl)).drew xb #[.int .u64 n.1, .string n.2, .string n.2, .int .i64 c.fn, .slice c.aa c.args.length c.ac, .int .i64 c.fuel, .int .u8 6, .int .i64 c.op, .int .i64 val, .int .i64 err, .bool c.fk] RowT from BoxAt.below ((show BoxAt wq xb #[.int .u64 n.1, .string n.2, .string n.2, .int .i64 c.fn, .slice c.aa c.args.length c.ac, .int .i64 c.fuel, .int .u8 6, .int .i64 c.op, .int .i64 val, .int .i64 err, .bool c.fk] RowT from hbx).fr hFW (fun e => by have := HGX.out; omega)) (Below.refl _ _).drew)
      replace HRB := Lib.hid (BoxAt.below (HRB.out.fr hFW (fun e => own_not_box HDQ.out.own HRB.out (by decide) (by rw [hgo, e]))) (Below.refl _ _).drew)
      rw [hle] at HD
      clear hbx hA2 hFW hgo hle HS HDQ HGX HLG
      go_still_tail 7, (by kernel_rfl)
      change wpList _ _ _ _ _ wq.drew
      go_upto_region 8 with fail
      clear c0 c1 c2 c3 c4 c5 c6 c7 c8 c9 c10 b0 b1 b2 b3 b4 b5 b6 b7 b8 b9 b10 y0 hfz hj0 hj1 hj2 v0 v1
      generalize hwd : (wrt11 wq g (j * 11) ((n, ({ c with st := 6, val := val, err := err } : Rw)) : Rl)).drew = w5 at *
      unfold wrt11 at hwd
      first | rw [hwd] | (simp only at hwd; rw [hwd])
      clear hwd
      rw [upd_upd] at HD
      replace HND := Lib.hid (upd_nd (n := n) (c := { c with st := 6, val := val, err := err }) HND0.out)
      obtain ⟨z0, z1, z2, z3, z4, z5, z6, z7, z8, z9, z10⟩ := encD_cells (q := ((n, ({ c with st := 6, val := val, err := err } : Rw)) : Rl)) HNX.out
      have hnp := HML.out _ (getL_mem' HG.out)
      have hpb1 : c.fk = true → parB n.2 = true := HPB.out _ (getL_mem' HG.out)
      go_wp2_with fail
      refine (dparent_any ((n, ({ c with st := 6, val := val, err := err } : Rw)) : Rl) HD.out (hm1 _ _) hnp hpb1).mono ?_
      rintro e w6 ⟨i, rfl, hP, hB⟩
      replace HRB := Lib.hid (HRB.out.below hB)
      replace HD := Lib.hid (HD.out.below hB)
      replace HL := Lib.hid (HL.out.more hB)
      clear hB z0 z1 z2 z3 z4 z5 z6 z7 z8 z9 z10 HNX hnp hpb1 HJ HXE HJN
      rcases hP with ⟨hfk, rfl⟩ | ⟨hfk, hF⟩
      · have HU := Lib.hid (show doverU (updA l n { c with st := 6, val := val, err := err }) n c.fk = (false, updA l n { c with st := 6, val := val, err := err }) from by unfold doverU; rw [if_neg (by rw [show c.fk = false from hfk]; decide)])
        clear hfk
        have y0 := HRB.out.cell 0; have y1 := HRB.out.cell 1
        have f0 := HRB.out.frozen 0; have f1 := HRB.out.frozen 1
        simp only [List.getElem?_toArray, List.getElem?_cons_zero, List.getElem?_cons_succ] at y0 y1
        go_wp2_with fail
        refine dover_end (set2 HRB.out (.int .u64 0) (.string ⟨#[]⟩)) rfl rfl rfl ?_
        have hF := fr2 w6 rb (.int .u64 0) (.string ⟨#[]⟩)
        exact OverDP.good (b := false) HG.out HST.out HU.out (HD.out.other HRB.out (by decide) (Nat.le_trans HZ.out HRL.out) hF) (HL.out.then hF (fun i e => by subst e; exact HRL.out))
      · rcases hF with ⟨rfl, hno⟩ | ⟨j, hj, rfl, hjn⟩
        · have HU := Lib.hid (show doverU (updA l n { c with st := 6, val := val, err := err }) n c.fk = (false, updA l n { c with st := 6, val := val, err := err }) from by unfold doverU; rw [if_pos (show c.fk = true from hfk), getL_noneV hno])
          clear hfk hno
          have y0 := HRB.out.cell 0; have y1 := HRB.out.cell 1
          have f0 := HRB.out.frozen 0; have f1 := HRB.out.frozen 1
          simp only [List.getElem?_toArray, List.getElem?_cons_zero, List.getElem?_cons_succ] at y0 y1
          go_wp2_with fail
          refine dover_end (set2 HRB.out (.int .u64 0) (.string ⟨#[]⟩)) rfl rfl rfl ?_
          have hF := fr2 w6 rb (.int .u64 0) (.string ⟨#[]⟩)
          exact OverDP.good (b := false) HG.out HST.out HU.out (HD.out.other HRB.out (by decide) (Nat.le_trans HZ.out HRL.out) hF) (HL.out.then hF (fun i e => by subst e; exact HRL.out))
        · have hg2 := getL_here HND.out hj hjn
          obtain ⟨y, hy⟩ : ∃ y, (updA l n { c with st := 6, val := val, err := err })[j] = y := ⟨_, rfl⟩
          rw [hy] at hg2 hjn
          have hym : y ∈ updA l n { c with st := 6, val := val, err := err } := by rw [← hy]; exact List.getElem_mem hj
          have hyo : 0 ≤ y.2.op ∧ y.2.op ≤ 1000000 := by
            rcases updA_in hym with e | e
            · have h7 := HOP.out _ (getL_mem' HG.out)
              rw [e]; exact h7
            · exact HOP.out _ e
          have hopw : IntKind.i64.wrap (y.2.op - 1) = y.2.op - 1 := IntWalk.i64_in _ (by omega)
          have HJ := Lib.hid hj
          have HXE := Lib.hid (show ∀ h : j < (updA l n { c with st := 6, val := val, err := err }).length, (updA l n { c with st := 6, val := val, err := err })[j] = y from fun _ => hy)
          have HJN := Lib.hid hjn
          have HU0 := Lib.hid (show doverU (updA l n { c with st := 6, val := val, err := err }) n c.fk = if y.2.op - 1 = 0 ∧ y.2.st = 3 then (true, updA (updA l n { c with st := 6, val := val, err := err }) (n.1, parS n.2) { y.2 with op := y.2.op - 1, st := 4 }) else (false, updA (updA l n { c with st := 6, val := val, err := err }) (n.1, parS n.2) { y.2 with op := y.2.op - 1 }) from by
            unfold doverU
            rw [if_pos (show c.fk = true from hfk), hg2])
          clear hfk hg2 hy hym hyo hj hjn
          by_cases h1 : y.2.op - 1 = 0
          · by_cases h2 : y.2.st = 3
            · have h1b : (y.2.op - 1 == 0) = true := by simp [h1]
              have HU := Lib.hid (show doverU (updA l n { c with st := 6, val := val, err := err }) n c.fk = (true, updA (updA l n { c with st := 6, val := val, err := err }) (n.1, parS n.2) ({ y.2 with op := 0, st := 4 } : Rw)) from by rw [HU0.out, if_pos ⟨h1, h2⟩, h1])
              have h2b : (y.2.st == 3) = true := by simp [h2]
              clear h2
              clear HU0
              obtain ⟨g, cap, eg, hc⟩ := HD.out.at HJ.out
              have HLG := Lib.hid eg
              have y0 := HD.out.cell
              rw [eg] at y0
              obtain ⟨N, hN⟩ : ∃ N, (updA l n { c with st := 6, val := val, err := err }).length = N := ⟨_, rfl⟩
              rw [hN] at y0
              rw [HXE.out HJ.out] at hc
              have hj0 : ¬ (j : Int) < 0 := by omega
              have hj1 : (0 : Int) ≤ j := by omega
              have hj2 : (j : Int) < N := by have := HJ.out; omega
              have c0 : w6.cell? ⟨g, j * 11, none⟩ = some (.int .u64 y.1.1) := hc 0 _ rfl
              have c1 : w6.cell? ⟨g, j * 11 + 1, none⟩ = some (.string y.1.2) := hc 1 _ rfl
              have c2 : w6.cell? ⟨g, j * 11 + 2, none⟩ = some (.string y.1.2) := hc 2 _ rfl
              have c3 : w6.cell? ⟨g, j * 11 + 3, none⟩ = some (.int .i64 y.2.fn) := hc 3 _ rfl
              have c4 : w6.cell? ⟨g, j * 11 + 4, none⟩ = some (.slice y.2.aa y.2.args.length y.2.ac) := hc 4 _ rfl
              have c5 : w6.cell? ⟨g, j * 11 + 5, none⟩ = some (.int .i64 y.2.fuel) := hc 5 _ rfl
              have c6 : w6.cell? ⟨g, j * 11 + 6, none⟩ = some (.int .u8 y.2.st) := hc 6 _ rfl
              have c7 : w6.cell? ⟨g, j * 11 + 7, none⟩ = some (.int .i64 y.2.op) := hc 7 _ rfl
              have c8 : w6.cell? ⟨g, j * 11 + 8, none⟩ = some (.int .i64 y.2.val) := hc 8 _ rfl
              have c9 : w6.cell? ⟨g, j * 11 + 9, none⟩ = some (.int .i64 y.2.err) := hc 9 _ rfl
              have c10 : w6.cell? ⟨g, j * 11 + 10, none⟩ = some (.bool y.2.fk) := hc 10 _ rfl
              have HGW := Lib.hid (World.block_lt_of_cell? _ _ c0)
              clear hc eg hN
              have hA2 := alD w6 (cellsR ((y.1, ({ y.2 with op := 0, st := 4 } : Rw)) : Rl))
              replace HD := Lib.hid (HD.out.below hA2)
              replace HL := Lib.hid (HL.out.more hA2)
              replace HRB := Lib.hid (HRB.out.below hA2)
              go_upto_region 16 with fail
              have hbx : (w6.alloc (cellsR ((y.1, ({ y.2 with op := 0, st := 4 } : Rw)) : Rl))).heap[w6.heap.size]? = some (cellsR ((y.1, ({ y.2 with op := 0, st := 4 } : Rw)) : Rl)) := heap_alloc_new _ _
              try simp only [cellsR] at hbx hA2
              try simp only [cellsR] at hA2
              try simp only [cellsR] at HD
              try simp only [cellsR] at HL
              try simp only [cellsR] at HRB
              replace y0 := (hA2.cell (p := ⟨r, 1, none⟩) (World.block_lt_of_cell? _ _ y0)).trans y0
              replace c0 := (hA2.cell (p := ⟨g, j * 11, none⟩) (World.block_lt_of_cell? _ _ c0)).trans c0
              replace c1 := (hA2.cell (p := ⟨g, j * 11 + 1, none⟩) (World.block_lt_of_cell? _ _ c1)).trans c1
              replace c2 := (hA2.cell (p := ⟨g, j * 11 + 2, none⟩) (World.block_lt_of_cell? _ _ c2)).trans c2
              replace c3 := (hA2.cell (p := ⟨g, j * 11 + 3, none⟩) (World.block_lt_of_cell? _ _ c3)).trans c3
              replace c4 := (hA2.cell (p := ⟨g, j * 11 + 4, none⟩) (World.block_lt_of_cell? _ _ c4)).trans c4
              replace c5 := (hA2.cell (p := ⟨g, j * 11 + 5, none⟩) (World.block_lt_of_cell? _ _ c5)).trans c5
              replace c6 := (hA2.cell (p := ⟨g, j * 11 + 6, none⟩) (World.block_lt_of_cell? _ _ c6)).trans c6
              replace c7 := (hA2.cell (p := ⟨g, j * 11 + 7, none⟩) (World.block_lt_of_cell? _ _ c7)).trans c7
              replace c8 := (hA2.cell (p := ⟨g, j * 11 + 8, none⟩) (World.block_lt_of_cell? _ _ c8)).trans c8
              replace c9 := (hA2.cell (p := ⟨g, j * 11 + 9, none⟩) (World.block_lt_of_cell? _ _ c9)).trans c9
              replace c10 := (hA2.cell (p := ⟨g, j * 11 + 10, none⟩) (World.block_lt_of_cell? _ _ c10)).trans c10
              have HGX := Lib.hid (show g < w6.heap.size from HGW.out)
              clear HGW
              generalize w6.alloc (Obj.cells #[.int .u64 y.1.1, .string y.1.2, .string y.1.2, .int .i64 y.2.fn, .slice y.2.aa y.2.args.length y.2.ac, .int .i64 y.2.fuel, .int .u8 4, .int .i64 0, .int .i64 y.2.val, .int .i64 y.2.err, .bool y.2.fk] RowT) = wq at *
              obtain ⟨xb, hxb⟩ : ∃ t, w6.heap.size = t := ⟨_, rfl⟩
              rw [hxb] at hbx HGX ⊢
              clear hxb
              have b0 : wq.cell? ⟨xb, 0, none⟩ = some (.int .u64 y.1.1) := by simp [World.cell?, hbx]
              have b1 : wq.cell? ⟨xb, 1, none⟩ = some (.string y.1.2) := by simp [World.cell?, hbx]
              have b2 : wq.cell? ⟨xb, 2, none⟩ = some (.string y.1.2) := by simp [World.cell?, hbx]
              have b3 : wq.cell? ⟨xb, 3, none⟩ = some (.int .i64 y.2.fn) := by simp [World.cell?, hbx]
              have b4 : wq.cell? ⟨xb, 4, none⟩ = some (.slice y.2.aa y.2.args.length y.2.ac) := by simp [World.cell?, hbx]
              have b5 : wq.cell? ⟨xb, 5, none⟩ = some (.int .i64 y.2.fuel) := by simp [World.cell?, hbx]
              have b6 : wq.cell? ⟨xb, 6, none⟩ = some (.int .u8 4) := by simp [World.cell?, hbx]
              have b7 : wq.cell? ⟨xb, 7, none⟩ = some (.int .i64 0) := by simp [World.cell?, hbx]
              have b8 : wq.cell? ⟨xb, 8, none⟩ = some (.int .i64 y.2.val) := by simp [World.cell?, hbx]
              have b9 : wq.cell? ⟨xb, 9, none⟩ = some (.int .i64 y.2.err) := by simp [World.cell?, hbx]
              have b10 : wq.cell? ⟨xb, 10, none⟩ = some (.bool y.2.fk) := by simp [World.cell?, hbx]
              have hfz : ∀ i, wq.frozen? ⟨g, i, none⟩ = false := fun i => HD.out.thaw HLG.out i
              have hFW := wrt11_fr wq g (j * 11) ((y.1, ({ y.2 with op := 0, st := 4 } : Rw)) : Rl)
              have hgo : lv.ownBlock = some g := by rw [HLG.out]; rfl
              have HDQ := Lib.hid HD.out
              have HS := Lib.hid (HD.out.set (x := ((y.1, ({ y.2 with op := 0, st := 4 } : Rw)) : Rl)) HLG.out HJ.out (by rw [HXE.out HJ.out]) (by rw [HXE.out HJ.out]) (by rw [HXE.out HJ.out]))
              have hle : (updA l n { c with st := 6, val := val, err := err }).set j ((y.1, ({ y.2 with op := 0, st := 4 } : Rw)) : Rl) = updA (updA l n { c with st := 6, val := val, err := err }) (n.1, parS n.2) ({ y.2 with op := 0, st := 4 } : Rw) := by
                rw [show ((y.1, ({ y.2 with op := 0, st := 4 } : Rw)) : Rl) = ((n.1, parS n.2), ({ y.2 with op := 0, st := 4 } : Rw)) from Prod.ext (HJN.out) rfl, set_upd HND.out HJ.out (by rw [HXE.out HJ.out]; first | done | exact HJN.out)]
              replace HL := Lib.hid (HL.out.trans HS.out.2)
              replace HD := Lib.hid HS.out.1
              have HNX := Lib.hid (show BoxAt (wrt11 wq g (j * 11) ((y.1, ({ y.2 with op := 0, st := 4 } : Rw)) : Rl)).drew xb #[.int .u64 y.1.1, .string y.1.2, .string y.1.2, .int .i64 y.2.fn, .slice y.2.aa y.2.args.length y.2.ac, .int .i64 y.2.fuel, .int .u8 4, .int .i64 0, .int .i64 y.2.val, .int .i64 y.2.err, .bool y.2.fk] RowT from BoxAt.below ((show BoxAt wq xb #[.int .u64 y.1.1, .string y.1.2, .string y.1.2, .int .i64 y.2.fn, .slice y.2.aa y.2.args.length y.2.ac, .int .i64 y.2.fuel, .int .u8 4, .int .i64 0, .int .i64 y.2.val, .int .i64 y.2.err, .bool y.2.fk] RowT from hbx).fr hFW (fun e => by have := HGX.out; omega)) (Below.refl _ _).drew)
              replace HRB := Lib.hid (BoxAt.below (HRB.out.fr hFW (fun e => own_not_box HDQ.out.own HRB.out (by decide) (by rw [hgo, e]))) (Below.refl _ _).drew)
              rw [hle] at HD
              clear hbx hA2 hFW hgo hle HS HDQ HGX HLG
              go_still_tail 7, (by kernel_rfl)
              change wpList _ _ _ _ _ wq.drew
              go_upto_region 17 with fail
              clear c0 c1 c2 c3 c4 c5 c6 c7 c8 c9 c10 b0 b1 b2 b3 b4 b5 b6 b7 b8 b9 b10 y0 hfz hj0 hj1 hj2 hopw
              generalize hwd : (wrt11 wq g (j * 11) ((y.1, ({ y.2 with op := 0, st := 4 } : Rw)) : Rl)).drew = w7 at *
              unfold wrt11 at hwd
              first | rw [hwd] | (simp only at hwd; rw [hwd])
              clear hwd
              have x0 : w7.cell? ⟨xb, 0, none⟩ = some (.int .u64 y.1.1) := HNX.out.cell 0
              have x1 : w7.cell? ⟨xb, 1, none⟩ = some (.string y.1.2) := HNX.out.cell 1
              have y0 := HRB.out.cell 0; have y1 := HRB.out.cell 1
              have f0 := HRB.out.frozen 0; have f1 := HRB.out.frozen 1
              simp only [List.getElem?_toArray, List.getElem?_cons_zero, List.getElem?_cons_succ] at y0 y1
              go_wp2_with fail
              refine dover_end (set2 HRB.out (.int .u64 y.1.1) (.string y.1.2)) rfl rfl rfl ?_
              have hF := fr2 w7 rb (.int .u64 y.1.1) (.string y.1.2)
              have h9 := OverDP.good (b := true) HG.out HST.out HU.out (HD.out.other HRB.out (by decide) (Nat.le_trans HZ.out HRL.out) hF) (HL.out.then hF (fun i e => by subst e; exact HRL.out))
              have h8 : nmV true (n.1, parS n.2) = .agg #[.int .u64 y.1.1, .string y.1.2] := by rw [← HJN.out]; rfl
              rw [h8] at h9
              exact h9
            · have h1b : (y.2.op - 1 == 0) = true := by simp [h1]
              have HU := Lib.hid (show doverU (updA l n { c with st := 6, val := val, err := err }) n c.fk = (false, updA (updA l n { c with st := 6, val := val, err := err }) (n.1, parS n.2) ({ y.2 with op := 0 } : Rw)) from by rw [HU0.out, if_neg (fun e => h2 e.2), h1])
              have h2b : (y.2.st == 3) = false := by simp [h2]
              clear h2
              clear HU0
              obtain ⟨g, cap, eg, hc⟩ := HD.out.at HJ.out
              have HLG := Lib.hid eg
              have y0 := HD.out.cell
              rw [eg] at y0
              obtain ⟨N, hN⟩ : ∃ N, (updA l n { c with st := 6, val := val, err := err }).length = N := ⟨_, rfl⟩
              rw [hN] at y0
              rw [HXE.out HJ.out] at hc
              have hj0 : ¬ (j : Int) < 0 := by omega
              have hj1 : (0 : Int) ≤ j := by omega
              have hj2 : (j : Int) < N := by have := HJ.out; omega
              have c0 : w6.cell? ⟨g, j * 11, none⟩ = some (.int .u64 y.1.1) := hc 0 _ rfl
              have c1 : w6.cell? ⟨g, j * 11 + 1, none⟩ = some (.string y.1.2) := hc 1 _ rfl
              have c2 : w6.cell? ⟨g, j * 11 + 2, none⟩ = some (.string y.1.2) := hc 2 _ rfl
              have c3 : w6.cell? ⟨g, j * 11 + 3, none⟩ = some (.int .i64 y.2.fn) := hc 3 _ rfl
              have c4 : w6.cell? ⟨g, j * 11 + 4, none⟩ = some (.slice y.2.aa y.2.args.length y.2.ac) := hc 4 _ rfl
              have c5 : w6.cell? ⟨g, j * 11 + 5, none⟩ = some (.int .i64 y.2.fuel) := hc 5 _ rfl
              have c6 : w6.cell? ⟨g, j * 11 + 6, none⟩ = some (.int .u8 y.2.st) := hc 6 _ rfl
              have c7 : w6.cell? ⟨g, j * 11 + 7, none⟩ = some (.int .i64 y.2.op) := hc 7 _ rfl
              have c8 : w6.cell? ⟨g, j * 11 + 8, none⟩ = some (.int .i64 y.2.val) := hc 8 _ rfl
              have c9 : w6.cell? ⟨g, j * 11 + 9, none⟩ = some (.int .i64 y.2.err) := hc 9 _ rfl
              have c10 : w6.cell? ⟨g, j * 11 + 10, none⟩ = some (.bool y.2.fk) := hc 10 _ rfl
              have HGW := Lib.hid (World.block_lt_of_cell? _ _ c0)
              clear hc eg hN
              have hA2 := alD w6 (cellsR ((y.1, ({ y.2 with op := 0 } : Rw)) : Rl))
              replace HD := Lib.hid (HD.out.below hA2)
              replace HL := Lib.hid (HL.out.more hA2)
              replace HRB := Lib.hid (HRB.out.below hA2)
              go_upto_region 16 with fail
              have hbx : (w6.alloc (cellsR ((y.1, ({ y.2 with op := 0 } : Rw)) : Rl))).heap[w6.heap.size]? = some (cellsR ((y.1, ({ y.2 with op := 0 } : Rw)) : Rl)) := heap_alloc_new _ _
              try simp only [cellsR] at hbx hA2
              try simp only [cellsR] at hA2
              try simp only [cellsR] at HD
              try simp only [cellsR] at HL
              try simp only [cellsR] at HRB
              replace y0 := (hA2.cell (p := ⟨r, 1, none⟩) (World.block_lt_of_cell? _ _ y0)).trans y0
              replace c0 := (hA2.cell (p := ⟨g, j * 11, none⟩) (World.block_lt_of_cell? _ _ c0)).trans c0
              replace c1 := (hA2.cell (p := ⟨g, j * 11 + 1, none⟩) (World.block_lt_of_cell? _ _ c1)).trans c1
              replace c2 := (hA2.cell (p := ⟨g, j * 11 + 2, none⟩) (World.block_lt_of_cell? _ _ c2)).trans c2
              replace c3 := (hA2.cell (p := ⟨g, j * 11 + 3, none⟩) (World.block_lt_of_cell? _ _ c3)).trans c3
              replace c4 := (hA2.cell (p := ⟨g, j * 11 + 4, none⟩) (World.block_lt_of_cell? _ _ c4)).trans c4
              replace c5 := (hA2.cell (p := ⟨g, j * 11 + 5, none⟩) (World.block_lt_of_cell? _ _ c5)).trans c5
              replace c6 := (hA2.cell (p := ⟨g, j * 11 + 6, none⟩) (World.block_lt_of_cell? _ _ c6)).trans c6
              replace c7 := (hA2.cell (p := ⟨g, j * 11 + 7, none⟩) (World.block_lt_of_cell? _ _ c7)).trans c7
              replace c8 := (hA2.cell (p := ⟨g, j * 11 + 8, none⟩) (World.block_lt_of_cell? _ _ c8)).trans c8
              replace c9 := (hA2.cell (p := ⟨g, j * 11 + 9, none⟩) (World.block_lt_of_cell? _ _ c9)).trans c9
              replace c10 := (hA2.cell (p := ⟨g, j * 11 + 10, none⟩) (World.block_lt_of_cell? _ _ c10)).trans c10
              have HGX := Lib.hid (show g < w6.heap.size from HGW.out)
              clear HGW
              generalize w6.alloc (Obj.cells #[.int .u64 y.1.1, .string y.1.2, .string y.1.2, .int .i64 y.2.fn, .slice y.2.aa y.2.args.length y.2.ac, .int .i64 y.2.fuel, .int .u8 y.2.st, .int .i64 0, .int .i64 y.2.val, .int .i64 y.2.err, .bool y.2.fk] RowT) = wq at *
              obtain ⟨xb, hxb⟩ : ∃ t, w6.heap.size = t := ⟨_, rfl⟩
              rw [hxb] at hbx HGX ⊢
              clear hxb
              have b0 : wq.cell? ⟨xb, 0, none⟩ = some (.int .u64 y.1.1) := by simp [World.cell?, hbx]
              have b1 : wq.cell? ⟨xb, 1, none⟩ = some (.string y.1.2) := by simp [World.cell?, hbx]
              have b2 : wq.cell? ⟨xb, 2, none⟩ = some (.string y.1.2) := by simp [World.cell?, hbx]
              have b3 : wq.cell? ⟨xb, 3, none⟩ = some (.int .i64 y.2.fn) := by simp [World.cell?, hbx]
              have b4 : wq.cell? ⟨xb, 4, none⟩ = some (.slice y.2.aa y.2.args.length y.2.ac) := by simp [World.cell?, hbx]
              have b5 : wq.cell? ⟨xb, 5, none⟩ = some (.int .i64 y.2.fuel) := by simp [World.cell?, hbx]
              have b6 : wq.cell? ⟨xb, 6, none⟩ = some (.int .u8 y.2.st) := by simp [World.cell?, hbx]
              have b7 : wq.cell? ⟨xb, 7, none⟩ = some (.int .i64 0) := by simp [World.cell?, hbx]
              have b8 : wq.cell? ⟨xb, 8, none⟩ = some (.int .i64 y.2.val) := by simp [World.cell?, hbx]
              have b9 : wq.cell? ⟨xb, 9, none⟩ = some (.int .i64 y.2.err) := by simp [World.cell?, hbx]
              have b10 : wq.cell? ⟨xb, 10, none⟩ = some (.bool y.2.fk) := by simp [World.cell?, hbx]
              have hfz : ∀ i, wq.frozen? ⟨g, i, none⟩ = false := fun i => HD.out.thaw HLG.out i
              have hFW := wrt11_fr wq g (j * 11) ((y.1, ({ y.2 with op := 0 } : Rw)) : Rl)
              have hgo : lv.ownBlock = some g := by rw [HLG.out]; rfl
              have HDQ := Lib.hid HD.out
              have HS := Lib.hid (HD.out.set (x := ((y.1, ({ y.2 with op := 0 } : Rw)) : Rl)) HLG.out HJ.out (by rw [HXE.out HJ.out]) (by rw [HXE.out HJ.out]) (by rw [HXE.out HJ.out]))
              have hle : (updA l n { c with st := 6, val := val, err := err }).set j ((y.1, ({ y.2 with op := 0 } : Rw)) : Rl) = updA (updA l n { c with st := 6, val := val, err := err }) (n.1, parS n.2) ({ y.2 with op := 0 } : Rw) := by
                rw [show ((y.1, ({ y.2 with op := 0 } : Rw)) : Rl) = ((n.1, parS n.2), ({ y.2 with op := 0 } : Rw)) from Prod.ext (HJN.out) rfl, set_upd HND.out HJ.out (by rw [HXE.out HJ.out]; first | done | exact HJN.out)]
              replace HL := Lib.hid (HL.out.trans HS.out.2)
              replace HD := Lib.hid HS.out.1
              have HNX := Lib.hid (show BoxAt (wrt11 wq g (j * 11) ((y.1, ({ y.2 with op := 0 } : Rw)) : Rl)).drew xb #[.int .u64 y.1.1, .string y.1.2, .string y.1.2, .int .i64 y.2.fn, .slice y.2.aa y.2.args.length y.2.ac, .int .i64 y.2.fuel, .int .u8 y.2.st, .int .i64 0, .int .i64 y.2.val, .int .i64 y.2.err, .bool y.2.fk] RowT from BoxAt.below ((show BoxAt wq xb #[.int .u64 y.1.1, .string y.1.2, .string y.1.2, .int .i64 y.2.fn, .slice y.2.aa y.2.args.length y.2.ac, .int .i64 y.2.fuel, .int .u8 y.2.st, .int .i64 0, .int .i64 y.2.val, .int .i64 y.2.err, .bool y.2.fk] RowT from hbx).fr hFW (fun e => by have := HGX.out; omega)) (Below.refl _ _).drew)
              replace HRB := Lib.hid (BoxAt.below (HRB.out.fr hFW (fun e => own_not_box HDQ.out.own HRB.out (by decide) (by rw [hgo, e]))) (Below.refl _ _).drew)
              rw [hle] at HD
              clear hbx hA2 hFW hgo hle HS HDQ HGX HLG
              go_still_tail 7, (by kernel_rfl)
              change wpList _ _ _ _ _ wq.drew
              go_upto_region 17 with fail
              clear c0 c1 c2 c3 c4 c5 c6 c7 c8 c9 c10 b0 b1 b2 b3 b4 b5 b6 b7 b8 b9 b10 y0 hfz hj0 hj1 hj2 hopw
              generalize hwd : (wrt11 wq g (j * 11) ((y.1, ({ y.2 with op := 0 } : Rw)) : Rl)).drew = w7 at *
              unfold wrt11 at hwd
              first | rw [hwd] | (simp only at hwd; rw [hwd])
              clear hwd
              have y0 := HRB.out.cell 0; have y1 := HRB.out.cell 1
              have f0 := HRB.out.frozen 0; have f1 := HRB.out.frozen 1
              simp only [List.getElem?_toArray, List.getElem?_cons_zero, List.getElem?_cons_succ] at y0 y1
              go_wp2_with fail
              refine dover_end (set2 HRB.out (.int .u64 0) (.string ⟨#[]⟩)) rfl rfl rfl ?_
              have hF := fr2 w7 rb (.int .u64 0) (.string ⟨#[]⟩)
              exact OverDP.good (b := false) HG.out HST.out HU.out (HD.out.other HRB.out (by decide) (Nat.le_trans HZ.out HRL.out) hF) (HL.out.then hF (fun i e => by subst e; exact HRL.out))
          · have h1b : (y.2.op - 1 == 0) = false := by simp [h1]
            have HU := Lib.hid (show doverU (updA l n { c with st := 6, val := val, err := err }) n c.fk = (false, updA (updA l n { c with st := 6, val := val, err := err }) (n.1, parS n.2) ({ y.2 with op := (y.2.op - 1) } : Rw)) from by rw [HU0.out, if_neg (fun e => h1 e.1)])
            clear h1
            clear HU0
            obtain ⟨g, cap, eg, hc⟩ := HD.out.at HJ.out
            have HLG := Lib.hid eg
            have y0 := HD.out.cell
            rw [eg] at y0
            obtain ⟨N, hN⟩ : ∃ N, (updA l n { c with st := 6, val := val, err := err }).length = N := ⟨_, rfl⟩
            rw [hN] at y0
            rw [HXE.out HJ.out] at hc
            have hj0 : ¬ (j : Int) < 0 := by omega
            have hj1 : (0 : Int) ≤ j := by omega
            have hj2 : (j : Int) < N := by have := HJ.out; omega
            have c0 : w6.cell? ⟨g, j * 11, none⟩ = some (.int .u64 y.1.1) := hc 0 _ rfl
            have c1 : w6.cell? ⟨g, j * 11 + 1, none⟩ = some (.string y.1.2) := hc 1 _ rfl
            have c2 : w6.cell? ⟨g, j * 11 + 2, none⟩ = some (.string y.1.2) := hc 2 _ rfl
            have c3 : w6.cell? ⟨g, j * 11 + 3, none⟩ = some (.int .i64 y.2.fn) := hc 3 _ rfl
            have c4 : w6.cell? ⟨g, j * 11 + 4, none⟩ = some (.slice y.2.aa y.2.args.length y.2.ac) := hc 4 _ rfl
            have c5 : w6.cell? ⟨g, j * 11 + 5, none⟩ = some (.int .i64 y.2.fuel) := hc 5 _ rfl
            have c6 : w6.cell? ⟨g, j * 11 + 6, none⟩ = some (.int .u8 y.2.st) := hc 6 _ rfl
            have c7 : w6.cell? ⟨g, j * 11 + 7, none⟩ = some (.int .i64 y.2.op) := hc 7 _ rfl
            have c8 : w6.cell? ⟨g, j * 11 + 8, none⟩ = some (.int .i64 y.2.val) := hc 8 _ rfl
            have c9 : w6.cell? ⟨g, j * 11 + 9, none⟩ = some (.int .i64 y.2.err) := hc 9 _ rfl
            have c10 : w6.cell? ⟨g, j * 11 + 10, none⟩ = some (.bool y.2.fk) := hc 10 _ rfl
            have HGW := Lib.hid (World.block_lt_of_cell? _ _ c0)
            clear hc eg hN
            have hA2 := alD w6 (cellsR ((y.1, ({ y.2 with op := (y.2.op - 1) } : Rw)) : Rl))
            replace HD := Lib.hid (HD.out.below hA2)
            replace HL := Lib.hid (HL.out.more hA2)
            replace HRB := Lib.hid (HRB.out.below hA2)
            go_upto_region 16 with fail
            have hbx : (w6.alloc (cellsR ((y.1, ({ y.2 with op := (y.2.op - 1) } : Rw)) : Rl))).heap[w6.heap.size]? = some (cellsR ((y.1, ({ y.2 with op := (y.2.op - 1) } : Rw)) : Rl)) := heap_alloc_new _ _
            try simp only [cellsR] at hbx hA2
            try simp only [cellsR] at hA2
            try simp only [cellsR] at HD
            try simp only [cellsR] at HL
            try simp only [cellsR] at HRB
            replace y0 := (hA2.cell (p := ⟨r, 1, none⟩) (World.block_lt_of_cell? _ _ y0)).trans y0
            replace c0 := (hA2.cell (p := ⟨g, j * 11, none⟩) (World.block_lt_of_cell? _ _ c0)).trans c0
            replace c1 := (hA2.cell (p := ⟨g, j * 11 + 1, none⟩) (World.block_lt_of_cell? _ _ c1)).trans c1
            replace c2 := (hA2.cell (p := ⟨g, j * 11 + 2, none⟩) (World.block_lt_of_cell? _ _ c2)).trans c2
            replace c3 := (hA2.cell (p := ⟨g, j * 11 + 3, none⟩) (World.block_lt_of_cell? _ _ c3)).trans c3
            replace c4 := (hA2.cell (p := ⟨g, j * 11 + 4, none⟩) (World.block_lt_of_cell? _ _ c4)).trans c4
            replace c5 := (hA2.cell (p := ⟨g, j * 11 + 5, none⟩) (World.block_lt_of_cell? _ _ c5)).trans c5
            replace c6 := (hA2.cell (p := ⟨g, j * 11 + 6, none⟩) (World.block_lt_of_cell? _ _ c6)).trans c6
            replace c7 := (hA2.cell (p := ⟨g, j * 11 + 7, none⟩) (World.block_lt_of_cell? _ _ c7)).trans c7
            replace c8 := (hA2.cell (p := ⟨g, j * 11 + 8, none⟩) (World.block_lt_of_cell? _ _ c8)).trans c8
            replace c9 := (hA2.cell (p := ⟨g, j * 11 + 9, none⟩) (World.block_lt_of_cell? _ _ c9)).trans c9
            replace c10 := (hA2.cell (p := ⟨g, j * 11 + 10, none⟩) (World.block_lt_of_cell? _ _ c10)).trans c10
            have HGX := Lib.hid (show g < w6.heap.size from HGW.out)
            clear HGW
            generalize w6.alloc (Obj.cells #[.int .u64 y.1.1, .string y.1.2, .string y.1.2, .int .i64 y.2.fn, .slice y.2.aa y.2.args.length y.2.ac, .int .i64 y.2.fuel, .int .u8 y.2.st, .int .i64 (y.2.op - 1), .int .i64 y.2.val, .int .i64 y.2.err, .bool y.2.fk] RowT) = wq at *
            obtain ⟨xb, hxb⟩ : ∃ t, w6.heap.size = t := ⟨_, rfl⟩
            rw [hxb] at hbx HGX ⊢
            clear hxb
            have b0 : wq.cell? ⟨xb, 0, none⟩ = some (.int .u64 y.1.1) := by simp [World.cell?, hbx]
            have b1 : wq.cell? ⟨xb, 1, none⟩ = some (.string y.1.2) := by simp [World.cell?, hbx]
            have b2 : wq.cell? ⟨xb, 2, none⟩ = some (.string y.1.2) := by simp [World.cell?, hbx]
            have b3 : wq.cell? ⟨xb, 3, none⟩ = some (.int .i64 y.2.fn) := by simp [World.cell?, hbx]
            have b4 : wq.cell? ⟨xb, 4, none⟩ = some (.slice y.2.aa y.2.args.length y.2.ac) := by simp [World.cell?, hbx]
            have b5 : wq.cell? ⟨xb, 5, none⟩ = some (.int .i64 y.2.fuel) := by simp [World.cell?, hbx]
            have b6 : wq.cell? ⟨xb, 6, none⟩ = some (.int .u8 y.2.st) := by simp [World.cell?, hbx]
            have b7 : wq.cell? ⟨xb, 7, none⟩ = some (.int .i64 (y.2.op - 1)) := by simp [World.cell?, hbx]
            have b8 : wq.cell? ⟨xb, 8, none⟩ = some (.int .i64 y.2.val) := by simp [World.cell?, hbx]
            have b9 : wq.cell? ⟨xb, 9, none⟩ = some (.int .i64 y.2.err) := by simp [World.cell?, hbx]
            have b10 : wq.cell? ⟨xb, 10, none⟩ = some (.bool y.2.fk) := by simp [World.cell?, hbx]
            have hfz : ∀ i, wq.frozen? ⟨g, i, none⟩ = false := fun i => HD.out.thaw HLG.out i
            have hFW := wrt11_fr wq g (j * 11) ((y.1, ({ y.2 with op := (y.2.op - 1) } : Rw)) : Rl)
            have hgo : lv.ownBlock = some g := by rw [HLG.out]; rfl
            have HDQ := Lib.hid HD.out
            have HS := Lib.hid (HD.out.set (x := ((y.1, ({ y.2 with op := (y.2.op - 1) } : Rw)) : Rl)) HLG.out HJ.out (by rw [HXE.out HJ.out]) (by rw [HXE.out HJ.out]) (by rw [HXE.out HJ.out]))
            have hle : (updA l n { c with st := 6, val := val, err := err }).set j ((y.1, ({ y.2 with op := (y.2.op - 1) } : Rw)) : Rl) = updA (updA l n { c with st := 6, val := val, err := err }) (n.1, parS n.2) ({ y.2 with op := (y.2.op - 1) } : Rw) := by
              rw [show ((y.1, ({ y.2 with op := (y.2.op - 1) } : Rw)) : Rl) = ((n.1, parS n.2), ({ y.2 with op := (y.2.op - 1) } : Rw)) from Prod.ext (HJN.out) rfl, set_upd HND.out HJ.out (by rw [HXE.out HJ.out]; first | done | exact HJN.out)]
            replace HL := Lib.hid (HL.out.trans HS.out.2)
            replace HD := Lib.hid HS.out.1
            have HNX := Lib.hid (show BoxAt (wrt11 wq g (j * 11) ((y.1, ({ y.2 with op := (y.2.op - 1) } : Rw)) : Rl)).drew xb #[.int .u64 y.1.1, .string y.1.2, .string y.1.2, .int .i64 y.2.fn, .slice y.2.aa y.2.args.length y.2.ac, .int .i64 y.2.fuel, .int .u8 y.2.st, .int .i64 (y.2.op - 1), .int .i64 y.2.val, .int .i64 y.2.err, .bool y.2.fk] RowT from BoxAt.below ((show BoxAt wq xb #[.int .u64 y.1.1, .string y.1.2, .string y.1.2, .int .i64 y.2.fn, .slice y.2.aa y.2.args.length y.2.ac, .int .i64 y.2.fuel, .int .u8 y.2.st, .int .i64 (y.2.op - 1), .int .i64 y.2.val, .int .i64 y.2.err, .bool y.2.fk] RowT from hbx).fr hFW (fun e => by have := HGX.out; omega)) (Below.refl _ _).drew)
            replace HRB := Lib.hid (BoxAt.below (HRB.out.fr hFW (fun e => own_not_box HDQ.out.own HRB.out (by decide) (by rw [hgo, e]))) (Below.refl _ _).drew)
            rw [hle] at HD
            clear hbx hA2 hFW hgo hle HS HDQ HGX HLG
            go_still_tail 7, (by kernel_rfl)
            change wpList _ _ _ _ _ wq.drew
            go_upto_region 17 with fail
            clear c0 c1 c2 c3 c4 c5 c6 c7 c8 c9 c10 b0 b1 b2 b3 b4 b5 b6 b7 b8 b9 b10 y0 hfz hj0 hj1 hj2 hopw
            generalize hwd : (wrt11 wq g (j * 11) ((y.1, ({ y.2 with op := (y.2.op - 1) } : Rw)) : Rl)).drew = w7 at *
            unfold wrt11 at hwd
            first | rw [hwd] | (simp only at hwd; rw [hwd])
            clear hwd
            have y0 := HRB.out.cell 0; have y1 := HRB.out.cell 1
            have f0 := HRB.out.frozen 0; have f1 := HRB.out.frozen 1
            simp only [List.getElem?_toArray, List.getElem?_cons_zero, List.getElem?_cons_succ] at y0 y1
            go_wp2_with fail
            refine dover_end (set2 HRB.out (.int .u64 0) (.string ⟨#[]⟩)) rfl rfl rfl ?_
            have hF := fr2 w7 rb (.int .u64 0) (.string ⟨#[]⟩)
            exact OverDP.good (b := false) HG.out HST.out HU.out (HD.out.other HRB.out (by decide) (Nat.le_trans HZ.out HRL.out) hF) (HL.out.then hF (fun i e => by subst e; exact HRL.out))
end Go.Proofs.Ythbkbmkcgpdedaa
