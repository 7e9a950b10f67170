/- Contract: thresherlaw14.turn. -/
import Derived.Test.YtdhbjejejeljoaaGreatVa1
import Derived.Deep.DeepCutAuto
namespace Go.Proofs.YtdhbjejejeljoaaGreat
open Go.RowKit Go.Sort Go.Lib

theorem info_node : (Tryz.prog.info? NodeT).map (fun i => (i.zero, i.size, i.bytes)) = some (some (.agg #[.pointer none, .string ⟨#[]⟩, .int .i64 0, .slice none 0 0, .int .i64 0, .bool false, .int .i64 0, .int .i64 0, .int .i64 0]), 9, 96) := by kernel_rfl
theorem one_nd (w : World) (m : Nw) : ∀ j u, (encNd m)[j]? = some u → (w.alloc (.cells #[.pointer (some ⟨m.x, 0, none⟩), .string m.nd.t.p, .int .i64 m.nd.t.fn, .slice m.aa m.nd.t.args.length m.ac, .int .i64 m.nd.t.fuel, .bool m.dn.isSome, .int .i64 (m.dn.getD ⟨0, 0⟩).v, .int .i64 (m.dn.getD ⟨0, 0⟩).e, .int .i64 (parI m.nd.par)] NodeT)).cell? ((⟨w.heap.size, 0, none⟩ : Addr).add j) = some u := by
  intro j u hj
  match j with
  | 0 => simp [encNd] at hj; subst hj; simp [go_sem, Addr.add]
  | 1 => simp [encNd] at hj; subst hj; simp [go_sem, Addr.add]
  | 2 => simp [encNd] at hj; subst hj; simp [go_sem, Addr.add]
  | 3 => simp [encNd] at hj; subst hj; simp [go_sem, Addr.add]
  | 4 => simp [encNd] at hj; subst hj; simp [go_sem, Addr.add]
  | 5 => simp [encNd] at hj; subst hj; simp [go_sem, Addr.add]
  | 6 => simp [encNd] at hj; subst hj; simp [go_sem, Addr.add]
  | 7 => simp [encNd] at hj; subst hj; simp [go_sem, Addr.add]
  | 8 => simp [encNd] at hj; subst hj; simp [go_sem, Addr.add]
  | j + 9 => simp [encNd] at hj
theorem newE_kid {p : List Fnc} {t : Tk} (hpe : progE p = 0) (ht : TkOk p t) (hm : mayS t.p = true) : newE p t = 0 := by
  unfold newE
  rw [if_neg (by rw [hpe]; decide), if_neg]
  rintro (h | h | h | h | h | h)
  · rw [hm] at h; cases h
  · have := ht.f0; omega
  · have := ht.f1; omega
  · exact h ht.args
  · have := ht.u0; omega
  · have := ht.u1; omega
def ndsN (L : List Nw) : List Nd := L.map (·.nd)
theorem nds_at {L : List Nw} {k : Nat} {m : Nw} (h : L[k]? = some m) : (ndsN L)[k]? = some m.nd := by unfold ndsN; rw [List.getElem?_map, h]; rfl
theorem nds_of {L : List Nw} {k : Nat} {n : Nd} (h : (ndsN L)[k]? = some n) : ∃ m : Nw, L[k]? = some m ∧ m.nd = n := by
  unfold ndsN at h
  rw [List.getElem?_map] at h
  cases hk : L[k]? with
  | none => rw [hk] at h; cases h
  | some m => rw [hk] at h; cases h; exact ⟨m, rfl, rfl⟩
theorem nds_set {L : List Nw} {k : Nat} {m : Nw} : ndsN (L.set k m) = (ndsN L).set k m.nd := by unfold ndsN; rw [List.map_set]
theorem nds_len {L : List Nw} : (ndsN L).length = L.length := by unfold ndsN; simp
/-- What the structs say is what came of the tasks. -/
def Says (L : List Nw) : Prop := ∀ (i : Nat) (m : Nw), L[i]? = some m → m.dn = m.nd.s.result
theorem Says.set {L : List Nw} {k : Nat} {m x : Nw} (h : Says L) (hk : L[k]? = some m) (hx : x.dn = x.nd.s.result) : Says (L.set k x) := by
  intro i n hn
  rcases setm_get hk hn with ⟨_, rfl⟩ | ⟨_, hn⟩
  · exact hx
  · exact h i n hn
/-- What a turn answers and leaves. -/
def TurnP (Z : Nat) (p : List Fnc) (L : List Nw) (k n : Nat) (w : World) (e : Ending) (w' : World) : Prop :=
  ∃ L' av', e = .returned (.tuple #[av', .bool true]) ∧ ndsN L' = turnL p (ndsN L) k n ∧ Fw Z p L' av' w' ∧ Says L' ∧ Below Z w w'
set_option maxHeartbeats 12800000 in
set_option maxRecDepth 100000 in
theorem turn_any {Z k n : Nat} {pv av : Value} {p : List Fnc} {t0 : Tk} {L : List Nw} {w : World} (hp : ∀ y, Below Z w y → ProgAt y pv p) (hpe : progE p = 0) (hwf : WfP p) (h : Fw Z p L av w) (hdn : Says L) (hfo : Fo p t0 none (ndsN L)) (hk : k < L.length) (hn : 1 ≤ n) (hn2 : n ≤ 64) (hfu : t0.fuel ≤ 400) (hZ : Z ≤ w.heap.size) :
    Calls Tryz.prog 9 #[.agg #[pv], av, .int .i64 k, .int .i64 n] w (TurnP Z p L k n w) := by
  obtain ⟨pa, pc, rfl⟩ := (hp w (Below.refl _ _)).fns.slice
  obtain ⟨m, hm⟩ : ∃ m, L[k]? = some m := ⟨L[k], List.getElem?_eq_getElem hk⟩
  obtain ⟨g, cap, cur, hv, _, _, _, _, _, _, _⟩ := own_blockK h.own (by omega)
  subst hv
  have hLn : L.length ≤ 401 := by have := fo_len hfo; rw [nds_len] at this; omega
  have hA := alV w (.cells #[.slice pa p.length pc] PrgT)
  have H1 := Lib.hid (show Fw Z p L (.slice (some ⟨g, 0, none⟩) L.length cap) (w.alloc (.cells #[.slice pa p.length pc] PrgT)) ∧ Below Z w (w.alloc (.cells #[.slice pa p.length pc] PrgT)) from ⟨h.below hA, hA.mono hZ⟩)
  have HB1 := Lib.hid (show BoxAt (w.alloc (.cells #[.slice pa p.length pc] PrgT)) w.heap.size #[.slice pa p.length pc] PrgT from heap_alloc_new _ _)
  have HP := Lib.hid hp
  have HD := Lib.hid hdn
  have HF := Lib.hid hfo
  have HE := Lib.hid (And.intro hpe hwf)
  have HM := Lib.hid hm
  have HZ := Lib.hid (And.intro hfu hZ)
  have hk0 : (0 : Int) ≤ k := by omega
  have hk1 : (k : Int) < L.length := by omega
  clear hp hdn hfo hpe hwf h hA hfu hZ hm
  go_enter Tryz.func9, Tryz.ntmps9
  go_upto_region 1 with fail
  generalize w.alloc (.cells #[.slice pa p.length pc] PrgT) = w1 at *
  obtain ⟨pb, hpb⟩ : ∃ n, w.heap.size = n := ⟨_, rfl⟩
  rw [hpb] at HB1 ⊢
  clear hpb
  have HS1 := Lib.hid (show Z ≤ w1.heap.size from Nat.le_trans HZ.out.2 H1.out.2.size)
  obtain ⟨c0, _, _, _, _, c5, _, _, _⟩ := row_cells H1.out.1.own rfl HM.out
  cases hr : m.nd.s.result with
  | some rs =>
    have hd : m.dn.isSome = true := by rw [HD.out k m HM.out, hr]; rfl
    rw [hd] at c5
    have HX := Lib.hid (show TurnP Z p L k n w (.returned (.tuple #[.slice (some ⟨g, 0, none⟩) L.length cap, .bool true])) w1 from ⟨L, _, rfl, (turnL_done (nds_at HM.out) (by rw [hr]; simp)).symm, H1.out.1, HD.out, H1.out.2⟩)
    clear hr hd
    go_wp2_with fail
    go_ret2
    exact HX.out
  | none =>
    have hd : m.dn.isSome = false := by rw [HD.out k m HM.out, hr]; rfl
    have hdn0 := Lib.hid (show m.dn = none by rw [HD.out k m HM.out, hr])
    rw [hd] at c5
    have HR := Lib.hid hr
    clear hr hd
    obtain ⟨y, s', hy⟩ : ∃ y s', runV p m.nd.t n m.nd.s = (y, s') := ⟨_, _, rfl⟩
    have HY := Lib.hid hy
    clear hy
    go_wp2_with fail
    refine (frm_run n hn (by omega) (H1.out.1.frm k m HM.out) HY.out).mono ?_
    rintro e w2 ⟨va, vc, kv2, rfl, ho2, hf2, hl2⟩
    have HF2 := Lib.hid (And.intro ho2 (And.intro hf2 hl2))
    have HB2 := Lib.hid (H1.out.1.box HM.out hl2 HB1.out (by decide))
    have HL2 := Lib.hid (show Below Z w w2 from H1.out.2.trans (hl2.fr.below (H1.out.1.lowS HM.out) HS1.out))
    clear ho2 hf2 hl2 c0 c5
    go_upto_region 4 with fail
    have hA3 := alV w2 (.cells #[.int .u8 y.k, .string y.kid.p, .int .i64 y.kid.fn, .slice va y.kid.args.length vc, .int .i64 y.kid.fuel, .int .i64 y.r.v, .int .i64 y.r.e] StopT)
    have H3 := Lib.hid (show ∀ ks', Fw Z p (L.set k { m with nd := { m.nd with s := s', ks := ks' }, kv := kv2 }) (.slice (some ⟨g, 0, none⟩) L.length cap) (w2.alloc (.cells #[.int .u8 y.k, .string y.kid.p, .int .i64 y.kid.fn, .slice va y.kid.args.length vc, .int .i64 y.kid.fuel, .int .i64 y.r.v, .int .i64 y.r.e] StopT)) from fun ks' => (H1.out.1.run ks' HM.out HF2.out.2.1 HF2.out.2.2).below hA3)
    have HB3 := Lib.hid (BoxAt.below HB2.out hA3)
    have HO3 := Lib.hid (own_below HF2.out.1 hA3)
    have HL3 := Lib.hid (show Below Z w (w2.alloc (.cells #[.int .u8 y.k, .string y.kid.p, .int .i64 y.kid.fn, .slice va y.kid.args.length vc, .int .i64 y.kid.fuel, .int .i64 y.r.v, .int .i64 y.r.e] StopT)) from HL2.out.trans (hA3.mono (Nat.le_trans HZ.out.2 HL2.out.size)))
    have HT3 := Lib.hid (show BoxAt (w2.alloc (.cells #[.int .u8 y.k, .string y.kid.p, .int .i64 y.kid.fn, .slice va y.kid.args.length vc, .int .i64 y.kid.fuel, .int .i64 y.r.v, .int .i64 y.r.e] StopT)) w2.heap.size #[.int .u8 y.k, .string y.kid.p, .int .i64 y.kid.fn, .slice va y.kid.args.length vc, .int .i64 y.kid.fuel, .int .i64 y.r.v, .int .i64 y.r.e] StopT from heap_alloc_new _ _)
    have HQ3 := Lib.hid (show w1.heap.size ≤ (w2.alloc (.cells #[.int .u8 y.k, .string y.kid.p, .int .i64 y.kid.fn, .slice va y.kid.args.length vc, .int .i64 y.kid.fuel, .int .i64 y.r.v, .int .i64 y.r.e] StopT)).heap.size from Nat.le_trans HF2.out.2.2.fr.size hA3.size)
    have HLT := Lib.hid (show ∀ (i : Nat) (a : Nw), L[i]? = some a → a.x < w1.heap.size ∧ a.r < w1.heap.size from fun i a ha => ⟨(H1.out.1.frm i a ha).lt.2.2.1, (H1.out.1.frm i a ha).lt.2.2.2.1⟩)
    clear hA3 HF2 HB2 HL2 HB1 H1
    generalize w2.alloc (.cells #[.int .u8 y.k, .string y.kid.p, .int .i64 y.kid.fn, .slice va y.kid.args.length vc, .int .i64 y.kid.fuel, .int .i64 y.r.v, .int .i64 y.r.e] StopT) = w3 at *
    generalize w2.heap.size = sb at *
    generalize w1.heap.size = M at *
    have HRS := Lib.hid (turn_res HF.out HE.out.2 (nds_at HM.out) HR.out HY.out)
    have c0 := HT3.out.cell 0; have c1 := HT3.out.cell 1; have c2 := HT3.out.cell 2; have c3 := HT3.out.cell 3; have c4 := HT3.out.cell 4; have c5 := HT3.out.cell 5; have c6 := HT3.out.cell 6
    simp only [List.getElem?_toArray, List.getElem?_cons_zero, List.getElem?_cons_succ] at c0 c1 c2 c3 c4 c5 c6
    by_cases h2 : y.k = 2
    · have q2 : (y.k == 2) = true := by simp [h2]
      have q4 : (y.k == 4) = false := by rw [h2]; decide
      obtain ⟨hty, htm⟩ := turn_kid HF.out HE.out.2 (nds_at HM.out) HR.out HY.out h2
      have HNE := Lib.hid (newE_kid HE.out.1 hty htm)
      have HTL := Lib.hid (turnL_fork (nds_at HM.out) HR.out HY.out h2)
      have HRN := Lib.hid (HRS.out.2 (by omega))
      have hsz := hty.sz
      have hal := hty.len HE.out.2
      have d0 := prg_cell HB3.out
      clear h2 hty htm
      go_wp2_with fail
      refine (vnew_any _ (.slice va y.kid.args.length vc) p y.kid w3 (HP.out w3 HL3.out) (own_readsK (enc := encN1) (k := 1) (fun _ => rfl) (by decide) HO3.out) (by omega) (by omega)).mono ?_
      rintro e w4 hn4
      obtain ⟨hB4, ⟨hne4, _⟩ | ⟨h04, x4, r4, rfl, hf4⟩⟩ := hn4.frm
      · exact absurd HNE.out hne4
      have HF4 := Lib.hid hf4
      have H4 := Lib.hid (fun ks' => (H3.out ks').below hB4)
      have HO4 := Lib.hid (own_below HO3.out hB4)
      have HL4 := Lib.hid (show Below Z w w4 from HL3.out.trans (hB4.mono (Nat.le_trans HZ.out.2 HL3.out.size)))
      have c0' := (BoxAt.below HT3.out hB4).cell 0; have c1' := (BoxAt.below HT3.out hB4).cell 1; have c2' := (BoxAt.below HT3.out hB4).cell 2; have c3' := (BoxAt.below HT3.out hB4).cell 3; have c4' := (BoxAt.below HT3.out hB4).cell 4
      simp only [List.getElem?_toArray, List.getElem?_cons_zero, List.getElem?_cons_succ] at c0' c1' c2' c3' c4'
      have HLW := Lib.hid (show ∀ b, (Value.slice va y.kid.args.length vc).ownBlock = some b → b < w3.heap.size from fun b hb => (HO3.out.lt b hb).2)
      clear hB4 hf4 hn4 h04 H3 HO3 c0 c1 c2 c3 c4 c5 c6 d0 HT3
      have q5 : ¬ (500 : Int) < L.length := by omega
      obtain ⟨nw, hnw⟩ : ∃ nw : Nw, nw = ⟨⟨y.kid, newV p y.kid, [], some k⟩, w3.heap.size, x4, r4, M, .slice none 0 0, va, vc, none⟩ := ⟨_, rfl⟩
      obtain ⟨ig, hig, hg0, hg1, hg2⟩ := info_parts info_node
      have hone := one_nd w4 nw
      rw [hnw] at hone
      simp only [Option.isSome_none, Option.getD_none, parI] at hone
      obtain ⟨av', w6, hap, hown6, hgrow, _⟩ := run_append_own (P := Tryz.prog) (w := w4.alloc (.cells #[.pointer (some ⟨x4, 0, none⟩), .string y.kid.p, .int .i64 y.kid.fn, .slice va y.kid.args.length vc, .int .i64 y.kid.fuel, .bool false, .int .i64 0, .int .i64 0, .int .i64 k] NodeT)) Z 44 44 NodeT ig _ 9 96 Tryz.underlying44 hig hg0 hg1 hg2 rfl (by decide) (.slice (some ⟨g, 0, none⟩) L.length cap) L.length ((L.set k { m with nd := { m.nd with s := s', ks := m.nd.ks ++ [L.length] }, kv := kv2 }).flatMap encNd) (own_below (by have := (H4.out (m.nd.ks ++ [L.length])).own; rw [List.length_set] at this; exact this) (alV _ _)) ⟨w4.heap.size, 0, none⟩ 1 1 (encNd nw) (by rw [hnw]; rfl) (by rw [hnw]; exact hone) (by rw [hnw]; intro v hv; simp [encNd] at hv; rcases hv with rfl | rfl | rfl | rfl | rfl | rfl | rfl | rfl | rfl <;> rfl) (by unfold maxLen; omega) (by omega) (by have := HL4.out.size; have := HZ.out.2; simp; omega)
      have hF6 := grow_fr' (alV w4 (.cells #[.pointer (some ⟨x4, 0, none⟩), .string y.kid.p, .int .i64 y.kid.fn, .slice va y.kid.args.length vc, .int .i64 y.kid.fuel, .bool false, .int .i64 0, .int .i64 0, .int .i64 k] NodeT)) hgrow
      have HX := Lib.hid (show TurnP Z p L k n w (.returned (.tuple #[av', .bool true])) w6 from by
        refine ⟨L.set k { m with nd := { m.nd with s := s', ks := m.nd.ks ++ [L.length] }, kv := kv2 } ++ [nw], av', rfl, ?_, ?_, ?_, ?_⟩
        · rw [HTL.out, nds_len, hnw]
          unfold ndsN
          rw [List.map_append, List.map_set]; rfl
        · refine (H4.out (m.nd.ks ++ [L.length])).push hF6 (by rw [List.length_set]; exact hown6) (by rw [hnw]; exact HF4.out) (by rw [hnw]; rfl) (by rw [hnw]; exact HO4.out) (by rw [hnw]; exact HLW.out) (by rw [hnw]; exact HQ3.out) (by rw [hnw]; exact HS1.out) (fun i a ha => ?_)
          rw [hnw]
          rcases setm_get HM.out ha with ⟨_, rfl⟩ | ⟨_, ha⟩
          · exact HLT.out k m HM.out
          · exact HLT.out i a ha
        · intro i a ha
          by_cases hi : i < L.length
          · rw [List.getElem?_append_left (by rw [List.length_set]; exact hi)] at ha
            exact HD.out.set HM.out (by show m.dn = s'.result; rw [hdn0.out, HRN.out]) i a ha
          · have h1 := (List.getElem?_eq_some_iff.1 ha).1
            rw [List.length_append, List.length_set] at h1
            simp at h1
            rw [List.getElem?_append_right (by rw [List.length_set]; omega), List.length_set, show i - L.length = 0 by omega] at ha
            cases ha
            rw [hnw]; rfl
        · exact HL4.out.trans (hF6.below (fun i hi => ((H4.out []).own.lt i hi).1) (Nat.le_trans HZ.out.2 HL4.out.size)))
      clear hgrow hown6 hF6 hone hnw ig hig hg0 hg1 hg2 nw HF4 H4 HO4 HLW
      go_wp2_with (at_builtin; refine wpList_arunC rfl _ _ _ _ rfl rfl rfl hap ?_)
      go_ret2
      exact HX.out
    have q2 : (y.k == 2) = false := by rw [beq_eq_false_iff_ne]; exact h2
    by_cases h4 : y.k = 4
    case neg =>
      have q4 : (y.k == 4) = false := by rw [beq_eq_false_iff_ne]; exact h4
      have HX := Lib.hid (show TurnP Z p L k n w (.returned (.tuple #[.slice (some ⟨g, 0, none⟩) L.length cap, .bool true])) w3 from
        ⟨_, _, rfl, by rw [turnL_more (nds_at HM.out) HR.out HY.out h2 h4, nds_set], H3.out m.nd.ks, HD.out.set HM.out (by show m.dn = s'.result; rw [hdn0.out, HRS.out.2 h4]), HL3.out⟩)
      clear h2 h4 c1 c2 c3 c4 c5 c6
      go_wp2_with fail
      go_ret2
      exact HX.out
    have q4 : (y.k == 4) = true := by simp [h4]
    have HRN := Lib.hid (HRS.out.1 h4)
    have H3k := Lib.hid (H3.out m.nd.ks)
    have hlen : (L.set k { m with nd := { m.nd with s := s', ks := m.nd.ks }, kv := kv2 }).length = L.length := List.length_set
    have HV := Lib.hid (show Fw Z p ((L.set k { m with nd := { m.nd with s := s', ks := m.nd.ks }, kv := kv2 }).set k { m with nd := { m.nd with s := s', ks := m.nd.ks }, kv := kv2, dn := some y.r }) (.slice (some ⟨g, 0, none⟩) L.length cap) (((w3.setCell ⟨g, k * 9 + 5, none⟩ (.bool true)).setCell ⟨g, k * 9 + 6, none⟩ (.int .i64 y.r.v)).setCell ⟨g, k * 9 + 7, none⟩ (.int .i64 y.r.e)) ∧ Fr (fun i => i = g) w3 (((w3.setCell ⟨g, k * 9 + 5, none⟩ (.bool true)).setCell ⟨g, k * 9 + 6, none⟩ (.int .i64 y.r.v)).setCell ⟨g, k * 9 + 7, none⟩ (.int .i64 y.r.e)) from by
      have h1 := Fw.tell (cap := cap) (g := g) (by rw [hlen]; exact H3k.out) (setm_self HM.out) y.r
      rw [hlen] at h1
      exact h1)
    have hown3 := H3k.out.own
    rw [hlen] at hown3
    have f5 := own_frozen hown3 (k * 9 + 5)
    have f6 := own_frozen hown3 (k * 9 + 6)
    have f7 := own_frozen hown3 (k * 9 + 7)
    have hg0 : Z ≤ g := (hown3.lt g rfl).1
    have hT3 : Typed (fun i => i = g) w3 [NodeT] := fun i hi hl => typed_own hown3 i (by rw [hi]; rfl) hl
    have HTL := Lib.hid (And.intro h4 (And.intro hg0 hT3))
    have hF4 : Fr (fun i => i = g) w3 (w3.setCell ⟨g, k * 9 + 5, none⟩ (.bool true)) := (Fr.refl (fun i => i = g) w3).setCell (p := ⟨g, k * 9 + 5, none⟩) rfl _
    have hT4 := box_typed HT3.out hF4 hT3 (by decide)
    have e5 := hT4.cell 5
    have e6 := hT4.cell 6
    simp only [List.getElem?_toArray, List.getElem?_cons_zero, List.getElem?_cons_succ] at e5 e6
    obtain ⟨z0, z1, z2, z3, z4, z5, z6, z7, z8⟩ := row_cells (k := k) hown3 hlen.symm (setm_self HM.out)
    simp only [] at z5 z6 z7
    clear h2 h4 hT4 hF4 hg0 hT3 z0 z1 z2 z3 z4 z8 hown3 c1 c2 c3 c4
    go_upto_region 15 with fail
    have HT5 := Lib.hid (box_typed HT3.out HV.out.2 HTL.out.2.2 (by decide))
    have HB5 := Lib.hid (show Below Z w3 (((w3.setCell ⟨g, k * 9 + 5, none⟩ (.bool true)).setCell ⟨g, k * 9 + 6, none⟩ (.int .i64 y.r.v)).setCell ⟨g, k * 9 + 7, none⟩ (.int .i64 y.r.e)) from HV.out.2.below (fun i hi => by subst hi; exact HTL.out.2.1) (Nat.le_trans HZ.out.2 HL3.out.size))
    have H5 := Lib.hid HV.out.1
    clear HV f5 f6 f7 e5 e6 z5 z6 z7 c0 c5 c6 H3 H3k HT3
    generalize ((w3.setCell ⟨g, k * 9 + 5, none⟩ (.bool true)).setCell ⟨g, k * 9 + 6, none⟩ (.int .i64 y.r.v)).setCell ⟨g, k * 9 + 7, none⟩ (.int .i64 y.r.e) = w5 at *
    rw [List.set_set] at H5
    have HL5 := Lib.hid (HL3.out.trans HB5.out)
    have hown5 := H5.out.own
    have hlen5 : (L.set k { m with nd := { m.nd with s := s', ks := m.nd.ks }, kv := kv2, dn := some y.r }).length = L.length := List.length_set
    rw [hlen5] at hown5
    have HO5 := Lib.hid hown5
    obtain ⟨z0, z1, z2, z3, z4, z5, z6, z7, z8⟩ := row_cells (k := k) hown5 hlen5.symm (setm_self HM.out)
    simp only [] at z1 z8
    clear hown5 z0 z2 z3 z4 z5 z6 z7
    cases hpar : m.nd.par with
    | none =>
      rw [hpar] at z8
      simp only [parI] at z8
      have HX := Lib.hid (show TurnP Z p L k n w (.returned (.tuple #[.slice (some ⟨g, 0, none⟩) L.length cap, .bool true])) w5 from
        ⟨_, _, rfl, by rw [turnL_top (nds_at HM.out) HR.out HY.out HTL.out.1 hpar, nds_set], H5.out, HD.out.set HM.out (by show some y.r = s'.result; rw [HRN.out]), HL5.out⟩)
      clear hpar
      go_wp2_with fail
      go_ret2
      exact HX.out
    | some q =>
      rw [hpar] at z8
      simp only [parI] at z8
      obtain ⟨mq, mq1, mq2, mq3⟩ := turn_end HF.out HE.out.2 (nds_at HM.out) HR.out HY.out HTL.out.1 hpar
      obtain ⟨mw, mw1, mw2⟩ := nds_of mq1
      have HQ := Lib.hid mw1
      have HQ5 := Lib.hid (show (L.set k { m with nd := { m.nd with s := s', ks := m.nd.ks }, kv := kv2, dn := some y.r })[q]? = some mw from by rw [setm_ne (by omega)]; exact mw1)
      have hq0 : (0 : Int) ≤ q := by omega
      have hq1 : (q : Int) < L.length := by omega
      obtain ⟨gc, sq, hgv⟩ : ∃ gc sq, giveV mw.nd.s (lastS m.nd.t.p) y.r = (gc, sq) := ⟨_, _, rfl⟩
      have HGV := Lib.hid hgv
      rw [← mw2, hgv] at mq3
      simp only [] at mq3
      have HGC := Lib.hid mq3
      have HX := Lib.hid (show ∀ wz, Fw Z p ((L.set k { m with nd := { m.nd with s := s', ks := m.nd.ks }, kv := kv2, dn := some y.r }).set q { mw with nd := { mw.nd with s := sq, ks := mw.nd.ks }, kv := mw.kv }) (.slice (some ⟨g, 0, none⟩) L.length cap) wz → Below Z w wz → TurnP Z p L k n w (.returned (.tuple #[.slice (some ⟨g, 0, none⟩) L.length cap, .bool true])) wz from by
        intro wz hfw hbw
        refine ⟨_, _, rfl, ?_, hfw, ?_, hbw⟩
        · have hm1 : ((ndsN L).set k { m.nd with s := s' })[q]? = some mw.nd := by rw [set_ne (by omega)]; exact nds_at HQ.out
          rw [turnL_end (nds_at HM.out) HR.out HY.out HTL.out.1 hpar hm1, HGV.out, nds_set, nds_set]
        · refine (HD.out.set (x := { m with nd := { m.nd with s := s', ks := m.nd.ks }, kv := kv2, dn := some y.r }) HM.out (by show some y.r = s'.result; rw [HRN.out])).set HQ5.out ?_
          show mw.dn = sq.result
          rw [HD.out q mw HQ.out]
          have h1 : sq = (giveV mw.nd.s (lastS m.nd.t.p) y.r).2 := by rw [HGV.out]
          rw [h1]
          unfold giveV
          split
          · rfl
          · split
            · rfl
            · split <;> rfl)
      have HSZ := Lib.hid (show m.nd.t.p.size ≤ 9223372036854775807 from by have := (HF.out.nd k m.nd (nds_at HM.out)).1.sz; omega)
      have hpk := Lib.hid hpar
      clear hgv mq1 mq2 mq3 mw1 mw2 hpar
      go_upto_region 16 with fail
      refine wp_region_held_drew (S := fun wy => wy.ownsRow Z NodeT 9 (.slice (some ⟨g, 0, none⟩) L.length cap) L.length ((L.set k { m with nd := { m.nd with s := s', ks := m.nd.ks }, kv := kv2, dn := some y.r }).flatMap encNd) ∧ BoxAt wy sb #[.int .u8 y.k, .string y.kid.p, .int .i64 y.kid.fn, .slice va y.kid.args.length vc, .int .i64 y.kid.fuel, .int .i64 y.r.v, .int .i64 y.r.e] StopT) (by kernel_rfl) (⟨own_below HO5.out (Below.refl _ _).drew, BoxAt.below HT5.out (Below.refl _ _).drew⟩) (fun hHeld => ?_)
      refine wpAnyH_take (i := 0) (oi := _) (v := ?_) (by rw [List.getElem?_toArray]; exact rfl) (by kernel_rfl) (by kernel_rfl) (by kernel_rfl) (by exact fun _ _ _ h => h) (Or.inl ⟨by rfl, ?_⟩) hHeld ?_
      rotate_left
      · (intro wX hSw; clear hSw; go_simp; try with_reducible rfl)
      try simp only [Act.put, List.setIfInBounds_toArray, List.set_cons_zero, List.set_cons_succ]
      refine wpAnyH_take (i := 1) (oi := _) (v := ?_) (by rw [List.getElem?_toArray]; exact rfl) (by kernel_rfl) (by kernel_rfl) (by kernel_rfl) (by exact fun _ _ _ h => h) (Or.inl ⟨by rfl, ?_⟩) hHeld ?_
      rotate_left
      · (intro wX hSw; clear hSw; go_simp; try with_reducible rfl)
      try simp only [Act.put, List.setIfInBounds_toArray, List.set_cons_zero, List.set_cons_succ]
      refine wpAnyH_take (i := 2) (oi := _) (v := ?_) (by rw [List.getElem?_toArray]; exact rfl) (by kernel_rfl) (by kernel_rfl) (by kernel_rfl) (by exact fun _ _ _ h => h) (Or.inl ⟨by rfl, ?_⟩) hHeld ?_
      rotate_left
      · (intro wX hSw; clear hSw; go_simp; try with_reducible rfl)
      try simp only [Act.put, List.setIfInBounds_toArray, List.set_cons_zero, List.set_cons_succ]
      refine wpAnyH_take (i := 3) (oi := _) (v := ?_) (by rw [List.getElem?_toArray]; exact rfl) (by kernel_rfl) (by kernel_rfl) (by kernel_rfl) (by exact fun _ _ _ h => h) (Or.inl ⟨by rfl, ?_⟩) hHeld ?_
      rotate_left
      · (intro wX hSw; clear hSw; go_simp; try with_reducible rfl)
      try simp only [Act.put, List.setIfInBounds_toArray, List.set_cons_zero, List.set_cons_succ]
      refine wpAnyH_take (i := 4) (oi := _) (v := ?_) (by rw [List.getElem?_toArray]; exact rfl) (by kernel_rfl) (by kernel_rfl) (by kernel_rfl) (by exact fun _ _ _ h => h) (Or.inl ⟨by rfl, ?_⟩) hHeld ?_
      rotate_left
      · (intro wX hSw; clear hSw; go_simp; try with_reducible rfl)
      try simp only [Act.put, List.setIfInBounds_toArray, List.set_cons_zero, List.set_cons_succ]
      refine wpAnyH_take (i := 5) (oi := _) (v := ?_) (by rw [List.getElem?_toArray]; exact rfl) (by kernel_rfl) (by kernel_rfl) (by kernel_rfl) (by exact fun _ _ _ h => h) (Or.inl ⟨by rfl, ?_⟩) hHeld ?_
      rotate_left
      · (intro wX hSw; obtain ⟨k0, k1, _, _, _, _, _, _, k8⟩ := row_cells (k := k) hSw.1 hlen5.symm (setm_self HM.out); simp only [] at k1 k8; rw [hpk.out] at k8; simp only [parI] at k8; obtain ⟨p0, _, _, _, _, _, _, _, _⟩ := row_cells (k := q) hSw.1 hlen5.symm HQ5.out; have s5 := hSw.2.cell 5; have s6 := hSw.2.cell 6; simp only [List.getElem?_toArray, List.getElem?_cons_zero, List.getElem?_cons_succ] at s5 s6; clear hSw; go_simp; try with_reducible rfl)
      try simp only [Act.put, List.setIfInBounds_toArray, List.set_cons_zero, List.set_cons_succ]
      refine wpAnyH_take (i := 6) (oi := _) (v := ?_) (by rw [List.getElem?_toArray]; exact rfl) (by kernel_rfl) (by kernel_rfl) (by kernel_rfl) (by exact fun _ _ _ h => h) (Or.inl ⟨by rfl, ?_⟩) hHeld ?_
      rotate_left
      · (intro wX hSw; clear hSw; go_simp; try with_reducible rfl)
      try simp only [Act.put, List.setIfInBounds_toArray, List.set_cons_zero, List.set_cons_succ]
      refine wpAnyH_take (i := 7) (oi := _) (v := ?_) (by rw [List.getElem?_toArray]; exact rfl) (by kernel_rfl) (by kernel_rfl) (by kernel_rfl) (by exact fun _ _ _ h => h) (Or.inl ⟨by rfl, ?_⟩) hHeld ?_
      rotate_left
      · (intro wX hSw; clear hSw; go_simp; try with_reducible rfl)
      try simp only [Act.put, List.setIfInBounds_toArray, List.set_cons_zero, List.set_cons_succ]
      refine wpAnyH_take (i := 8) (oi := _) (v := ?_) (by rw [List.getElem?_toArray]; exact rfl) (by kernel_rfl) (by kernel_rfl) (by kernel_rfl) (by exact fun _ _ _ h => h) (Or.inl ⟨by rfl, ?_⟩) hHeld ?_
      rotate_left
      · (intro wX hSw; obtain ⟨k0, k1, _, _, _, _, _, _, k8⟩ := row_cells (k := k) hSw.1 hlen5.symm (setm_self HM.out); simp only [] at k1 k8; rw [hpk.out] at k8; simp only [parI] at k8; obtain ⟨p0, _, _, _, _, _, _, _, _⟩ := row_cells (k := q) hSw.1 hlen5.symm HQ5.out; have s5 := hSw.2.cell 5; have s6 := hSw.2.cell 6; simp only [List.getElem?_toArray, List.getElem?_cons_zero, List.getElem?_cons_succ] at s5 s6; clear hSw; go_simp; try with_reducible rfl)
      try simp only [Act.put, List.setIfInBounds_toArray, List.set_cons_zero, List.set_cons_succ]
      refine wpAnyH_take (i := 9) (oi := _) (v := ?_) (by rw [List.getElem?_toArray]; exact rfl) (by kernel_rfl) (by kernel_rfl) (by kernel_rfl) (by exact fun _ _ _ h => h) (Or.inl ⟨by rfl, ?_⟩) hHeld ?_
      rotate_left
      · (intro wX hSw; clear hSw; go_simp; try with_reducible rfl)
      try simp only [Act.put, List.setIfInBounds_toArray, List.set_cons_zero, List.set_cons_succ]
      refine wpAnyH_take (i := 10) (oi := _) (v := ?_) (by rw [List.getElem?_toArray]; exact rfl) (by kernel_rfl) (by kernel_rfl) (by kernel_rfl) (by exact fun _ _ _ h => h) (Or.inl ⟨by rfl, ?_⟩) hHeld ?_
      rotate_left
      · (intro wX hSw; clear hSw; go_simp; try with_reducible rfl)
      try simp only [Act.put, List.setIfInBounds_toArray, List.set_cons_zero, List.set_cons_succ]
      refine wpAnyH_take (i := 11) (oi := _) (v := ?_) (by rw [List.getElem?_toArray]; exact rfl) (by kernel_rfl) (by kernel_rfl) (by kernel_rfl) (by exact fun _ _ _ h => h) (Or.inl ⟨by rfl, ?_⟩) hHeld ?_
      rotate_left
      · (intro wX hSw; clear hSw; go_simp; try with_reducible rfl)
      try simp only [Act.put, List.setIfInBounds_toArray, List.set_cons_zero, List.set_cons_succ]
      refine wpAnyH_take (i := 12) (oi := _) (v := ?_) (by rw [List.getElem?_toArray]; exact rfl) (by kernel_rfl) (by kernel_rfl) (by kernel_rfl) (by exact fun _ _ _ h => h) (Or.inl ⟨by rfl, ?_⟩) hHeld ?_
      rotate_left
      · (intro wX hSw; clear hSw; go_simp; try with_reducible rfl)
      try simp only [Act.put, List.setIfInBounds_toArray, List.set_cons_zero, List.set_cons_succ]
      refine wpAnyH_take (i := 13) (oi := _) (v := ?_) (by rw [List.getElem?_toArray]; exact rfl) (by kernel_rfl) (by kernel_rfl) (by kernel_rfl) (by exact fun _ _ _ h => h) (Or.inl ⟨by rfl, ?_⟩) hHeld ?_
      rotate_left
      · (intro wX hSw; clear hSw; go_simp; try with_reducible rfl)
      try simp only [Act.put, List.setIfInBounds_toArray, List.set_cons_zero, List.set_cons_succ]
      refine wpAnyH_take (i := 14) (oi := _) (v := ?_) (by rw [List.getElem?_toArray]; exact rfl) (by kernel_rfl) (by kernel_rfl) (by kernel_rfl) (by exact fun _ _ _ h => h) (Or.inl ⟨by rfl, ?_⟩) hHeld ?_
      rotate_left
      · (intro wX hSw; obtain ⟨k0, k1, _, _, _, _, _, _, k8⟩ := row_cells (k := k) hSw.1 hlen5.symm (setm_self HM.out); simp only [] at k1 k8; rw [hpk.out] at k8; simp only [parI] at k8; obtain ⟨p0, _, _, _, _, _, _, _, _⟩ := row_cells (k := q) hSw.1 hlen5.symm HQ5.out; have s5 := hSw.2.cell 5; have s6 := hSw.2.cell 6; simp only [List.getElem?_toArray, List.getElem?_cons_zero, List.getElem?_cons_succ] at s5 s6; clear hSw; go_simp; try with_reducible rfl)
      try simp only [Act.put, List.setIfInBounds_toArray, List.set_cons_zero, List.set_cons_succ]
      refine wpAnyH_take (i := 16) (oi := _) (v := ?_) (by rw [List.getElem?_toArray]; exact rfl) (by kernel_rfl) (by kernel_rfl) (by kernel_rfl) (by exact fun _ _ _ h => h) (Or.inl ⟨by rfl, ?_⟩) hHeld ?_
      rotate_left
      · (intro wX hSw; clear hSw; go_simp; try with_reducible rfl)
      try simp only [Act.put, List.setIfInBounds_toArray, List.set_cons_zero, List.set_cons_succ]
      refine wpAnyH_take (i := 17) (oi := _) (v := ?_) (by rw [List.getElem?_toArray]; exact rfl) (by kernel_rfl) (by kernel_rfl) (by kernel_rfl) (by exact fun _ _ _ h => h) (Or.inl ⟨by rfl, ?_⟩) hHeld ?_
      rotate_left
      · (intro wX hSw; obtain ⟨k0, k1, _, _, _, _, _, _, k8⟩ := row_cells (k := k) hSw.1 hlen5.symm (setm_self HM.out); simp only [] at k1 k8; rw [hpk.out] at k8; simp only [parI] at k8; obtain ⟨p0, _, _, _, _, _, _, _, _⟩ := row_cells (k := q) hSw.1 hlen5.symm HQ5.out; have s5 := hSw.2.cell 5; have s6 := hSw.2.cell 6; simp only [List.getElem?_toArray, List.getElem?_cons_zero, List.getElem?_cons_succ] at s5 s6; clear hSw; go_simp; try with_reducible rfl)
      try simp only [Act.put, List.setIfInBounds_toArray, List.set_cons_zero, List.set_cons_succ]
      refine wpAnyH_ready (rs := [15]) (by kernel_rfl) (by simp) ?_
      refine AllReadyH.cons (o := _) (by rw [List.getElem?_toArray]; exact rfl) (fun K hK => ?_) AllReadyH.nil
      go_simp
      refine (last_any m.nd.t.p _ HSZ.out).mono ?_; rintro e w6 ⟨rfl, hB6⟩; have HB6 := Lib.hid hB6; have H6 := Lib.hid ((H5.out.below (Below.refl _ _).drew).below hB6); clear hB6
      go_wp2_with fail
      refine hK.out _ _ (⟨own_below (own_below HO5.out (Below.refl _ _).drew) HB6.out, BoxAt.below (BoxAt.below HT5.out (Below.refl _ _).drew) HB6.out⟩) (fun hHeld => ?_)
      clear hK K
      try simp only [Act.put, List.setIfInBounds_toArray, List.set_cons_zero, List.set_cons_succ]
      refine wpAnyH_ready (rs := [18]) (by kernel_rfl) (by simp) ?_
      refine AllReadyH.cons (o := _) (by rw [List.getElem?_toArray]; exact rfl) (fun K hK => ?_) AllReadyH.nil
      go_simp
      refine (frm_give (lastS m.nd.t.p) y.r (H6.out.frm q mw HQ5.out) HGV.out).mono ?_; rintro e w7 ⟨rfl, hf7, hl7⟩; have HF7 := Lib.hid (And.intro hf7 hl7); have HO7 := Lib.hid (own_typed (own_below (own_below HO5.out (Below.refl _ _).drew) HB6.out) hl7.fr (H6.out.frm q mw HQ5.out).typed (by decide)); have HT7 := Lib.hid (H6.out.box HQ5.out hl7 (BoxAt.below (BoxAt.below HT5.out (Below.refl _ _).drew) HB6.out) (by decide)); clear hf7 hl7
      go_wp2_with fail
      refine hK.out _ _ (⟨HO7.out, HT7.out⟩) (fun hHeld => ?_)
      clear hK K
      try simp only [Act.put, List.setIfInBounds_toArray, List.set_cons_zero, List.set_cons_succ]
      refine wpAnyH_take (i := 19) (oi := _) (v := ?_) (by rw [List.getElem?_toArray]; exact rfl) (by kernel_rfl) (by kernel_rfl) (by kernel_rfl) (by exact fun _ _ _ h => h) (Or.inl ⟨by rfl, ?_⟩) hHeld ?_
      rotate_left
      · (intro wX hSw; clear hSw; go_simp; try with_reducible rfl)
      try simp only [Act.put, List.setIfInBounds_toArray, List.set_cons_zero, List.set_cons_succ]
      refine wpAnyH_done (by kernel_rfl) ?_ _
      have HX7 := Lib.hid (HX.out _ (H6.out.run mw.nd.ks HQ5.out HF7.out.1 HF7.out.2) (by
        have hs5 : Z ≤ w5.heap.size := Nat.le_trans HZ.out.2 HL5.out.size
        have h1 : Below Z w5 w6 := ((Below.refl Z w5).drew).trans (HB6.out.mono hs5)
        exact (HL5.out.trans h1).trans (HF7.out.2.fr.below (H6.out.lowS HQ5.out) (Nat.le_trans hs5 h1.size))))
      clear HF7 HO7 HT7 H6
      rcases HGC.out with hgc | hgc
      · rw [hgc]
        clear hgc
        go_wp2_with fail
        go_ret2
        exact HX7.out
      · rw [hgc]
        clear hgc
        go_wp2_with fail
        go_ret2
        exact HX7.out
end Go.Proofs.YtdhbjejejeljoaaGreat
