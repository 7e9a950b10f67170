/- Contract: thresherlaw14.tree, where all are over. -/
import Derived.Test.YtdhbjejejeljoaaGreatVa2
import Derived.Test.YtdhbjejejeljoaaGreatSort14
import Derived.Test.YtdhbjejejeljoaaGreatEvT
namespace Go.Proofs.YtdhbjejejeljoaaGreat
open Go.RowKit Go.Sort Go.Lib

def pickW (L : List Nw) (q : ByteArray) : List Nw := L.filter fun m => decide (m.nd.t.p = q)
def dnW (m : Nw) : DnA := (dnN m.nd, m.aa, m.ac)
def encDw (m : Nw) : List Value := encDn (dnW m)
theorem encDw_len (m : Nw) : (encDw m).length = 7 := rfl
theorem pick_nds (L : List Nw) (q : ByteArray) : (pickW L q).map (fun m => dnN m.nd) = pickN (ndsN L) q := by
  unfold pickW pickN ndsN
  rw [List.filter_map, List.map_map]
  rfl
theorem pick_snoc {L : List Nw} {k : Nat} {m : Nw} (h : L[k]? = some m) (q : ByteArray) : pickW (L.take (k + 1)) q = pickW (L.take k) q ++ (if m.nd.t.p = q then [m] else []) := by
  unfold pickW
  rw [List.take_add_one, h, List.filter_append]
  congr 1
  by_cases e : m.nd.t.p = q
  · rw [if_pos e]; simp [e]
  · rw [if_neg e]; simp [e]
theorem pick_len (L : List Nw) (q : ByteArray) : (pickW L q).length ≤ L.length := List.length_filter_le _ _
theorem picks_len (L : List Nw) : ∀ S : List ByteArray, (S.flatMap (pickW L)).length ≤ S.length * L.length
  | [] => by simp
  | q :: S => by
    rw [List.flatMap_cons, List.length_append, List.length_cons, Nat.succ_mul]
    have h1 := pick_len L q
    have h2 := picks_len L S
    omega
theorem picks_mem {L : List Nw} {S : List ByteArray} {m : Nw} (h : m ∈ S.flatMap (pickW L)) : m ∈ L := by
  obtain ⟨q, _, h⟩ := List.mem_flatMap.1 h
  exact (List.mem_filter.1 h).1
theorem ownS_reads {w : World} {B : Nat} {E : TypeId} {v : Value} {ss : List ByteArray} (h : w.ownsRow B E 1 v ss.length (ss.map .string)) : ReadsS w v ss := by
  have h1 := own_readsV h
  by_cases hn : ss = []
  · subst hn
    rcases h1 with ⟨_, a, cap, rfl⟩ | ⟨b, off, cap, rfl, _⟩
    · cases a with
      | none =>
        obtain ⟨_, ⟨hv, _⟩ | ⟨g, cap', cur, hv, _⟩⟩ := h
        · exact .inl ⟨rfl, .inl hv⟩
        · cases hv
      | some a => exact .inl ⟨rfl, .inr ⟨a, cap, rfl⟩⟩
    · exact .inl ⟨rfl, .inr ⟨_, cap, rfl⟩⟩
  · obtain ⟨b, off, cap, hv, hb, hc⟩ := h1.at (List.length_pos_iff.2 hn)
    refine .inr ⟨b, off, cap, hv, hb, fun j hj => ?_⟩
    have := hc j hj 0 _ rfl
    simpa using this
theorem one_dw (w : World) (m : Nw) : ∀ j u, (encDw m)[j]? = some u → (w.alloc (.cells #[.string m.nd.t.p, .int .i64 m.nd.t.fn, .slice m.aa m.nd.t.args.length m.ac, .int .i64 m.nd.t.fuel, .int .i64 (m.nd.s.result.getD ⟨0, 0⟩).v, .int .i64 (m.nd.s.result.getD ⟨0, 0⟩).e, .int .i64 m.nd.s.kids.length] DoneT)).cell? ((⟨w.heap.size, 0, none⟩ : Addr).add j) = some u := by
  intro j u hj
  match j with
  | 0 => simp [encDw, encDn, dnW, dnN] at hj; subst hj; simp [go_sem, Addr.add]
  | 1 => simp [encDw, encDn, dnW, dnN] at hj; subst hj; simp [go_sem, Addr.add]
  | 2 => simp [encDw, encDn, dnW, dnN] at hj; subst hj; simp [go_sem, Addr.add]
  | 3 => simp [encDw, encDn, dnW, dnN] at hj; subst hj; simp [go_sem, Addr.add]
  | 4 => simp [encDw, encDn, dnW, dnN] at hj; subst hj; simp [go_sem, Addr.add]
  | 5 => simp [encDw, encDn, dnW, dnN] at hj; subst hj; simp [go_sem, Addr.add]
  | 6 => simp [encDw, encDn, dnW, dnN] at hj; subst hj; simp [go_sem, Addr.add]
  | j + 7 => simp [encDw, encDn, dnW, dnN] at hj
theorem one_str (w : World) (s : ByteArray) : ∀ j u, ([Value.string s])[j]? = some u → (w.alloc (.cells #[.string s] 9)).cell? ((⟨w.heap.size, 0, none⟩ : Addr).add j) = some u := by
  intro j u hj
  match j with
  | 0 => simp at hj; subst hj; simp [go_sem, Addr.add]
  | j + 1 => simp at hj
set_option maxHeartbeats 12800000 in
set_option maxRecDepth 100000 in
theorem vtree_any {Z : Nat} {av : Value} {p : List Fnc} {L : List Nw} {w : World} (h : Fw Z p L av w) (hdn : Says L) (hov : Over (ndsN L)) (hl0 : 0 < L.length) (hl : L.length ≤ 401) :
    Calls Tryz.prog 10 #[av] w fun e w' => ∃ v, e = .returned (.tuple #[v, .bool true]) ∧ TreeR w' v ((sortS (L.map fun m => m.nd.t.p)).flatMap (pickN (ndsN L))) ∧ Below w.heap.size w w' := by
  obtain ⟨g, cap, cur, hv, _, _, _, _, _, _, _⟩ := own_blockK h.own (by omega)
  subst hv
  obtain ⟨is, his, hs0, hs1, hs2⟩ := info_parts info_str
  obtain ⟨PS, hPS⟩ : ∃ PS, L.map (fun m => m.nd.t.p) = PS := ⟨_, rfl⟩
  have HPL := Lib.hid (show PS.length = L.length from by rw [← hPS]; simp)
  have HPS := Lib.hid (show ∀ (i : Nat) (m : Nw), L[i]? = some m → PS[i]? = some m.nd.t.p from fun i m hm => by rw [← hPS, List.getElem?_map, hm]; rfl)
  have H := Lib.hid h
  have HD := Lib.hid (show ∀ (i : Nat) (m : Nw), L[i]? = some m → m.dn = m.nd.s.result ∧ m.nd.s.result.isSome = true from fun i m hm => ⟨hdn i m hm, by rw [Option.isSome_iff_ne_none]; exact hov i m.nd (nds_at hm)⟩)
  rw [hPS]
  clear h hdn hov hPS
  go_enter Tryz.func10, Tryz.ntmps10
  go_wp2_with fail
  go_loopg [4, 5] L.length (fun gk t4 t5 wr => ∃ (k : Nat) (v : Value), gk + k = L.length ∧ v = t4 ∧ t5 = .int .i64 k ∧ Hid (Took w.heap.size 9 PS w k v wr))
  case atStart => exact ⟨0, _, by omega, rfl, rfl, World.ownsRow_nil _ _ _ _, Below.refl _ _⟩
  case round =>
    obtain ⟨k, v4, hgk, rfl, rfl, HR⟩ := hrel
    obtain ⟨a4, c4, hs4⟩ := own_slice HR.out.1
    subst hs4
    by_cases hk : k < L.length
    · have hk1 : (k : Int) < L.length := by omega
      have hk0 : (0 : Int) ≤ k := by omega
      obtain ⟨m, hm⟩ : ∃ m, L[k]? = some m := ⟨L[k], List.getElem?_eq_getElem hk⟩
      obtain ⟨d1, d2⟩ := HD.out k m hm
      obtain ⟨_, z1, _, _, _, z5, _, _, _⟩ := row_cells (own_below H.out.own HR.out.2) rfl hm
      rw [d1, d2] at z5
      have hpk : k < PS.length := by have := HPL.out; omega
      have hpe : PS[k] = m.nd.t.p := by
        have h1 := HPS.out k m hm
        rw [List.getElem?_eq_getElem hpk] at h1
        injection h1
      have hT := HR.out
      have hown := hT.1
      have HT := Lib.hid hT
      have HPE := Lib.hid hpe
      obtain ⟨v', w1, hap, hown', hgrow, _⟩ := run_append_own (P := Tryz.prog) (w := wr.alloc (.cells #[.string m.nd.t.p] 9)) w.heap.size 87 87 9 is (.string ⟨#[]⟩) 1 16 Tryz.underlying87 his hs0 hs1 hs2 rfl (by decide) (.slice a4 k c4) k ((PS.map .string).take k) (own_below hown (alV _ _)) ⟨wr.heap.size, 0, none⟩ 1 1 [.string m.nd.t.p] rfl (one_str _ _) (by intro v hv; simp at hv; subst hv; rfl) (by unfold maxLen; omega) (by omega) (by have := HT.out.2.size; simp; omega)
      have hT2 := Lib.hid (HT.out.next (Nat.le_refl _) hpk (by rw [HPE.out]; exact hown') hgrow)
      clear d1 d2 hT HR hpe hown hown' hgrow HT
      go_wp2_with (at_builtin; refine wpList_arunC rfl _ _ _ _ rfl rfl rfl hap ?_)
      go_roundg (gk - 1)
      case rel => exact ⟨k + 1, _, by omega, rfl, by go_num, hT2.out⟩
      case measure => omega
    have hk1 : ¬ (k : Int) < L.length := by omega
    obtain rfl : k = PS.length := by have := HPL.out; omega
    have HT := Lib.hid (show wr.ownsRow w.heap.size 9 1 (.slice a4 PS.length c4) PS.length (PS.map .string) ∧ Below w.heap.size w wr from ⟨by
      have h1 := HR.out.1
      rw [List.take_of_length_le (by simp)] at h1
      exact h1, HR.out.2⟩)
    clear HR hk his hs0 hs1 hs2 is
    go_wp2_with fail
    refine (sort_any _ PS _ (ownS_reads HT.out.1) (by have := HPL.out; omega)).mono ?_
    rintro e w2 ⟨v2, rfl, ho2, hB2⟩
    obtain ⟨a2, c2, hs2⟩ := own_slice ho2
    subst hs2
    have hsl : (sortS PS).length = PS.length := (sortS_perm PS).length_eq
    obtain ⟨SP, hSP⟩ : ∃ SP, sortS PS = SP := ⟨_, rfl⟩
    rw [hSP] at ho2 hsl ⊢
    obtain ⟨N2, hN2⟩ : ∃ n, SP.length = n := ⟨_, rfl⟩
    have hs2 := own_readsV ho2
    rw [hN2] at hs2 ⊢
    have HS2 := Lib.hid hs2
    have HB2 := Lib.hid (gthen HT.out.2 hB2)
    have HSL := Lib.hid (And.intro hN2 hSP)
    have HN2 := Lib.hid (show N2 = L.length from by have := HPL.out; omega)
    have hN401 : N2 ≤ 401 := by have := HPL.out; omega
    clear ho2 hs2 hN2 hB2 HT hSP hsl hk1
    obtain ⟨wz, rfl⟩ : ∃ wx, wx = wr := ⟨_, rfl⟩
    go_wp2_with fail
    go_loopg [6, 7] N2 (fun gk t6 t7 wr => ∃ (i : Nat) (v : Value) (M : List Nw), gk + i = N2 ∧ v = t6 ∧ t7 = .int .i64 i ∧ Hid (M = (SP.take i).flatMap (pickW L) ∧ wr.ownsRow w2.heap.size DoneT 7 v M.length (M.flatMap encDw) ∧ Below w2.heap.size w2 wr))
    case atStart => exact ⟨0, _, [], by omega, rfl, rfl, by simp, World.ownsRow_nil _ _ _ _, Below.refl _ _⟩
    case round =>
      obtain ⟨i, v6, M, hgi, rfl, rfl, HR⟩ := hrel
      obtain ⟨a6, c6, hs6⟩ := own_slice HR.out.2.1
      subst hs6
      by_cases hi : i < N2
      case neg =>
        have hi1 : ¬ (i : Int) < N2 := by omega
        have HX := Lib.hid (show TreeR wr (.slice a6 M.length c6) ((sortS PS).flatMap (pickN (ndsN L))) ∧ Below w.heap.size w wr from by
          refine ⟨⟨M.map dnW, ?_, ?_, ?_⟩, gthen HB2.out HR.out.2.2⟩
          · rw [HR.out.1, HSL.out.2, List.take_of_length_le (by have := HSL.out.1; omega), List.map_map]
            have h1 : ∀ S : List ByteArray, (S.flatMap (pickW L)).map ((·.1) ∘ dnW) = S.flatMap (pickN (ndsN L)) := by
              intro S
              induction S with
              | nil => rfl
              | cons q S ih =>
                rw [List.flatMap_cons, List.map_append, ih, List.flatMap_cons]
                congr 1
                exact pick_nds L q
            exact h1 SP
          · have h1 := own_readsK (enc := encDn) (k := 7) (l := M.map dnW) (v := .slice a6 M.length c6) (w := wr) (B := w2.heap.size) (E := DoneT) encDn_len (by decide) (by
              rw [List.length_map, List.flatMap_map]; exact HR.out.2.1)
            exact h1
          · intro d hd
            obtain ⟨m, hm, rfl⟩ := List.mem_map.1 hd
            rw [HR.out.1] at hm
            obtain ⟨j, hj⟩ := List.getElem?_of_mem (picks_mem hm)
            exact (own_readsK (enc := encN1) (k := 1) (fun _ => rfl) (by decide) (H.out.arg j m hj).1).below (gthen HB2.out HR.out.2.2))
        clear HR hi
        go_wp2_with fail
        go_ret2
        exact ⟨_, rfl, HX.out.1, HX.out.2⟩
      have hi1 : (i : Int) < N2 := by omega
      have hi0 : (0 : Int) ≤ i := by omega
      have his : i < SP.length := by have := HSL.out.1; omega
      obtain ⟨q, hq⟩ : ∃ q, SP[i] = q := ⟨_, rfl⟩
      obtain ⟨b9, off9, cap9, he9, hb9, hc9⟩ := HS2.out.at (by omega)
      injection he9 with he9 hnn hcc
      subst he9; subst hcc
      clear hnn
      have HQ := Lib.hid (show ∀ wy, Below w2.heap.size w2 wy → wy.cell? ⟨b9, off9 + i, none⟩ = some (.string q) from fun wy hB => by
        rw [← hq]
        have h1 := hc9 i his 0 _ rfl
        rw [Nat.mul_one, Nat.add_zero] at h1
        exact (hB.cell (p := ⟨b9, off9 + i, none⟩) hb9).trans h1)
      have HQS := Lib.hid (show SP.take (i + 1) = SP.take i ++ [q] from by rw [List.take_succ_eq_append_getElem his, hq])
      have HI := Lib.hid hi
      clear hc9 hb9 hq hi his
      obtain ⟨go0, rfl⟩ : ∃ t, t = gk := ⟨_, rfl⟩
      obtain ⟨wz2, rfl⟩ : ∃ wx, wx = wr := ⟨_, rfl⟩
      go_wp2_with fail
      go_loopg [6, 8] L.length (fun gj t6 t8 wr => ∃ (k : Nat) (v : Value) (M : List Nw), gj + k = L.length ∧ v = t6 ∧ t8 = .int .i64 k ∧ Hid (M = (SP.take i).flatMap (pickW L) ++ pickW (L.take k) q ∧ wr.ownsRow w2.heap.size DoneT 7 v M.length (M.flatMap encDw) ∧ Below w2.heap.size w2 wr))
      case atStart => exact ⟨0, _, M, by omega, rfl, rfl, by rw [HR.out.1]; simp [pickW], HR.out.2.1, HR.out.2.2⟩
      case round =>
        clear HR
        obtain ⟨k, v6, M, hgk, rfl, rfl, HR⟩ := hrel
        obtain ⟨a6, c6, hs6⟩ := own_slice HR.out.2.1
        subst hs6
        by_cases hk : k < L.length
        case neg =>
          have hk1 : ¬ (k : Int) < L.length := by omega
          have HN := Lib.hid (show M = (SP.take (i + 1)).flatMap (pickW L) from by
            rw [HR.out.1, HQS.out, List.flatMap_append, List.take_of_length_le (l := L) (by omega)]; simp)
          go_wp2_with fail
          go_roundg (go0 - 1)
          case rel => exact ⟨i + 1, _, M, by omega, rfl, by go_num, HN.out, HR.out.2⟩
          case measure => omega
        have hk1 : (k : Int) < L.length := by omega
        have hk0 : (0 : Int) ≤ k := by omega
        obtain ⟨m, hm⟩ : ∃ m, L[k]? = some m := ⟨L[k], List.getElem?_eq_getElem hk⟩
        have HM := Lib.hid hm
        have HML := Lib.hid (show M.length ≤ 170000 from by
          rw [HR.out.1, List.length_append]
          have h1 := picks_len L (SP.take i)
          have h2 := pick_len (L.take k) q
          have h3 : (SP.take i).length ≤ 401 := by rw [List.length_take]; have := HSL.out.1; omega
          have h4 : (L.take k).length ≤ 401 := by rw [List.length_take]; omega
          have h5 : (SP.take i).length * L.length ≤ 401 * 401 := Nat.mul_le_mul h3 (by omega)
          omega)
        obtain ⟨_, z1, _, _, _, _, _, _, _⟩ := row_cells (own_below H.out.own (gthen HB2.out HR.out.2.2)) rfl hm
        have s9 := HQ.out _ HR.out.2.2
        clear hm
        by_cases he : m.nd.t.p = q
        · have HE := Lib.hid he
          rw [he] at z1
          clear he
          go_upto_region 16 with fail
          go_quiet (fail)
          have HW3 := Lib.hid (show Below w2.heap.size w2 (wr.drewN nq) from below_drewN HR.out.2.2 nq)
          have HO3 := Lib.hid (own_below HR.out.2.1 (below_drewN (Below.refl _ wr) nq))
          have HMM := Lib.hid HR.out.1
          clear z1 s9 HR
          generalize wr.drewN nq = w3 at *
          obtain ⟨d1, d2⟩ := HD.out k m HM.out
          have HDN := Lib.hid d1
          obtain ⟨ig, hig, hg0, hg1, hg2⟩ := info_parts info_done
          obtain ⟨v', w6, hap, hown6, hgrow, _⟩ := run_append_own (P := Tryz.prog) (w := w3.drew.alloc (.cells #[.string m.nd.t.p, .int .i64 m.nd.t.fn, .slice m.aa m.nd.t.args.length m.ac, .int .i64 m.nd.t.fuel, .int .i64 (m.nd.s.result.getD ⟨0, 0⟩).v, .int .i64 (m.nd.s.result.getD ⟨0, 0⟩).e, .int .i64 m.nd.s.kids.length] DoneT)) w2.heap.size 29 29 DoneT ig _ 7 80 Tryz.underlying29 hig hg0 hg1 hg2 rfl (by decide) (.slice a6 M.length c6) M.length (M.flatMap encDw) (own_below HO3.out ((Below.refl _ _).drew.alloc (Nat.le_refl _) _)) ⟨w3.heap.size, 0, none⟩ 1 1 (encDw m) rfl (one_dw w3.drew m) (by intro v hv; simp [encDw, encDn, dnW, dnN] at hv; rcases hv with rfl | rfl | rfl | rfl | rfl | rfl | rfl <;> rfl) (by have := HML.out; unfold maxLen; omega) (by have := HML.out; omega) (by have := HW3.out.size; simp; omega)
          have hF6 : Fr (fun i => (Value.slice a6 M.length c6).ownBlock = some i) w3 w6 := grow_fr' ((Below.refl _ _).drew.alloc (Nat.le_refl _) _) hgrow
          have HN := Lib.hid (show (M ++ [m] = (SP.take i).flatMap (pickW L) ++ pickW (L.take (k + 1)) q ∧ w6.ownsRow w2.heap.size DoneT 7 v' (M ++ [m]).length ((M ++ [m]).flatMap encDw) ∧ Below w2.heap.size w2 w6) from by
            refine ⟨?_, ?_, ?_⟩
            · rw [HMM.out, pick_snoc HM.out, if_pos HE.out, List.append_assoc]
            · rw [List.length_append, List.flatMap_append]
              simpa using hown6
            · exact HW3.out.trans (hF6.below (fun i hi => (HO3.out.lt i hi).1) HW3.out.size))
          clear hgrow hown6 hF6 ig hig hg0 hg1 hg2 d1 d2
          obtain ⟨v7, hv7⟩ : ∃ v, v = v' := ⟨_, rfl⟩
          clear hv7 v7
          go_upto_region 17 with fail
          refine wp_region_held_drew (S := fun wy => Below w2.heap.size w2 wy) (by kernel_rfl) (HW3.out.drew) (fun hHeld => ?_)
          refine wpAnyH_take (i := 0) (oi := _) (v := ?_) (by rw [List.getElem?_toArray]; exact rfl) (by kernel_rfl) (by kernel_rfl) (by kernel_rfl) (by exact fun _ _ _ h => h) (Or.inl ⟨by rfl, ?_⟩) hHeld ?_
          rotate_left
          · (intro wX hSw; clear hSw; go_simp; try with_reducible rfl)
          try simp only [Act.put, List.setIfInBounds_toArray, List.set_cons_zero, List.set_cons_succ]
          refine wpAnyH_take (i := 1) (oi := _) (v := ?_) (by rw [List.getElem?_toArray]; exact rfl) (by kernel_rfl) (by kernel_rfl) (by kernel_rfl) (by exact fun _ _ _ h => h) (Or.inl ⟨by rfl, ?_⟩) hHeld ?_
          rotate_left
          · (intro wX hSw; clear hSw; go_simp; try with_reducible rfl)
          try simp only [Act.put, List.setIfInBounds_toArray, List.set_cons_zero, List.set_cons_succ]
          refine wpAnyH_take (i := 2) (oi := _) (v := ?_) (by rw [List.getElem?_toArray]; exact rfl) (by kernel_rfl) (by kernel_rfl) (by kernel_rfl) (by exact fun _ _ _ h => h) (Or.inl ⟨by rfl, ?_⟩) hHeld ?_
          rotate_left
          · (intro wX hSw; clear hSw; go_simp; try with_reducible rfl)
          try simp only [Act.put, List.setIfInBounds_toArray, List.set_cons_zero, List.set_cons_succ]
          refine wpAnyH_take (i := 3) (oi := _) (v := ?_) (by rw [List.getElem?_toArray]; exact rfl) (by kernel_rfl) (by kernel_rfl) (by kernel_rfl) (by exact fun _ _ _ h => h) (Or.inl ⟨by rfl, ?_⟩) hHeld ?_
          rotate_left
          · (intro wX hSw; clear hSw; go_simp; try with_reducible rfl)
          try simp only [Act.put, List.setIfInBounds_toArray, List.set_cons_zero, List.set_cons_succ]
          refine wpAnyH_take (i := 4) (oi := _) (v := ?_) (by rw [List.getElem?_toArray]; exact rfl) (by kernel_rfl) (by kernel_rfl) (by kernel_rfl) (by exact fun _ _ _ h => h) (Or.inl ⟨by rfl, ?_⟩) hHeld ?_
          rotate_left
          · (intro wX hSw; clear hSw; go_simp; try with_reducible rfl)
          try simp only [Act.put, List.setIfInBounds_toArray, List.set_cons_zero, List.set_cons_succ]
          refine wpAnyH_take (i := 5) (oi := _) (v := ?_) (by rw [List.getElem?_toArray]; exact rfl) (by kernel_rfl) (by kernel_rfl) (by kernel_rfl) (by exact fun _ _ _ h => h) (Or.inl ⟨by rfl, ?_⟩) hHeld ?_
          rotate_left
          · (intro wX hSw; obtain ⟨z0, z1, z2, z3, z4, _, z6, z7, _⟩ := row_cells (own_below H.out.own (gthen HB2.out hSw)) rfl HM.out; rw [HDN.out] at z6 z7; clear hSw; go_simp; try with_reducible rfl)
          try simp only [Act.put, List.setIfInBounds_toArray, List.set_cons_zero, List.set_cons_succ]
          refine wpAnyH_take (i := 6) (oi := _) (v := ?_) (by rw [List.getElem?_toArray]; exact rfl) (by kernel_rfl) (by kernel_rfl) (by kernel_rfl) (by exact fun _ _ _ h => h) (Or.inl ⟨by rfl, ?_⟩) hHeld ?_
          rotate_left
          · (intro wX hSw; clear hSw; go_simp; try with_reducible rfl)
          try simp only [Act.put, List.setIfInBounds_toArray, List.set_cons_zero, List.set_cons_succ]
          refine wpAnyH_take (i := 7) (oi := _) (v := ?_) (by rw [List.getElem?_toArray]; exact rfl) (by kernel_rfl) (by kernel_rfl) (by kernel_rfl) (by exact fun _ _ _ h => h) (Or.inl ⟨by rfl, ?_⟩) hHeld ?_
          rotate_left
          · (intro wX hSw; clear hSw; go_simp; try with_reducible rfl)
          try simp only [Act.put, List.setIfInBounds_toArray, List.set_cons_zero, List.set_cons_succ]
          refine wpAnyH_take (i := 8) (oi := _) (v := ?_) (by rw [List.getElem?_toArray]; exact rfl) (by kernel_rfl) (by kernel_rfl) (by kernel_rfl) (by exact fun _ _ _ h => h) (Or.inl ⟨by rfl, ?_⟩) hHeld ?_
          rotate_left
          · (intro wX hSw; clear hSw; go_simp; try with_reducible rfl)
          try simp only [Act.put, List.setIfInBounds_toArray, List.set_cons_zero, List.set_cons_succ]
          refine wpAnyH_take (i := 9) (oi := _) (v := ?_) (by rw [List.getElem?_toArray]; exact rfl) (by kernel_rfl) (by kernel_rfl) (by kernel_rfl) (by exact fun _ _ _ h => h) (Or.inl ⟨by rfl, ?_⟩) hHeld ?_
          rotate_left
          · (intro wX hSw; clear hSw; go_simp; try with_reducible rfl)
          try simp only [Act.put, List.setIfInBounds_toArray, List.set_cons_zero, List.set_cons_succ]
          refine wpAnyH_take (i := 10) (oi := _) (v := ?_) (by rw [List.getElem?_toArray]; exact rfl) (by kernel_rfl) (by kernel_rfl) (by kernel_rfl) (by exact fun _ _ _ h => h) (Or.inl ⟨by rfl, ?_⟩) hHeld ?_
          rotate_left
          · (intro wX hSw; obtain ⟨z0, z1, z2, z3, z4, _, z6, z7, _⟩ := row_cells (own_below H.out.own (gthen HB2.out hSw)) rfl HM.out; rw [HDN.out] at z6 z7; clear hSw; go_simp; try with_reducible rfl)
          try simp only [Act.put, List.setIfInBounds_toArray, List.set_cons_zero, List.set_cons_succ]
          refine wpAnyH_take (i := 11) (oi := _) (v := ?_) (by rw [List.getElem?_toArray]; exact rfl) (by kernel_rfl) (by kernel_rfl) (by kernel_rfl) (by exact fun _ _ _ h => h) (Or.inl ⟨by rfl, ?_⟩) hHeld ?_
          rotate_left
          · (intro wX hSw; clear hSw; go_simp; try with_reducible rfl)
          try simp only [Act.put, List.setIfInBounds_toArray, List.set_cons_zero, List.set_cons_succ]
          refine wpAnyH_take (i := 12) (oi := _) (v := ?_) (by rw [List.getElem?_toArray]; exact rfl) (by kernel_rfl) (by kernel_rfl) (by kernel_rfl) (by exact fun _ _ _ h => h) (Or.inl ⟨by rfl, ?_⟩) hHeld ?_
          rotate_left
          · (intro wX hSw; clear hSw; go_simp; try with_reducible rfl)
          try simp only [Act.put, List.setIfInBounds_toArray, List.set_cons_zero, List.set_cons_succ]
          refine wpAnyH_take (i := 13) (oi := _) (v := ?_) (by rw [List.getElem?_toArray]; exact rfl) (by kernel_rfl) (by kernel_rfl) (by kernel_rfl) (by exact fun _ _ _ h => h) (Or.inl ⟨by rfl, ?_⟩) hHeld ?_
          rotate_left
          · (intro wX hSw; clear hSw; go_simp; try with_reducible rfl)
          try simp only [Act.put, List.setIfInBounds_toArray, List.set_cons_zero, List.set_cons_succ]
          refine wpAnyH_take (i := 14) (oi := _) (v := ?_) (by rw [List.getElem?_toArray]; exact rfl) (by kernel_rfl) (by kernel_rfl) (by kernel_rfl) (by exact fun _ _ _ h => h) (Or.inl ⟨by rfl, ?_⟩) hHeld ?_
          rotate_left
          · (intro wX hSw; clear hSw; go_simp; try with_reducible rfl)
          try simp only [Act.put, List.setIfInBounds_toArray, List.set_cons_zero, List.set_cons_succ]
          refine wpAnyH_take (i := 15) (oi := _) (v := ?_) (by rw [List.getElem?_toArray]; exact rfl) (by kernel_rfl) (by kernel_rfl) (by kernel_rfl) (by exact fun _ _ _ h => h) (Or.inl ⟨by rfl, ?_⟩) hHeld ?_
          rotate_left
          · (intro wX hSw; obtain ⟨z0, z1, z2, z3, z4, _, z6, z7, _⟩ := row_cells (own_below H.out.own (gthen HB2.out hSw)) rfl HM.out; rw [HDN.out] at z6 z7; clear hSw; go_simp; try with_reducible rfl)
          try simp only [Act.put, List.setIfInBounds_toArray, List.set_cons_zero, List.set_cons_succ]
          refine wpAnyH_ready (rs := [16]) (by kernel_rfl) (by simp) ?_
          refine AllReadyH.cons (o := _) (by rw [List.getElem?_toArray]; exact rfl) (fun K hK => ?_) AllReadyH.nil
          go_simp
          refine (frm_kids ((H.out.frm k m HM.out).below (gthen HB2.out HW3.out.drew))).mono ?_; rintro e w5 ⟨rfl, rfl⟩
          go_wp2_with fail
          refine hK.out _ _ (hHeld) (fun hHeld => ?_)
          clear hK K
          try simp only [Act.put, List.setIfInBounds_toArray, List.set_cons_zero, List.set_cons_succ]
          refine wpAnyH_take (i := 17) (oi := _) (v := ?_) (by rw [List.getElem?_toArray]; exact rfl) (by kernel_rfl) (by kernel_rfl) (by kernel_rfl) (by exact fun _ _ _ h => h) (Or.inl ⟨by rfl, ?_⟩) hHeld ?_
          rotate_left
          · (intro wX hSw; clear hSw; go_simp; try with_reducible rfl)
          try simp only [Act.put, List.setIfInBounds_toArray, List.set_cons_zero, List.set_cons_succ]
          refine wpAnyH_ready (rs := [18]) (by kernel_rfl) (by simp) ?_
          refine AllReadyH.cons (o := _) (by rw [List.getElem?_toArray]; exact rfl) (fun K hK => ?_) AllReadyH.nil
          go_simp
          refine hK.out _ _ (hHeld.alloc hHeld.size _) (fun hHeld => ?_)
          clear hK K
          try simp only [Act.put, List.setIfInBounds_toArray, List.set_cons_zero, List.set_cons_succ]
          refine wpAnyH_ready (rs := [19]) (by kernel_rfl) (by simp) ?_
          refine AllReadyH.cons (o := _) (by rw [List.getElem?_toArray]; exact rfl) (fun K hK => ?_) AllReadyH.nil
          refine step_append_run rfl _ _ _ _ rfl _ _ (by simp [Act.eval, Act.put]) (by simp [Act.eval, Act.put]) hap ?_
          refine hK.out _ _ (HN.out.2.2) (fun hHeld => ?_)
          clear hK K
          try simp only [Act.put, List.setIfInBounds_toArray, List.set_cons_zero, List.set_cons_succ]
          refine wpAnyH_take (i := 20) (oi := _) (v := ?_) (by rw [List.getElem?_toArray]; exact rfl) (by kernel_rfl) (by kernel_rfl) (by kernel_rfl) (by exact fun _ _ _ h => h) (Or.inl ⟨by rfl, ?_⟩) hHeld ?_
          rotate_left
          · (intro wX hSw; clear hSw; go_simp; try with_reducible rfl)
          try simp only [Act.put, List.setIfInBounds_toArray, List.set_cons_zero, List.set_cons_succ]
          refine wpAnyH_done (by kernel_rfl) ?_ _
          go_wp2_with fail
          go_roundg (gk - 1)
          case rel => exact ⟨k + 1, _, M ++ [m], by omega, rfl, by go_num, HN.out⟩
          case measure => omega
        · have hb : (m.nd.t.p.toList == q.toList) = false := by
            rw [beq_eq_false_iff_ne]
            intro e
            rw [Lib.toList_data, Lib.toList_data] at e
            exact he (ba_eq e)
          have HN := Lib.hid (show M = (SP.take i).flatMap (pickW L) ++ pickW (L.take (k + 1)) q from by
            rw [pick_snoc HM.out, if_neg he, List.append_nil]; exact HR.out.1)
          clear he
          go_upto_region 16 with fail
          go_quiet (fail)
          have HW3 := Lib.hid (show Below w2.heap.size w2 (wr.drewN nq) from below_drewN HR.out.2.2 nq)
          have HO3 := Lib.hid (own_below HR.out.2.1 (below_drewN (Below.refl _ wr) nq))
          clear z1 s9 HR
          generalize wr.drewN nq = w3 at *
          go_wp2_with fail
          go_roundg (gk - 1)
          case rel => exact ⟨k + 1, _, M, by omega, rfl, by go_num, HN.out, HO3.out, HW3.out⟩
          case measure => omega
end Go.Proofs.YtdhbjejejeljoaaGreat
