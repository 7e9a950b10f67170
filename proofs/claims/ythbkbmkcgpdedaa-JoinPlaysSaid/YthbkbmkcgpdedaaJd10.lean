/- The document's table: Drop. -/
import Derived.Test.YthbkbmkcgpdedaaJd9
namespace Go.Proofs.Ythbkbmkcgpdedaa
open Go.RowKit Go.Sort Go.Lib

def dropF (l : List Rl) (root : Nm) : List Rl := l.filter fun p => !badN root p.1
theorem dropF_take {l : List Rl} {k : Nat} {root : Nm} (hk : k < l.length) : dropF (l.take (k + 1)) root = dropF (l.take k) root ++ (if badN root l[k].1 = true then [] else [l[k]]) := by
  unfold dropF
  rw [List.take_succ_eq_append_getElem hk, List.filter_append]
  congr 1
  by_cases h : badN root l[k].1 = true <;> simp [h]
def decR (n : Nm) (p : Rl) : Rl := if p.1 = n then (p.1, { p.2 with op := p.2.op - 1 }) else p
def decL (l : List Rl) (n : Nm) : List Rl := l.map (decR n)
/-- The first k are done. -/
def decK (l : List Rl) (n : Nm) (k : Nat) : List Rl := (l.take k).map (decR n) ++ l.drop k
theorem decK_len (l : List Rl) (n : Nm) (k : Nat) : (decK l n k).length = l.length := by
  unfold decK
  rw [List.length_append, List.length_map, ← List.length_append, List.take_append_drop]
theorem decK_zero (l : List Rl) (n : Nm) : decK l n 0 = l := by unfold decK; simp
theorem decK_all (l : List Rl) (n : Nm) : decK l n l.length = decL l n := by unfold decK decL; simp
theorem decK_get {l : List Rl} {n : Nm} {k : Nat} (hk : k < l.length) (h2 : k < (decK l n k).length) : (decK l n k)[k] = l[k] := by
  have hl : ((l.take k).map (decR n)).length = k := by rw [List.length_map, List.length_take]; omega
  have : (decK l n k)[k]? = l[k]? := by
    unfold decK
    rw [List.getElem?_append_right (by omega), hl, Nat.sub_self, List.getElem?_drop, Nat.add_zero]
  rw [List.getElem?_eq_getElem h2, List.getElem?_eq_getElem hk] at this
  injection this
theorem decK_succ {l : List Rl} {n : Nm} {k : Nat} (hk : k < l.length) : decK l n (k + 1) = (decK l n k).set k (decR n l[k]) := by
  have hl : ((l.take k).map (decR n)).length = k := by rw [List.length_map, List.length_take]; omega
  unfold decK
  rw [List.set_append_right _ _ (by omega), hl, Nat.sub_self, List.drop_eq_getElem_cons hk, List.set_cons_zero, List.take_succ_eq_append_getElem hk, List.map_append, List.append_assoc]
  rfl
theorem decK_same {l : List Rl} {n : Nm} {k : Nat} (hk : k < l.length) (h : l[k].1 ≠ n) : decK l n (k + 1) = decK l n k := by
  rw [decK_succ hk]
  have h2 : k < (decK l n k).length := by rw [decK_len]; exact hk
  have e : decR n l[k] = (decK l n k)[k] := by rw [decK_get hk h2]; unfold decR; rw [if_neg h]
  rw [e, List.set_getElem_self]
theorem decK_turn {l : List Rl} {n : Nm} {k : Nat} (hk : k < l.length) (h : l[k].1 = n) : decK l n (k + 1) = (decK l n k).set k (l[k].1, { l[k].2 with op := l[k].2.op - 1 }) := by
  rw [decK_succ hk]; unfold decR; rw [if_pos h]
section
variable {w : World} {Z n i : Nat} {v : Value} {L : List Rl}
theorem own_at (h : w.ownsRow Z RowT 11 v n (L.flatMap encD)) (hn : L.length = n) (hi : i < L.length) : ∃ g cap, v = .slice (some ⟨g, 0, none⟩) n cap ∧ Z ≤ g ∧ g < w.heap.size ∧ ∀ t u, (encD L[i])[t]? = some u → w.cell? ⟨g, i * 11 + t, none⟩ = some u := by
  obtain ⟨g, cap, cur, hv, hz, hg, hb, _, _, hsz, ht⟩ := own_blockK h (by omega)
  refine ⟨g, cap, hv, hz, hg, fun t u hu => ?_⟩
  have h' := h
  rw [← hn] at h'
  rcases own_readsK (enc := encD) encD_len (by decide) h' with ⟨e, _⟩ | ⟨b, off, c, e, _, hc⟩
  · rw [e] at hi; simp at hi
  · rw [hv] at e
    injection e with e1 _ _
    injection e1 with e1
    injection e1 with e1 e2 _
    subst e1; subst e2
    have := hc i hi t u hu
    simpa using this
theorem own_thaw {E : TypeId} {k g cap : Nat} {xs : List Value} (h : w.ownsRow Z E k (.slice (some ⟨g, 0, none⟩) n cap) n xs) (i : Nat) : w.frozen? ⟨g, i, none⟩ = false := by
  obtain ⟨_, ⟨hv, h0⟩ | ⟨g', cap', cur, hv, _, hh, _⟩⟩ := h
  · cases hv
  · injection hv with e1 _ _
    injection e1 with e1
    injection e1 with e1
    subst e1
    simp [World.frozen?, hh]
end
def ddropL (l : List Rl) (root : Nm) : List Rl := if mayS root.2 then (match getL l root with
    | some x => if x.fk = true ∧ x.st ≠ 6 ∧ (getL l (root.1, parS root.2)).isSome = true then decL (dropF l root) (root.1, parS root.2) else dropF l root
    | none => dropF l root) else l
def DropDP (Z r : Nat) (mo : Int) (lv : Value) (l : List Rl) (root : Nm) (w : World) (e : Ending) (w' : World) : Prop := e = .returned (.int .i64 ((l.length : Int) - (ddropL l root).length)) ∧ ∃ lv', Dt Z r mo lv' (ddropL l root) w' ∧ DL r lv w lv' w'
theorem DropDP.fin {Z r : Nat} {mo : Int} {lv v : Value} {l L : List Rl} {root : Nm} {w w2 : World} {c : Int} (h : Dt Z r mo lv l w) (hB : Below w.heap.size w w2) (ho : w2.ownsRow w.heap.size RowT 11 v L.length (L.flatMap encD)) (hL : ddropL l root = L) (hc : c = (l.length : Int) - L.length) (hs : ∀ p ∈ L, ∃ q ∈ l, p.2.aa = q.2.aa ∧ p.2.ac = q.2.ac ∧ p.2.args = q.2.args) :
    DropDP Z r mo lv l root w (.returned (.int .i64 c)) (w2.setCell ⟨r, 1, none⟩ v) := by
  have hz : Z ≤ w.heap.size := by
    have h1 : r < w.heap.size := (Array.getElem?_eq_some_iff.1 h.box).1
    have h2 := h.zr
    omega
  refine ⟨by rw [hL, hc], v, ?_⟩
  rw [hL]
  exact h.put (Fr.of_below hB) (owns_monoG ho hz) hs (.inr fun q hq => (ho.lt q hq).1)
theorem dropF_args {l : List Rl} {root : Nm} : ∀ p ∈ dropF l root, ∃ q ∈ l, p.2.aa = q.2.aa ∧ p.2.ac = q.2.ac ∧ p.2.args = q.2.args := fun p hp => ⟨p, (List.mem_filter.1 hp).1, rfl, rfl, rfl⟩
theorem decL_args {l : List Rl} {root n : Nm} : ∀ p ∈ decL (dropF l root) n, ∃ q ∈ l, p.2.aa = q.2.aa ∧ p.2.ac = q.2.ac ∧ p.2.args = q.2.args := fun p hp => by
  unfold decL at hp
  obtain ⟨q, hq, rfl⟩ := List.mem_map.1 hp
  refine ⟨q, (List.mem_filter.1 hq).1, ?_⟩
  unfold decR
  split <;> exact ⟨rfl, rfl, rfl⟩
theorem decL_len (l : List Rl) (n : Nm) : (decL l n).length = l.length := by unfold decL; rw [List.length_map]
set_option maxHeartbeats 16000000 in
set_option maxRecDepth 100000 in
theorem ddropR_any {Z r : Nat} {mo : Int} {lv : Value} {l : List Rl} {w : World} (root : Nm) (h : Dt Z r mo lv l w) (hm : l.length ≤ 100000) (hnd : (l.map (·.1)).Nodup) (hrs : root.2.size ≤ 9223372036854775807) (hml : ∀ q ∈ l, q.1.2.size ≤ 9223372036854775807) (hop : ∀ q ∈ l, 0 ≤ q.2.op ∧ q.2.op ≤ 1000000) (hpb : ∀ q ∈ l, q.2.fk = true → parB q.1.2 = true) :
    Calls Try.prog 26 #[RP r, nmA root] w (DropDP Z r mo lv l root w) := by
  have hA := alD w (cellsM root)
  have HT := Lib.hid h
  have HND := Lib.hid hnd
  have HML := Lib.hid hml
  have HOP := Lib.hid hop
  have HPB := Lib.hid hpb
  have HRS := Lib.hid hrs
  have HA := Lib.hid hA
  have HBN := Lib.hid (show BoxAt (w.alloc (cellsM root)) w.heap.size #[.int .u64 root.1, .string root.2] NmT from heap_alloc_new _ _)
  obtain ⟨la, lc, hlv⟩ := own_slice h.own
  have HLV := Lib.hid hlv
  obtain ⟨N, hN⟩ : ∃ N, l.length = N := ⟨_, rfl⟩
  have HN := Lib.hid hN
  have hN1 : N ≤ 100000 := by omega
  clear h hnd hml hop hpb hrs hA hlv hN
  go_enter Try.func26, Try.ntmps26
  go_upto_region 1 with fail
  simp only [cellsM] at HBN HA
  generalize w.alloc (.cells #[.int .u64 root.1, .string root.2] NmT) = wa at *
  obtain ⟨nb, hnb⟩ : ∃ t, w.heap.size = t := ⟨_, rfl⟩
  have HNB := Lib.hid (show w.heap.size = nb from hnb)
  rw [hnb] at HBN ⊢
  clear hnb
  obtain ⟨s0, s1⟩ := nm_cells HBN.out
  go_wp2_with fail
  refine (rmay_any root.2 _ HRS.out).mono ?_
  rintro e w2 ⟨rfl, hw2⟩
  subst hw2
  cases hmy : mayS root.2
  · have HE := Lib.hid (show ddropL l root = l from by unfold ddropL; rw [hmy]; rfl)
    clear hmy s0 s1
    go_wp2_with fail
    go_ret
    exact ⟨by rw [HE.out, Int.sub_self]; first | done | rfl, lv, by rw [HE.out]; exact HT.out.below HA.out, DL.below HA.out⟩
  · have HE0 := Lib.hid (show ddropL l root = (match getL l root with
      | some x => if x.fk = true ∧ x.st ≠ 6 ∧ (getL l (root.1, parS root.2)).isSome = true then decL (dropF l root) (root.1, parS root.2) else dropF l root
      | none => dropF l root) from by unfold ddropL; rw [hmy]; rfl)
    clear hmy s0 s1
    go_wp2_with fail
    go_loopg [5, 6, 7] N (fun gk t5 t6 t7 wr => ∃ (k : Nat) (va : Option Addr) (vn vc c : Nat), gk + k = N ∧ t7 = .int .i64 k ∧ t6 = .int .i64 c ∧ t5 = .slice va vn vc ∧ (dropF (l.take k) root).length = vn ∧ c + vn = k ∧ Hid (Below wa.heap.size wa wr ∧ Below w.heap.size w wr ∧ wr.ownsRow wa.heap.size RowT 11 (.slice va vn vc) (dropF (l.take k) root).length ((dropF (l.take k) root).flatMap encD)))
    case atStart => exact ⟨0, none, 0, 0, 0, by omega, rfl, rfl, rfl, rfl, by omega, Below.refl _ _, HA.out, World.ownsRow_nil _ _ _ _⟩
    case round =>
      obtain ⟨k, va, vn, vc, c, hkk, rfl, rfl, rfl, hvn, hvk, HR⟩ := hrel
      have y0 := (HT.out.below HR.out.2.1).cell
      rw [HLV.out, HN.out] at y0
      have HVN := Lib.hid hvn
      clear hvn
      by_cases hlt : k < N
      · have hkl : k < l.length := by rw [HN.out]; exact hlt
        obtain ⟨g, cap, e, hc⟩ := (HT.out.below HR.out.2.1).at hkl
        rw [HLV.out] at e
        injection e with e1 _ e3
        subst e1
        have HTK := Lib.hid (dropF_take (root := root) hkl)
        have hxm := HML.out _ (List.getElem_mem hkl)
        obtain ⟨x, hx⟩ : ∃ x, l[k] = x := ⟨_, rfl⟩
        rw [hx] at hc HTK hxm
        have HXM := Lib.hid hxm
        have c0 : wr.cell? ⟨g, k * 11, none⟩ = some (.int .u64 x.1.1) := hc 0 _ rfl
        have c1 : wr.cell? ⟨g, k * 11 + 1, none⟩ = some (.string x.1.2) := hc 1 _ rfl
        have c2 : wr.cell? ⟨g, k * 11 + 2, none⟩ = some (.string x.1.2) := hc 2 _ rfl
        have c3 : wr.cell? ⟨g, k * 11 + 3, none⟩ = some (.int .i64 x.2.fn) := hc 3 _ rfl
        have c4 : wr.cell? ⟨g, k * 11 + 4, none⟩ = some (.slice x.2.aa x.2.args.length x.2.ac) := hc 4 _ rfl
        have c5 : wr.cell? ⟨g, k * 11 + 5, none⟩ = some (.int .i64 x.2.fuel) := hc 5 _ rfl
        have c6 : wr.cell? ⟨g, k * 11 + 6, none⟩ = some (.int .u8 x.2.st) := hc 6 _ rfl
        have c7 : wr.cell? ⟨g, k * 11 + 7, none⟩ = some (.int .i64 x.2.op) := hc 7 _ rfl
        have c8 : wr.cell? ⟨g, k * 11 + 8, none⟩ = some (.int .i64 x.2.val) := hc 8 _ rfl
        have c9 : wr.cell? ⟨g, k * 11 + 9, none⟩ = some (.int .i64 x.2.err) := hc 9 _ rfl
        have c10 : wr.cell? ⟨g, k * 11 + 10, none⟩ = some (.bool x.2.fk) := hc 10 _ rfl
        have hA1 := alD wr (cellsR x)
        have HB1 := Lib.hid (show Below w.heap.size w (wr.alloc (cellsR x)) from HR.out.2.1.trans (hA1.mono HR.out.2.1.size))
        have HBA := Lib.hid (gthenD HR.out.1 hA1)
        have HO1 := Lib.hid (own_below HR.out.2.2 hA1)
        have HXB := Lib.hid (show BoxAt (wr.alloc (cellsR x)) wr.heap.size (encD x).toArray RowT from heap_alloc_new _ _)
        have hkn : (k : Int) < N := by omega
        clear e3 hc hx hA1 hxm hkl
        go_upto_region 9 with fail
        simp only [cellsR] at HB1 HBA HO1 HXB
        clear c0 c1 c2 c3 c4 c5 c6 c7 c8 c9 c10 y0 HR
        generalize wr.alloc (Obj.cells #[.int .u64 x.1.1, .string x.1.2, .string x.1.2, .int .i64 x.2.fn, .slice x.2.aa x.2.args.length x.2.ac, .int .i64 x.2.fuel, .int .u8 x.2.st, .int .i64 x.2.op, .int .i64 x.2.val, .int .i64 x.2.err, .bool x.2.fk] RowT) = wq at *
        generalize wr.heap.size = xb at *
        obtain ⟨s0, s1⟩ := nm_cells (HBN.out.below HBA.out)
        obtain ⟨z0, z1, z2, z3, z4, z5, z6, z7, z8, z9, z10⟩ := encD_cells HXB.out
        by_cases hj : x.1.1 = root.1
        · have hjb : (x.1.1 == root.1) = true := by simp [hj]
          have hjc : (x.1.1 != root.1) = false := by simp [hj]
          go_wp2_with fail
          refine (runder_any x.1.2 root.2 _ HXM.out HRS.out).mono ?_
          rintro e w3 ⟨rfl, hw3⟩
          subst hw3
          cases hun : underS x.1.2 root.2
          · have HT2 := Lib.hid (show dropF (l.take (k + 1)) root = dropF (l.take k) root ++ [x] from by rw [HTK.out, if_neg (by unfold badN; rw [hun, Bool.and_false]; decide)])
            clear hun hj
            obtain ⟨g7, cc7, w7, hap, ho7, hF7⟩ := app_rowD x HO1.out HVN.out (by omega) HBA.out.size
            have HN7 := Lib.hid (show Below wa.heap.size wa w7 ∧ Below w.heap.size w w7 ∧ w7.ownsRow wa.heap.size RowT 11 (.slice (some ⟨g7, 0, none⟩) (vn + 1) cc7) (dropF (l.take (k + 1)) root).length ((dropF (l.take (k + 1)) root).flatMap encD) from
              ⟨HBA.out.trans (hF7.below (fun i hi => (HO1.out.lt i hi).1) HBA.out.size), HB1.out.trans (hF7.below (fun i hi => Nat.le_trans HA.out.size (HO1.out.lt i hi).1) HB1.out.size), by rw [HT2.out]; exact ho7⟩)
            have HL7 := Lib.hid (show (dropF (l.take (k + 1)) root).length = vn + 1 from by rw [HT2.out, List.length_append, HVN.out]; rfl)
            obtain ⟨v7, hv7⟩ : ∃ n, vn + 1 = n := ⟨_, rfl⟩
            rw [hv7] at hap HL7 HN7
            have hv8 : c + v7 = k + 1 := by omega
            clear ho7 hF7 hv7
            go_wp2_with (at_builtin; refine wpList_arunC rfl _ _ _ _ rfl rfl rfl hap ?_)
            go_roundg (gk - 1)
            case rel => exact ⟨k + 1, _, v7, cc7, c, by omega, by go_num, rfl, rfl, HL7.out, hv8, HN7.out⟩
            case measure => omega
          · have HT2 := Lib.hid (show dropF (l.take (k + 1)) root = dropF (l.take k) root from by rw [HTK.out, if_pos (by unfold badN; rw [hun, Bool.and_true]; simp [hj]), List.append_nil])
            have HR3 := Lib.hid (show Below wa.heap.size wa wq ∧ Below w.heap.size w wq ∧ wq.ownsRow wa.heap.size RowT 11 (.slice va vn vc) (dropF (l.take (k + 1)) root).length ((dropF (l.take (k + 1)) root).flatMap encD) from ⟨HBA.out, HB1.out, by rw [HT2.out]; exact HO1.out⟩)
            clear hun hj z0 z1 z2 z3 z4 z5 z6 z7 z8 z9 z10 s0 s1
            go_wp2_with fail
            go_roundg (gk - 1)
            case rel => exact ⟨k + 1, va, vn, vc, c + 1, by omega, by go_num, by go_num, rfl, by rw [HT2.out]; exact HVN.out, by omega, HR3.out⟩
            case measure => omega
        · have hjb : (x.1.1 == root.1) = false := by simp [hj]
          have hjc : (x.1.1 != root.1) = true := by simp [hj]
          have HT2 := Lib.hid (show dropF (l.take (k + 1)) root = dropF (l.take k) root ++ [x] from by rw [HTK.out, if_neg (by unfold badN; simp [hj])])
          clear hj
          obtain ⟨g7, cc7, w7, hap, ho7, hF7⟩ := app_rowD x HO1.out HVN.out (by omega) HBA.out.size
          have HN7 := Lib.hid (show Below wa.heap.size wa w7 ∧ Below w.heap.size w w7 ∧ w7.ownsRow wa.heap.size RowT 11 (.slice (some ⟨g7, 0, none⟩) (vn + 1) cc7) (dropF (l.take (k + 1)) root).length ((dropF (l.take (k + 1)) root).flatMap encD) from
            ⟨HBA.out.trans (hF7.below (fun i hi => (HO1.out.lt i hi).1) HBA.out.size), HB1.out.trans (hF7.below (fun i hi => Nat.le_trans HA.out.size (HO1.out.lt i hi).1) HB1.out.size), by rw [HT2.out]; exact ho7⟩)
          have HL7 := Lib.hid (show (dropF (l.take (k + 1)) root).length = vn + 1 from by rw [HT2.out, List.length_append, HVN.out]; rfl)
          obtain ⟨v7, hv7⟩ : ∃ n, vn + 1 = n := ⟨_, rfl⟩
          rw [hv7] at hap HL7 HN7
          have hv8 : c + v7 = k + 1 := by omega
          clear ho7 hF7 hv7
          go_wp2_with (at_builtin; refine wpList_arunC rfl _ _ _ _ rfl rfl rfl hap ?_)
          go_roundg (gk - 1)
          case rel => exact ⟨k + 1, _, v7, cc7, c, by omega, by go_num, rfl, rfl, HL7.out, hv8, HN7.out⟩
          case measure => omega
      · have hke : k = N := by omega
        subst hke
        have HO := Lib.hid (show wr.ownsRow w.heap.size RowT 11 (.slice va vn vc) (dropF l root).length ((dropF l root).flatMap encD) from by have := HR.out.2.2; rw [show l.take k = l from by rw [← HN.out, List.take_length]] at this; exact owns_monoG this HA.out.size)
        have HVL := Lib.hid (show (dropF l root).length = vn from by have := HVN.out; rwa [show l.take k = l from by rw [← HN.out, List.take_length]] at this)
        have HC := Lib.hid (show (c : Int) = (l.length : Int) - (dropF l root).length from by rw [HN.out, HVL.out]; omega)
        have HB := Lib.hid HR.out.2.1
        have HBA := Lib.hid HR.out.1
        clear HR HVN hkk
        obtain ⟨s0, s1⟩ := nm_cells (HBN.out.below HBA.out)
        go_wp2_with fail
        refine (dfind_any root (HT.out.below HB.out) (by rw [HN.out]; exact hN1)).mono ?_
        rintro e w4 ⟨⟨i, rfl, hF⟩, hB⟩
        replace HO := Lib.hid (own_below HO.out hB)
        replace HB := Lib.hid (HB.out.trans (hB.mono HB.out.size))
        clear hB s0 s1 HBA HBN y0
        rcases hF with ⟨rfl, hno⟩ | ⟨j, hj, rfl, hjn⟩
        · have HE := Lib.hid (show ddropL l root = dropF l root from by rw [HE0.out, getL_noneV hno])
          clear hno
          have HX := Lib.hid (DropDP.fin (root := root) (L := dropF l root) (c := (c : Int)) HT.out HB.out HO.out HE.out HC.out dropF_args)
          have y9 := (HT.out.below HB.out).cell
          have f9 := (HT.out.below HB.out).box.frozen 1
          clear HO
          go_wp2_with fail
          go_ret
          exact HX.out
        · have hg := getL_here HND.out hj hjn
          obtain ⟨gt, cap, e, hc⟩ := (HT.out.below HB.out).at hj
          have y0 := (HT.out.below HB.out).cell
          rw [HLV.out] at e
          rw [HLV.out, HN.out] at y0
          injection e with e1 _ e3
          subst e1
          have hnp := HML.out _ (List.getElem_mem hj)
          have hpb1 := HPB.out _ (List.getElem_mem hj)
          obtain ⟨x, hx⟩ : ∃ x, l[j] = x := ⟨_, rfl⟩
          rw [hx] at hc hg hjn hnp hpb1
          have c0 : w4.cell? ⟨gt, j * 11, none⟩ = some (.int .u64 x.1.1) := hc 0 _ rfl
          have c1 : w4.cell? ⟨gt, j * 11 + 1, none⟩ = some (.string x.1.2) := hc 1 _ rfl
          have c2 : w4.cell? ⟨gt, j * 11 + 2, none⟩ = some (.string x.1.2) := hc 2 _ rfl
          have c3 : w4.cell? ⟨gt, j * 11 + 3, none⟩ = some (.int .i64 x.2.fn) := hc 3 _ rfl
          have c4 : w4.cell? ⟨gt, j * 11 + 4, none⟩ = some (.slice x.2.aa x.2.args.length x.2.ac) := hc 4 _ rfl
          have c5 : w4.cell? ⟨gt, j * 11 + 5, none⟩ = some (.int .i64 x.2.fuel) := hc 5 _ rfl
          have c6 : w4.cell? ⟨gt, j * 11 + 6, none⟩ = some (.int .u8 x.2.st) := hc 6 _ rfl
          have c7 : w4.cell? ⟨gt, j * 11 + 7, none⟩ = some (.int .i64 x.2.op) := hc 7 _ rfl
          have c8 : w4.cell? ⟨gt, j * 11 + 8, none⟩ = some (.int .i64 x.2.val) := hc 8 _ rfl
          have c9 : w4.cell? ⟨gt, j * 11 + 9, none⟩ = some (.int .i64 x.2.err) := hc 9 _ rfl
          have c10 : w4.cell? ⟨gt, j * 11 + 10, none⟩ = some (.bool x.2.fk) := hc 10 _ rfl
          have hj0 : (0 : Int) ≤ (j : Int) := by omega
          have hj1 : (j : Int) < (k : Int) := by have := HN.out; omega
          have hA1 := alD w4 (cellsR x)
          have HXB := Lib.hid (show BoxAt (w4.alloc (cellsR x)) w4.heap.size (encD x).toArray RowT from heap_alloc_new _ _)
          replace HO := Lib.hid (own_below HO.out hA1)
          replace HB := Lib.hid (HB.out.trans (hA1.mono HB.out.size))
          have HG := Lib.hid hg
          have HJN := Lib.hid hjn
          have HPP := Lib.hid (And.intro hnp hpb1)
          clear hA1 e3 hc hx hg hjn hj hnp hpb1
          go_upto_region 15 with fail
          simp only [cellsR] at HXB HO HB
          clear c0 c1 c2 c3 c4 c5 c6 c7 c8 c9 c10 y0 hj0 hj1
          generalize w4.alloc (Obj.cells #[.int .u64 x.1.1, .string x.1.2, .string x.1.2, .int .i64 x.2.fn, .slice x.2.aa x.2.args.length x.2.ac, .int .i64 x.2.fuel, .int .u8 x.2.st, .int .i64 x.2.op, .int .i64 x.2.val, .int .i64 x.2.err, .bool x.2.fk] RowT) = wq at *
          generalize w4.heap.size = xb at *
          obtain ⟨z0, z1, z2, z3, z4, z5, z6, z7, z8, z9, z10⟩ := encD_cells HXB.out
          go_wp2_with fail
          refine (dparent_any x (HT.out.below HB.out) (by rw [HN.out]; exact hN1) HPP.out.1 HPP.out.2).mono ?_
          rintro e w6 ⟨i, rfl, hP, hB⟩
          replace HO := Lib.hid (own_below HO.out hB)
          replace HB := Lib.hid (HB.out.trans (hB.mono HB.out.size))
          replace HXB := Lib.hid (HXB.out.below hB)
          clear hB z0 z1 z2 z3 z4 z5 z6 z7 z8 z9 z10
          rcases hP with ⟨hfk, rfl⟩ | ⟨hfk, hF⟩
          · have HE := Lib.hid (show ddropL l root = dropF l root from by rw [HE0.out, HG.out]; simp only []; rw [if_neg (fun e => by rw [hfk] at e; cases e.1)])
            clear hfk HXB
            have HX := Lib.hid (DropDP.fin (root := root) (L := dropF l root) (c := (c : Int)) HT.out HB.out HO.out HE.out HC.out dropF_args)
            have y9 := (HT.out.below HB.out).cell
            have f9 := (HT.out.below HB.out).box.frozen 1
            clear HO
            go_wp2_with fail
            go_ret
            exact HX.out
          · rw [HJN.out] at hF
            rcases hF with ⟨rfl, hno⟩ | ⟨jp, hjp, rfl, hjpn⟩
            · have HE := Lib.hid (show ddropL l root = dropF l root from by rw [HE0.out, HG.out]; simp only []; rw [if_neg (fun e => by rw [getL_noneV hno] at e; cases e.2.2)])
              clear hfk hno HXB
              have HX := Lib.hid (DropDP.fin (root := root) (L := dropF l root) (c := (c : Int)) HT.out HB.out HO.out HE.out HC.out dropF_args)
              have y9 := (HT.out.below HB.out).cell
              have f9 := (HT.out.below HB.out).box.frozen 1
              clear HO
              go_wp2_with fail
              go_ret
              exact HX.out
            · have hgp := getL_here HND.out hjp hjpn
              have hjp0 : (0 : Int) ≤ (jp : Int) := by omega
              have z6 : w6.cell? ⟨xb, 6, none⟩ = some (.int .u8 x.2.st) := HXB.out.cell 6
              by_cases hst : x.2.st = 6
              · have hsb : (x.2.st == 6) = true := by simp [hst]
                have hsc : (x.2.st != 6) = false := by simp [hst]
                have HE := Lib.hid (show ddropL l root = dropF l root from by rw [HE0.out, HG.out]; simp only []; rw [if_neg (fun e => e.2.1 hst)])
                clear hfk hst HXB hgp hjp hjpn
                have HX := Lib.hid (DropDP.fin (root := root) (L := dropF l root) (c := (c : Int)) HT.out HB.out HO.out HE.out HC.out dropF_args)
                have y9 := (HT.out.below HB.out).cell
                have f9 := (HT.out.below HB.out).box.frozen 1
                clear HO
                go_wp2_with fail
                go_ret
                exact HX.out
              · have hsb : (x.2.st == 6) = false := by simp [hst]
                have hsc : (x.2.st != 6) = true := by simp [hst]
                have HE := Lib.hid (show ddropL l root = decL (dropF l root) (root.1, parS root.2) from by rw [HE0.out, HG.out]; simp only []; rw [if_pos ⟨hfk, hst, by rw [hgp]; rfl⟩])
                have HJP := Lib.hid hjp
                have HJPN := Lib.hid hjpn
                clear hfk hst HXB hgp hjpn
                go_upto_region 17 with fail
                clear z6 hsb hsc
                go_wp2_with fail
                obtain ⟨pn, hpn⟩ : ∃ z, (root.1, parS root.2) = z := ⟨_, rfl⟩
                rw [hpn] at HE HJPN
                obtain ⟨L, hL⟩ : ∃ z, dropF l root = z := ⟨_, rfl⟩
                have HLO := Lib.hid (show ∀ q ∈ L, 0 ≤ q.2.op ∧ q.2.op ≤ 1000000 from fun q hq => HOP.out q (by rw [← hL] at hq; exact (List.mem_filter.1 hq).1))
                have HLA := Lib.hid (show ∀ p ∈ decL L pn, ∃ q ∈ l, p.2.aa = q.2.aa ∧ p.2.ac = q.2.ac ∧ p.2.args = q.2.args from by rw [← hL]; exact decL_args)
                rw [hL] at HE HO HVL HC
                clear hL hpn HE0 HG HJN HPP HOP
                go_loopg [12] vn (fun gk t12 wr => ∃ i : Nat, gk + i = vn ∧ t12 = .int .i64 i ∧ Hid (Below w.heap.size w wr ∧ wr.ownsRow w.heap.size RowT 11 (.slice va vn vc) (decK L pn i).length ((decK L pn i).flatMap encD)))
                case atStart => exact ⟨0, by omega, rfl, HB.out, by rw [decK_zero]; exact HO.out⟩
                case round =>
                  clear HO HB
                  obtain ⟨i, hii, rfl, HR⟩ := hrel
                  by_cases hlt : i < vn
                  · have hil : i < L.length := by rw [HVL.out]; exact hlt
                    have hil2 : i < (decK L pn i).length := by rw [decK_len]; exact hil
                    have hin0 : (0 : Int) ≤ (i : Int) := by omega
                    have hin1 : (i : Int) < (vn : Int) := by omega
                    have hown := HR.out.2
                    rw [decK_len, HVL.out] at hown
                    obtain ⟨g, cap, e, hzg, hgs, hc⟩ := own_at hown (by rw [decK_len, HVL.out]) hil2
                    injection e with e1 _ e3
                    subst e1
                    rw [decK_get hil hil2] at hc
                    have hso := HLO.out _ (List.getElem_mem hil)
                    obtain ⟨x2, hx⟩ : ∃ x2, L[i] = x2 := ⟨_, rfl⟩
                    rw [hx] at hc hso
                    have HIX := Lib.hid (And.intro hil hx)
                    have n0 : wr.cell? ⟨g, i * 11, none⟩ = some (.int .u64 x2.1.1) := hc 0 _ rfl
                    have n1 : wr.cell? ⟨g, i * 11 + 1, none⟩ = some (.string x2.1.2) := hc 1 _ rfl
                    obtain ⟨g0, cap0, e0, hc0⟩ := (HT.out.below HR.out.1).at HJP.out
                    have y0 := (HT.out.below HR.out.1).cell
                    rw [HLV.out] at e0
                    injection e0 with e01 _ e03
                    injection e01 with e01
                    injection e01 with e01
                    rw [← e01] at hc0
                    rw [HLV.out, HN.out] at y0
                    have m0 : wr.cell? ⟨gt, jp * 11, none⟩ = some (.int .u64 pn.1) := by have := hc0 0 _ rfl; rw [HJPN.out] at this; exact this
                    have m1 : wr.cell? ⟨gt, jp * 11 + 1, none⟩ = some (.string pn.2) := by have := hc0 1 _ rfl; rw [HJPN.out] at this; exact this
                    have hjp1 : (jp : Int) < (k : Int) := by have h1 := HJP.out; have h2 := HN.out; omega
                    have heq := eqNm x2.1 pn
                    have HGG := Lib.hid (And.intro hzg hgs)
                    have HSO := Lib.hid hso
                    clear hc hc0 e3 e03 e01 hil2 hown hx hzg hgs hso
                    cases hp : decide (x2.1 = pn)
                    all_goals
                      have HP := Lib.hid hp
                      rw [hp] at heq
                      clear hp
                      go_wp2_with fail
                      go_quiet (fail)
                      have HB2 := Lib.hid (show Below w.heap.size w (wr.drewN nq) from HR.out.1.trans ((below_drewN (Below.refl wr.heap.size wr) nq).mono HR.out.1.size))
                      have HO2 := Lib.hid (own_below HR.out.2 (below_drewN (Below.refl wr.heap.size wr) nq))
                      clear n0 n1 m0 m1 y0 heq HR hjp1
                      generalize wr.drewN nq = w5 at *
                    · have HNX := Lib.hid (show Below w.heap.size w w5 ∧ w5.ownsRow w.heap.size RowT 11 (.slice (some ⟨g, 0, none⟩) vn vc) (decK L pn (i + 1)).length ((decK L pn (i + 1)).flatMap encD) from by
                        rw [decK_same HIX.out.1 (by rw [HIX.out.2]; exact of_decide_eq_false HP.out)]
                        exact ⟨HB2.out, HO2.out⟩)
                      go_wp2_with fail
                      go_roundg (gk - 1)
                      case rel => exact ⟨i + 1, by omega, by go_num, HNX.out⟩
                      case measure => omega
                    · have hil := HIX.out.1
                      have hil2 : i < (decK L pn i).length := by rw [decK_len]; exact hil
                      have hown := HO2.out
                      rw [decK_len, HVL.out] at hown
                      obtain ⟨g', cap, e, hzg, hgs, hc⟩ := own_at hown (by rw [decK_len, HVL.out]) hil2
                      injection e with e1 _ e3
                      injection e1 with e1
                      injection e1 with e1
                      subst e1
                      rw [decK_get hil hil2, HIX.out.2] at hc
                      have c0 : w5.cell? ⟨g, i * 11, none⟩ = some (.int .u64 x2.1.1) := hc 0 _ rfl
                      have c1 : w5.cell? ⟨g, i * 11 + 1, none⟩ = some (.string x2.1.2) := hc 1 _ rfl
                      have c2 : w5.cell? ⟨g, i * 11 + 2, none⟩ = some (.string x2.1.2) := hc 2 _ rfl
                      have c3 : w5.cell? ⟨g, i * 11 + 3, none⟩ = some (.int .i64 x2.2.fn) := hc 3 _ rfl
                      have c4 : w5.cell? ⟨g, i * 11 + 4, none⟩ = some (.slice x2.2.aa x2.2.args.length x2.2.ac) := hc 4 _ rfl
                      have c5 : w5.cell? ⟨g, i * 11 + 5, none⟩ = some (.int .i64 x2.2.fuel) := hc 5 _ rfl
                      have c6 : w5.cell? ⟨g, i * 11 + 6, none⟩ = some (.int .u8 x2.2.st) := hc 6 _ rfl
                      have c7 : w5.cell? ⟨g, i * 11 + 7, none⟩ = some (.int .i64 x2.2.op) := hc 7 _ rfl
                      have c8 : w5.cell? ⟨g, i * 11 + 8, none⟩ = some (.int .i64 x2.2.val) := hc 8 _ rfl
                      have c9 : w5.cell? ⟨g, i * 11 + 9, none⟩ = some (.int .i64 x2.2.err) := hc 9 _ rfl
                      have c10 : w5.cell? ⟨g, i * 11 + 10, none⟩ = some (.bool x2.2.fk) := hc 10 _ rfl
                      have hopw : IntKind.i64.wrap (x2.2.op - 1) = x2.2.op - 1 := IntWalk.i64_in _ (by have := HSO.out; omega)
                      have hA2 := alD w5 (cellsR ((x2.1, { x2.2 with op := x2.2.op - 1 }) : Rl))
                      have HB3 := Lib.hid (show Below w.heap.size w (w5.alloc (cellsR ((x2.1, { x2.2 with op := x2.2.op - 1 }) : Rl))) from HB2.out.trans (hA2.mono HB2.out.size))
                      have HO3 := Lib.hid (own_below HO2.out hA2)
                      clear hc e3 hil hil2 hown
                      go_upto_region 23 with fail
                      have hbx : (w5.alloc (cellsR ((x2.1, { x2.2 with op := x2.2.op - 1 }) : Rl))).heap[w5.heap.size]? = some (cellsR ((x2.1, { x2.2 with op := x2.2.op - 1 }) : Rl)) := heap_alloc_new _ _
                      try simp only [cellsR] at hbx hA2
                      try simp only [cellsR] at HB3
                      try simp only [cellsR] at HO3
                      replace c0 := (hA2.cell (p := ⟨g, i * 11, none⟩) (World.block_lt_of_cell? _ _ c0)).trans c0
                      replace c1 := (hA2.cell (p := ⟨g, i * 11 + 1, none⟩) (World.block_lt_of_cell? _ _ c1)).trans c1
                      replace c2 := (hA2.cell (p := ⟨g, i * 11 + 2, none⟩) (World.block_lt_of_cell? _ _ c2)).trans c2
                      replace c3 := (hA2.cell (p := ⟨g, i * 11 + 3, none⟩) (World.block_lt_of_cell? _ _ c3)).trans c3
                      replace c4 := (hA2.cell (p := ⟨g, i * 11 + 4, none⟩) (World.block_lt_of_cell? _ _ c4)).trans c4
                      replace c5 := (hA2.cell (p := ⟨g, i * 11 + 5, none⟩) (World.block_lt_of_cell? _ _ c5)).trans c5
                      replace c6 := (hA2.cell (p := ⟨g, i * 11 + 6, none⟩) (World.block_lt_of_cell? _ _ c6)).trans c6
                      replace c7 := (hA2.cell (p := ⟨g, i * 11 + 7, none⟩) (World.block_lt_of_cell? _ _ c7)).trans c7
                      replace c8 := (hA2.cell (p := ⟨g, i * 11 + 8, none⟩) (World.block_lt_of_cell? _ _ c8)).trans c8
                      replace c9 := (hA2.cell (p := ⟨g, i * 11 + 9, none⟩) (World.block_lt_of_cell? _ _ c9)).trans c9
                      replace c10 := (hA2.cell (p := ⟨g, i * 11 + 10, none⟩) (World.block_lt_of_cell? _ _ c10)).trans c10
                      generalize w5.alloc (Obj.cells #[.int .u64 x2.1.1, .string x2.1.2, .string x2.1.2, .int .i64 x2.2.fn, .slice x2.2.aa x2.2.args.length x2.2.ac, .int .i64 x2.2.fuel, .int .u8 x2.2.st, .int .i64 (x2.2.op - 1), .int .i64 x2.2.val, .int .i64 x2.2.err, .bool x2.2.fk] RowT) = wq at *
                      generalize w5.heap.size = xb at *
                      have b0 : wq.cell? ⟨xb, 0, none⟩ = some (.int .u64 x2.1.1) := by simp [World.cell?, hbx]
                      have b1 : wq.cell? ⟨xb, 1, none⟩ = some (.string x2.1.2) := by simp [World.cell?, hbx]
                      have b2 : wq.cell? ⟨xb, 2, none⟩ = some (.string x2.1.2) := by simp [World.cell?, hbx]
                      have b3 : wq.cell? ⟨xb, 3, none⟩ = some (.int .i64 x2.2.fn) := by simp [World.cell?, hbx]
                      have b4 : wq.cell? ⟨xb, 4, none⟩ = some (.slice x2.2.aa x2.2.args.length x2.2.ac) := by simp [World.cell?, hbx]
                      have b5 : wq.cell? ⟨xb, 5, none⟩ = some (.int .i64 x2.2.fuel) := by simp [World.cell?, hbx]
                      have b6 : wq.cell? ⟨xb, 6, none⟩ = some (.int .u8 x2.2.st) := by simp [World.cell?, hbx]
                      have b7 : wq.cell? ⟨xb, 7, none⟩ = some (.int .i64 (x2.2.op - 1)) := by simp [World.cell?, hbx]
                      have b8 : wq.cell? ⟨xb, 8, none⟩ = some (.int .i64 x2.2.val) := by simp [World.cell?, hbx]
                      have b9 : wq.cell? ⟨xb, 9, none⟩ = some (.int .i64 x2.2.err) := by simp [World.cell?, hbx]
                      have b10 : wq.cell? ⟨xb, 10, none⟩ = some (.bool x2.2.fk) := by simp [World.cell?, hbx]
                      have hfz : ∀ i, wq.frozen? ⟨g, i, none⟩ = false := fun q => by have h0 := HO3.out; rw [decK_len, HVL.out] at h0; exact own_thaw h0 q
                      have HNX := Lib.hid (show Below w.heap.size w (wrt11 wq g (i * 11) ((x2.1, { x2.2 with op := x2.2.op - 1 }) : Rl)) ∧ (wrt11 wq g (i * 11) ((x2.1, { x2.2 with op := x2.2.op - 1 }) : Rl)).ownsRow w.heap.size RowT 11 (.slice (some ⟨g, 0, none⟩) vn vc) (decK L pn (i + 1)).length ((decK L pn (i + 1)).flatMap encD) from by
                        have hsm : x2.1 = pn := of_decide_eq_true HP.out
                        refine ⟨HB3.out.trans ((wrt11_fr wq g (i * 11) _).below (fun q e => by subst e; exact HGG.out.1) HB3.out.size), ?_⟩
                        have h0 := HO3.out
                        rw [decK_len, HVL.out] at h0
                        have h1 := wrt11_own (o := i * 11) (x := ((x2.1, { x2.2 with op := x2.2.op - 1 }) : Rl)) h0
                        rw [flat_wrt11 _ _ i (by rw [decK_len]; exact HIX.out.1)] at h1
                        rw [decK_len, HVL.out, decK_turn HIX.out.1 (by rw [HIX.out.2]; exact hsm), HIX.out.2]
                        exact h1)
                      clear hbx hA2
                      go_wp2_with fail
                      go_roundg (gk - 1)
                      case rel => exact ⟨i + 1, by omega, by go_num, HNX.out⟩
                      case measure => omega
                  · have hie : i = L.length := by rw [HVL.out]; omega
                    have HO := Lib.hid (show wr.ownsRow w.heap.size RowT 11 (.slice va vn vc) (decL L pn).length ((decL L pn).flatMap encD) from by have := HR.out.2; rwa [hie, decK_all] at this)
                    have HB := Lib.hid HR.out.1
                    replace HC := Lib.hid (show (c : Int) = (l.length : Int) - (decL L pn).length from by rw [decL_len]; exact HC.out)
                    clear HR hie
                    have HX := Lib.hid (DropDP.fin (root := root) (L := decL L pn) (c := (c : Int)) HT.out HB.out HO.out HE.out HC.out HLA.out)
                    have y9 := (HT.out.below HB.out).cell
                    have f9 := (HT.out.below HB.out).box.frozen 1
                    clear HO
                    go_wp2_with fail
                    go_ret
                    exact HX.out
end Go.Proofs.Ythbkbmkcgpdedaa
