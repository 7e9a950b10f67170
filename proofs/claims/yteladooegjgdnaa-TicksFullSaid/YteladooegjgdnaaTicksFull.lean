/- TicksFull, whole. -/
import Derived.Test.YteladooegjgdnaaAll3
import Derived.Test.YteladooegjgdnaaFullLaw
namespace Go.Proofs.Yteladooegjgdnaa
open Go.RowKit Go.Sort Go.Lib

theorem conv_kk (w : World) (k : Nat) (hk : k < 1024) : (convert 53 9 (.slice (some ⟨w.heap.size, 0, none⟩) 2 2)).run Try.prog (w.alloc (.cells #[.int .u8 ((k : Int) / 256), .int .u8 ((k : Int) % 256)] 5)) = .ok (.string (kk k)) (w.alloc (.cells #[.int .u8 ((k : Int) / 256), .int .u8 ((k : Int) % 256)] 5)) := by
  have h := run_convert_bytes_back (P := Try.prog) (w.alloc (.cells #[.int .u8 ((k : Int) / 256), .int .u8 ((k : Int) % 256)] 5)) 53 9 5 ⟨w.heap.size, 0, none⟩ 2 [UInt8.ofNat (k / 256), UInt8.ofNat k] Try.underlying53 Try.underlying5 Try.underlying9 (by
    intro j hj
    have e1 : (((UInt8.ofNat (k / 256)).toNat : Nat) : Int) = (k : Int) / 256 := by rw [UInt8.toNat_ofNat']; omega
    have e2 : (((UInt8.ofNat k).toNat : Nat) : Int) = (k : Int) % 256 := by rw [UInt8.toNat_ofNat']; omega
    match j, hj with
    | 0, _ => simp only [List.getElem_cons_zero, e1]; exact World.cell?_alloc_at #[.int .u8 ((k : Int) / 256), .int .u8 ((k : Int) % 256)] 5 _ 0 rfl
    | 1, _ => simp only [List.getElem_cons_succ, List.getElem_cons_zero, e2]; exact World.cell?_alloc_at #[.int .u8 ((k : Int) / 256), .int .u8 ((k : Int) % 256)] 5 _ 1 rfl)
  exact h
set_option maxHeartbeats 12800000 in
set_option maxRecDepth 100000 in
theorem ticksfull_row (wh : Int) (an : Nat) (w : World) (h0 : 0 ≤ wh) (h1 : wh ≤ 65535) (ha1 : an ≤ 65535) :
    Calls Try.prog 7 #[.int .u16 wh, .int .u16 (an : Int)] w fun e w' => e = .returned (.bool true) ∧ Below w.heap.size w w' := by
  go_enter Try.func7, Try.ntmps7
  go_wp2_with fail
  refine (new_any w).mono ?_
  rintro e w2 ⟨b, rv, rfl, hB, hQ, rfl⟩
  have H2 := Lib.hid (show Wt w b (.slice none 0 0) [] 0 w2 from ⟨⟨[], hQ, TmOk.none, by simp⟩, hB⟩)
  clear hB hQ
  go_wp2_with fail
  go_loopg [6] 1024 (fun gk t6 wr => ∃ (k : Nat) (rv : Value) (L : List Tm), gk + k = 1024 ∧ t6 = .int .i64 k ∧ Hid (Wt w b rv L 0 wr ∧ L.Perm (fullL an k)))
  case atStart => exact ⟨0, _, [], by omega, rfl, H2.out, by simp [fullL]⟩
  case round =>
    obtain ⟨k, rv, L, hk, rfl, HR⟩ := hrel
    clear H2
    by_cases hk2 : k < 1024
    · have hcv := conv_kk wr k hk2
      have hA := alT wr (.cells #[.int .u8 ((k : Int) / 256), .int .u8 ((k : Int) % 256)] 5)
      have H3 := Lib.hid (HR.out.1.below hA)
      have HP := Lib.hid HR.out.2
      have HS := Lib.hid (full_set HR.out.2 hk2 ha1)
      clear hA HR
      have q1 : IntKind.i64.wrap ((an : Int) + 1) = (an : Int) + 1 := IntWalk.i64_in _ (by omega)
      have q2 : IntKind.i64.wrap ((an : Int) + 1 + (k : Int)) = (an : Int) + 1 + (k : Int) := IntWalk.i64_in _ (by omega)
      go_wp2_with fail
      refine (set_any (kk k) ((an : Int) + 1 + (k : Int)) H3.out.tms).mono ?_
      rintro e w4 ⟨rfl, rv4, h4, hL4⟩
      have H4 := Lib.hid (H3.out.next h4 hL4)
      rw [HS.out.1]
      clear h4 hL4 H3 hcv
      go_wp2_with fail
      go_roundg (gk - 1)
      case rel => exact ⟨k + 1, rv4, _, by omega, by go_num, H4.out, HS.out.2⟩
      case measure => omega
    · have hke : k = 1024 := by omega
      subst hke
      obtain ⟨kn, hkn⟩ : ∃ kn : Nat, wh % 1024 = (kn : Int) := ⟨(wh % 1024).toNat, by omega⟩
      have hk3 : kn < 1024 := by omega
      have hcv := conv_kk wr kn hk3
      have e1 : (kn : Int) / 256 = wh % 1024 / 256 := by rw [hkn]
      have e2 : (kn : Int) % 256 = wh % 256 := by omega
      rw [e1, e2] at hcv
      have hA := alT wr (.cells #[.int .u8 (wh % 1024 / 256), .int .u8 (wh % 256)] 5)
      have H3 := Lib.hid (HR.out.1.below hA)
      have HF := Lib.hid (show FullP an kn L from by
        obtain ⟨l, hq, ht, _⟩ := HR.out.1.tms
        exact full_ok HR.out.2 hk3 ht.srt ht.nod)
      clear hA HR e1 e2
      have HKN := Lib.hid hkn
      clear hkn hk2
      obtain ⟨key, hkey⟩ : ∃ key, kk kn = key := ⟨_, rfl⟩
      rw [hkey] at hcv
      have HKEY := Lib.hid hkey
      clear hkey
      go_wp2_with fail
      refine (set_any kNew 5 H3.out.tms).mono ?_
      rintro e w4 ⟨rfl, rv4, h4, hL4⟩
      have h4' := H3.out.next h4 hL4
      rw [show setL L 0 kNew 5 = L from by unfold setL; rw [HF.out.full]; rfl] at h4'
      have H4 := Lib.hid h4'
      rw [HF.out.full]
      clear h4 hL4 h4' H3 hcv
      go_wp2_with fail
      refine (set_any key 1 H4.out.tms).mono ?_
      rintro e w5 ⟨rfl, rv5, h5, hL5⟩
      have h5' := H4.out.next h5 hL5
      obtain ⟨x, L', hxL, hxa, hxk⟩ := HF.out.head
      have hset := HF.out.set
      have hstop := HF.out.stop
      have hroom := HF.out.room
      have hlen := HF.out.len
      rw [HKEY.out] at hxL hxk hset hstop hroom hlen
      rw [hxL] at h5' hstop hroom hlen
      rw [hset]
      have H5 := Lib.hid h5'
      have HX := Lib.hid (And.intro hstop (And.intro hroom hlen))
      have HXK := Lib.hid hxk
      have HXA := Lib.hid hxa
      clear h5 hL5 h5' hxL hset hstop hroom hlen HF H4 hxk hxa
      go_wp2_with fail
      refine (next_any H5.out.tms).mono ?_
      rintro e w6 ⟨rfl, hB⟩
      have H6 := Lib.hid (H5.out.below hB)
      have hnv : nextV (x :: L') = .tuple #[.agg #[.string x.k, .int .i64 x.a], .bool true] := rfl
      rw [hnv]
      clear hB H5 hnv
      have HBx := Lib.hid ((alT w6 (.cells #[.string x.k, .int .i64 x.a] TmT)))
      have n0 : (w6.alloc (.cells #[.string x.k, .int .i64 x.a] TmT)).cell? ⟨w6.heap.size, 0, none⟩ = some (.string x.k) := by simp [go_sem]
      have n1 : (w6.alloc (.cells #[.string x.k, .int .i64 x.a] TmT)).cell? ⟨w6.heap.size, 1, none⟩ = some (.int .i64 x.a) := by simp [go_sem]
      have HNB := Lib.hid (show w6.heap.size ≠ b ∧ rv5.ownBlock ≠ some w6.heap.size from by
        have h1 := H6.out.tms.block
        have h2 := World.block_lt_of_cell? _ _ H6.out.tms.cells.1
        exact ⟨fun e => by have h3 : b < w6.heap.size := h2; omega, fun e => by have := h1 _ e; omega⟩)
      have H7 := Lib.hid (H6.out.below HBx.out)
      go_upto_region 14 with fail
      generalize w6.alloc (.cells #[.string x.k, .int .i64 x.a] TmT) = w7 at *
      generalize w6.heap.size = nb at *
      have HN := Lib.hid (And.intro n0 n1)
      clear H6 HBx n0 n1
      have hA := alT w7 (.cells #[.string key] 9)
      have H8 := Lib.hid (H7.out.below hA)
      have HN8 := Lib.hid (show (w7.alloc (.cells #[.string key] 9)).cell? ⟨nb, 0, none⟩ = some (.string x.k) ∧ (w7.alloc (.cells #[.string key] 9)).cell? ⟨nb, 1, none⟩ = some (.int .i64 x.a) ∧ nb < (w7.alloc (.cells #[.string key] 9)).heap.size from
        ⟨(hA.cell (p := ⟨nb, 0, none⟩) (World.block_lt_of_cell? _ _ HN.out.1)).trans HN.out.1, (hA.cell (p := ⟨nb, 1, none⟩) (World.block_lt_of_cell? _ _ HN.out.2)).trans HN.out.2, Nat.lt_of_lt_of_le (World.block_lt_of_cell? _ _ HN.out.1) hA.size⟩)
      have hks : ∀ j (hj : j < [key].length), (w7.alloc (.cells #[.string key] 9)).cell? ⟨w7.heap.size, j, none⟩ = some (.string ([key] : List ByteArray)[j]) := by
        intro j hj
        match j, hj with
        | 0, _ => simp [go_sem]
      have hkb : w7.heap.size ≠ b ∧ rv5.ownBlock ≠ some w7.heap.size := by
        have h1 := H7.out.tms.block
        have h2 := World.block_lt_of_cell? _ _ H7.out.tms.cells.1
        exact ⟨fun e => by have h3 : b < w7.heap.size := h2; omega, fun e => by have := h1 _ e; omega⟩
      have HKS := Lib.hid (And.intro hks hkb)
      clear hA hks hkb
      go_wp2_with fail
      refine (stop_any (cap := 1) [key] H8.out.tms HKS.out.1 HKS.out.2.1 HKS.out.2.2 (by simp)).mono ?_
      rintro e w9 ⟨rfl, rv9, h9, hL9⟩
      have h9' := H8.out.next h9 hL9
      rw [HX.out.1]
      have H9 := Lib.hid h9'
      have HN9 := Lib.hid (show w9.cell? ⟨nb, 0, none⟩ = some (.string x.k) ∧ w9.cell? ⟨nb, 1, none⟩ = some (.int .i64 x.a) ∧ rv9.ownBlock ≠ some nb from
        ⟨(hL9.keep HNB.out.1 HNB.out.2 HN8.out.2.2 0).trans HN8.out.1, (hL9.keep HNB.out.1 HNB.out.2 HN8.out.2.2 1).trans HN8.out.2.1, by
          rcases hL9.own with e | e
          · rw [e]; exact HNB.out.2
          · intro e2; have := e nb e2; have := HN8.out.2.2; omega⟩)
      clear h9 hL9 h9' H7 HN H8 HN8 HKS
      go_wp2_with fail
      refine (set_any kNew 2 H9.out.tms).mono ?_
      rintro e w10 ⟨rfl, rv10, h10, hL10⟩
      have H10 := Lib.hid (H9.out.next h10 hL10)
      have n0 : w10.cell? ⟨nb, 0, none⟩ = some (.string x.k) := (hL10.keep HNB.out.1 HN9.out.2.2 (World.block_lt_of_cell? _ _ HN9.out.1) 0).trans HN9.out.1
      have n1 : w10.cell? ⟨nb, 1, none⟩ = some (.int .i64 x.a) := (hL10.keep HNB.out.1 HN9.out.2.2 (World.block_lt_of_cell? _ _ HN9.out.1) 1).trans HN9.out.2.1
      rw [HX.out.2.1]
      clear h10 hL10 H9 HN9 HNB
      rw [HXA.out] at n1
      have hor : (x.k.toList == key.toList) = true ∨ ((x.k.toList == key.toList) = false ∧ ((an : Int) == 0) = true) := by
        rcases HXK.out with e | e
        · left; rw [e]; simp
        · cases h : (x.k.toList == key.toList)
          · right; exact ⟨rfl, by rw [e]; rfl⟩
          · left; rfl
      clear HXA HXK
      generalize x.k = xk at *
      rcases hor with hb | ⟨hb, ha0⟩
      all_goals
        go_wp2_with fail
        refine (all_any H10.out.tms).mono ?_
        rintro e w11 ⟨v, rfl, ho, hB⟩
        have H11 := Lib.hid (H10.out.below hB)
        rw [show (keyL (setL (stopL [key] (x :: L')) 0 kNew 2)).length = 1024 from (keyL_perm _).length_eq.trans HX.out.2.2] at ho
        obtain ⟨va, vc, rfl⟩ := own_slice ho
        clear ho hB
        go_wp2_with fail
        refine (works_any _).mono ?_
        rintro e w12 ⟨rfl, hB⟩
        have HB12 := Lib.hid (gthen H11.out.low hB)
        clear hB
        go_wp2_with fail
        go_ret
        exact ⟨rfl, HB12.out⟩
end Go.Proofs.Yteladooegjgdnaa
