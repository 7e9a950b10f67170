/- Walk: EpochBack, its two loops. -/
import Derived.Test.YtbelafkklblidaaBack22
namespace Go.Proofs.Ytbelafkklblidaa
open Go.RowKit Go.Sort Go.Lib

set_option maxHeartbeats 8000000 in
set_option maxRecDepth 100000 in
theorem back_any (v : Value) (l : List Stp) (w0 : World) (hv : ReadsK encS 4 w0 v l) (hz : ∀ x ∈ l, x.2.1.2.size ≤ 9223372036854775807) (hl : (l.length : Int) ≤ 9223372036854775807) :
    Calls Try.prog 6 #[v] w0 fun e w' => e = .returned (.bool true) ∧ Below w0.heap.size w0 w' := by
  obtain ⟨a, cap, rfl⟩ := hv.slice
  have HV := Lib.hid hv
  have HZ := Lib.hid hz
  clear hv hz
  go_enter Try.func6, Try.ntmps6
  go_wp2_with fail
  refine (heavy_any _ (.slice none 0 0) l [] w0 HV.out (.inl ⟨rfl, _, _, rfl⟩) hl (by decide)).mono ?_
  rintro e w ⟨b, rfl, rfl, hb⟩
  cases b
  · have hl2 := (hb rfl).1
    clear hb hl
    go_wp2_with fail
    refine (new_empty 3 _ (by decide)).mono ?_
    rintro e w1 ⟨f, m, rfl, hf, hm, hF, hB⟩
    have HW : Hid (Wk w f m [] 3 w1) := ⟨hf, hm, hF, hB⟩
    clear hf hm hF hB
    go_wp2_with fail
    go_loopg [5] l.length (fun gk si wr => ∃ (k : Nat) (L : List Gr) (la : Int), gk + k = l.length ∧ si = .int .i64 k ∧ Wk w f m L la wr ∧ Bp k L la)
    case atStart => exact ⟨0, [], 3, by omega, rfl, HW.out, Bp.start⟩
    case round =>
      clear HW
      obtain ⟨k, L, la, hlen, rfl, hW, hP⟩ := hrel
      have HW := Lib.hid hW
      have HP := Lib.hid hP
      clear hW hP
      by_cases hlt : k < l.length
      · obtain ⟨b, off, c, he, hb, hc⟩ := (HV.out.below HW.out.low).at (by omega)
        injection he with he1 he2 he3
        subst he1
        have hx := Lib.hid (HZ.out _ (List.getElem_mem hlt))
        have hcc := hc k hlt
        clear hc he2 he3
        generalize l[k] = x at hcc hx
        have c0 : wr.cell? ⟨b, off + k * 4, none⟩ = some (.int .i64 x.1) := hcc 0 _ rfl
        have c1 : wr.cell? ⟨b, off + k * 4 + 1, none⟩ = some (.int .u64 x.2.1.1) := hcc 1 _ rfl
        have c2 : wr.cell? ⟨b, off + k * 4 + 1 + 1, none⟩ = some (.string x.2.1.2) := hcc 2 _ rfl
        obtain ⟨op, n, ep⟩ := x
        dsimp only at hx c0 c1 c2
        clear hcc hb
        by_cases h0 : op = 0
        · subst h0
          have la0 := HP.out.la0
          have hL : (L.length : Int) ≤ 9223372036854775807 := by have := HP.out.lk; omega
          go_wp2_with fail
          refine (grant_any f m L la n _ HW.out.fen hx.out la0 hL).mono ?_
          rintro e w2 ⟨rfl, hG⟩
          have HW2 := Lib.hid (HW.out.granted hG)
          clear hG HW c0 c1 c2
          go_wp2_with fail
          go_roundg (gk - 1)
          case rel => exact ⟨k + 1, _, _, by omega, by go_num, HW2.out, HP.out.grant n hx.out⟩
          case measure => omega
        · by_cases h1 : op = 1
          · subst h1
            go_wp2_with fail
            refine (take_any f m L la n _ HW.out.fen).mono ?_
            rintro e w2 ⟨rfl, hN, hF⟩
            have HW2 := Lib.hid (HW.out.fr hN hF)
            clear hN hF HW c0 c1 c2
            go_wp2_with fail
            go_roundg (gk - 1)
            case rel => exact ⟨k + 1, _, _, by omega, by go_num, HW2.out, HP.out.take n⟩
            case measure => omega
          · by_cases h2 : op = 2
            · subst h2
              go_wp2_with fail
              refine (drop_any f m L la n.1 _ HW.out.fen (by have := HP.out.lk; omega)).mono ?_
              rintro e w2 ⟨rfl, hN, hF⟩
              have HW2 := Lib.hid (HW.out.fr hN hF)
              clear hN hF HW c0 c1 c2
              go_wp2_with fail
              go_roundg (gk - 1)
              case rel => exact ⟨k + 1, _, _, by omega, by go_num, HW2.out, HP.out.drop n.1⟩
              case measure => omega
            · go_wp2_with fail
              go_roundg (gk - 1)
              case rel => exact ⟨k + 1, _, _, by omega, by go_num, HW.out, HP.out.same⟩
              case measure => omega
      · obtain rfl : k = l.length := by omega
        clear hlt
        go_wp2_with fail
        refine (last_call f m L la _ HW.out.fen).mono ?_
        rintro e w2 ⟨rfl, rfl⟩
        go_wp2_with fail
        refine (rows_any f m L la _ HW.out.fen (by have := HP.out.lk; omega)).mono ?_
        rintro e w2 ⟨v, rfl, hown, hB⟩
        have hnd : (L.map (·.1)).Nodup := by obtain ⟨_, _, _, _, h, _⟩ := HW.out.fen.map; exact h
        have HN := Lib.hid (HP.out.newE (by omega) hnd)
        have HW2 := Lib.hid (HW.out.below hB)
        have hr := own_readsG hown
        have hsz : ∀ g ∈ sortG L, g.1.2.size ≤ 9223372036854775807 := fun g hg => HP.out.sz g ((sortG_perm L).mem_iff.1 hg)
        have hln : ((sortG L).length : Int) ≤ 9223372036854775807 := by rw [(sortG_perm L).length_eq]; have := HP.out.lk; omega
        have hsm := Lib.hid (Sm.of_perm hnd (sortG_perm L))
        clear HW hown hB hnd
        go_wp2_with fail
        refine (new_any v (sortG L) la _ hr hsz hln).mono ?_
        rintro e w3 hnew
        obtain ⟨f2, m2, rfl, hf2, hm2, hF2, hB2⟩ := NewP.yes HN.out hnew
        clear hnew
        have HT : Hid (Tw w f m f2 m2 L (sortG L) la w3) := by
          have h1 := HW2.out.fen.lt
          have h2 := HW2.out.low.size
          refine ⟨HW2.out.below hB2, ⟨by omega, by omega, hF2, HW2.out.low.trans (hB2.mono h2)⟩, ⟨?_, ?_⟩, ⟨?_, ?_⟩, hsm.out⟩ <;> (rintro (h | h) <;> omega)
        have hp2 := Lib.hid HP.out.lk
        have la0 := HP.out.la0
        clear hr hsz hln hsm HN HW2 hf2 hm2 hF2 hB2
        go_wp2_with fail
        refine (last_call f2 m2 _ la _ HT.out.b.fen).mono ?_
        rintro e w4 ⟨rfl, rfl⟩
        go_wp2_with fail
        refine (last_call f m _ la _ HT.out.a.fen).mono ?_
        rintro e w4 ⟨rfl, rfl⟩
        go_wp2_with fail
        have HL : Hid (L.length ≤ 200 + 0 ∧ 0 ≤ la) := ⟨by have := hp2.out; omega, la0⟩
        clear hp2 la0 HP
        obtain ⟨M, hM⟩ : ∃ M, M = sortG L := ⟨_, rfl⟩
        rw [← hM] at HT
        clear hM
        go_loopg [7] l.length (fun gk si wr => ∃ (k : Nat) (L M : List Gr) (la : Int), gk + k = l.length ∧ si = .int .i64 k ∧ Tw w f m f2 m2 L M la wr ∧ (L.length ≤ 200 + k ∧ 0 ≤ la))
        case atStart => exact ⟨0, L, M, la, by omega, rfl, HT.out, HL.out⟩
        case round =>
          clear HT HL
          obtain ⟨k, L, M, la, hlen, rfl, hT, hlk, la0⟩ := hrel
          have HT := Lib.hid hT
          clear hT
          by_cases hlt : k < l.length
          · obtain ⟨b, off, c, he, hb, hc⟩ := (HV.out.below HT.out.a.low).at (by omega)
            injection he with he1 he2 he3
            subst he1
            have hx := Lib.hid (HZ.out _ (List.getElem_mem hlt))
            have hcc := hc k hlt
            clear hc he2 he3
            generalize l[k] = x at hcc hx
            obtain ⟨op, n, ep⟩ := x
            have c1 : wr.cell? ⟨b, off + k * 4 + 1, none⟩ = some (.int .u64 n.1) := hcc 1 _ rfl
            have c2 : wr.cell? ⟨b, off + k * 4 + 2, none⟩ = some (.string n.2) := hcc 2 _ rfl
            have c3 : wr.cell? ⟨b, off + k * 4 + 3, none⟩ = some (.int .u64 ep) := hcc 3 _ rfl
            dsimp only at hx
            clear hcc hb
            obtain ⟨og, hog⟩ := grV_form (ownG L n)
            obtain ⟨ob, hob⟩ : ∃ ob, (ownG L n).isSome = ob := ⟨_, rfl⟩
            have HO := Lib.hid (And.intro hog hob)
            have HO2 : Hid (grV (ownG M n) = .agg #[.int .u64 og.1.1, .string og.1.2, .int .u64 og.2] ∧ (ownG M n).isSome = ob) := by rw [← HT.out.sm.own]; exact HO
            clear hog hob
            have hA : ∀ (w : World) o, Below w.heap.size w (w.alloc o) := fun w o => (Below.refl _ _).alloc (Nat.le_refl _) o
            have HA := Lib.hid hA
            have HT1 := Lib.hid (HT.out.below (hA wr (.cells #[.int .u64 n.1, .string n.2] 35)))
            have n1 : (wr.alloc (.cells #[.int .u64 n.1, .string n.2] 35)).cell? ⟨wr.heap.size, 0, none⟩ = some (.int .u64 n.1) := by simp
            have n2 : (wr.alloc (.cells #[.int .u64 n.1, .string n.2] 35)).cell? ⟨wr.heap.size, 1, none⟩ = some (.string n.2) := by simp
            have n3 := cell_keep (hA wr (.cells #[.int .u64 n.1, .string n.2] 35)) c3
            clear hA
            go_wp2_with fail
            refine (owner_val f m L la n _ HT1.out.a.fen hx.out HO.out.1 HO.out.2).mono ?_
            rintro e w4 ⟨rfl, hB⟩
            have HT4 := Lib.hid ((HT1.out.below hB).below (HA.out w4 (.cells #[.int .u64 og.1.1, .string og.1.2, .int .u64 og.2] 43)))
            replace n1 := cell_keep (HA.out w4 (.cells #[.int .u64 og.1.1, .string og.1.2, .int .u64 og.2] 43)) (cell_keep hB n1)
            replace n2 := cell_keep (HA.out w4 (.cells #[.int .u64 og.1.1, .string og.1.2, .int .u64 og.2] 43)) (cell_keep hB n2)
            replace n3 := cell_keep (HA.out w4 (.cells #[.int .u64 og.1.1, .string og.1.2, .int .u64 og.2] 43)) (cell_keep hB n3)
            clear HT1 hB c1 c2 c3
            go_wp2_with fail
            refine (owner_val f2 m2 M la n _ HT4.out.b.fen hx.out HO2.out.1 HO2.out.2).mono ?_
            rintro e w5 ⟨rfl, hB⟩
            have HT5 := Lib.hid ((HT4.out.below hB).below (HA.out w5 (.cells #[.int .u64 og.1.1, .string og.1.2, .int .u64 og.2] 43)))
            have g0 : (w4.alloc (.cells #[.int .u64 og.1.1, .string og.1.2, .int .u64 og.2] 43)).cell? ⟨w4.heap.size, 0, none⟩ = some (.int .u64 og.1.1) := by simp
            have g1 : (w4.alloc (.cells #[.int .u64 og.1.1, .string og.1.2, .int .u64 og.2] 43)).cell? ⟨w4.heap.size, 1, none⟩ = some (.string og.1.2) := by simp
            have g2 : (w4.alloc (.cells #[.int .u64 og.1.1, .string og.1.2, .int .u64 og.2] 43)).cell? ⟨w4.heap.size, 2, none⟩ = some (.int .u64 og.2) := by simp
            have HS : Hid (Sb f m f2 m2 L M la (w5.alloc (.cells #[.int .u64 og.1.1, .string og.1.2, .int .u64 og.2] 43)) wr.heap.size w4.heap.size w5.heap.size ⟨b, off + k * 4 + 3, none⟩ n ep og (w5.alloc (.cells #[.int .u64 og.1.1, .string og.1.2, .int .u64 og.2] 43))) :=
              ⟨HT5.out.a.fen, HT5.out.b.fen, Below.refl _ _, cell_keep (HA.out w5 _) (cell_keep hB n1), cell_keep (HA.out w5 _) (cell_keep hB n2),
                cell_keep (HA.out w5 _) (cell_keep hB g0), cell_keep (HA.out w5 _) (cell_keep hB g1), cell_keep (HA.out w5 _) (cell_keep hB g2), by simp, by simp, by simp, cell_keep (HA.out w5 _) (cell_keep hB n3)⟩
            clear HT4 hB n1 n2 n3 g0 g1 g2 HO HO2
            have hA2 : ∀ x, Fen x f2 m2 M la → Calls Try.prog 19 #[.pointer (some ⟨f2, 0, none⟩), .agg #[.int .u64 n.1, .string n.2], .int .u64 ep] x fun e w' => e = .returned (.int .i64 (allowE L n ep)) ∧ Below x.heap.size x w' := fun x h => by
              rw [HT5.out.sm.allow]; exact allows_any f2 m2 M la n ep x h hx.out
            go_wp2_with fail
            generalize w5.alloc (.cells #[.int .u64 og.1.1, .string og.1.2, .int .u64 og.2] 43) = wq at *
            refine wp_region_held_drew (S := Sb f m f2 m2 L M la wq wr.heap.size w4.heap.size w5.heap.size ⟨b, off + k * 4 + 3, none⟩ n ep og) (by kernel_rfl) (HS.out.next (Below.refl _ _).drew) (fun hHeld => ?_)
            refine wpAnyH_take (i := 0) (oi := _) (v := ?_) (by rw [List.getElem?_toArray]; exact rfl) (by kernel_rfl) (by kernel_rfl) (by kernel_rfl) (by exact fun _ _ _ h => h) (Or.inl ⟨by rfl, ?_⟩) hHeld ?_
            rotate_left
            · (intro w hSw; have q0 := hSw.a0; have q1 := hSw.a1; have q2 := hSw.b0; have q3 := hSw.b1; have q4 := hSw.b2; have q5 := hSw.c0; have q6 := hSw.c1; have q7 := hSw.c2; have q8 := hSw.e; clear hSw; go_simp; try with_reducible rfl)
            try simp only [Act.put, List.setIfInBounds_toArray, List.set_cons_zero, List.set_cons_succ]
            refine wpAnyH_take (i := 1) (oi := _) (v := ?_) (by rw [List.getElem?_toArray]; exact rfl) (by kernel_rfl) (by kernel_rfl) (by kernel_rfl) (by exact fun _ _ _ h => h) (Or.inl ⟨by rfl, ?_⟩) hHeld ?_
            rotate_left
            · (intro w hSw; have q0 := hSw.a0; have q1 := hSw.a1; have q2 := hSw.b0; have q3 := hSw.b1; have q4 := hSw.b2; have q5 := hSw.c0; have q6 := hSw.c1; have q7 := hSw.c2; have q8 := hSw.e; clear hSw; go_simp; try with_reducible rfl)
            try simp only [Act.put, List.setIfInBounds_toArray, List.set_cons_zero, List.set_cons_succ]
            refine wpAnyH_take (i := 2) (oi := _) (v := ?_) (by rw [List.getElem?_toArray]; exact rfl) (by kernel_rfl) (by kernel_rfl) (by kernel_rfl) (by exact fun _ _ _ h => h) (Or.inl ⟨by rfl, ?_⟩) hHeld ?_
            rotate_left
            · (intro w hSw; have q0 := hSw.a0; have q1 := hSw.a1; have q2 := hSw.b0; have q3 := hSw.b1; have q4 := hSw.b2; have q5 := hSw.c0; have q6 := hSw.c1; have q7 := hSw.c2; have q8 := hSw.e; clear hSw; go_simp; try with_reducible rfl)
            try simp only [Act.put, List.setIfInBounds_toArray, List.set_cons_zero, List.set_cons_succ]
            refine wpAnyH_take (i := 3) (oi := _) (v := ?_) (by rw [List.getElem?_toArray]; exact rfl) (by kernel_rfl) (by kernel_rfl) (by kernel_rfl) (by exact fun _ _ _ h => h) (Or.inl ⟨by rfl, ?_⟩) hHeld ?_
            rotate_left
            · (intro w hSw; have q0 := hSw.a0; have q1 := hSw.a1; have q2 := hSw.b0; have q3 := hSw.b1; have q4 := hSw.b2; have q5 := hSw.c0; have q6 := hSw.c1; have q7 := hSw.c2; have q8 := hSw.e; clear hSw; go_simp; try with_reducible rfl)
            try simp only [Act.put, List.setIfInBounds_toArray, List.set_cons_zero, List.set_cons_succ]
            refine wpAnyH_take (i := 4) (oi := _) (v := ?_) (by rw [List.getElem?_toArray]; exact rfl) (by kernel_rfl) (by kernel_rfl) (by kernel_rfl) (by exact fun _ _ _ h => h) (Or.inl ⟨by rfl, ?_⟩) hHeld ?_
            rotate_left
            · (intro w hSw; have q0 := hSw.a0; have q1 := hSw.a1; have q2 := hSw.b0; have q3 := hSw.b1; have q4 := hSw.b2; have q5 := hSw.c0; have q6 := hSw.c1; have q7 := hSw.c2; have q8 := hSw.e; clear hSw; go_simp; try with_reducible rfl)
            try simp only [Act.put, List.setIfInBounds_toArray, List.set_cons_zero, List.set_cons_succ]
            refine wpAnyH_take (i := 5) (oi := _) (v := ?_) (by rw [List.getElem?_toArray]; exact rfl) (by kernel_rfl) (by kernel_rfl) (by kernel_rfl) (by exact fun _ _ _ h => h) (Or.inl ⟨by rfl, ?_⟩) hHeld ?_
            rotate_left
            · (intro w hSw; have q0 := hSw.a0; have q1 := hSw.a1; have q2 := hSw.b0; have q3 := hSw.b1; have q4 := hSw.b2; have q5 := hSw.c0; have q6 := hSw.c1; have q7 := hSw.c2; have q8 := hSw.e; clear hSw; go_simp; try with_reducible rfl)
            try simp only [Act.put, List.setIfInBounds_toArray, List.set_cons_zero, List.set_cons_succ]
            refine wpAnyH_take (i := 6) (oi := _) (v := ?_) (by rw [List.getElem?_toArray]; exact rfl) (by kernel_rfl) (by kernel_rfl) (by kernel_rfl) (by exact fun _ _ _ h => h) (Or.inl ⟨by rfl, ?_⟩) hHeld ?_
            rotate_left
            · (intro w hSw; have q0 := hSw.a0; have q1 := hSw.a1; have q2 := hSw.b0; have q3 := hSw.b1; have q4 := hSw.b2; have q5 := hSw.c0; have q6 := hSw.c1; have q7 := hSw.c2; have q8 := hSw.e; clear hSw; go_simp; try with_reducible rfl)
            try simp only [Act.put, List.setIfInBounds_toArray, List.set_cons_zero, List.set_cons_succ]
            refine wpAnyH_take (i := 7) (oi := _) (v := ?_) (by rw [List.getElem?_toArray]; exact rfl) (by kernel_rfl) (by kernel_rfl) (by kernel_rfl) (by exact fun _ _ _ h => h) (Or.inl ⟨by rfl, ?_⟩) hHeld ?_
            rotate_left
            · (intro w hSw; have q0 := hSw.a0; have q1 := hSw.a1; have q2 := hSw.b0; have q3 := hSw.b1; have q4 := hSw.b2; have q5 := hSw.c0; have q6 := hSw.c1; have q7 := hSw.c2; have q8 := hSw.e; clear hSw; go_simp; try with_reducible rfl)
            try simp only [Act.put, List.setIfInBounds_toArray, List.set_cons_zero, List.set_cons_succ]
            refine wpAnyH_take (i := 8) (oi := _) (v := ?_) (by rw [List.getElem?_toArray]; exact rfl) (by kernel_rfl) (by kernel_rfl) (by kernel_rfl) (by exact fun _ _ _ h => h) (Or.inl ⟨by rfl, ?_⟩) hHeld ?_
            rotate_left
            · (intro w hSw; have q0 := hSw.a0; have q1 := hSw.a1; have q2 := hSw.b0; have q3 := hSw.b1; have q4 := hSw.b2; have q5 := hSw.c0; have q6 := hSw.c1; have q7 := hSw.c2; have q8 := hSw.e; clear hSw; go_simp; try with_reducible rfl)
            try simp only [Act.put, List.setIfInBounds_toArray, List.set_cons_zero, List.set_cons_succ]
            refine wpAnyH_take (i := 9) (oi := _) (v := ?_) (by rw [List.getElem?_toArray]; exact rfl) (by kernel_rfl) (by kernel_rfl) (by kernel_rfl) (by exact fun _ _ _ h => h) (Or.inl ⟨by rfl, ?_⟩) hHeld ?_
            rotate_left
            · (intro w hSw; have q0 := hSw.a0; have q1 := hSw.a1; have q2 := hSw.b0; have q3 := hSw.b1; have q4 := hSw.b2; have q5 := hSw.c0; have q6 := hSw.c1; have q7 := hSw.c2; have q8 := hSw.e; clear hSw; go_simp; try with_reducible rfl)
            try simp only [Act.put, List.setIfInBounds_toArray, List.set_cons_zero, List.set_cons_succ]
            refine wpAnyH_take (i := 10) (oi := _) (v := ?_) (by rw [List.getElem?_toArray]; exact rfl) (by kernel_rfl) (by kernel_rfl) (by kernel_rfl) (by exact fun _ _ _ h => h) (Or.inl ⟨by rfl, ?_⟩) hHeld ?_
            rotate_left
            · (intro w hSw; have q0 := hSw.a0; have q1 := hSw.a1; have q2 := hSw.b0; have q3 := hSw.b1; have q4 := hSw.b2; have q5 := hSw.c0; have q6 := hSw.c1; have q7 := hSw.c2; have q8 := hSw.e; clear hSw; go_simp; try with_reducible rfl)
            try simp only [Act.put, List.setIfInBounds_toArray, List.set_cons_zero, List.set_cons_succ]
            refine wpAnyH_take (i := 11) (oi := _) (v := ?_) (by rw [List.getElem?_toArray]; exact rfl) (by kernel_rfl) (by kernel_rfl) (by kernel_rfl) (by exact fun _ _ _ h => h) (Or.inl ⟨by rfl, ?_⟩) hHeld ?_
            rotate_left
            · (intro w hSw; have q0 := hSw.a0; have q1 := hSw.a1; have q2 := hSw.b0; have q3 := hSw.b1; have q4 := hSw.b2; have q5 := hSw.c0; have q6 := hSw.c1; have q7 := hSw.c2; have q8 := hSw.e; clear hSw; go_simp; try with_reducible rfl)
            try simp only [Act.put, List.setIfInBounds_toArray, List.set_cons_zero, List.set_cons_succ]
            refine wpAnyH_take (i := 12) (oi := _) (v := ?_) (by rw [List.getElem?_toArray]; exact rfl) (by kernel_rfl) (by kernel_rfl) (by kernel_rfl) (by exact fun _ _ _ h => h) (Or.inl ⟨by rfl, ?_⟩) hHeld ?_
            rotate_left
            · (intro w hSw; have q0 := hSw.a0; have q1 := hSw.a1; have q2 := hSw.b0; have q3 := hSw.b1; have q4 := hSw.b2; have q5 := hSw.c0; have q6 := hSw.c1; have q7 := hSw.c2; have q8 := hSw.e; clear hSw; go_simp; try with_reducible rfl)
            try simp only [Act.put, List.setIfInBounds_toArray, List.set_cons_zero, List.set_cons_succ]
            refine wpAnyH_take (i := 13) (oi := _) (v := ?_) (by rw [List.getElem?_toArray]; exact rfl) (by kernel_rfl) (by kernel_rfl) (by kernel_rfl) (by exact fun _ _ _ h => h) (Or.inl ⟨by rfl, ?_⟩) hHeld ?_
            rotate_left
            · (intro w hSw; have q0 := hSw.a0; have q1 := hSw.a1; have q2 := hSw.b0; have q3 := hSw.b1; have q4 := hSw.b2; have q5 := hSw.c0; have q6 := hSw.c1; have q7 := hSw.c2; have q8 := hSw.e; clear hSw; go_simp; try with_reducible rfl)
            try simp only [Act.put, List.setIfInBounds_toArray, List.set_cons_zero, List.set_cons_succ]
            refine wpAnyH_take (i := 14) (oi := _) (v := ?_) (by rw [List.getElem?_toArray]; exact rfl) (by kernel_rfl) (by kernel_rfl) (by kernel_rfl) (by exact fun _ _ _ h => h) (Or.inl ⟨by rfl, ?_⟩) hHeld ?_
            rotate_left
            · (intro w hSw; have q0 := hSw.a0; have q1 := hSw.a1; have q2 := hSw.b0; have q3 := hSw.b1; have q4 := hSw.b2; have q5 := hSw.c0; have q6 := hSw.c1; have q7 := hSw.c2; have q8 := hSw.e; clear hSw; go_simp; try with_reducible rfl)
            try simp only [Act.put, List.setIfInBounds_toArray, List.set_cons_zero, List.set_cons_succ]
            refine wpAnyH_take (i := 15) (oi := _) (v := ?_) (by rw [List.getElem?_toArray]; exact rfl) (by kernel_rfl) (by kernel_rfl) (by kernel_rfl) (by exact fun _ _ _ h => h) (Or.inl ⟨by rfl, ?_⟩) hHeld ?_
            rotate_left
            · (intro w hSw; have q0 := hSw.a0; have q1 := hSw.a1; have q2 := hSw.b0; have q3 := hSw.b1; have q4 := hSw.b2; have q5 := hSw.c0; have q6 := hSw.c1; have q7 := hSw.c2; have q8 := hSw.e; clear hSw; go_simp; try with_reducible rfl)
            try simp only [Act.put, List.setIfInBounds_toArray, List.set_cons_zero, List.set_cons_succ]
            refine wpAnyH_take (i := 17) (oi := _) (v := ?_) (by rw [List.getElem?_toArray]; exact rfl) (by kernel_rfl) (by kernel_rfl) (by kernel_rfl) (by exact fun _ _ _ h => h) (Or.inl ⟨by rfl, ?_⟩) hHeld ?_
            rotate_left
            · (intro w hSw; have q0 := hSw.a0; have q1 := hSw.a1; have q2 := hSw.b0; have q3 := hSw.b1; have q4 := hSw.b2; have q5 := hSw.c0; have q6 := hSw.c1; have q7 := hSw.c2; have q8 := hSw.e; clear hSw; go_simp; try with_reducible rfl)
            try simp only [Act.put, List.setIfInBounds_toArray, List.set_cons_zero, List.set_cons_succ]
            refine wpAnyH_take (i := 18) (oi := _) (v := ?_) (by rw [List.getElem?_toArray]; exact rfl) (by kernel_rfl) (by kernel_rfl) (by kernel_rfl) (by exact fun _ _ _ h => h) (Or.inl ⟨by rfl, ?_⟩) hHeld ?_
            rotate_left
            · (intro w hSw; have q0 := hSw.a0; have q1 := hSw.a1; have q2 := hSw.b0; have q3 := hSw.b1; have q4 := hSw.b2; have q5 := hSw.c0; have q6 := hSw.c1; have q7 := hSw.c2; have q8 := hSw.e; clear hSw; go_simp; try with_reducible rfl)
            try simp only [Act.put, List.setIfInBounds_toArray, List.set_cons_zero, List.set_cons_succ]
            refine wpAnyH_take (i := 19) (oi := _) (v := ?_) (by rw [List.getElem?_toArray]; exact rfl) (by kernel_rfl) (by kernel_rfl) (by kernel_rfl) (by exact fun _ _ _ h => h) (Or.inl ⟨by rfl, ?_⟩) hHeld ?_
            rotate_left
            · (intro w hSw; have q0 := hSw.a0; have q1 := hSw.a1; have q2 := hSw.b0; have q3 := hSw.b1; have q4 := hSw.b2; have q5 := hSw.c0; have q6 := hSw.c1; have q7 := hSw.c2; have q8 := hSw.e; clear hSw; go_simp; try with_reducible rfl)
            try simp only [Act.put, List.setIfInBounds_toArray, List.set_cons_zero, List.set_cons_succ]
            refine wpAnyH_take (i := 20) (oi := _) (v := ?_) (by rw [List.getElem?_toArray]; exact rfl) (by kernel_rfl) (by kernel_rfl) (by kernel_rfl) (by exact fun _ _ _ h => h) (Or.inl ⟨by rfl, ?_⟩) hHeld ?_
            rotate_left
            · (intro w hSw; have q0 := hSw.a0; have q1 := hSw.a1; have q2 := hSw.b0; have q3 := hSw.b1; have q4 := hSw.b2; have q5 := hSw.c0; have q6 := hSw.c1; have q7 := hSw.c2; have q8 := hSw.e; clear hSw; go_simp; try with_reducible rfl)
            try simp only [Act.put, List.setIfInBounds_toArray, List.set_cons_zero, List.set_cons_succ]
            refine wpAnyH_take (i := 21) (oi := _) (v := ?_) (by rw [List.getElem?_toArray]; exact rfl) (by kernel_rfl) (by kernel_rfl) (by kernel_rfl) (by exact fun _ _ _ h => h) (Or.inl ⟨by rfl, ?_⟩) hHeld ?_
            rotate_left
            · (intro w hSw; have q0 := hSw.a0; have q1 := hSw.a1; have q2 := hSw.b0; have q3 := hSw.b1; have q4 := hSw.b2; have q5 := hSw.c0; have q6 := hSw.c1; have q7 := hSw.c2; have q8 := hSw.e; clear hSw; go_simp; try with_reducible rfl)
            try simp only [Act.put, List.setIfInBounds_toArray, List.set_cons_zero, List.set_cons_succ]
            refine wpAnyH_take (i := 22) (oi := _) (v := ?_) (by rw [List.getElem?_toArray]; exact rfl) (by kernel_rfl) (by kernel_rfl) (by kernel_rfl) (by exact fun _ _ _ h => h) (Or.inl ⟨by rfl, ?_⟩) hHeld ?_
            rotate_left
            · (intro w hSw; have q0 := hSw.a0; have q1 := hSw.a1; have q2 := hSw.b0; have q3 := hSw.b1; have q4 := hSw.b2; have q5 := hSw.c0; have q6 := hSw.c1; have q7 := hSw.c2; have q8 := hSw.e; clear hSw; go_simp; try with_reducible rfl)
            try simp only [Act.put, List.setIfInBounds_toArray, List.set_cons_zero, List.set_cons_succ]
            refine wpAnyH_take (i := 23) (oi := _) (v := ?_) (by rw [List.getElem?_toArray]; exact rfl) (by kernel_rfl) (by kernel_rfl) (by kernel_rfl) (by exact fun _ _ _ h => h) (Or.inl ⟨by rfl, ?_⟩) hHeld ?_
            rotate_left
            · (intro w hSw; have q0 := hSw.a0; have q1 := hSw.a1; have q2 := hSw.b0; have q3 := hSw.b1; have q4 := hSw.b2; have q5 := hSw.c0; have q6 := hSw.c1; have q7 := hSw.c2; have q8 := hSw.e; clear hSw; go_simp; try with_reducible rfl)
            try simp only [Act.put, List.setIfInBounds_toArray, List.set_cons_zero, List.set_cons_succ]
            refine wpAnyH_ready (rs := [16]) (by kernel_rfl) (by simp) ?_
            refine AllReadyH.cons (o := _) (by rw [List.getElem?_toArray]; exact rfl) (fun K hK => ?_) ?_
            rotate_left
            · exact AllReadyH.nil
            go_simp
            refine (allows_any f m L la n ep _ hHeld.fen1 hx.out).mono ?_; rintro e w7 ⟨rfl, hB7⟩
            go_wp2_with fail
            refine hK.out _ _ (hHeld.next hB7) (fun hHeld => ?_)
            clear hK K
            try simp only [Act.put, List.setIfInBounds_toArray, List.set_cons_zero, List.set_cons_succ]
            refine wpAnyH_ready (rs := [24]) (by kernel_rfl) (by simp) ?_
            refine AllReadyH.cons (o := _) (by rw [List.getElem?_toArray]; exact rfl) (fun K hK => ?_) ?_
            rotate_left
            · exact AllReadyH.nil
            go_simp
            refine (hA2 _ hHeld.fen2).mono ?_; rintro e w8 ⟨rfl, hB8⟩
            go_wp2_with fail
            refine hK.out _ _ (hHeld.next hB8) (fun hHeld => ?_)
            clear hK K
            try simp only [Act.put, List.setIfInBounds_toArray, List.set_cons_zero, List.set_cons_succ]
            refine wpAnyH_take (i := 25) (oi := _) (v := ?_) (by rw [List.getElem?_toArray]; exact rfl) (by kernel_rfl) (by kernel_rfl) (by kernel_rfl) (by exact fun _ _ _ h => h) (Or.inl ⟨by rfl, ?_⟩) hHeld ?_
            rotate_left
            · (intro w hSw; have q0 := hSw.a0; have q1 := hSw.a1; have q2 := hSw.b0; have q3 := hSw.b1; have q4 := hSw.b2; have q5 := hSw.c0; have q6 := hSw.c1; have q7 := hSw.c2; have q8 := hSw.e; clear hSw; go_simp; try with_reducible rfl)
            try simp only [Act.put, List.setIfInBounds_toArray, List.set_cons_zero, List.set_cons_succ]
            refine wpAnyH_take (i := 26) (oi := _) (v := ?_) (by rw [List.getElem?_toArray]; exact rfl) (by kernel_rfl) (by kernel_rfl) (by kernel_rfl) (by exact fun _ _ _ h => h) (Or.inl ⟨by rfl, ?_⟩) hHeld ?_
            rotate_left
            · (intro w hSw; have q0 := hSw.a0; have q1 := hSw.a1; have q2 := hSw.b0; have q3 := hSw.b1; have q4 := hSw.b2; have q5 := hSw.c0; have q6 := hSw.c1; have q7 := hSw.c2; have q8 := hSw.e; clear hSw; go_simp; try with_reducible rfl)
            try simp only [Act.put, List.setIfInBounds_toArray, List.set_cons_zero, List.set_cons_succ]
            refine wpAnyH_done (by kernel_rfl) ?_ _
            have HT8 := Lib.hid (HT5.out.below hHeld.low)
            have n1 := hHeld.a0
            have n2 := hHeld.a1
            clear hHeld HS HT5 hA2
            have hL1 : (L.length : Int) ≤ 9223372036854775807 := by omega
            go_wp2_with fail
            refine (grant_any f m L la n _ HT8.out.a.fen hx.out la0 hL1).mono ?_
            rintro e w9 ⟨rfl, hG⟩
            have HG := Lib.hid hG
            have p1 : w9.cell? ⟨wr.heap.size, 0, none⟩ = some (.int .u64 n.1) := (hG.2.cell (p := ⟨wr.heap.size, 0, none⟩) (World.block_lt_of_cell? _ _ n1) (by intro h; have := HT.out.a.fen.lt; simp only at h; rcases h with h | h <;> omega)).trans n1
            have p2 : w9.cell? ⟨wr.heap.size, 1, none⟩ = some (.string n.2) := (hG.2.cell (p := ⟨wr.heap.size, 1, none⟩) (World.block_lt_of_cell? _ _ n2) (by intro h; have := HT.out.a.fen.lt; simp only at h; rcases h with h | h <;> omega)).trans n2
            have hL2 : (M.length : Int) ≤ 9223372036854775807 := by have := HT.out.sm.len; omega
            clear hG n1 n2
            go_wp2_with fail
            refine (grant_any f2 m2 M la n _ (HT8.out.second HG.out) hx.out la0 hL2).mono ?_
            rintro e w10 ⟨rfl, hG2⟩
            rw [← HT8.out.sm.grantV, ← HT8.out.sm.grantE]
            have HT10 := Lib.hid (HT8.out.both HG.out hG2)
            have HLL : Hid ((grantL L la n).length ≤ 200 + (k + 1) ∧ 0 ≤ grantN L la n) := ⟨by have := grantL_len L la n; omega, by
              by_cases he : grantE L la n = 0
              · rw [(grant_yes he).2.2]; omega
              · rw [(grant_no rfl he).2.2]; omega⟩
            clear HG hG2 HT8 HT hL1 hL2 p1 p2
            go_wp2_with fail
            go_roundg (gk - 1)
            case rel => exact ⟨k + 1, _, _, _, by omega, by go_num, HT10.out, HLL.out⟩
            case measure => omega
          · go_wp2_with fail
            have HB := Lib.hid HT.out.a.low
            clear HT
            refine (works_any _).mono ?_
            rintro e w3 ⟨rfl, hB⟩
            have HB2 := Lib.hid (HB.out.trans (hB.mono HB.out.size))
            clear HB hB
            go_wp2_with fail
            go_ret
            exact ⟨ret_bool rfl, HB2.out⟩
  · go_wp2_with fail
    refine (works_any _).mono ?_
    rintro e w1 ⟨rfl, hB⟩
    go_wp2_with fail
    go_ret
    exact ⟨ret_bool rfl, hB⟩
theorem back_row (v : Value) (W : World) (h : ∃ l, ReadsK encS 4 W v l ∧ l.length ≤ maxLen ∧ ∀ x ∈ l, x.2.1.2.size ≤ maxLen) :
    Calls Try.prog 6 #[v] W fun e w' => e = .returned (.bool true) ∧ Below W.heap.size W w' := by
  obtain ⟨l, hr, hl, hz⟩ := h
  unfold maxLen at hl hz
  exact back_any v l W hr (fun x hx => by have := hz x hx; omega) (by omega)
end Go.Proofs.Ytbelafkklblidaa
