/- Walk: EpochPlays. -/
import Derived.Test.YtbelafkklblidaaPlay1
import Derived.Deep.CutBlock
namespace Go.Proofs.Ytbelafkklblidaa
open Go.RowKit Go.Sort Go.Lib

set_option maxHeartbeats 16000000 in
set_option maxRecDepth 100000 in
theorem plays_any (last : Int) (u v : Value) (rows : List Gr) (l : List Stp) (w0 : World) (hlast : 0 ≤ last) (hu : ReadsK encG 3 w0 u rows) (hv : ReadsK encS 4 w0 v l) (hzu : ∀ g ∈ rows, g.1.2.size ≤ 9223372036854775807) (hz : ∀ x ∈ l, x.2.1.2.size ≤ 9223372036854775807) (hl : (l.length : Int) ≤ 9223372036854775807) (hr : (rows.length : Int) ≤ 9223372036854775807) :
    Calls Try.prog 3 #[.int .u64 last, u, v] w0 fun e w' => e = .returned (.bool true) ∧ Below w0.heap.size w0 w' := by
  obtain ⟨a, cap, rfl⟩ := hv.slice
  obtain ⟨a2, cap2, rfl⟩ := hu.slice
  have HV := Lib.hid hv
  have HU := Lib.hid hu
  have HZ := Lib.hid hz
  have HZU := Lib.hid hzu
  clear hv hz hu hzu
  go_enter Try.func3, Try.ntmps3
  go_wp2_with fail
  refine (heavy_any _ _ l rows w0 HV.out HU.out hl hr).mono ?_
  rintro e w ⟨b, rfl, rfl, hb⟩
  cases b
  · have hl2 := (hb rfl).1
    have hr2 := (hb rfl).2
    clear hb hl hr
    go_wp2_with (at_builtin; refine wpList_app rfl _ _ rfl (B := w.heap.size) (xs := []) rfl rfl (World.ownsRow_nil _ _ _ _) HU.out (by simp; omega) (Nat.le_refl _) ?_)
    intro v2 w2 hown hg
    have HB2 := Lib.hid (app_below (World.ownsRow_nil w w.heap.size _ _) (Nat.le_refl _) hg)
    have HR2 : Hid (ReadsK encG 3 w2 v2 rows) := Lib.hid (own_readsG (B := w.heap.size) (by simpa using hown))
    clear hown hg
    go_wp2_with fail
    refine (new_any v2 rows last w2 HR2.out HZU.out (by omega)).mono ?_
    rintro e w3 hnew
    have HNEW := Lib.hid hnew
    clear hnew HR2
    by_cases hne : newE last rows = 0
    · obtain ⟨f, m, rfl, hf, hm, hF, hB3⟩ := NewP.yes hne HNEW.out
      have HB3 := Lib.hid (HB2.out.trans (hB3.mono HB2.out.size))
      have HF := Lib.hid hF
      clear HNEW hB3 hF
      go_wp2_with fail
      refine (rnew_any _ rows last w3 (HU.out.below HB3.out) HZU.out (by omega)).mono ?_
      rintro e w4 hrn
      have HRN := Lib.hid (hrn.yes hne)
      clear hrn
      obtain ⟨r, vR, rfl, hRF, hpm, hB4⟩ := HRN.out
      clear HRN
      have HQ : Hid (Tq w f m w3.heap.size r rows (rowsR rows) last vR w4) := by
        have hlt := HF.out.lt
        have h1 := HB2.out.size
        have h2 := HB3.out.size
        refine ⟨⟨by omega, by omega, HF.out.below hB4, HB3.out.trans (hB4.mono h2)⟩, hRF, hlt.1, hlt.2.1, h2, Rl.rows (newE_nodup hne), hlast, newE_lo hne, HZU.out⟩
      clear HF hB4 hRF hpm hf hm hne HB2 HB3
      generalize w3.heap.size = R0 at *
      go_wp2_with fail
      go_loopg [11] l.length (fun gk si wr => ∃ (k : Nat) (L R : List Gr) (la : Int) (vR : Value), gk + k = l.length ∧ si = .int .i64 k ∧ Tq w f m R0 r L R la vR wr ∧ L.length ≤ 200 + k)
      case atStart => exact ⟨0, rows, rowsR rows, last, vR, by omega, rfl, HQ.out, by omega⟩
      case round =>
        clear HQ
        obtain ⟨k, L, R, la, vR, hlen, rfl, hQ, hLk⟩ := hrel
        have HQ := Lib.hid hQ
        clear hQ
        have hRL : Hid (R.length = L.length) := Lib.hid HQ.out.rl.len
        by_cases hlt : k < l.length
        · obtain ⟨b, off, c, he, hb, hc⟩ := (HV.out.below HQ.out.a.low).at (by omega)
          injection he with he1 he2 he3
          subst he1
          have hx := Lib.hid (HZ.out _ (List.getElem_mem hlt))
          have hcc := hc k hlt
          clear hc he2 he3
          generalize l[k] = x at hcc hx
          obtain ⟨op, n, ep⟩ := x
          have c0 : wr.cell? ⟨b, off + k * 4, none⟩ = some (.int .i64 op) := hcc 0 _ rfl
          have c1 : wr.cell? ⟨b, off + k * 4 + 1, none⟩ = some (.int .u64 n.1) := hcc 1 _ rfl
          have c2 : wr.cell? ⟨b, off + k * 4 + 2, none⟩ = some (.string n.2) := hcc 2 _ rfl
          have c3 : wr.cell? ⟨b, off + k * 4 + 3, none⟩ = some (.int .u64 ep) := hcc 3 _ rfl
          dsimp only at hx
          clear hcc hb
          go_upto_block 2 with fail
          have HQ2 := Lib.hid (HQ.out.below ((Below.refl _ _).alloc (Nat.le_refl _) (stepOb (op, n, ep))))
          have HS : (wr.alloc (stepOb (op, n, ep))).heap[wr.heap.size]? = some (stepOb (op, n, ep)) := heap_alloc_new _ _
          have HNE : Hid (wr.heap.size ≠ f ∧ wr.heap.size ≠ m ∧ wr.heap.size ≠ r) := by
            have h1 := HQ.out.a.fen.lt
            have h2 := HQ.out.b.lt
            exact ⟨by omega, by omega, by omega⟩
          change Code.wp _ _ _ _ (wr.alloc (stepOb (op, n, ep)))
          generalize wr.alloc (stepOb (op, n, ep)) = ws at *
          generalize wr.heap.size = s at *
          clear c0 c1 c2 c3 HQ
          have hsl0 : s < ws.heap.size := (Array.getElem?_eq_some_iff.1 HS).1
          have hRl : R.length ≤ 10000 := by have := hRL.out; omega
          go_cut [13] (fun t wc => t = .bool true ∧ (∃ (L R : List Gr) (la : Int) (vR : Value), Tq w f m R0 r L R la vR wc ∧ L.length ≤ 200 + (k + 1)) ∧ wc.heap[s]? = some (stepOb (op, n, ep)))
          case first =>
            obtain ⟨k0, k1, k2, k3⟩ := stepO_cells HS
            have la0 := HQ2.out.la0
            have hsf : ¬ InF f m s := fun e => by rcases e with e | e; exact HNE.out.1 e; exact HNE.out.2.1 e
            have hsr : ¬ s = r := HNE.out.2.2
            by_cases h0 : op = 0
            · subst h0
              go_wp2_with fail
              refine (grant_any f m L la n _ HQ2.out.a.fen hx.out la0 (by omega)).mono ?_
              rintro e w7 ⟨rfl, hN7, hF7⟩
              have j1 := (hF7.cell (p := ⟨s, 1, none⟩) hsl0 hsf).trans k1
              have j2 := (hF7.cell (p := ⟨s, 2, none⟩) hsl0 hsf).trans k2
              have HN7 := Lib.hid hN7
              have HF7 := Lib.hid hF7
              clear hN7 hF7 k0 k1 k2 k3
              go_wp2_with fail
              refine (rgrant_any R0 r vR R la n _ (HQ2.out.ref HF7.out) la0 hRl HQ2.out.szR hx.out).mono ?_
              rintro e w8 ⟨rfl, v8, hR8, hFr8⟩
              rw [HQ2.out.rl.grantV HQ2.out.lo, HQ2.out.rl.grantE HQ2.out.lo]
              rw [HQ2.out.rl.grantN HQ2.out.lo] at hR8
              have HQ8 := Lib.hid (HQ2.out.both HN7.out HF7.out hR8 hFr8 (HQ2.out.rl.grantL HQ2.out.lo la n) (grantN_0 la0 n) (grantL_lo HQ2.out.lo la0 n) (grantL_sz HQ2.out.sz hx.out))
              have HS8 := Lib.hid (HQ2.out.keep HF7.out hFr8 HS HNE.out.1 HNE.out.2.1 HNE.out.2.2)
              clear HN7 HF7 hR8 hFr8 j1 j2 HS
              go_wp2_with fail
              go_meet
              exact ⟨by simp, ⟨_, _, _, _, HQ8.out, by have := grantL_len L la n; omega⟩, HS8.out⟩
            · by_cases h1 : op = 1
              · subst h1
                go_upto_region 20 with fail
                have hsl : s < ws.drew.heap.size := hsl0
                have HQD := Lib.hid (HQ2.out.below (Below.refl _ _).drew)
                clear k0 k3
                go_wp2_with fail
                refine wp_region_held_drew (S := fun x => x.cell? ⟨s, 1, none⟩ = some (.int .u64 n.1) ∧ x.cell? ⟨s, 2, none⟩ = some (.string n.2)) (by kernel_rfl) (⟨k1, k2⟩) (fun hHeld => ?_)
                refine wpAnyH_take (i := 0) (oi := _) (v := ?_) (by rw [List.getElem?_toArray]; exact rfl) (by kernel_rfl) (by kernel_rfl) (by kernel_rfl) (by exact fun _ _ _ h => h) (Or.inl ⟨by rfl, ?_⟩) hHeld ?_
                rotate_left
                · (intro w hSw; have q1 := hSw.1; have q2 := hSw.2; clear hSw; go_simp; try with_reducible rfl)
                try simp only [Act.put, List.setIfInBounds_toArray, List.set_cons_zero, List.set_cons_succ]
                refine wpAnyH_take (i := 1) (oi := _) (v := ?_) (by rw [List.getElem?_toArray]; exact rfl) (by kernel_rfl) (by kernel_rfl) (by kernel_rfl) (by exact fun _ _ _ h => h) (Or.inl ⟨by rfl, ?_⟩) hHeld ?_
                rotate_left
                · (intro w hSw; have q1 := hSw.1; have q2 := hSw.2; clear hSw; go_simp; try with_reducible rfl)
                try simp only [Act.put, List.setIfInBounds_toArray, List.set_cons_zero, List.set_cons_succ]
                refine wpAnyH_take (i := 2) (oi := _) (v := ?_) (by rw [List.getElem?_toArray]; exact rfl) (by kernel_rfl) (by kernel_rfl) (by kernel_rfl) (by exact fun _ _ _ h => h) (Or.inl ⟨by rfl, ?_⟩) hHeld ?_
                rotate_left
                · (intro w hSw; have q1 := hSw.1; have q2 := hSw.2; clear hSw; go_simp; try with_reducible rfl)
                try simp only [Act.put, List.setIfInBounds_toArray, List.set_cons_zero, List.set_cons_succ]
                refine wpAnyH_take (i := 4) (oi := _) (v := ?_) (by rw [List.getElem?_toArray]; exact rfl) (by kernel_rfl) (by kernel_rfl) (by kernel_rfl) (by exact fun _ _ _ h => h) (Or.inl ⟨by rfl, ?_⟩) hHeld ?_
                rotate_left
                · (intro w hSw; have q1 := hSw.1; have q2 := hSw.2; clear hSw; go_simp; try with_reducible rfl)
                try simp only [Act.put, List.setIfInBounds_toArray, List.set_cons_zero, List.set_cons_succ]
                refine wpAnyH_take (i := 5) (oi := _) (v := ?_) (by rw [List.getElem?_toArray]; exact rfl) (by kernel_rfl) (by kernel_rfl) (by kernel_rfl) (by exact fun _ _ _ h => h) (Or.inl ⟨by rfl, ?_⟩) hHeld ?_
                rotate_left
                · (intro w hSw; have q1 := hSw.1; have q2 := hSw.2; clear hSw; go_simp; try with_reducible rfl)
                try simp only [Act.put, List.setIfInBounds_toArray, List.set_cons_zero, List.set_cons_succ]
                refine wpAnyH_take (i := 6) (oi := _) (v := ?_) (by rw [List.getElem?_toArray]; exact rfl) (by kernel_rfl) (by kernel_rfl) (by kernel_rfl) (by exact fun _ _ _ h => h) (Or.inl ⟨by rfl, ?_⟩) hHeld ?_
                rotate_left
                · (intro w hSw; have q1 := hSw.1; have q2 := hSw.2; clear hSw; go_simp; try with_reducible rfl)
                try simp only [Act.put, List.setIfInBounds_toArray, List.set_cons_zero, List.set_cons_succ]
                refine wpAnyH_ready (rs := [3]) (by kernel_rfl) (by simp) ?_
                refine AllReadyH.cons (o := _) (by rw [List.getElem?_toArray]; exact rfl) (fun K hK => ?_) ?_
                rotate_left
                · exact AllReadyH.nil
                go_simp
                refine (take_any f m L la n _ (HQ2.out.a.fen.below (Below.refl _ _).drew)).mono ?_; rintro e w7 ⟨rfl, hN7, hF7⟩
                go_wp2_with fail
                refine hK.out _ _ (⟨(hF7.cell (p := ⟨s, 1, none⟩) hsl hsf).trans k1, (hF7.cell (p := ⟨s, 2, none⟩) hsl hsf).trans k2⟩) (fun hHeld => ?_)
                clear hK K
                try simp only [Act.put, List.setIfInBounds_toArray, List.set_cons_zero, List.set_cons_succ]
                refine wpAnyH_ready (rs := [7]) (by kernel_rfl) (by simp) ?_
                refine AllReadyH.cons (o := _) (by rw [List.getElem?_toArray]; exact rfl) (fun K hK => ?_) ?_
                rotate_left
                · exact AllReadyH.nil
                go_simp
                refine (rtake_any R0 r vR R la n _ (HQD.out.ref hF7) (by omega)).mono ?_; rintro e w8 ⟨rfl, v8, hR8, hFr8⟩; rw [HQ2.out.rl.takeE HQ2.out.lo]
                go_wp2_with fail
                refine hK.out _ _ (⟨(hFr8.cell (p := ⟨s, 1, none⟩) (Nat.lt_of_lt_of_le hsl hF7.size) hsr).trans ((hF7.cell (p := ⟨s, 1, none⟩) hsl hsf).trans k1), (hFr8.cell (p := ⟨s, 2, none⟩) (Nat.lt_of_lt_of_le hsl hF7.size) hsr).trans ((hF7.cell (p := ⟨s, 2, none⟩) hsl hsf).trans k2)⟩) (fun hHeld => ?_)
                clear hK K
                try simp only [Act.put, List.setIfInBounds_toArray, List.set_cons_zero, List.set_cons_succ]
                refine wpAnyH_take (i := 8) (oi := _) (v := ?_) (by rw [List.getElem?_toArray]; exact rfl) (by kernel_rfl) (by kernel_rfl) (by kernel_rfl) (by exact fun _ _ _ h => h) (Or.inl ⟨by rfl, ?_⟩) hHeld ?_
                rotate_left
                · (intro w hSw; have q1 := hSw.1; have q2 := hSw.2; clear hSw; go_simp; try with_reducible rfl)
                try simp only [Act.put, List.setIfInBounds_toArray, List.set_cons_zero, List.set_cons_succ]
                refine wpAnyH_take (i := 9) (oi := _) (v := ?_) (by rw [List.getElem?_toArray]; exact rfl) (by kernel_rfl) (by kernel_rfl) (by kernel_rfl) (by exact fun _ _ _ h => h) (Or.inl ⟨by rfl, ?_⟩) hHeld ?_
                rotate_left
                · (intro w hSw; have q1 := hSw.1; have q2 := hSw.2; clear hSw; go_simp; try with_reducible rfl)
                try simp only [Act.put, List.setIfInBounds_toArray, List.set_cons_zero, List.set_cons_succ]
                refine wpAnyH_done (by kernel_rfl) ?_ _
                have HQ8 := Lib.hid (HQD.out.both hN7 hF7 hR8 hFr8 (HQ2.out.rl.take HQ2.out.lo n) la0 (fun p hp => HQ2.out.lo p (takeL_mem hp)) (fun p hp => HQ2.out.sz p (takeL_mem hp)))
                have HS8 := Lib.hid (HQD.out.keep hF7 hFr8 (show ws.drew.heap[s]? = _ from HS) HNE.out.1 HNE.out.2.1 HNE.out.2.2)
                clear hHeld hN7 hF7 hR8 hFr8 k1 k2 HS HQD
                go_wp2_with fail
                go_meet
                exact ⟨by simp, ⟨_, _, _, _, HQ8.out, by have := takeL_len (L := L) n; omega⟩, HS8.out⟩
              · by_cases h2 : op = 2
                · subst h2
                  go_upto_region 22 with fail
                  have hsl : s < ws.drew.heap.size := hsl0
                  have HQD := Lib.hid (HQ2.out.below (Below.refl _ _).drew)
                  clear k0 k3
                  go_wp2_with fail
                  refine wp_region_held_drew (S := fun x => x.cell? ⟨s, 1, none⟩ = some (.int .u64 n.1) ∧ x.cell? ⟨s, 2, none⟩ = some (.string n.2)) (by kernel_rfl) (⟨k1, k2⟩) (fun hHeld => ?_)
                  refine wpAnyH_take (i := 0) (oi := _) (v := ?_) (by rw [List.getElem?_toArray]; exact rfl) (by kernel_rfl) (by kernel_rfl) (by kernel_rfl) (by exact fun _ _ _ h => h) (Or.inl ⟨by rfl, ?_⟩) hHeld ?_
                  rotate_left
                  · (intro w hSw; have q1 := hSw.1; have q2 := hSw.2; clear hSw; go_simp; try with_reducible rfl)
                  try simp only [Act.put, List.setIfInBounds_toArray, List.set_cons_zero, List.set_cons_succ]
                  refine wpAnyH_take (i := 1) (oi := _) (v := ?_) (by rw [List.getElem?_toArray]; exact rfl) (by kernel_rfl) (by kernel_rfl) (by kernel_rfl) (by exact fun _ _ _ h => h) (Or.inl ⟨by rfl, ?_⟩) hHeld ?_
                  rotate_left
                  · (intro w hSw; have q1 := hSw.1; have q2 := hSw.2; clear hSw; go_simp; try with_reducible rfl)
                  try simp only [Act.put, List.setIfInBounds_toArray, List.set_cons_zero, List.set_cons_succ]
                  refine wpAnyH_take (i := 2) (oi := _) (v := ?_) (by rw [List.getElem?_toArray]; exact rfl) (by kernel_rfl) (by kernel_rfl) (by kernel_rfl) (by exact fun _ _ _ h => h) (Or.inl ⟨by rfl, ?_⟩) hHeld ?_
                  rotate_left
                  · (intro w hSw; have q1 := hSw.1; have q2 := hSw.2; clear hSw; go_simp; try with_reducible rfl)
                  try simp only [Act.put, List.setIfInBounds_toArray, List.set_cons_zero, List.set_cons_succ]
                  refine wpAnyH_take (i := 3) (oi := _) (v := ?_) (by rw [List.getElem?_toArray]; exact rfl) (by kernel_rfl) (by kernel_rfl) (by kernel_rfl) (by exact fun _ _ _ h => h) (Or.inl ⟨by rfl, ?_⟩) hHeld ?_
                  rotate_left
                  · (intro w hSw; have q1 := hSw.1; have q2 := hSw.2; clear hSw; go_simp; try with_reducible rfl)
                  try simp only [Act.put, List.setIfInBounds_toArray, List.set_cons_zero, List.set_cons_succ]
                  refine wpAnyH_take (i := 5) (oi := _) (v := ?_) (by rw [List.getElem?_toArray]; exact rfl) (by kernel_rfl) (by kernel_rfl) (by kernel_rfl) (by exact fun _ _ _ h => h) (Or.inl ⟨by rfl, ?_⟩) hHeld ?_
                  rotate_left
                  · (intro w hSw; have q1 := hSw.1; have q2 := hSw.2; clear hSw; go_simp; try with_reducible rfl)
                  try simp only [Act.put, List.setIfInBounds_toArray, List.set_cons_zero, List.set_cons_succ]
                  refine wpAnyH_take (i := 6) (oi := _) (v := ?_) (by rw [List.getElem?_toArray]; exact rfl) (by kernel_rfl) (by kernel_rfl) (by kernel_rfl) (by exact fun _ _ _ h => h) (Or.inl ⟨by rfl, ?_⟩) hHeld ?_
                  rotate_left
                  · (intro w hSw; have q1 := hSw.1; have q2 := hSw.2; clear hSw; go_simp; try with_reducible rfl)
                  try simp only [Act.put, List.setIfInBounds_toArray, List.set_cons_zero, List.set_cons_succ]
                  refine wpAnyH_take (i := 7) (oi := _) (v := ?_) (by rw [List.getElem?_toArray]; exact rfl) (by kernel_rfl) (by kernel_rfl) (by kernel_rfl) (by exact fun _ _ _ h => h) (Or.inl ⟨by rfl, ?_⟩) hHeld ?_
                  rotate_left
                  · (intro w hSw; have q1 := hSw.1; have q2 := hSw.2; clear hSw; go_simp; try with_reducible rfl)
                  try simp only [Act.put, List.setIfInBounds_toArray, List.set_cons_zero, List.set_cons_succ]
                  refine wpAnyH_take (i := 8) (oi := _) (v := ?_) (by rw [List.getElem?_toArray]; exact rfl) (by kernel_rfl) (by kernel_rfl) (by kernel_rfl) (by exact fun _ _ _ h => h) (Or.inl ⟨by rfl, ?_⟩) hHeld ?_
                  rotate_left
                  · (intro w hSw; have q1 := hSw.1; have q2 := hSw.2; clear hSw; go_simp; try with_reducible rfl)
                  try simp only [Act.put, List.setIfInBounds_toArray, List.set_cons_zero, List.set_cons_succ]
                  refine wpAnyH_ready (rs := [4]) (by kernel_rfl) (by simp) ?_
                  refine AllReadyH.cons (o := _) (by rw [List.getElem?_toArray]; exact rfl) (fun K hK => ?_) ?_
                  rotate_left
                  · exact AllReadyH.nil
                  go_simp
                  refine (drop_any f m L la n.1 _ (HQ2.out.a.fen.below (Below.refl _ _).drew) (by omega)).mono ?_; rintro e w7 ⟨rfl, hN7, hF7⟩
                  go_wp2_with fail
                  refine hK.out _ _ (⟨(hF7.cell (p := ⟨s, 1, none⟩) hsl hsf).trans k1, (hF7.cell (p := ⟨s, 2, none⟩) hsl hsf).trans k2⟩) (fun hHeld => ?_)
                  clear hK K
                  try simp only [Act.put, List.setIfInBounds_toArray, List.set_cons_zero, List.set_cons_succ]
                  refine wpAnyH_ready (rs := [9]) (by kernel_rfl) (by simp) ?_
                  refine AllReadyH.cons (o := _) (by rw [List.getElem?_toArray]; exact rfl) (fun K hK => ?_) ?_
                  rotate_left
                  · exact AllReadyH.nil
                  go_simp
                  refine (rdrop_any R0 r vR R la n.1 _ (HQD.out.ref hF7) hRl).mono ?_; rintro e w8 ⟨rfl, v8, hR8, hFr8⟩; rw [HQ2.out.rl.len, (HQ2.out.rl.drop n.1).len]
                  go_wp2_with fail
                  refine hK.out _ _ (⟨(hFr8.cell (p := ⟨s, 1, none⟩) (Nat.lt_of_lt_of_le hsl hF7.size) hsr).trans ((hF7.cell (p := ⟨s, 1, none⟩) hsl hsf).trans k1), (hFr8.cell (p := ⟨s, 2, none⟩) (Nat.lt_of_lt_of_le hsl hF7.size) hsr).trans ((hF7.cell (p := ⟨s, 2, none⟩) hsl hsf).trans k2)⟩) (fun hHeld => ?_)
                  clear hK K
                  try simp only [Act.put, List.setIfInBounds_toArray, List.set_cons_zero, List.set_cons_succ]
                  refine wpAnyH_take (i := 10) (oi := _) (v := ?_) (by rw [List.getElem?_toArray]; exact rfl) (by kernel_rfl) (by kernel_rfl) (by kernel_rfl) (by exact fun _ _ _ h => h) (Or.inl ⟨by rfl, ?_⟩) hHeld ?_
                  rotate_left
                  · (intro w hSw; have q1 := hSw.1; have q2 := hSw.2; clear hSw; go_simp; try with_reducible rfl)
                  try simp only [Act.put, List.setIfInBounds_toArray, List.set_cons_zero, List.set_cons_succ]
                  refine wpAnyH_take (i := 11) (oi := _) (v := ?_) (by rw [List.getElem?_toArray]; exact rfl) (by kernel_rfl) (by kernel_rfl) (by kernel_rfl) (by exact fun _ _ _ h => h) (Or.inl ⟨by rfl, ?_⟩) hHeld ?_
                  rotate_left
                  · (intro w hSw; have q1 := hSw.1; have q2 := hSw.2; clear hSw; go_simp; try with_reducible rfl)
                  try simp only [Act.put, List.setIfInBounds_toArray, List.set_cons_zero, List.set_cons_succ]
                  refine wpAnyH_done (by kernel_rfl) ?_ _
                  have HQ8 := Lib.hid (HQD.out.both hN7 hF7 hR8 hFr8 (HQ2.out.rl.drop n.1) la0 (fun p hp => HQ2.out.lo p (dropL_mem hp)) (fun p hp => HQ2.out.sz p (dropL_mem hp)))
                  have HS8 := Lib.hid (HQD.out.keep hF7 hFr8 (show ws.drew.heap[s]? = _ from HS) HNE.out.1 HNE.out.2.1 HNE.out.2.2)
                  clear hHeld hN7 hF7 hR8 hFr8 k1 k2 HS HQD
                  go_wp2_with fail
                  go_meet
                  exact ⟨by simp, ⟨_, _, _, _, HQ8.out, by have := dropL_len (L := L) n.1; omega⟩, HS8.out⟩
                · go_wp2_with fail
                  go_meet
                  exact ⟨rfl, ⟨L, R, la, vR, HQ2.out, by omega⟩, HS⟩
          case rest =>
            clear HQ2 HS hRL hRl
            obtain ⟨rfl, ⟨L, R, la, vR, hQ, hLk⟩, hS⟩ := hcut
            have HQ := Lib.hid hQ
            clear hQ
            have hRl : R.length ≤ 10000 := by rw [HQ.out.rl.len]; omega
            obtain ⟨k0, k1, k2, k3⟩ := stepO_cells hS
            obtain ⟨og, hog⟩ := grV_form (ownG L n)
            obtain ⟨ob, hob⟩ : ∃ ob, (ownG L n).isSome = ob := ⟨_, rfl⟩
            have HO := Lib.hid (And.intro hog hob)
            have HO2 : Hid (grV (ownR R n) = .agg #[.int .u64 og.1.1, .string og.1.2, .int .u64 og.2] ∧ (ownR R n).isSome = ob) := Lib.hid (by rw [HQ.out.rl.own HQ.out.lo]; exact HO.out)
            clear hog hob k0 hS
            have HA : Hid (∀ (w : World) o, Below w.heap.size w (w.alloc o)) := fun w o => (Below.refl _ _).alloc (Nat.le_refl _) o
            go_wp2_with fail
            refine (owner_val f m L la n _ HQ.out.a.fen hx.out HO.out.1 HO.out.2).mono ?_
            rintro e w4 ⟨rfl, hB⟩
            have HQ4 := Lib.hid ((HQ.out.below hB).below (HA.out w4 (.cells #[.int .u64 og.1.1, .string og.1.2, .int .u64 og.2] 43)))
            replace k1 := cell_keep (HA.out w4 (.cells #[.int .u64 og.1.1, .string og.1.2, .int .u64 og.2] 43)) (cell_keep hB k1)
            replace k2 := cell_keep (HA.out w4 (.cells #[.int .u64 og.1.1, .string og.1.2, .int .u64 og.2] 43)) (cell_keep hB k2)
            replace k3 := cell_keep (HA.out w4 (.cells #[.int .u64 og.1.1, .string og.1.2, .int .u64 og.2] 43)) (cell_keep hB k3)
            clear HQ hB
            go_wp2_with fail
            refine (rowner_val R0 r vR R la n _ HQ4.out.b hRl HQ4.out.szR hx.out HO2.out.1 HO2.out.2).mono ?_
            rintro e w5 ⟨rfl, hB⟩
            have HQ5 := Lib.hid ((HQ4.out.below hB).below (HA.out w5 (.cells #[.int .u64 og.1.1, .string og.1.2, .int .u64 og.2] 43)))
            have g0 : (w4.alloc (.cells #[.int .u64 og.1.1, .string og.1.2, .int .u64 og.2] 43)).cell? ⟨w4.heap.size, 0, none⟩ = some (.int .u64 og.1.1) := by simp
            have g1 : (w4.alloc (.cells #[.int .u64 og.1.1, .string og.1.2, .int .u64 og.2] 43)).cell? ⟨w4.heap.size, 1, none⟩ = some (.string og.1.2) := by simp
            have g2 : (w4.alloc (.cells #[.int .u64 og.1.1, .string og.1.2, .int .u64 og.2] 43)).cell? ⟨w4.heap.size, 2, none⟩ = some (.int .u64 og.2) := by simp
            have HS : Hid (Sr f m R0 r L R la vR (w5.alloc (.cells #[.int .u64 og.1.1, .string og.1.2, .int .u64 og.2] 43)) s w4.heap.size w5.heap.size n ep og (w5.alloc (.cells #[.int .u64 og.1.1, .string og.1.2, .int .u64 og.2] 43))) :=
              ⟨HQ5.out.a.fen, HQ5.out.b, Below.refl _ _, cell_keep (HA.out w5 _) (cell_keep hB k1), cell_keep (HA.out w5 _) (cell_keep hB k2), cell_keep (HA.out w5 _) (cell_keep hB k3),
                cell_keep (HA.out w5 _) (cell_keep hB g0), cell_keep (HA.out w5 _) (cell_keep hB g1), cell_keep (HA.out w5 _) (cell_keep hB g2), by simp, by simp, by simp⟩
            have hRA : ∀ x w, RFen w R0 r vR R la → Calls Try.prog 20 #[.pointer (some ⟨r, 0, none⟩), .agg #[.int .u64 n.1, .string n.2], .int .u64 x] w fun e w' => e = .returned (.int .i64 (allowE L n x)) ∧ Below w.heap.size w w' := fun x w h => by
              rw [← HQ5.out.rl.allow HQ5.out.lo]; exact rallows_any R0 r vR R la n x w h hRl HQ5.out.szR hx.out
            clear HQ4 hB k1 k2 k3 g0 g1 g2 HO HO2
            go_wp2_with fail
            generalize w5.alloc (.cells #[.int .u64 og.1.1, .string og.1.2, .int .u64 og.2] 43) = wq at *
            refine wp_region_held_drew (S := Sr f m R0 r L R la vR wq s w4.heap.size w5.heap.size n ep og) (by kernel_rfl) (HS.out.next (Below.refl _ _).drew) (fun hHeld => ?_)
            refine wpAnyH_take (i := 0) (oi := _) (v := ?_) (by rw [List.getElem?_toArray]; exact rfl) (by kernel_rfl) (by kernel_rfl) (by kernel_rfl) (by exact fun _ _ _ h => h) (Or.inl ⟨by rfl, ?_⟩) hHeld ?_
            rotate_left
            · (intro w hSw; have q0 := hSw.a0; have q1 := hSw.a1; have q2 := hSw.a2; have q3 := hSw.b0; have q4 := hSw.b1; have q5 := hSw.b2; have q6 := hSw.c0; have q7 := hSw.c1; have q8 := hSw.c2; have q9 := hSw.fen2.c1; clear hSw; go_simp; try with_reducible rfl)
            try simp only [Act.put, List.setIfInBounds_toArray, List.set_cons_zero, List.set_cons_succ]
            refine wpAnyH_take (i := 1) (oi := _) (v := ?_) (by rw [List.getElem?_toArray]; exact rfl) (by kernel_rfl) (by kernel_rfl) (by kernel_rfl) (by exact fun _ _ _ h => h) (Or.inl ⟨by rfl, ?_⟩) hHeld ?_
            rotate_left
            · (intro w hSw; have q0 := hSw.a0; have q1 := hSw.a1; have q2 := hSw.a2; have q3 := hSw.b0; have q4 := hSw.b1; have q5 := hSw.b2; have q6 := hSw.c0; have q7 := hSw.c1; have q8 := hSw.c2; have q9 := hSw.fen2.c1; clear hSw; go_simp; try with_reducible rfl)
            try simp only [Act.put, List.setIfInBounds_toArray, List.set_cons_zero, List.set_cons_succ]
            refine wpAnyH_take (i := 2) (oi := _) (v := ?_) (by rw [List.getElem?_toArray]; exact rfl) (by kernel_rfl) (by kernel_rfl) (by kernel_rfl) (by exact fun _ _ _ h => h) (Or.inl ⟨by rfl, ?_⟩) hHeld ?_
            rotate_left
            · (intro w hSw; have q0 := hSw.a0; have q1 := hSw.a1; have q2 := hSw.a2; have q3 := hSw.b0; have q4 := hSw.b1; have q5 := hSw.b2; have q6 := hSw.c0; have q7 := hSw.c1; have q8 := hSw.c2; have q9 := hSw.fen2.c1; clear hSw; go_simp; try with_reducible rfl)
            try simp only [Act.put, List.setIfInBounds_toArray, List.set_cons_zero, List.set_cons_succ]
            refine wpAnyH_take (i := 3) (oi := _) (v := ?_) (by rw [List.getElem?_toArray]; exact rfl) (by kernel_rfl) (by kernel_rfl) (by kernel_rfl) (by exact fun _ _ _ h => h) (Or.inl ⟨by rfl, ?_⟩) hHeld ?_
            rotate_left
            · (intro w hSw; have q0 := hSw.a0; have q1 := hSw.a1; have q2 := hSw.a2; have q3 := hSw.b0; have q4 := hSw.b1; have q5 := hSw.b2; have q6 := hSw.c0; have q7 := hSw.c1; have q8 := hSw.c2; have q9 := hSw.fen2.c1; clear hSw; go_simp; try with_reducible rfl)
            try simp only [Act.put, List.setIfInBounds_toArray, List.set_cons_zero, List.set_cons_succ]
            refine wpAnyH_take (i := 4) (oi := _) (v := ?_) (by rw [List.getElem?_toArray]; exact rfl) (by kernel_rfl) (by kernel_rfl) (by kernel_rfl) (by exact fun _ _ _ h => h) (Or.inl ⟨by rfl, ?_⟩) hHeld ?_
            rotate_left
            · (intro w hSw; have q0 := hSw.a0; have q1 := hSw.a1; have q2 := hSw.a2; have q3 := hSw.b0; have q4 := hSw.b1; have q5 := hSw.b2; have q6 := hSw.c0; have q7 := hSw.c1; have q8 := hSw.c2; have q9 := hSw.fen2.c1; clear hSw; go_simp; try with_reducible rfl)
            try simp only [Act.put, List.setIfInBounds_toArray, List.set_cons_zero, List.set_cons_succ]
            refine wpAnyH_take (i := 5) (oi := _) (v := ?_) (by rw [List.getElem?_toArray]; exact rfl) (by kernel_rfl) (by kernel_rfl) (by kernel_rfl) (by exact fun _ _ _ h => h) (Or.inl ⟨by rfl, ?_⟩) hHeld ?_
            rotate_left
            · (intro w hSw; have q0 := hSw.a0; have q1 := hSw.a1; have q2 := hSw.a2; have q3 := hSw.b0; have q4 := hSw.b1; have q5 := hSw.b2; have q6 := hSw.c0; have q7 := hSw.c1; have q8 := hSw.c2; have q9 := hSw.fen2.c1; clear hSw; go_simp; try with_reducible rfl)
            try simp only [Act.put, List.setIfInBounds_toArray, List.set_cons_zero, List.set_cons_succ]
            refine wpAnyH_take (i := 6) (oi := _) (v := ?_) (by rw [List.getElem?_toArray]; exact rfl) (by kernel_rfl) (by kernel_rfl) (by kernel_rfl) (by exact fun _ _ _ h => h) (Or.inl ⟨by rfl, ?_⟩) hHeld ?_
            rotate_left
            · (intro w hSw; have q0 := hSw.a0; have q1 := hSw.a1; have q2 := hSw.a2; have q3 := hSw.b0; have q4 := hSw.b1; have q5 := hSw.b2; have q6 := hSw.c0; have q7 := hSw.c1; have q8 := hSw.c2; have q9 := hSw.fen2.c1; clear hSw; go_simp; try with_reducible rfl)
            try simp only [Act.put, List.setIfInBounds_toArray, List.set_cons_zero, List.set_cons_succ]
            refine wpAnyH_take (i := 7) (oi := _) (v := ?_) (by rw [List.getElem?_toArray]; exact rfl) (by kernel_rfl) (by kernel_rfl) (by kernel_rfl) (by exact fun _ _ _ h => h) (Or.inl ⟨by rfl, ?_⟩) hHeld ?_
            rotate_left
            · (intro w hSw; have q0 := hSw.a0; have q1 := hSw.a1; have q2 := hSw.a2; have q3 := hSw.b0; have q4 := hSw.b1; have q5 := hSw.b2; have q6 := hSw.c0; have q7 := hSw.c1; have q8 := hSw.c2; have q9 := hSw.fen2.c1; clear hSw; go_simp; try with_reducible rfl)
            try simp only [Act.put, List.setIfInBounds_toArray, List.set_cons_zero, List.set_cons_succ]
            refine wpAnyH_take (i := 8) (oi := _) (v := ?_) (by rw [List.getElem?_toArray]; exact rfl) (by kernel_rfl) (by kernel_rfl) (by kernel_rfl) (by exact fun _ _ _ h => h) (Or.inl ⟨by rfl, ?_⟩) hHeld ?_
            rotate_left
            · (intro w hSw; have q0 := hSw.a0; have q1 := hSw.a1; have q2 := hSw.a2; have q3 := hSw.b0; have q4 := hSw.b1; have q5 := hSw.b2; have q6 := hSw.c0; have q7 := hSw.c1; have q8 := hSw.c2; have q9 := hSw.fen2.c1; clear hSw; go_simp; try with_reducible rfl)
            try simp only [Act.put, List.setIfInBounds_toArray, List.set_cons_zero, List.set_cons_succ]
            refine wpAnyH_take (i := 9) (oi := _) (v := ?_) (by rw [List.getElem?_toArray]; exact rfl) (by kernel_rfl) (by kernel_rfl) (by kernel_rfl) (by exact fun _ _ _ h => h) (Or.inl ⟨by rfl, ?_⟩) hHeld ?_
            rotate_left
            · (intro w hSw; have q0 := hSw.a0; have q1 := hSw.a1; have q2 := hSw.a2; have q3 := hSw.b0; have q4 := hSw.b1; have q5 := hSw.b2; have q6 := hSw.c0; have q7 := hSw.c1; have q8 := hSw.c2; have q9 := hSw.fen2.c1; clear hSw; go_simp; try with_reducible rfl)
            try simp only [Act.put, List.setIfInBounds_toArray, List.set_cons_zero, List.set_cons_succ]
            refine wpAnyH_take (i := 10) (oi := _) (v := ?_) (by rw [List.getElem?_toArray]; exact rfl) (by kernel_rfl) (by kernel_rfl) (by kernel_rfl) (by exact fun _ _ _ h => h) (Or.inl ⟨by rfl, ?_⟩) hHeld ?_
            rotate_left
            · (intro w hSw; have q0 := hSw.a0; have q1 := hSw.a1; have q2 := hSw.a2; have q3 := hSw.b0; have q4 := hSw.b1; have q5 := hSw.b2; have q6 := hSw.c0; have q7 := hSw.c1; have q8 := hSw.c2; have q9 := hSw.fen2.c1; clear hSw; go_simp; try with_reducible rfl)
            try simp only [Act.put, List.setIfInBounds_toArray, List.set_cons_zero, List.set_cons_succ]
            refine wpAnyH_take (i := 11) (oi := _) (v := ?_) (by rw [List.getElem?_toArray]; exact rfl) (by kernel_rfl) (by kernel_rfl) (by kernel_rfl) (by exact fun _ _ _ h => h) (Or.inl ⟨by rfl, ?_⟩) hHeld ?_
            rotate_left
            · (intro w hSw; have q0 := hSw.a0; have q1 := hSw.a1; have q2 := hSw.a2; have q3 := hSw.b0; have q4 := hSw.b1; have q5 := hSw.b2; have q6 := hSw.c0; have q7 := hSw.c1; have q8 := hSw.c2; have q9 := hSw.fen2.c1; clear hSw; go_simp; try with_reducible rfl)
            try simp only [Act.put, List.setIfInBounds_toArray, List.set_cons_zero, List.set_cons_succ]
            refine wpAnyH_take (i := 12) (oi := _) (v := ?_) (by rw [List.getElem?_toArray]; exact rfl) (by kernel_rfl) (by kernel_rfl) (by kernel_rfl) (by exact fun _ _ _ h => h) (Or.inl ⟨by rfl, ?_⟩) hHeld ?_
            rotate_left
            · (intro w hSw; have q0 := hSw.a0; have q1 := hSw.a1; have q2 := hSw.a2; have q3 := hSw.b0; have q4 := hSw.b1; have q5 := hSw.b2; have q6 := hSw.c0; have q7 := hSw.c1; have q8 := hSw.c2; have q9 := hSw.fen2.c1; clear hSw; go_simp; try with_reducible rfl)
            try simp only [Act.put, List.setIfInBounds_toArray, List.set_cons_zero, List.set_cons_succ]
            refine wpAnyH_take (i := 13) (oi := _) (v := ?_) (by rw [List.getElem?_toArray]; exact rfl) (by kernel_rfl) (by kernel_rfl) (by kernel_rfl) (by exact fun _ _ _ h => h) (Or.inl ⟨by rfl, ?_⟩) hHeld ?_
            rotate_left
            · (intro w hSw; have q0 := hSw.a0; have q1 := hSw.a1; have q2 := hSw.a2; have q3 := hSw.b0; have q4 := hSw.b1; have q5 := hSw.b2; have q6 := hSw.c0; have q7 := hSw.c1; have q8 := hSw.c2; have q9 := hSw.fen2.c1; clear hSw; go_simp; try with_reducible rfl)
            try simp only [Act.put, List.setIfInBounds_toArray, List.set_cons_zero, List.set_cons_succ]
            refine wpAnyH_take (i := 14) (oi := _) (v := ?_) (by rw [List.getElem?_toArray]; exact rfl) (by kernel_rfl) (by kernel_rfl) (by kernel_rfl) (by exact fun _ _ _ h => h) (Or.inl ⟨by rfl, ?_⟩) hHeld ?_
            rotate_left
            · (intro w hSw; have q0 := hSw.a0; have q1 := hSw.a1; have q2 := hSw.a2; have q3 := hSw.b0; have q4 := hSw.b1; have q5 := hSw.b2; have q6 := hSw.c0; have q7 := hSw.c1; have q8 := hSw.c2; have q9 := hSw.fen2.c1; clear hSw; go_simp; try with_reducible rfl)
            try simp only [Act.put, List.setIfInBounds_toArray, List.set_cons_zero, List.set_cons_succ]
            refine wpAnyH_take (i := 15) (oi := _) (v := ?_) (by rw [List.getElem?_toArray]; exact rfl) (by kernel_rfl) (by kernel_rfl) (by kernel_rfl) (by exact fun _ _ _ h => h) (Or.inl ⟨by rfl, ?_⟩) hHeld ?_
            rotate_left
            · (intro w hSw; have q0 := hSw.a0; have q1 := hSw.a1; have q2 := hSw.a2; have q3 := hSw.b0; have q4 := hSw.b1; have q5 := hSw.b2; have q6 := hSw.c0; have q7 := hSw.c1; have q8 := hSw.c2; have q9 := hSw.fen2.c1; clear hSw; go_simp; try with_reducible rfl)
            try simp only [Act.put, List.setIfInBounds_toArray, List.set_cons_zero, List.set_cons_succ]
            refine wpAnyH_take (i := 16) (oi := _) (v := ?_) (by rw [List.getElem?_toArray]; exact rfl) (by kernel_rfl) (by kernel_rfl) (by kernel_rfl) (by exact fun _ _ _ h => h) (Or.inl ⟨by rfl, ?_⟩) hHeld ?_
            rotate_left
            · (intro w hSw; have q0 := hSw.a0; have q1 := hSw.a1; have q2 := hSw.a2; have q3 := hSw.b0; have q4 := hSw.b1; have q5 := hSw.b2; have q6 := hSw.c0; have q7 := hSw.c1; have q8 := hSw.c2; have q9 := hSw.fen2.c1; clear hSw; go_simp; try with_reducible rfl)
            try simp only [Act.put, List.setIfInBounds_toArray, List.set_cons_zero, List.set_cons_succ]
            refine wpAnyH_take (i := 17) (oi := _) (v := ?_) (by rw [List.getElem?_toArray]; exact rfl) (by kernel_rfl) (by kernel_rfl) (by kernel_rfl) (by exact fun _ _ _ h => h) (Or.inl ⟨by rfl, ?_⟩) hHeld ?_
            rotate_left
            · (intro w hSw; have q0 := hSw.a0; have q1 := hSw.a1; have q2 := hSw.a2; have q3 := hSw.b0; have q4 := hSw.b1; have q5 := hSw.b2; have q6 := hSw.c0; have q7 := hSw.c1; have q8 := hSw.c2; have q9 := hSw.fen2.c1; clear hSw; go_simp; try with_reducible rfl)
            try simp only [Act.put, List.setIfInBounds_toArray, List.set_cons_zero, List.set_cons_succ]
            refine wpAnyH_take (i := 19) (oi := _) (v := ?_) (by rw [List.getElem?_toArray]; exact rfl) (by kernel_rfl) (by kernel_rfl) (by kernel_rfl) (by exact fun _ _ _ h => h) (Or.inl ⟨by rfl, ?_⟩) hHeld ?_
            rotate_left
            · (intro w hSw; have q0 := hSw.a0; have q1 := hSw.a1; have q2 := hSw.a2; have q3 := hSw.b0; have q4 := hSw.b1; have q5 := hSw.b2; have q6 := hSw.c0; have q7 := hSw.c1; have q8 := hSw.c2; have q9 := hSw.fen2.c1; clear hSw; go_simp; try with_reducible rfl)
            try simp only [Act.put, List.setIfInBounds_toArray, List.set_cons_zero, List.set_cons_succ]
            refine wpAnyH_take (i := 20) (oi := _) (v := ?_) (by rw [List.getElem?_toArray]; exact rfl) (by kernel_rfl) (by kernel_rfl) (by kernel_rfl) (by exact fun _ _ _ h => h) (Or.inl ⟨by rfl, ?_⟩) hHeld ?_
            rotate_left
            · (intro w hSw; have q0 := hSw.a0; have q1 := hSw.a1; have q2 := hSw.a2; have q3 := hSw.b0; have q4 := hSw.b1; have q5 := hSw.b2; have q6 := hSw.c0; have q7 := hSw.c1; have q8 := hSw.c2; have q9 := hSw.fen2.c1; clear hSw; go_simp; try with_reducible rfl)
            try simp only [Act.put, List.setIfInBounds_toArray, List.set_cons_zero, List.set_cons_succ]
            refine wpAnyH_take (i := 21) (oi := _) (v := ?_) (by rw [List.getElem?_toArray]; exact rfl) (by kernel_rfl) (by kernel_rfl) (by kernel_rfl) (by exact fun _ _ _ h => h) (Or.inl ⟨by rfl, ?_⟩) hHeld ?_
            rotate_left
            · (intro w hSw; have q0 := hSw.a0; have q1 := hSw.a1; have q2 := hSw.a2; have q3 := hSw.b0; have q4 := hSw.b1; have q5 := hSw.b2; have q6 := hSw.c0; have q7 := hSw.c1; have q8 := hSw.c2; have q9 := hSw.fen2.c1; clear hSw; go_simp; try with_reducible rfl)
            try simp only [Act.put, List.setIfInBounds_toArray, List.set_cons_zero, List.set_cons_succ]
            refine wpAnyH_take (i := 22) (oi := _) (v := ?_) (by rw [List.getElem?_toArray]; exact rfl) (by kernel_rfl) (by kernel_rfl) (by kernel_rfl) (by exact fun _ _ _ h => h) (Or.inl ⟨by rfl, ?_⟩) hHeld ?_
            rotate_left
            · (intro w hSw; have q0 := hSw.a0; have q1 := hSw.a1; have q2 := hSw.a2; have q3 := hSw.b0; have q4 := hSw.b1; have q5 := hSw.b2; have q6 := hSw.c0; have q7 := hSw.c1; have q8 := hSw.c2; have q9 := hSw.fen2.c1; clear hSw; go_simp; try with_reducible rfl)
            try simp only [Act.put, List.setIfInBounds_toArray, List.set_cons_zero, List.set_cons_succ]
            refine wpAnyH_take (i := 23) (oi := _) (v := ?_) (by rw [List.getElem?_toArray]; exact rfl) (by kernel_rfl) (by kernel_rfl) (by kernel_rfl) (by exact fun _ _ _ h => h) (Or.inl ⟨by rfl, ?_⟩) hHeld ?_
            rotate_left
            · (intro w hSw; have q0 := hSw.a0; have q1 := hSw.a1; have q2 := hSw.a2; have q3 := hSw.b0; have q4 := hSw.b1; have q5 := hSw.b2; have q6 := hSw.c0; have q7 := hSw.c1; have q8 := hSw.c2; have q9 := hSw.fen2.c1; clear hSw; go_simp; try with_reducible rfl)
            try simp only [Act.put, List.setIfInBounds_toArray, List.set_cons_zero, List.set_cons_succ]
            refine wpAnyH_ready (rs := [18]) (by kernel_rfl) (by simp) ?_
            refine AllReadyH.cons (o := _) (by rw [List.getElem?_toArray]; exact rfl) (fun K hK => ?_) ?_
            rotate_left
            · exact AllReadyH.nil
            go_simp
            refine (allows_any f m L la n ep _ hHeld.fen1 hx.out).mono ?_; rintro e w7 ⟨rfl, hB7⟩
            go_wp2_with fail
            refine hK.out _ _ (hHeld.next hB7) (fun hHeld => ?_)
            clear hK K
            try simp only [Act.put, List.setIfInBounds_toArray, List.set_cons_zero, List.set_cons_succ]
            refine wpAnyH_ready (rs := [24]) (by kernel_rfl) (by simp) ?_
            refine AllReadyH.cons (o := _) (by rw [List.getElem?_toArray]; exact rfl) (fun K hK => ?_) ?_
            rotate_left
            · exact AllReadyH.nil
            go_simp
            refine (hRA ep _ hHeld.fen2).mono ?_; rintro e w8 ⟨rfl, hB8⟩
            go_wp2_with fail
            refine hK.out _ _ (hHeld.next hB8) (fun hHeld => ?_)
            clear hK K
            try simp only [Act.put, List.setIfInBounds_toArray, List.set_cons_zero, List.set_cons_succ]
            refine wpAnyH_take (i := 25) (oi := _) (v := ?_) (by rw [List.getElem?_toArray]; exact rfl) (by kernel_rfl) (by kernel_rfl) (by kernel_rfl) (by exact fun _ _ _ h => h) (Or.inl ⟨by rfl, ?_⟩) hHeld ?_
            rotate_left
            · (intro w hSw; have q0 := hSw.a0; have q1 := hSw.a1; have q2 := hSw.a2; have q3 := hSw.b0; have q4 := hSw.b1; have q5 := hSw.b2; have q6 := hSw.c0; have q7 := hSw.c1; have q8 := hSw.c2; have q9 := hSw.fen2.c1; clear hSw; go_simp; try with_reducible rfl)
            try simp only [Act.put, List.setIfInBounds_toArray, List.set_cons_zero, List.set_cons_succ]
            refine wpAnyH_take (i := 26) (oi := _) (v := ?_) (by rw [List.getElem?_toArray]; exact rfl) (by kernel_rfl) (by kernel_rfl) (by kernel_rfl) (by exact fun _ _ _ h => h) (Or.inl ⟨by rfl, ?_⟩) hHeld ?_
            rotate_left
            · (intro w hSw; have q0 := hSw.a0; have q1 := hSw.a1; have q2 := hSw.a2; have q3 := hSw.b0; have q4 := hSw.b1; have q5 := hSw.b2; have q6 := hSw.c0; have q7 := hSw.c1; have q8 := hSw.c2; have q9 := hSw.fen2.c1; clear hSw; go_simp; try with_reducible rfl)
            try simp only [Act.put, List.setIfInBounds_toArray, List.set_cons_zero, List.set_cons_succ]
            refine wpAnyH_take (i := 27) (oi := _) (v := ?_) (by rw [List.getElem?_toArray]; exact rfl) (by kernel_rfl) (by kernel_rfl) (by kernel_rfl) (by exact fun _ _ _ h => h) (Or.inl ⟨by rfl, ?_⟩) hHeld ?_
            rotate_left
            · (intro w hSw; have q0 := hSw.a0; have q1 := hSw.a1; have q2 := hSw.a2; have q3 := hSw.b0; have q4 := hSw.b1; have q5 := hSw.b2; have q6 := hSw.c0; have q7 := hSw.c1; have q8 := hSw.c2; have q9 := hSw.fen2.c1; clear hSw; go_simp; try with_reducible rfl)
            try simp only [Act.put, List.setIfInBounds_toArray, List.set_cons_zero, List.set_cons_succ]
            refine wpAnyH_take (i := 28) (oi := _) (v := ?_) (by rw [List.getElem?_toArray]; exact rfl) (by kernel_rfl) (by kernel_rfl) (by kernel_rfl) (by exact fun _ _ _ h => h) (Or.inl ⟨by rfl, ?_⟩) hHeld ?_
            rotate_left
            · (intro w hSw; have q0 := hSw.a0; have q1 := hSw.a1; have q2 := hSw.a2; have q3 := hSw.b0; have q4 := hSw.b1; have q5 := hSw.b2; have q6 := hSw.c0; have q7 := hSw.c1; have q8 := hSw.c2; have q9 := hSw.fen2.c1; clear hSw; go_simp; try with_reducible rfl)
            try simp only [Act.put, List.setIfInBounds_toArray, List.set_cons_zero, List.set_cons_succ]
            refine wpAnyH_take (i := 29) (oi := _) (v := ?_) (by rw [List.getElem?_toArray]; exact rfl) (by kernel_rfl) (by kernel_rfl) (by kernel_rfl) (by exact fun _ _ _ h => h) (Or.inl ⟨by rfl, ?_⟩) hHeld ?_
            rotate_left
            · (intro w hSw; have q0 := hSw.a0; have q1 := hSw.a1; have q2 := hSw.a2; have q3 := hSw.b0; have q4 := hSw.b1; have q5 := hSw.b2; have q6 := hSw.c0; have q7 := hSw.c1; have q8 := hSw.c2; have q9 := hSw.fen2.c1; clear hSw; go_simp; try with_reducible rfl)
            try simp only [Act.put, List.setIfInBounds_toArray, List.set_cons_zero, List.set_cons_succ]
            refine wpAnyH_take (i := 30) (oi := _) (v := ?_) (by rw [List.getElem?_toArray]; exact rfl) (by kernel_rfl) (by kernel_rfl) (by kernel_rfl) (by exact fun _ _ _ h => h) (Or.inl ⟨by rfl, ?_⟩) hHeld ?_
            rotate_left
            · (intro w hSw; have q0 := hSw.a0; have q1 := hSw.a1; have q2 := hSw.a2; have q3 := hSw.b0; have q4 := hSw.b1; have q5 := hSw.b2; have q6 := hSw.c0; have q7 := hSw.c1; have q8 := hSw.c2; have q9 := hSw.fen2.c1; clear hSw; go_simp; try with_reducible rfl)
            try simp only [Act.put, List.setIfInBounds_toArray, List.set_cons_zero, List.set_cons_succ]
            refine wpAnyH_take (i := 31) (oi := _) (v := ?_) (by rw [List.getElem?_toArray]; exact rfl) (by kernel_rfl) (by kernel_rfl) (by kernel_rfl) (by exact fun _ _ _ h => h) (Or.inl ⟨by rfl, ?_⟩) hHeld ?_
            rotate_left
            · (intro w hSw; have q0 := hSw.a0; have q1 := hSw.a1; have q2 := hSw.a2; have q3 := hSw.b0; have q4 := hSw.b1; have q5 := hSw.b2; have q6 := hSw.c0; have q7 := hSw.c1; have q8 := hSw.c2; have q9 := hSw.fen2.c1; clear hSw; go_simp; try with_reducible rfl)
            try simp only [Act.put, List.setIfInBounds_toArray, List.set_cons_zero, List.set_cons_succ]
            refine wpAnyH_take (i := 32) (oi := _) (v := ?_) (by rw [List.getElem?_toArray]; exact rfl) (by kernel_rfl) (by kernel_rfl) (by kernel_rfl) (by exact fun _ _ _ h => h) (Or.inl ⟨by rfl, ?_⟩) hHeld ?_
            rotate_left
            · (intro w hSw; have q0 := hSw.a0; have q1 := hSw.a1; have q2 := hSw.a2; have q3 := hSw.b0; have q4 := hSw.b1; have q5 := hSw.b2; have q6 := hSw.c0; have q7 := hSw.c1; have q8 := hSw.c2; have q9 := hSw.fen2.c1; clear hSw; go_simp; try with_reducible rfl)
            try simp only [Act.put, List.setIfInBounds_toArray, List.set_cons_zero, List.set_cons_succ]
            refine wpAnyH_take (i := 34) (oi := _) (v := ?_) (by rw [List.getElem?_toArray]; exact rfl) (by kernel_rfl) (by kernel_rfl) (by kernel_rfl) (by exact fun _ _ _ h => h) (Or.inl ⟨by rfl, ?_⟩) hHeld ?_
            rotate_left
            · (intro w hSw; have q0 := hSw.a0; have q1 := hSw.a1; have q2 := hSw.a2; have q3 := hSw.b0; have q4 := hSw.b1; have q5 := hSw.b2; have q6 := hSw.c0; have q7 := hSw.c1; have q8 := hSw.c2; have q9 := hSw.fen2.c1; clear hSw; go_simp; try with_reducible rfl)
            try simp only [Act.put, List.setIfInBounds_toArray, List.set_cons_zero, List.set_cons_succ]
            refine wpAnyH_take (i := 35) (oi := _) (v := ?_) (by rw [List.getElem?_toArray]; exact rfl) (by kernel_rfl) (by kernel_rfl) (by kernel_rfl) (by exact fun _ _ _ h => h) (Or.inl ⟨by rfl, ?_⟩) hHeld ?_
            rotate_left
            · (intro w hSw; have q0 := hSw.a0; have q1 := hSw.a1; have q2 := hSw.a2; have q3 := hSw.b0; have q4 := hSw.b1; have q5 := hSw.b2; have q6 := hSw.c0; have q7 := hSw.c1; have q8 := hSw.c2; have q9 := hSw.fen2.c1; clear hSw; go_simp; try with_reducible rfl)
            try simp only [Act.put, List.setIfInBounds_toArray, List.set_cons_zero, List.set_cons_succ]
            refine wpAnyH_take (i := 36) (oi := _) (v := ?_) (by rw [List.getElem?_toArray]; exact rfl) (by kernel_rfl) (by kernel_rfl) (by kernel_rfl) (by exact fun _ _ _ h => h) (Or.inl ⟨by rfl, ?_⟩) hHeld ?_
            rotate_left
            · (intro w hSw; have q0 := hSw.a0; have q1 := hSw.a1; have q2 := hSw.a2; have q3 := hSw.b0; have q4 := hSw.b1; have q5 := hSw.b2; have q6 := hSw.c0; have q7 := hSw.c1; have q8 := hSw.c2; have q9 := hSw.fen2.c1; clear hSw; go_simp; try with_reducible rfl)
            try simp only [Act.put, List.setIfInBounds_toArray, List.set_cons_zero, List.set_cons_succ]
            refine wpAnyH_take (i := 37) (oi := _) (v := ?_) (by rw [List.getElem?_toArray]; exact rfl) (by kernel_rfl) (by kernel_rfl) (by kernel_rfl) (by exact fun _ _ _ h => h) (Or.inl ⟨by rfl, ?_⟩) hHeld ?_
            rotate_left
            · (intro w hSw; have q0 := hSw.a0; have q1 := hSw.a1; have q2 := hSw.a2; have q3 := hSw.b0; have q4 := hSw.b1; have q5 := hSw.b2; have q6 := hSw.c0; have q7 := hSw.c1; have q8 := hSw.c2; have q9 := hSw.fen2.c1; clear hSw; go_simp; try with_reducible rfl)
            try simp only [Act.put, List.setIfInBounds_toArray, List.set_cons_zero, List.set_cons_succ]
            refine wpAnyH_take (i := 38) (oi := _) (v := ?_) (by rw [List.getElem?_toArray]; exact rfl) (by kernel_rfl) (by kernel_rfl) (by kernel_rfl) (by exact fun _ _ _ h => h) (Or.inl ⟨by rfl, ?_⟩) hHeld ?_
            rotate_left
            · (intro w hSw; have q0 := hSw.a0; have q1 := hSw.a1; have q2 := hSw.a2; have q3 := hSw.b0; have q4 := hSw.b1; have q5 := hSw.b2; have q6 := hSw.c0; have q7 := hSw.c1; have q8 := hSw.c2; have q9 := hSw.fen2.c1; clear hSw; go_simp; try with_reducible rfl)
            try simp only [Act.put, List.setIfInBounds_toArray, List.set_cons_zero, List.set_cons_succ]
            refine wpAnyH_ready (rs := [33]) (by kernel_rfl) (by simp) ?_
            refine AllReadyH.cons (o := _) (by rw [List.getElem?_toArray]; exact rfl) (fun K hK => ?_) ?_
            rotate_left
            · exact AllReadyH.nil
            go_simp
            refine (allows_any f m L la n og.2 _ hHeld.fen1 hx.out).mono ?_; rintro e w9 ⟨rfl, hB7⟩
            go_wp2_with fail
            refine hK.out _ _ (hHeld.next hB7) (fun hHeld => ?_)
            clear hK K
            try simp only [Act.put, List.setIfInBounds_toArray, List.set_cons_zero, List.set_cons_succ]
            refine wpAnyH_ready (rs := [39]) (by kernel_rfl) (by simp) ?_
            refine AllReadyH.cons (o := _) (by rw [List.getElem?_toArray]; exact rfl) (fun K hK => ?_) ?_
            rotate_left
            · exact AllReadyH.nil
            go_simp
            refine (hRA og.2 _ hHeld.fen2).mono ?_; rintro e w10 ⟨rfl, hB8⟩
            go_wp2_with fail
            refine hK.out _ _ (hHeld.next hB8) (fun hHeld => ?_)
            clear hK K
            try simp only [Act.put, List.setIfInBounds_toArray, List.set_cons_zero, List.set_cons_succ]
            refine wpAnyH_take (i := 40) (oi := _) (v := ?_) (by rw [List.getElem?_toArray]; exact rfl) (by kernel_rfl) (by kernel_rfl) (by kernel_rfl) (by exact fun _ _ _ h => h) (Or.inl ⟨by rfl, ?_⟩) hHeld ?_
            rotate_left
            · (intro w hSw; have q0 := hSw.a0; have q1 := hSw.a1; have q2 := hSw.a2; have q3 := hSw.b0; have q4 := hSw.b1; have q5 := hSw.b2; have q6 := hSw.c0; have q7 := hSw.c1; have q8 := hSw.c2; have q9 := hSw.fen2.c1; clear hSw; go_simp; try with_reducible rfl)
            try simp only [Act.put, List.setIfInBounds_toArray, List.set_cons_zero, List.set_cons_succ]
            refine wpAnyH_take (i := 41) (oi := _) (v := ?_) (by rw [List.getElem?_toArray]; exact rfl) (by kernel_rfl) (by kernel_rfl) (by kernel_rfl) (by exact fun _ _ _ h => h) (Or.inl ⟨by rfl, ?_⟩) hHeld ?_
            rotate_left
            · (intro w hSw; have q0 := hSw.a0; have q1 := hSw.a1; have q2 := hSw.a2; have q3 := hSw.b0; have q4 := hSw.b1; have q5 := hSw.b2; have q6 := hSw.c0; have q7 := hSw.c1; have q8 := hSw.c2; have q9 := hSw.fen2.c1; clear hSw; go_simp; try with_reducible rfl)
            try simp only [Act.put, List.setIfInBounds_toArray, List.set_cons_zero, List.set_cons_succ]
            refine wpAnyH_take (i := 42) (oi := _) (v := ?_) (by rw [List.getElem?_toArray]; exact rfl) (by kernel_rfl) (by kernel_rfl) (by kernel_rfl) (by exact fun _ _ _ h => h) (Or.inl ⟨by rfl, ?_⟩) hHeld ?_
            rotate_left
            · (intro w hSw; have q0 := hSw.a0; have q1 := hSw.a1; have q2 := hSw.a2; have q3 := hSw.b0; have q4 := hSw.b1; have q5 := hSw.b2; have q6 := hSw.c0; have q7 := hSw.c1; have q8 := hSw.c2; have q9 := hSw.fen2.c1; clear hSw; go_simp; try with_reducible rfl)
            try simp only [Act.put, List.setIfInBounds_toArray, List.set_cons_zero, List.set_cons_succ]
            refine wpAnyH_take (i := 43) (oi := _) (v := ?_) (by rw [List.getElem?_toArray]; exact rfl) (by kernel_rfl) (by kernel_rfl) (by kernel_rfl) (by exact fun _ _ _ h => h) (Or.inl ⟨by rfl, ?_⟩) hHeld ?_
            rotate_left
            · (intro w hSw; have q0 := hSw.a0; have q1 := hSw.a1; have q2 := hSw.a2; have q3 := hSw.b0; have q4 := hSw.b1; have q5 := hSw.b2; have q6 := hSw.c0; have q7 := hSw.c1; have q8 := hSw.c2; have q9 := hSw.fen2.c1; clear hSw; go_simp; try with_reducible rfl)
            try simp only [Act.put, List.setIfInBounds_toArray, List.set_cons_zero, List.set_cons_succ]
            refine wpAnyH_take (i := 45) (oi := _) (v := ?_) (by rw [List.getElem?_toArray]; exact rfl) (by kernel_rfl) (by kernel_rfl) (by kernel_rfl) (by exact fun _ _ _ h => h) (Or.inl ⟨by rfl, ?_⟩) hHeld ?_
            rotate_left
            · (intro w hSw; have q0 := hSw.a0; have q1 := hSw.a1; have q2 := hSw.a2; have q3 := hSw.b0; have q4 := hSw.b1; have q5 := hSw.b2; have q6 := hSw.c0; have q7 := hSw.c1; have q8 := hSw.c2; have q9 := hSw.fen2.c1; clear hSw; go_simp; try with_reducible rfl)
            try simp only [Act.put, List.setIfInBounds_toArray, List.set_cons_zero, List.set_cons_succ]
            refine wpAnyH_take (i := 46) (oi := _) (v := ?_) (by rw [List.getElem?_toArray]; exact rfl) (by kernel_rfl) (by kernel_rfl) (by kernel_rfl) (by exact fun _ _ _ h => h) (Or.inl ⟨by rfl, ?_⟩) hHeld ?_
            rotate_left
            · (intro w hSw; have q0 := hSw.a0; have q1 := hSw.a1; have q2 := hSw.a2; have q3 := hSw.b0; have q4 := hSw.b1; have q5 := hSw.b2; have q6 := hSw.c0; have q7 := hSw.c1; have q8 := hSw.c2; have q9 := hSw.fen2.c1; clear hSw; go_simp; try with_reducible rfl)
            try simp only [Act.put, List.setIfInBounds_toArray, List.set_cons_zero, List.set_cons_succ]
            refine wpAnyH_take (i := 47) (oi := _) (v := ?_) (by rw [List.getElem?_toArray]; exact rfl) (by kernel_rfl) (by kernel_rfl) (by kernel_rfl) (by exact fun _ _ _ h => h) (Or.inl ⟨by rfl, ?_⟩) hHeld ?_
            rotate_left
            · (intro w hSw; have q0 := hSw.a0; have q1 := hSw.a1; have q2 := hSw.a2; have q3 := hSw.b0; have q4 := hSw.b1; have q5 := hSw.b2; have q6 := hSw.c0; have q7 := hSw.c1; have q8 := hSw.c2; have q9 := hSw.fen2.c1; clear hSw; go_simp; try with_reducible rfl)
            try simp only [Act.put, List.setIfInBounds_toArray, List.set_cons_zero, List.set_cons_succ]
            refine wpAnyH_take (i := 48) (oi := _) (v := ?_) (by rw [List.getElem?_toArray]; exact rfl) (by kernel_rfl) (by kernel_rfl) (by kernel_rfl) (by exact fun _ _ _ h => h) (Or.inl ⟨by rfl, ?_⟩) hHeld ?_
            rotate_left
            · (intro w hSw; have q0 := hSw.a0; have q1 := hSw.a1; have q2 := hSw.a2; have q3 := hSw.b0; have q4 := hSw.b1; have q5 := hSw.b2; have q6 := hSw.c0; have q7 := hSw.c1; have q8 := hSw.c2; have q9 := hSw.fen2.c1; clear hSw; go_simp; try with_reducible rfl)
            try simp only [Act.put, List.setIfInBounds_toArray, List.set_cons_zero, List.set_cons_succ]
            refine wpAnyH_ready (rs := [44]) (by kernel_rfl) (by simp) ?_
            refine AllReadyH.cons (o := _) (by rw [List.getElem?_toArray]; exact rfl) (fun K hK => ?_) ?_
            rotate_left
            · exact AllReadyH.nil
            go_simp
            refine (last_call f m L la _ hHeld.fen1).mono ?_; rintro e w15 ⟨rfl, rfl⟩
            go_wp2_with fail
            refine hK.out _ _ (hHeld) (fun hHeld => ?_)
            clear hK K
            try simp only [Act.put, List.setIfInBounds_toArray, List.set_cons_zero, List.set_cons_succ]
            refine wpAnyH_take (i := 49) (oi := _) (v := ?_) (by rw [List.getElem?_toArray]; exact rfl) (by kernel_rfl) (by kernel_rfl) (by kernel_rfl) (by exact fun _ _ _ h => h) (Or.inl ⟨by rfl, ?_⟩) hHeld ?_
            rotate_left
            · (intro w hSw; have q0 := hSw.a0; have q1 := hSw.a1; have q2 := hSw.a2; have q3 := hSw.b0; have q4 := hSw.b1; have q5 := hSw.b2; have q6 := hSw.c0; have q7 := hSw.c1; have q8 := hSw.c2; have q9 := hSw.fen2.c1; clear hSw; go_simp; try with_reducible rfl)
            try simp only [Act.put, List.setIfInBounds_toArray, List.set_cons_zero, List.set_cons_succ]
            refine wpAnyH_take (i := 50) (oi := _) (v := ?_) (by rw [List.getElem?_toArray]; exact rfl) (by kernel_rfl) (by kernel_rfl) (by kernel_rfl) (by exact fun _ _ _ h => h) (Or.inl ⟨by rfl, ?_⟩) hHeld ?_
            rotate_left
            · (intro w hSw; have q0 := hSw.a0; have q1 := hSw.a1; have q2 := hSw.a2; have q3 := hSw.b0; have q4 := hSw.b1; have q5 := hSw.b2; have q6 := hSw.c0; have q7 := hSw.c1; have q8 := hSw.c2; have q9 := hSw.fen2.c1; clear hSw; go_simp; try with_reducible rfl)
            try simp only [Act.put, List.setIfInBounds_toArray, List.set_cons_zero, List.set_cons_succ]
            refine wpAnyH_done (by kernel_rfl) ?_ _
            have HQ8 := Lib.hid (HQ5.out.below hHeld.low)
            clear hHeld HS HQ5 hRA
            go_wp2_with fail
            go_roundg (gk - 1)
            case rel => exact ⟨k + 1, L, R, la, vR, by omega, by go_num, HQ8.out, by omega⟩
            case measure => omega
        · obtain rfl : k = l.length := by omega
          go_wp2_with fail
          refine (rows_any f m L la _ HQ.out.a.fen (by omega)).mono ?_
          rintro e w2 ⟨v3, rfl, hown, hB⟩
          rw [HQ.out.rl.eq] at hown
          have hr3 := own_readsG hown
          have HQ2 := Lib.hid (HQ.out.below hB)
          obtain ⟨a3, cap3, rfl⟩ := hr3.slice
          obtain ⟨a5, cap5, rfl, _, _⟩ := HQ2.out.b.cap
          have HR3 := Lib.hid hr3
          have HR5 := Lib.hid HQ2.out.b.reads
          have d0 := HQ2.out.b.c0
          have hRl : R.length ≤ 10000 := by have := hRL.out; omega
          clear HQ hown hB hr3 hRL
          go_wp2_with fail
          go_loopg [23] R.length (fun gk i wx => ∃ j : Nat, gk + j = R.length ∧ i = .int .i64 j ∧ Drew w2 wx)
          case atStart => exact ⟨0, by omega, rfl, Drew.refl _⟩
          case round =>
            obtain ⟨j, hj, rfl, q, rfl⟩ := hrel
            by_cases hjl : j < R.length
            · obtain ⟨b3, off3, c3, he, _, hc3⟩ := HR3.out.at (by omega)
              injection he with he1 he2 he3
              subst he1
              obtain ⟨b5, off5, c5, he', _, hc5⟩ := HR5.out.at (by omega)
              injection he' with he1' he2' he3'
              subst he1'
              have q3 := hc3 j hjl
              have q5 := hc5 j hjl
              clear hc3 hc5 he2 he3 he2' he3'
              generalize R[j] = y at *
              have x0 : w2.cell? ⟨b3, off3 + j * 3, none⟩ = some (.int .u64 y.1.1) := q3 0 _ rfl
              have x1 : w2.cell? ⟨b3, off3 + j * 3 + 1, none⟩ = some (.string y.1.2) := q3 1 _ rfl
              have x2 : w2.cell? ⟨b3, off3 + j * 3 + 2, none⟩ = some (.int .u64 y.2) := q3 2 _ rfl
              have y0 : w2.cell? ⟨b5, off5 + j * 3, none⟩ = some (.int .u64 y.1.1) := q5 0 _ rfl
              have y1 : w2.cell? ⟨b5, off5 + j * 3 + 1, none⟩ = some (.string y.1.2) := q5 1 _ rfl
              have y2 : w2.cell? ⟨b5, off5 + j * 3 + 2, none⟩ = some (.int .u64 y.2) := q5 2 _ rfl
              clear q3 q5
              go_wp2_with fail
              go_quiet (fail)
              go_wp2_with fail
              go_roundg (gk - 1)
              case rel => exact ⟨j + 1, by omega, by go_num, ⟨_, rfl⟩⟩
              case measure => omega
            · have HB := Lib.hid (HQ2.out.below (below_drewN (Below.refl _ _) q)).a.low
              clear HQ2 HR3 HR5 d0
              go_wp2_with fail
              refine (works_any _).mono ?_
              rintro e w5 ⟨rfl, hB⟩
              have HB5 := Lib.hid (HB.out.trans (hB.mono HB.out.size))
              clear hB HB
              go_wp2_with fail
              go_ret
              exact ⟨ret_bool rfl, HB5.out⟩
    · have hno := NewP.not hne HNEW.out
      obtain ⟨rfl, hB3⟩ := hno
      have HB3 := Lib.hid (HB2.out.trans (hB3.mono HB2.out.size))
      clear HNEW hB3
      go_wp2_with fail
      refine (rnew_any _ rows last w3 (HU.out.below HB3.out) HZU.out (by omega)).mono ?_
      rintro e w4 hrn
      obtain ⟨rfl, hB4⟩ := hrn.not hne
      have HB4 := Lib.hid (HB3.out.trans (hB4.mono HB3.out.size))
      clear hrn hB4 hne
      go_wp2_with fail
      refine (works_any _).mono ?_
      rintro e w5 ⟨rfl, hB⟩
      have HB5 := Lib.hid (HB4.out.trans (hB.mono HB4.out.size))
      clear hB
      go_wp2_with fail
      go_ret
      exact ⟨ret_bool rfl, HB5.out⟩
  · go_wp2_with fail
    refine (works_any _).mono ?_
    rintro e w1 ⟨rfl, hB⟩
    go_wp2_with fail
    go_ret
    exact ⟨ret_bool rfl, hB⟩
theorem plays_row (last : Int) (u v : Value) (W : World) (hw : (Lit.int IntKind.u64 last).wf = true) (hu : ∃ l, ReadsK encG 3 W u l ∧ l.length ≤ maxLen ∧ ∀ x ∈ l, x.1.2.size ≤ maxLen) (hv : ∃ l, ReadsK encS 4 W v l ∧ l.length ≤ maxLen ∧ ∀ x ∈ l, x.2.1.2.size ≤ maxLen) :
    Calls Try.prog 3 #[.int .u64 last, u, v] W fun e w' => e = .returned (.bool true) ∧ Below W.heap.size W w' := by
  have h0 : 0 ≤ last := by have := Go.bounds_u64 hw; omega
  obtain ⟨rows, hr, hrl, hrz⟩ := hu
  obtain ⟨l, hs, hsl, hsz⟩ := hv
  unfold maxLen at hrl hrz hsl hsz
  exact plays_any last u v rows l W h0 hr hs (fun x hx => by have := hrz x hx; omega) (fun x hx => by have := hsz x hx; omega) (by omega) (by omega)
end Go.Proofs.Ytbelafkklblidaa
