/- Contract: New of the document's fences. -/
import Derived.Test.YtbelafkklblidaaRefE4
import Derived.Test.YtbelafkklblidaaRefE7
namespace Go.Proofs.Ytbelafkklblidaa
open Go.RowKit Go.Sort Go.Lib

def rowsR (rows : List Gr) : List Gr := rows.foldl (fun l g => insG (takeR l g.1) g) []
theorem rowsR_next {rows : List Gr} {k : Nat} (hk : k < rows.length) : rowsR (rows.take (k + 1)) = insG (takeR (rowsR (rows.take k)) rows[k].1) rows[k] := by
  unfold rowsR
  rw [List.take_succ_eq_append_getElem hk, List.foldl_append]; rfl
theorem idxG_lt (l : List Gr) (n : Nm) : idxG l n < l.length ↔ ∃ p ∈ l, p.1 = n := by
  unfold idxG
  rw [List.findIdx_lt_length]
  simp
theorem takeR_none {l : List Gr} {n : Nm} (h : ¬ idxG l n < l.length) : takeR l n = l := by unfold takeR; rw [if_neg h]
theorem insG_perm (l : List Gr) (g : Gr) : (insG l g).Perm (l ++ [g]) := by
  unfold insG
  have h : l = l.takeWhile (belowG g) ++ l.dropWhile (belowG g) := (List.takeWhile_append_dropWhile).symm
  refine (List.perm_middle).trans ?_
  rw [← h]
  exact (List.perm_append_singleton g l).symm

def RNewP (last : Int) (rows : List Gr) (w : World) (e : Ending) (w' : World) : Prop :=
  (newE last rows = 0 ∧ ∃ r v, e = .returned (.tuple #[.pointer (some ⟨r, 0, none⟩), .int .i64 0]) ∧ RFen w' w.heap.size r v (rowsR rows) last ∧ (rowsR rows).Perm rows ∧ Below w.heap.size w w') ∨
  (newE last rows ≠ 0 ∧ e = .returned (.tuple #[.pointer none, .int .i64 (newE last rows)]) ∧ Below w.heap.size w w')
theorem RNewP.no {last : Int} {rows : List Gr} {w w' : World} {e : Ending} (x : Int) (h : newE last rows = x) (h0 : x ≠ 0) (he : e = .returned (.tuple #[.pointer none, .int .i64 x])) (hB : Below w.heap.size w w') : RNewP last rows w e w' :=
  .inr ⟨by rw [h]; exact h0, by rw [h]; exact he, hB⟩

/-- While New puts its rows. -/
structure Nq (w : World) (r : Nat) (rows : List Gr) (last : Int) (k : Nat) (wr : World) : Prop where
  fen : ∃ v, RFen wr w.heap.size r v (rowsR (rows.take k)) last
  low : Below w.heap.size w wr
  perm : (rowsR (rows.take k)).Perm (rows.take k)
  nd : ((rows.take k).map (·.1)).Nodup

set_option maxHeartbeats 1600000 in
set_option maxRecDepth 100000 in
theorem rnew_any (v : Value) (rows : List Gr) (last : Int) (w : World) (hv : ReadsK encG 3 w v rows) (hs : ∀ g ∈ rows, g.1.2.size ≤ 9223372036854775807) (hl : rows.length ≤ 9000) :
    Calls Try.prog 10 #[.int .u64 last, v] w (RNewP last rows w) := by
  obtain ⟨a, cap, rfl⟩ := hv.slice
  have HV := Lib.hid hv
  have HS := Lib.hid hs
  clear hv hs
  go_enter Try.func10, Try.ntmps10
  by_cases hlast : last > 281474976710656
  · have HE := Lib.hid (show newE last rows = 2 by unfold newE maxE; rw [if_pos (.inl hlast)])
    go_wp2_with fail
    go_ret2
    exact RNewP.no 2 HE.out (by decide) rfl (Below.refl _ _)
  · go_wp2_with fail
    go_loopg [6] rows.length (fun gk i wr => ∃ k : Nat, gk + k = rows.length ∧ i = .int .i64 k ∧ Hid (∀ j, (hj : j < rows.length) → j < k → badG last rows[j] = false) ∧ wr = w)
    case atStart => exact ⟨0, by omega, rfl, Lib.hid (fun j _ hj => absurd hj (by omega)), rfl⟩
    case round =>
      obtain ⟨k, hk, rfl, hn, rfl⟩ := hrel
      by_cases hlt : k < rows.length
      · obtain ⟨b, off, c, he, hb, hc⟩ := HV.out.at (by omega)
        injection he with he1 he2 he3
        subst he1
        have hcc := hc k hlt
        have hsz := HS.out _ (List.getElem_mem hlt)
        have HB : Hid (∀ t, badG last rows[k] = t → (t = true → newE last rows = 2) ∧ (t = false → ∀ j, (hj : j < rows.length) → j < k + 1 → badG last rows[j] = false)) := Lib.hid (fun t ht => ⟨fun h => by
            unfold newE; rw [if_pos (.inr (List.any_eq_true.2 ⟨rows[k], List.getElem_mem hlt, ht.trans h⟩))], fun h j hj hjk => by
            by_cases e : j = k
            · subst e; exact ht.trans h
            · exact hn.out j hj (by omega)⟩)
        clear hc he2 he3 hb hn
        generalize rows[k] = g at *
        have c1 : wr.cell? ⟨b, off + k * 3 + 1, none⟩ = some (.string g.1.2) := hcc 1 _ rfl
        have c2 : wr.cell? ⟨b, off + k * 3 + 2, none⟩ = some (.int .u64 g.2) := hcc 2 _ rfl
        clear hcc
        go_upto_region 6 with fail
        go_cut [41] (fun t wx => t = .bool (badG last g) ∧ wx = wr)
        case first =>
          go_wp2_with fail
          refine (rmay_any g.1.2 _ hsz).mono ?_
          rintro e w1 ⟨rfl, rfl⟩
          cases hm : mayS g.1.2
          · have hb := Lib.hid (show badG last g = true by simp [badG, hm])
            clear hm
            go_wp2_with fail
            go_meet
            exact ⟨by rw [hb.out], rfl⟩
          · by_cases h1 : g.2 < 1
            · have hb := Lib.hid (show badG last g = true by simp [badG, hm, h1])
              clear hm
              go_wp2_with fail
              go_meet
              exact ⟨by rw [hb.out], rfl⟩
            · by_cases h2 : last < g.2
              · have hb := Lib.hid (show badG last g = true by simp [badG, hm, h2])
                clear hm
                go_wp2_with fail
                go_meet
                exact ⟨by rw [hb.out], rfl⟩
              · have hb := Lib.hid (show badG last g = false by simp only [badG, hm, h1, h2]; rfl)
                clear hm
                go_wp2_with fail
                go_meet
                exact ⟨by rw [hb.out]; simp; omega, rfl⟩
        case rest =>
          obtain ⟨rfl, rfl⟩ := hcut
          clear c1 c2
          cases hbg : badG last g
          · have hn2 := Lib.hid ((HB.out _ hbg).2 rfl)
            clear hbg HB
            go_wp2_with fail
            go_roundg (gk - 1)
            case rel => exact ⟨k + 1, by omega, by go_num, hn2, rfl⟩
            case measure => omega
          · have HE := Lib.hid ((HB.out _ hbg).1 rfl)
            clear hbg HB
            go_wp2_with fail
            go_ret2
            exact RNewP.no 2 HE.out (by decide) rfl (Below.refl _ _)
      · have HBAD : Hid (rows.any (badG last) = false) := Lib.hid (List.any_eq_false.2 fun x hx => by
          obtain ⟨j, hj, rfl⟩ := List.getElem_of_mem hx
          simp [hn.out j hj (by omega)])
        clear hn
        have HQ : Hid (Nq wr wr.heap.size rows last 0 (wr.alloc (.cells #[.slice none 0 0, .int .u64 last] 49))) := by
          refine ⟨⟨.slice none 0 0, ?_, World.ownsRow_nil _ _ _ _, by simp [Value.ownBlock], Nat.le_refl _⟩, (Below.refl _ _).alloc (Nat.le_refl _) _, List.Perm.refl _, List.nodup_nil⟩
          have := heap_alloc_new wr (.cells #[.slice none 0 0, .int .u64 last] 49)
          simpa using this
        obtain ⟨w, hw⟩ : ∃ w, w = wr := ⟨_, rfl⟩
        subst hw
        go_wp2_with fail
        generalize hra : w.heap.size = ra at *
        go_loopg [8] rows.length (fun gk i wr => ∃ k : Nat, gk + k = rows.length ∧ i = .int .i64 k ∧ Nq w ra rows last k wr)
        case atStart => exact ⟨0, by omega, rfl, HQ.out⟩
        case round =>
          clear HQ
          obtain ⟨k, hk, rfl, hQ⟩ := hrel
          have HQ := Lib.hid hQ
          clear hQ
          by_cases hlt : k < rows.length
          · obtain ⟨b, off, c, he, hb, hc⟩ := (HV.out.below HQ.out.low).at (by omega)
            injection he with he1 he2 he3
            subst he1
            have hcc := hc k hlt
            have hsz := HS.out _ (List.getElem_mem hlt)
            obtain ⟨v1, hF⟩ := HQ.out.fen
            have HF := Lib.hid hF
            have hlen : (rowsR (rows.take k)).length ≤ 9000 := by rw [HQ.out.perm.length_eq, List.length_take]; omega
            have hzl : ∀ p ∈ rowsR (rows.take k), p.1.2.size ≤ 9223372036854775807 := fun p hp => HS.out p (List.mem_of_mem_take (HQ.out.perm.mem_iff.1 hp))
            have hidx := idxG_lt (rowsR (rows.take k)) rows[k].1
            have HNX := Lib.hid (rowsR_next hlt)
            have HTK : Hid (rows.take (k + 1) = rows.take k ++ [rows[k]]) := Lib.hid (List.take_succ_eq_append_getElem hlt)
            have HDUP : Hid ((∃ p ∈ rows.take k, p.1 = rows[k].1) → ¬ (rows.map (·.1)).Nodup) := Lib.hid (fun ⟨p, hp, he⟩ hnn => by
              have h2 : rows = rows.take k ++ rows.drop k := (List.take_append_drop k rows).symm
              rw [h2, List.map_append, List.nodup_append] at hnn
              have h3 : rows[k].1 ∈ (rows.drop k).map (·.1) := List.mem_map.2 ⟨rows[k], by rw [List.drop_eq_getElem_cons hlt]; exact List.mem_cons_self, rfl⟩
              exact hnn.2.2 p.1 (List.mem_map.2 ⟨p, hp, rfl⟩) rows[k].1 h3 he)
            clear hc he2 he3 hb hF
            generalize rows[k] = g at *
            have c0 : wr.cell? ⟨b, off + k * 3, none⟩ = some (.int .u64 g.1.1) := hcc 0 _ rfl
            have c1 : wr.cell? ⟨b, off + k * 3 + 1, none⟩ = some (.string g.1.2) := hcc 1 _ rfl
            have c2 : wr.cell? ⟨b, off + k * 3 + 2, none⟩ = some (.int .u64 g.2) := hcc 2 _ rfl
            have HL := Lib.hid hidx
            have HLE := Lib.hid hlen
            have HZ := Lib.hid hzl
            clear hcc hidx hlen hzl
            go_wp2_with fail
            refine (rfind_any _ ra v1 _ last g.1 _ HF.out (by have := HLE.out; omega)).mono ?_
            rintro e w2 ⟨rfl, hB⟩
            have HF2 := Lib.hid (HF.out.below hB)
            have HB2 := Lib.hid hB
            replace c0 := cell_keep hB c0
            replace c1 := cell_keep hB c1
            replace c2 := cell_keep hB c2
            clear hB HF
            by_cases hi : idxG (rowsR (rows.take k)) g.1 < (rowsR (rows.take k)).length
            · have hf : 0 ≤ findR (rowsR (rows.take k)) g.1 := by unfold findR; rw [if_pos hi]; omega
              have HE : Hid (newE last rows = 7) := Lib.hid (by
                unfold newE maxE
                obtain ⟨p, hp, he⟩ := HL.out.1 hi
                rw [if_neg (by rw [HBAD.out]; simp; omega), if_pos (HDUP.out ⟨p, HQ.out.perm.mem_iff.1 hp, he⟩)])
              have HLOW := Lib.hid (HQ.out.low.trans (HB2.out.mono HQ.out.low.size))
              clear hi HDUP HNX
              go_wp2_with fail
              go_ret2
              exact RNewP.no 7 HE.out (by decide) rfl HLOW.out
            · have hf : ¬ 0 ≤ findR (rowsR (rows.take k)) g.1 := by unfold findR; rw [if_neg hi]; omega
              have HI := Lib.hid hi
              clear hi HDUP
              go_wp2_with fail
              refine (rput_any _ ra v1 _ last g _ HF2.out (by have := HLE.out; omega) HZ.out hsz).mono ?_
              rintro e w3 ⟨rfl, v3, hF3, hFr⟩
              have HQ3 : Hid (Nq w ra rows last (k + 1) w3) := Lib.hid ⟨⟨v3, by rw [HNX.out]; exact hF3⟩, (HQ.out.low.trans (HB2.out.mono HQ.out.low.size)).trans (hFr.below (fun i hi => by omega) (by have := HB2.out.size; have := HQ.out.low.size; omega)), by
                  rw [HNX.out, takeR_none HI.out, HTK.out]
                  exact (insG_perm _ _).trans (HQ.out.perm.append_right _), by
                  rw [HTK.out, List.map_append, List.nodup_append]
                  refine ⟨HQ.out.nd, by simp, fun x hx y hy e => ?_⟩
                  obtain ⟨p, hp, rfl⟩ := List.mem_map.1 hx
                  simp at hy; subst hy
                  exact HI.out (HL.out.2 ⟨p, HQ.out.perm.mem_iff.2 hp, e⟩)⟩
              clear hF3 hFr HQ HF2 HB2 c0 c1 c2 HNX HI
              go_wp2_with fail
              go_roundg (gk - 1)
              case rel => exact ⟨k + 1, by omega, by go_num, HQ3.out⟩
              case measure => omega
          · obtain rfl : k = rows.length := by omega
            obtain ⟨v1, hF⟩ := HQ.out.fen
            have hnd := HQ.out.nd
            have hp := HQ.out.perm
            rw [List.take_length] at hF hnd hp
            have HND := Lib.hid hnd
            have HP := Lib.hid hp
            have HF := Lib.hid hF
            have HLOW := Lib.hid HQ.out.low
            have hlen := hp.length_eq
            obtain ⟨a5, cap5, rfl, _, _⟩ := hF.cap
            have c0 := hF.c0
            clear hF hnd hp HQ
            by_cases hbig : 1024 < rows.length
            · have HE : Hid (newE last rows = 6) := Lib.hid (by
                unfold newE maxE
                rw [if_neg (by rw [HBAD.out]; simp; omega), if_neg (by rw [Classical.not_not]; exact HND.out), if_pos hbig])
              have hbig2 : (1024 : Int) < ((rowsR rows).length : Int) := by omega
              go_wp2_with fail
              go_ret2
              exact RNewP.no 6 HE.out (by decide) rfl HLOW.out
            · have HE : Hid (newE last rows = 0) := Lib.hid (by
                unfold newE maxE
                rw [if_neg (by rw [HBAD.out]; simp; omega), if_neg (by rw [Classical.not_not]; exact HND.out), if_neg hbig])
              have hbig2 : ¬ (1024 : Int) < ((rowsR rows).length : Int) := by omega
              go_wp2_with fail
              go_ret2
              exact .inl ⟨HE.out, _, _, rfl, HF.out, HP.out, HLOW.out⟩
end Go.Proofs.Ytbelafkklblidaa
