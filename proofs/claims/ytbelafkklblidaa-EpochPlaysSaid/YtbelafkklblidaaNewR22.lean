/- Contract: New, whatever rows: the walk. -/
import Derived.Test.YtbelafkklblidaaNew22
import Derived.Carry
import Derived.Deep.DeepCutAuto
namespace Go.Proofs.Ytbelafkklblidaa
open Go.RowKit Go.Sort Go.Lib

/-- While New reads its rows. -/
structure Nr (w : World) (f m : Nat) (rows : List Gr) (last : Int) (k : Nat) (wr : World) : Prop where
  fen : Fen wr f m (rows.take k) last
  hf : w.heap.size ≤ f
  hm : w.heap.size ≤ m
  low : Fr (fun _ => False) w wr
  nd : ((rows.take k).map (·.1)).Nodup

theorem fen_made (w : World) (last : Int) : Fen ((w.alloc (.map #[] 0)).alloc (.cells #[.map (some w.heap.size), .int .u64 last] 61)) (w.heap.size + 1) w.heap.size [] last := by
  have h1 : MapL evU (w.alloc (.map #[] 0)) w.heap.size [] := MapL.made evU w
  constructor
  · have := heap_alloc_new (w.alloc (.map #[] 0)) (.cells #[.map (some w.heap.size), .int .u64 last] 61)
    simpa using this
  · exact h1.block (Below.heap_alloc _ _ _ (by simp))
theorem Fr.out {w w' : World} (h : Fr (fun _ => False) w w') : Below w.heap.size w w' := h.below (fun _ hi => hi.elim) (Nat.le_refl _)

set_option maxHeartbeats 1600000 in
set_option maxRecDepth 100000 in
theorem new_any (v : Value) (rows : List Gr) (last : Int) (w : World) (hv : ReadsK encG 3 w v rows) (hs : ∀ g ∈ rows, g.1.2.size ≤ 9223372036854775807) (hl : (rows.length : Int) ≤ 9223372036854775807) :
    Calls Try.prog 9 #[.int .u64 last, v] w (NewP last rows w) := by
  have hmf : ∀ (fn : Fn) (first cap : Array Value) (w : World), (Instr.makeFunc fn first cap).run Try.prog w = .ok (.func fn first cap) w := fun _ _ _ _ => rfl
  have hmm := @Go.RowKit.run_makeMap Try.prog
  obtain ⟨a, cap, rfl⟩ := hv.slice
  have HV := Lib.hid hv
  have HS := Lib.hid hs
  clear hv hs
  have hB1 : Below w.heap.size w (w.alloc (.cells #[.int .u64 last] 22)) := (Below.refl _ _).alloc (Nat.le_refl _) _
  have hj : (w.alloc (.cells #[.int .u64 last] 22)).cell? ⟨w.heap.size, 0, none⟩ = some (.int .u64 last) := by simp
  go_enter Try.func9, Try.ntmps9
  by_cases hlast : last > 281474976710656
  · have he : newE last rows = 2 := by unfold newE maxE; rw [if_pos (.inl hlast)]
    have HE := Lib.hid he
    clear he
    go_wp2_with fail
    go_ret2
    exact NewP.no 2 HE.out (by decide) rfl hB1
  · go_wp2_with fail
    refine (contains_rows _ rows w.heap.size last _ (HV.out.below hB1) hj HS.out (by omega)).mono ?_
    rintro e w1 ⟨rfl, hB2⟩
    have hj1 : w1.cell? ⟨w.heap.size, 0, none⟩ = some (.int .u64 last) := (hB2.cell (p := ⟨w.heap.size, 0, none⟩) (by simp)).trans hj
    have HB := Lib.hid (hB1.trans (hB2.mono (by simp)))
    have hlt1 : w.heap.size < w1.heap.size := by have := hB2.size; simp at this; omega
    clear hB1 hB2 hj
    cases hbad : rows.any (badG last)
    · have HBAD := Lib.hid hbad
      clear hbad
      have HF := Lib.hid (fen_made w1 last)
      have hNr : Hid (Nr w (w1.heap.size + 1) w1.heap.size rows last 0 ((w1.alloc (.map #[] 0)).alloc (.cells #[.map (some w1.heap.size), .int .u64 last] 61))) :=
        ⟨HF.out, by omega, by omega, ((Fr.of_below HB.out).alloc _).alloc _, List.nodup_nil⟩
      clear HF HB
      go_wp2_with fail
      generalize w1.heap.size = m at hNr
      go_loopg [24] rows.length (fun gk i wr => ∃ k : Nat, gk + k = rows.length ∧ i = .int .i64 k ∧ Nr w (m + 1) m rows last k wr)
      case atStart => exact ⟨0, by omega, rfl, hNr.out⟩
      case round =>
        clear hNr
        obtain ⟨k, hk, rfl, hN⟩ := hrel
        have HN := Lib.hid hN
        clear hN
        by_cases hlt : k < rows.length
        · obtain ⟨b, off, c, he, hb, hc⟩ := (HV.out.below HN.out.low.out).at (by omega)
          injection he with he1 he2 he3
          subst he1
          have hcc := hc k hlt
          have hnx := fun hz => Lib.hid (take_next hlt HBAD.out hz HN.out.nd)
          have htw := fun hz => Lib.hid (take_twice hlt hz)
          clear hc he2 he3
          generalize hg : rows[k] = g at *
          have c0 : wr.cell? ⟨b, off + k * 3, none⟩ = some (.int .u64 g.1.1) := hcc 0 _ rfl
          have c1 : wr.cell? ⟨b, off + k * 3 + 1, none⟩ = some (.string g.1.2) := hcc 1 _ rfl
          have c2 : wr.cell? ⟨b, off + k * 3 + 2, none⟩ = some (.int .u64 g.2) := hcc 2 _ rfl
          clear hcc hb hg
          have hF2 := Lib.hid (HN.out.fen.below ((Below.refl _ _).alloc (Nat.le_refl _) (.cells #[.int .u64 g.1.1, .string g.1.2, .int .u64 g.2] 43)))
          have hK2 := Lib.hid (HN.out.low.alloc (.cells #[.int .u64 g.1.1, .string g.1.2, .int .u64 g.2] 43))
          have n0 : (wr.alloc (.cells #[.int .u64 g.1.1, .string g.1.2, .int .u64 g.2] 43)).cell? ⟨wr.heap.size, 0, none⟩ = some (.int .u64 g.1.1) := by simp
          have n1 : (wr.alloc (.cells #[.int .u64 g.1.1, .string g.1.2, .int .u64 g.2] 43)).cell? ⟨wr.heap.size, 1, none⟩ = some (.string g.1.2) := by simp
          have n2 : (wr.alloc (.cells #[.int .u64 g.1.1, .string g.1.2, .int .u64 g.2] 43)).cell? ⟨wr.heap.size, 2, none⟩ = some (.int .u64 g.2) := by simp
          have d0 := hF2.out.c0
          have hlk := fun q => (hF2.out.drewN q).look g.1
          go_upto_region 8 with fail
          generalize wr.alloc (.cells #[.int .u64 g.1.1, .string g.1.2, .int .u64 g.2] 43) = wa at *
          by_cases hz : 0 < valU (rows.take k) g.1
          · have hzb : decide (0 < valU (rows.take k) g.1) = true := decide_eq_true hz
            have he : newE last rows = 7 := by
              unfold newE maxE
              rw [if_neg (by rw [HBAD.out]; simp; omega), if_pos (htw hz).out]
            have HE := Lib.hid he
            clear he hz
            go_wp2_with fail
            go_quiet (fail)
            go_wp2_with fail
            go_ret2
            exact NewP.no 7 HE.out (by decide) rfl (hK2.out.drewN _).out
          · have hzb : decide (0 < valU (rows.take k) g.1) = false := decide_eq_false hz
            have HX := Lib.hid (hnx hz).out
            clear hnx htw hz
            go_wp2_with fail
            go_quiet (fail)
            go_wp2_with fail
            have hq := Lib.hid (hF2.out.drewN nq)
            have kq := Lib.hid (hK2.out.drewN nq)
            replace n0 : (wa.drewN nq).cell? ⟨wr.heap.size, 0, none⟩ = some (.int .u64 g.1.1) := by simpa using n0
            replace n1 : (wa.drewN nq).cell? ⟨wr.heap.size, 1, none⟩ = some (.string g.1.2) := by simpa using n1
            replace n2 : (wa.drewN nq).cell? ⟨wr.heap.size, 2, none⟩ = some (.int .u64 g.2) := by simpa using n2
            clear d0 hF2 hK2 hlk
            have d0 := hq.out.c0
            generalize wa.drewN nq = wq at *
            obtain ⟨w2, hrun, hM, hO⟩ := hq.out.drew.map.update nameTy Try.underlying59 g.1 g.2
            unfold encN evU at hrun
            have hF3 := Lib.hid (hq.out.drew.onMap hO hM)
            have hK3 := Lib.hid (kq.out.drew.onlyNew hO HN.out.hm)
            clear hM hO hq kq
            go_region
            all_goals
              clear hrun n0 n1 n2 d0 c0 c1 c2
              go_wp2_with fail
              go_roundg (gk - 1)
              case rel => exact ⟨k + 1, by omega, by go_num, ⟨by rw [← HX.out.1]; exact hF3.out, HN.out.hf, HN.out.hm, hK3.out, HX.out.2⟩⟩
              case measure => omega
        · obtain rfl : k = rows.length := by omega
          have hF := HN.out.fen
          rw [List.take_length] at hF
          have hln := fun ty => hF.map.len (P := Try.prog) (k := 35) Try.underlying59 ty
          have d0 := hF.c0
          have hnd := HN.out.nd
          rw [List.take_length] at hnd
          have HFF := Lib.hid hF
          have HND := Lib.hid hnd
          have HLO := Lib.hid HN.out.low.out
          have hfs := HN.out.hf
          have hms := HN.out.hm
          clear hF hnd HN
          by_cases hbig : 1024 < rows.length
          · have he : newE last rows = 6 := by
              unfold newE maxE
              rw [if_neg (by rw [HBAD.out]; simp; omega), if_neg (by rw [Classical.not_not]; exact HND.out), if_pos hbig]
            have HE := Lib.hid he
            clear he
            go_wp2_with fail
            go_ret2
            exact NewP.no 6 HE.out (by decide) rfl HLO.out
          · have he : newE last rows = 0 := by
              unfold newE maxE
              rw [if_neg (by rw [HBAD.out]; simp; omega), if_neg (by rw [Classical.not_not]; exact HND.out), if_neg hbig]
            have HE := Lib.hid he
            clear he
            go_wp2_with fail
            go_ret2
            exact .inl ⟨HE.out, _, _, rfl, hfs, hms, HFF.out, HLO.out⟩
    · have he : newE last rows = 2 := by unfold newE; rw [if_pos (.inr hbad)]
      have HE := Lib.hid he
      clear he hbad
      go_wp2_with fail
      go_ret2
      exact NewP.no 2 HE.out (by decide) rfl HB.out
end Go.Proofs.Ytbelafkklblidaa
