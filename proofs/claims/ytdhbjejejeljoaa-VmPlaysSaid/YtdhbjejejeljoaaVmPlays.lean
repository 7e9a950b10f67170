/- VmPlays holds: what a frame answers, call by call. -/
import Derived.Test.YtdhbjejejeljoaaFd12
import Derived.Test.YtdhbjejejeljoaaOpenV14
import Derived.Deep.DeepCutAuto
namespace Go.Proofs.Ytdhbjejejeljoaa
open Go.RowKit Go.Sort Go.Lib

set_option maxHeartbeats 25600000 in
set_option maxRecDepth 100000 in
theorem plays_any (pv av cv : Value) (p : List Fnc) (t : Tk) (L : List StC) (w : World) (hp : ProgIn w pv p) (hav : ReadsK encN1 1 w av t.args) (hL : ReadsK encSt 4 w cv L) (hLb : ∀ x ∈ L, 0 ≤ x.k ∧ x.k ≤ 255) (hps : t.p.size ≤ maxLen) (hLl : L.length ≤ maxLen) :
    Calls Try.prog 3 #[.agg #[pv], .agg #[.string t.p, .int .i64 t.fn, av, .int .i64 t.fuel], cv] w fun e w' => e = .returned (.bool true) ∧ Below w.heap.size w w' := by
  obtain ⟨pa, pc, rfl⟩ := hp.fns.slice
  obtain ⟨aa, ac, rfl⟩ := hav.slice
  obtain ⟨ca, cc, rfl⟩ := hL.slice
  have hA1 : Below w.heap.size w (w.alloc (.cells #[.slice pa p.length pc] PrgT)) := alV _ _
  have hA2 : Below (w.alloc (.cells #[.slice pa p.length pc] PrgT)).heap.size _ ((w.alloc (.cells #[.slice pa p.length pc] PrgT)).alloc (.cells (taC t.p t.fn (.slice aa t.args.length ac) t.fuel) TaskT)) := alV _ _
  have b1 : BoxAt (w.alloc (.cells #[.slice pa p.length pc] PrgT)) w.heap.size #[.slice pa p.length pc] PrgT := heap_alloc_new _ _
  have b2 : BoxAt ((w.alloc (.cells #[.slice pa p.length pc] PrgT)).alloc (.cells (taC t.p t.fn (.slice aa t.args.length ac) t.fuel) TaskT)) (w.heap.size + 1) (taC t.p t.fn (.slice aa t.args.length ac) t.fuel) TaskT := by
    have h1 := heap_alloc_new (w.alloc (.cells #[.slice pa p.length pc] PrgT)) (.cells (taC t.p t.fn (.slice aa t.args.length ac) t.fuel) TaskT)
    rwa [World.size_alloc] at h1
  have H1 := Lib.hid (show (BoxAt _ w.heap.size #[.slice pa p.length pc] PrgT ∧ BoxAt _ (w.heap.size + 1) (taC t.p t.fn (.slice aa t.args.length ac) t.fuel) TaskT) ∧ Below w.heap.size w _ from ⟨⟨BoxAt.below b1 hA2, b2⟩, gthen hA1 hA2⟩)
  have HIN := Lib.hid (And.intro hp (And.intro hav hL))
  have HLB := Lib.hid hLb
  unfold maxLen at hps hLl
  clear hp hav hL hLb hA1 hA2 b1 b2
  go_enter Try.func3, Try.ntmps3
  go_upto_region 1 with fail
  simp only [taC] at H1
  generalize (w.alloc (.cells #[.slice pa p.length pc] PrgT)).alloc (.cells #[.string t.p, .int .i64 t.fn, .slice aa t.args.length ac, .int .i64 t.fuel] TaskT) = w1 at *
  have c0 := prg_cell H1.out.1.1
  obtain ⟨d0, d1, d2, d3⟩ := ta_cells H1.out.1.2
  go_wp2_with fail
  refine (heavy13_any _ p aa t.args.length ac t.fuel w1 (HIN.out.1.below H1.out.2)).mono ?_
  rintro e w2 ⟨rfl, hB⟩
  have H2 := Lib.hid (show (BoxAt w2 w.heap.size #[.slice pa p.length pc] PrgT ∧ BoxAt w2 (w.heap.size + 1) (taC t.p t.fn (.slice aa t.args.length ac) t.fuel) TaskT) ∧ Below w.heap.size w w2 from ⟨⟨BoxAt.below H1.out.1.1 hB, BoxAt.below H1.out.1.2 hB⟩, gthen H1.out.2 hB⟩)
  clear hB H1 c0 d0 d1 d2 d3
  have c0 := prg_cell H2.out.1.1
  obtain ⟨d0, d1, d2, d3⟩ := ta_cells H2.out.1.2
  cases hh : heavy13 p t.args.length t.fuel
  case true =>
    clear c0 d0 d1 d2 d3
    go_wp2_with fail
    refine (valive_any _).mono ?_
    rintro e w9 ⟨rfl, hB⟩
    have HB9 := Lib.hid (gthen H2.out.2 hB)
    clear hB
    go_wp2_with fail
    go_ret
    exact ⟨rfl, HB9.out⟩
  obtain ⟨hh1, hh2, hh3⟩ := heavy13_no hh
  clear hh
  by_cases hq : 200 < L.length
  case pos =>
    have hq1 : (200 : Int) < L.length := by omega
    have HX := Lib.hid hh1
    clear hh1 hh2 hh3 hq
    go_wp2_with fail
    refine (valive_any _).mono ?_
    rintro e w9 ⟨rfl, hB⟩
    have HB9 := Lib.hid (gthen H2.out.2 hB)
    clear hB
    go_wp2_with fail
    go_ret
    exact ⟨rfl, HB9.out⟩
  have hq1 : ¬ (200 : Int) < L.length := by omega
  by_cases hz : 1024 < t.p.size
  case pos =>
    have hz1 : (1024 : Int) < t.p.size := by omega
    have HX := Lib.hid hh1
    clear hh1 hh2 hh3 hq hz
    go_wp2_with fail
    refine (valive_any _).mono ?_
    rintro e w9 ⟨rfl, hB⟩
    have HB9 := Lib.hid (gthen H2.out.2 hB)
    clear hB
    go_wp2_with fail
    go_ret
    exact ⟨rfl, HB9.out⟩
  have hz1 : ¬ (1024 : Int) < t.p.size := by omega
  have HX := Lib.hid (And.intro hh1 (And.intro hh2 hh3))
  clear hh1 hh2 hh3 hz
  go_wp2_with fail
  refine (vnew_any _ (.slice aa t.args.length ac) p t w2 ((HIN.out.1.below H2.out.2).at HX.out.1) (HIN.out.2.1.below H2.out.2) (by have := HX.out.2.1; omega) (by omega)).mono ?_
  rintro e w3 hn3
  have HN3 := Lib.hid hn3.frm
  clear hn3
  have H3 := Lib.hid (show (BoxAt w3 w.heap.size #[.slice pa p.length pc] PrgT ∧ BoxAt w3 (w.heap.size + 1) (taC t.p t.fn (.slice aa t.args.length ac) t.fuel) TaskT) ∧ Below w.heap.size w w3 from ⟨⟨BoxAt.below H2.out.1.1 HN3.out.1, BoxAt.below H2.out.1.2 HN3.out.1⟩, gthen H2.out.2 HN3.out.1⟩)
  clear c0 d0 d1 d2 d3
  have c0 := prg_cell H3.out.1.1
  obtain ⟨d0, d1, d2, d3⟩ := ta_cells H3.out.1.2
  have HNEW := Lib.hid (show Calls Try.prog 9 #[.agg #[.slice pa p.length pc], .agg #[.string t.p, .int .i64 t.fn, .slice aa t.args.length ac, .int .i64 t.fuel]] w3 (NewDP (.slice pa p.length pc) p t w3) from dnew_any ((HIN.out.1.below H3.out.2).at HX.out.1) (HIN.out.2.1.below H3.out.2) (by omega) (by have := HX.out.2.1; omega))
  obtain ⟨hB3, ⟨hne, rfl⟩ | ⟨h0, x1, r1, rfl, hf1⟩⟩ := HN3.out
  · have hne1 := Lib.hid hne
    clear hne
    obtain ⟨z, hz⟩ : ∃ z, newE p t = z := ⟨_, rfl⟩
    rw [hz]
    have HZ := Lib.hid hz
    clear hz HN3 hB3
    go_wp2_with fail
    refine HNEW.out.mono ?_
    rintro e w4 ⟨hB4, ⟨hne4, rfl⟩ | ⟨h04, _⟩⟩
    · have H4 := Lib.hid (gthen H3.out.2 hB4)
      rw [HZ.out]
      clear hB4 hne4 c0 d0 d1 d2 d3
      go_wp2_with fail
      refine (valive_any _).mono ?_
      rintro e w9 ⟨rfl, hB⟩
      have HB9 := Lib.hid (gthen H4.out hB)
      clear hB
      go_wp2_with fail
      go_ret
      exact ⟨rfl, HB9.out⟩
    · exact absurd h04 hne1.out
  have HF1 := Lib.hid (And.intro hf1 h0)
  have h00 := h0
  clear hf1 hB3 h0
  rw [h00] at HN3
  go_wp2_with fail
  refine HNEW.out.mono ?_
  rintro e w4 ⟨hB4, ⟨hne4, _⟩ | ⟨h04, Z, b, q, r, av2, rfl, hZ, ho4, _, hd4⟩⟩
  · exact absurd HF1.out.2 hne4
  have hlt1 := HF1.out.1.lt
  have H4 := Lib.hid (show TwD w2.heap.size x1 r1 (.slice none 0 0) Z b q r (.slice pa p.length pc) av2 (.slice none 0 0) (.slice none 0 0) (.slice none 0 0) p t (newV p t) (newV p t) w2 w4 from
    ⟨HF1.out.1.below hB4, hd4, ⟨Nat.lt_of_lt_of_le hlt1.2.2.1 hZ, Nat.lt_of_lt_of_le hlt1.2.2.2.1 hZ⟩, gthen HN3.out.1 hB4, ⟨Nat.le_refl _, Nat.le_trans HN3.out.1.size hZ⟩⟩)
  have HPA := Lib.hid (show ProgAt w2 (.slice pa p.length pc) p from (HIN.out.1.below H2.out.2).at HX.out.1)
  have HAV := Lib.hid (HIN.out.2.1.below H2.out.2)
  have HLL := Lib.hid HIN.out.2.2
  have HAL := Lib.hid HX.out.2.1
  clear hB4 hd4 ho4 hZ h04 h00 hlt1 HF1 HNEW c0 d0 d1 d2 d3 H3 HN3 HX HIN
  generalize newV p t = s0 at *
  generalize w2.heap.size = B1 at *
  generalize w.heap.size + 1 = b4 at *
  go_wp2_with fail
  go_loopg [11] L.length (fun gk t11 wr => ∃ (k : Nat) (kv gv cv iv : Value) (s : Vs), gk + k = L.length ∧ t11 = .int .i64 k ∧ Hid (TwD B1 x1 r1 kv Z b q r (.slice pa p.length pc) av2 gv cv iv p t s s w2 wr))
  case atStart => exact ⟨0, _, _, _, _, s0, by omega, rfl, H4.out⟩
  case round =>
    clear H4
    obtain ⟨k, kv, gv, cv, iv, s, hgk, rfl, HR⟩ := hrel
    by_cases hk : k < L.length
    case neg =>
      have hk1 : ¬ (k : Int) < L.length := by omega
      have HB := Lib.hid (gthen H2.out.2 HR.out.low)
      clear HR hk
      go_wp2_with fail
      refine (valive_any _).mono ?_
      rintro e w9 ⟨rfl, hB⟩
      have HB9 := Lib.hid (gthen HB.out hB)
      clear hB
      go_wp2_with fail
      go_ret
      exact ⟨rfl, HB9.out⟩
    have hk1 : (k : Int) < L.length := by omega
    have hk0 : (0 : Int) ≤ k := by omega
    obtain ⟨b3, off3, c3, he3, hb3, hc3⟩ := HLL.out.at (by omega)
    injection he3 with he3 hnn hcc
    subst he3; subst hcc
    clear hnn
    obtain ⟨y, hy⟩ : ∃ y, L[k] = y := ⟨_, rfl⟩
    have HC := Lib.hid (show ∀ wy, Below w2.heap.size w2 wy → wy.cell? ⟨b3, off3 + k * 4, none⟩ = some (.int .u8 y.k) ∧ wy.cell? ⟨b3, off3 + k * 4 + 1, none⟩ = some (.int .i64 y.n) ∧ wy.cell? ⟨b3, off3 + k * 4 + 2, none⟩ = some (.int .i64 y.z.v) ∧ wy.cell? ⟨b3, off3 + k * 4 + 3, none⟩ = some (.int .i64 y.z.e) from fun wy hB => by
      have hB2 := gthen H2.out.2 hB
      rw [← hy]
      exact ⟨(hB2.cell (p := ⟨b3, off3 + k * 4, none⟩) hb3).trans (hc3 k hk 0 _ rfl), (hB2.cell (p := ⟨b3, off3 + k * 4 + 1, none⟩) hb3).trans (hc3 k hk 1 _ rfl), (hB2.cell (p := ⟨b3, off3 + k * 4 + 2, none⟩) hb3).trans (hc3 k hk 2 _ rfl), (hB2.cell (p := ⟨b3, off3 + k * 4 + 3, none⟩) hb3).trans (hc3 k hk 3 _ rfl)⟩)
    have hyb : 0 ≤ y.k ∧ y.k ≤ 255 := by rw [← hy]; exact HLB.out _ (List.getElem_mem hk)
    have HSL := Lib.hid hk
    clear hc3 hb3 hy hk
    have ht5 : y.k.tmod 5 = y.k % 5 := Int.tmod_eq_emod_of_nonneg hyb.1
    obtain ⟨m, hm⟩ : ∃ m : Nat, y.k % 5 = m := ⟨(y.k % 5).toNat, by omega⟩
    rw [hm] at ht5
    have hm5 : m < 5 := by omega
    have hwm : IntKind.u8.wrap (m : Int) = m := by rw [show IntKind.u8.wrap (m : Int) = (m : Int) % 256 from rfl]; omega
    clear hm hyb
    obtain ⟨g0, g1, g2, g3⟩ := HC.out _ HR.out.low
    have HINV := Lib.hid HR.out.f.inv
    have HK16 := Lib.hid HINV.out.2.2.1.k1
    go_upto_if 69 with fail
    go_cut [] (fun wc => ∃ (kv gv cv iv : Value) (s : Vs), Hid (TwD B1 x1 r1 kv Z b q r (.slice pa p.length pc) av2 gv cv iv p t s s w2 wc))
    case first =>
      by_cases hm3 : m < 3
      · have hm3i : (m : Int) < 3 := by omega
        clear hm3 hm5
        go_upto_if 76 with fail
        go_cut [12] (fun t12 wc => ∃ n : Int, t12 = .int .i64 n ∧ n ≤ 3000 ∧ wc = wr)
        case first =>
          by_cases hn : 3000 < y.n
          · clear g0 g1 g2 g3
            go_wp2_with fail
            go_meet
            exact ⟨3000, rfl, by decide, rfl⟩
          · clear g0 g1 g2 g3
            go_wp2_with fail
            go_meet
            exact ⟨y.n, rfl, by omega, rfl⟩
        case rest =>
          obtain ⟨n, rfl, hn, rfl⟩ := hcut
          have HN := Lib.hid hn
          clear hn g0 g1 g2 g3 hm3i ht5 hwm HC
          obtain ⟨a, ee, s1, ha⟩ : ∃ a ee s1, runI p t n s = (a, ee, s1) := ⟨_, _, _, rfl⟩
          have HRI := Lib.hid ha
          have HFT := Lib.hid (runI_facts ha HINV.out.1 HINV.out.2.1 HINV.out.2.2.1 HINV.out.2.2.2)
          clear ha
          clear y
          obtain ⟨y, rfl⟩ : ∃ y, y = a := ⟨_, rfl⟩
          go_wp2_with fail
          refine (frm_runI n HN.out HR.out.f HRI.out).mono ?_
          rintro e w5 ⟨va, vc, kv5, rfl, ho5, hf5, hl5⟩
          have H5 := Lib.hid (show TwD B1 x1 r1 kv5 Z b q r (.slice pa p.length pc) av2 gv cv iv p t s1 s w2 w5 ∧ w5.ownsRow wc.heap.size I64T 1 (.slice va y.kid.args.length vc) y.kid.args.length (y.kid.args.flatMap encN1) ∧ r < wc.heap.size from ⟨HR.out.runf hf5 hl5, ho5, HR.out.d.rlt⟩)
          clear ho5 hf5 hl5 HR
          generalize wc.heap.size = Z5 at *
          go_upto_region 17 with fail
          have hA6 := alV w5 (.cells #[.int .u8 y.k, .string y.kid.p, .int .i64 y.kid.fn, .slice va y.kid.args.length vc, .int .i64 y.kid.fuel, .int .i64 y.r.v, .int .i64 y.r.e] StopT)
          have H6 := Lib.hid (show (TwD B1 x1 r1 kv5 Z b q r (.slice pa p.length pc) av2 gv cv iv p t s1 s w2 (w5.alloc (.cells #[.int .u8 y.k, .string y.kid.p, .int .i64 y.kid.fn, .slice va y.kid.args.length vc, .int .i64 y.kid.fuel, .int .i64 y.r.v, .int .i64 y.r.e] StopT)) ∧ (w5.alloc (.cells #[.int .u8 y.k, .string y.kid.p, .int .i64 y.kid.fn, .slice va y.kid.args.length vc, .int .i64 y.kid.fuel, .int .i64 y.r.v, .int .i64 y.r.e] StopT)).ownsRow Z5 I64T 1 (.slice va y.kid.args.length vc) y.kid.args.length (y.kid.args.flatMap encN1) ∧ r < Z5) ∧ BoxAt (w5.alloc (.cells #[.int .u8 y.k, .string y.kid.p, .int .i64 y.kid.fn, .slice va y.kid.args.length vc, .int .i64 y.kid.fuel, .int .i64 y.r.v, .int .i64 y.r.e] StopT)) w5.heap.size #[.int .u8 y.k, .string y.kid.p, .int .i64 y.kid.fn, .slice va y.kid.args.length vc, .int .i64 y.kid.fuel, .int .i64 y.r.v, .int .i64 y.r.e] StopT from ⟨⟨H5.out.1.below hA6, own_below H5.out.2.1 hA6, H5.out.2.2⟩, heap_alloc_new _ _⟩)
          clear hA6 H5
          generalize w5.alloc (.cells #[.int .u8 y.k, .string y.kid.p, .int .i64 y.kid.fn, .slice va y.kid.args.length vc, .int .i64 y.kid.fuel, .int .i64 y.r.v, .int .i64 y.r.e] StopT) = w6 at *
          generalize w5.heap.size = b13 at *
          go_wp2_with fail
          refine (drun_I n HN.out H6.out.1.1.d (H6.out.1.1.prog HPA.out).1 (H6.out.1.1.prog HPA.out).2 HINV.out.1 HINV.out.2.1 HINV.out.2.2.1 HINV.out.2.2.2 HRI.out).mono ?_
          rintro e w7 ⟨ub, uc, gv7, cv7, iv7, rfl, ho7, hd7, hl7, hs7⟩
          have H7 := Lib.hid (show TwD B1 x1 r1 kv5 Z b q r (.slice pa p.length pc) av2 gv7 cv7 iv7 p t s1 s1 w2 w7 ∧ ReadsK encN1 1 w7 (.slice va y.kid.args.length vc) y.kid.args ∧ ReadsK encN1 1 w7 (.slice ub y.kid.args.length uc) y.kid.args ∧ BoxAt w7 b13 #[.int .u8 y.k, .string y.kid.p, .int .i64 y.kid.fn, .slice va y.kid.args.length vc, .int .i64 y.kid.fuel, .int .i64 y.r.v, .int .i64 y.r.e] StopT from
            ⟨H6.out.1.1.rund hd7 hl7 hs7 (by by_cases hk2 : y.k = 2; exact .inr (HFT.out.1 hk2); exact .inl hk2), own_readsK (enc := encN1) (k := 1) (fun _ => rfl) (by decide) (H6.out.1.1.d.nums hl7.fr H6.out.1.2.1 H6.out.1.2.2), own_readsK (enc := encN1) (k := 1) (fun _ => rfl) (by decide) ho7, H6.out.1.1.boxd hl7.fr H6.out.2 (by decide)⟩)
          clear ho7 hd7 hl7 hs7 H6
          go_upto_region 18 with fail
          have hA8 := alV w7 (.cells #[.int .u8 y.k, .string y.kid.p, .int .i64 y.kid.fn, .slice ub y.kid.args.length uc, .int .i64 y.kid.fuel, .int .i64 y.r.v, .int .i64 y.r.e] StopT)
          have H8 := Lib.hid (show TwD B1 x1 r1 kv5 Z b q r (.slice pa p.length pc) av2 gv7 cv7 iv7 p t s1 s1 w2 (w7.alloc (.cells #[.int .u8 y.k, .string y.kid.p, .int .i64 y.kid.fn, .slice ub y.kid.args.length uc, .int .i64 y.kid.fuel, .int .i64 y.r.v, .int .i64 y.r.e] StopT)) ∧ ReadsK encN1 1 (w7.alloc (.cells #[.int .u8 y.k, .string y.kid.p, .int .i64 y.kid.fn, .slice ub y.kid.args.length uc, .int .i64 y.kid.fuel, .int .i64 y.r.v, .int .i64 y.r.e] StopT)) (.slice va y.kid.args.length vc) y.kid.args ∧ ReadsK encN1 1 (w7.alloc (.cells #[.int .u8 y.k, .string y.kid.p, .int .i64 y.kid.fn, .slice ub y.kid.args.length uc, .int .i64 y.kid.fuel, .int .i64 y.r.v, .int .i64 y.r.e] StopT)) (.slice ub y.kid.args.length uc) y.kid.args from ⟨H7.out.1.below hA8, H7.out.2.1.below hA8, H7.out.2.2.1.below hA8⟩)
          have HB13 := Lib.hid (BoxAt.below H7.out.2.2.2 hA8)
          have HB15 := Lib.hid (show BoxAt (w7.alloc (.cells #[.int .u8 y.k, .string y.kid.p, .int .i64 y.kid.fn, .slice ub y.kid.args.length uc, .int .i64 y.kid.fuel, .int .i64 y.r.v, .int .i64 y.r.e] StopT)) w7.heap.size #[.int .u8 y.k, .string y.kid.p, .int .i64 y.kid.fn, .slice ub y.kid.args.length uc, .int .i64 y.kid.fuel, .int .i64 y.r.v, .int .i64 y.r.e] StopT from heap_alloc_new _ _)
          clear hA8 H7
          generalize w7.alloc (.cells #[.int .u8 y.k, .string y.kid.p, .int .i64 y.kid.fn, .slice ub y.kid.args.length uc, .int .i64 y.kid.fuel, .int .i64 y.r.v, .int .i64 y.r.e] StopT) = w8 at *
          generalize w7.heap.size = b15 at *
          have c0 := HB13.out.cell 0; have c1 := HB13.out.cell 1; have c2 := HB13.out.cell 2; have c3 := HB13.out.cell 3; have c4 := HB13.out.cell 4; have c5 := HB13.out.cell 5; have c6 := HB13.out.cell 6
          have d0 := HB15.out.cell 0; have d1 := HB15.out.cell 1; have d2 := HB15.out.cell 2; have d3 := HB15.out.cell 3; have d4 := HB15.out.cell 4; have d5 := HB15.out.cell 5; have d6 := HB15.out.cell 6
          simp only [List.getElem?_toArray, List.getElem?_cons_zero, List.getElem?_cons_succ] at c0 c1 c2 c3 c4 c5 c6 d0 d1 d2 d3 d4 d5 d6
          go_wp2_with fail
          refine (stops_same y.k y.kid.p y.kid.fn y.kid.fuel y.r.v y.r.e _ _ y.kid.args _ H8.out.2.1 H8.out.2.2 (by have := HFT.out.2; omega)).mono ?_
          rintro e w9 ⟨rfl, hB9⟩
          have H9 := Lib.hid (H8.out.1.below hB9)
          clear hB9 H8 c0 c1 c2 c3 c4 c5 c6 d0 d1 d2 d3 d4 d5 d6 HB13 HB15
          go_wp2_with fail
          go_meet
          exact ⟨_, _, _, _, s1, H9⟩
      · have hm3i : ¬ (m : Int) < 3 := by omega
        have hm3b : decide ((m : Int) < 3) = false := decide_eq_false hm3i
        clear hm3 hm5 g0 g1 g2 g3
        obtain ⟨rg, s1, hg⟩ : ∃ rg s1, giveV s y.n y.z = (rg, s1) := ⟨_, _, rfl⟩
        have HG := Lib.hid hg
        clear hg
        go_upto_region 20 with fail
        refine wp_region_held_drew (S := fun wy => Below w2.heap.size w2 wy) (by kernel_rfl) (HR.out.low.drew) (fun hHeld => ?_)
        refine wpAnyH_take (i := 0) (oi := _) (v := ?_) (by rw [List.getElem?_toArray]; exact rfl) (by kernel_rfl) (by kernel_rfl) (by kernel_rfl) (by exact fun _ _ _ h => h) (Or.inl ⟨by rfl, ?_⟩) hHeld ?_
        rotate_left
        · (intro wX hSw; clear hSw; go_simp; try with_reducible rfl)
        try simp only [Act.put, List.setIfInBounds_toArray, List.set_cons_zero, List.set_cons_succ]
        refine wpAnyH_take (i := 1) (oi := _) (v := ?_) (by rw [List.getElem?_toArray]; exact rfl) (by kernel_rfl) (by kernel_rfl) (by kernel_rfl) (by exact fun _ _ _ h => h) (Or.inl ⟨by rfl, ?_⟩) hHeld ?_
        rotate_left
        · (intro wX hSw; clear hSw; go_simp; try with_reducible rfl)
        try simp only [Act.put, List.setIfInBounds_toArray, List.set_cons_zero, List.set_cons_succ]
        refine wpAnyH_take (i := 2) (oi := _) (v := ?_) (by rw [List.getElem?_toArray]; exact rfl) (by kernel_rfl) (by kernel_rfl) (by kernel_rfl) (by exact fun _ _ _ h => h) (Or.inl ⟨by rfl, ?_⟩) hHeld ?_
        rotate_left
        · (intro wX hSw; clear hSw; go_simp; try with_reducible rfl)
        try simp only [Act.put, List.setIfInBounds_toArray, List.set_cons_zero, List.set_cons_succ]
        refine wpAnyH_take (i := 3) (oi := _) (v := ?_) (by rw [List.getElem?_toArray]; exact rfl) (by kernel_rfl) (by kernel_rfl) (by kernel_rfl) (by exact fun _ _ _ h => h) (Or.inl ⟨by rfl, ?_⟩) hHeld ?_
        rotate_left
        · (intro wX hSw; clear hSw; go_simp; try with_reducible rfl)
        try simp only [Act.put, List.setIfInBounds_toArray, List.set_cons_zero, List.set_cons_succ]
        refine wpAnyH_take (i := 4) (oi := _) (v := ?_) (by rw [List.getElem?_toArray]; exact rfl) (by kernel_rfl) (by kernel_rfl) (by kernel_rfl) (by exact fun _ _ _ h => h) (Or.inl ⟨by rfl, ?_⟩) hHeld ?_
        rotate_left
        · (intro wX hSw; clear hSw; go_simp; try with_reducible rfl)
        try simp only [Act.put, List.setIfInBounds_toArray, List.set_cons_zero, List.set_cons_succ]
        refine wpAnyH_take (i := 5) (oi := _) (v := ?_) (by rw [List.getElem?_toArray]; exact rfl) (by kernel_rfl) (by kernel_rfl) (by kernel_rfl) (by exact fun _ _ _ h => h) (Or.inl ⟨by rfl, ?_⟩) hHeld ?_
        rotate_left
        · (intro wX hSw; obtain ⟨z0, z1, z2, z3⟩ := HC.out _ hSw; clear hSw; go_simp; try with_reducible rfl)
        try simp only [Act.put, List.setIfInBounds_toArray, List.set_cons_zero, List.set_cons_succ]
        refine wpAnyH_take (i := 6) (oi := _) (v := ?_) (by rw [List.getElem?_toArray]; exact rfl) (by kernel_rfl) (by kernel_rfl) (by kernel_rfl) (by exact fun _ _ _ h => h) (Or.inl ⟨by rfl, ?_⟩) hHeld ?_
        rotate_left
        · (intro wX hSw; clear hSw; go_simp; try with_reducible rfl)
        try simp only [Act.put, List.setIfInBounds_toArray, List.set_cons_zero, List.set_cons_succ]
        refine wpAnyH_take (i := 7) (oi := _) (v := ?_) (by rw [List.getElem?_toArray]; exact rfl) (by kernel_rfl) (by kernel_rfl) (by kernel_rfl) (by exact fun _ _ _ h => h) (Or.inl ⟨by rfl, ?_⟩) hHeld ?_
        rotate_left
        · (intro wX hSw; clear hSw; go_simp; try with_reducible rfl)
        try simp only [Act.put, List.setIfInBounds_toArray, List.set_cons_zero, List.set_cons_succ]
        refine wpAnyH_take (i := 8) (oi := _) (v := ?_) (by rw [List.getElem?_toArray]; exact rfl) (by kernel_rfl) (by kernel_rfl) (by kernel_rfl) (by exact fun _ _ _ h => h) (Or.inl ⟨by rfl, ?_⟩) hHeld ?_
        rotate_left
        · (intro wX hSw; clear hSw; go_simp; try with_reducible rfl)
        try simp only [Act.put, List.setIfInBounds_toArray, List.set_cons_zero, List.set_cons_succ]
        refine wpAnyH_take (i := 9) (oi := _) (v := ?_) (by rw [List.getElem?_toArray]; exact rfl) (by kernel_rfl) (by kernel_rfl) (by kernel_rfl) (by exact fun _ _ _ h => h) (Or.inl ⟨by rfl, ?_⟩) hHeld ?_
        rotate_left
        · (intro wX hSw; clear hSw; go_simp; try with_reducible rfl)
        try simp only [Act.put, List.setIfInBounds_toArray, List.set_cons_zero, List.set_cons_succ]
        refine wpAnyH_take (i := 10) (oi := _) (v := ?_) (by rw [List.getElem?_toArray]; exact rfl) (by kernel_rfl) (by kernel_rfl) (by kernel_rfl) (by exact fun _ _ _ h => h) (Or.inl ⟨by rfl, ?_⟩) hHeld ?_
        rotate_left
        · (intro wX hSw; obtain ⟨z0, z1, z2, z3⟩ := HC.out _ hSw; clear hSw; go_simp; try with_reducible rfl)
        try simp only [Act.put, List.setIfInBounds_toArray, List.set_cons_zero, List.set_cons_succ]
        refine wpAnyH_take (i := 12) (oi := _) (v := ?_) (by rw [List.getElem?_toArray]; exact rfl) (by kernel_rfl) (by kernel_rfl) (by kernel_rfl) (by exact fun _ _ _ h => h) (Or.inl ⟨by rfl, ?_⟩) hHeld ?_
        rotate_left
        · (intro wX hSw; clear hSw; go_simp; try with_reducible rfl)
        try simp only [Act.put, List.setIfInBounds_toArray, List.set_cons_zero, List.set_cons_succ]
        refine wpAnyH_take (i := 13) (oi := _) (v := ?_) (by rw [List.getElem?_toArray]; exact rfl) (by kernel_rfl) (by kernel_rfl) (by kernel_rfl) (by exact fun _ _ _ h => h) (Or.inl ⟨by rfl, ?_⟩) hHeld ?_
        rotate_left
        · (intro wX hSw; clear hSw; go_simp; try with_reducible rfl)
        try simp only [Act.put, List.setIfInBounds_toArray, List.set_cons_zero, List.set_cons_succ]
        refine wpAnyH_take (i := 14) (oi := _) (v := ?_) (by rw [List.getElem?_toArray]; exact rfl) (by kernel_rfl) (by kernel_rfl) (by kernel_rfl) (by exact fun _ _ _ h => h) (Or.inl ⟨by rfl, ?_⟩) hHeld ?_
        rotate_left
        · (intro wX hSw; clear hSw; go_simp; try with_reducible rfl)
        try simp only [Act.put, List.setIfInBounds_toArray, List.set_cons_zero, List.set_cons_succ]
        refine wpAnyH_take (i := 15) (oi := _) (v := ?_) (by rw [List.getElem?_toArray]; exact rfl) (by kernel_rfl) (by kernel_rfl) (by kernel_rfl) (by exact fun _ _ _ h => h) (Or.inl ⟨by rfl, ?_⟩) hHeld ?_
        rotate_left
        · (intro wX hSw; clear hSw; go_simp; try with_reducible rfl)
        try simp only [Act.put, List.setIfInBounds_toArray, List.set_cons_zero, List.set_cons_succ]
        refine wpAnyH_take (i := 16) (oi := _) (v := ?_) (by rw [List.getElem?_toArray]; exact rfl) (by kernel_rfl) (by kernel_rfl) (by kernel_rfl) (by exact fun _ _ _ h => h) (Or.inl ⟨by rfl, ?_⟩) hHeld ?_
        rotate_left
        · (intro wX hSw; clear hSw; go_simp; try with_reducible rfl)
        try simp only [Act.put, List.setIfInBounds_toArray, List.set_cons_zero, List.set_cons_succ]
        refine wpAnyH_take (i := 17) (oi := _) (v := ?_) (by rw [List.getElem?_toArray]; exact rfl) (by kernel_rfl) (by kernel_rfl) (by kernel_rfl) (by exact fun _ _ _ h => h) (Or.inl ⟨by rfl, ?_⟩) hHeld ?_
        rotate_left
        · (intro wX hSw; obtain ⟨z0, z1, z2, z3⟩ := HC.out _ hSw; clear hSw; go_simp; try with_reducible rfl)
        try simp only [Act.put, List.setIfInBounds_toArray, List.set_cons_zero, List.set_cons_succ]
        refine wpAnyH_take (i := 18) (oi := _) (v := ?_) (by rw [List.getElem?_toArray]; exact rfl) (by kernel_rfl) (by kernel_rfl) (by kernel_rfl) (by exact fun _ _ _ h => h) (Or.inl ⟨by rfl, ?_⟩) hHeld ?_
        rotate_left
        · (intro wX hSw; clear hSw; go_simp; try with_reducible rfl)
        try simp only [Act.put, List.setIfInBounds_toArray, List.set_cons_zero, List.set_cons_succ]
        refine wpAnyH_take (i := 19) (oi := _) (v := ?_) (by rw [List.getElem?_toArray]; exact rfl) (by kernel_rfl) (by kernel_rfl) (by kernel_rfl) (by exact fun _ _ _ h => h) (Or.inl ⟨by rfl, ?_⟩) hHeld ?_
        rotate_left
        · (intro wX hSw; clear hSw; go_simp; try with_reducible rfl)
        try simp only [Act.put, List.setIfInBounds_toArray, List.set_cons_zero, List.set_cons_succ]
        refine wpAnyH_take (i := 20) (oi := _) (v := ?_) (by rw [List.getElem?_toArray]; exact rfl) (by kernel_rfl) (by kernel_rfl) (by kernel_rfl) (by exact fun _ _ _ h => h) (Or.inl ⟨by rfl, ?_⟩) hHeld ?_
        rotate_left
        · (intro wX hSw; clear hSw; go_simp; try with_reducible rfl)
        try simp only [Act.put, List.setIfInBounds_toArray, List.set_cons_zero, List.set_cons_succ]
        refine wpAnyH_take (i := 21) (oi := _) (v := ?_) (by rw [List.getElem?_toArray]; exact rfl) (by kernel_rfl) (by kernel_rfl) (by kernel_rfl) (by exact fun _ _ _ h => h) (Or.inl ⟨by rfl, ?_⟩) hHeld ?_
        rotate_left
        · (intro wX hSw; clear hSw; go_simp; try with_reducible rfl)
        try simp only [Act.put, List.setIfInBounds_toArray, List.set_cons_zero, List.set_cons_succ]
        refine wpAnyH_take (i := 22) (oi := _) (v := ?_) (by rw [List.getElem?_toArray]; exact rfl) (by kernel_rfl) (by kernel_rfl) (by kernel_rfl) (by exact fun _ _ _ h => h) (Or.inl ⟨by rfl, ?_⟩) hHeld ?_
        rotate_left
        · (intro wX hSw; obtain ⟨z0, z1, z2, z3⟩ := HC.out _ hSw; clear hSw; go_simp; try with_reducible rfl)
        try simp only [Act.put, List.setIfInBounds_toArray, List.set_cons_zero, List.set_cons_succ]
        refine wpAnyH_ready (rs := [11]) (by kernel_rfl) (by simp) ?_
        refine AllReadyH.cons (o := _) (by rw [List.getElem?_toArray]; exact rfl) (fun K hK => ?_) AllReadyH.nil
        go_simp
        refine (frm_give y.n y.z (HR.out.f.below (Below.refl _ _).drew) HG.out).mono ?_; rintro e w5 ⟨rfl, hf5, hl5⟩; have H5 := Lib.hid ((HR.out.below (Below.refl _ _).drew).runf hf5 hl5); clear hf5 hl5
        go_wp2_with fail
        refine hK.out _ _ (H5.out.low) (fun hHeld => ?_)
        clear hK K
        try simp only [Act.put, List.setIfInBounds_toArray, List.set_cons_zero, List.set_cons_succ]
        refine wpAnyH_ready (rs := [23]) (by kernel_rfl) (by simp) ?_
        refine AllReadyH.cons (o := _) (by rw [List.getElem?_toArray]; exact rfl) (fun K hK => ?_) AllReadyH.nil
        go_simp
        refine (dgive_any y.n y.z H5.out.d HK16.out).mono ?_; rintro e w6 ⟨rfl, hd6, hF6, hs6⟩; rw [HG.out] at hd6 ⊢; have H6 := Lib.hid (H5.out.gived hd6 hF6 hs6 (by have h1 := giveV_res (s := s) y.n y.z; rw [HG.out] at h1; exact h1)); clear hd6 hF6 hs6
        go_wp2_with fail
        refine hK.out _ _ (H6.out.low) (fun hHeld => ?_)
        clear hK K
        try simp only [Act.put, List.setIfInBounds_toArray, List.set_cons_zero, List.set_cons_succ]
        refine wpAnyH_take (i := 24) (oi := _) (v := ?_) (by rw [List.getElem?_toArray]; exact rfl) (by kernel_rfl) (by kernel_rfl) (by kernel_rfl) (by exact fun _ _ _ h => h) (Or.inl ⟨by rfl, ?_⟩) hHeld ?_
        rotate_left
        · (intro wX hSw; clear hSw; go_simp; try with_reducible rfl)
        try simp only [Act.put, List.setIfInBounds_toArray, List.set_cons_zero, List.set_cons_succ]
        refine wpAnyH_done (by kernel_rfl) ?_ _
        go_wp2_with fail
        go_meet
        exact ⟨_, _, _, _, s1, H6⟩
    case rest =>
      obtain ⟨kv, gv, cv, iv, s, HR⟩ := hcut
      clear g0 g1 g2 g3 ht5 hwm hm5 HINV HK16 HC
      obtain ⟨wz, rfl⟩ : ∃ wx, wx = wc := ⟨_, rfl⟩
      have HK16 := Lib.hid HR.out.f.inv.2.2.1.k1
      obtain ⟨NL, hNL⟩ : ∃ NL, s.kids.length = NL := ⟨_, rfl⟩
      obtain ⟨LW, hLW⟩ : ∃ LW, waitsV s = LW := ⟨_, rfl⟩
      have HLE := Lib.hid (show LW.length ≤ 1000000 from by have h1 := waitsL_len s.kids.length s.kids; have h2 := HK16.out; rw [← hLW]; unfold waitsV; omega)
      obtain ⟨ga, gc, hgv⟩ := own_slice HR.out.d.gvn
      rw [hNL] at hgv
      subst hgv
      have HLW := Lib.hid hLW
      have HNL := Lib.hid hNL
      clear hLW hNL
      go_upto_region 22 with fail
      refine wp_region_held_drew (S := fun wy => Fd Z b q r (.slice pa p.length pc) t av2 (.slice ga NL gc) cv iv s wy ∧ BoxAt wy b4 (taC t.p t.fn (.slice aa t.args.length ac) t.fuel) TaskT) (by kernel_rfl) (⟨HR.out.d.below (Below.refl _ _).drew, BoxAt.below H2.out.1.2 (HR.out.below (Below.refl _ _).drew).low⟩) (fun hHeld => ?_)
      refine wpAnyH_take (i := 0) (oi := _) (v := ?_) (by rw [List.getElem?_toArray]; exact rfl) (by kernel_rfl) (by kernel_rfl) (by kernel_rfl) (by exact fun _ _ _ h => h) (Or.inl ⟨by rfl, ?_⟩) hHeld ?_
      rotate_left
      · (intro wX hSw; clear hSw; go_simp; try with_reducible rfl)
      try simp only [Act.put, List.setIfInBounds_toArray, List.set_cons_zero, List.set_cons_succ]
      refine wpAnyH_take (i := 2) (oi := _) (v := ?_) (by rw [List.getElem?_toArray]; exact rfl) (by kernel_rfl) (by kernel_rfl) (by kernel_rfl) (by exact fun _ _ _ h => h) (Or.inl ⟨by rfl, ?_⟩) hHeld ?_
      rotate_left
      · (intro wX hSw; clear hSw; go_simp; try with_reducible rfl)
      try simp only [Act.put, List.setIfInBounds_toArray, List.set_cons_zero, List.set_cons_succ]
      refine wpAnyH_take (i := 3) (oi := _) (v := ?_) (by rw [List.getElem?_toArray]; exact rfl) (by kernel_rfl) (by kernel_rfl) (by kernel_rfl) (by exact fun _ _ _ h => h) (Or.inl ⟨by rfl, ?_⟩) hHeld ?_
      rotate_left
      · (intro wX hSw; clear hSw; go_simp; try with_reducible rfl)
      try simp only [Act.put, List.setIfInBounds_toArray, List.set_cons_zero, List.set_cons_succ]
      refine wpAnyH_take (i := 4) (oi := _) (v := ?_) (by rw [List.getElem?_toArray]; exact rfl) (by kernel_rfl) (by kernel_rfl) (by kernel_rfl) (by exact fun _ _ _ h => h) (Or.inl ⟨by rfl, ?_⟩) hHeld ?_
      rotate_left
      · (intro wX hSw; clear hSw; go_simp; try with_reducible rfl)
      try simp only [Act.put, List.setIfInBounds_toArray, List.set_cons_zero, List.set_cons_succ]
      refine wpAnyH_take (i := 5) (oi := _) (v := ?_) (by rw [List.getElem?_toArray]; exact rfl) (by kernel_rfl) (by kernel_rfl) (by kernel_rfl) (by exact fun _ _ _ h => h) (Or.inl ⟨by rfl, ?_⟩) hHeld ?_
      rotate_left
      · (intro wX hSw; obtain ⟨wo, hbx, _⟩ := hSw.1.box; have z1 := (fd_cells hbx).2.1; clear hbx hSw; go_simp; try with_reducible rfl)
      try simp only [Act.put, List.setIfInBounds_toArray, List.set_cons_zero, List.set_cons_succ]
      refine wpAnyH_take (i := 6) (oi := _) (v := ?_) (by rw [List.getElem?_toArray]; exact rfl) (by kernel_rfl) (by kernel_rfl) (by kernel_rfl) (by exact fun _ _ _ h => h) (Or.inl ⟨by rfl, ?_⟩) hHeld ?_
      rotate_left
      · (intro wX hSw; clear hSw; go_simp; try with_reducible rfl)
      try simp only [Act.put, List.setIfInBounds_toArray, List.set_cons_zero, List.set_cons_succ]
      refine wpAnyH_ready (rs := [1]) (by kernel_rfl) (by simp) ?_
      refine AllReadyH.cons (o := _) (by rw [List.getElem?_toArray]; exact rfl) (fun K hK => ?_) AllReadyH.nil
      go_simp
      refine (frm_kids (HR.out.f.below (Below.refl _ _).drew)).mono ?_; rintro e w5 ⟨rfl, rfl⟩; rw [HNL.out]
      go_wp2_with fail
      refine hK.out _ _ (hHeld) (fun hHeld => ?_)
      clear hK K
      try simp only [Act.put, List.setIfInBounds_toArray, List.set_cons_zero, List.set_cons_succ]
      refine wpAnyH_take (i := 7) (oi := _) (v := ?_) (by rw [List.getElem?_toArray]; exact rfl) (by kernel_rfl) (by kernel_rfl) (by kernel_rfl) (by exact fun _ _ _ h => h) (Or.inl ⟨by rfl, ?_⟩) hHeld ?_
      rotate_left
      · (intro wX hSw; clear hSw; go_simp; try with_reducible rfl)
      try simp only [Act.put, List.setIfInBounds_toArray, List.set_cons_zero, List.set_cons_succ]
      refine wpAnyH_take (i := 8) (oi := _) (v := ?_) (by rw [List.getElem?_toArray]; exact rfl) (by kernel_rfl) (by kernel_rfl) (by kernel_rfl) (by exact fun _ _ _ h => h) (Or.inl ⟨by rfl, ?_⟩) hHeld ?_
      rotate_left
      · (intro wX hSw; clear hSw; go_simp; try with_reducible rfl)
      try simp only [Act.put, List.setIfInBounds_toArray, List.set_cons_zero, List.set_cons_succ]
      refine wpAnyH_take (i := 9) (oi := _) (v := ?_) (by rw [List.getElem?_toArray]; exact rfl) (by kernel_rfl) (by kernel_rfl) (by kernel_rfl) (by exact fun _ _ _ h => h) (Or.inl ⟨by rfl, ?_⟩) hHeld ?_
      rotate_left
      · (intro wX hSw; clear hSw; go_simp; try with_reducible rfl)
      try simp only [Act.put, List.setIfInBounds_toArray, List.set_cons_zero, List.set_cons_succ]
      refine wpAnyH_take (i := 11) (oi := _) (v := ?_) (by rw [List.getElem?_toArray]; exact rfl) (by kernel_rfl) (by kernel_rfl) (by kernel_rfl) (by exact fun _ _ _ h => h) (Or.inl ⟨by rfl, ?_⟩) hHeld ?_
      rotate_left
      · (intro wX hSw; clear hSw; go_simp; try with_reducible rfl)
      try simp only [Act.put, List.setIfInBounds_toArray, List.set_cons_zero, List.set_cons_succ]
      refine wpAnyH_take (i := 12) (oi := _) (v := ?_) (by rw [List.getElem?_toArray]; exact rfl) (by kernel_rfl) (by kernel_rfl) (by kernel_rfl) (by exact fun _ _ _ h => h) (Or.inl ⟨by rfl, ?_⟩) hHeld ?_
      rotate_left
      · (intro wX hSw; clear hSw; go_simp; try with_reducible rfl)
      try simp only [Act.put, List.setIfInBounds_toArray, List.set_cons_zero, List.set_cons_succ]
      refine wpAnyH_take (i := 13) (oi := _) (v := ?_) (by rw [List.getElem?_toArray]; exact rfl) (by kernel_rfl) (by kernel_rfl) (by kernel_rfl) (by exact fun _ _ _ h => h) (Or.inl ⟨by rfl, ?_⟩) hHeld ?_
      rotate_left
      · (intro wX hSw; clear hSw; go_simp; try with_reducible rfl)
      try simp only [Act.put, List.setIfInBounds_toArray, List.set_cons_zero, List.set_cons_succ]
      refine wpAnyH_take (i := 14) (oi := _) (v := ?_) (by rw [List.getElem?_toArray]; exact rfl) (by kernel_rfl) (by kernel_rfl) (by kernel_rfl) (by exact fun _ _ _ h => h) (Or.inl ⟨by rfl, ?_⟩) hHeld ?_
      rotate_left
      · (intro wX hSw; obtain ⟨wo, hbx, _⟩ := hSw.1.box; have z0 := (fd_cells hbx).1; clear hbx hSw; go_simp; try with_reducible rfl)
      try simp only [Act.put, List.setIfInBounds_toArray, List.set_cons_zero, List.set_cons_succ]
      refine wpAnyH_take (i := 15) (oi := _) (v := ?_) (by rw [List.getElem?_toArray]; exact rfl) (by kernel_rfl) (by kernel_rfl) (by kernel_rfl) (by exact fun _ _ _ h => h) (Or.inl ⟨by rfl, ?_⟩) hHeld ?_
      rotate_left
      · (intro wX hSw; clear hSw; go_simp; try with_reducible rfl)
      try simp only [Act.put, List.setIfInBounds_toArray, List.set_cons_zero, List.set_cons_succ]
      refine wpAnyH_take (i := 16) (oi := _) (v := ?_) (by rw [List.getElem?_toArray]; exact rfl) (by kernel_rfl) (by kernel_rfl) (by kernel_rfl) (by exact fun _ _ _ h => h) (Or.inl ⟨by rfl, ?_⟩) hHeld ?_
      rotate_left
      · (intro wX hSw; clear hSw; go_simp; try with_reducible rfl)
      try simp only [Act.put, List.setIfInBounds_toArray, List.set_cons_zero, List.set_cons_succ]
      refine wpAnyH_take (i := 17) (oi := _) (v := ?_) (by rw [List.getElem?_toArray]; exact rfl) (by kernel_rfl) (by kernel_rfl) (by kernel_rfl) (by exact fun _ _ _ h => h) (Or.inl ⟨by rfl, ?_⟩) hHeld ?_
      rotate_left
      · (intro wX hSw; obtain ⟨f, hru, _⟩ := hSw.1.run; have z0 : wX.cell? ⟨q, 7, none⟩ = some (.int .i64 s.left) := (ru_cells hru).2.2.2.2.2.1; clear hru hSw; go_simp; try with_reducible rfl)
      try simp only [Act.put, List.setIfInBounds_toArray, List.set_cons_zero, List.set_cons_succ]
      refine wpAnyH_ready (rs := [10]) (by kernel_rfl) (by simp) ?_
      refine AllReadyH.cons (o := _) (by rw [List.getElem?_toArray]; exact rfl) (fun K hK => ?_) AllReadyH.nil
      go_simp
      refine (frm_left (HR.out.f.below (Below.refl _ _).drew)).mono ?_; rintro e w6 ⟨rfl, rfl⟩
      go_wp2_with fail
      refine hK.out _ _ (hHeld) (fun hHeld => ?_)
      clear hK K
      try simp only [Act.put, List.setIfInBounds_toArray, List.set_cons_zero, List.set_cons_succ]
      refine wpAnyH_take (i := 18) (oi := _) (v := ?_) (by rw [List.getElem?_toArray]; exact rfl) (by kernel_rfl) (by kernel_rfl) (by kernel_rfl) (by exact fun _ _ _ h => h) (Or.inl ⟨by rfl, ?_⟩) hHeld ?_
      rotate_left
      · (intro wX hSw; clear hSw; go_simp; try with_reducible rfl)
      try simp only [Act.put, List.setIfInBounds_toArray, List.set_cons_zero, List.set_cons_succ]
      refine wpAnyH_take (i := 19) (oi := _) (v := ?_) (by rw [List.getElem?_toArray]; exact rfl) (by kernel_rfl) (by kernel_rfl) (by kernel_rfl) (by exact fun _ _ _ h => h) (Or.inl ⟨by rfl, ?_⟩) hHeld ?_
      rotate_left
      · (intro wX hSw; clear hSw; go_simp; try with_reducible rfl)
      try simp only [Act.put, List.setIfInBounds_toArray, List.set_cons_zero, List.set_cons_succ]
      refine wpAnyH_take (i := 20) (oi := _) (v := ?_) (by rw [List.getElem?_toArray]; exact rfl) (by kernel_rfl) (by kernel_rfl) (by kernel_rfl) (by exact fun _ _ _ h => h) (Or.inl ⟨by rfl, ?_⟩) hHeld ?_
      rotate_left
      · (intro wX hSw; clear hSw; go_simp; try with_reducible rfl)
      try simp only [Act.put, List.setIfInBounds_toArray, List.set_cons_zero, List.set_cons_succ]
      refine wpAnyH_take (i := 21) (oi := _) (v := ?_) (by rw [List.getElem?_toArray]; exact rfl) (by kernel_rfl) (by kernel_rfl) (by kernel_rfl) (by exact fun _ _ _ h => h) (Or.inl ⟨by rfl, ?_⟩) hHeld ?_
      rotate_left
      · (intro wX hSw; clear hSw; go_simp; try with_reducible rfl)
      try simp only [Act.put, List.setIfInBounds_toArray, List.set_cons_zero, List.set_cons_succ]
      refine wpAnyH_take (i := 23) (oi := _) (v := ?_) (by rw [List.getElem?_toArray]; exact rfl) (by kernel_rfl) (by kernel_rfl) (by kernel_rfl) (by exact fun _ _ _ h => h) (Or.inl ⟨by rfl, ?_⟩) hHeld ?_
      rotate_left
      · (intro wX hSw; clear hSw; go_simp; try with_reducible rfl)
      try simp only [Act.put, List.setIfInBounds_toArray, List.set_cons_zero, List.set_cons_succ]
      refine wpAnyH_ready (rs := [22]) (by kernel_rfl) (by simp) ?_
      refine AllReadyH.cons (o := _) (by rw [List.getElem?_toArray]; exact rfl) (fun K hK => ?_) AllReadyH.nil
      go_simp
      refine (frm_waits (HR.out.f.below (Below.refl _ _).drew) HLW.out).mono ?_; rintro e w7 ⟨va, vc, rfl, ho7, hB7⟩; have H7 := Lib.hid ((HR.out.below (Below.refl _ _).drew).below hB7); have HW7 := Lib.hid (own_readsK (enc := encN1) (k := 1) (fun _ => rfl) (by decide) ho7); clear ho7 hB7
      go_wp2_with fail
      refine hK.out _ _ (⟨H7.out.d, BoxAt.below H2.out.1.2 H7.out.low⟩) (fun hHeld => ?_)
      clear hK K
      try simp only [Act.put, List.setIfInBounds_toArray, List.set_cons_zero, List.set_cons_succ]
      refine wpAnyH_ready (rs := [24]) (by kernel_rfl) (by simp) ?_
      refine AllReadyH.cons (o := _) (by rw [List.getElem?_toArray]; exact rfl) (fun K hK => ?_) AllReadyH.nil
      go_simp
      refine (dmissing_any H7.out.d HK16.out).mono ?_; rintro e w8 ⟨ua, uc, rfl, ho8, hB8⟩; rw [HLW.out] at ho8 ⊢; have H8 := Lib.hid (H7.out.below hB8); have HW8 := Lib.hid (And.intro (HW7.out.below hB8) (own_readsK (enc := encN1) (k := 1) (fun _ => rfl) (by decide) ho8)); clear ho8 hB8
      go_wp2_with fail
      refine hK.out _ _ (⟨H8.out.d, BoxAt.below H2.out.1.2 H8.out.low⟩) (fun hHeld => ?_)
      clear hK K
      try simp only [Act.put, List.setIfInBounds_toArray, List.set_cons_zero, List.set_cons_succ]
      refine wpAnyH_ready (rs := [25]) (by kernel_rfl) (by simp) ?_
      refine AllReadyH.cons (o := _) (by rw [List.getElem?_toArray]; exact rfl) (fun K hK => ?_) AllReadyH.nil
      go_simp
      refine (same_any _ _ LW _ HW8.out.1 HW8.out.2 HLE.out).mono ?_; rintro e w9 ⟨rfl, hB9⟩; have H9 := Lib.hid (H8.out.below hB9); clear hB9
      go_wp2_with fail
      refine hK.out _ _ (⟨H9.out.d, BoxAt.below H2.out.1.2 H9.out.low⟩) (fun hHeld => ?_)
      clear hK K
      try simp only [Act.put, List.setIfInBounds_toArray, List.set_cons_zero, List.set_cons_succ]
      refine wpAnyH_take (i := 26) (oi := _) (v := ?_) (by rw [List.getElem?_toArray]; exact rfl) (by kernel_rfl) (by kernel_rfl) (by kernel_rfl) (by exact fun _ _ _ h => h) (Or.inl ⟨by rfl, ?_⟩) hHeld ?_
      rotate_left
      · (intro wX hSw; clear hSw; go_simp; try with_reducible rfl)
      try simp only [Act.put, List.setIfInBounds_toArray, List.set_cons_zero, List.set_cons_succ]
      refine wpAnyH_take (i := 27) (oi := _) (v := ?_) (by rw [List.getElem?_toArray]; exact rfl) (by kernel_rfl) (by kernel_rfl) (by kernel_rfl) (by exact fun _ _ _ h => h) (Or.inl ⟨by rfl, ?_⟩) hHeld ?_
      rotate_left
      · (intro wX hSw; clear hSw; go_simp; try with_reducible rfl)
      try simp only [Act.put, List.setIfInBounds_toArray, List.set_cons_zero, List.set_cons_succ]
      refine wpAnyH_take (i := 28) (oi := _) (v := ?_) (by rw [List.getElem?_toArray]; exact rfl) (by kernel_rfl) (by kernel_rfl) (by kernel_rfl) (by exact fun _ _ _ h => h) (Or.inl ⟨by rfl, ?_⟩) hHeld ?_
      rotate_left
      · (intro wX hSw; clear hSw; go_simp; try with_reducible rfl)
      try simp only [Act.put, List.setIfInBounds_toArray, List.set_cons_zero, List.set_cons_succ]
      refine wpAnyH_take (i := 29) (oi := _) (v := ?_) (by rw [List.getElem?_toArray]; exact rfl) (by kernel_rfl) (by kernel_rfl) (by kernel_rfl) (by exact fun _ _ _ h => h) (Or.inl ⟨by rfl, ?_⟩) hHeld ?_
      rotate_left
      · (intro wX hSw; clear hSw; go_simp; try with_reducible rfl)
      try simp only [Act.put, List.setIfInBounds_toArray, List.set_cons_zero, List.set_cons_succ]
      refine wpAnyH_take (i := 31) (oi := _) (v := ?_) (by rw [List.getElem?_toArray]; exact rfl) (by kernel_rfl) (by kernel_rfl) (by kernel_rfl) (by exact fun _ _ _ h => h) (Or.inl ⟨by rfl, ?_⟩) hHeld ?_
      rotate_left
      · (intro wX hSw; obtain ⟨z0, z1, z2, z3⟩ := ta_cells hSw.2; clear hSw; go_simp; try with_reducible rfl)
      try simp only [Act.put, List.setIfInBounds_toArray, List.set_cons_zero, List.set_cons_succ]
      refine wpAnyH_ready (rs := [30]) (by kernel_rfl) (by simp) ?_
      refine AllReadyH.cons (o := _) (by rw [List.getElem?_toArray]; exact rfl) (fun K hK => ?_) AllReadyH.nil
      go_simp
      refine (frm_task H9.out.f).mono ?_; rintro e w10 ⟨xa, xc, rfl, ho10, hB10⟩; have H10 := Lib.hid (H9.out.below hB10); have HW10 := Lib.hid (own_readsK (enc := encN1) (k := 1) (fun _ => rfl) (by decide) ho10); clear ho10 hB10
      go_wp2_with fail
      refine hK.out _ _ (⟨H10.out.d, BoxAt.below H2.out.1.2 H10.out.low⟩) (fun hHeld => ?_)
      clear hK K
      try simp only [Act.put, List.setIfInBounds_toArray, List.set_cons_zero, List.set_cons_succ]
      refine wpAnyH_ready (rs := [32]) (by kernel_rfl) (by simp) ?_
      refine AllReadyH.cons (o := _) (by rw [List.getElem?_toArray]; exact rfl) (fun K hK => ?_) AllReadyH.nil
      go_simp
      refine (tasks_same _ _ _ _ _ t.args _ HW10.out (HAV.out.below H10.out.low) (by have := HAL.out; omega)).mono ?_; rintro e w11 ⟨rfl, hB11⟩; have H11 := Lib.hid (H10.out.below hB11); clear hB11
      go_wp2_with fail
      refine hK.out _ _ (⟨H11.out.d, BoxAt.below H2.out.1.2 H11.out.low⟩) (fun hHeld => ?_)
      clear hK K
      try simp only [Act.put, List.setIfInBounds_toArray, List.set_cons_zero, List.set_cons_succ]
      refine wpAnyH_take (i := 33) (oi := _) (v := ?_) (by rw [List.getElem?_toArray]; exact rfl) (by kernel_rfl) (by kernel_rfl) (by kernel_rfl) (by exact fun _ _ _ h => h) (Or.inl ⟨by rfl, ?_⟩) hHeld ?_
      rotate_left
      · (intro wX hSw; clear hSw; go_simp; try with_reducible rfl)
      try simp only [Act.put, List.setIfInBounds_toArray, List.set_cons_zero, List.set_cons_succ]
      refine wpAnyH_take (i := 34) (oi := _) (v := ?_) (by rw [List.getElem?_toArray]; exact rfl) (by kernel_rfl) (by kernel_rfl) (by kernel_rfl) (by exact fun _ _ _ h => h) (Or.inl ⟨by rfl, ?_⟩) hHeld ?_
      rotate_left
      · (intro wX hSw; clear hSw; go_simp; try with_reducible rfl)
      try simp only [Act.put, List.setIfInBounds_toArray, List.set_cons_zero, List.set_cons_succ]
      refine wpAnyH_done (by kernel_rfl) ?_ _
      go_wp2_with fail
      go_roundg (gk - 1)
      case rel => exact ⟨k + 1, _, _, _, _, s, by omega, by go_num, H11.out⟩
      case measure => omega
end Go.Proofs.Ytdhbjejejeljoaa
