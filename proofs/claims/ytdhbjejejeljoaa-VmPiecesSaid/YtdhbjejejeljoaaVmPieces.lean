/- VmPieces holds: a task that is run in pieces. -/
import Derived.Test.YtdhbjejejeljoaaVmP1
import Derived.Test.YtdhbjejejeljoaaOpen14
import Derived.Deep.DeepCutAuto
namespace Go.Proofs.Ytdhbjejejeljoaa
open Go.RowKit Go.Sort Go.Lib

abbrev encB (x : Int) : List Value := [.int .u8 x]
/-- The frame that is run in pieces: it isn't there yet, or it is. -/
def PcW (B1 x1 r1 : Nat) (kv1 : Value) (B2 x2 r2 : Nat) (p : List Fnc) (t : Tk) (y : Sp) (s1 : Vs) (b15 b17 Z : Nat) (va : Option Addr) (vc : Nat) (k a : Nat) (done : Bool) (sg : Vs) (w0 w : World) : Prop :=
  ∃ kv2, TwF B1 x1 r1 kv1 B2 x2 r2 kv2 p t s1 sg w0 w ∧ BoxAt w b15 #[.int .u8 y.k, .string y.kid.p, .int .i64 y.kid.fn, .slice va y.kid.args.length vc, .int .i64 y.kid.fuel, .int .i64 y.r.v, .int .i64 y.r.e] StopT ∧ w.ownsRow Z I64T 1 (.slice va y.kid.args.length vc) y.kid.args.length (y.kid.args.flatMap encN1) ∧ (r2 < Z ∧ Z ≤ w.heap.size ∧ w0.heap.size ≤ b17) ∧
    ((done = false ∧ (∃ mb mc, BoxAt w b17 #[.int .u8 1, .string ⟨#[]⟩, .int .i64 0, .slice mb 0 mc, .int .i64 0, .int .i64 0, .int .i64 0] StopT) ∧ RunsTo p t sg y s1 ∧ (a : Int) + sg.left ≤ t.fuel + k) ∨
     (done = true ∧ sg = s1 ∧ (a : Int) + s1.left ≤ t.fuel + k + 1 ∧ ∃ ub uc, BoxAt w b17 #[.int .u8 y.k, .string y.kid.p, .int .i64 y.kid.fn, .slice ub y.kid.args.length uc, .int .i64 y.kid.fuel, .int .i64 y.r.v, .int .i64 y.r.e] StopT ∧ w.ownsRow Z I64T 1 (.slice ub y.kid.args.length uc) y.kid.args.length (y.kid.args.flatMap encN1)))
set_option maxHeartbeats 25600000 in
set_option maxRecDepth 100000 in
theorem pieces_any (pv av pcv gv : Value) (p : List Fnc) (t : Tk) (P G : List Int) (w : World) (hp : ProgIn w pv p) (hav : ReadsK encN1 1 w av t.args) (hP : ReadsK encB 1 w pcv P) (hPb : ∀ x ∈ P, 0 ≤ x ∧ x ≤ 255) (hG : ReadsK encN1 1 w gv G) (hps : t.p.size ≤ maxLen) (hPl : P.length ≤ maxLen) (hGl : G.length ≤ maxLen) :
    Calls Try.prog 5 #[.agg #[pv], .agg #[.string t.p, .int .i64 t.fn, av, .int .i64 t.fuel], pcv, gv] w fun e w' => e = .returned (.bool true) ∧ Below w.heap.size w w' := by
  obtain ⟨pa, pc, rfl⟩ := hp.fns.slice
  obtain ⟨aa, ac, rfl⟩ := hav.slice
  obtain ⟨ca, cc, rfl⟩ := hP.slice
  obtain ⟨ga, gc, rfl⟩ := hG.slice
  have hA1 : Below w.heap.size w (w.alloc (.cells #[.slice pa p.length pc] PrgT)) := alV _ _
  have hA2 : Below (w.alloc (.cells #[.slice pa p.length pc] PrgT)).heap.size _ ((w.alloc (.cells #[.slice pa p.length pc] PrgT)).alloc (.cells (taC t.p t.fn (.slice aa t.args.length ac) t.fuel) TaskT)) := alV _ _
  have b1 : BoxAt (w.alloc (.cells #[.slice pa p.length pc] PrgT)) w.heap.size #[.slice pa p.length pc] PrgT := heap_alloc_new _ _
  have b2 : BoxAt ((w.alloc (.cells #[.slice pa p.length pc] PrgT)).alloc (.cells (taC t.p t.fn (.slice aa t.args.length ac) t.fuel) TaskT)) (w.heap.size + 1) (taC t.p t.fn (.slice aa t.args.length ac) t.fuel) TaskT := by
    have h1 := heap_alloc_new (w.alloc (.cells #[.slice pa p.length pc] PrgT)) (.cells (taC t.p t.fn (.slice aa t.args.length ac) t.fuel) TaskT)
    rwa [World.size_alloc] at h1
  have H1 := Lib.hid (show (BoxAt _ w.heap.size #[.slice pa p.length pc] PrgT ∧ BoxAt _ (w.heap.size + 1) (taC t.p t.fn (.slice aa t.args.length ac) t.fuel) TaskT) ∧ Below w.heap.size w _ from ⟨⟨BoxAt.below b1 hA2, b2⟩, gthen hA1 hA2⟩)
  have HIN := Lib.hid (And.intro hp (And.intro hav (And.intro hP hG)))
  have HPB := Lib.hid hPb
  unfold maxLen at hps hPl hGl
  clear hp hav hP hPb hG hA1 hA2 b1 b2
  go_enter Try.func5, Try.ntmps5
  go_upto_region 1 with fail
  simp only [taC] at H1
  generalize (w.alloc (.cells #[.slice pa p.length pc] PrgT)).alloc (.cells #[.string t.p, .int .i64 t.fn, .slice aa t.args.length ac, .int .i64 t.fuel] TaskT) = w1 at *
  have c0 := prg_cell H1.out.1.1
  obtain ⟨d0, d1, d2, d3⟩ := ta_cells H1.out.1.2
  go_wp2_with fail
  refine (heavy13_any _ p aa t.args.length ac t.fuel w1 (HIN.out.1.below H1.out.2)).mono ?_
  rintro e w2 ⟨rfl, hB⟩
  have H2 := Lib.hid (show (BoxAt w2 w.heap.size #[.slice pa p.length pc] PrgT ∧ BoxAt w2 (w.heap.size + 1) (taC t.p t.fn (.slice aa t.args.length ac) t.fuel) TaskT) ∧ Below w.heap.size w w2 from ⟨⟨BoxAt.below H1.out.1.1 hB, BoxAt.below H1.out.1.2 hB⟩, gthen H1.out.2 hB⟩)
  clear hB H1 c0 d0 d1 d2 d3
  have c0 := prg_cell H2.out.1.1
  obtain ⟨d0, d1, d2, d3⟩ := ta_cells H2.out.1.2
  cases hh : heavy13 p t.args.length t.fuel
  case true =>
    clear c0 d0 d1 d2 d3
    go_wp2_with fail
    refine (valive_any w2).mono ?_
    rintro e w3 ⟨rfl, hB⟩
    have HB := Lib.hid (gthen H2.out.2 hB)
    clear hB
    go_wp2_with fail
    go_ret
    exact ⟨rfl, HB.out⟩
  obtain ⟨hh1, hh2, hh3⟩ := heavy13_no hh
  clear hh
  by_cases hq : 200 < P.length
  case pos =>
    have hq1 : (200 : Int) < P.length := by omega
    have HX := Lib.hid hh1
    clear hh1 hh2 hh3 hq
    go_wp2_with fail
    refine (valive_any w2).mono ?_
    rintro e w3 ⟨rfl, hB⟩
    have HB := Lib.hid (gthen H2.out.2 hB)
    clear hB
    go_wp2_with fail
    go_ret
    exact ⟨rfl, HB.out⟩
  have hq1 : ¬ (200 : Int) < P.length := by omega
  by_cases hz : 1024 < t.p.size
  case pos =>
    have hz1 : (1024 : Int) < t.p.size := by omega
    have HX := Lib.hid hh1
    clear hh1 hh2 hh3 hq hz
    go_wp2_with fail
    refine (valive_any w2).mono ?_
    rintro e w3 ⟨rfl, hB⟩
    have HB := Lib.hid (gthen H2.out.2 hB)
    clear hB
    go_wp2_with fail
    go_ret
    exact ⟨rfl, HB.out⟩
  have hz1 : ¬ (1024 : Int) < t.p.size := by omega
  have HX := Lib.hid (And.intro hh1 (And.intro hh2 hh3))
  have hfu : t.fuel ≤ 3000 := hh3
  clear hh1 hh2 hh3 hz
  go_wp2_with fail
  refine (vnew_any _ (.slice aa t.args.length ac) p t w2 ((HIN.out.1.below H2.out.2).at HX.out.1) (HIN.out.2.1.below H2.out.2) (by have := HX.out.2.1; omega) (by omega)).mono ?_
  rintro e w3 hn3
  have HN3 := Lib.hid hn3.frm
  clear hn3
  have H3 := Lib.hid (show (BoxAt w3 w.heap.size #[.slice pa p.length pc] PrgT ∧ BoxAt w3 (w.heap.size + 1) (taC t.p t.fn (.slice aa t.args.length ac) t.fuel) TaskT) ∧ Below w.heap.size w w3 from ⟨⟨BoxAt.below H2.out.1.1 HN3.out.1, BoxAt.below H2.out.1.2 HN3.out.1⟩, gthen H2.out.2 HN3.out.1⟩)
  have HSZ2 := Lib.hid H2.out.2.size
  clear H2 c0 d0 d1 d2 d3
  have c0 := prg_cell H3.out.1.1
  obtain ⟨d0, d1, d2, d3⟩ := ta_cells H3.out.1.2
  have HNEW := Lib.hid (show Calls Try.prog 8 #[.agg #[.slice pa p.length pc], .agg #[.string t.p, .int .i64 t.fn, .slice aa t.args.length ac, .int .i64 t.fuel]] w3 (NewVP p t w3) from vnew_any _ (.slice aa t.args.length ac) p t w3 ((HIN.out.1.below H3.out.2).at HX.out.1) (HIN.out.2.1.below H3.out.2) (by have := HX.out.2.1; omega) (by omega))
  obtain ⟨hB3, ⟨hne, rfl⟩ | ⟨h0, x1, r1, rfl, hf1⟩⟩ := HN3.out
  · have hne1 : (newE p t != 0) = true := by simpa using hne
    have hne0 := Lib.hid hne
    clear hne
    obtain ⟨z, hz⟩ : ∃ z, newE p t = z := ⟨_, rfl⟩
    rw [hz] at hne1 ⊢
    have HZ := Lib.hid hz
    clear hz HN3 hB3
    go_wp2_with fail
    refine HNEW.out.mono ?_
    rintro e w4 hn4
    obtain ⟨hB4, ⟨hne4, rfl⟩ | ⟨h04, _⟩⟩ := hn4.frm
    · have H4 := Lib.hid (gthen H3.out.2 hB4)
      rw [HZ.out]
      clear hn4 hB4 hne4 c0 d0 d1 d2 d3
      go_wp2_with fail
      refine (valive_any w4).mono ?_
      rintro e w5 ⟨rfl, hB⟩
      have HB := Lib.hid (gthen H4.out hB)
      clear hB
      go_wp2_with fail
      go_ret
      exact ⟨rfl, HB.out⟩
    · exact absurd h04 hne0.out
  have HF1 := Lib.hid (And.intro hf1 h0)
  clear hf1 hB3 HN3 h0
  go_wp2_with fail
  refine HNEW.out.mono ?_
  rintro e w4 hn4
  obtain ⟨hB4, ⟨hne4, _⟩ | ⟨h04, x2, r2, rfl, hf2⟩⟩ := hn4.frm
  · exact absurd HF1.out.2 hne4
  have hlt1 := HF1.out.1.lt
  have H4 := Lib.hid (show TwF w2.heap.size x1 r1 (.slice none 0 0) w3.heap.size x2 r2 (.slice none 0 0) p t (newV p t) (newV p t) w w4 from
    ⟨HF1.out.1.below hB4, hf2, .nil, ⟨hlt1.2.2.1, hlt1.2.2.2.1⟩, gthen H3.out.2 hB4, ⟨HSZ2.out, H3.out.2.size⟩⟩)
  clear hn4 hB4 hf2 h04 hlt1 HF1 HNEW c0 d0 d1 d2 d3 H3
  have HL0 := Lib.hid (show (newV p t).left = t.fuel from rfl)
  generalize newV p t = s0 at *
  generalize w2.heap.size = B1 at *
  generalize w3.heap.size = B2 at *
  clear HSZ2
  go_wp2_with fail
  go_loopg [13, 14] 72 (fun gk t13 t14 wr => ∃ (k a : Nat) (kv1 kv2 : Value) (s : Vs), gk + k = 72 ∧ t14 = .int .i64 k ∧ t13 = .int .i64 a ∧ Hid (TwF B1 x1 r1 kv1 B2 x2 r2 kv2 p t s s w wr ∧ (a : Int) + s.left ≤ t.fuel + k ∧ s.left ≤ t.fuel))
  case atStart => exact ⟨0, 0, _, _, s0, by omega, rfl, rfl, H4.out, by have := HL0.out; omega, by have := HL0.out; omega⟩
  case round =>
    clear H4 HL0
    obtain ⟨k, a, kv1, kv2, s, hgk, rfl, rfl, HR⟩ := hrel
    by_cases hk : k < 72
    case neg =>
      have hk1 : ¬ (k : Int) < 72 := by omega
      have HB := Lib.hid HR.out.1.low
      clear HR
      go_wp2_with fail
      refine (valive_any wr).mono ?_
      rintro e w5 ⟨rfl, hB⟩
      have HB2 := Lib.hid (gthen HB.out hB)
      clear hB
      go_wp2_with fail
      go_ret
      exact ⟨rfl, HB2.out⟩
    have hk1 : (k : Int) < 72 := by omega
    obtain ⟨y, s1, hy⟩ : ∃ y s1, runV p t 3001 s = (y, s1) := ⟨_, _, rfl⟩
    have HINV := Lib.hid HR.out.1.f.inv
    have HK := Lib.hid (show (y.k = 2 ∨ y.k = 3 ∨ y.k = 4) ∧ s1.left ≤ s.left ∧ (y.k = 2 → Told s1) from by
      have h1 := run_stop (p := p) (t := t) (s := s) 3001 HINV.out.2.2.1.l0 (by have := HR.out.2.2; omega)
      have h2 := runV_left HINV.out.1 HINV.out.2.1 3001 HINV.out.2.2.1 HINV.out.2.2.2
      have h3 := runV_told (p := p) (t := t) (s := s) 3001
      rw [hy] at h1 h2 h3
      exact ⟨h1, h2, h3⟩)
    have HAR := Lib.hid (show y.kid.args.length ≤ 16 from by
      have h1 := runV_args HINV.out.1 HINV.out.2.1 3001 HINV.out.2.2.1 HINV.out.2.2.2
      rw [hy] at h1
      exact h1)
    have HY := Lib.hid hy
    clear hy
    go_wp2_with fail
    refine (frm_run 3001 (by decide) (by decide) HR.out.1.f HY.out).mono ?_
    rintro e w5 ⟨va, vc, kv1', rfl, ho5, hf5, hl5⟩
    have H5 := Lib.hid (show TwF B1 x1 r1 kv1' B2 x2 r2 kv2 p t s1 s w w5 ∧ w5.ownsRow wr.heap.size I64T 1 (.slice va y.kid.args.length vc) y.kid.args.length (y.kid.args.flatMap encN1) ∧ r2 < wr.heap.size ∧ wr.heap.size ≤ w5.heap.size from ⟨HR.out.1.runf hf5 hl5, ho5, HR.out.1.g.lt.2.2.2.1, hl5.fr.size⟩)
    have HAL := Lib.hid (And.intro HR.out.2.1 HR.out.2.2)
    clear ho5 hf5 hl5 HR
    generalize wr.heap.size = Z at *
    go_upto_region 12 with fail
    have hA6 := alV w5 (.cells #[.int .u8 y.k, .string y.kid.p, .int .i64 y.kid.fn, .slice va y.kid.args.length vc, .int .i64 y.kid.fuel, .int .i64 y.r.v, .int .i64 y.r.e] StopT)
    have H6 := Lib.hid (show (TwF B1 x1 r1 kv1' B2 x2 r2 kv2 p t s1 s w (w5.alloc (.cells #[.int .u8 y.k, .string y.kid.p, .int .i64 y.kid.fn, .slice va y.kid.args.length vc, .int .i64 y.kid.fuel, .int .i64 y.r.v, .int .i64 y.r.e] StopT)) ∧ (w5.alloc (.cells #[.int .u8 y.k, .string y.kid.p, .int .i64 y.kid.fn, .slice va y.kid.args.length vc, .int .i64 y.kid.fuel, .int .i64 y.r.v, .int .i64 y.r.e] StopT)).ownsRow Z I64T 1 (.slice va y.kid.args.length vc) y.kid.args.length (y.kid.args.flatMap encN1) ∧ r2 < Z ∧ Z ≤ (w5.alloc (.cells #[.int .u8 y.k, .string y.kid.p, .int .i64 y.kid.fn, .slice va y.kid.args.length vc, .int .i64 y.kid.fuel, .int .i64 y.r.v, .int .i64 y.r.e] StopT)).heap.size) ∧ BoxAt (w5.alloc (.cells #[.int .u8 y.k, .string y.kid.p, .int .i64 y.kid.fn, .slice va y.kid.args.length vc, .int .i64 y.kid.fuel, .int .i64 y.r.v, .int .i64 y.r.e] StopT)) w5.heap.size #[.int .u8 y.k, .string y.kid.p, .int .i64 y.kid.fn, .slice va y.kid.args.length vc, .int .i64 y.kid.fuel, .int .i64 y.r.v, .int .i64 y.r.e] StopT from ⟨⟨H5.out.1.below hA6, own_below H5.out.2.1 hA6, H5.out.2.2.1, Nat.le_trans H5.out.2.2.2 hA6.size⟩, heap_alloc_new _ _⟩)
    clear hA6 H5
    generalize w5.alloc (.cells #[.int .u8 y.k, .string y.kid.p, .int .i64 y.kid.fn, .slice va y.kid.args.length vc, .int .i64 y.kid.fuel, .int .i64 y.r.v, .int .i64 y.r.e] StopT) = w6 at *
    generalize w5.heap.size = b15 at *
    go_upto_region 13 with fail
    have hA7 := alV w6 (.cells #[.int .u8 1, .string ⟨#[]⟩, .int .i64 0, .slice none 0 0, .int .i64 0, .int .i64 0, .int .i64 0] StopT)
    have H7 := Lib.hid (show PcW B1 x1 r1 kv1' B2 x2 r2 p t y s1 b15 w6.heap.size Z va vc k a false s w (w6.alloc (.cells #[.int .u8 1, .string ⟨#[]⟩, .int .i64 0, .slice none 0 0, .int .i64 0, .int .i64 0, .int .i64 0] StopT)) from
      ⟨kv2, H6.out.1.1.below hA7, BoxAt.below H6.out.2 hA7, own_below H6.out.1.2.1 hA7, ⟨H6.out.1.2.2.1, Nat.le_trans H6.out.1.2.2.2 hA7.size, H6.out.1.1.low.size⟩, .inl ⟨rfl, ⟨none, 0, heap_alloc_new _ _⟩, ⟨3001, HY.out, by rcases HK.out.1 with h | h | h <;> omega⟩, HAL.out.1⟩⟩)
    have HBN := Lib.hid (show b15 ≠ w6.heap.size from by have := (Array.getElem?_eq_some_iff.1 H6.out.2).1; omega)
    clear hA7 H6
    generalize w6.alloc (.cells #[.int .u8 1, .string ⟨#[]⟩, .int .i64 0, .slice none 0 0, .int .i64 0, .int .i64 0, .int .i64 0] StopT) = w7 at *
    generalize w6.heap.size = b17 at *
    have hs0 := HINV.out.2.2.1.l0
    clear HY
    go_wp2_with fail
    try clear wr
    go_loopg [13, 18] (s.left.toNat + 1) (fun gk t13 t18 wi => ∃ (a' : Nat) (done : Bool) (sg : Vs), t13 = .int .i64 a' ∧ t18 = .int .i64 0 ∧ (done = false → sg.left.toNat < gk) ∧ Hid (PcW B1 x1 r1 kv1' B2 x2 r2 p t y s1 b15 b17 Z va vc k a' done sg w wi))
    case atStart => exact ⟨a, false, s, rfl, rfl, fun _ => by omega, H7.out⟩
    case round =>
      clear H7
      obtain ⟨a', done, sg, rfl, rfl, hgk2, HQ⟩ := hrel
      cases done with
      | false =>
        obtain ⟨kv2b, q1, q2, q3, q4, hq⟩ := HQ.out
        obtain ⟨⟨mb, mc, q5⟩, q6, q7⟩ : (∃ mb mc, BoxAt wr b17 #[.int .u8 1, .string ⟨#[]⟩, .int .i64 0, .slice mb 0 mc, .int .i64 0, .int .i64 0, .int .i64 0] StopT) ∧ RunsTo p t sg y s1 ∧ (a' : Int) + sg.left ≤ t.fuel + k := by
          rcases hq with ⟨_, h⟩ | ⟨h, _⟩
          · exact h
          · cases h
        have HT := Lib.hid q1
        have HO := Lib.hid (And.intro q2 (And.intro q3 q4))
        have HM := Lib.hid q5
        have HRT := Lib.hid q6
        have hl0 := q1.g.inv.2.2.1.l0
        have hg1 := hgk2 rfl
        have ha9 : (a' : Int) + 1 ≤ 9000 := by omega
        have HAA := Lib.hid q7
        have HINVG := Lib.hid q1.g.inv
        clear q1 q2 q3 q4 q5 q6 q7 hq HQ hgk2
        have m0 := HM.out.cell 0
        simp only [List.getElem?_toArray, List.getElem?_cons_zero] at m0
        go_upto_if 82 with fail
        go_cut [19] (fun t19 wc => ∃ nn : Nat, t19 = .int .i64 nn ∧ 1 ≤ nn ∧ nn ≤ 9 ∧ wc = wr)
        case first =>
          by_cases hP0 : 0 < P.length
          · have hP1 : (0 : Int) < P.length := by omega
            have hP2 : ((P.length : Int) == 0) = false := by rw [beq_eq_false_iff_ne]; omega
            obtain ⟨ix, hix⟩ : ∃ ix, a' % P.length = ix := ⟨_, rfl⟩
            have hixl : ix < P.length := by rw [← hix]; exact Nat.mod_lt _ hP0
            have hix1 : (ix : Int) < P.length := by omega
            have hix0 : (0 : Int) ≤ ix := by omega
            have htm : (a' : Int).tmod (P.length : Int) = (ix : Int) := by rw [← hix]; exact (Int.ofNat_tmod a' P.length).symm
            obtain ⟨b3, off3, c3, he3, _, hc3⟩ := (HIN.out.2.2.1.below HT.out.low).at (by omega)
            injection he3 with he3 hnn hcc
            subst he3; subst hcc
            clear hnn
            have g0 := hc3 ix hixl 0 _ rfl
            rw [Nat.mul_one, Nat.add_zero] at g0
            obtain ⟨hx0, hx1⟩ := HPB.out P[ix] (List.getElem_mem hixl)
            generalize P[ix] = x at *
            have hw : IntKind.i64.wrap x = x := IntWalk.i64_in _ (by omega)
            have ht9 : x.tmod 9 = x % 9 := Int.tmod_eq_emod_of_nonneg hx0
            obtain ⟨m, hm⟩ : ∃ m : Nat, x % 9 = m := ⟨(x % 9).toNat, by omega⟩
            rw [hm] at ht9
            have hm9 : m < 9 := by omega
            obtain ⟨nn, hnn⟩ : ∃ nn : Nat, nn = 1 + m := ⟨_, rfl⟩
            have hw2 : IntKind.i64.wrap (1 + (m : Int)) = (nn : Int) := by rw [hnn, IntWalk.i64_in _ (by omega)]; omega
            have HNN := Lib.hid (show 1 ≤ nn ∧ nn ≤ 9 by omega)
            clear hc3 hix hm hnn hP0 hixl
            go_wp2_with fail
            go_meet
            exact ⟨nn, rfl, HNN.out.1, HNN.out.2, rfl⟩
          · have hP1 : ¬ (0 : Int) < P.length := by omega
            go_wp2_with fail
            go_meet
            exact ⟨1, rfl, by decide, by decide, rfl⟩
        case rest =>
          obtain ⟨nn, rfl, hn1, hn9, rfl⟩ := hcut
          have hw1 : IntKind.i64.wrap ((a' : Int) + 1) = ((a' + 1 : Nat) : Int) := by rw [IntWalk.i64_in _ (by omega)]; omega
          obtain ⟨a1, ha1⟩ : ∃ a1, a' + 1 = a1 := ⟨_, rfl⟩
          rw [ha1] at hw1
          have hq9 : ¬ (9000 : Int) < a1 := by omega
          have HA1 := Lib.hid ha1
          clear ha1 m0
          obtain ⟨Rg, hRg⟩ : ∃ Rg, runV p t nn sg = Rg := ⟨_, rfl⟩
          have HRP := Lib.hid (run_piece nn HRT.out)
          rw [hRg] at HRP
          have HRL := Lib.hid (show Rg.2.left ≤ sg.left by rw [← hRg]; exact runV_left HINVG.out.1 HINVG.out.2.1 nn HINVG.out.2.2.1 HINVG.out.2.2.2)
          have HRG := Lib.hid hRg
          have HN19 := Lib.hid (And.intro hn1 hn9)
          clear hRg hn1 hn9
          obtain ⟨R1, R2⟩ := Rg
          rcases HRP.out with h | ⟨h1, h2, h3, h4⟩
          · injection h with hr1 hr2
            have hr1' := hr1.symm
            have hr2' := hr2.symm
            clear hr1 hr2
            subst hr1'
            subst hr2'
            clear HRP
            go_wp2_with fail
            refine (frm_run nn HN19.out.1 (by have := HN19.out.2; omega) HT.out.g HRG.out).mono ?_
            rintro e w9 ⟨ub, uc, kv9, rfl, ho9, hf9, hl9⟩
            have H9 := Lib.hid (show TwF B1 x1 r1 kv1' B2 x2 r2 kv9 p t s1 s1 w w9 ∧ BoxAt w9 b15 #[.int .u8 y.k, .string y.kid.p, .int .i64 y.kid.fn, .slice va y.kid.args.length vc, .int .i64 y.kid.fuel, .int .i64 y.r.v, .int .i64 y.r.e] StopT ∧ w9.ownsRow Z I64T 1 (.slice va y.kid.args.length vc) y.kid.args.length (y.kid.args.flatMap encN1) ∧ (r2 < Z ∧ Z ≤ w9.heap.size ∧ w.heap.size ≤ b17) ∧ BoxAt w9 b17 #[.int .u8 1, .string ⟨#[]⟩, .int .i64 0, .slice mb 0 mc, .int .i64 0, .int .i64 0, .int .i64 0] StopT from
              ⟨HT.out.rung hf9 hl9, HT.out.boxg hl9 HO.out.1 (by decide), HT.out.g.nums hl9 HO.out.2.1 HO.out.2.2.1, ⟨HO.out.2.2.1, Nat.le_trans HO.out.2.2.2.1 hl9.fr.size, HO.out.2.2.2.2⟩, HT.out.boxg hl9 HM.out (by decide)⟩)
            have HO9 := Lib.hid ho9
            have HSC := Lib.hid HO.out.2.2.2.1
            clear ho9 hf9 hl9 HT HO HM
            have c0 := H9.out.2.2.2.2.cell 0; have c1 := H9.out.2.2.2.2.cell 1; have c2 := H9.out.2.2.2.2.cell 2; have c3 := H9.out.2.2.2.2.cell 3; have c4 := H9.out.2.2.2.2.cell 4; have c5 := H9.out.2.2.2.2.cell 5; have c6 := H9.out.2.2.2.2.cell 6
            have f0 := H9.out.2.2.2.2.frozen 0; have f1 := H9.out.2.2.2.2.frozen 1; have f2 := H9.out.2.2.2.2.frozen 2; have f3 := H9.out.2.2.2.2.frozen 3; have f4 := H9.out.2.2.2.2.frozen 4; have f5 := H9.out.2.2.2.2.frozen 5; have f6 := H9.out.2.2.2.2.frozen 6
            simp only [List.getElem?_toArray, List.getElem?_cons_zero, List.getElem?_cons_succ] at c0 c1 c2 c3 c4 c5 c6
            have HN := Lib.hid (show PcW B1 x1 r1 kv1' B2 x2 r2 p t y s1 b15 b17 Z va vc k a1 true s1 w (((((((w9.setCell ⟨b17, 0, none⟩ (.int .u8 y.k)).setCell ⟨b17, 1, none⟩ (.string y.kid.p)).setCell ⟨b17, 2, none⟩ (.int .i64 y.kid.fn)).setCell ⟨b17, 3, none⟩ (.slice ub y.kid.args.length uc)).setCell ⟨b17, 4, none⟩ (.int .i64 y.kid.fuel)).setCell ⟨b17, 5, none⟩ (.int .i64 y.r.v)).setCell ⟨b17, 6, none⟩ (.int .i64 y.r.e)) from by
              have hF := set7_fr w9 b17 (.int .u8 y.k) (.string y.kid.p) (.int .i64 y.kid.fn) (.slice ub y.kid.args.length uc) (.int .i64 y.kid.fuel) (.int .i64 y.r.v) (.int .i64 y.r.e)
              have hT := typed_box H9.out.2.2.2.2
              have hl := HRL.out
              have ha := HAA.out
              have h1 := HA1.out
              have hn := HN19.out
              try simp only [] at hl
              exact ⟨kv9, H9.out.1.beside H9.out.2.2.2.2 (by decide) hF H9.out.2.2.2.1.2.2, H9.out.2.1.fr hF HBN.out, own_typed H9.out.2.2.1 hF hT (by decide), ⟨H9.out.2.2.2.1.1, Nat.le_trans H9.out.2.2.2.1.2.1 hF.size, H9.out.2.2.2.1.2.2⟩, .inr ⟨rfl, rfl, by omega, ub, uc, set7_box H9.out.2.2.2.2 _ _ _ _ _ _ _, own_typed (owns_monoG HO9.out HSC.out) hF hT (by decide)⟩⟩)
            have HL2 := Lib.hid H9.out.1.g.inv.2.2.1.l0
            clear H9 HO9
            go_wp2_with fail
            go_roundg (gk - 1)
            case rel => exact ⟨a1, true, _, rfl, rfl, fun h => (by cases h), HN⟩
            case measure => omega
          · simp only [] at h1 h2 h3 h4
            subst h2
            have HRT2 := Lib.hid (And.intro h3 h4)
            simp only [noTk] at HRG
            clear HRP h1 h3 h4
            go_wp2_with fail
            refine (frm_run nn HN19.out.1 (by have := HN19.out.2; omega) HT.out.g HRG.out).mono ?_
            rintro e w9 ⟨ub, uc, kv9, rfl, ho9, hf9, hl9⟩
            have H9 := Lib.hid (show TwF B1 x1 r1 kv1' B2 x2 r2 kv9 p t s1 R2 w w9 ∧ BoxAt w9 b15 #[.int .u8 y.k, .string y.kid.p, .int .i64 y.kid.fn, .slice va y.kid.args.length vc, .int .i64 y.kid.fuel, .int .i64 y.r.v, .int .i64 y.r.e] StopT ∧ w9.ownsRow Z I64T 1 (.slice va y.kid.args.length vc) y.kid.args.length (y.kid.args.flatMap encN1) ∧ (r2 < Z ∧ Z ≤ w9.heap.size ∧ w.heap.size ≤ b17) ∧ BoxAt w9 b17 #[.int .u8 1, .string ⟨#[]⟩, .int .i64 0, .slice mb 0 mc, .int .i64 0, .int .i64 0, .int .i64 0] StopT from
              ⟨HT.out.rung hf9 hl9, HT.out.boxg hl9 HO.out.1 (by decide), HT.out.g.nums hl9 HO.out.2.1 HO.out.2.2.1, ⟨HO.out.2.2.1, Nat.le_trans HO.out.2.2.2.1 hl9.fr.size, HO.out.2.2.2.2⟩, HT.out.boxg hl9 HM.out (by decide)⟩)
            have HO9 := Lib.hid ho9
            have HSC := Lib.hid HO.out.2.2.2.1
            clear ho9 hf9 hl9 HT HO HM
            have c0 := H9.out.2.2.2.2.cell 0; have c1 := H9.out.2.2.2.2.cell 1; have c2 := H9.out.2.2.2.2.cell 2; have c3 := H9.out.2.2.2.2.cell 3; have c4 := H9.out.2.2.2.2.cell 4; have c5 := H9.out.2.2.2.2.cell 5; have c6 := H9.out.2.2.2.2.cell 6
            have f0 := H9.out.2.2.2.2.frozen 0; have f1 := H9.out.2.2.2.2.frozen 1; have f2 := H9.out.2.2.2.2.frozen 2; have f3 := H9.out.2.2.2.2.frozen 3; have f4 := H9.out.2.2.2.2.frozen 4; have f5 := H9.out.2.2.2.2.frozen 5; have f6 := H9.out.2.2.2.2.frozen 6
            simp only [List.getElem?_toArray, List.getElem?_cons_zero, List.getElem?_cons_succ] at c0 c1 c2 c3 c4 c5 c6
            have HN := Lib.hid (show PcW B1 x1 r1 kv1' B2 x2 r2 p t y s1 b15 b17 Z va vc k a1 false R2 w (((((((w9.setCell ⟨b17, 0, none⟩ (.int .u8 1)).setCell ⟨b17, 1, none⟩ (.string ⟨#[]⟩)).setCell ⟨b17, 2, none⟩ (.int .i64 0)).setCell ⟨b17, 3, none⟩ (.slice ub 0 uc)).setCell ⟨b17, 4, none⟩ (.int .i64 0)).setCell ⟨b17, 5, none⟩ (.int .i64 0)).setCell ⟨b17, 6, none⟩ (.int .i64 0)) from by
              have hF := set7_fr w9 b17 (.int .u8 1) (.string ⟨#[]⟩) (.int .i64 0) (.slice ub 0 uc) (.int .i64 0) (.int .i64 0) (.int .i64 0)
              have hT := typed_box H9.out.2.2.2.2
              have hl := HRL.out
              have ha := HAA.out
              have h1 := HA1.out
              have hn := HN19.out
              try simp only [] at hl
              exact ⟨kv9, H9.out.1.beside H9.out.2.2.2.2 (by decide) hF H9.out.2.2.2.1.2.2, H9.out.2.1.fr hF HBN.out, own_typed H9.out.2.2.1 hF hT (by decide), ⟨H9.out.2.2.2.1.1, Nat.le_trans H9.out.2.2.2.1.2.1 hF.size, H9.out.2.2.2.1.2.2⟩, .inl ⟨rfl, ⟨ub, uc, set7_box H9.out.2.2.2.2 _ _ _ _ _ _ _⟩, HRT2.out.1, by have h3 := HRT2.out.2; omega⟩⟩)
            have HL2 := Lib.hid H9.out.1.g.inv.2.2.1.l0
            clear H9 HO9
            go_wp2_with fail
            go_roundg (gk - 1)
            case rel => exact ⟨a1, false, _, rfl, rfl, fun _ => (by have h3 := HRT2.out.2; have h5 := HL2.out; have h6 := HN19.out.1; omega), HN⟩
            case measure => omega
      | true =>
        obtain ⟨kv2b, q1, q2, q3, q4, hq⟩ := HQ.out
        obtain ⟨hsg, q7, ub, uc, q5, q6⟩ : sg = s1 ∧ (a' : Int) + s1.left ≤ t.fuel + k + 1 ∧ ∃ ub uc, BoxAt wr b17 #[.int .u8 y.k, .string y.kid.p, .int .i64 y.kid.fn, .slice ub y.kid.args.length uc, .int .i64 y.kid.fuel, .int .i64 y.r.v, .int .i64 y.r.e] StopT ∧ wr.ownsRow Z I64T 1 (.slice ub y.kid.args.length uc) y.kid.args.length (y.kid.args.flatMap encN1) := by
          rcases hq with ⟨h, _⟩ | ⟨_, h⟩
          · cases h
          · exact h
        subst hsg
        have HT := Lib.hid (show TwF B1 x1 r1 kv1' B2 x2 r2 kv2b p t sg sg w wr ∧ BoxAt wr b15 #[.int .u8 y.k, .string y.kid.p, .int .i64 y.kid.fn, .slice va y.kid.args.length vc, .int .i64 y.kid.fuel, .int .i64 y.r.v, .int .i64 y.r.e] StopT from ⟨q1, q2⟩)
        have HRD := Lib.hid (And.intro (own_readsK (enc := encN1) (k := 1) (fun _ => rfl) (by decide) q3) (own_readsK (enc := encN1) (k := 1) (fun _ => rfl) (by decide) q6))
        have HAA := Lib.hid q7
        have hk0 := HK.out.1
        have n1 : (y.k == 1) = false := by rw [beq_eq_false_iff_ne]; omega
        have c0 := q2.cell 0; have c1 := q2.cell 1; have c2 := q2.cell 2; have c3 := q2.cell 3; have c4 := q2.cell 4; have c5 := q2.cell 5; have c6 := q2.cell 6
        have d0 := q5.cell 0; have d1 := q5.cell 1; have d2 := q5.cell 2; have d3 := q5.cell 3; have d4 := q5.cell 4; have d5 := q5.cell 5; have d6 := q5.cell 6
        simp only [List.getElem?_toArray, List.getElem?_cons_zero, List.getElem?_cons_succ] at c0 c1 c2 c3 c4 c5 c6 d0 d1 d2 d3 d4 d5 d6
        clear q1 q2 q3 q4 q5 q6 q7 hq HQ hgk2 hk0
        go_wp2_with fail
        refine (stops_same y.k y.kid.p y.kid.fn y.kid.fuel y.r.v y.r.e _ _ y.kid.args _ HRD.out.1 HRD.out.2 (by have := HAR.out; omega)).mono ?_
        rintro e w9 ⟨rfl, hB9⟩
        have H9 := Lib.hid (show TwF B1 x1 r1 kv1' B2 x2 r2 kv2b p t sg sg w w9 ∧ BoxAt w9 b15 #[.int .u8 y.k, .string y.kid.p, .int .i64 y.kid.fn, .slice va y.kid.args.length vc, .int .i64 y.kid.fuel, .int .i64 y.r.v, .int .i64 y.r.e] StopT from ⟨HT.out.1.below hB9, HT.out.2.below hB9⟩)
        clear hB9 HT HRD c0 c1 c2 c3 c4 c5 c6 d0 d1 d2 d3 d4 d5 d6 n1
        go_wp2_with fail
        refine (frm_left H9.out.1.f).mono ?_
        rintro e w10 ⟨rfl, rfl⟩
        go_wp2_with fail
        refine (frm_left H9.out.1.g).mono ?_
        rintro e w11 ⟨rfl, rfl⟩
        go_wp2_with fail
        refine (frm_kids H9.out.1.f).mono ?_
        rintro e w12 ⟨rfl, rfl⟩
        go_wp2_with fail
        refine (frm_kids H9.out.1.g).mono ?_
        rintro e w13 ⟨rfl, rfl⟩
        have c0 := H9.out.2.cell 0
        simp only [List.getElem?_toArray, List.getElem?_cons_zero] at c0
        have hk0 := HK.out.1
        by_cases hk4 : y.k = 4
        · have n4 : (y.k == 4) = true := by simp [hk4]
          have HB := Lib.hid H9.out.1.low
          clear hk0 hk4 H9
          go_wp2_with fail
          refine (valive_any _).mono ?_
          rintro e w14 ⟨rfl, hB⟩
          have HB2 := Lib.hid (gthen HB.out hB)
          clear hB
          go_wp2_with fail
          go_ret
          exact ⟨rfl, HB2.out⟩
        have n4 : (y.k == 4) = false := by rw [beq_eq_false_iff_ne]; exact hk4
        by_cases hk2 : y.k = 2
        case neg =>
          have n2 : (y.k == 2) = false := by rw [beq_eq_false_iff_ne]; exact hk2
          have HN := Lib.hid H9.out.1
          clear hk0 hk4 hk2 H9
          go_wp2_with fail
          go_roundg (71 - k)
          case rel => exact ⟨k + 1, a', _, _, sg, by omega, by go_num, rfl, HN.out, by have := HAA.out; omega, by have h1 := HK.out.2.1; have h2 := HAL.out.2; omega⟩
          case measure => omega
        have n2 : (y.k == 2) = true := by simp [hk2]
        have HTD := Lib.hid (HK.out.2.2 hk2)
        obtain ⟨NK, hK⟩ : ∃ NK, sg.kids.length = NK := ⟨_, rfl⟩
        have hK1 : 1 ≤ NK := by
          obtain ⟨_, l, c, hkl, _⟩ := HTD.out
          rw [← hK, hkl]; simp
        have hK16 : NK ≤ 16 := by rw [← hK]; exact H9.out.1.f.inv.2.2.1.k1
        have HKK := Lib.hid hK
        clear hk0 hk4 hk2
        go_upto_region 26 with fail
        go_wp2_with fail
        refine (frm_kids H9.out.1.f).mono ?_
        rintro e w14 ⟨rfl, rfl⟩
        rw [hK]
        clear hK
        have hA15 := alV w14 (.cells #[.int .i64 (NK : Int), .int .i64 0] ResT)
        have H15 := Lib.hid (show TwF B1 x1 r1 kv1' B2 x2 r2 kv2b p t sg sg w (w14.alloc (.cells #[.int .i64 (NK : Int), .int .i64 0] ResT)) ∧ BoxAt (w14.alloc (.cells #[.int .i64 (NK : Int), .int .i64 0] ResT)) w14.heap.size (resC ⟨NK, 0⟩) ResT ∧ w.heap.size ≤ w14.heap.size from ⟨H9.out.1.below hA15, heap_alloc_new _ _, H9.out.1.low.size⟩)
        clear hA15 c0
        have HKR := Lib.hid HTD.out.1
        go_upto_region 27 with fail
        clear H9
        generalize w14.alloc (.cells #[.int .i64 (NK : Int), .int .i64 0] ResT) = w15 at *
        generalize w14.heap.size = b20 at *
        go_wp2_with fail
        refine (frm_kids H15.out.1.f).mono ?_
        rintro e w16 ⟨rfl, rfl⟩
        rw [HKK.out]
        go_upto_if 142 with fail
        go_cut [] (fun wc => ∃ z, Hid (TwF B1 x1 r1 kv1' B2 x2 r2 kv2b p t sg sg w wc ∧ BoxAt wc b20 (resC ⟨z, 0⟩) ResT))
        case first =>
          by_cases hG : NK ≤ G.length
          · have hG1 : (NK : Int) ≤ G.length := by omega
            obtain ⟨NK', hK'⟩ : ∃ NK' : Nat, NK = NK' + 1 := ⟨NK - 1, by omega⟩
            have hgl : NK' < G.length := by omega
            have hg1 : (NK' : Int) < G.length := by omega
            have hg0 : (0 : Int) ≤ NK' := by omega
            have hw1 : IntKind.i64.wrap ((NK : Int) - 1) = (NK' : Int) := by rw [IntWalk.i64_in _ (by omega)]; omega
            obtain ⟨b3, off3, c3, he3, _, hc3⟩ := (HIN.out.2.2.2.below H15.out.1.low).at (by omega)
            injection he3 with he3 hnn hcc
            subst he3; subst hcc
            clear hnn
            have g0 := hc3 NK' hgl 0 _ rfl
            rw [Nat.mul_one, Nat.add_zero] at g0
            generalize G[NK'] = z at *
            have r0 := H15.out.2.1.cell 0
            have fr0 := H15.out.2.1.frozen 0
            simp only [resC, List.getElem?_toArray, List.getElem?_cons_zero] at r0
            have HN := Lib.hid (show TwF B1 x1 r1 kv1' B2 x2 r2 kv2b p t sg sg w (w16.setCell ⟨b20, 0, none⟩ (.int .i64 z)) ∧ BoxAt (w16.setCell ⟨b20, 0, none⟩ (.int .i64 z)) b20 (resC ⟨z, 0⟩) ResT from by
              have hF : Fr (fun i => i = b20) w16 (w16.setCell ⟨b20, 0, none⟩ (.int .i64 z)) := (Fr.refl (fun i => i = b20) w16).setCell (p := ⟨b20, 0, none⟩) rfl _
              exact ⟨H15.out.1.besideR HKR.out HKR.out H15.out.2.1 hF H15.out.2.2, Go.heap_setCell_same w16 b20 0 _ _ _ H15.out.2.1⟩)
            clear hc3 hK'
            go_wp2_with fail
            refine (frm_kids H15.out.1.f).mono ?_
            rintro e w17 ⟨rfl, rfl⟩
            rw [HKK.out]
            go_wp2_with fail
            go_meet
            exact ⟨z, HN.out⟩
          · have hG1 : ¬ (NK : Int) ≤ G.length := by omega
            go_wp2_with fail
            go_meet
            exact ⟨NK, H15.out.1, H15.out.2.1⟩
        case rest =>
          obtain ⟨z, HC⟩ := hcut
          clear H15
          have hgv := HTD.out.give ⟨z, 0⟩
          obtain ⟨s2, hs2, hs2l⟩ : ∃ s2, giveV sg NK ⟨z, 0⟩ = (0, s2) ∧ s2.left = sg.left := by
            rw [HKK.out] at hgv
            exact ⟨(giveV sg NK ⟨z, 0⟩).2, Prod.ext hgv.1 rfl, hgv.2⟩
          have HG := Lib.hid hs2
          have HS2 := Lib.hid hs2l
          clear hgv hs2 hs2l
          go_upto_region 29 with fail
          refine wp_region_held_drew (S := fun y => BoxAt y b20 (resC ⟨z, 0⟩) ResT) (by kernel_rfl) (HC.out.2.below (Below.refl _ _).drew) (fun hHeld => ?_)
          refine wpAnyH_take (i := 0) (oi := _) (v := ?_) (by rw [List.getElem?_toArray]; exact rfl) (by kernel_rfl) (by kernel_rfl) (by kernel_rfl) (by exact fun _ _ _ h => h) (Or.inl ⟨by rfl, ?_⟩) hHeld ?_
          rotate_left
          · (intro wX hSw; clear hSw; go_simp; try with_reducible rfl)
          try simp only [Act.put, List.setIfInBounds_toArray, List.set_cons_zero, List.set_cons_succ]
          refine wpAnyH_take (i := 1) (oi := _) (v := ?_) (by rw [List.getElem?_toArray]; exact rfl) (by kernel_rfl) (by kernel_rfl) (by kernel_rfl) (by exact fun _ _ _ h => h) (Or.inl ⟨by rfl, ?_⟩) hHeld ?_
          rotate_left
          · (intro wX hSw; clear hSw; go_simp; try with_reducible rfl)
          try simp only [Act.put, List.setIfInBounds_toArray, List.set_cons_zero, List.set_cons_succ]
          refine wpAnyH_take (i := 3) (oi := _) (v := ?_) (by rw [List.getElem?_toArray]; exact rfl) (by kernel_rfl) (by kernel_rfl) (by kernel_rfl) (by exact fun _ _ _ h => h) (Or.inl ⟨by rfl, ?_⟩) hHeld ?_
          rotate_left
          · (intro wX hSw; have z0 := BoxAt.cell hSw 0; have z1 := BoxAt.cell hSw 1; simp only [resC, List.getElem?_toArray, List.getElem?_cons_zero, List.getElem?_cons_succ] at z0 z1; clear hSw; go_simp; try with_reducible rfl)
          try simp only [Act.put, List.setIfInBounds_toArray, List.set_cons_zero, List.set_cons_succ]
          refine wpAnyH_ready (rs := [2]) (by kernel_rfl) (by simp) ?_
          refine AllReadyH.cons (o := _) (by rw [List.getElem?_toArray]; exact rfl) (fun K hK => ?_) AllReadyH.nil
          go_simp
          refine (frm_kids (HC.out.1.f.below (Below.refl _ _).drew)).mono ?_; rintro e w17 ⟨rfl, rfl⟩; rw [HKK.out]
          go_wp2_with fail
          refine hK.out _ _ (hHeld) (fun hHeld => ?_)
          clear hK K
          try simp only [Act.put, List.setIfInBounds_toArray, List.set_cons_zero, List.set_cons_succ]
          refine wpAnyH_ready (rs := [4]) (by kernel_rfl) (by simp) ?_
          refine AllReadyH.cons (o := _) (by rw [List.getElem?_toArray]; exact rfl) (fun K hK => ?_) AllReadyH.nil
          go_simp
          refine (frm_give (NK : Int) ⟨z, 0⟩ (HC.out.1.f.below (Below.refl _ _).drew) HG.out).mono ?_; rintro e w18 ⟨rfl, hf18, hl18⟩; have H18 := Lib.hid ((HC.out.1.below (Below.refl _ _).drew).runf hf18 hl18); have HX18 := Lib.hid ((HC.out.1.below (Below.refl _ _).drew).boxf hl18 (BoxAt.below HC.out.2 (Below.refl _ _).drew) (by decide)); clear hf18 hl18
          go_wp2_with fail
          refine hK.out _ _ (HX18.out) (fun hHeld => ?_)
          clear hK K
          try simp only [Act.put, List.setIfInBounds_toArray, List.set_cons_zero, List.set_cons_succ]
          refine wpAnyH_take (i := 5) (oi := _) (v := ?_) (by rw [List.getElem?_toArray]; exact rfl) (by kernel_rfl) (by kernel_rfl) (by kernel_rfl) (by exact fun _ _ _ h => h) (Or.inl ⟨by rfl, ?_⟩) hHeld ?_
          rotate_left
          · (intro wX hSw; clear hSw; go_simp; try with_reducible rfl)
          try simp only [Act.put, List.setIfInBounds_toArray, List.set_cons_zero, List.set_cons_succ]
          refine wpAnyH_take (i := 6) (oi := _) (v := ?_) (by rw [List.getElem?_toArray]; exact rfl) (by kernel_rfl) (by kernel_rfl) (by kernel_rfl) (by exact fun _ _ _ h => h) (Or.inl ⟨by rfl, ?_⟩) hHeld ?_
          rotate_left
          · (intro wX hSw; clear hSw; go_simp; try with_reducible rfl)
          try simp only [Act.put, List.setIfInBounds_toArray, List.set_cons_zero, List.set_cons_succ]
          refine wpAnyH_take (i := 7) (oi := _) (v := ?_) (by rw [List.getElem?_toArray]; exact rfl) (by kernel_rfl) (by kernel_rfl) (by kernel_rfl) (by exact fun _ _ _ h => h) (Or.inl ⟨by rfl, ?_⟩) hHeld ?_
          rotate_left
          · (intro wX hSw; clear hSw; go_simp; try with_reducible rfl)
          try simp only [Act.put, List.setIfInBounds_toArray, List.set_cons_zero, List.set_cons_succ]
          refine wpAnyH_take (i := 8) (oi := _) (v := ?_) (by rw [List.getElem?_toArray]; exact rfl) (by kernel_rfl) (by kernel_rfl) (by kernel_rfl) (by exact fun _ _ _ h => h) (Or.inl ⟨by rfl, ?_⟩) hHeld ?_
          rotate_left
          · (intro wX hSw; clear hSw; go_simp; try with_reducible rfl)
          try simp only [Act.put, List.setIfInBounds_toArray, List.set_cons_zero, List.set_cons_succ]
          refine wpAnyH_take (i := 10) (oi := _) (v := ?_) (by rw [List.getElem?_toArray]; exact rfl) (by kernel_rfl) (by kernel_rfl) (by kernel_rfl) (by exact fun _ _ _ h => h) (Or.inl ⟨by rfl, ?_⟩) hHeld ?_
          rotate_left
          · (intro wX hSw; have z0 := BoxAt.cell hSw 0; have z1 := BoxAt.cell hSw 1; simp only [resC, List.getElem?_toArray, List.getElem?_cons_zero, List.getElem?_cons_succ] at z0 z1; clear hSw; go_simp; try with_reducible rfl)
          try simp only [Act.put, List.setIfInBounds_toArray, List.set_cons_zero, List.set_cons_succ]
          refine wpAnyH_ready (rs := [9]) (by kernel_rfl) (by simp) ?_
          refine AllReadyH.cons (o := _) (by rw [List.getElem?_toArray]; exact rfl) (fun K hK => ?_) AllReadyH.nil
          go_simp
          refine (frm_kids H18.out.g).mono ?_; rintro e w19 ⟨rfl, rfl⟩; rw [HKK.out]
          go_wp2_with fail
          refine hK.out _ _ (hHeld) (fun hHeld => ?_)
          clear hK K
          try simp only [Act.put, List.setIfInBounds_toArray, List.set_cons_zero, List.set_cons_succ]
          refine wpAnyH_ready (rs := [11]) (by kernel_rfl) (by simp) ?_
          refine AllReadyH.cons (o := _) (by rw [List.getElem?_toArray]; exact rfl) (fun K hK => ?_) AllReadyH.nil
          go_simp
          refine (frm_give (NK : Int) ⟨z, 0⟩ H18.out.g HG.out).mono ?_; rintro e w20 ⟨rfl, hf20, hl20⟩; have H20 := Lib.hid (H18.out.rung hf20 hl20); have HX20 := Lib.hid (H18.out.boxg hl20 HX18.out (by decide)); clear hf20 hl20
          go_wp2_with fail
          refine hK.out _ _ (HX20.out) (fun hHeld => ?_)
          clear hK K
          try simp only [Act.put, List.setIfInBounds_toArray, List.set_cons_zero, List.set_cons_succ]
          refine wpAnyH_take (i := 12) (oi := _) (v := ?_) (by rw [List.getElem?_toArray]; exact rfl) (by kernel_rfl) (by kernel_rfl) (by kernel_rfl) (by exact fun _ _ _ h => h) (Or.inl ⟨by rfl, ?_⟩) hHeld ?_
          rotate_left
          · (intro wX hSw; clear hSw; go_simp; try with_reducible rfl)
          try simp only [Act.put, List.setIfInBounds_toArray, List.set_cons_zero, List.set_cons_succ]
          refine wpAnyH_take (i := 13) (oi := _) (v := ?_) (by rw [List.getElem?_toArray]; exact rfl) (by kernel_rfl) (by kernel_rfl) (by kernel_rfl) (by exact fun _ _ _ h => h) (Or.inl ⟨by rfl, ?_⟩) hHeld ?_
          rotate_left
          · (intro wX hSw; clear hSw; go_simp; try with_reducible rfl)
          try simp only [Act.put, List.setIfInBounds_toArray, List.set_cons_zero, List.set_cons_succ]
          refine wpAnyH_done (by kernel_rfl) ?_ _
          go_wp2_with fail
          go_roundg (71 - k)
          case rel => exact ⟨k + 1, a', _, _, s2, by omega, by go_num, rfl, H20.out, by have := HAA.out; have := HS2.out; omega, by have h1 := HK.out.2.1; have h2 := HAL.out.2; have h3 := HS2.out; omega⟩
          case measure => omega
end Go.Proofs.Ytdhbjejejeljoaa
