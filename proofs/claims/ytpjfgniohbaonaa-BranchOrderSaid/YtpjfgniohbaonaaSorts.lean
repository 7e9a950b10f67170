/- BranchSorts: the walk. -/
import Derived.Test.YtpjfgniohbaonaaOpen12
import Derived.Test.YtpjfgniohbaonaaAlive12
namespace Go.Proofs.Ytpjfgniohbaonaa
open Go.RowKit

theorem ReadsS.below {w w1 : World} {v : Value} {ss : List ByteArray} (h : ReadsS w v ss) (hB : Below w.heap.size w w1) : ReadsS w1 v ss := by
  rcases h with h | ⟨b, off, cap, e, hb, hc⟩
  · exact .inl h
  · exact .inr ⟨b, off, cap, e, Nat.lt_of_lt_of_le hb hB.size, fun j hj => (hB.cell (p := ⟨b, off + j, none⟩) hb).trans (hc j hj)⟩
theorem owns_below {w w1 : World} {B : Nat} {E : TypeId} {size : Nat} {v : Value} {n : Nat} {xs : List Value} (h : w.ownsRow B E size v n xs) (hB : Below w.heap.size w w1) : w1.ownsRow B E size v n xs := by
  obtain ⟨h0, h | ⟨g, cap, cur, h1, h2, h3, h4⟩⟩ := h
  · exact ⟨h0, .inl h⟩
  · exact ⟨h0, .inr ⟨g, cap, cur, h1, h2, (hB.block g (Array.getElem?_eq_some_iff.1 h3).1).trans h3, h4⟩⟩
theorem reads_own {w : World} {B : Nat} {E : TypeId} {v : Value} {ss : List ByteArray} (h : w.ownsRow B E 1 v ss.length (ss.map .string)) : ReadsS w v ss := by
  by_cases hn : ss = []
  · subst hn
    obtain ⟨_, ⟨h, _⟩ | ⟨g, cap, cur, hv, _⟩⟩ := h
    · exact .inl ⟨rfl, .inl h⟩
    · exact .inl ⟨rfl, .inr ⟨_, _, hv⟩⟩
  · obtain ⟨g, cap, cur, hv, hb, hg, hc, h1, h2, h3, h4⟩ := own_block h hn
    exact .inr ⟨g, 0, cap, hv, hg, fun j hj => by rw [Nat.zero_add]; exact cell_of_take hc h4 j hj⟩
theorem reads_form {w : World} {v : Value} {ss : List ByteArray} (h : ReadsS w v ss) : ∃ a cap, v = .slice a ss.length cap := by
  rcases h with ⟨rfl, rfl | ⟨a, cap, rfl⟩⟩ | ⟨b, off, cap, rfl, _⟩ <;> exact ⟨_, _, rfl⟩

set_option maxHeartbeats 1600000 in
set_option maxRecDepth 100000 in
theorem sorts_walk (v : Value) (ss : List ByteArray) (w : World) (hv : ReadsS w v ss) (hsz : ∀ x ∈ ss, x.size ≤ 9223372036854775807) :
    Calls Try.prog 4 #[v] w fun e w' => e = .returned (.bool true) ∧ Below w.heap.size w w' := by
  obtain ⟨is, his, hs0, hs1, hs2⟩ := info_parts info_str
  obtain ⟨va, vc, hform⟩ := reads_form hv
  subst hform
  by_cases hlong : 60 < (ss.length : Int)
  · have hlen : (ss.length : Int) ≤ 9223372036854775807 ∨ True := .inr trivial
    go_enter Try.func4, Try.ntmps4
    go_wp2_with fail
    refine (alive_any _).mono ?_; rintro e w1 ⟨rfl, hB⟩
    go_wp2
    go_ret
    exact ⟨ret_bool rfl, hB⟩
  · have hl : ss.length ≤ 1000 := by omega
    have HS := Lib.hid (And.intro hv hsz)
    clear hsz hv
    go_enter Try.func4, Try.ntmps4
    go_wp2_with fail
    go_loop [3] (fun i => ∃ k : Nat, k ≤ ss.length ∧ i = .int .i64 k) (fun i => ss.length - (intOf i).toNat)
    case atStart => exact ⟨0, Nat.zero_le _, rfl⟩
    case round =>
      obtain ⟨k, hk, rfl⟩ := hrel
      by_cases hlt : k < ss.length
      · obtain ⟨b, off, cap, he, hb, hc⟩ := reads_cell HS.out.1 (by omega)
        injection he with he1 he2 he3
        subst he1
        have hcell := hc k hlt
        have hz := HS.out.2 ss[k] (List.getElem_mem _)
        clear hc he3
        by_cases hbig : 256 < (ss[k].size : Int)
        · go_wp2_with fail
          refine (alive_any _).mono ?_; rintro e w1 ⟨rfl, hB⟩
          go_wp2
          go_ret
          exact ⟨ret_bool rfl, hB⟩
        · go_wp2_with fail
          go_round
          case rel => exact ⟨k + 1, by omega, by go_num⟩
          case measure => simp [intOf]; omega
      · have hke : k = ss.length := by omega
        subst hke
        go_upto_region 8 with fail
        go_cut [4] (fun s wc => ∃ g cap, s = .slice (some ⟨g, 0, none⟩) ss.length cap ∧ Row w.heap.size 9 g ss.length cap ss ss w wc)
        case first =>
          have hv := HS.out.1
          clear HS hlong hlt hk
          have hown0 : (w.alloc (.cells #[] 9)).ownsRow w.heap.size 9 1 (.slice (some ⟨w.heap.size, 0, none⟩) 0 0) 0 [] := World.ownsRow_lit w #[] 0 (Nat.le_refl _) (by unfold maxLen; omega) rfl
          have hB0 : Below w.heap.size w (w.alloc (.cells #[] 9)) := (Below.refl _ _).alloc (Nat.le_refl _) _
          rcases hv with ⟨hnil, h | ⟨a, cap, h⟩⟩ | ⟨b, off, cap, h, hb, hc⟩
          · subst hnil; injection h with x1 x2 x3; subst x1 x3
            go_wp2_with (at_builtin; refine wpList_append_own_none rfl _ _ 32 rfl w.heap.size 9 is 1 Try.underlying32 his _ 0 [] rfl hown0 rfl ?_)
            go_meet
            exact ⟨w.heap.size, 0, rfl, List.Perm.refl _, hown0, hB0⟩
          · subst hnil; injection h with x1 x2 x3; subst x1 x3
            go_wp2
            go_meet
            exact ⟨w.heap.size, 0, rfl, List.Perm.refl _, hown0, hB0⟩
          · injection h with x1 x2 x3; subst x1 x3
            have hnews : ∀ j u, (ss.map Value.string)[j]? = some u → (w.alloc (.cells #[] 9)).cell? ((⟨b, off, none⟩ : Addr).add j) = some u := by
              intro j u hj
              rw [List.getElem?_map] at hj
              have hj2 : j < ss.length := by
                rcases Nat.lt_or_ge j ss.length with h | h
                · exact h
                · rw [List.getElem?_eq_none h] at hj; simp at hj
              rw [List.getElem?_eq_getElem hj2] at hj
              simp only [Option.map_some, Option.some.injEq] at hj
              rw [← hj]
              by_cases h0 : j = 0
              · subst h0
                exact (hB0.cell (p := ⟨b, off, none⟩) hb).trans (hc 0 hj2)
              · have e : (⟨b, off, none⟩ : Addr).add j = ⟨b, off + j, none⟩ := by simp [Addr.add, h0]
                rw [e]
                exact (hB0.cell (p := ⟨b, off + j, none⟩) hb).trans (hc j hj2)
            have hone : ∀ u ∈ ss.map Value.string, u.oneCell' = true := by intro u hu; obtain ⟨x, _, rfl⟩ := List.mem_map.1 hu; rfl
            have HH := Lib.hid (And.intro hnews hone)
            have hlm := Lib.hid (show (ss.map Value.string).length = ss.length * 1 by simp)
            clear hc hnews hone
            go_wp2_with (at_builtin; refine wpList_append_own _ rfl _ _ 32 rfl w.heap.size 9 is (.string ⟨#[]⟩) 1 16 Try.underlying32 his hs0 hs1 hs2 rfl (by decide) _ 0 [] rfl hown0 ⟨b, off, none⟩ ss.length _ (ss.map .string) rfl hlm.out HH.out.1 HH.out.2 ?e3 ?e4 ?e5 ?_)
            case e3 => unfold maxLen; omega
            case e4 => omega
            intro v' w2 hown' hgrow hnn
            obtain ⟨g, c, hv'⟩ : ∃ g c, v' = .slice (some ⟨g, 0, none⟩) ss.length c := by
              obtain ⟨_, ⟨h, _⟩ | ⟨g, c, cur, h, _⟩⟩ := hown'
              · exact (hnn h).elim
              · exact ⟨g, c, h⟩
            rw [hv'] at hown' ⊢
            have hB2 : Below w.heap.size w w2 := hB0.grown hgrow (by simp) (fun k hk => by simp [Value.ownBlock] at hk; omega)
            clear hnn hgrow hown0 hlm HH hv'
            go_wp2
            go_meet
            exact ⟨g, c, rfl, List.Perm.refl _, hown', hB2⟩
        case rest =>
          obtain ⟨g, cap, rfl, hR⟩ := hcut
          have hvc := Lib.hid (HS.out.1.below hR.2.2)
          have hown := hR.2.1
          have hB := hR.2.2
          clear hR hk hlt
          go_wp2_with fail
          refine (sort_any _ ss _ hvc.out hl).mono ?_
          rintro e w2 ⟨x, rfl, hox, hB2⟩
          have hown2 := owns_below hown hB2
          have hv2 := Lib.hid (hvc.out.below hB2)
          replace hB := gthen hB hB2
          clear hB2 hown hvc
          go_wp2_with fail
          refine (rsort_any _ ss _ (reads_own hown2) hl HS.out.2).mono ?_
          rintro e w3 ⟨y, rfl, hoy, hB2⟩
          have hO := Lib.hid (And.intro (reads_own (owns_below hox hB2)) (And.intro (reads_own hoy) (And.intro (reads_own (owns_below hown2 hB2)) (hv2.out.below hB2))))
          replace hB := gthen hB hB2
          clear hB2 hown2 hox hoy hv2
          obtain ⟨xa, xc, hx⟩ := reads_form hO.out.1
          obtain ⟨ya, yc, hy⟩ := reads_form hO.out.2.1
          have hll := (sortS_perm ss).length_eq
          rw [hll] at hx hy
          subst hx; subst hy
          have HLL := Lib.hid hll
          clear hll
          go_wp2_with fail
          go_loopw [7] (fun i wr => ∃ k : Nat, k ≤ ss.length ∧ i = .int .i64 k ∧ Drew w3 wr) (fun i _ => ss.length - (intOf i).toNat)
          case atStart => exact ⟨0, Nat.zero_le _, rfl, Drew.refl _⟩
          case round =>
            obtain ⟨k, hk, rfl, hD⟩ := hrel
            by_cases hlt : k < ss.length
            · obtain ⟨b1, o1, c1, e1, _, hc1⟩ := reads_cell hO.out.1 (by rw [HLL.out]; omega)
              obtain ⟨b2, o2, c2, e2, _, hc2⟩ := reads_cell hO.out.2.1 (by rw [HLL.out]; omega)
              obtain ⟨b3, o3, c3, e3, _, hc3⟩ := reads_cell hO.out.2.2.1 (by omega)
              obtain ⟨b4, o4, c4, e4, _, hc4⟩ := reads_cell hO.out.2.2.2 (by omega)
              injection e1 with x1 x2 x3
              injection e2 with y1 y2 y3
              injection e3 with z1 z2 z3
              injection e4 with u1 u2 u3
              subst x1 y1 u1
              injection z1 with z1
              injection z1 with z1 z4
              subst z1 z4
              have f1 := hc1 k (by rw [HLL.out]; exact hlt)
              have f2 := hc2 k (by rw [HLL.out]; exact hlt)
              have f3 := hc3 k hlt
              rw [Nat.zero_add] at f3
              have f4 := hc4 k hlt
              clear hc1 hc2 hc3 hc4 x2 x3 y2 y3 z2 z3 u2 u3 hO HS
              obtain ⟨q, rfl⟩ := hD
              generalize (sortS ss)[k]'(by rw [HLL.out]; exact hlt) = s1 at *
              generalize ss[k] = s2 at *
              have n1 : (s1.toList != s1.toList) = false := by simp
              have n2 : (s2.toList != s2.toList) = false := by simp
              go_wp2_with fail
              go_quiet (fail)
              go_wp2
              go_roundw
              case rel => exact ⟨k + 1, by omega, by go_num, ⟨_, rfl⟩⟩
              case measure => simp [intOf]; omega
            · obtain ⟨q, rfl⟩ := hD
              go_wp2_with fail
              refine (alive_any _).mono ?_; rintro e w4 ⟨rfl, hB2⟩
              go_wp2
              go_ret
              exact ⟨ret_bool rfl, gthen (below_drewN hB q) hB2⟩
theorem sorts_row (v : Value) (w : World) (rd : ∃ ss, ReadsS w v ss ∧ ∀ x ∈ ss, x.size ≤ maxLen) :
    Calls Try.prog 4 #[v] w fun e w' => e = .returned (.bool true) ∧ Below w.heap.size w w' := by
  obtain ⟨ss, h1, h2⟩ := rd
  exact sorts_walk v ss w h1 h2
end Go.Proofs.Ytpjfgniohbaonaa
