/- The reference's Sort: an insertion sort; plain laws and the walk. -/
import Derived.Test.YtpjfgniohbaonaaSort12
import Derived.Deep.DeepCutAuto
import Derived.Laws.AppendOwnNone
namespace Go.Proofs.Ytpjfgniohbaonaa
open Go.RowKit

def G (l : List ByteArray) (p : Nat) : ByteArray := l.getD p ⟨#[]⟩
theorem G_get {l : List ByteArray} {p : Nat} (h : p < l.length) : G l p = l[p] := by simp [G, List.getD_eq_getElem?_getD, h]
def swapL (l : List ByteArray) (k : Nat) : List ByteArray := (l.set (k + 1) (G l k)).set k (G l (k + 1))
theorem swapL_perm : ∀ (l : List ByteArray) (k : Nat), k + 1 < l.length → (swapL l k).Perm l
  | [], k, h => by simp at h
  | [a], k, h => by simp at h
  | a :: b :: l, 0, _ => by simp [swapL, G]; exact List.Perm.swap _ _ _
  | a :: b :: l, k + 1, h => by
    have := swapL_perm (b :: l) k (by simp at h ⊢; omega)
    simp only [swapL, G, List.set_cons_succ, List.getD_cons_succ] at this ⊢
    exact this.cons a
theorem swapL_len (l : List ByteArray) (k : Nat) : (swapL l k).length = l.length := by simp [swapL]
theorem swapL_at0 {l : List ByteArray} {k : Nat} (h : k + 1 < l.length) : G (swapL l k) k = G l (k + 1) := by
  simp only [swapL, G, List.getD_eq_getElem?_getD]; simp [show k < l.length by omega]
theorem swapL_at1 {l : List ByteArray} {k : Nat} (h : k + 1 < l.length) : G (swapL l k) (k + 1) = G l k := by
  simp only [swapL, G, List.getD_eq_getElem?_getD]; simp [h]
theorem swapL_other {l : List ByteArray} {k p : Nat} (h0 : p ≠ k) (h1 : p ≠ k + 1) : G (swapL l k) p = G l p := by
  simp only [swapL, G, List.getD_eq_getElem?_getD]; rw [List.getElem?_set_ne (by omega), List.getElem?_set_ne (by omega)]

/-- All places up to i are in order, but for the one at k. -/
def Near (l : List ByteArray) (i k : Nat) : Prop := ∀ p q, p < q → q ≤ i → q ≠ k → leS (G l p) (G l q) = true
def Asc (l : List ByteArray) (i : Nat) : Prop := ∀ p q, p < q → q < i → leS (G l p) (G l q) = true
theorem near_start {l : List ByteArray} {i : Nat} (h : Asc l i) : Near l i i := fun p q h1 h2 h3 => h p q h1 (by omega)
theorem near_swap {l : List ByteArray} {i k : Nat} (h : Near l i (k + 1)) (hk : k + 1 ≤ i) (hi : i < l.length) (hlt : cmpS (G l (k + 1)) (G l k) < 0) : Near (swapL l k) i k := by
  intro p q h1 h2 h3
  have hle : leS (G l (k + 1)) (G l k) = true := (leS_iff _ _).2 (by omega)
  by_cases e : q = k + 1
  · subst e
    rw [swapL_at1 (by omega)]
    by_cases e2 : p = k
    · subst e2; rw [swapL_at0 (by omega)]; exact hle
    · rw [swapL_other e2 (by omega)]; exact h p k (by omega) (by omega) (by omega)
  · rw [swapL_other h3 e]
    by_cases e2 : p = k
    · subst e2; rw [swapL_at0 (by omega)]; exact h (p + 1) q (by omega) h2 e
    · by_cases e3 : p = k + 1
      · subst e3; rw [swapL_at1 (by omega)]; exact h k q (by omega) h2 e
      · rw [swapL_other e2 e3]; exact h p q h1 h2 e
theorem near_zero {l : List ByteArray} {i : Nat} (h : Near l i 0) : Asc l (i + 1) := fun p q h1 h2 => h p q h1 (by omega) (by omega)
theorem near_none {l : List ByteArray} {i k : Nat} (h : Near l i k) (hk : ¬ 0 < k) : Asc l (i + 1) := by
  obtain rfl : k = 0 := by omega
  exact near_zero h
theorem near_done {l : List ByteArray} {i k : Nat} (h : Near l i (k + 1)) (hk : k + 1 ≤ i) (hge : ¬ cmpS (G l (k + 1)) (G l k) < 0) : Asc l (i + 1) := by
  intro p q h1 h2
  have hle : leS (G l k) (G l (k + 1)) = true := by unfold leS; simp; omega
  by_cases e : q = k + 1
  · subst e
    by_cases e2 : p = k
    · subst e2; exact hle
    · exact leS_trans _ _ _ (h p k (by omega) (by omega) (by omega)) hle
  · exact h p q h1 (by omega) e
theorem asc_sorted {l : List ByteArray} (h : Asc l l.length) : l.Pairwise (fun a b => leS a b = true) := by
  rw [List.pairwise_iff_getElem]
  intro i j hi hj hij
  have := h i j hij hj
  rwa [G_get hi, G_get hj] at this
theorem asc_one (l : List ByteArray) : Asc l 0 := fun p q h1 h2 => by omega

/-- What the row holds: some order of the texts. -/
def Row (B : Nat) (E : TypeId) (g n cap : Nat) (ss cur : List ByteArray) (w wr : World) : Prop :=
  cur.Perm ss ∧ wr.ownsRow B E 1 (.slice (some ⟨g, 0, none⟩) n cap) n (cur.map .string) ∧ Below w.heap.size w wr
theorem Row.cell {B : Nat} {E : TypeId} {g n cap : Nat} {ss cur : List ByteArray} {w wr : World} (h : Row B E g n cap ss cur w wr) (hn : n = ss.length) {p : Nat} (hp : p < n) :
    wr.cell? ⟨g, p, none⟩ = some (.string (G cur p)) := by
  have hl := h.1.length_eq
  rw [h.2.1.cellAt p (by omega), List.getElem?_map, List.getElem?_eq_getElem (by omega), G_get (by omega)]; rfl
theorem Row.drewN {B : Nat} {E : TypeId} {g n cap : Nat} {ss cur : List ByteArray} {w wr : World} (h : Row B E g n cap ss cur w wr) (q : Nat) : Row B E g n cap ss cur w (wr.drewN q) :=
  ⟨h.1, h.2.1, below_drewN h.2.2 q⟩
theorem Row.swap {B : Nat} {E : TypeId} {g n cap : Nat} {ss cur : List ByteArray} {w wr : World} (h : Row B E g n cap ss cur w wr) (hn : n = ss.length) (hB : w.heap.size ≤ B) {k : Nat} (hk : k + 1 < n) :
    Row B E g n cap ss (swapL cur k) w ((wr.setCell ⟨g, k + 1, none⟩ (.string (G cur k))).setCell ⟨g, k, none⟩ (.string (G cur (k + 1)))) := by
  have hl := h.1.length_eq
  have h1 := (h.2.1.stored (k + 1) (.string (G cur k))).1
  have h2 := (h1.stored k (.string (G cur (k + 1)))).1
  have hg := (h.2.1.lt g rfl).1
  refine ⟨(swapL_perm cur k (by omega)).trans h.1, ?_, (h.2.2.setCell (p := ⟨g, k + 1, none⟩) (by simp; omega) _).setCell (p := ⟨g, k, none⟩) (by simp; omega) _⟩
  rw [← List.map_set, ← List.map_set] at h2; exact h2
theorem Row.frozen {B : Nat} {E : TypeId} {g n cap : Nat} {ss cur : List ByteArray} {w wr : World} (h : Row B E g n cap ss cur w wr) (p : Nat) : wr.frozen? ⟨g, p, none⟩ = false := h.2.1.frozenAt p

set_option maxHeartbeats 1600000 in
set_option maxRecDepth 100000 in
theorem rsort_any (v : Value) (ss : List ByteArray) (w : World) (hv : ReadsS w v ss) (hl : ss.length ≤ 1000) (hsz : ∀ x ∈ ss, x.size ≤ 9223372036854775807) :
    Calls Try.prog 23 #[v] w fun e w' => ∃ v', e = .returned v' ∧ w'.ownsRow w.heap.size 9 1 v' (sortS ss).length ((sortS ss).map .string) ∧ Below w.heap.size w w' := by
  obtain ⟨is, his, hs0, hs1, hs2⟩ := info_parts info_str
  go_enter Try.func23, Try.ntmps23
  go_upto_region 1 with fail
  go_cut [3] (fun s wc => ∃ g cap, s = .slice (some ⟨g, 0, none⟩) ss.length cap ∧ Row w.heap.size 9 g ss.length cap ss ss w wc)
  case first =>
    have hown0 : (w.alloc (.cells #[] 9)).ownsRow w.heap.size 9 1 (.slice (some ⟨w.heap.size, 0, none⟩) 0 0) 0 [] := World.ownsRow_lit w #[] 0 (Nat.le_refl _) (by unfold maxLen; omega) rfl
    have hB0 : Below w.heap.size w (w.alloc (.cells #[] 9)) := (Below.refl _ _).alloc (Nat.le_refl _) _
    rcases hv with ⟨rfl, rfl | ⟨a, cap, rfl⟩⟩ | ⟨b, off, cap, rfl, hb, hc⟩
    · go_wp2_with (at_builtin; refine wpList_append_own_none rfl _ _ 32 rfl w.heap.size 9 is 1 Try.underlying32 his _ 0 [] rfl hown0 rfl ?_)
      go_meet
      exact ⟨w.heap.size, 0, rfl, List.Perm.refl _, hown0, hB0⟩
    · go_wp2_with (at_builtin; refine wpList_append_own _ rfl _ _ 32 rfl w.heap.size 9 is (.string ⟨#[]⟩) 1 16 Try.underlying32 his hs0 hs1 hs2 rfl (by decide) _ 0 [] rfl hown0 a 0 cap [] rfl rfl (fun j u hj => by simp at hj) (fun u hu => by simp at hu) (by unfold maxLen; omega) (by omega) (by simp) ?_)
      intro v' w2 hown' hgrow hnn
      obtain ⟨g, c, hv'⟩ : ∃ g c, v' = .slice (some ⟨g, 0, none⟩) 0 c := by
        obtain ⟨_, ⟨h, _⟩ | ⟨g, c, cur, h, _⟩⟩ := hown'
        · exact (hnn h).elim
        · exact ⟨g, c, h⟩
      rw [hv'] at hown' ⊢
      have hB2 : Below w.heap.size w w2 := hB0.grown hgrow (by simp) (fun k hk => by simp [Value.ownBlock] at hk; omega)
      clear hnn hgrow hown0 hv'
      go_wp2
      go_meet
      exact ⟨g, c, rfl, List.Perm.refl _, hown', hB2⟩
    · have hnews : ∀ j u, (ss.map Value.string)[j]? = some u → (w.alloc (.cells #[] 9)).cell? ((⟨b, off, none⟩ : Addr).add j) = some u := by
        intro j u hj
        rw [List.getElem?_map] at hj
        have hj2 : j < ss.length := by
          rcases Nat.lt_or_ge j ss.length with h | h
          · exact h
          · rw [List.getElem?_eq_none h] at hj; simp at hj
        rw [List.getElem?_eq_getElem hj2] at hj
        simp only [Option.map_some, Option.some.injEq] at hj
        rw [← hj]
        by_cases h0 : j = 0
        · subst h0
          exact (hB0.cell (p := ⟨b, off, none⟩) hb).trans (hc 0 hj2)
        · have e : (⟨b, off, none⟩ : Addr).add j = ⟨b, off + j, none⟩ := by simp [Addr.add, h0]
          rw [e]
          exact (hB0.cell (p := ⟨b, off + j, none⟩) hb).trans (hc j hj2)
      have hone : ∀ u ∈ ss.map Value.string, u.oneCell' = true := by intro u hu; obtain ⟨x, _, rfl⟩ := List.mem_map.1 hu; rfl
      have HH := Lib.hid (And.intro hnews hone)
      have hlm := Lib.hid (show (ss.map Value.string).length = ss.length * 1 by simp)
      clear hc hnews hone
      go_wp2_with (at_builtin; refine wpList_append_own _ rfl _ _ 32 rfl w.heap.size 9 is (.string ⟨#[]⟩) 1 16 Try.underlying32 his hs0 hs1 hs2 rfl (by decide) _ 0 [] rfl hown0 ⟨b, off, none⟩ ss.length cap (ss.map .string) rfl hlm.out HH.out.1 HH.out.2 ?e3 ?e4 ?e5 ?_)
      case e3 => unfold maxLen; omega
      case e4 => omega
      case e5 => simp
      intro v' w2 hown' hgrow hnn
      obtain ⟨g, c, hv'⟩ : ∃ g c, v' = .slice (some ⟨g, 0, none⟩) ss.length c := by
        obtain ⟨_, ⟨h, _⟩ | ⟨g, c, cur, h, _⟩⟩ := hown'
        · exact (hnn h).elim
        · exact ⟨g, c, h⟩
      rw [hv'] at hown' ⊢
      have hB2 : Below w.heap.size w w2 := hB0.grown hgrow (by simp) (fun k hk => by simp [Value.ownBlock] at hk; omega)
      clear hnn hgrow hown0 hlm HH hv'
      go_wp2
      go_meet
      exact ⟨g, c, rfl, List.Perm.refl _, hown', hB2⟩
  case rest =>
    obtain ⟨g, cap, rfl, hR⟩ := hcut
    go_wp2_with fail
    go_loopw [4] (fun x wr => ∃ (i : Nat) (cur : List ByteArray), x = .int .i64 i ∧ i ≤ ss.length ∧ Hid (Asc cur i) ∧ Row w.heap.size 9 g ss.length cap ss cur w wr) (fun x _ => ss.length - (intOf x).toNat)
    case atStart => exact ⟨0, ss, rfl, Nat.zero_le _, asc_one _, hR⟩
    case round =>
      obtain ⟨i, cur, rfl, hi, hA, hRr⟩ := hrel
      clear hR
      by_cases hlt : i < ss.length
      · go_wp2_with fail
        obtain ⟨wo, rfl⟩ : ∃ wo : World, wo = wr := ⟨_, rfl⟩
        go_loopw [5] (fun x wr => ∃ (k : Nat) (cur : List ByteArray), x = .int .i64 k ∧ k ≤ i ∧ Hid (Near cur i k) ∧ Row w.heap.size 9 g ss.length cap ss cur w wr) (fun x _ => (intOf x).toNat)
        case atStart => exact ⟨i, cur, rfl, Nat.le_refl _, near_start hA.out, hRr⟩
        case round =>
          clear hRr hA cur
          obtain ⟨k, cur, rfl, hk, hN, hRk⟩ := hrel
          by_cases hk0 : 0 < k
          · obtain ⟨j, rfl⟩ : ∃ j, k = j + 1 := ⟨k - 1, by omega⟩
            have c1 := hRk.cell rfl (p := j + 1) (by omega)
            have c0 := hRk.cell rfl (p := j) (by omega)
            have z1 : (G cur (j + 1)).size ≤ 9223372036854775807 := by
              have hl := hRk.1.length_eq
              rw [G_get (by omega)]; exact hsz _ (hRk.1.mem_iff.1 (List.getElem_mem _))
            have z0 : (G cur j).size ≤ 9223372036854775807 := by
              have hl := hRk.1.length_eq
              rw [G_get (by omega)]; exact hsz _ (hRk.1.mem_iff.1 (List.getElem_mem _))
            rw [show ((j + 1 : Nat) : Int) = (j : Int) + 1 from by omega]
            by_cases hc : cmpS (G cur (j + 1)) (G cur j) < 0
            · have hN2 := Lib.hid (near_swap hN.out hk (by have := hRk.1.length_eq; omega) hc)
              have f1 := hRk.frozen (j + 1)
              have f0 := hRk.frozen j
              go_wp2_with fail
              go_quiet ((go_at_call 19; exact Calls.quiet_of (rcompare_any _ _ _ z1 z0)))
              go_wp2
              go_roundw
              case rel => exact ⟨j, swapL cur j, rfl, by omega, hN2, (hRk.drewN _).swap rfl (Nat.le_refl _) (by omega)⟩
              case measure => simp [intOf]
            · have hA2 := Lib.hid (near_done hN.out hk hc)
              go_wp2_with fail
              go_quiet ((go_at_call 19; exact Calls.quiet_of (rcompare_any _ _ _ z1 z0)))
              go_wp2
              go_roundw
              case rel => exact ⟨i + 1, cur, by go_num, by omega, hA2, hRk.drewN _⟩
              case measure => simp [intOf]; omega
          · have h5 : decide (0 < (k : Int)) = false := by simp; omega
            have hA2 : Hid (Asc cur (i + 1)) := near_none hN.out hk0
            go_wp2_with fail
            go_quiet (fail)
            go_wp2
            go_roundw
            case rel => exact ⟨i + 1, cur, by go_num, by omega, hA2, hRk.drewN _⟩
            case measure => simp [intOf]; omega
      · have hie : i = ss.length := by omega
        subst hie
        have hfin := Lib.hid (sortS_unique hRr.1 (asc_sorted (by rw [hRr.1.length_eq]; exact hA.out)))
        have hle := Lib.hid hRr.1.length_eq
        go_wp2
        go_ret
        refine ⟨_, rfl, ?_, hRr.2.2⟩
        rw [hfin.out, hle.out]; exact hRr.2.1
end Go.Proofs.Ytpjfgniohbaonaa
