/- The document's tree: Find. -/
import Derived.Test.YtpdnebimkfejoaaTwo25
import Derived.Test.YtpdnebimkfejoaaLinLaw2
import Derived.Test.YtpdnebimkfejoaaBox
namespace Go.Proofs.Ytpdnebimkfejoaa
open Go.RowKit Go.Sort Go.Lib

abbrev TrT : TypeId := 58
abbrev RootT : TypeId := 42
abbrev NmT : TypeId := 29
abbrev RP (r : Nat) : Value := .pointer (some ⟨r, 0, none⟩)
abbrev nmV (n : Nm) : Value := .agg #[.int .u64 n.1, .string n.2]
theorem alD (w : World) (o : Obj) : Below w.heap.size w (w.alloc o) := (Below.refl _ _).alloc (Nat.le_refl _) _
theorem gthenD {w w1 w2 : World} (h : Below w.heap.size w w1) (h2 : Below w1.heap.size w1 w2) : Below w.heap.size w w2 := h.trans (h2.mono h.size)
/-- A root's numbers lie ahead of Z. -/
def ArgsZ (Z : Nat) (w : World) (r : Rw) : Prop := ArgsR w r ∧ ∀ a, r.aa = some a → r.args ≠ [] → a.block < Z
theorem ArgsZ.keep {Z : Nat} {w w' : World} {r : Rw} (h : ArgsZ Z w r) (hB : Below Z w w') : ArgsZ Z w' r := by
  refine ⟨?_, h.2⟩
  rcases h.1 with e | ⟨b, off, cap, hv, hb, hc⟩
  · exact .inl e
  · injection hv with e1 e2 e3
    by_cases hne : r.args = []
    · exact .inl ⟨hne, _, _, by rw [hne]; rfl⟩
    have hz := h.2 _ e1 hne
    refine .inr ⟨b, off, cap, by rw [e1, e3], Nat.lt_of_lt_of_le hb hB.size, fun i hi t u hu => (hB.cell (p := ⟨b, off + (i * 1 + t), none⟩) hz).trans (hc i hi t u hu)⟩
/-- The document's roots: a list, in order. -/
structure Dt (Z r : Nat) (lv : Value) (l : Al) (w : World) : Prop where
  box : BoxAt w r #[lv] TrT
  own : w.ownsRow Z RootT 9 lv l.length (l.flatMap encT)
  zr : Z ≤ r
  args : ∀ p ∈ l, ArgsZ Z w p.2
section
variable {Z r : Nat} {lv : Value} {l : Al} {w w' : World}
theorem Dt.below (h : Dt Z r lv l w) (hB : Below w.heap.size w w') : Dt Z r lv l w' := by
  have hz : Z ≤ w.heap.size := by
    have h1 : r < w.heap.size := (Array.getElem?_eq_some_iff.1 h.box).1
    have h2 := h.zr
    omega
  exact ⟨h.box.below hB, own_below h.own hB, h.zr, fun p hp => (h.args p hp).keep (hB.mono hz)⟩
theorem Dt.cell (h : Dt Z r lv l w) : w.cell? ⟨r, 0, none⟩ = some lv := h.box.cell 0
theorem encT_lenD (x : Rl) : (encT x).length = 9 := rfl
theorem Dt.at (h : Dt Z r lv l w) {k : Nat} (hk : k < l.length) : ∃ g cap, lv = .slice (some ⟨g, 0, none⟩) l.length cap ∧ ∀ t u, (encT l[k])[t]? = some u → w.cell? ⟨g, k * 9 + t, none⟩ = some u := by
  obtain ⟨g, cap, cur, hv, _, hg, hb, _, _, hsz, ht⟩ := own_blockK h.own (by omega)
  refine ⟨g, cap, hv, fun t u hu => ?_⟩
  rcases own_readsK (enc := encT) encT_lenD (by decide) h.own with ⟨e, _⟩ | ⟨b, off, c, e, _, hc⟩
  · rw [e] at hk; simp at hk
  · rw [hv] at e
    injection e with e1 _ _
    injection e1 with e1
    injection e1 with e1 e2 _
    subst e1; subst e2
    have := hc k hk t u hu
    simpa using this
end
/-- Where a root is. -/
def FindN (l : Al) (n : Nm) (i : Int) : Prop := (i = -1 ∧ ∀ p ∈ l, p.1 ≠ n) ∨ ∃ (j : Nat) (hj : j < l.length), i = (j : Int) ∧ l[j].1 = n
theorem eqNm (a b : Nm) (w : World) : (binOp .eql NmT (nmV a) (nmV b)).run Try.prog w = .ok (.bool (decide (a = b))) w := by
  have := nameTy.eq w a b
  unfold encN at this
  simp only [binOp, Sem.run_bind, this, Result.andThen, Sem.run_pure]
set_option maxHeartbeats 3200000 in
set_option maxRecDepth 100000 in
theorem dfind_any {Z r : Nat} {lv : Value} {l : Al} {w : World} (n : Nm) (h : Dt Z r lv l w) (hm : l.length ≤ 100000) :
    Calls Try.prog 30 #[RP r, nmV n] w fun e w' => (∃ i, e = .returned (.int .i64 i) ∧ FindN l n i) ∧ Below w.heap.size w w' := by
  have hA := alD w (.cells #[.int .u64 n.1, .string n.2] NmT)
  have H0 := Lib.hid (h.below hA)
  have hn0 : (w.alloc (.cells #[.int .u64 n.1, .string n.2] NmT)).cell? ⟨w.heap.size, 0, none⟩ = some (.int .u64 n.1) := by simp [go_sem]
  have hn1 : (w.alloc (.cells #[.int .u64 n.1, .string n.2] NmT)).cell? ⟨w.heap.size, 1, none⟩ = some (.string n.2) := by simp [go_sem]
  have HA := Lib.hid hA
  obtain ⟨la, lc, hlv⟩ := own_slice h.own
  have HLV := Lib.hid hlv
  obtain ⟨N, hN⟩ : ∃ N, l.length = N := ⟨_, rfl⟩
  clear h hlv hA
  have HN := Lib.hid hN
  go_enter Try.func30, Try.ntmps30
  go_wp2_with fail
  have hnb : w.heap.size < (w.alloc (.cells #[.int .u64 n.1, .string n.2] NmT)).heap.size := by simp
  generalize w.alloc (.cells #[.int .u64 n.1, .string n.2] NmT) = wa at *
  obtain ⟨nb, hnbe⟩ : ∃ nb, w.heap.size = nb := ⟨_, rfl⟩
  rw [hnbe] at hn0 hn1 ⊢
  have HN0 := Lib.hid (And.intro hn0 hn1)
  clear hn0 hn1 hnb hnbe
  go_loopg [5] N (fun gk i wr => ∃ k : Nat, gk + k = N ∧ i = .int .i64 k ∧ Hid (Below wa.heap.size wa wr) ∧ Hid (∀ j, (hj : j < l.length) → j < k → l[j].1 ≠ n))
  case atStart => exact ⟨0, by omega, rfl, Below.refl _ _, fun j _ hj => absurd hj (by omega)⟩
  case round =>
    obtain ⟨k, hkk, rfl, HB, hn⟩ := hrel
    have y0 := (H0.out.below HB.out).cell
    rw [HLV.out, hN] at y0
    have m0 := (HB.out.cell (p := ⟨nb, 0, none⟩) (World.block_lt_of_cell? _ _ HN0.out.1)).trans HN0.out.1
    have m1 := (HB.out.cell (p := ⟨nb, 1, none⟩) (World.block_lt_of_cell? _ _ HN0.out.2)).trans HN0.out.2
    by_cases hlt : k < N
    · have hkl : k < l.length := by omega
      obtain ⟨g, cap, e, hc⟩ := (H0.out.below HB.out).at hkl
      rw [HLV.out] at e
      injection e with e1 _ e3
      subst e1
      have c0 : wr.cell? ⟨g, k * 9, none⟩ = some (.int .u64 l[k].1.1) := hc 0 _ rfl
      have c1 : wr.cell? ⟨g, k * 9 + 1, none⟩ = some (.string l[k].1.2) := hc 1 _ rfl
      clear e3 hc
      have heq := eqNm l[k].1 n
      cases hp : decide (l[k].1 = n)
      all_goals
        have HP := Lib.hid hp
        rw [hp] at heq
        clear hp hN
        generalize l[k].1 = xk at c0 c1 heq
        go_wp2_with fail
        go_quiet (fail)
        have HB2 := Lib.hid (HB.out.trans ((below_drewN (Below.refl wr.heap.size wr) nq).mono HB.out.size))
        clear c0 c1 heq m0 m1 y0 HB
        go_wp2_with fail
      · go_roundg (gk - 1)
        case rel => exact ⟨k + 1, by omega, by go_num, HB2.out, fun j hj hjk => by
          by_cases e : j = k
          · subst e; exact of_decide_eq_false HP.out
          · exact hn.out j hj (by omega)⟩
        case measure => omega
      · go_ret
        exact ⟨⟨_, rfl, .inr ⟨k, hkl, rfl, of_decide_eq_true HP.out⟩⟩, gthenD HA.out HB2.out⟩
    · have hke : k = l.length := by omega
      clear hN
      go_wp2_with fail
      go_ret
      exact ⟨⟨_, rfl, .inl ⟨rfl, fun x hx => by
        obtain ⟨j, hj, e⟩ := List.mem_iff_getElem.1 hx
        rw [← e]
        exact hn.out j hj (by omega)⟩⟩, gthenD HA.out HB.out⟩
end Go.Proofs.Ytpdnebimkfejoaa
