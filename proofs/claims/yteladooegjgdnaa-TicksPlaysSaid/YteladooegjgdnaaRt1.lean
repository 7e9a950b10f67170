/- The document's Timers: Find, without. -/
import Derived.Test.YteladooegjgdnaaHp17
namespace Go.Proofs.Yteladooegjgdnaa
open Go.RowKit Go.Sort Go.Lib

abbrev RtT : TypeId := 41
/-- The document's timers: a clock, and timers in no order. -/
structure Rq (Z r : Nat) (lv : Value) (l : List Tm) (clock : Int) (w : World) : Prop where
  box : BoxAt w r #[.int .i64 clock, lv] RtT
  own : w.ownsRow Z TmT 2 lv l.length (l.flatMap encT)
  zr : Z ≤ r
section
variable {Z r : Nat} {lv : Value} {l : List Tm} {clock : Int} {w w' : World}
theorem Rq.below (h : Rq Z r lv l clock w) (hB : Below w.heap.size w w') : Rq Z r lv l clock w' := ⟨h.box.below hB, own_below h.own hB, h.zr⟩
theorem Rq.cell (h : Rq Z r lv l clock w) : w.cell? ⟨r, 0, none⟩ = some (.int .i64 clock) ∧ w.cell? ⟨r, 1, none⟩ = some lv := ⟨h.box.cell 0, h.box.cell 1⟩
theorem Rq.lit (h : Rq Z r lv l clock w) (hl : 0 < l.length) : ∃ g cap, lv = .slice (some ⟨g, 0, none⟩) l.length cap := by
  obtain ⟨_, ⟨hv, h0⟩ | ⟨g, cap, cur, hv, _⟩⟩ := h.own
  · omega
  · exact ⟨g, cap, hv⟩
theorem Rq.at (h : Rq Z r lv l clock w) {k : Nat} (hk : k < l.length) : ∃ g cap, lv = .slice (some ⟨g, 0, none⟩) l.length cap ∧ w.cell? ⟨g, k * 2, none⟩ = some (.string l[k].k) ∧ w.cell? ⟨g, k * 2 + 1, none⟩ = some (.int .i64 l[k].a) := by
  obtain ⟨g, cap, e⟩ := h.lit (by omega)
  have ho := h.own
  rw [e] at ho
  obtain ⟨c0, c1⟩ := tm_at ho rfl hk
  exact ⟨g, cap, e, c0, c1⟩
end
set_option maxHeartbeats 3200000 in
set_option maxRecDepth 100000 in
theorem rfind_any {Z r : Nat} {lv : Value} {l : List Tm} {clock : Int} {w : World} (key : ByteArray) (h : Rq Z r lv l clock w) (hm : l.length ≤ 100000) :
    Calls Try.prog 29 #[TP r, .string key] w fun e w' => (∃ i, e = .returned (.int .i64 i) ∧ FindP key l i) ∧ Below w.heap.size w w' := by
  have H0 := Lib.hid h
  obtain ⟨la, lc, hlv⟩ := own_slice h.own
  have HLV := Lib.hid hlv
  obtain ⟨N, hN⟩ : ∃ N, l.length = N := ⟨_, rfl⟩
  clear h hlv
  have HN := Lib.hid hN
  go_enter Try.func29, Try.ntmps29
  go_wp2_with fail
  go_loopg [5] N (fun gk i wr => ∃ k : Nat, gk + k = N ∧ i = .int .i64 k ∧ Hid (Below w.heap.size w wr) ∧ Hid (∀ j, (hj : j < l.length) → j < k → l[j].k ≠ key))
  case atStart => exact ⟨0, by omega, rfl, Below.refl _ _, fun j _ hj => absurd hj (by omega)⟩
  case round =>
    obtain ⟨k, hkk, rfl, HB, hn⟩ := hrel
    have y1 := (H0.out.below HB.out).cell.2
    rw [HLV.out, hN] at y1
    by_cases hlt : k < N
    · have hkl : k < l.length := by omega
      obtain ⟨g, cap, e, c0, c1⟩ := (H0.out.below HB.out).at hkl
      rw [HLV.out] at e
      injection e with e1 _ e3
      subst e1
      clear e3
      cases hp : decide (l[k].k = key)
      all_goals
        have HP := Lib.hid hp
        have hb : (l[k].k.toList == key.toList) = decide (l[k].k = key) := ba_eq _ _
        rw [hp] at hb
        clear hp hN
        generalize hx : l[k].k = xk at c0 hb
        have HX := Lib.hid hx
        clear hx c1
      · go_wp2_with fail
        go_roundg (gk - 1)
        case rel => exact ⟨k + 1, by omega, by go_num, HB.out, fun j hj hjk => by
          by_cases e : j = k
          · subst e; exact of_decide_eq_false HP.out
          · exact hn.out j hj (by omega)⟩
        case measure => omega
      · go_wp2_with fail
        go_ret
        exact ⟨⟨_, rfl, .inr ⟨k, hkl, rfl, by
          have := of_decide_eq_true HP.out
          unfold gT
          rw [List.getD_eq_getElem?_getD, List.getElem?_eq_getElem hkl]
          exact this⟩⟩, HB.out⟩
    · have hke : k = l.length := by omega
      clear hN
      go_wp2_with fail
      go_ret
      exact ⟨⟨_, rfl, .inl ⟨rfl, fun x hx => by
        obtain ⟨j, hj, e⟩ := List.mem_iff_getElem.1 hx
        rw [← e]
        exact hn.out j hj (by omega)⟩⟩, HB.out⟩
/-- All but the one at a place, of the first k. -/
def woP (l : List Tm) (i : Int) : Nat → List Tm
  | 0 => []
  | k + 1 => if (k : Int) = i then woP l i k else woP l i k ++ [gT l k]
theorem take_gT {l : List Tm} {k : Nat} (h : k < l.length) : l.take (k + 1) = l.take k ++ [gT l k] := by
  have e : gT l k = l[k] := by unfold gT; rw [List.getD_eq_getElem?_getD, List.getElem?_eq_getElem h]; rfl
  rw [e, List.take_succ_eq_append_getElem h]
theorem woP_pre (l : List Tm) (i : Int) : ∀ k, k ≤ l.length → (i < 0 ∨ (k : Int) ≤ i) → woP l i k = l.take k
  | 0, _, _ => by simp [woP]
  | k + 1, hk, hi => by
    rw [take_gT (by omega)]
    unfold woP
    rw [if_neg (by omega), woP_pre l i k (by omega) (by omega)]
theorem woP_post (l : List Tm) (i : Nat) : ∀ k, k ≤ l.length → i < k → (gT l i :: woP l i k).Perm (l.take k)
  | 0, _, h => by omega
  | k + 1, hk, hi => by
    rw [take_gT (by omega)]
    unfold woP
    by_cases h : (k : Int) = (i : Int)
    · rw [if_pos h]
      have e : k = i := by omega
      subst e
      rw [woP_pre l k k (by omega) (by omega)]
      exact (List.perm_append_comm (l₁ := [gT l k]) (l₂ := l.take k))
    · rw [if_neg h]
      exact ((woP_post l i k (by omega) (by omega)).append_right [gT l k])
theorem woP_none (l : List Tm) : woP l (-1) l.length = l := by rw [woP_pre l _ _ (Nat.le_refl _) (by omega)]; exact List.take_length
theorem woP_some {l : List Tm} {i : Nat} (h : i < l.length) : (gT l i :: woP l i l.length).Perm l := by
  have := woP_post l i l.length (Nat.le_refl _) h
  rwa [List.take_length] at this
theorem woP_len (l : List Tm) (i : Int) : ∀ k, (woP l i k).length ≤ k
  | 0 => Nat.le_refl _
  | k + 1 => by
    have := woP_len l i k
    unfold woP
    split
    · omega
    · simp; omega
theorem rset_box {Z r : Nat} {lv lv' : Value} {l l' : List Tm} {clock : Int} {w w' : World} (h : Rq Z r lv l clock w) (hB : Below w.heap.size w w') (ho : w'.ownsRow Z TmT 2 lv' l'.length (l'.flatMap encT)) :
    Rq Z r lv' l' clock (w'.setCell ⟨r, 1, none⟩ lv') ∧ Fr (fun i => i = r) w (w'.setCell ⟨r, 1, none⟩ lv') := by
  have hF : Fr (fun i => i = r) w' (w'.setCell ⟨r, 1, none⟩ lv') := (Fr.refl (fun i => i = r) w').setCell (p := ⟨r, 1, none⟩) rfl _
  have hb := h.box.below hB
  exact ⟨⟨Go.heap_setCell_same w' r 1 _ _ _ hb, own_typed ho hF (typed_box hb) (by decide), h.zr⟩, (Fr.of_below hB).trans hF⟩
def WoP (Z r : Nat) (l : List Tm) (i clock : Int) (w : World) (e : Ending) (w' : World) : Prop :=
  e = .returned (.tuple #[]) ∧ ∃ lv', Rq Z r lv' (woP l i l.length) clock w' ∧ Fr (fun i => i = r) w w' ∧ ∀ g, lv'.ownBlock = some g → w.heap.size ≤ g
set_option maxHeartbeats 6400000 in
set_option maxRecDepth 100000 in
theorem rwo_any {Z r : Nat} {lv : Value} {l : List Tm} {clock : Int} {w : World} (i : Int) (h : Rq Z r lv l clock w) (hm : l.length ≤ 100000) :
    Calls Try.prog 30 #[TP r, .int .i64 i] w fun e w' => WoP Z r l i clock w e w' := by
  have H0 := Lib.hid h
  obtain ⟨la, lc, hlv⟩ := own_slice h.own
  have HLV := Lib.hid hlv
  obtain ⟨N, hN⟩ : ∃ N, l.length = N := ⟨_, rfl⟩
  clear h hlv
  have HN := Lib.hid hN
  go_enter Try.func30, Try.ntmps30
  go_wp2_with fail
  go_loopg [4, 5] N (fun gk t4 t5 wr => ∃ (k : Nat) (va : Option Addr) (vn vc : Nat), gk + k = N ∧ t5 = .int .i64 k ∧ t4 = .slice va vn vc ∧ (woP l i k).length = vn ∧ Hid (Below w.heap.size w wr ∧ wr.ownsRow w.heap.size TmT 2 (.slice va vn vc) (woP l i k).length ((woP l i k).flatMap encT)))
  case atStart => exact ⟨0, none, 0, 0, by omega, rfl, rfl, rfl, Below.refl _ _, World.ownsRow_nil _ _ _ _⟩
  case round =>
    obtain ⟨k, va, vn, vc, hkk, rfl, rfl, hvn, HB⟩ := hrel
    have HVN := Lib.hid hvn
    have y1 := (H0.out.below HB.out.1).cell.2
    rw [HLV.out, hN] at y1
    clear hvn
    by_cases hlt : k < N
    · have hkl : k < l.length := by omega
      obtain ⟨g, cap, e, c0, c1⟩ := (H0.out.below HB.out.1).at hkl
      rw [HLV.out] at e
      injection e with e1 _ e3
      subst e1
      have hgk0 : gT l k = l[k] := by unfold gT; rw [List.getD_eq_getElem?_getD, List.getElem?_eq_getElem hkl]; rfl
      obtain ⟨x, hx⟩ : ∃ x, l[k] = x := ⟨_, rfl⟩
      rw [hx] at c0 c1 hgk0
      have HGK := Lib.hid hgk0
      clear e3 hx hgk0 hN
      by_cases hki : (k : Int) = i
      · have hkb : ((k : Int) != i) = false := by simp [hki]
        have HD := Lib.hid (show woP l i (k + 1) = woP l i k from by conv => lhs; unfold woP; rw [if_pos hki])
        clear hki
        go_wp2_with fail
        go_roundg (gk - 1)
        case rel => exact ⟨k + 1, va, vn, vc, by omega, by go_num, rfl, by rw [HD.out]; exact HVN.out, HB.out.1, by rw [HD.out]; exact HB.out.2⟩
        case measure => omega
      · have hkb : ((k : Int) != i) = true := by simp [hki]
        have HD := Lib.hid (show woP l i (k + 1) = woP l i k ++ [x] from by conv => lhs; unfold woP; rw [if_neg hki, HGK.out])
        have hwl := woP_len l i k
        have HWL := Lib.hid hwl
        clear hki
        obtain ⟨ig, hig, hg0, hg1, hg2⟩ := info_parts info_tm
        have hA3 : Below wr.heap.size wr (wr.alloc (.cells #[.string x.k, .int .i64 x.a] TmT)) := alT wr _
        have ho4 := own_below HB.out.2 hA3
        obtain ⟨g7, c7, w7, hap, hown7, hgrow, hat, _⟩ := run_append_lies (P := Try.prog) (wr.alloc (.cells #[.string x.k, .int .i64 x.a] TmT)) 33 33 w.heap.size TmT ig (.agg #[.string ⟨#[]⟩, .int .i64 0]) 2 24 Try.underlying33 hig hg0 hg1 hg2 rfl (by decide) (.slice va vn vc) (woP l i k).length ((woP l i k).flatMap encT) ho4 ⟨wr.heap.size, 0, none⟩ 1 1 (encT x) rfl (one_tm wr x) (by intro v hv; simp [encT] at hv; rcases hv with rfl | rfl <;> rfl) (by decide) (by unfold maxLen; omega) (by omega) (by have := HB.out.1.size; simp; omega) _ rfl
        have hF7 := grow_fr' hA3 hgrow
        have HN7 := Lib.hid (show Below w.heap.size w w7 ∧ w7.ownsRow w.heap.size TmT 2 (.slice (some ⟨g7, 0, none⟩) ((woP l i k).length + 1) c7) (woP l i (k + 1)).length ((woP l i (k + 1)).flatMap encT) from by
          refine ⟨HB.out.1.trans (hF7.below (fun i hi => own_low HB.out.2 i hi) HB.out.1.size), ?_⟩
          rw [HD.out]
          simpa [List.flatMap_append] using hown7)
        have hdl := Lib.hid (show (woP l i (k + 1)).length = (woP l i k).length + 1 from by rw [HD.out]; simp)
        obtain ⟨v7, hv7⟩ : ∃ n, (woP l i k).length + 1 = n := ⟨_, rfl⟩
        rw [hv7] at hap hdl HN7
        clear hA3 ho4 hown7 hgrow hat hF7 hig hg0 hg1 hg2 hv7 hwl
        go_wp2_with (at_builtin; refine wpList_arunC rfl _ _ _ _ rfl rfl rfl hap ?_)
        go_roundg (gk - 1)
        case rel => exact ⟨k + 1, _, v7, c7, by omega, by go_num, rfl, hdl.out, HN7.out⟩
        case measure => omega
    · have hke : k = l.length := by omega
      subst hke
      have f1 := ((H0.out.below HB.out.1).box.frozen 1)
      have HX := Lib.hid (rset_box H0.out (gthen (Below.refl _ _) HB.out.1) (owns_monoG HB.out.2 (show Z ≤ w.heap.size from by
        have h1 : r < w.heap.size := (Array.getElem?_eq_some_iff.1 H0.out.box).1
        have h2 := H0.out.zr
        omega)))
      have HLo := Lib.hid (own_low HB.out.2)
      clear hN
      go_wp2_with fail
      go_end0
      exact ⟨rfl, _, HX.out.1, HX.out.2, HLo.out⟩
end Go.Proofs.Yteladooegjgdnaa
