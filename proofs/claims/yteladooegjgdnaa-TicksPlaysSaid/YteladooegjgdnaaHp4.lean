/- Contract: heap.up. -/
import Derived.Test.YteladooegjgdnaaHp3
namespace Go.Proofs.Yteladooegjgdnaa
open Go.RowKit Go.Sort Go.Lib

abbrev TimersT : TypeId := 59
/-- A queue in block b: its rows, a clock. -/
structure Qu (Z b : Nat) (rv : Value) (l : List Tm) (now : Int) (w : World) : Prop where
  box : BoxAt w b #[rv, .int .i64 now, .bool true] TimersT
  own : w.ownsRow Z TmT 2 rv l.length (l.flatMap encT)
  zb : Z ≤ b
section
variable {Z b : Nat} {rv : Value} {l : List Tm} {now : Int} {w w' : World}
theorem Qu.below (h : Qu Z b rv l now w) (hB : Below w.heap.size w w') : Qu Z b rv l now w' := ⟨h.box.below hB, own_below h.own hB, h.zb⟩
theorem Qu.ne (h : Qu Z b rv l now w) : rv.ownBlock ≠ some b := by
  intro e
  obtain ⟨_, ⟨hv, _⟩ | ⟨g, cap, cur, hv, _, hb, _⟩⟩ := h.own
  · rw [hv] at e; cases e
  · rw [hv] at e
    have e' : g = b := by simpa [Value.ownBlock] using e
    subst e'
    have h1 := h.box
    unfold BoxAt at h1
    rw [hb] at h1
    injection h1 with h1
    injection h1 with _ h1 _
    exact absurd h1 (by decide)
/-- The rows turn. -/
theorem Qu.rows {g n cap : Nat} {l' : List Tm} (h : Qu Z b (.slice (some ⟨g, 0, none⟩) n cap) l now w) (hF : Fr (fun i => i = g) w w') (ho : w'.ownsRow Z TmT 2 (.slice (some ⟨g, 0, none⟩) n cap) l'.length (l'.flatMap encT)) : Qu Z b (.slice (some ⟨g, 0, none⟩) n cap) l' now w' :=
  ⟨h.box.fr hF (fun e => h.ne (by rw [e]; rfl)), ho, h.zb⟩
theorem Qu.cell (h : Qu Z b rv l now w) : w.cell? ⟨b, 0, none⟩ = some rv ∧ w.cell? ⟨b, 1, none⟩ = some (.int .i64 now) ∧ w.cell? ⟨b, 2, none⟩ = some (.bool true) := ⟨h.box.cell 0, h.box.cell 1, h.box.cell 2⟩
end
abbrev QI (b : Nat) : Value := .iface QuP (.pointer (some ⟨b, 0, none⟩))
/-- A timer rises to its place. -/
def upL : Nat → List Tm → Nat → List Tm
  | 0, l, _ => l
  | f + 1, l, j => if j = 0 then l else if lessT (l.getD j default) (l.getD ((j - 1) / 2) default) then upL f (swapL l ((j - 1) / 2) j) ((j - 1) / 2) else l
theorem upL_len : ∀ (f : Nat) (l : List Tm) (j : Nat), (upL f l j).length = l.length
  | 0, _, _ => rfl
  | f + 1, l, j => by
    unfold upL
    split
    · rfl
    · split
      · rw [upL_len, swapL_len]
      · rfl
set_option maxHeartbeats 6400000 in
set_option maxRecDepth 100000 in
theorem up_any {Z b g n cap j : Nat} {l : List Tm} {now : Int} {w : World} (h : Qu Z b (.slice (some ⟨g, 0, none⟩) n cap) l now w) (hn : l.length = n) (hj : j < n) (hnm : n ≤ 1000000) :
    Calls Try.prog 40 #[QI b, .int .i64 j] w fun e w' => e = .returned (.tuple #[]) ∧ Qu Z b (.slice (some ⟨g, 0, none⟩) n cap) (upL (j + 1) l j) now w' ∧ Fr (fun i => i = g) w w' := by
  have H0 := Lib.hid h
  clear h
  go_enter Try.func40, Try.ntmps40
  go_wp2_with fail
  go_loopg [1, 4] (j + 1) (fun gk t1 t4 wr => ∃ (jj : Nat) (l' : List Tm), t1 = .int .i64 jj ∧ jj < gk ∧ jj < n ∧ l'.length = n ∧ Hid (Qu Z b (.slice (some ⟨g, 0, none⟩) n cap) l' now wr ∧ Fr (fun i => i = g) w wr ∧ upL gk l' jj = upL (j + 1) l j))
  case atStart => exact ⟨j, l, rfl, by omega, hj, hn, H0.out, Fr.refl _ _, rfl⟩
  case round =>
    clear H0
    obtain ⟨jj, l', rfl, hgk, hjn, hln, HR⟩ := hrel
    obtain ⟨f, hf⟩ : ∃ f, gk = f + 1 := ⟨gk - 1, by omega⟩
    subst hf
    have HE := Lib.hid HR.out.2.2
    unfold upL at HE
    by_cases hj0 : jj = 0
    · subst hj0
      have HE2 := Lib.hid (show l' = upL (j + 1) l j from HE.out)
      clear HE
      go_wp2_with fail
      go_end0
      exact ⟨rfl, by rw [← HE2.out]; exact HR.out.1, HR.out.2.1⟩
    · obtain ⟨ii, hii⟩ : ∃ ii, (jj - 1) / 2 = ii := ⟨_, rfl⟩
      rw [if_neg hj0, hii] at HE
      have hil : ii < n := by omega
      have hij : ii < jj := by omega
      have q1 : IntKind.i64.wrap ((jj : Int) - 1) = (jj : Int) - 1 := IntWalk.i64_in _ (by omega)
      have q2 : ((jj : Int) - 1).tdiv 2 = (ii : Int) := by rw [Int.tdiv_eq_ediv_of_nonneg (by omega)]; omega
      have q3 : IntKind.i64.wrap (ii : Int) = (ii : Int) := IntWalk.i64_in _ (by omega)
      have q4 : ((ii : Int) == (jj : Int)) = false := by rw [beq_eq_false_iff_ne]; omega
      have mL := find_less wr b _ HR.out.1.cell.1
      clear hii
      go_wp2_with fail
      have hjl : jj < l'.length := by omega
      have hil2 : ii < l'.length := by omega
      have HO := Lib.hid (show wr.ownsRow Z TmT 2 (.slice (some ⟨g, 0, none⟩) n cap) n (l'.flatMap encT) from by have := HR.out.1.own; rwa [hln] at this)
      refine (rless_any HO.out hln hjl hil2).mono ?_
      rintro e w2 ⟨rfl, hB⟩
      have hgj : l'.getD jj default = l'[jj] := by rw [List.getD_eq_getElem?_getD, List.getElem?_eq_getElem hjl]; rfl
      have hgi : l'.getD ii default = l'[ii] := by rw [List.getD_eq_getElem?_getD, List.getElem?_eq_getElem hil2]; rfl
      rw [hgj, hgi] at HE
      clear hgj hgi mL
      have H2 := Lib.hid (show Qu Z b (.slice (some ⟨g, 0, none⟩) n cap) l' now w2 ∧ Fr (fun i => i = g) w w2 ∧ w2.ownsRow Z TmT 2 (.slice (some ⟨g, 0, none⟩) n cap) n (l'.flatMap encT) from ⟨HR.out.1.below hB, HR.out.2.1.then hB, own_below HO.out hB⟩)
      clear hB HO
      generalize lessT l'[jj] l'[ii] = c at *
      cases c
      · have HE2 := Lib.hid (show l' = upL (j + 1) l j from HE.out)
        clear HE
        go_wp2_with fail
        go_end0
        exact ⟨rfl, by rw [← HE2.out]; exact H2.out.1, H2.out.2.1⟩
      · have HE2 := Lib.hid (show upL f (swapL l' ii jj) ii = upL (j + 1) l j from HE.out)
        have mS := find_swap w2 b _ H2.out.1.cell.1
        clear HE
        go_wp2_with fail
        refine (rswap_any H2.out.2.2 hln hil2 hjl).mono ?_
        rintro e w3 ⟨rfl, ho, hF⟩
        have H3 := Lib.hid (show Qu Z b (.slice (some ⟨g, 0, none⟩) n cap) (swapL l' ii jj) now w3 ∧ Fr (fun i => i = g) w w3 from ⟨H2.out.1.rows hF (by rw [swapL_len, hln]; exact ho), H2.out.2.1.trans hF⟩)
        clear ho hF mS H2
        go_wp2_with fail
        go_roundg f
        case rel => exact ⟨ii, swapL l' ii jj, rfl, by omega, hil, by rw [swapL_len]; exact hln, H3.out.1, H3.out.2, HE2.out⟩
        case measure => omega
end Go.Proofs.Yteladooegjgdnaa
