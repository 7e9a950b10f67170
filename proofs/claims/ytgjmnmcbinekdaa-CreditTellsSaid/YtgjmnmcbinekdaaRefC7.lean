/- The document's reader of bytes. -/
import Derived.Test.YtgjmnmcbinekdaaRefC6
namespace Go.Proofs.Ytgjmnmcbinekdaa
open Go.RowKit Go.Lib

/-- The document's reader in its cells. -/
def RrAt (w : World) (b : Nat) (rest : List UInt8) (e : Int) : Prop := w.heap[b]? = some (.cells #[.string ⟨rest.toArray⟩, .int .i64 e] 64 (0, 0))
theorem RrAt.c0 {w : World} {b : Nat} {rest : List UInt8} {e : Int} (h : RrAt w b rest e) : w.cell? ⟨b, 0, none⟩ = some (.string ⟨rest.toArray⟩) := by unfold RrAt at h; simp [World.cell?, h]
theorem RrAt.c1 {w : World} {b : Nat} {rest : List UInt8} {e : Int} (h : RrAt w b rest e) : w.cell? ⟨b, 1, none⟩ = some (.int .i64 e) := by unfold RrAt at h; simp [World.cell?, h]
theorem RrAt.z {w : World} {b : Nat} {rest : List UInt8} {e : Int} (h : RrAt w b rest e) (o : Nat) : w.frozen? ⟨b, o, none⟩ = false := by unfold RrAt at h; simp [World.frozen?, h]
theorem RrAt.lt {w : World} {b : Nat} {rest : List UInt8} {e : Int} (h : RrAt w b rest e) : b < w.heap.size := (Array.getElem?_eq_some_iff.1 h).1
theorem RrAt.block {w w' : World} {b : Nat} {rest : List UInt8} {e : Int} (h : RrAt w b rest e) (hB : w'.heap[b]? = w.heap[b]?) : RrAt w' b rest e := hB.trans h
theorem RrAt.below {w w' : World} {b : Nat} {rest : List UInt8} {e : Int} (h : RrAt w b rest e) (hB : Below w.heap.size w w') : RrAt w' b rest e := h.block (hB.block b h.lt)
theorem RrAt.setE {w : World} {b : Nat} {rest : List UInt8} {e : Int} (h : RrAt w b rest e) (x : Int) : RrAt (w.setCell ⟨b, 1, none⟩ (.int .i64 x)) b rest x := by
  unfold RrAt at *
  rw [Go.heap_setCell_same w b 1 _ _ _ h]; simp
theorem RrAt.setR {w : World} {b : Nat} {rest : List UInt8} {e : Int} (h : RrAt w b rest e) (l : List UInt8) : RrAt (w.setCell ⟨b, 0, none⟩ (.string ⟨l.toArray⟩)) b l e := by
  unfold RrAt at *
  rw [Go.heap_setCell_same w b 0 _ _ _ h]; simp
set_option maxHeartbeats 400000 in
theorem r3fail_any (b : Nat) (rest : List UInt8) (e x : Int) (w : World) (h : RrAt w b rest e) :
    Calls Try.prog 50 #[.pointer (some ⟨b, 0, none⟩), .int .i64 x] w fun en w' => en = .returned (.tuple #[]) ∧ RrAt w' b rest x ∧ Fr (fun i => i = b) w w' := by
  have c1 := h.c1
  have z1 := h.z 1
  have H := Lib.hid h
  clear h
  go_enter Try.func50, Try.ntmps50
  go_wp2_with fail
  go_end0
  exact ⟨rfl, H.out.setE x, (Fr.refl (fun i => i = b) w).setCell (p := ⟨b, 1, none⟩) rfl _⟩
theorem uintS_e {most : Nat} {rest : List UInt8} {e : Int} (he : e ≠ 0) : uintS most (rest, e) = (0, rest, e) := by
  unfold uintS numS; simp [he]
theorem uintS_no {most x n : Nat} {rest : List UInt8} {e1 : Int} (h : rdN rest = (x, n, e1)) (h1 : e1 ≠ 0) : uintS most (rest, 0) = (0, rest, e1) := by
  unfold uintS numS; simp [h, h1]
theorem uintS_over {most x n : Nat} {rest : List UInt8} (h : rdN rest = (x, n, 0)) (h1 : most < x) : uintS most (rest, 0) = (0, rest, 9) := by
  unfold uintS numS; simp [h, chkU, h1]
theorem uintS_yes {most x n : Nat} {rest : List UInt8} (h : rdN rest = (x, n, 0)) (h1 : ¬ most < x) : uintS most (rest, 0) = (x, rest.drop n, 0) := by
  unfold uintS numS; simp [h, chkU, h1]
theorem cntS_e {most : Nat} {rest : List UInt8} {e : Int} (he : e ≠ 0) : cntS most (rest, e) = (0, rest, e) := by
  unfold cntS numS; simp [he]
theorem cntS_no {most x n : Nat} {rest : List UInt8} {e1 : Int} (h : rdN rest = (x, n, e1)) (h1 : e1 ≠ 0) : cntS most (rest, 0) = (0, rest, e1) := by
  unfold cntS numS; simp [h, h1]
theorem cntS_over {most x n : Nat} {rest : List UInt8} (h : rdN rest = (x, n, 0)) (h1 : most < x) : cntS most (rest, 0) = (0, rest, 4) := by
  unfold cntS numS; simp [h, chkC, h1]
theorem cntS_short {most x n : Nat} {rest : List UInt8} (h : rdN rest = (x, n, 0)) (h1 : ¬ most < x) (h2 : rest.length - n < x) : cntS most (rest, 0) = (0, rest, 10) := by
  unfold cntS numS; simp [h, chkC, h1, h2]
theorem cntS_yes {most x n : Nat} {rest : List UInt8} (h : rdN rest = (x, n, 0)) (h1 : ¬ most < x) (h2 : ¬ rest.length - n < x) : cntS most (rest, 0) = (x, rest.drop n, 0) := by
  unfold cntS numS; simp [h, chkC, h1, h2]
def NumRr (b : Nat) (r : Nat × List UInt8 × Int) (w : World) (e : Ending) (w' : World) : Prop := e = .returned (.int .u64 r.1) ∧ RrAt w' b r.2.1 r.2.2 ∧ Fr (fun i => i = b) w w'
theorem ruE2 {a b : Int} (h : a = b) : Ending.returned (.int .u64 a) = Ending.returned (.int .u64 b) := by rw [h]
theorem fr_grow {S : Nat → Prop} {w w1 : World} (hB : Below w.heap.size w w1) : Fr S w w1 := Fr.of_below hB
set_option maxHeartbeats 800000 in
set_option maxRecDepth 20000 in
theorem r3RUint_any (most b : Nat) (rest : List UInt8) (e : Int) (w : World) (h : RrAt w b rest e) (hl : (rest.length : Int) ≤ 9223372036854775807) :
    Calls Try.prog 34 #[.pointer (some ⟨b, 0, none⟩), .int .u64 most] w (NumRr b (uintS most (rest, e)) w) := by
  have H := Lib.hid h
  have c0 := h.c0
  have c1 := h.c1
  clear h
  go_enter Try.func34, Try.ntmps34
  by_cases he : e = 0
  · subst he
    go_wp2_with fail
    refine (r1Read_any rest w hl).mono ?_
    rintro en w1 ⟨rfl, hB⟩
    have H1 := Lib.hid (H.out.below hB)
    have HF := Lib.hid (Fr.of_below (S := fun i => i = b) hB)
    have hnle := rdN_le rest
    obtain ⟨⟨x, n, e1⟩, hr⟩ : ∃ r, rdN rest = r := ⟨_, rfl⟩
    rw [hr] at hnle ⊢
    simp only at hnle ⊢
    have HR := Lib.hid hr
    clear hB hr c0 c1
    by_cases h1 : e1 = 0
    · subst h1
      by_cases h2 : most < x
      · have HS := Lib.hid (uintS_over HR.out h2)
        have h2' : (most : Int) < (x : Int) := by omega
        clear h2
        go_wp2_with fail
        refine (r3fail_any b rest 0 9 w1 H1.out).mono ?_
        rintro en w2 ⟨rfl, hr2, hf2⟩
        have H2 := Lib.hid hr2
        have HF2 := Lib.hid (HF.out.trans hf2)
        clear hr2 hf2
        go_wp2_with fail
        go_ret
        exact ⟨ruE2 (by rw [HS.out]; rfl), by rw [HS.out]; exact H2.out, HF2.out⟩
      · have HS := Lib.hid (uintS_yes HR.out h2)
        have h2' : ¬ (most : Int) < (x : Int) := by omega
        have c0 := H1.out.c0
        have z0 := H1.out.z 0
        have ex0 : (⟨rest.toArray⟩ : ByteArray).extract n rest.length = ⟨(rest.drop n).toArray⟩ := by rw [Lib.extract_eq, List.take_of_length_le (by simp)]
        have HX : Hid (RrAt (w1.setCell ⟨b, 0, none⟩ (.string ⟨(rest.drop n).toArray⟩)) b (rest.drop n) 0) := H1.out.setR _
        have HFX : Hid (Fr (fun i => i = b) w (w1.setCell ⟨b, 0, none⟩ (.string ⟨(rest.drop n).toArray⟩))) := HF.out.setCell (p := ⟨b, 0, none⟩) rfl _
        clear h2
        go_wp2_with fail
        go_ret
        exact ⟨ruE2 (by rw [HS.out]), by rw [HS.out]; exact HX.out, HFX.out⟩
    · have HS := Lib.hid (uintS_no (most := most) HR.out h1)
      have hb1 : (e1 == 0) = false := by simp [h1]
      have hb2 : (e1 != 0) = true := by simp [h1]
      clear h1
      go_wp2_with fail
      refine (r3fail_any b rest 0 e1 w1 H1.out).mono ?_
      rintro en w2 ⟨rfl, hr2, hf2⟩
      have H2 := Lib.hid hr2
      have HF2 := Lib.hid (HF.out.trans hf2)
      clear hr2 hf2
      go_wp2_with fail
      go_ret
      exact ⟨ruE2 (by rw [HS.out]; rfl), by rw [HS.out]; exact H2.out, HF2.out⟩
  · have hb : (e != 0) = true := by simp [he]
    have HS := Lib.hid (uintS_e (most := most) (rest := rest) he)
    clear he
    go_wp2_with fail
    go_ret
    exact ⟨ruE2 (by rw [HS.out]; rfl), by rw [HS.out]; exact H.out, Fr.refl _ _⟩
def CntRr (b : Nat) (r : Nat × List UInt8 × Int) (w : World) (e : Ending) (w' : World) : Prop := e = .returned (.int .i64 r.1) ∧ RrAt w' b r.2.1 r.2.2 ∧ Fr (fun i => i = b) w w'
set_option maxHeartbeats 800000 in
set_option maxRecDepth 20000 in
theorem r3Count_any (most b : Nat) (rest : List UInt8) (e : Int) (w : World) (h : RrAt w b rest e) (hmost : most ≤ 1000000) (hl : (rest.length : Int) ≤ 9223372036854775807) :
    Calls Try.prog 33 #[.pointer (some ⟨b, 0, none⟩), .int .i64 most] w (CntRr b (cntS most (rest, e)) w) := by
  have H := Lib.hid h
  have c0 := h.c0
  have hml : ¬ (most : Int) < 0 := by omega
  have wm : IntKind.u64.wrap (most : Int) = (most : Int) := by rw [IntKind.wrap_u64]; omega
  clear h
  go_enter Try.func33, Try.ntmps33
  go_wp2_with fail
  refine (r3RUint_any 18446744073709551615 b rest e w H.out hl).mono ?_
  rintro en w1 ⟨rfl, hr, hf⟩
  by_cases he : e = 0
  · subst he
    have hnle := rdN_le rest
    have hxlt := rdN_lt rest
    obtain ⟨⟨x, n, e1⟩, hrd⟩ : ∃ r, rdN rest = r := ⟨_, rfl⟩
    rw [hrd] at hnle hxlt
    simp only at hnle hxlt
    have HR := Lib.hid hrd
    clear c0
    by_cases h1 : e1 = 0
    · subst h1
      rw [uintS_yes hrd (by omega)] at hr ⊢
      simp only at hr ⊢
      have H1 := Lib.hid hr
      have HF := Lib.hid hf
      have c0 := hr.c0
      have c1 := hr.c1
      have z0 := hr.z 0
      have z1 := hr.z 1
      clear hr hf hrd
      by_cases h2 : most < x
      · have HS := Lib.hid (cntS_over HR.out h2)
        have h2' : (most : Int) < (x : Int) := by omega
        have HX := Lib.hid ((H1.out.setR rest).setE 4)
        have HFX := Lib.hid ((HF.out.setCell (p := ⟨b, 0, none⟩) rfl (.string ⟨rest.toArray⟩)).setCell (p := ⟨b, 1, none⟩) rfl (.int .i64 4))
        clear h2
        go_wp2_with fail
        go_ret
        exact ⟨riE (by rw [HS.out]; rfl), by rw [HS.out]; exact HX.out, HFX.out⟩
      · have h2' : ¬ (most : Int) < (x : Int) := by omega
        have wl : IntKind.u64.wrap ((rest.drop n).length : Int) = ((rest.length - n : Nat) : Int) := by rw [IntKind.wrap_u64, List.length_drop]; omega
        obtain ⟨ln, hln⟩ : ∃ ln, rest.length - n = ln := ⟨_, rfl⟩
        have hdl : (rest.drop n).length = ln := by rw [List.length_drop]; exact hln
        rw [hdl, hln] at wl
        by_cases h3 : rest.length - n < x
        · have HS := Lib.hid (cntS_short HR.out h2 h3)
          have h3' : (ln : Int) < (x : Int) := by omega
          have HX := Lib.hid ((H1.out.setR rest).setE 10)
          have HFX := Lib.hid ((HF.out.setCell (p := ⟨b, 0, none⟩) rfl (.string ⟨rest.toArray⟩)).setCell (p := ⟨b, 1, none⟩) rfl (.int .i64 10))
          rw [hln] at h3
          clear h2 hln
          go_wp2_with fail
          go_ret
          exact ⟨riE (by rw [HS.out]; rfl), by rw [HS.out]; exact HX.out, HFX.out⟩
        · have HS := Lib.hid (cntS_yes HR.out h2 h3)
          have h3' : ¬ (ln : Int) < (x : Int) := by omega
          have wx : IntKind.i64.wrap (x : Int) = (x : Int) := by rw [IntKind.wrap_i64]; omega
          rw [hln] at h3
          clear h2 hln
          go_wp2_with fail
          go_ret
          exact ⟨riE (by rw [HS.out]), by rw [HS.out]; exact H1.out, HF.out⟩
    · rw [uintS_no hrd h1] at hr ⊢
      simp only at hr ⊢
      have HS := Lib.hid (cntS_no (most := most) HR.out h1)
      have hb2 : (e1 != 0) = true := by simp [h1]
      have c1 := hr.c1
      have H1 := Lib.hid hr
      have HF := Lib.hid hf
      clear h1 hr hf hrd
      go_wp2_with fail
      go_ret
      exact ⟨riE (by rw [HS.out]; rfl), by rw [HS.out]; exact H1.out, HF.out⟩
  · rw [uintS_e he] at hr ⊢
    simp only at hr ⊢
    have HS := Lib.hid (cntS_e (most := most) (rest := rest) he)
    have hb : (e != 0) = true := by simp [he]
    have c1 := hr.c1
    have H1 := Lib.hid hr
    have HF := Lib.hid hf
    clear he hr hf
    go_wp2_with fail
    go_ret
    exact ⟨riE (by rw [HS.out]; rfl), by rw [HS.out]; exact H1.out, HF.out⟩
set_option maxHeartbeats 400000 in
theorem r3End_any (b : Nat) (rest : List UInt8) (e : Int) (w : World) (h : RrAt w b rest e) :
    Calls Try.prog 35 #[.pointer (some ⟨b, 0, none⟩)] w fun en w' => en = .returned (.int .i64 (endE (rest, e))) ∧ Fr (fun i => i = b) w w' := by
  have c0 := h.c0
  have c1 := h.c1
  have z1 := h.z 1
  have H := Lib.hid h
  clear h
  go_enter Try.func35, Try.ntmps35
  by_cases he : e = 0
  · have hb : (e == 0) = true := by simp [he]
    by_cases hr : rest = []
    · have HS : Hid (endE (rest, e) = e) := by show _ = _; unfold endE; rw [if_neg (by simp [hr])]
      have hs : rest.isEmpty = true := by rw [hr]; rfl
      clear he hr
      go_wp2_with fail
      go_ret
      exact ⟨riE HS.out.symm, Fr.refl _ _⟩
    · have HS : Hid (endE (rest, e) = 8) := by show _ = _; unfold endE; rw [if_pos ⟨he, hr⟩]
      have hs : rest.isEmpty = false := by simpa using hr
      clear he hr
      go_wp2_with fail
      go_ret
      exact ⟨riE HS.out.symm, (Fr.refl (fun i => i = b) w).setCell (p := ⟨b, 1, none⟩) rfl _⟩
  · have hb : (e == 0) = false := by simp [he]
    have HS : Hid (endE (rest, e) = e) := by show _ = _; unfold endE; rw [if_neg (by simp [he])]
    clear he
    go_wp2_with fail
    go_ret
    exact ⟨riE HS.out.symm, Fr.refl _ _⟩
end Go.Proofs.Ytgjmnmcbinekdaa
