/- Contract: a reader's number that a check allows. -/
import Derived.Test.YtgjmnmcbinekdaaByt5
namespace Go.Proofs.Ytgjmnmcbinekdaa
open Go.RowKit Go.Lib

theorem rdGo_le : ∀ (l : List UInt8) (n x last : Nat), (rdGo l n x last).1 ≤ n + l.length
  | [], n, x, last => by simp [rdGo]
  | b :: t, n, x, last => by
    unfold rdGo
    split
    · split
      · simp only [List.length_cons]; omega
      · have := rdGo_le t (n + 1) (x ||| (b.toNat % 128 * 2 ^ (7 * n) % 18446744073709551616)) b.toNat
        simp only [List.length_cons]; omega
    · simp
theorem rdGo_lt : ∀ (l : List UInt8) (n x last : Nat), x < 18446744073709551616 → (rdGo l n x last).2.1 < 18446744073709551616
  | [], n, x, last, h => h
  | b :: t, n, x, last, h => by
    unfold rdGo
    have h2 := rd_or_lt x b.toNat n h
    split
    · split
      · exact h2
      · exact rdGo_lt t (n + 1) _ b.toNat h2
    · exact h
theorem rdN_le (l : List UInt8) : (rdN l).2.1 ≤ l.length := by
  have h := rdGo_le l 0 0 128
  unfold rdN rdEnd
  split
  · simp
  · split
    · simp
    · simpa using h
theorem rdN_lt (l : List UInt8) : (rdN l).1 < 18446744073709551616 := by
  have h := rdGo_lt l 0 0 128 (by omega)
  unfold rdN rdEnd
  split
  · simp
  · split
    · simp
    · exact h
theorem numS_no {chk : Nat → Nat → Nat × Int} {rest : List UInt8} {e : Int} {x n : Nat} {e1 : Int} (h : rdN rest = (x, n, e1)) (h1 : e1 ≠ 0) : numS chk (rest, e) = (if (takeS n e1 (rest, e)).1 then x else 0, (takeS n e1 (rest, e)).2) := by
  unfold numS takeS
  rw [h]
  simp only [h1, if_false]
  by_cases he : e = 0 <;> simp [he, h1]
theorem numS_yes {chk : Nat → Nat → Nat × Int} {rest : List UInt8} {e : Int} {x n : Nat} (h : rdN rest = (x, n, 0)) : numS chk (rest, e) = (if (takeS (chk x n).1 (chk x n).2 (rest, e)).1 then x else 0, (takeS (chk x n).1 (chk x n).2 (rest, e)).2) := by
  unfold numS takeS
  rw [h]
  simp only [if_true]
  by_cases he : e = 0
  · by_cases h2 : (chk x n).2 = 0 <;> simp [he, h2]
  · simp [he]
theorem chkU_1 (most x n : Nat) : (chkU most x n).1 = n := by unfold chkU; split <;> rfl
theorem chkC_1 (most x n : Nat) (rest : List UInt8) : (chkC most rest x n).1 = n := by unfold chkC; split <;> (try split) <;> rfl
theorem ruE {a b : Int} (h : a = b) : Ending.returned (.int .u64 a) = Ending.returned (.int .u64 b) := by rw [h]
def NumR (b : Nat) (r : Nat × List UInt8 × Int) (w : World) (e : Ending) (w' : World) : Prop := e = .returned (.int .u64 r.1) ∧ RdAt w' b r.2.1 r.2.2 ∧ Fr (fun i => i = b) w w'
set_option maxHeartbeats 1600000 in
set_option maxRecDepth 100000 in
theorem numU_any (m most b : Nat) (rest : List UInt8) (e : Int) (w : World) (h : RdAt w b rest e) (hm : w.cell? ⟨m, 0, none⟩ = some (.int .u64 most)) (hl : (rest.length : Int) ≤ 9223372036854775807) :
    Calls Try.prog 46 #[.pointer (some ⟨b, 0, none⟩), .func (Fn.func 47) #[] #[.pointer (some ⟨m, 0, none⟩)]] w (NumR b (numS (chkU most) (rest, e)) w) := by
  have c0 := h.c0
  have H := Lib.hid h
  clear h
  go_enter Try.func46, Try.ntmps46
  go_wp2_with fail
  refine (rdNone_any b rest e w H.out).mono ?_
  rintro e1 w1 ⟨rfl, hw⟩
  have hw := hw.symm
  subst hw
  go_wp2_with fail
  refine (numRead_any rest w hl).mono ?_
  rintro e1 w1 ⟨rfl, hw⟩
  have hw := hw.symm
  subst hw
  have hle := rdN_le rest
  have hlt := rdN_lt rest
  obtain ⟨⟨x, n, ex⟩, hrd⟩ : ∃ r, rdN rest = r := ⟨_, rfl⟩
  have HRD := Lib.hid hrd
  rw [hrd] at hle hlt ⊢
  clear hrd c0
  simp only at hle hlt ⊢
  have HLE := Lib.hid hle
  by_cases hz : ex = 0
  · have hb : (ex == 0) = true := by simp [hz]
    have HN : Hid (numS (chkU most) (rest, e) = (if (takeS ((chkU most) x n).1 ((chkU most) x n).2 (rest, e)).1 then x else 0, (takeS ((chkU most) x n).1 ((chkU most) x n).2 (rest, e)).2)) := numS_yes (by rw [HRD.out, hz])
    have HC1 : Hid (((chkU most) x n).1 = n) := chkU_1 _ _ _
    clear hz
    go_wp2_with fail
    refine (rdU1_any m x n most w hm).mono ?_
    rintro e1 w2 ⟨rfl, hB⟩
    have H2 := Lib.hid (H.out.below hB)
    have HB := Lib.hid hB
    clear hB
    obtain ⟨⟨n2, e2⟩, hch⟩ : ∃ r, chkU most x n = r := ⟨_, rfl⟩
    have HN2 : Hid (numS (chkU most) (rest, e) = (if (takeS n2 e2 (rest, e)).1 then x else 0, (takeS n2 e2 (rest, e)).2)) := by show _ = _; rw [HN.out, hch]
    have HC2 : Hid (n2 = n) := by show _ = _; rw [← HC1.out, hch]
    rw [hch]
    clear hch HN HC1
    simp only
    go_wp2_with fail
    refine (rdTake_any b n2 rest e e2 w2 H2.out (fun _ => by rw [HC2.out]; exact HLE.out) hl).mono ?_
    rintro e1 w3 ⟨rfl, hr3, hf3⟩
    have HR3 := Lib.hid hr3
    have HF3 := Lib.hid ((Fr.of_below (S := fun i => i = b) HB.out).trans hf3)
    clear hr3 hf3
    obtain ⟨⟨t, s2⟩, ht⟩ : ∃ r, takeS n2 e2 (rest, e) = r := ⟨_, rfl⟩
    have HN3 : Hid (numS (chkU most) (rest, e) = (if t then x else 0, s2)) := by show _ = _; rw [HN2.out, ht]
    rw [ht] at HR3 ⊢
    clear ht
    simp only
    cases t
    · go_wp2_with fail
      go_ret
      exact ⟨ruE (by rw [HN3.out]; rfl), by rw [HN3.out]; exact HR3.out, HF3.out⟩
    · go_wp2_with fail
      go_ret
      exact ⟨ruE (by rw [HN3.out]; rfl), by rw [HN3.out]; exact HR3.out, HF3.out⟩
  · have hb : (ex == 0) = false := by simp [hz]
    have HN2 : Hid (numS (chkU most) (rest, e) = (if (takeS n ex (rest, e)).1 then x else 0, (takeS n ex (rest, e)).2)) := numS_no HRD.out hz
    clear hz
    go_wp2_with fail
    refine (rdTake_any b n rest e ex w H.out (fun _ => HLE.out) hl).mono ?_
    rintro e1 w3 ⟨rfl, hr3, hf3⟩
    have HR3 := Lib.hid hr3
    have HF3 := Lib.hid hf3
    clear hr3 hf3
    obtain ⟨⟨t, s2⟩, ht⟩ : ∃ r, takeS n ex (rest, e) = r := ⟨_, rfl⟩
    have HN3 : Hid (numS (chkU most) (rest, e) = (if t then x else 0, s2)) := by show _ = _; rw [HN2.out, ht]
    rw [ht] at HR3 ⊢
    clear ht
    simp only
    cases t
    · go_wp2_with fail
      go_ret
      exact ⟨ruE (by rw [HN3.out]; rfl), by rw [HN3.out]; exact HR3.out, HF3.out⟩
    · go_wp2_with fail
      go_ret
      exact ⟨ruE (by rw [HN3.out]; rfl), by rw [HN3.out]; exact HR3.out, HF3.out⟩
set_option maxHeartbeats 1600000 in
set_option maxRecDepth 100000 in
theorem numC_any (m p most b : Nat) (rest : List UInt8) (e : Int) (w : World) (h : RdAt w b rest e) (hm : w.cell? ⟨m, 0, none⟩ = some (.int .i64 most)) (hp : w.cell? ⟨p, 0, none⟩ = some (.pointer (some ⟨b, 0, none⟩))) (hmost : most ≤ 1000000) (hl : (rest.length : Int) ≤ 9223372036854775807) :
    Calls Try.prog 46 #[.pointer (some ⟨b, 0, none⟩), .func (Fn.func 56) #[] #[.pointer (some ⟨m, 0, none⟩), .pointer (some ⟨p, 0, none⟩)]] w (NumR b (numS (chkC most rest) (rest, e)) w) := by
  have c0 := h.c0
  have H := Lib.hid h
  clear h
  go_enter Try.func46, Try.ntmps46
  go_wp2_with fail
  refine (rdNone_any b rest e w H.out).mono ?_
  rintro e1 w1 ⟨rfl, hw⟩
  have hw := hw.symm
  subst hw
  go_wp2_with fail
  refine (numRead_any rest w hl).mono ?_
  rintro e1 w1 ⟨rfl, hw⟩
  have hw := hw.symm
  subst hw
  have hle := rdN_le rest
  have hlt := rdN_lt rest
  obtain ⟨⟨x, n, ex⟩, hrd⟩ : ∃ r, rdN rest = r := ⟨_, rfl⟩
  have HRD := Lib.hid hrd
  rw [hrd] at hle hlt ⊢
  clear hrd c0
  simp only at hle hlt ⊢
  have HLE := Lib.hid hle
  by_cases hz : ex = 0
  · have hb : (ex == 0) = true := by simp [hz]
    have HN : Hid (numS (chkC most rest) (rest, e) = (if (takeS ((chkC most rest) x n).1 ((chkC most rest) x n).2 (rest, e)).1 then x else 0, (takeS ((chkC most rest) x n).1 ((chkC most rest) x n).2 (rest, e)).2)) := numS_yes (by rw [HRD.out, hz])
    have HC1 : Hid (((chkC most rest) x n).1 = n) := chkC_1 _ _ _ _
    clear hz
    go_wp2_with fail
    refine (rdC1_any m p b x n most rest e w hm hp H.out hmost HLE.out hl (by omega)).mono ?_
    rintro e1 w2 ⟨rfl, hB⟩
    have H2 := Lib.hid (H.out.below hB)
    have HB := Lib.hid hB
    clear hB
    obtain ⟨⟨n2, e2⟩, hch⟩ : ∃ r, chkC most rest x n = r := ⟨_, rfl⟩
    have HN2 : Hid (numS (chkC most rest) (rest, e) = (if (takeS n2 e2 (rest, e)).1 then x else 0, (takeS n2 e2 (rest, e)).2)) := by show _ = _; rw [HN.out, hch]
    have HC2 : Hid (n2 = n) := by show _ = _; rw [← HC1.out, hch]
    rw [hch]
    clear hch HN HC1
    simp only
    go_wp2_with fail
    refine (rdTake_any b n2 rest e e2 w2 H2.out (fun _ => by rw [HC2.out]; exact HLE.out) hl).mono ?_
    rintro e1 w3 ⟨rfl, hr3, hf3⟩
    have HR3 := Lib.hid hr3
    have HF3 := Lib.hid ((Fr.of_below (S := fun i => i = b) HB.out).trans hf3)
    clear hr3 hf3
    obtain ⟨⟨t, s2⟩, ht⟩ : ∃ r, takeS n2 e2 (rest, e) = r := ⟨_, rfl⟩
    have HN3 : Hid (numS (chkC most rest) (rest, e) = (if t then x else 0, s2)) := by show _ = _; rw [HN2.out, ht]
    rw [ht] at HR3 ⊢
    clear ht
    simp only
    cases t
    · go_wp2_with fail
      go_ret
      exact ⟨ruE (by rw [HN3.out]; rfl), by rw [HN3.out]; exact HR3.out, HF3.out⟩
    · go_wp2_with fail
      go_ret
      exact ⟨ruE (by rw [HN3.out]; rfl), by rw [HN3.out]; exact HR3.out, HF3.out⟩
  · have hb : (ex == 0) = false := by simp [hz]
    have HN2 : Hid (numS (chkC most rest) (rest, e) = (if (takeS n ex (rest, e)).1 then x else 0, (takeS n ex (rest, e)).2)) := numS_no HRD.out hz
    clear hz
    go_wp2_with fail
    refine (rdTake_any b n rest e ex w H.out (fun _ => HLE.out) hl).mono ?_
    rintro e1 w3 ⟨rfl, hr3, hf3⟩
    have HR3 := Lib.hid hr3
    have HF3 := Lib.hid hf3
    clear hr3 hf3
    obtain ⟨⟨t, s2⟩, ht⟩ : ∃ r, takeS n ex (rest, e) = r := ⟨_, rfl⟩
    have HN3 : Hid (numS (chkC most rest) (rest, e) = (if t then x else 0, s2)) := by show _ = _; rw [HN2.out, ht]
    rw [ht] at HR3 ⊢
    clear ht
    simp only
    cases t
    · go_wp2_with fail
      go_ret
      exact ⟨ruE (by rw [HN3.out]; rfl), by rw [HN3.out]; exact HR3.out, HF3.out⟩
    · go_wp2_with fail
      go_ret
      exact ⟨ruE (by rw [HN3.out]; rfl), by rw [HN3.out]; exact HR3.out, HF3.out⟩
end Go.Proofs.Ytgjmnmcbinekdaa
