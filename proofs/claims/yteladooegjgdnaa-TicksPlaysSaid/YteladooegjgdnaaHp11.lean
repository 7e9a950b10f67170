/- Contract: ticks.Timers.Set. -/
import Derived.Test.YteladooegjgdnaaHp10
namespace Go.Proofs.Yteladooegjgdnaa
open Go.RowKit Go.Sort Go.Lib

/-- Timers: L is sorted, each key once. -/
def Tms (Z b : Nat) (rv : Value) (L : List Tm) (now : Int) (w : World) : Prop := ∃ l, Qu Z b rv l now w ∧ TmOk l L ∧ L.length ≤ 1024
theorem Tms.below {Z b : Nat} {rv : Value} {L : List Tm} {now : Int} {w w' : World} (h : Tms Z b rv L now w) (hB : Below w.heap.size w w') : Tms Z b rv L now w' := by
  obtain ⟨l, h1, h2, h3⟩ := h
  exact ⟨l, h1.below hB, h2, h3⟩
def hasT (k : ByteArray) (L : List Tm) : Bool := L.any fun x => decide (x.k = k)
theorem hasT_iff {k : ByteArray} {L : List Tm} : hasT k L = true ↔ k ∈ L.map (·.k) := by
  unfold hasT
  rw [List.any_eq_true, List.mem_map]
  exact ⟨fun ⟨x, hx, e⟩ => ⟨x, hx, of_decide_eq_true e⟩, fun ⟨x, hx, e⟩ => ⟨x, hx, decide_eq_true e⟩⟩
theorem hasT_not {k : ByteArray} {L : List Tm} (h : k ∉ L.map (·.k)) : hasT k L = false := by
  rw [Bool.eq_false_iff]
  exact fun e => h (hasT_iff.1 e)
def setE (L : List Tm) (now : Int) (k : ByteArray) (a : Int) : Int :=
  if 64 < k.size then 4 else if a ≤ now then 2 else if 17592186044416 < a then 2 else if hasT k L = true then 0 else if 1024 ≤ L.length then 6 else 0
def setL (L : List Tm) (now : Int) (k : ByteArray) (a : Int) : List Tm := if setE L now k a = 0 then insT ⟨k, a⟩ (offT k L) else L
theorem flat_setA : ∀ (l : List Tm) (i : Nat) (a : Int), i < l.length → (l.flatMap encT).set (i * 2 + 1) (.int .i64 a) = (l.set i ⟨(gT l i).k, a⟩).flatMap encT
  | [], _, _, h => absurd h (by simp)
  | x :: l, 0, a, _ => by simp [encT, gT]
  | x :: l, i + 1, a, h => by
    have := flat_setA l i a (by simpa using h)
    rw [List.flatMap_cons, show encT x = [.string x.k, .int .i64 x.a] from rfl, show (i + 1) * 2 + 1 = (i * 2 + 1) + 1 + 1 from by omega]
    show Value.string x.k :: Value.int .i64 x.a :: (l.flatMap encT).set (i * 2 + 1) (.int .i64 a) = _
    rw [this]
    rfl
theorem find_some {l L : List Tm} (h : TmOk l L) {key : ByteArray} {i : Nat} (hi : i < l.length) (hk : (gT l i).k = key) : key ∈ L.map (·.k) :=
  List.mem_map.2 ⟨gT l i, h.perm.subset (gT_mem hi), hk⟩
theorem find_none {l L : List Tm} (h : TmOk l L) {key : ByteArray} (hk : ∀ x ∈ l, x.k ≠ key) : key ∉ L.map (·.k) := by
  intro hm
  obtain ⟨x, hx, e⟩ := List.mem_map.1 hm
  exact hk x (h.perm.symm.subset hx) e
theorem offT_le (k : ByteArray) (L : List Tm) : (offT k L).length ≤ L.length := List.length_filter_le _ _
theorem offT_lt {k : ByteArray} {L : List Tm} (h : k ∈ L.map (·.k)) : (offT k L).length < L.length := by
  obtain ⟨x, hx, e⟩ := List.mem_map.1 h
  exact List.length_filter_lt_length_iff_exists.2 ⟨x, hx, by simp [e]⟩
def SetP (Z b : Nat) (rv : Value) (L : List Tm) (now : Int) (key : ByteArray) (a : Int) (w : World) (e : Ending) (w' : World) : Prop :=
  e = .returned (.int .i64 (setE L now key a)) ∧ ∃ rv', Tms Z b rv' (setL L now key a) now w' ∧ QL b rv w rv' w'
theorem SetP.bad {Z b : Nat} {rv : Value} {L : List Tm} {now a c : Int} {key : ByteArray} {w w' : World} (h : Tms Z b rv L now w) (hB : Below w.heap.size w w') (hc : setE L now key a = c) (h0 : c ≠ 0) : SetP Z b rv L now key a w (.returned (.int .i64 c)) w' :=
  ⟨by rw [hc], rv, by unfold setL; rw [hc, if_neg h0]; exact h.below hB, (QL.refl _ _ _).below hB⟩
theorem SetP.good {Z b : Nat} {rv rv' : Value} {l' L : List Tm} {now a : Int} {key : ByteArray} {w w' : World} (hc : setE L now key a = 0) (hq : Qu Z b rv' l' now w') (hL : QL b rv w rv' w') (ht : TmOk l' (insT ⟨key, a⟩ (offT key L))) (hn : (offT key L).length < 1024) : SetP Z b rv L now key a w (.returned (.int .i64 0)) w' :=
  ⟨by rw [hc], rv', ⟨l', hq, by unfold setL; rw [if_pos hc]; exact ht, by unfold setL; rw [if_pos hc, (insT_perm _ _).length_eq]; exact hn⟩, hL⟩
set_option maxHeartbeats 12800000 in
set_option maxRecDepth 100000 in
theorem set_any {Z b : Nat} {rv : Value} {L : List Tm} {now : Int} {w : World} (key : ByteArray) (a : Int) (h : Tms Z b rv L now w) :
    Calls Try.prog 11 #[TP b, .string key, .int .i64 a] w fun e w' => SetP Z b rv L now key a w e w' := by
  have HT := Lib.hid h
  obtain ⟨l, hq, ht, hll⟩ := h
  have H0 := Lib.hid hq
  have HO := Lib.hid ht
  obtain ⟨x0, x1, x2⟩ := hq.cell
  have hlen := ht.perm.length_eq
  obtain ⟨ra, rc, hrv⟩ := own_slice hq.own
  obtain ⟨N, hN⟩ : ∃ N, l.length = N := ⟨_, rfl⟩
  rw [hN] at hrv hlen
  have HN := Lib.hid hN
  have HLN := Lib.hid hlen
  have HRV := Lib.hid hrv
  rw [hrv] at x0
  clear hq ht hN hlen hrv
  go_enter Try.func11, Try.ntmps11
  by_cases h1 : 64 < key.size
  · have h11 : (64 : Int) < key.size := by omega
    have HE := Lib.hid (show setE L now key a = 4 by unfold setE; rw [if_pos h1])
    clear h1
    go_wp2_with fail
    all_goals
      first | go_ret | go_ret2
      exact SetP.bad HT.out (by first | exact Below.refl _ _ | exact (Below.refl _ _).drew) HE.out (by decide)
  have h11 : ¬ (64 : Int) < key.size := by omega
  by_cases h2 : a ≤ now
  · have HE := Lib.hid (show setE L now key a = 2 by unfold setE; rw [if_neg h1, if_pos h2])
    clear h1
    go_wp2_with fail
    all_goals
      first | go_ret | go_ret2
      exact SetP.bad HT.out (by first | exact Below.refl _ _ | exact (Below.refl _ _).drew) HE.out (by decide)
  by_cases h3 : 17592186044416 < a
  · have HE := Lib.hid (show setE L now key a = 2 by unfold setE; rw [if_neg h1, if_neg h2, if_pos h3])
    clear h1
    go_wp2_with fail
    all_goals
      first | go_ret | go_ret2
      exact SetP.bad HT.out (by first | exact Below.refl _ _ | exact (Below.refl _ _).drew) HE.out (by decide)
  have HE := Lib.hid (show setE L now key a = if hasT key L = true then 0 else if 1024 ≤ L.length then 6 else 0 by unfold setE; rw [if_neg h1, if_neg h2, if_neg h3])
  clear h1
  go_wp2_with fail
  refine (find_any key H0.out (by rw [HN.out, HLN.out]; omega)).mono ?_
  rintro e w2 ⟨⟨r, rfl, hF⟩, hB⟩
  have HB := Lib.hid hB
  have H2 := Lib.hid (H0.out.below hB)
  have y0 : w2.cell? ⟨b, 0, none⟩ = some (.slice ra N rc) := (hB.cell (World.block_lt_of_cell? _ _ x0)).trans x0
  have hNn : N ≤ 1024 := by have := HLN.out; omega
  clear hB x0 x1 x2 H0
  rcases hF with ⟨rfl, hno⟩ | ⟨i, hi, rfl, hik⟩
  · have HNO := Lib.hid (find_none HO.out hno)
    have HE2 := Lib.hid (show setE L now key a = if 1024 ≤ N then 6 else 0 from by rw [HE.out, hasT_not HNO.out, if_neg (by simp), HLN.out])
    clear hno HE
    by_cases hfull : 1024 ≤ N
    · have hf1 : (1024 : Int) ≤ N := by omega
      have HE3 := Lib.hid (show setE L now key a = 6 from by rw [HE2.out, if_pos hfull])
      clear hfull
      go_wp2_with fail
      refine (rlen_any _ _ _ _).mono ?_
      rintro e w3 ⟨rfl, rfl⟩
      go_wp2_with fail
      first | go_ret | go_ret2
      exact SetP.bad HT.out HB.out HE3.out (by decide)
    · have hf1 : ¬ (1024 : Int) ≤ N := by omega
      have HE3 := Lib.hid (show setE L now key a = 0 from by rw [HE2.out, if_neg hfull])
      have HNF := Lib.hid hfull
      clear hfull
      go_wp2_with fail
      refine (rlen_any _ _ _ _).mono ?_
      rintro e w3 ⟨rfl, rfl⟩
      go_wp2_with fail
      refine (hpush_any ⟨key, a⟩ H2.out (by rw [HN.out]; omega)).mono ?_
      rintro e w4 ⟨rfl, rv', h4, hL4⟩
      have H4 := Lib.hid h4
      have HL4 := Lib.hid hL4
      clear h4 hL4
      go_wp2_with fail
      first | go_ret | go_ret2
      exact SetP.good HE3.out H4.out (((QL.refl _ _ _).below HB.out).trans HL4.out) (HO.out.add (x := ⟨key, a⟩) HNO.out) (Nat.lt_of_le_of_lt (offT_le _ _) (by have := HNF.out; have := HLN.out; omega))
  · have HI := Lib.hid hi
    have HIK := Lib.hid hik
    obtain ⟨g, cap, he⟩ := H2.out.lit (by omega)
    rw [HN.out] at he hi
    have hgc : ra = some ⟨g, 0, none⟩ ∧ rc = cap := by
      have h := HRV.out.symm.trans he
      injection h with e1 _ e3
      exact ⟨e1, e3⟩
    obtain ⟨rfl, rfl⟩ := hgc
    have hrr := HRV.out
    subst hrr
    clear he hik
    have HE2 := Lib.hid (show setE L now key a = 0 from by rw [HE.out, hasT_iff.2 (find_some HO.out HI.out HIK.out), if_pos rfl])
    have HX := Lib.hid (show Qu Z b (.slice (some ⟨g, 0, none⟩) N rc) (l.set i ⟨(gT l i).k, a⟩) now (w2.setCell ⟨g, i * 2 + 1, none⟩ (.int .i64 a)) ∧ Fr (fun k => k = g) w2 (w2.setCell ⟨g, i * 2 + 1, none⟩ (.int .i64 a)) from by
      have hF : Fr (fun k => k = g) w2 (w2.setCell ⟨g, i * 2 + 1, none⟩ (.int .i64 a)) := (Fr.refl (fun k => k = g) w2).setCell (p := ⟨g, i * 2 + 1, none⟩) rfl _
      have ho := H2.out.own
      rw [HN.out] at ho
      have ho2 := own_setT (j := i * 2 + 1) (v := .int .i64 a) ho
      rw [flat_setA l i a HI.out] at ho2
      exact ⟨H2.out.rows hF (by rw [List.length_set, HN.out]; exact ho2), hF⟩)
    have hol : w2.ownsRow Z TmT 2 (.slice (some ⟨g, 0, none⟩) N rc) N (l.flatMap encT) := by have := H2.out.own; rwa [HN.out] at this
    obtain ⟨c0, c1⟩ := tm_at hol HN.out HI.out
    have f1 := tm_frozen hol (i * 2 + 1)
    have i0 : (0 : Int) ≤ i := by omega
    have i1 : (i : Int) < N := by omega
    clear hol HE
    go_wp2_with fail
    refine (hfix_any (i := i) HX.out.1 (by rw [List.length_set]; exact HI.out) (by rw [List.length_set, HN.out]; omega)).mono ?_
    rintro e w4 ⟨rfl, h4, hL4⟩
    have H4 := Lib.hid h4
    have HL4 := Lib.hid hL4
    clear h4 hL4
    go_wp2_with fail
    first | go_ret | go_ret2
    refine SetP.good HE2.out H4.out ((((QL.refl _ _ _).below HB.out).trans (QL.of HX.out.2)).trans HL4.out) ?_ (Nat.lt_of_lt_of_le (offT_lt (find_some HO.out HI.out HIK.out)) hll)
    have := HO.out.move (a := a) HI.out
    rw [HIK.out] at this ⊢
    exact this
end Go.Proofs.Yteladooegjgdnaa
