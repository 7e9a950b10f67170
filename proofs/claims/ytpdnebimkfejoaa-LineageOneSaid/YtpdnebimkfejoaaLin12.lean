/- Drop. -/
import Derived.Test.YtpdnebimkfejoaaLin11
namespace Go.Proofs.Ytpdnebimkfejoaa
open Go.RowKit Go.Sort Go.Lib

section
variable {V : Type}
def outP (l : List (Nm × V)) (bad : Nm → Bool) (done : List Nm) : List (Nm × V) := l.filter (fun p => !(inB done p.1 && bad p.1))
def dropP (l : List (Nm × V)) (bad : Nm → Bool) : List (Nm × V) := l.filter (fun p => !bad p.1)
theorem outP_nil (l : List (Nm × V)) (bad : Nm → Bool) : outP l bad [] = l := by
  unfold outP; rw [List.filter_eq_self]; intro p _; rfl
theorem outP_all {l : List (Nm × V)} {bad : Nm → Bool} {done : List Nm} (h : ∀ p ∈ outP l bad done, p.1 ∈ done) : outP l bad done = dropP l bad := by
  unfold outP dropP
  apply List.filter_congr
  intro p hp
  cases hj : bad p.1
  · simp
  · cases hc : inB done p.1
    · have := h p (by unfold outP; rw [List.mem_filter]; exact ⟨hp, by rw [hc]; rfl⟩)
      rw [(inB_iff _ _).2 this] at hc; cases hc
    · rfl
theorem outP_keep {l : List (Nm × V)} {bad : Nm → Bool} {done : List Nm} {n : Nm} (h : bad n = false) : outP l bad (done ++ [n]) = outP l bad done := by
  unfold outP
  apply List.filter_congr
  intro p _
  rw [inB_snoc]
  by_cases e : n = p.1
  · subst e; simp [h]
  · simp [e]
theorem outP_drop {l : List (Nm × V)} {bad : Nm → Bool} {done : List Nm} {n : Nm} (h : bad n = true) : outP l bad (done ++ [n]) = delL (outP l bad done) n := by
  unfold outP delL
  rw [List.filter_filter]
  apply List.filter_congr
  intro p _
  rw [inB_snoc]
  by_cases e : p.1 = n
  · rw [e, h]; simp
  · have e2 : ¬ n = p.1 := fun x => e x.symm
    simp [e, e2]
theorem outP_sub {l : List (Nm × V)} {bad : Nm → Bool} {done : List Nm} {p : Nm × V} (h : p ∈ outP l bad done) : p ∈ l := (List.mem_filter.1 h).1
end

theorem map_cell {V : Type} {ev : V → Value} {w : World} {m : Nat} {l : List (Nm × V)} (h : MapL ev w m l) {a : Addr} {x : Value} (hx : w.cell? a = some x) : a.block ≠ m := by
  rintro rfl
  obtain ⟨es, c, hb, _⟩ := h
  simp [World.cell?, hb] at hx
theorem ReadsK.onMap {α : Type} {enc : α → List Value} {k m : Nat} {w w' : World} {v : Value} {l : List α} (h : ReadsK enc k w v l) (hF : Fr (fun i => i = m) w w') (hm : ∀ a x, w.cell? a = some x → a.block ≠ m) : ReadsK enc k w' v l := by
  rcases h with h | ⟨b, off, cap, hv, hb, hc⟩
  · exact .inl h
  · refine .inr ⟨b, off, cap, hv, Nat.lt_of_lt_of_le hb hF.size, fun i hi t u hu => ?_⟩
    have h1 := hc i hi t u hu
    exact (hF.cell (p := ⟨b, _, none⟩) hb (hm _ _ h1)).trans h1
def badJ (js : List Int) (n : Nm) : Bool := decide (n.1 ∈ js)
set_option maxHeartbeats 800000 in
theorem dropCl25 (n : Nm) (b rb : Nat) (v : Value) (js : List Int) (w : World) (h1 : w.cell? ⟨rb, 0, none⟩ = some v) (hv : ReadsK encU64 1 w v js) (hjl : js.length ≤ 1000000) :
    Calls Try.prog 39 #[.agg #[.int .u64 n.1, .string n.2], evP b, .pointer (some ⟨rb, 0, none⟩)] w fun e' w' => e' = .returned (.bool (badJ js n)) ∧ Below w.heap.size w w' := by
  have hA : Below w.heap.size w (w.alloc (.cells #[.int .u64 n.1, .string n.2] 29)) := (Below.refl _ _).alloc (Nat.le_refl _) _
  have k1 := cell_keep hA h1
  have HV := Lib.hid (hv.below hA)
  have HA := Lib.hid hA
  obtain ⟨va, vc, rfl⟩ := hv.slice
  clear hA h1 hv
  unfold evP
  go_enter Try.func39, Try.ntmps39
  go_wp2_with fail
  refine (containsU_any js n.1 _ _ HV.out hjl).mono ?_
  rintro e w2 ⟨rfl, rfl⟩
  go_wp2_with fail
  go_ret
  exact ⟨rfl, HA.out⟩
set_option maxHeartbeats 1600000 in
set_option maxRecDepth 100000 in
theorem deleteFunc25 (m : Nat) (l : List (Nm × Nat)) (rb : Nat) (v : Value) (js : List Int) (w : World) (h : MapL evP w m l) (h1 : w.cell? ⟨rb, 0, none⟩ = some v) (hrl : rb < w.heap.size) (hv : ReadsK encU64 1 w v js) (hjl : js.length ≤ 1000000) :
    Calls Try.prog 38 #[.map (some m), .func (.func 39) #[] #[.pointer (some ⟨rb, 0, none⟩)]] w fun e w' =>
      e = .returned (.tuple #[]) ∧ MapL evP w' m (dropP l (badJ js)) ∧ Fr (fun i => i = m) w w' := by
  obtain ⟨w1, hrun, hI, hB, hsz⟩ := range_run (P := Try.prog) h Try.underlying65
  go_enter Try.func38, Try.ntmps38
  go_wp2_with fail
  go_loopg [] l.length (fun gk wr => ∃ done : List Nm, gk + done.length = l.length ∧ Hid (done.Nodup ∧ ∀ n ∈ done, n ∈ l.map (·.1)) ∧ IterL evP wr w.heap.size m (outP l (badJ js) done) done ∧ Fr (fun i => i = m) w wr)
  case atStart => exact ⟨[], by simp, ⟨List.nodup_nil, by simp⟩, by rw [outP_nil]; exact hI, .of_below hB⟩
  case round =>
    clear hI hrun hB hsz w1
    obtain ⟨done, hlen, hD, hI, hF⟩ := hrel
    rcases hI.next (P := Try.prog) 0 with ⟨hall, hrun⟩ | ⟨p, hp, hnd, w2, hrun, hI2, hO2, hent⟩
    · have hM := Lib.hid (outP_all hall ▸ hI.map)
      clear hall hI
      go_wp2_with fail
      go_end0
      exact ⟨rfl, hM.out, hF⟩
    · have hlt := hI.lt
      have hmw : m < w.heap.size := h.lt
      have hne : rb ≠ m := fun e => by
        obtain ⟨es, c, hb, _⟩ := h
        rw [e] at h1; simp [World.cell?, hb] at h1
      have hF2 : Fr (fun i => i = m) w w2 := ⟨hO2.1.trans hF.os, hO2.2.1.trans hF.tape, hO2.2.2.1.trans hF.output, by rw [hO2.2.2.2.1]; exact hF.size, fun i hi hs => (hO2.2.2.2.2 i (by omega)).trans (hF.block i hi hs)⟩
      have he2 := hent w2 rfl rfl
      have hsz2 : w.heap.size < w2.heap.size := by rw [hO2.2.2.2.1]; exact hlt.1
      have hB3 : Below w2.heap.size w2 (w2.alloc (.cells #[.int .u64 p.1.1, .string p.1.2] 29)) := (Below.refl _ _).alloc (Nat.le_refl _) _
      have hj3 : ∀ o, (w2.alloc (.cells #[.int .u64 p.1.1, .string p.1.2] 29)).cell? ⟨rb, o, none⟩ = w.cell? ⟨rb, o, none⟩ := fun o =>
        (hB3.cell (p := ⟨rb, o, none⟩) (by simp; omega)).trans (hF2.cell (p := ⟨rb, o, none⟩) hrl hne)
      have hlen2 : done.length + 1 ≤ l.length := by
        have hx : (done ++ [p.1]).length ≤ (l.map (·.1)).length := List.Nodup.length_le_of_subset (by
          rw [List.nodup_append]; exact ⟨hD.out.1, by simp, fun a ha b hb e => by simp at hb; subst hb; subst e; exact hnd ha⟩) (by
          intro n hn; rw [List.mem_append] at hn
          rcases hn with hn | hn
          · exact hD.out.2 n hn
          · simp at hn; subst hn; exact List.mem_map.2 ⟨p, outP_sub hp, rfl⟩)
        simpa using hx
      have hD2 : Hid ((done ++ [p.1]).Nodup ∧ ∀ n ∈ done ++ [p.1], n ∈ l.map (·.1)) := by
        refine ⟨?_, ?_⟩
        · rw [List.nodup_append]; exact ⟨hD.out.1, by simp, fun a ha b hb e => by simp at hb; subst hb; subst e; exact hnd ha⟩
        · intro n hn; rw [List.mem_append] at hn
          rcases hn with hn | hn
          · exact hD.out.2 n hn
          · simp at hn; subst hn; exact List.mem_map.2 ⟨p, outP_sub hp, rfl⟩
      have HI := Lib.hid hI2
      have HV3 := Lib.hid ((hv.onMap hF2 (fun a x hx => map_cell h hx)).below hB3)
      unfold encN evP at hrun he2
      clear hI hnd hp hent hO2 hF hD hI2 hlt
      go_wp2_with fail
      refine (dropCl25 p.1 p.2 rb v js _ ((hj3 0).trans h1) HV3.out hjl).mono ?_
      rintro e w4 ⟨rfl, hB4⟩
      have hB5 := hB3.trans (hB4.mono (by simp))
      have n1 : w4.cell? ⟨w2.heap.size, 0, none⟩ = some (.int .u64 p.1.1) := (hB4.cell (p := ⟨w2.heap.size, 0, none⟩) (by simp)).trans (by simp)
      have n2 : w4.cell? ⟨w2.heap.size, 1, none⟩ = some (.string p.1.2) := (hB4.cell (p := ⟨w2.heap.size, 1, none⟩) (by simp)).trans (by simp)
      have HI4 : Hid (IterL evP w4 w.heap.size m (outP l (badJ js) done) (done ++ [p.1])) := HI.out.block (hB5.block _ HI.out.lt.2.1) (hB5.block _ HI.out.lt.1)
      have hF4 := hF2.then hB5
      clear hB3 hB4 hB5 HI hF2 hrun he2 hj3 HV3
      cases hjb : badJ js p.1
      · have hk := Lib.hid (outP_keep (l := l) (done := done) hjb)
        clear hjb
        go_wp2_with fail
        go_roundg (gk - 1)
        case measure => omega
        case rel => exact ⟨done ++ [p.1], by simp; omega, hD2, by rw [hk.out]; exact HI4.out, hF4⟩
      · have hk := Lib.hid (outP_drop (l := l) (done := done) hjb)
        clear hjb
        obtain ⟨w5, hrun5, hM5, hO5, hsub⟩ := HI4.out.map.delete nameTy Try.underlying65 p.1 0
        have HI5 := Lib.hid (HI4.out.deleted hM5 hO5 hsub)
        have hF5 := hF4.only hO5 rfl
        unfold encN at hrun5
        clear hM5 hO5 hsub HI4 hF4
        go_wp2_with fail
        go_roundg (gk - 1)
        case measure => omega
        case rel => exact ⟨done ++ [p.1], by simp; omega, hD2, by rw [hk.out]; exact HI5.out, hF5⟩
theorem mapT_filter (T : Tb) (bad : Nm → Bool) : mapT (T.filter (fun p => !bad p.1)) = dropP (mapT T) bad := by
  unfold mapT dropP
  rw [List.filter_map]; rfl
theorem Tab.filter {w w' : World} {f m : Nat} {T : Tb} {bad : Nm → Bool} (h : Tab w f m T) (hM : MapL evP w' m (dropP (mapT T) bad)) (hF : Fr (fun i => i = m) w w') : Tab w' f m (T.filter (fun p => !bad p.1)) := by
  have hk : ∀ (i : Nat) (cs : Array Value) (t : TypeId) (fr : Nat × Nat), w.heap[i]? = some (Obj.cells cs t fr) → w'.heap[i]? = w.heap[i]? := fun i cs t fr hi =>
    hF.block i (Array.getElem?_eq_some_iff.1 hi).1 (h.notMap hi)
  refine ⟨(hk _ _ _ _ h.box).trans h.box, by rw [mapT_filter]; exact hM, fun p hp => ?_, ?_⟩
  · have hr := h.row p (List.mem_filter.1 hp).1
    exact ⟨(hk _ _ _ _ hr.1).trans hr.1, Args.far hr.2 (fun i cur hi => hk i _ _ _ hi)⟩
  · exact h.nd.sublist (List.Sublist.map _ List.filter_sublist)
def dropT (T : Tb) (js : List Int) : Tb := T.filter fun p => !badJ js p.1
set_option maxHeartbeats 1600000 in
set_option maxRecDepth 100000 in
theorem drop_tab (f m : Nat) (T : Tb) (v : Value) (js : List Int) (w : World) (h : Tab w f m T) (hT : T.length ≤ 1000000) (hv : ReadsK encU64 1 w v js) (hjl : js.length ≤ 1000000) :
    Calls Try.prog 12 #[.pointer (some ⟨f, 0, none⟩), v] w fun e w' => e = .returned (.int .i64 ((T.length : Int) - (dropT T js).length)) ∧ Tab w' f m (dropT T js) ∧ Fr (fun i => i = m) w w' := by
  have hA : Below w.heap.size w (w.alloc (.cells #[v] 74)) := (Below.refl _ _).alloc (Nat.le_refl _) _
  have b0 := heap_alloc_new w (.cells #[v] 74)
  have HT := Lib.hid (h.below hA)
  have HA := Lib.hid hA
  have HB0 := Lib.hid b0
  have HV := Lib.hid (hv.below hA)
  have hdl : (dropT T js).length ≤ T.length := List.length_filter_le _ _
  obtain ⟨va, vc, rfl⟩ := hv.slice
  have hln := fun ty => HT.out.map.len (P := Try.prog) (k := 29) Try.underlying65 ty
  have hll : ((mapT T).length : Int) = T.length := by unfold mapT; simp
  rw [hll] at hln
  have c0 := HT.out.c0
  clear h hA b0 hv hll
  go_enter Try.func12, Try.ntmps12
  go_wp2_with fail
  generalize w.alloc (.cells #[.slice va js.length vc] 74) = w1 at *
  have k0 : w1.cell? ⟨w.heap.size, 0, none⟩ = some (.slice va js.length vc) := by have := HB0.out; simp [World.cell?, this]
  have hb1 := (Array.getElem?_eq_some_iff.1 HB0.out).1
  refine (deleteFunc25 m (mapT T) w.heap.size _ js w1 HT.out.map k0 hb1 HV.out hjl).mono ?_
  rintro e w2 ⟨rfl, hM, hF⟩
  have HT2 := Lib.hid (HT.out.filter hM hF)
  have HF2 := Lib.hid ((Fr.of_below HA.out).trans hF)
  have hln2 := fun ty => HT2.out.map.len (P := Try.prog) (k := 29) Try.underlying65 ty
  have hll : ((mapT (T.filter (fun p => !badJ js p.1))).length : Int) = (dropT T js).length := by unfold mapT dropT; simp
  rw [hll] at hln2
  have c2 := HT2.out.c0
  clear hM hF hln c0 k0 hb1 HB0 HV HT hll
  go_wp2_with fail
  go_ret
  exact ⟨ret_intE rfl, HT2.out, HF2.out⟩
end Go.Proofs.Ytpdnebimkfejoaa
