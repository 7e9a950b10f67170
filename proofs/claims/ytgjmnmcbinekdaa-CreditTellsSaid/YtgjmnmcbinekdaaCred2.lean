/- Credits: one; none; half; held against each other. -/
import Derived.Test.YtgjmnmcbinekdaaCred1
namespace Go.Proofs.Ytgjmnmcbinekdaa
open Go.RowKit Go.Sort Go.Lib

set_option maxHeartbeats 1600000 in
set_option maxRecDepth 100000 in
theorem equalC_any (l m : List Int) (v u : Value) (w : World) (hv : ReadsK encC 1 w v l) (hu : ReadsK encC 1 w u m) (hl : l.length ≤ 1000000) :
    Calls Try.prog 36 #[v, u] w fun e w' => e = .returned (.bool (decide (l = m))) ∧ Below w.heap.size w w' := by
  obtain ⟨a, c, rfl⟩ := hv.slice
  obtain ⟨b, d, rfl⟩ := hu.slice
  have HV := Lib.hid hv
  have HU := Lib.hid hu
  clear hv hu
  have NO := Lib.hid (fun h : ¬ l = m => ret_boolE (decide_eq_false h).symm)
  by_cases h4 : l.length = m.length
  case neg =>
    have H4 := Lib.hid h4
    have t4 : ((l.length : Int) != (m.length : Int)) = true := by simp; omega
    clear h4
    go_enter Try.func36, Try.ntmps36
    go_wp2_with fail
    go_ret
    exact ⟨NO.out (fun h => H4.out (by rw [h])), Below.refl _ _⟩
  have H4 := Lib.hid h4
  have t4 : ((l.length : Int) != (m.length : Int)) = false := by simp [h4]
  clear h4
  go_enter Try.func36, Try.ntmps36
  go_wp2_with fail
  go_loopg [13] l.length (fun gk i wr => ∃ k : Nat, gk + k = l.length ∧ i = .int .i64 k ∧ Below w.heap.size w wr ∧ ∀ j (hj : j < l.length) (hj' : j < m.length), j < k → l[j] = m[j])
  case atStart => exact ⟨0, by omega, rfl, Below.refl _ _, fun j hj _ h0 => by omega⟩
  case round =>
    obtain ⟨k, hk, rfl, hBw, hall⟩ := hrel
    have HB := Lib.hid hBw
    have HALL := Lib.hid hall
    clear hall t4
    by_cases hlt : k < l.length
    · obtain ⟨r1, o1, cc1, he1, hb1, hc1⟩ := (HV.out.below hBw).at (by omega)
      obtain ⟨r2, o2, cc2, he2, hb2, hc2⟩ := (HU.out.below hBw).at (by have := H4.out; omega)
      injection he1 with he1 he1b he1c
      injection he2 with he2 he2b he2c
      subst he1
      subst he2
      clear he1b he1c he2b he2c
      have hltm : k < m.length := by have := H4.out; omega
      have k1 : wr.cell? ⟨r1, o1 + k, none⟩ = some (.int .i64 l[k]) := by have h := hc1 k hlt 0 _ rfl; rw [Nat.mul_one, Nat.add_zero] at h; exact h
      have k2 : wr.cell? ⟨r2, o2 + k, none⟩ = some (.int .i64 m[k]) := by have h := hc2 k hltm 0 _ rfl; rw [Nat.mul_one, Nat.add_zero] at h; exact h
      clear hc1 hc2 hBw
      go_wp2_with fail
      go_quiet (fail)
      have hBq := below_drewN HB.out nq
      generalize wr.drewN nq = wq at *
      have HBq := Lib.hid hBq
      clear k1 k2 hBq
      by_cases he : l[k] = m[k]
      · have HE := Lib.hid he
        have t5 : (l[k] != m[k]) = false := by simp [he]
        clear he
        go_wp2_with fail
        go_roundg (gk - 1)
        case rel => exact ⟨k + 1, by omega, by go_num, HBq.out, fun j hj hj' h0 => by
          by_cases e : j = k
          · subst e; exact HE.out
          · exact HALL.out j hj hj' (by omega)⟩
        case measure => omega
      · have HE := Lib.hid he
        have t5 : (l[k] != m[k]) = true := by simp [he]
        clear he
        go_wp2_with fail
        go_ret
        exact ⟨NO.out (fun h => HE.out (by subst h; rfl)), HBq.out⟩
    · have HF : Hid (l = m) := List.ext_getElem H4.out (fun j h1 h2 => HALL.out j h1 h2 (by omega))
      go_wp2_with fail
      go_ret
      exact ⟨ret_boolE (decide_eq_true HF.out).symm, HB.out⟩
set_option maxHeartbeats 1600000 in
set_option maxRecDepth 100000 in
theorem one_any (w : World) : Calls Try.prog 26 #[] w fun e w' => ∃ b c, e = .returned (.slice (some ⟨b, 0, none⟩) 1 c) ∧ w'.ownsRow w.heap.size 3 1 (.slice (some ⟨b, 0, none⟩) 1 c) 1 ([(0 : Int)].flatMap encC) ∧ Below w.heap.size w w' := by
  go_enter Try.func26, Try.ntmps26
  go_wp2_with fail
  go_ret
  exact ⟨_, _, rfl, ⟨rfl, .inr ⟨_, _, _, rfl, Nat.le_refl _, heap_alloc_new w _, Nat.le_refl _, by decide, rfl, rfl⟩⟩, (Below.refl _ _).alloc (Nat.le_refl _) _⟩
set_option maxHeartbeats 800000 in
theorem iszero_any (l : List Int) (v : Value) (w : World) (h : ReadsK encC 1 w v l) :
    Calls Try.prog 17 #[v] w fun e w' => e = .returned (.bool (decide (l = []))) ∧ w' = w := by
  obtain ⟨a, c, rfl⟩ := h.slice
  clear h
  have e0 : ((l.length : Int) == 0) = decide (l = []) := by
    rw [Bool.eq_iff_iff]
    simp only [beq_iff_eq, decide_eq_true_eq]
    rw [← List.length_eq_zero_iff]; omega
  have E0 := Lib.hid e0
  clear e0
  go_enter Try.func17, Try.ntmps17
  go_wp2_with fail
  go_ret
  exact ⟨ret_boolE E0.out, rfl⟩
theorem creads {w : World} {B : Nat} {v : Value} {l : List Int} (h : w.ownsRow B 3 1 v l.length (l.flatMap encC)) : ReadsK encC 1 w v l := own_readsK (enc := encC) (k := 1) (fun _ => rfl) (by decide) h
set_option maxHeartbeats 800000 in
theorem isone_any (l : List Int) (v : Value) (w : World) (h : ReadsK encC 1 w v l) (hl : l.length ≤ 1000000) :
    Calls Try.prog 15 #[v] w fun e w' => e = .returned (.bool (decide (l = [0]))) ∧ Below w.heap.size w w' := by
  have HR := Lib.hid h
  clear h
  go_enter Try.func15, Try.ntmps15
  go_wp2_with fail
  refine (one_any _).mono ?_
  rintro e w1 ⟨b, c, rfl, ho, hB⟩
  have H1 := Lib.hid (creads (l := [0]) ho)
  replace HR := Lib.hid (HR.out.below hB)
  have HB := Lib.hid hB
  clear ho hB
  go_wp2_with fail
  refine (equalC_any l [0] _ _ w1 HR.out H1.out hl).mono ?_
  rintro e w2 ⟨rfl, hB⟩
  replace HB := Lib.hid (cthen HB.out (Nat.le_refl _) hB)
  clear hB
  go_wp2_with fail
  go_ret
  exact ⟨rfl, HB.out⟩
theorem info_int : (Try.prog.info? 3).map (fun i => (i.zero, i.size, i.bytes)) = some (some (.int .i64 0), 1, 8) := by kernel_rfl
/-- 'append' of one number to a slice that is full. -/
theorem app_full (w : World) (ty : TypeId) (ad : Option Addr) (l : List Int) (hn : ad = none → l = []) (hc : ∀ a, ad = some a → ∀ j u, (l.map (Value.int .i64))[j]? = some u → w.cell? (a.add j) = some u) (xa : Addr) (x : Int) (xc : Nat) (hx : w.cell? xa = some (.int .i64 x)) (hl : l.length ≤ 1000000) :
    ∃ v' w', (Builtin.append_ #[23, 23] ty #[.slice ad l.length l.length, .slice (some xa) 1 xc]).run Try.prog w = .ok v' w' ∧ w'.ownsRow w.heap.size 3 1 v' (l ++ [x]).length ((l ++ [x]).flatMap encC) ∧ Below w.heap.size w w' := by
  obtain ⟨i0, hi0, hz0, hzs, hzb⟩ := info_parts info_int
  have hsrc : Src Try.prog i0.size 23 (.slice (some xa) 1 xc) 1 [.int .i64 x] w := by
    rw [hzs]
    exact Src.ofSlice w Try.underlying23 xa 1 xc [.int .i64 x] rfl (fun j u hj => by
      cases j with
      | zero => simp at hj; subst hj; exact hx
      | succ j => simp at hj) (by simp [Value.oneCell'])
  have hold : (Builtin.firstCells i0.size l.length (.slice ad l.length l.length)).run Try.prog w.drew = .ok (l.map (Value.int .i64)).toArray w.drew := by
    rw [hzs]
    cases ad with
    | none =>
      have h0 := hn rfl
      subst h0
      exact run_firstCells_none w.drew 1 0 0 0
    | some a => exact run_firstCells_some w.drew 1 l.length a l.length l.length (l.map (Value.int .i64)) (by simp) (fun j v hj => hc a rfl j v hj)
  have hrun := run_append_grow_src (P := Try.prog) w 23 23 ty 3 i0 _ Try.underlying23 hi0 hz0 ad l.length l.length (l.map (Value.int .i64)) hold _ 1 _ hsrc (by omega) (by omega) (by rw [hzb]; exact growslice_fits (by omega) (by omega))
  have hg1 := grownCap_ge w (l.length + 1) l.length 3
  have hg2 := grownCap_le_maxLen w (l.length + 1) l.length 3 (by unfold maxLen; omega)
  refine ⟨_, _, hrun, ?_, (Below.refl _ _).drew.alloc (by show _ ≤ _; simp) _⟩
  have hfm : (l ++ [x]).flatMap encC = (l ++ [x]).map (Value.int .i64) := by rw [List.map_eq_flatMap]; rfl
  refine ⟨by rw [hfm]; simp, .inr ⟨w.heap.size, _, _, ?_, Nat.le_refl _, heap_alloc_new w.drew _, ?_, hg2, ?_, ?_⟩⟩
  · rw [List.length_append]; rfl
  · rw [List.length_append]; exact hg1
  · simp [Builtin.zeroCells, Value.cells]; omega
  · rw [hfm]; simp [List.take_append, List.take_of_length_le]
def HalfR (l : List Int) (w : World) (e : Ending) (w' : World) : Prop :=
  (∃ c : Int, c ≠ 0 ∧ (c = if mayC l then (if l = [] then 5 else 6) else 8) ∧ (mayC l = true → l ≠ [] → 4096 < l.getD (l.length - 1) 0 + 1) ∧ e = .returned (.tuple #[.slice none 0 0, .slice none 0 0, .int .i64 c]) ∧ Below w.heap.size w w') ∨
  (mayC l = true ∧ l ≠ [] ∧ ¬ 4096 < l.getD (l.length - 1) 0 + 1 ∧ ∃ v u, e = .returned (.tuple #[v, u, .int .i64 0]) ∧
    w'.ownsRow w.heap.size 3 1 v (l.take (l.length - 1) ++ [l.getD (l.length - 1) 0 + 1]).length ((l.take (l.length - 1) ++ [l.getD (l.length - 1) 0 + 1]).flatMap encC) ∧
    w'.ownsRow w.heap.size 3 1 u 1 ([l.getD (l.length - 1) 0 + 1].flatMap encC) ∧ v.ownBlock ≠ u.ownBlock ∧ Below w.heap.size w w')
theorem below_allocC (w : World) (o : Obj) : Below w.heap.size w (w.alloc o) := (Below.refl _ _).alloc (Nat.le_refl _) o
theorem owns_low {w : World} {B B' : Nat} {E : TypeId} {k : Nat} {v : Value} {n : Nat} {xs : List Value} (h : w.ownsRow B E k v n xs) (hb : B' ≤ B) : w.ownsRow B' E k v n xs := by
  obtain ⟨h0, h | ⟨g, cap, cur, hv, h1, h2⟩⟩ := h
  · exact ⟨h0, .inl h⟩
  · exact ⟨h0, .inr ⟨g, cap, cur, hv, Nat.le_trans hb h1, h2⟩⟩
theorem cowns {w w' : World} {B : Nat} {E : TypeId} {k : Nat} {v : Value} {n : Nat} {xs : List Value} (h : w.ownsRow B E k v n xs) (hB : Below w.heap.size w w') : w'.ownsRow B E k v n xs := by
  obtain ⟨h0, h | ⟨g, cap, cur, hv, h1, h2, h3⟩⟩ := h
  · exact ⟨h0, .inl h⟩
  · exact ⟨h0, .inr ⟨g, cap, cur, hv, h1, (hB.block g (Array.getElem?_eq_some_iff.1 h2).1).trans h2, h3⟩⟩
theorem owns_lt {w : World} {B : Nat} {E : TypeId} {k : Nat} {v : Value} {n : Nat} {xs : List Value} (h : w.ownsRow B E k v n xs) (i : Nat) (hi : v.ownBlock = some i) : B ≤ i ∧ i < w.heap.size := by
  obtain ⟨h0, ⟨rfl, _⟩ | ⟨g, cap, cur, rfl, h1, h2, h3⟩⟩ := h
  · cases hi
  · injection hi with hi
    change g = i at hi
    subst hi
    exact ⟨h1, (Array.getElem?_eq_some_iff.1 h2).1⟩
theorem owns_cap {w : World} {B : Nat} {E : TypeId} {k : Nat} {v : Value} {n : Nat} {xs : List Value} (h : w.ownsRow B E k v n xs) : ∀ a m c, v = .slice a m c → m ≤ c := by
  intro a m c hv
  obtain ⟨h0, ⟨rfl, _⟩ | ⟨g, cap, cur, rfl, h1, h2, h3, _⟩⟩ := h
  · injection hv with _ h1 h2; omega
  · injection hv with _ h1 h2; omega
theorem half_end {wz : World} {tmps : Array Value} {a b c : Value} {R : Ending → World → Prop}
    (h2 : tmps.getD 2 undef = a) (h3 : tmps.getD 3 undef = b) (h4 : tmps.getD 4 undef = c) (hR : R (.returned (.tuple #[a, b, c])) wz) :
    bodyPost Try.prog Try.f24 R Exit.ret { tmps := tmps, defers := [] } wz := by
  refine bodyPost_ret (v := .tuple #[a, b, c]) ?_ rfl hR
  have h2' : tmps[2]?.getD undef = a := by simpa using h2
  have h3' : tmps[3]?.getD undef = b := by simpa using h3
  have h4' : tmps[4]?.getD undef = c := by simpa using h4
  simp [results, Try.results24, go_sem, h2', h3', h4']
set_option maxHeartbeats 1600000 in
set_option maxRecDepth 100000 in
theorem half_any (l : List Int) (v : Value) (w : World) (h : ReadsK encC 1 w v l) (hcap : ∀ a n c, v = .slice a n c → n ≤ c) (hl : l.length ≤ 1000000) :
    Calls Try.prog 24 #[v] w (HalfR l w) := by
  have HR := Lib.hid h
  have hsl := h.slice
  clear h
  go_enter Try.func24, Try.ntmps24
  go_wp2_with fail
  refine (cmay_any l v w HR.out hl).mono ?_
  rintro e w1 ⟨rfl, rfl⟩
  cases hm : mayC l
  · go_wp2_with fail
    exact half_end (a := .slice none 0 0) (b := .slice none 0 0) (c := .int .i64 8) rfl rfl rfl (.inl ⟨8, by decide, by simp [hm], fun h => absurd (hm.symm.trans h) (by decide), rfl, Below.refl _ _⟩)
  · go_wp2_with fail
    refine (iszero_any l v w1 HR.out).mono ?_
    rintro e w2 ⟨rfl, rfl⟩
    by_cases h0 : l = []
    · rw [decide_eq_true h0]
      go_wp2_with fail
      exact half_end (a := .slice none 0 0) (b := .slice none 0 0) (c := .int .i64 5) rfl rfl rfl (.inl ⟨5, by decide, by rw [hm, if_pos h0]; rfl, fun _ h => absurd h0 h, rfl, Below.refl _ _⟩)
    · rw [decide_eq_false h0]
      obtain ⟨b, off, cc, he, hb, hc⟩ := HR.out.at (List.length_pos_iff.2 h0)
      subst he
      have hcap2 : l.length ≤ cc := hcap _ _ _ rfl
      clear hcap
      have hpos : 0 < l.length := List.length_pos_iff.2 h0
      have hcc := reads_cell hc (l.length - 1) (by omega)
      have HALL := Lib.hid (fun k hk => reads_cell hc k hk)
      have hgood := (mayC_iff.1 hm) (l.length - 1) (by omega)
      have hx3 : ¬ l.getD (l.length - 1) 0 < 0 := hgood.1
      have hx4 : ¬ 4096 < l.getD (l.length - 1) 0 := hgood.2.1
      obtain ⟨n, hn⟩ : ∃ n, l.length = n + 1 := ⟨l.length - 1, by omega⟩
      obtain ⟨x, hx⟩ : ∃ x, l.getD (l.length - 1) 0 = x := ⟨_, rfl⟩
      have HX := Lib.hid hx
      have HN := Lib.hid hn
      have H0 := Lib.hid h0
      have HM := Lib.hid hm
      rw [hx] at hcc hx3 hx4
      rw [hn, Nat.add_sub_cancel] at hcc
      rw [hn] at hl hpos hcap2 ⊢
      clear hc hgood hsl h0 hx hm hn
      by_cases hov : 4096 < x + 1
      · have HOV := Lib.hid hov
        go_wp2_with fail
        exact half_end (a := .slice none 0 0) (b := .slice none 0 0) (c := .int .i64 6) rfl rfl rfl (.inl ⟨6, by decide, by rw [HM.out, if_neg H0.out]; rfl, fun _ _ => by rw [HX.out]; exact HOV.out, rfl, Below.refl _ _⟩)
      · have HOV := Lib.hid hov
        have hA : Below w2.heap.size w2 (w2.alloc (.cells #[.int .i64 (x + 1)] 3)) := (Below.refl _ _).alloc (Nat.le_refl _) _
        have hlt : (l.take n).length = n := by rw [List.length_take, HN.out]; omega
        have hap := fun ty => app_full (w2.alloc (.cells #[.int .i64 (x + 1)] 3)) ty (some ⟨b, off, none⟩) (l.take n) (fun h => by cases h) (fun a ha j u hj => by
          injection ha with ha
          subst ha
          rw [List.getElem?_map, List.getElem?_take] at hj
          split at hj
          · rename_i hjn
            have := HALL.out j (by rw [HN.out]; omega)
            rw [List.getElem?_eq_getElem (by rw [HN.out]; omega), Option.map_some] at hj
            injection hj with hj
            subst hj
            rw [Addr.add_lit]
            have h2 := cell_keep hA this
            rw [h2]
            simp [List.getD_eq_getElem?_getD, List.getElem?_eq_getElem (show j < l.length by rw [HN.out]; omega)]
          · cases hj) ⟨w2.heap.size, 0, none⟩ (x + 1) 1 (by simp) (by rw [hlt]; omega)
        rw [hlt] at hap
        obtain ⟨v1, w3, hr, ho, hB⟩ := hap 23
        have HA := Lib.hid hA
        have HO := Lib.hid ho
        have HB := Lib.hid hB
        clear hA hlt hap ho hB
        go_upto_region 9 with fail
        go_wp2_with (at_builtin; refine Lib.wpList_append_run _ rfl _ _ _ _ rfl _ _ rfl rfl _ _ hr ?_)
        have e1 : l.length - 1 = n := by rw [HN.out]; rfl
        refine half_end (a := v1) (b := .slice (some ⟨w3.heap.size, 0, none⟩) 1 1) (c := .int .i64 0) rfl rfl rfl (.inr ⟨HM.out, H0.out, by rw [HX.out]; exact Int.not_lt.2 HOV.out, v1, _, rfl, ?_, ?_, ?_, ?_⟩)
        · rw [HX.out, e1]
          exact cowns (owns_low HO.out HA.out.size) (below_allocC _ _)
        · rw [HX.out]
          exact ⟨rfl, .inr ⟨_, _, _, rfl, Nat.le_trans HA.out.size HB.out.size, heap_alloc_new w3 _, Nat.le_refl _, by decide, rfl, rfl⟩⟩
        · intro he
          have h1 := owns_lt HO.out w3.heap.size he
          omega
        · exact (cthen HA.out (Nat.le_refl _) HB.out).alloc (Nat.le_trans HA.out.size HB.out.size) _
end Go.Proofs.Ytgjmnmcbinekdaa
