/- Roots are written: Hold, Over. -/
import Derived.Test.YtpdnebimkfejoaaLin4
namespace Go.Proofs.Ytpdnebimkfejoaa
open Go.RowKit Go.Sort Go.Lib

def updT (T : Tb) (n : Nm) (r' : Rw) : Tb := T.map fun p => if p.1 = n then (p.1, p.2.1, r') else p
theorem updT_len (T : Tb) (n : Nm) (r : Rw) : (updT T n r).length = T.length := by unfold updT; simp
theorem mapT_upd (T : Tb) (n : Nm) (r : Rw) : mapT (updT T n r) = mapT T := by
  unfold mapT updT
  rw [List.map_map]
  apply List.map_congr_left
  intro p _
  simp only [Function.comp]
  split <;> rfl
theorem Tab.keys {w : World} {f m : Nat} {T : Tb} (h : Tab w f m T) : (T.map (·.1)).Nodup := by
  obtain ⟨_, _, _, _, hn, _⟩ := h.map
  rwa [mapT_keys] at hn
theorem Tab.set {w w' : World} {f m : Nat} {T : Tb} {n : Nm} {b : Nat} {r r' : Rw} (h : Tab w f m T) (hg : getL T n = some (b, r)) (hF : Fr (fun i => i = b) w w') (hb : w'.heap[b]? = some (rowO n r'))
    (ha : r'.aa = r.aa ∧ r'.ac = r.ac ∧ r'.args = r.args) : Tab w' f m (updT T n r') := by
  have hmem := getL_mem' hg
  have hrow := h.row _ hmem
  have hbm : b ≠ m := h.notMap hrow.1
  have hbf : b ≠ f := by
    rintro rfl
    have h1 := hrow.1
    rw [h.box] at h1
    simp [rowO] at h1
  have hk : ∀ i, i < w.heap.size → i ≠ b → w'.heap[i]? = w.heap[i]? := fun i hi hn => hF.block i hi hn
  have hargs : ∀ q : Rw, Args w q → Args w' q := fun q hq => Args.far hq (fun i cur hi => hk i (Array.getElem?_eq_some_iff.1 hi).1 (by
    rintro rfl
    have h1 := hrow.1
    rw [hi] at h1
    unfold rowO at h1
    injection h1 with h1; injection h1 with _ h1 _; cases h1))
  refine ⟨(hk f h.lt.1 (fun e => hbf e.symm)).trans h.box, by rw [mapT_upd]; exact h.map.block (hk m h.lt.2.1 (fun e => hbm e.symm)), ?_, ?_⟩
  · intro p hp
    unfold updT at hp
    obtain ⟨q, hq, rfl⟩ := List.mem_map.1 hp
    by_cases hqn : q.1 = n
    · rw [if_pos hqn]
      have hqe : q = (n, b, r) := eq_of_keyV h.keys hq hmem hqn
      subst hqe
      refine ⟨hb, ?_⟩
      have := hargs _ hrow.2
      unfold Args at this ⊢
      rw [ha.1, ha.2.1, ha.2.2]
      exact this
    · rw [if_neg hqn]
      have hqb : q.2.1 ≠ b := by
        intro e
        have hnd := h.nd
        obtain ⟨i, hi, hqi⟩ := List.getElem_of_mem hq
        obtain ⟨j, hj, hmj⟩ := List.getElem_of_mem hmem
        have : i = j := by
          by_cases hij : i = j
          · exact hij
          · have hpw := List.pairwise_iff_getElem.1 hnd
            rcases Nat.lt_or_gt_of_ne hij with hl | hl
            · exact absurd (by rw [List.getElem_map, List.getElem_map, hqi, hmj]; exact e) (hpw i j (by simpa using hi) (by simpa using hj) hl)
            · exact absurd (by rw [List.getElem_map, List.getElem_map, hqi, hmj]; exact e.symm) (hpw j i (by simpa using hj) (by simpa using hi) hl)
        subst this
        rw [hqi] at hmj
        rw [hmj] at hqn
        exact hqn rfl
      have hr := h.row q hq
      exact ⟨(hk _ (Array.getElem?_eq_some_iff.1 hr.1).1 hqb).trans hr.1, hargs _ hr.2⟩
  · have : (updT T n r').map (·.2.1) = T.map (·.2.1) := by
      unfold updT
      rw [List.map_map]
      apply List.map_congr_left
      intro p _
      simp only [Function.comp]
      split <;> rfl
    rw [this]; exact h.nd
theorem args_reads {w : World} {r : Rw} (h : Args w r) : ReadsK encI 1 w (.slice r.aa r.args.length r.ac) r.args := own_readsK (enc := encI) (k := 1) (fun _ => rfl) (by decide) h
theorem ofP_cases (T : Tb) (n : Nm) : (getL T n = none ∧ ofP T n = (.pointer none, 5)) ∨ ∃ b r, getL T n = some (b, r) ∧ ofP T n = (.pointer (some ⟨b, 0, none⟩), 0) := by
  unfold ofP
  cases hg : getL T n with
  | none => exact .inl ⟨rfl, rfl⟩
  | some br => exact .inr ⟨br.1, br.2, rfl, rfl⟩
def InRows (T : Tb) (i : Nat) : Prop := ∃ p ∈ T, p.2.1 = i
theorem inRows {T : Tb} {n : Nm} {b : Nat} {r : Rw} (h : getL T n = some (b, r)) {i : Nat} (e : i = b) : InRows T i := ⟨_, getL_mem' h, e.symm⟩
def holdE (T : Tb) (n : Nm) (k e : Int) : Int := match getL T n with
  | none => 5
  | some (_, r) => if k < 1 ∨ 32 < k ∨ e < 1 ∨ 281474976710656 < e then 2 else if r.st ≠ 1 then 3 else 0
def holdT (T : Tb) (n : Nm) (k e : Int) : Tb := match getL T n with
  | none => T
  | some (_, r) => if holdE T n k e = 0 then updT T n { r with st := 2, wk := k, ep := e } else T
def overE (T : Tb) (n : Nm) : Int := match getL T n with
  | none => 5
  | some (_, r) => if r.st = 3 then 3 else 0
def overT (T : Tb) (n : Nm) : Tb := match getL T n with
  | none => T
  | some (_, r) => if r.st = 3 then T else updT T n { r with st := 3, wk := 0, ep := 0 }
set_option maxHeartbeats 1600000 in
set_option maxRecDepth 100000 in
theorem hold_tab (f m : Nat) (T : Tb) (n : Nm) (k e : Int) (w : World) (h : Tab w f m T) :
    Calls Try.prog 20 #[.pointer (some ⟨f, 0, none⟩), .agg #[.int .u64 n.1, .string n.2], .int .i64 k, .int .u64 e] w fun e' w' => e' = .returned (.int .i64 (holdE T n k e)) ∧ Tab w' f m (holdT T n k e) ∧ Fr (InRows T) w w' := by
  have hA : Below w.heap.size w (w.alloc (.cells #[.int .u64 n.1, .string n.2] 29)) := (Below.refl _ _).alloc (Nat.le_refl _) _
  have HH := Lib.hid (h.below hA)
  have HA := Lib.hid hA
  clear h hA
  go_enter Try.func20, Try.ntmps20
  go_wp2_with fail
  refine (of_tab f m T n _ HH.out).mono ?_
  rintro e' w2 ⟨rfl, hB⟩
  have HH2 := Lib.hid (HH.out.below hB)
  have HA2 := Lib.hid (gthen HA.out hB)
  clear HH HA hB
  rcases ofP_cases T n with ⟨hg, ho⟩ | ⟨b, r, hg, ho⟩
  · rw [ho]
    have hv : Hid (holdE T n k e = 5 ∧ holdT T n k e = T) := by
      refine ⟨?_, ?_⟩
      · unfold holdE; rw [hg]
      · unfold holdT; rw [hg]
    clear hg ho
    go_wp2_with fail
    go_ret
    exact ⟨ret_intE hv.out.1.symm, by rw [hv.out.2]; exact HH2.out, .of_below HA2.out⟩
  · rw [ho]
    have hrow := HH2.out.at hg
    have k6 : w2.cell? ⟨b, 6, none⟩ = some (.int .u8 r.st) := row_cells hrow.1 6
    have HROW := Lib.hid hrow.1
    have HG := Lib.hid hg
    clear hrow hg ho
    by_cases hx : k < 1 ∨ 32 < k ∨ e < 1 ∨ 281474976710656 < e
    · have hv : Hid (holdE T n k e = 2 ∧ holdT T n k e = T) := by
        have key : holdE T n k e = 2 := by unfold holdE; rw [HG.out]; exact if_pos hx
        refine ⟨key, ?_⟩
        unfold holdT; rw [HG.out]; simp only; rw [key]; rfl
      by_cases x1 : k < 1
      · clear hx
        go_wp2_with fail
        go_ret
        exact ⟨ret_intE hv.out.1.symm, by rw [hv.out.2]; exact HH2.out, .of_below HA2.out⟩
      by_cases x2 : 32 < k
      · clear hx
        go_wp2_with fail
        go_ret
        exact ⟨ret_intE hv.out.1.symm, by rw [hv.out.2]; exact HH2.out, .of_below HA2.out⟩
      by_cases x3 : e < 1
      · clear hx
        go_wp2_with fail
        go_ret
        exact ⟨ret_intE hv.out.1.symm, by rw [hv.out.2]; exact HH2.out, .of_below HA2.out⟩
      have x4 : 281474976710656 < e := by omega
      clear hx
      go_wp2_with fail
      go_ret
      exact ⟨ret_intE hv.out.1.symm, by rw [hv.out.2]; exact HH2.out, .of_below HA2.out⟩
    · have x1 : ¬ k < 1 := by omega
      have x2 : ¬ 32 < k := by omega
      have x3 : ¬ e < 1 := by omega
      have x4 : ¬ 281474976710656 < e := by omega
      have HX := Lib.hid hx
      clear hx
      by_cases h1 : r.st = 1
      · have hv : Hid (holdE T n k e = 0 ∧ holdT T n k e = updT T n { r with st := 2, wk := k, ep := e }) := by
          have key : holdE T n k e = 0 := by unfold holdE; rw [HG.out]; simp only; rw [if_neg HX.out, if_neg (by omega)]
          refine ⟨key, ?_⟩
          unfold holdT; rw [HG.out]; simp only; rw [key]; rfl
        have hb1 : (r.st != 1) = false := by simp [h1]
        clear h1
        go_wp2_with fail
        refine (to_any b n r 2 k e w2 HROW.out).mono ?_
        rintro e' w3 ⟨rfl, hrow, hF⟩
        have HT := Lib.hid (HH2.out.set (r' := { r with st := 2, wk := k, ep := e }) HG.out hF hrow ⟨rfl, rfl, rfl⟩)
        have HF := Lib.hid ((Fr.of_below HA2.out).trans (hF.mono (fun i hi => inRows HG.out hi)))
        clear hF hrow
        go_wp2_with fail
        go_ret
        exact ⟨ret_intE hv.out.1.symm, by rw [hv.out.2]; exact HT.out, HF.out⟩
      · have hv : Hid (holdE T n k e = 3 ∧ holdT T n k e = T) := by
          have key : holdE T n k e = 3 := by unfold holdE; rw [HG.out]; simp only; rw [if_neg HX.out, if_pos h1]
          refine ⟨key, ?_⟩
          unfold holdT; rw [HG.out]; simp only; rw [key]; rfl
        have hb1 : (r.st != 1) = true := by simpa using h1
        clear h1
        go_wp2_with fail
        go_ret
        exact ⟨ret_intE hv.out.1.symm, by rw [hv.out.2]; exact HH2.out, .of_below HA2.out⟩
set_option maxHeartbeats 1600000 in
set_option maxRecDepth 100000 in
theorem over_tab (f m : Nat) (T : Tb) (n : Nm) (w : World) (h : Tab w f m T) :
    Calls Try.prog 21 #[.pointer (some ⟨f, 0, none⟩), .agg #[.int .u64 n.1, .string n.2]] w fun e' w' => e' = .returned (.int .i64 (overE T n)) ∧ Tab w' f m (overT T n) ∧ Fr (InRows T) w w' := by
  have hA : Below w.heap.size w (w.alloc (.cells #[.int .u64 n.1, .string n.2] 29)) := (Below.refl _ _).alloc (Nat.le_refl _) _
  have HH := Lib.hid (h.below hA)
  have HA := Lib.hid hA
  clear h hA
  go_enter Try.func21, Try.ntmps21
  go_wp2_with fail
  refine (of_tab f m T n _ HH.out).mono ?_
  rintro e' w2 ⟨rfl, hB⟩
  have HH2 := Lib.hid (HH.out.below hB)
  have HA2 := Lib.hid (gthen HA.out hB)
  clear HH HA hB
  rcases ofP_cases T n with ⟨hg, ho⟩ | ⟨b, r, hg, ho⟩
  · rw [ho]
    have hv : Hid (overE T n = 5 ∧ overT T n = T) := by
      refine ⟨?_, ?_⟩
      · unfold overE; rw [hg]
      · unfold overT; rw [hg]
    clear hg ho
    go_wp2_with fail
    go_ret
    exact ⟨ret_intE hv.out.1.symm, by rw [hv.out.2]; exact HH2.out, .of_below HA2.out⟩
  · rw [ho]
    have hrow := HH2.out.at hg
    have k6 : w2.cell? ⟨b, 6, none⟩ = some (.int .u8 r.st) := row_cells hrow.1 6
    have HROW := Lib.hid hrow.1
    have HG := Lib.hid hg
    clear hrow hg ho
    by_cases h1 : r.st = 3
    · have hv : Hid (overE T n = 3 ∧ overT T n = T) := by
        refine ⟨?_, ?_⟩
        · unfold overE; rw [HG.out]; exact if_pos h1
        · unfold overT; rw [HG.out]; exact if_pos h1
      have hb1 : (r.st == 3) = true := by simp [h1]
      clear h1
      go_wp2_with fail
      go_ret
      exact ⟨ret_intE hv.out.1.symm, by rw [hv.out.2]; exact HH2.out, .of_below HA2.out⟩
    · have hv : Hid (overE T n = 0 ∧ overT T n = updT T n { r with st := 3, wk := 0, ep := 0 }) := by
        refine ⟨?_, ?_⟩
        · unfold overE; rw [HG.out]; exact if_neg h1
        · unfold overT; rw [HG.out]; exact if_neg h1
      have hb1 : (r.st == 3) = false := by simpa using h1
      clear h1
      go_wp2_with fail
      refine (to_any b n r 3 0 0 w2 HROW.out).mono ?_
      rintro e' w3 ⟨rfl, hrow, hF⟩
      have HT := Lib.hid (HH2.out.set (r' := { r with st := 3, wk := 0, ep := 0 }) HG.out hF hrow ⟨rfl, rfl, rfl⟩)
      have HF := Lib.hid ((Fr.of_below HA2.out).trans (hF.mono (fun i hi => inRows HG.out hi)))
      clear hF hrow
      go_wp2_with fail
      go_ret
      exact ⟨ret_intE hv.out.1.symm, by rw [hv.out.2]; exact HT.out, HF.out⟩
end Go.Proofs.Ytpdnebimkfejoaa
