/- Contracts: code.May. -/
import Derived.Test.YtdhbjejejeljoaaGreatEv4
namespace Go.Proofs.YtdhbjejejeljoaaGreat
open Go.RowKit

theorem oddF_any {b : Bool} (o : Opr) (w : World) (h : (!formedP o) = b) :
    Calls Tryz.prog 75 #[.agg #[.int .u8 o.k, .int .i64 o.d, .int .i64 o.a, .int .i64 o.b, .int .i64 o.n]] w fun e w' => e = .returned (.bool b) ∧ Below w.heap.size w w' := by
  have HA := Lib.hid (show Below w.heap.size w (w.alloc (.cells (opC o) OpT)) from (Below.refl _ _).alloc (Nat.le_refl _) _)
  go_enter Tryz.func75, Tryz.ntmps75
  go_wp2_with fail
  refine (formed_any o _).mono ?_
  rintro e w1 ⟨rfl, hB⟩
  have HB := Lib.hid (gthen HA.out hB)
  clear hB
  go_wp2_with fail
  go_ret
  exact ⟨ret_bool rfl, HB.out⟩
theorem op_at {w : World} {b off : Nat} {l : List Opr} (hc : ∀ i (h : i < l.length) t u, (encO l[i])[t]? = some u → w.cell? ⟨b, off + (i * 5 + t), none⟩ = some u) {k : Nat} (h : k < l.length) :
    w.cell? ⟨b, off + k * 5, none⟩ = some (.int .u8 l[k].k) ∧ w.cell? ⟨b, off + k * 5 + 1, none⟩ = some (.int .i64 l[k].d) ∧ w.cell? ⟨b, off + k * 5 + 2, none⟩ = some (.int .i64 l[k].a) ∧ w.cell? ⟨b, off + k * 5 + 3, none⟩ = some (.int .i64 l[k].b) ∧ w.cell? ⟨b, off + k * 5 + 4, none⟩ = some (.int .i64 l[k].n) :=
  ⟨hc k h 0 _ rfl, hc k h 1 _ rfl, hc k h 2 _ rfl, hc k h 3 _ rfl, hc k h 4 _ rfl⟩
theorem fn_at {w : World} {b off : Nat} {l : List Fnc} (hc : ∀ i (h : i < l.length) t u, (encF l[i])[t]? = some u → w.cell? ⟨b, off + (i * 3 + t), none⟩ = some u) {k : Nat} (h : k < l.length) :
    w.cell? ⟨b, off + k * 3, none⟩ = some (.int .i64 l[k].args) ∧ w.cell? ⟨b, off + k * 3 + 1, none⟩ = some (.int .i64 l[k].regs) ∧ w.cell? ⟨b, off + k * 3 + 2, none⟩ = some (.slice l[k].oa l[k].ops.length l[k].oc) :=
  ⟨hc k h 0 _ rfl, hc k h 1 _ rfl, hc k h 2 _ rfl⟩
set_option maxHeartbeats 1600000 in
theorem idx_ops (v : Value) (l : List Opr) (w : World) (hv : ReadsK encO 5 w v l) (hm : l.length ≤ 1000) :
    Calls Tryz.prog 93 #[v, .func (.func 75) #[] #[]] w fun e w' => e = .returned (.int .i64 (idxP (fun o => !formedP o) l)) ∧ Below w.heap.size w w' := by
  obtain ⟨a, cap, rfl⟩ := hv.slice
  have HV := Lib.hid hv
  clear hv
  go_enter Tryz.func93, Tryz.ntmps93
  go_wp2
  go_loopg [8] l.length (fun gk i wr => ∃ k : Nat, gk + k = l.length ∧ i = .int .i64 k ∧ Below w.heap.size w wr ∧ Hid (∀ j, (hj : j < l.length) → j < k → (!formedP l[j]) = false))
  case atStart => exact ⟨0, by omega, rfl, Below.refl _ _, fun j _ hj => absurd hj (by omega)⟩
  case round =>
    obtain ⟨k, hk, rfl, hB, hn⟩ := hrel
    have HB := Lib.hid hB
    clear hB
    by_cases hlt : k < l.length
    · obtain ⟨b, off, c, he, hb, hc⟩ := (HV.out.below HB.out).at (by omega)
      injection he with he1 he2 he3
      subst he1
      obtain ⟨c0, c1, c2, c3, c4⟩ := op_at hc hlt
      clear hc he2 he3 hb
      cases hp : (!formedP l[k])
      all_goals
        have HP := Lib.hid hp
        clear hp
        go_wp2_with fail
        refine (oddF_any l[k] _ HP.out).mono ?_
        rintro e w1 ⟨rfl, hB⟩
        have HB1 := Lib.hid (gthen HB.out hB)
        clear hB c0 c1 c2 c3 c4
      · go_wp2_with fail
        go_roundg (gk - 1)
        case rel => exact ⟨k + 1, by omega, by go_num, HB1.out, fun j hj hjk => by
          by_cases e : j = k
          · subst e; exact HP.out
          · exact hn j hj (by omega)⟩
        case measure => omega
      · go_wp2_with fail
        go_ret
        exact ⟨ret_int (idxP_hit (p := fun o => !formedP o) l k hlt hn HP.out).symm, HB1.out⟩
    · have hke : k = l.length := by omega
      go_wp2_with fail
      go_ret
      exact ⟨ret_int (idxP_none (p := fun o => !formedP o) l (fun j hj => hn j hj (by omega))).symm, HB.out⟩
theorem cont_ops {b : Bool} (v : Value) (l : List Opr) (w : World) (hv : ReadsK encO 5 w v l) (hm : l.length ≤ 1000) (h : (!l.all formedP) = b) :
    Calls Tryz.prog 74 #[v, .func (.func 75) #[] #[]] w fun e w' => e = .returned (.bool b) ∧ Below w.heap.size w w' := by
  have h1 := idxP_ge (fun o => !formedP o) l
  rw [show (l.any fun o => !formedP o) = !l.all formedP by rw [List.not_all_eq_any_not], h] at h1
  rw [← h1]
  clear h1 h
  go_enter Tryz.func74, Tryz.ntmps74
  go_wp2_with fail
  refine (idx_ops _ _ _ hv hm).mono ?_
  rintro e w1 ⟨rfl, hB⟩
  have HB := Lib.hid hB
  clear hB
  go_wp2_with fail
  go_ret
  exact ⟨rfl, HB.out⟩
/-- A function whose ops lie in the world. -/
def OpsAt (w : World) (f : Fnc) : Prop := ReadsK encO 5 w (.slice f.oa f.ops.length f.oc) f.ops ∧ f.ops.length ≤ 1000
abbrev fnC (f : Fnc) : Array Value := #[.int .i64 f.args, .int .i64 f.regs, .slice f.oa f.ops.length f.oc]
abbrev FnT : TypeId := 77
theorem OpsAt.below {w w' : World} {f : Fnc} (h : OpsAt w f) (hB : Below w.heap.size w w') : OpsAt w' f := ⟨h.1.below hB, h.2⟩
set_option maxHeartbeats 1600000 in
theorem odd_fn {b : Bool} (f : Fnc) (w : World) (hf : OpsAt w f) (h : (!mayF f) = b) :
    Calls Tryz.prog 72 #[.agg #[.int .i64 f.args, .int .i64 f.regs, .slice f.oa f.ops.length f.oc]] w fun e w' => e = .returned (.bool b) ∧ Below w.heap.size w w' := by
  have hA : Below w.heap.size w (w.alloc (.cells (fnC f) FnT)) := (Below.refl _ _).alloc (Nat.le_refl _) _
  have hx : BoxAt (w.alloc (.cells (fnC f) FnT)) w.heap.size (fnC f) FnT := heap_alloc_new _ _
  have HFO := Lib.hid (hf.below hA)
  have HA := Lib.hid hA
  have HX := Lib.hid hx
  have hol := hf.2
  clear hf hA hx
  go_enter Tryz.func72, Tryz.ntmps72
  go_upto_region 1 with fail
  have c0 := HX.out.cell 0; have c1 := HX.out.cell 1; have c2 := HX.out.cell 2
  simp only [fnC, List.getElem?_toArray, List.getElem?_cons_zero, List.getElem?_cons_succ] at c0 c1 c2 HFO HA HX
  generalize w.alloc (.cells #[.int .i64 f.args, .int .i64 f.regs, .slice f.oa f.ops.length f.oc] FnT) = wb at *
  have hA2 : Below wb.heap.size wb (wb.alloc (.cells #[.int .i64 f.args, .int .i64 f.regs] 3)) := (Below.refl _ _).alloc (Nat.le_refl _) _
  have d0 := cell_of hA2 c0; have d1 := cell_of hA2 c1; have d2 := cell_of hA2 c2
  have HL := Lib.hid (show ReadsK encN1 1 (wb.alloc (.cells #[.int .i64 f.args, .int .i64 f.regs] 3)) (.slice (some ⟨wb.heap.size, 0, none⟩) 2 2) [f.args, f.regs] from reads_lit (heap_alloc_new _ _) rfl)
  have HF2 := Lib.hid (gthen HA.out hA2)
  have HO2 := Lib.hid (HFO.out.below hA2)
  clear hA2 HX HFO HA d0 d1
  obtain ⟨R, hR⟩ : ∃ R, [f.args, f.regs].all regP = R := ⟨_, rfl⟩
  have HR := Lib.hid hR
  have HE := Lib.hid (show (!(R && (decide (f.ops.length ≤ 64) && f.ops.all formedP))) = b by
    rw [← h, ← hR]; unfold mayF; simp [Bool.and_assoc])
  clear h hR
  go_wp2_with fail
  refine (reg_of _ _ _ HL.out (by simp) HR.out).mono ?_
  rintro e w2 ⟨rfl, rfl⟩
  cases R
  · go_wp2_with fail
    go_ret
    exact ⟨ret_bool HE.out, HF2.out⟩
  by_cases h64 : f.ops.length ≤ 64
  · have h1 : ¬ 64 < (f.ops.length : Int) := by omega
    have h2 : decide (64 < (f.ops.length : Int)) = false := by simp; omega
    have HE2 := Lib.hid (show (!f.ops.all formedP) = b by rw [← HE.out]; simp [h64])
    go_wp2_with fail
    refine (cont_ops _ f.ops _ HO2.out.1 HO2.out.2 HE2.out).mono ?_
    rintro e w3 ⟨rfl, hB⟩
    have HB := Lib.hid (gthen HF2.out hB)
    clear hB
    go_wp2_with fail
    go_ret
    exact ⟨rfl, HB.out⟩
  · have h1 : 64 < (f.ops.length : Int) := by omega
    have h2 : decide (64 < (f.ops.length : Int)) = true := by simp; omega
    have HE2 := Lib.hid (show true = b by rw [← HE.out]; simp [h64])
    go_wp2_with fail
    go_ret
    exact ⟨ret_bool HE2.out, HF2.out⟩
/-- A program that lies in the world. -/
structure ProgAt (w : World) (v : Value) (p : List Fnc) : Prop where
  fns : ReadsK encF 3 w v p
  ops : ∀ f ∈ p, OpsAt w f
  len : p.length ≤ 1000
theorem ProgAt.below {w w' : World} {v : Value} {p : List Fnc} (h : ProgAt w v p) (hB : Below w.heap.size w w') : ProgAt w' v p := ⟨h.fns.below hB, fun f hf => (h.ops f hf).below hB, h.len⟩
set_option maxHeartbeats 1600000 in
theorem idx_fns (v : Value) (l : List Fnc) (w : World) (hv : ProgAt w v l) :
    Calls Tryz.prog 95 #[v, .func (.func 72) #[] #[]] w fun e w' => e = .returned (.int .i64 (idxP (fun o => !mayF o) l)) ∧ Below w.heap.size w w' := by
  obtain ⟨a, cap, rfl⟩ := hv.fns.slice
  have hm := hv.len
  have HV := Lib.hid hv
  clear hv
  go_enter Tryz.func95, Tryz.ntmps95
  go_wp2
  go_loopg [8] l.length (fun gk i wr => ∃ k : Nat, gk + k = l.length ∧ i = .int .i64 k ∧ Below w.heap.size w wr ∧ Hid (∀ j, (hj : j < l.length) → j < k → (!mayF l[j]) = false))
  case atStart => exact ⟨0, by omega, rfl, Below.refl _ _, fun j _ hj => absurd hj (by omega)⟩
  case round =>
    obtain ⟨k, hk, rfl, hB, hn⟩ := hrel
    have HB := Lib.hid hB
    clear hB
    by_cases hlt : k < l.length
    · obtain ⟨b, off, c, he, hb, hc⟩ := (HV.out.fns.below HB.out).at (by omega)
      injection he with he1 he2 he3
      subst he1
      obtain ⟨c0, c1, c2⟩ := fn_at hc hlt
      have HO := Lib.hid ((HV.out.ops _ (List.getElem_mem hlt)).below HB.out)
      clear hc he2 he3 hb
      cases hp : (!mayF l[k])
      all_goals
        have HP := Lib.hid hp
        clear hp
        go_wp2_with fail
        refine (odd_fn l[k] _ HO.out HP.out).mono ?_
        rintro e w1 ⟨rfl, hB⟩
        have HB1 := Lib.hid (gthen HB.out hB)
        clear hB c0 c1 c2
      · go_wp2_with fail
        go_roundg (gk - 1)
        case rel => exact ⟨k + 1, by omega, by go_num, HB1.out, fun j hj hjk => by
          by_cases e : j = k
          · subst e; exact HP.out
          · exact hn j hj (by omega)⟩
        case measure => omega
      · go_wp2_with fail
        go_ret
        exact ⟨ret_int (idxP_hit (p := fun o => !mayF o) l k hlt hn HP.out).symm, HB1.out⟩
    · have hke : k = l.length := by omega
      go_wp2_with fail
      go_ret
      exact ⟨ret_int (idxP_none (p := fun o => !mayF o) l (fun j hj => hn j hj (by omega))).symm, HB.out⟩
theorem cont_fns {b : Bool} (v : Value) (l : List Fnc) (w : World) (hv : ProgAt w v l) (h : (!l.all mayF) = b) :
    Calls Tryz.prog 77 #[v, .func (.func 72) #[] #[]] w fun e w' => e = .returned (.bool b) ∧ Below w.heap.size w w' := by
  have h1 := idxP_ge (fun o => !mayF o) l
  rw [show (l.any fun o => !mayF o) = !l.all mayF by rw [List.not_all_eq_any_not], h] at h1
  rw [← h1]
  clear h1 h
  go_enter Tryz.func77, Tryz.ntmps77
  go_wp2_with fail
  refine (idx_fns _ _ _ hv).mono ?_
  rintro e w1 ⟨rfl, hB⟩
  have HB := Lib.hid hB
  clear hB
  go_wp2_with fail
  go_ret
  exact ⟨rfl, HB.out⟩
set_option maxHeartbeats 1600000 in
theorem cmay_any {b : Bool} (v : Value) (p : List Fnc) (w : World) (hp : ProgAt w v p) (h : mayP p = b) :
    Calls Tryz.prog 60 #[.agg #[v]] w fun e w' => e = .returned (.bool b) ∧ Below w.heap.size w w' := by
  obtain ⟨a, cap, rfl⟩ := hp.fns.slice
  have hA : Below w.heap.size w (w.alloc (.cells #[.slice a p.length cap] 24)) := (Below.refl _ _).alloc (Nat.le_refl _) _
  have HP := Lib.hid (hp.below hA)
  have HA := Lib.hid hA
  have hl := hp.len
  clear hA hp
  unfold mayP at h
  by_cases h16 : p.length ≤ 16
  · have HE := Lib.hid (show (!p.all mayF) = !b by rw [← h]; simp [h16])
    have h1 : (p.length : Int) ≤ 16 := by omega
    have h2 : decide (p.length ≤ 16) = true := by simp; omega
    clear h
    go_enter Tryz.func60, Tryz.ntmps60
    go_wp2_with fail
    refine (cont_fns _ p _ HP.out HE.out).mono ?_
    rintro e w1 ⟨rfl, hB⟩
    have HB := Lib.hid (gthen HA.out hB)
    clear hB
    go_wp2_with fail
    go_ret
    exact ⟨ret_bool (by simp), HB.out⟩
  · have HE := Lib.hid (show false = b by rw [← h]; simp [h16])
    have h1 : ¬ (p.length : Int) ≤ 16 := by omega
    have h2 : decide (p.length ≤ 16) = false := by simp; omega
    clear h
    go_enter Tryz.func60, Tryz.ntmps60
    go_wp2_with fail
    go_ret
    exact ⟨ret_bool HE.out, HA.out⟩
end Go.Proofs.YtdhbjejejeljoaaGreat
