/- The document's SameTask. -/
import Derived.Test.YtpdnebimkfejoaaLin12
namespace Go.Proofs.Ytpdnebimkfejoaa
open Go.RowKit Go.Sort Go.Lib

def tskV (p : ByteArray) (fn : Int) (v : Value) (fuel : Int) : Value := .agg #[.string p, .int .i64 fn, v, .int .i64 fuel]
def sameT (p q : ByteArray) (fn gn fu gu : Int) (l m : List Int) : Bool := decide (p = q ∧ fn = gn ∧ fu = gu ∧ l = m)
set_option maxHeartbeats 3200000 in
set_option maxRecDepth 100000 in
theorem same_task (p q : ByteArray) (fn gn fu gu : Int) (v u : Value) (l m : List Int) (w : World) (hv : ReadsK encI 1 w v l) (hu : ReadsK encI 1 w u m) (hl : l.length ≤ 1000000) :
    Calls Try.prog 47 #[tskV p fn v fu, tskV q gn u gu] w fun e w' => e = .returned (.bool (sameT p q fn gn fu gu l m)) ∧ Below w.heap.size w w' := by
  obtain ⟨a, c, rfl⟩ := hv.slice
  obtain ⟨b, d, rfl⟩ := hu.slice
  have hA : Below w.heap.size w ((w.alloc (.cells #[.string p, .int .i64 fn, .slice a l.length c, .int .i64 fu] 32)).alloc (.cells #[.string q, .int .i64 gn, .slice b m.length d, .int .i64 gu] 32)) := ((Below.refl _ _).alloc (Nat.le_refl _) _).alloc (by simp) _
  have hm : (((w.alloc (.cells #[.string p, .int .i64 fn, .slice a l.length c, .int .i64 fu] 32)).alloc (.cells #[.string q, .int .i64 gn, .slice b m.length d, .int .i64 gu] 32)).heap[w.heap.size]? = some (.cells #[.string p, .int .i64 fn, .slice a l.length c, .int .i64 fu] 32 (0, 0))) ∧ ((w.alloc (.cells #[.string p, .int .i64 fn, .slice a l.length c, .int .i64 fu] 32)).alloc (.cells #[.string q, .int .i64 gn, .slice b m.length d, .int .i64 gu] 32)).heap[w.heap.size + 1]? = some (.cells #[.string q, .int .i64 gn, .slice b m.length d, .int .i64 gu] 32 (0, 0)) := by
    constructor
    · exact (Below.heap_alloc _ _ _ (by simp)).trans (heap_alloc_new w _)
    · have h := heap_alloc_new (w.alloc (.cells #[.string p, .int .i64 fn, .slice a l.length c, .int .i64 fu] 32)) (.cells #[.string q, .int .i64 gn, .slice b m.length d, .int .i64 gu] 32)
      rw [show (w.alloc (.cells #[.string p, .int .i64 fn, .slice a l.length c, .int .i64 fu] 32)).heap.size = w.heap.size + 1 by simp] at h
      exact h
  have HA := Lib.hid hA
  have HV := Lib.hid (hv.below hA)
  have HU := Lib.hid (hu.below hA)
  have HM := Lib.hid hm
  clear hA hm hv hu
  unfold tskV
  go_enter Try.func47, Try.ntmps47
  generalize hwa : (w.alloc (.cells #[.string p, .int .i64 fn, .slice a l.length c, .int .i64 fu] 32)).alloc (.cells #[.string q, .int .i64 gn, .slice b m.length d, .int .i64 gu] 32) = wa at *
  go_upto_region 1 with fail
  clear hwa
  have a0 : wa.cell? ⟨w.heap.size, 0, none⟩ = some (.string p) := by simp [World.cell?, HM.out.1]
  have a1 : wa.cell? ⟨w.heap.size, 1, none⟩ = some (.int .i64 fn) := by simp [World.cell?, HM.out.1]
  have a2 : wa.cell? ⟨w.heap.size, 2, none⟩ = some (.slice a l.length c) := by simp [World.cell?, HM.out.1]
  have a3 : wa.cell? ⟨w.heap.size, 3, none⟩ = some (.int .i64 fu) := by simp [World.cell?, HM.out.1]
  have b0 : wa.cell? ⟨w.heap.size + 1, 0, none⟩ = some (.string q) := by simp [World.cell?, HM.out.2]
  have b1 : wa.cell? ⟨w.heap.size + 1, 1, none⟩ = some (.int .i64 gn) := by simp [World.cell?, HM.out.2]
  have b2 : wa.cell? ⟨w.heap.size + 1, 2, none⟩ = some (.slice b m.length d) := by simp [World.cell?, HM.out.2]
  have b3 : wa.cell? ⟨w.heap.size + 1, 3, none⟩ = some (.int .i64 gu) := by simp [World.cell?, HM.out.2]
  have no : ¬ (p = q ∧ fn = gn ∧ fu = gu ∧ l = m) → Ending.returned (.bool false) = Ending.returned (.bool (sameT p q fn gn fu gu l m)) := fun h => ret_boolE (decide_eq_false h).symm
  have NO := Lib.hid no
  clear no
  by_cases h1 : p = q
  case neg =>
    have H1 := Lib.hid h1
    have t1 : ¬ p.toList = q.toList := fun e => h1 (by rw [Lib.toList_data, Lib.toList_data] at e; exact ByteArray.ext (Array.toList_inj.1 e))
    clear h1
    go_wp2_with fail
    go_ret
    exact ⟨NO.out (fun h => H1.out h.1), HA.out⟩
  have H1 := Lib.hid h1
  have t1 : p.toList = q.toList := by rw [h1]
  clear h1
  by_cases h2 : fn = gn
  case neg =>
    have H2 := Lib.hid h2
    go_wp2_with fail
    go_ret
    exact ⟨NO.out (fun h => H2.out h.2.1), HA.out⟩
  subst h2
  by_cases h3 : fu = gu
  case neg =>
    have H3 := Lib.hid h3
    go_wp2_with fail
    go_ret
    exact ⟨NO.out (fun h => H3.out h.2.2.1), HA.out⟩
  subst h3
  by_cases h4 : l.length = m.length
  case neg =>
    have H4 := Lib.hid h4
    have t4 : ((l.length : Int) != (m.length : Int)) = true := by simp; omega
    clear h4
    go_wp2_with fail
    go_ret
    exact ⟨NO.out (fun h => H4.out (by rw [h.2.2.2])), HA.out⟩
  have H4 := Lib.hid h4
  have t4 : ((l.length : Int) != (m.length : Int)) = false := by simp [h4]
  clear h4
  go_wp2_with fail
  have HW := Lib.hid (show Below wa.heap.size wa wa from Below.refl _ _)
  go_loopg [5] l.length (fun gk i wr => ∃ k : Nat, gk + k = l.length ∧ i = .int .i64 k ∧ Below wa.heap.size wa wr ∧ ∀ j (hj : j < l.length) (hj' : j < m.length), j < k → l[j] = m[j])
  case atStart => exact ⟨0, by omega, rfl, HW.out, fun j hj _ h0 => by omega⟩
  case round =>
    obtain ⟨k, hk, rfl, hBw, hall⟩ := hrel
    have hn2 : wr.cell? ⟨w.heap.size, 2, none⟩ = some (.slice a l.length c) := cell_keep hBw a2
    have hn3 : wr.cell? ⟨w.heap.size + 1, 2, none⟩ = some (.slice b m.length d) := cell_keep hBw b2
    have HB := Lib.hid hBw
    have HALL := Lib.hid hall
    clear hall a0 a1 a2 a3 b0 b1 b2 b3 t1 t4
    by_cases hlt : k < l.length
    · obtain ⟨r1, o1, cc1, he1, hb1, hc1⟩ := (HV.out.below hBw).at (by omega)
      obtain ⟨r2, o2, cc2, he2, hb2, hc2⟩ := (HU.out.below hBw).at (by have := H4.out; omega)
      injection he1 with he1 he1b he1c
      injection he2 with he2 he2b he2c
      subst he1
      subst he2
      clear he1b he1c he2b he2c
      have hltm : k < m.length := by have := H4.out; omega
      have k1 : wr.cell? ⟨r1, o1 + k, none⟩ = some (.int .i64 l[k]) := by have h := hc1 k hlt 0 _ rfl; rw [Nat.mul_one, Nat.add_zero] at h; exact h
      have k2 : wr.cell? ⟨r2, o2 + k, none⟩ = some (.int .i64 m[k]) := by have h := hc2 k hltm 0 _ rfl; rw [Nat.mul_one, Nat.add_zero] at h; exact h
      clear hc1 hc2 hBw
      go_wp2_with fail
      go_quiet (fail)
      have hBq := below_drewN HB.out nq
      generalize wr.drewN nq = wq at *
      have HBq := Lib.hid hBq
      clear hn2 hn3 k1 k2 hBq
      by_cases he : l[k] = m[k]
      · have HE := Lib.hid he
        have t5 : (l[k] != m[k]) = false := by simp [he]
        clear he
        go_wp2_with fail
        go_roundg (gk - 1)
        case rel => exact ⟨k + 1, by omega, by go_num, HBq.out, fun j hj hj' h0 => by
          by_cases e : j = k
          · subst e; exact HE.out
          · exact HALL.out j hj hj' (by omega)⟩
        case measure => omega
      · have HE := Lib.hid he
        have t5 : (l[k] != m[k]) = true := by simp [he]
        clear he
        go_wp2_with fail
        go_ret
        exact ⟨NO.out (fun h => HE.out (by have := h.2.2.2; subst this; rfl)), gthen HA.out HBq.out⟩
    · have HF : Hid (l = m) := List.ext_getElem H4.out (fun j h1 h2 => HALL.out j h1 h2 (by omega))
      go_wp2_with fail
      go_ret
      exact ⟨ret_boolE (decide_eq_true ⟨H1.out, rfl, rfl, HF.out⟩).symm, gthen HA.out HB.out⟩
end Go.Proofs.Ytpdnebimkfejoaa
