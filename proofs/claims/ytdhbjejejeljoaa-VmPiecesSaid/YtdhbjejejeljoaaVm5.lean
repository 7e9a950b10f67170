/- Contracts: the closures of vm.Frame.join; IndexFunc, ContainsFunc over children. (Printed by gen/genvm5.py.) -/
import Derived.Test.YtdhbjejejeljoaaVm4
namespace Go.Proofs.Ytdhbjejejeljoaa
open Go.RowKit Go.Sort Go.Lib

theorem ch_at {w : World} {b off : Nat} {l : List Ch} (hc : ∀ i (h : i < l.length) t u, (encCh l[i])[t]? = some u → w.cell? ⟨b, off + (i * 4 + t), none⟩ = some u) {k : Nat} (h : k < l.length) :
    w.cell? ⟨b, off + k * 4, none⟩ = some (.int .i64 l[k].into) ∧ w.cell? ⟨b, off + k * 4 + 1, none⟩ = some (.bool l[k].given) ∧ w.cell? ⟨b, off + k * 4 + 2, none⟩ = some (.int .i64 l[k].r.v) ∧ w.cell? ⟨b, off + k * 4 + 3, none⟩ = some (.int .i64 l[k].r.e) :=
  ⟨hc k h 0 _ rfl, hc k h 1 _ rfl, hc k h 2 _ rfl, hc k h 3 _ rfl⟩
def chOpen (c : Ch) : Bool := !c.given
def chBad (c : Ch) : Bool := c.r.e != 0
set_option maxHeartbeats 800000 in
theorem j1_any {b : Bool} (c : Ch) (w : World) (h : chOpen c = b) : Calls Try.prog 42 #[.agg #[.int .i64 c.into, .bool c.given, .int .i64 c.r.v, .int .i64 c.r.e]] w fun e w' => e = .returned (.bool b) ∧ Below w.heap.size w w' := by
  have HA := Lib.hid (alV w (.cells #[.int .i64 c.into, .bool c.given, .int .i64 c.r.v, .int .i64 c.r.e] ChT))
  have HH := Lib.hid h
  clear h
  go_enter Try.func42, Try.ntmps42
  go_wp2_with fail
  go_ret
  exact ⟨ret_bool HH.out, HA.out⟩
set_option maxHeartbeats 800000 in
theorem j2_any {b : Bool} (c : Ch) (w : World) (h : chBad c = b) : Calls Try.prog 44 #[.agg #[.int .i64 c.into, .bool c.given, .int .i64 c.r.v, .int .i64 c.r.e]] w fun e w' => e = .returned (.bool b) ∧ Below w.heap.size w w' := by
  have HA := Lib.hid (alV w (.cells #[.int .i64 c.into, .bool c.given, .int .i64 c.r.v, .int .i64 c.r.e] ChT))
  have HH := Lib.hid h
  clear h
  go_enter Try.func44, Try.ntmps44
  go_wp2_with fail
  go_ret
  exact ⟨ret_bool HH.out, HA.out⟩
set_option maxHeartbeats 1600000 in
set_option maxRecDepth 100000 in
theorem idx_open (v : Value) (l : List Ch) (w : World) (hv : ReadsK encCh 4 w v l) (hm : l.length ≤ 1000) :
    Calls Try.prog 43 #[v, .func (.func 42) #[] #[]] w fun e w' => e = .returned (.int .i64 (idxP chOpen l)) ∧ Below w.heap.size w w' := by
  obtain ⟨a, cap, rfl⟩ := hv.slice
  have HV := Lib.hid hv
  clear hv
  go_enter Try.func43, Try.ntmps43
  go_wp2
  go_loopg [8] l.length (fun gk i wr => ∃ k : Nat, gk + k = l.length ∧ i = .int .i64 k ∧ Below w.heap.size w wr ∧ Hid (∀ j, (hj : j < l.length) → j < k → chOpen l[j] = false))
  case atStart => exact ⟨0, by omega, rfl, Below.refl _ _, fun j _ hj => absurd hj (by omega)⟩
  case round =>
    obtain ⟨k, hk, rfl, hB, hn⟩ := hrel
    have HB := Lib.hid hB
    clear hB
    by_cases hlt : k < l.length
    · obtain ⟨b, off, c, he, hb, hc⟩ := (HV.out.below HB.out).at (by omega)
      injection he with he1 he2 he3
      subst he1
      obtain ⟨c0, c1, c2, c3⟩ := ch_at hc hlt
      clear hc he2 he3 hb
      cases hp : chOpen l[k]
      all_goals
        have HP := Lib.hid hp
        clear hp
        go_wp2_with fail
        refine (j1_any l[k] _ HP.out).mono ?_
        rintro e w1 ⟨rfl, hB⟩
        have HB1 := Lib.hid (gthen HB.out hB)
        clear hB c0 c1 c2 c3
      · go_wp2_with fail
        go_roundg (gk - 1)
        case rel => exact ⟨k + 1, by omega, by go_num, HB1.out, fun j hj hjk => by
          by_cases e : j = k
          · subst e; exact HP.out
          · exact hn j hj (by omega)⟩
        case measure => omega
      · go_wp2_with fail
        go_ret
        exact ⟨ret_int (idxP_hit (p := chOpen) l k hlt hn HP.out).symm, HB1.out⟩
    · have hke : k = l.length := by omega
      go_wp2_with fail
      go_ret
      exact ⟨ret_int (idxP_none (p := chOpen) l (fun j hj => hn j hj (by omega))).symm, HB.out⟩
set_option maxHeartbeats 1600000 in
set_option maxRecDepth 100000 in
theorem idx_bad (v : Value) (l : List Ch) (w : World) (hv : ReadsK encCh 4 w v l) (hm : l.length ≤ 1000) :
    Calls Try.prog 43 #[v, .func (.func 44) #[] #[]] w fun e w' => e = .returned (.int .i64 (idxP chBad l)) ∧ Below w.heap.size w w' := by
  obtain ⟨a, cap, rfl⟩ := hv.slice
  have HV := Lib.hid hv
  clear hv
  go_enter Try.func43, Try.ntmps43
  go_wp2
  go_loopg [8] l.length (fun gk i wr => ∃ k : Nat, gk + k = l.length ∧ i = .int .i64 k ∧ Below w.heap.size w wr ∧ Hid (∀ j, (hj : j < l.length) → j < k → chBad l[j] = false))
  case atStart => exact ⟨0, by omega, rfl, Below.refl _ _, fun j _ hj => absurd hj (by omega)⟩
  case round =>
    obtain ⟨k, hk, rfl, hB, hn⟩ := hrel
    have HB := Lib.hid hB
    clear hB
    by_cases hlt : k < l.length
    · obtain ⟨b, off, c, he, hb, hc⟩ := (HV.out.below HB.out).at (by omega)
      injection he with he1 he2 he3
      subst he1
      obtain ⟨c0, c1, c2, c3⟩ := ch_at hc hlt
      clear hc he2 he3 hb
      cases hp : chBad l[k]
      all_goals
        have HP := Lib.hid hp
        clear hp
        go_wp2_with fail
        refine (j2_any l[k] _ HP.out).mono ?_
        rintro e w1 ⟨rfl, hB⟩
        have HB1 := Lib.hid (gthen HB.out hB)
        clear hB c0 c1 c2 c3
      · go_wp2_with fail
        go_roundg (gk - 1)
        case rel => exact ⟨k + 1, by omega, by go_num, HB1.out, fun j hj hjk => by
          by_cases e : j = k
          · subst e; exact HP.out
          · exact hn j hj (by omega)⟩
        case measure => omega
      · go_wp2_with fail
        go_ret
        exact ⟨ret_int (idxP_hit (p := chBad) l k hlt hn HP.out).symm, HB1.out⟩
    · have hke : k = l.length := by omega
      go_wp2_with fail
      go_ret
      exact ⟨ret_int (idxP_none (p := chBad) l (fun j hj => hn j hj (by omega))).symm, HB.out⟩
theorem cont_open {b : Bool} (v : Value) (l : List Ch) (w : World) (hv : ReadsK encCh 4 w v l) (hm : l.length ≤ 1000) (h : l.any chOpen = b) :
    Calls Try.prog 41 #[v, .func (.func 42) #[] #[]] w fun e w' => e = .returned (.bool b) ∧ Below w.heap.size w w' := by
  have h1 := idxP_ge chOpen l
  rw [h] at h1
  rw [← h1]
  clear h1 h
  go_enter Try.func41, Try.ntmps41
  go_wp2_with fail
  refine (idx_open _ _ _ hv hm).mono ?_
  rintro e w1 ⟨rfl, hB⟩
  have HB := Lib.hid hB
  clear hB
  go_wp2_with fail
  go_ret
  exact ⟨rfl, HB.out⟩
end Go.Proofs.Ytdhbjejejeljoaa
