/- above: the root above a name. -/
import Derived.Test.YtpdnebimkfejoaaLin2
namespace Go.Proofs.Ytpdnebimkfejoaa
open Go.RowKit Go.Sort Go.Lib

/-- The first of a path's parents that is there. -/
def upF (has : Nm → Bool) (job : Int) : Nat → ByteArray → Option Nm
  | 0, _ => none
  | k + 1, p => if parB p then (if has (job, parS p) then some (job, parS p) else upF has job k (parS p)) else none
def upN (has : Nm → Bool) (n : Nm) : Option Nm := if mayS n.2 then upF has n.1 n.2.size n.2 else none
def hasT (T : Tb) (n : Nm) : Bool := (getL T n).isSome
def aboveP (T : Tb) (n : Nm) : Value := match upN (hasT T) n with
  | none => .pointer none
  | some u => ptrT T u
theorem parB_pos {p : ByteArray} (h : parB p = true) : 0 < p.size := by
  unfold parB at h
  simp only [Bool.and_eq_true] at h
  exact size_pos (by simpa using h.1)
theorem parS_size {p : ByteArray} (h : parB p = true) : (parS p).size + 1 = p.size := by
  have := parB_pos h
  unfold parS
  rw [if_pos h, ByteArray.size_extract]
  omega
theorem upF_step (has : Nm → Bool) (job : Int) (p : ByteArray) : upF has job p.size p = if parB p then (if has (job, parS p) then some (job, parS p) else upF has job (parS p).size (parS p)) else none := by
  cases hp : parB p
  · cases p.size with
    | zero => rfl
    | succ k => unfold upF; rw [hp]; rfl
  · have h := parS_size hp
    rw [← h]
    conv => lhs; unfold upF
    rw [hp]
set_option maxHeartbeats 1600000 in
set_option maxRecDepth 100000 in
theorem above_tab (f m : Nat) (T : Tb) (n : Nm) (w : World) (h : Tab w f m T) (hn : n.2.size ≤ 9223372036854775807) :
    Calls Try.prog 36 #[.pointer (some ⟨f, 0, none⟩), .agg #[.int .u64 n.1, .string n.2]] w fun e w' => e = .returned (aboveP T n) ∧ Below w.heap.size w w' := by
  have hA : Below w.heap.size w (w.alloc (.cells #[.int .u64 n.1, .string n.2] 29)) := (Below.refl _ _).alloc (Nat.le_refl _) _
  have hb := heap_alloc_new w (.cells #[.int .u64 n.1, .string n.2] 29)
  have HH := Lib.hid (h.below hA)
  have HA := Lib.hid hA
  have HB := Lib.hid hb
  clear h hA hb
  go_enter Try.func36, Try.ntmps36
  go_wp2_with fail
  refine (may_any n.2 _ hn).mono ?_
  rintro e w1 ⟨rfl, hB⟩
  cases hm : mayS n.2
  · have ho := Lib.hid (show aboveP T n = .pointer none by unfold aboveP upN; rw [hm]; rfl)
    have HF := Lib.hid (gthen HA.out hB)
    clear hm hB
    go_wp2_with fail
    go_ret
    exact ⟨by rw [ho.out]; rfl, HF.out⟩
  · have ho := Lib.hid (show upN (hasT T) n = upF (hasT T) n.1 n.2.size n.2 by unfold upN; rw [hm]; rfl)
    have HA1 := Lib.hid (gthen HA.out hB)
    have HH1 := Lib.hid (HH.out.below hB)
    have hb1 := (hB.block _ (by simp)).trans HB.out
    have k0 : w1.cell? ⟨w.heap.size, 0, none⟩ = some (.int .u64 n.1) := by simp [World.cell?, hb1]
    have k1 : w1.cell? ⟨w.heap.size, 1, none⟩ = some (.string n.2) := by simp [World.cell?, hb1]
    have HB1 := Lib.hid hb1
    clear hm hB HB HH HA hb1
    go_wp2_with fail
    refine (parent_any n.2 _ hn).mono ?_
    rintro e w2 ⟨rfl, hB⟩
    have HA2 := Lib.hid (gthen HA1.out hB)
    have HH2 := Lib.hid (HH1.out.below hB)
    have HB2 := Lib.hid ((hB.block _ (Array.getElem?_eq_some_iff.1 HB1.out).1).trans HB1.out)
    clear hB HB1 HH1 HA1 k0 k1
    go_wp2_with fail
    go_loopg [5, 6] n.2.size (fun gk up is wr => ∃ p : ByteArray, gk = p.size ∧ up = .string (parS p) ∧ is = .bool (parB p) ∧ p.size ≤ n.2.size ∧ Hid (upN (hasT T) n = upF (hasT T) n.1 p.size p) ∧ Below w2.heap.size w2 wr)
    case atStart => exact ⟨n.2, rfl, rfl, rfl, Nat.le_refl _, ho, Below.refl _ _⟩
    case round =>
      obtain ⟨p, rfl, rfl, rfl, hps, HU, hBw⟩ := hrel
      have HHr := Lib.hid (HH2.out.below hBw)
      have HAr := Lib.hid (gthen HA2.out hBw)
      have hbr := (hBw.block _ (Array.getElem?_eq_some_iff.1 HB2.out).1).trans HB2.out
      have k0 : wr.cell? ⟨w.heap.size, 0, none⟩ = some (.int .u64 n.1) := by simp [World.cell?, hbr]
      have HBw := Lib.hid hBw
      clear hbr hBw
      cases hp : parB p
      · have hz := Lib.hid (show aboveP T n = .pointer none by unfold aboveP; rw [HU.out, upF_step, hp]; rfl)
        clear hp
        go_wp2_with fail
        go_ret
        exact ⟨by rw [hz.out]; rfl, HAr.out⟩
      · have hl := fun q => (HHr.out.drewN q).look_at rfl (n.1, parS p)
        have c0 := HHr.out.c0
        have hsz := parS_size hp
        have HP := Lib.hid hp
        clear hp
        generalize hup : parS p = up at *
        have HUP := Lib.hid hup
        clear hup
        unfold ptrT at hl
        cases hg : getL T (n.1, up) with
        | some br =>
          obtain ⟨b, r⟩ := br
          rw [hg] at hl
          simp only [Option.map_some] at hl
          have hz := Lib.hid (show aboveP T n = .pointer (some ⟨b, 0, none⟩) by
            have h1 : upN (hasT T) n = some (n.1, up) := by rw [HU.out, upF_step, HP.out, HUP.out]; unfold hasT; rw [hg]; rfl
            unfold aboveP; rw [h1]; unfold ptrT; simp only; rw [hg]; rfl)
          clear hg
          go_wp2_with fail
          go_quiet (fail)
          go_wp2_with fail
          go_ret
          exact ⟨by rw [hz.out]; rfl, below_drewN HAr.out _⟩
        | none =>
          rw [hg] at hl
          simp only [Option.map_none] at hl
          have HU2 := Lib.hid (show upN (hasT T) n = upF (hasT T) n.1 up.size up by
            rw [HU.out, upF_step, HP.out, HUP.out]; unfold hasT; rw [hg]; rfl)
          clear hg
          go_wp2_with fail
          go_quiet (fail)
          have HBq := Lib.hid (below_drewN HBw.out nq)
          clear hl c0
          go_wp2_with fail
          refine (parent_any up _ (by omega)).mono ?_
          rintro e w3 ⟨rfl, hB⟩
          have HB3 := Lib.hid (gthen HBq.out hB)
          clear hB
          go_wp2_with fail
          go_roundg up.size
          case rel => exact ⟨up, rfl, rfl, rfl, by omega, HU2, HB3.out⟩
          case measure => omega
end Go.Proofs.Ytpdnebimkfejoaa
