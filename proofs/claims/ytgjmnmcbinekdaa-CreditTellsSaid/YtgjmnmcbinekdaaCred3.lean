/- Credits: searched, one number less. -/
import Derived.Test.YtgjmnmcbinekdaaCred2
import Derived.Test.YtgjmnmcbinekdaaShelf20
namespace Go.Proofs.Ytgjmnmcbinekdaa
open Go.RowKit Go.Sort Go.Lib Go.Shelf

/-- A credit of the call's own. -/
def COwn (w : World) (B : Nat) (v : Value) (l : List Int) : Prop := w.ownsRow B 3 1 v l.length (l.flatMap encC)
theorem fm_map (l : List Int) : l.flatMap encC = l.map (Value.int .i64) := by rw [List.map_eq_flatMap]; rfl
theorem COwn.map {w : World} {B : Nat} {v : Value} {l : List Int} (h : COwn w B v l) : w.ownsRow B 3 1 v l.length (l.map (Value.int .i64)) := by unfold COwn at h; rwa [fm_map] at h
theorem COwn.of {w : World} {B : Nat} {v : Value} {l : List Int} (h : w.ownsRow B 3 1 v l.length (l.map (Value.int .i64))) : COwn w B v l := by unfold COwn; rwa [fm_map]
theorem COwn.reads {w : World} {B : Nat} {v : Value} {l : List Int} (h : COwn w B v l) : ReadsK encC 1 w v l := creads h
theorem COwn.nil (w : World) (B : Nat) : COwn w B (.slice none 0 0) [] := World.ownsRow_nil _ _ _ _
/-- How many numbers are less. -/
def atC (l : List Int) (k : Int) : Nat := l.countP (· < k)
theorem atC_le (l : List Int) (k : Int) : atC l k ≤ l.length := List.countP_le_length
set_option maxHeartbeats 800000 in
set_option maxRecDepth 100000 in
theorem bs_own (l : List Int) (k : Int) (v : Value) (B : Nat) (w : World) (h : COwn w B v l) (hl : l.length ≤ 1000000) (hs : l.Pairwise (· < ·)) :
    Calls Try.prog 51 #[v, .int .i64 k] w fun e w' => e = .returned (.tuple #[.int .i64 (atC l k : Nat), .bool (l.contains k)]) ∧ Below w.heap.size w w' := by
  by_cases hv : v = .slice none 0 0
  · subst hv
    have h0 : l = [] := by
      rcases h.2 with ⟨_, h0⟩ | ⟨g, cap, cur, hv, _⟩
      · exact List.length_eq_zero_iff.1 h0
      · injection hv with hv; cases hv
    subst h0
    clear h
    go_enter Try.func51, Try.ntmps51
    go_wp2_with fail
    go_loopg [7, 8] 0 (fun _ i j wr => i = .int .i64 0 ∧ j = .int .i64 0 ∧ wr = w)
    case atStart => exact ⟨rfl, rfl, rfl⟩
    case round =>
      obtain ⟨rfl, rfl, rfl⟩ := hrel
      go_wp2_with fail
      go_ret2
      exact ⟨rfl, Below.refl _ _⟩
  · obtain ⟨g, cap, rfl, hB, hg, hn, hm, _, hH⟩ := Lib.holds_of_ownsRow h.map hv
    have hc : ∀ j, j < l.length → w.cell? ⟨g, 0 + j, none⟩ = some (.int .i64 (l.getD j 0)) := fun j hj => by
      have := (hH j (by simpa using hj)).1
      rw [this]
      simp [hj, getElem!_pos, List.getD_eq_getElem?_getD]
    have hcon := AnyG.slices_BinarySearch_int Try.bs g 0 l.length cap l k w (Nat.le_refl _) (by omega) hc (by rw [List.take_length]; exact hs.imp (fun h => Int.le_of_lt h))
    rw [List.take_length] at hcon
    change Calls Try.prog 51 _ _ _ at hcon
    refine hcon.mono ?_
    rintro e w' ⟨rfl, q, rfl⟩
    exact ⟨rfl, below_drewN (Below.refl _ _) q⟩
/-- One number less. -/
def delC (l : List Int) (k : Int) : List Int := l.take (atC l k) ++ l.drop (atC l k + 1)
set_option maxHeartbeats 800000 in
theorem del_own (l : List Int) (i : Nat) (v : Value) (B : Nat) (w : World) (h : COwn w B v l) (hi : i < l.length) (_hB0 : B ≤ w.heap.size) :
    Calls Try.prog 53 #[v, .int .i64 i, .int .i64 ((i : Int) + 1)] w fun e w' => ∃ v', e = .returned v' ∧ COwn w' B v' (l.take i ++ l.drop (i + 1)) ∧ Below B w w' := by
  have hv : v ≠ .slice none 0 0 := by
    rintro rfl
    rcases h.2 with ⟨_, h0⟩ | ⟨g, cap, cur, hv, _⟩
    · omega
    · injection hv with hv; cases hv
  obtain ⟨g, cap, rfl, hB, hg, hn, hm, _, hH⟩ := Lib.holds_of_ownsRow h.map hv
  have hcon := AnyG.slices_Delete_int Try.del g 0 cap i (i + 1) l w hH hn (by unfold maxLen at hm; omega) (by omega) (by omega)
  change Calls Try.prog 53 _ _ _ at hcon
  rw [show ((i + 1 : Nat) : Int) = (i : Int) + 1 by omega] at hcon
  refine hcon.mono ?_
  rintro e w' ⟨rfl, q, rfl⟩
  refine ⟨_, rfl, ?_, Lib.below_putRow (Below.refl _ _) hB⟩
  have hlen : (l.take i ++ l.drop (i + 1)).length = l.length - (i + 1 - i) := by simp; omega
  have h2 := Lib.ownsRow_putRow (q := q) (k := l.length - (i + 1 - i)) (ys := l.take i ++ l.drop (i + 1) ++ List.replicate (i + 1 - i) 0) h.map (by simp; omega) (by omega)
  rw [List.take_left' hlen] at h2
  apply COwn.of
  rw [hlen]
  exact h2
end Go.Proofs.Ytgjmnmcbinekdaa
