/- Credits: which may be; one, none; two held against each other. -/
import Derived.Test.YtgjmnmcbinekdaaReads
import Derived.WalkKit
import Derived.WalkSpells
import Derived.WalkLawsBesides
import Derived.OwnWalk
import Derived.BigQuiet
import Derived.Carry
import Derived.Deep.DeepCutAuto
import Derived.Deep.CutBlock
import Derived.Deep.LoopGhost
import Derived.Deep.RegionHeld3
import Derived.Deep.QuietTactic
import Derived.Lib.SliceRun
import Derived.Lib.OwnBridge
import Derived.Lib.AppendZeros
import Derived.Lib.AppendZerosOnto
import Derived.Deep.AppendSrc
import Derived.Laws.IdiomCopy
namespace Go.Proofs.Ytgjmnmcbinekdaa
open Go.RowKit Go.Sort Go.Lib

def encC (x : Int) : List Value := [.int .i64 x]
theorem cthen {n : Nat} {w w1 w2 : World} (h : Below n w w1) (hn : n ≤ w.heap.size) (h2 : Below w1.heap.size w1 w2) : Below n w w2 := h.trans (h2.mono (Nat.le_trans hn h.size))
theorem ret_boolE {b c : Bool} (h : b = c) : Ending.returned (.bool b) = Ending.returned (.bool c) := by rw [h]
theorem ret_intE {k : IntKind} {b c : Int} (h : b = c) : Ending.returned (.int k b) = Ending.returned (.int k c) := by rw [h]
theorem cell_keep {w w' : World} {a : Addr} {v : Value} (hB : Below w.heap.size w w') (h : w.cell? a = some v) : w'.cell? a = some v := (hB.cell (World.block_lt_of_cell? _ _ h)).trans h
def GoodC (l : List Int) (j : Nat) : Prop := (¬ l.getD j 0 < 0) ∧ (¬ 4096 < l.getD j 0) ∧ (0 < j → ¬ l.getD j 0 ≤ l.getD (j - 1) 0 ∧ ¬ l.getD 0 0 = 0)
instance (l : List Int) (j : Nat) : Decidable (GoodC l j) := by unfold GoodC; infer_instance
def mayC (l : List Int) : Bool := (List.range l.length).all fun j => decide (GoodC l j)
theorem mayC_no {l : List Int} {j : Nat} (hj : j < l.length) (h : ¬ GoodC l j) : false = mayC l := by
  symm
  unfold mayC
  rw [Bool.eq_false_iff]
  intro ha
  rw [List.all_eq_true] at ha
  exact h (of_decide_eq_true (ha j (List.mem_range.2 hj)))
theorem mayC_yes {l : List Int} (h : ∀ j, j < l.length → GoodC l j) : true = mayC l := by
  symm
  unfold mayC
  rw [List.all_eq_true]
  intro j hj
  exact decide_eq_true (h j (List.mem_range.1 hj))
theorem mayC_iff {l : List Int} : mayC l = true ↔ ∀ j, j < l.length → GoodC l j := by
  constructor
  · intro h j hj
    unfold mayC at h
    rw [List.all_eq_true] at h
    exact of_decide_eq_true (h j (List.mem_range.2 hj))
  · intro h; exact (mayC_yes h).symm
theorem reads_cell {w : World} {l : List Int} {b off : Nat} (hc : ∀ i (h : i < l.length) t u, (encC l[i])[t]? = some u → w.cell? ⟨b, off + (i * 1 + t), none⟩ = some u) (k : Nat) (hk : k < l.length) : w.cell? ⟨b, off + k, none⟩ = some (.int .i64 (l.getD k 0)) := by
  have h := hc k hk 0 _ rfl
  rw [Nat.mul_one, Nat.add_zero] at h
  rw [h]
  simp [List.getD_eq_getElem?_getD, hk]
set_option maxHeartbeats 1600000 in
set_option maxRecDepth 100000 in
theorem cmay_any (l : List Int) (v : Value) (w : World) (h : ReadsK encC 1 w v l) (hl : l.length ≤ 1000000) :
    Calls Try.prog 13 #[v] w fun e w' => e = .returned (.bool (mayC l)) ∧ w' = w := by
  obtain ⟨a, c, rfl⟩ := h.slice
  have HR := Lib.hid h
  clear h
  go_enter Try.func13, Try.ntmps13
  go_wp2_with fail
  go_loopg [7] l.length (fun gk i wr => ∃ k : Nat, gk + k = l.length ∧ i = .int .i64 k ∧ wr = w ∧ ∀ j, j < k → GoodC l j)
  case atStart => exact ⟨0, by omega, rfl, rfl, fun j h0 => by omega⟩
  case round =>
    obtain ⟨k, hk, rfl, rfl, hno⟩ := hrel
    have HNO := Lib.hid hno
    clear hno
    by_cases hlt : k < l.length
    · obtain ⟨b, off, cc, he, hb, hc⟩ := HR.out.at (by omega)
      injection he with he1 he2 he3
      subst he1
      have hcc := reads_cell hc k hlt
      have hc0 := reads_cell hc 0 (by omega)
      have hc1 : 0 < k → wr.cell? ⟨b, off + (k - 1), none⟩ = some (.int .i64 (l.getD (k - 1) 0)) := fun h => reads_cell hc (k - 1) (by omega)
      clear hc hb he2 he3
      rw [Nat.add_zero] at hc0
      have NO := Lib.hid (fun h : ¬ GoodC l k => mayC_no hlt h)
      have YES := Lib.hid (fun h : GoodC l k => (show ∀ j, j < k + 1 → GoodC l j from fun j hj => by
        by_cases e : j = k
        · subst e; exact h
        · exact HNO.out j (by omega)))
      obtain ⟨x, hx⟩ : ∃ x, l.getD k 0 = x := ⟨_, rfl⟩
      obtain ⟨z, hz⟩ : ∃ z, l.getD 0 0 = z := ⟨_, rfl⟩
      obtain ⟨y, hy⟩ : ∃ y, l.getD (k - 1) 0 = y := ⟨_, rfl⟩
      rw [hx] at hcc
      rw [hz] at hc0
      rw [hy] at hc1
      have G : Hid (GoodC l k ↔ (¬ x < 0) ∧ (¬ 4096 < x) ∧ (0 < k → ¬ x ≤ y ∧ ¬ z = 0)) := by
        show _ ↔ _
        unfold GoodC; rw [hx, hy, hz]
      clear hx hy hz
      by_cases t1 : x < 0
      · have B := Lib.hid (NO.out (fun h => (G.out.1 h).1 t1))
        go_wp2_with fail
        go_ret
        exact ⟨ret_boolE B.out, rfl⟩
      · by_cases t2 : 4096 < x
        · have B := Lib.hid (NO.out (fun h => (G.out.1 h).2.1 t2))
          go_wp2_with fail
          go_ret
          exact ⟨ret_boolE B.out, rfl⟩
        · by_cases t0 : k = 0
          · subst t0
            have B := Lib.hid (YES.out (G.out.2 ⟨t1, t2, fun h => absurd h (by omega)⟩))
            clear hc1 hc0
            rw [Nat.add_zero] at hcc
            go_wp2_with fail
            go_roundg (gk - 1)
            case rel => exact ⟨1, by omega, rfl, rfl, B.out⟩
            case measure => omega
          · have hk0 : (0 : Int) < (k : Int) := by omega
            have hc1' := hc1 (by omega)
            have e1 : ((k : Int) - 1) = ((k - 1 : Nat) : Int) := by omega
            clear hc1
            by_cases t3 : x ≤ y
            · have B := Lib.hid (NO.out (fun h => ((G.out.1 h).2.2 (by omega)).1 t3))
              go_wp2_with fail
              go_ret
              exact ⟨ret_boolE B.out, rfl⟩
            · by_cases t4 : z = 0
              · have B := Lib.hid (NO.out (fun h => ((G.out.1 h).2.2 (by omega)).2 t4))
                go_wp2_with fail
                go_ret
                exact ⟨ret_boolE B.out, rfl⟩
              · have B := Lib.hid (YES.out (G.out.2 ⟨t1, t2, fun _ => ⟨t3, t4⟩⟩))
                go_wp2_with fail
                go_roundg (gk - 1)
                case rel => exact ⟨k + 1, by omega, by go_num, rfl, B.out⟩
                case measure => omega
    · have B := Lib.hid (mayC_yes (l := l) (fun j hj => HNO.out j (by omega)))
      go_wp2_with fail
      go_ret
      exact ⟨ret_boolE B.out, rfl⟩
end Go.Proofs.Ytgjmnmcbinekdaa
