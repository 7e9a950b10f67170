/- How lists of steps and of grants read; contract: heavy. -/
import Derived.Test.YtbelafkklblidaaEpoch12
namespace Go.Proofs.Ytbelafkklblidaa
open Go.RowKit Go.Sort Go.Lib

abbrev Stp := Int × Nm × Int
def encS (s : Stp) : List Value := [.int .i64 s.1, .int .u64 s.2.1.1, .string s.2.1.2, .int .u64 s.2.2]

/-- A slice that reads as this list, each element k cells. -/
def ReadsK {α : Type} (enc : α → List Value) (k : Nat) (w : World) (v : Value) (l : List α) : Prop :=
  (l = [] ∧ ∃ a cap, v = .slice a 0 cap) ∨
  ∃ b off cap, v = .slice (some ⟨b, off, none⟩) l.length cap ∧ b < w.heap.size ∧ ∀ i (h : i < l.length) t u, (enc l[i])[t]? = some u → w.cell? ⟨b, off + (i * k + t), none⟩ = some u
theorem ReadsK.slice {α : Type} {enc : α → List Value} {k : Nat} {w : World} {v : Value} {l : List α} (h : ReadsK enc k w v l) : ∃ a cap, v = .slice a l.length cap := by
  rcases h with ⟨rfl, a, cap, rfl⟩ | ⟨b, off, cap, rfl, _⟩ <;> exact ⟨_, _, rfl⟩
theorem ReadsK.below {α : Type} {enc : α → List Value} {k : Nat} {w w' : World} {v : Value} {l : List α} (h : ReadsK enc k w v l) (hB : Below w.heap.size w w') : ReadsK enc k w' v l := by
  rcases h with h | ⟨b, off, cap, hv, hb, hc⟩
  · exact .inl h
  · exact .inr ⟨b, off, cap, hv, Nat.lt_of_lt_of_le hb hB.size, fun i hi t u hu => (hB.cell (p := ⟨b, off + (i * k + t), none⟩) hb).trans (hc i hi t u hu)⟩
theorem ReadsK.at {α : Type} {enc : α → List Value} {k : Nat} {w : World} {v : Value} {l : List α} (h : ReadsK enc k w v l) (hl : 0 < l.length) :
    ∃ b off cap, v = .slice (some ⟨b, off, none⟩) l.length cap ∧ b < w.heap.size ∧ ∀ i (h : i < l.length) t u, (enc l[i])[t]? = some u → w.cell? ⟨b, off + (i * k + t), none⟩ = some u := by
  rcases h with ⟨rfl, _⟩ | h
  · simp at hl
  · exact h

def HeavyP (n m : Nat) (w : World) (e : Ending) (w' : World) : Prop := ∃ b, e = .returned (.bool b) ∧ w' = w ∧ (b = false → n ≤ 200 ∧ m ≤ 200)
theorem HeavyP.yes {n m : Nat} {w : World} {e : Ending} (h : e = .returned (.bool true)) : HeavyP n m w e w := ⟨true, h, rfl, by simp⟩
theorem HeavyP.no {n m : Nat} {w : World} {e : Ending} (h : e = .returned (.bool false)) (hn : n ≤ 200) (hm : m ≤ 200) : HeavyP n m w e w := ⟨false, h, rfl, fun _ => ⟨hn, hm⟩⟩

set_option maxHeartbeats 1600000 in
set_option maxRecDepth 100000 in
theorem heavy_any (v u : Value) (l : List Stp) (rows : List Gr) (w : World) (hv : ReadsK encS 4 w v l) (hu : ReadsK encG 3 w u rows) (hl : (l.length : Int) ≤ 9223372036854775807) (hr : (rows.length : Int) ≤ 9223372036854775807) :
    Calls Try.prog 7 #[v, u] w (HeavyP l.length rows.length w) := by
  obtain ⟨a, cap, rfl⟩ := hv.slice
  obtain ⟨a', cap', rfl⟩ := hu.slice
  have HV := Lib.hid hv
  have HU := Lib.hid hu
  clear hv hu
  go_enter Try.func7, Try.ntmps7
  go_wp2_with fail
  go_loop [5, 6] (fun s i => ∃ (x : Int) (k : Nat), k ≤ l.length ∧ s = .int .i64 x ∧ i = .int .i64 k) (fun _ i => l.length - (intOf i).toNat)
  case atStart => exact ⟨0, 0, Nat.zero_le _, rfl, rfl⟩
  case round =>
    obtain ⟨x, k, hk, rfl, rfl⟩ := hrel
    by_cases h1 : k < l.length
    · by_cases h2 : k < 300
      · obtain ⟨b, off, c, he, hb, hc⟩ := HV.out.at (by omega)
        injection he with he1 he2 he3
        subst he1
        have hcell : w.cell? ⟨b, off + k * 4 + 1 + 1, none⟩ = some (.string l[k].2.1.2) := by have := hc k h1 2 (.string l[k].2.1.2) rfl; rwa [show off + (k * 4 + 2) = off + k * 4 + 1 + 1 by omega] at this
        clear hc he3
        go_wp2_with fail
        go_round
        case rel => exact ⟨_, k + 1, by omega, rfl, by go_num⟩
        case measure => simp [intOf]; omega
      · go_wp2_with fail
        clear h1
        go_loop [5, 7] (fun s i => ∃ (x : Int) (k : Nat), k ≤ rows.length ∧ s = .int .i64 x ∧ i = .int .i64 k) (fun _ i => rows.length - (intOf i).toNat)
        case atStart => exact ⟨x, 0, Nat.zero_le _, rfl, rfl⟩
        case round =>
          obtain ⟨y, j, hj, rfl, rfl⟩ := hrel
          by_cases h1 : j < rows.length
          · by_cases h2' : j < 300
            · obtain ⟨b, off, c, he, hb, hc⟩ := HU.out.at (by omega)
              injection he with he1 he2 he3
              subst he1
              have hcell : w.cell? ⟨b, off + j * 3 + 1, none⟩ = some (.string rows[j].1.2) := by have := hc j h1 1 (.string rows[j].1.2) rfl; rwa [show off + (j * 3 + 1) = off + j * 3 + 1 by omega] at this
              clear hc he3
              go_wp2_with fail
              go_round
              case rel => exact ⟨_, j + 1, by omega, rfl, by go_num⟩
              case measure => simp [intOf]; omega
            · have h3 : (200 : Int) < rows.length := by omega
              by_cases h4 : (200 : Int) < l.length
              · go_wp2_with fail
                go_ret
                exact HeavyP.yes (ret_bool rfl)
              · omega
          · by_cases h4 : (200 : Int) < l.length
            · go_wp2_with fail
              go_ret
              exact HeavyP.yes (ret_bool rfl)
            · omega
    · go_wp2_with fail
      clear h1
      go_loop [5, 7] (fun s i => ∃ (x : Int) (k : Nat), k ≤ rows.length ∧ s = .int .i64 x ∧ i = .int .i64 k) (fun _ i => rows.length - (intOf i).toNat)
      case atStart => exact ⟨x, 0, Nat.zero_le _, rfl, rfl⟩
      case round =>
        obtain ⟨y, j, hj, rfl, rfl⟩ := hrel
        by_cases h1 : j < rows.length
        · by_cases h2' : j < 300
          · obtain ⟨b, off, c, he, hb, hc⟩ := HU.out.at (by omega)
            injection he with he1 he2 he3
            subst he1
            have hcell : w.cell? ⟨b, off + j * 3 + 1, none⟩ = some (.string rows[j].1.2) := by have := hc j h1 1 (.string rows[j].1.2) rfl; rwa [show off + (j * 3 + 1) = off + j * 3 + 1 by omega] at this
            clear hc he3
            go_wp2_with fail
            go_round
            case rel => exact ⟨_, j + 1, by omega, rfl, by go_num⟩
            case measure => simp [intOf]; omega
          · have h3 : (200 : Int) < rows.length := by omega
            by_cases h4 : (200 : Int) < l.length
            · go_wp2_with fail
              go_ret
              exact HeavyP.yes (ret_bool rfl)
            · go_wp2_with fail
              go_ret
              exact HeavyP.yes (ret_bool rfl)
        · by_cases h4 : (200 : Int) < l.length
          · go_wp2_with fail
            go_ret
            exact HeavyP.yes (ret_bool rfl)
          · by_cases h5 : (200 : Int) < rows.length
            · go_wp2_with fail
              go_ret
              exact HeavyP.yes (ret_bool rfl)
            · by_cases h6 : (8192 : Int) < y
              · go_wp2_with fail
                go_ret
                exact HeavyP.yes (ret_bool rfl)
              · go_wp2_with fail
                go_ret
                exact HeavyP.no (ret_bool rfl) (by omega) (by omega)
end Go.Proofs.Ytbelafkklblidaa
