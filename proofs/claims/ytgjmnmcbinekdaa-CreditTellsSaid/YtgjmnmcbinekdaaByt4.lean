/- Contracts: a reader: New, none, take. -/
import Derived.Test.YtgjmnmcbinekdaaByt3
import Derived.Test.YtgjmnmcbinekdaaFr
namespace Go.Proofs.Ytgjmnmcbinekdaa
open Go.RowKit Go.Lib

theorem rbE {b c : Bool} (h : b = c) : Ending.returned (.bool b) = Ending.returned (.bool c) := by rw [h]
/-- A reader in block b: what is left, its errno. -/
def RdAt (w : World) (b : Nat) (rest : List UInt8) (e : Int) : Prop := w.heap[b]? = some (.cells #[.string ⟨rest.toArray⟩, .int .i64 e, .bool true] 76 (0, 0))
theorem RdAt.c0 {w : World} {b : Nat} {rest : List UInt8} {e : Int} (h : RdAt w b rest e) : w.cell? ⟨b, 0, none⟩ = some (.string ⟨rest.toArray⟩) := by unfold RdAt at h; simp [World.cell?, h]
theorem RdAt.c1 {w : World} {b : Nat} {rest : List UInt8} {e : Int} (h : RdAt w b rest e) : w.cell? ⟨b, 1, none⟩ = some (.int .i64 e) := by unfold RdAt at h; simp [World.cell?, h]
theorem RdAt.c2 {w : World} {b : Nat} {rest : List UInt8} {e : Int} (h : RdAt w b rest e) : w.cell? ⟨b, 2, none⟩ = some (.bool true) := by unfold RdAt at h; simp [World.cell?, h]
theorem RdAt.z {w : World} {b : Nat} {rest : List UInt8} {e : Int} (h : RdAt w b rest e) (o : Nat) : w.frozen? ⟨b, o, none⟩ = false := by unfold RdAt at h; simp [World.frozen?, h]
theorem RdAt.lt {w : World} {b : Nat} {rest : List UInt8} {e : Int} (h : RdAt w b rest e) : b < w.heap.size := (Array.getElem?_eq_some_iff.1 h).1
theorem RdAt.block {w w' : World} {b : Nat} {rest : List UInt8} {e : Int} (h : RdAt w b rest e) (hB : w'.heap[b]? = w.heap[b]?) : RdAt w' b rest e := hB.trans h
theorem RdAt.below {w w' : World} {b : Nat} {rest : List UInt8} {e : Int} (h : RdAt w b rest e) (hB : Below w.heap.size w w') : RdAt w' b rest e := h.block (hB.block b h.lt)
theorem RdAt.setE {w : World} {b : Nat} {rest : List UInt8} {e : Int} (h : RdAt w b rest e) (x : Int) : RdAt (w.setCell ⟨b, 1, none⟩ (.int .i64 x)) b rest x := by
  unfold RdAt at *
  simp [World.setCell, h, Array.getElem?_modify]
theorem RdAt.setR {w : World} {b : Nat} {rest : List UInt8} {e : Int} (h : RdAt w b rest e) (l : List UInt8) : RdAt (w.setCell ⟨b, 0, none⟩ (.string ⟨l.toArray⟩)) b l e := by
  unfold RdAt at *
  simp [World.setCell, h, Array.getElem?_modify]

set_option maxHeartbeats 400000 in
theorem rdNone_any (b : Nat) (rest : List UInt8) (e : Int) (w : World) (h : RdAt w b rest e) :
    Calls Try.prog 48 #[.pointer (some ⟨b, 0, none⟩)] w fun e w' => e = .returned (.bool false) ∧ w' = w := by
  have c2 := h.c2
  clear h
  go_enter Try.func48, Try.ntmps48
  go_wp2_with fail
  go_ret
  exact ⟨rfl, rfl⟩

/-- What take leaves. -/
def takeS (n : Nat) (e : Int) (s : List UInt8 × Int) : Bool × List UInt8 × Int := if s.2 ≠ 0 then (false, s) else if e ≠ 0 then (false, s.1, e) else (true, s.1.drop n, 0)
def TakeR (b : Nat) (s : Bool × List UInt8 × Int) (w : World) (e : Ending) (w' : World) : Prop := e = .returned (.bool s.1) ∧ RdAt w' b s.2.1 s.2.2 ∧ Fr (fun i => i = b) w w'
set_option maxHeartbeats 400000 in
theorem rdTake_any (b n : Nat) (rest : List UInt8) (e ex : Int) (w : World) (h : RdAt w b rest e) (hn : ex = 0 → n ≤ rest.length) (_hl : (rest.length : Int) ≤ 9223372036854775807) :
    Calls Try.prog 58 #[.pointer (some ⟨b, 0, none⟩), .int .i64 n, .int .i64 ex] w (TakeR b (takeS n ex (rest, e)) w) := by
  have H := Lib.hid h
  have c0 := h.c0
  have c1 := h.c1
  have z0 := h.z 0
  have z1 := h.z 1
  clear h
  go_enter Try.func58, Try.ntmps58
  by_cases he : e = 0
  · have hb : (e != 0) = false := by simp [he]
    have HE := Lib.hid he
    clear he
    by_cases hx : ex = 0
    · have hb2 : (ex != 0) = false := by simp [hx]
      have hn2 := hn hx
      have HXX := Lib.hid hx
      have HS : Hid (takeS n ex (rest, e) = (true, rest.drop n, ex)) := by show _ = _; unfold takeS; rw [if_neg (by simp [HE.out]), if_neg (by simp [hx]), hx]
      clear hx hn
      have HF : Hid (RdAt ((w.setCell ⟨b, 1, none⟩ (.int .i64 ex)).setCell ⟨b, 0, none⟩ (.string ⟨(rest.drop n).toArray⟩)) b (rest.drop n) ex) := (H.out.setE ex).setR _
      have HFr : Hid (Fr (fun i => i = b) w ((w.setCell ⟨b, 1, none⟩ (.int .i64 ex)).setCell ⟨b, 0, none⟩ (.string ⟨(rest.drop n).toArray⟩))) := ((Fr.refl (fun i => i = b) w).setCell (p := ⟨b, 1, none⟩) rfl _).setCell (p := ⟨b, 0, none⟩) rfl _
      go_wp2_with fail
      go_ret
      have ex0 : (⟨rest.toArray⟩ : ByteArray).extract n rest.length = ⟨(rest.drop n).toArray⟩ := by rw [Lib.extract_eq, List.take_of_length_le (by simp)]
      rw [ex0]
      exact ⟨rbE (by rw [HS.out]), by rw [HS.out]; exact HF.out, HFr.out⟩
    · have hb2 : (ex != 0) = true := by simp [hx]
      have HS : Hid (takeS n ex (rest, e) = (false, rest, ex)) := by show _ = _; unfold takeS; rw [if_neg (by simp [HE.out]), if_pos hx]
      clear hx hn
      go_wp2_with fail
      go_ret
      exact ⟨rbE (by rw [HS.out]), by rw [HS.out]; exact H.out.setE ex, (Fr.refl (fun i => i = b) w).setCell (p := ⟨b, 1, none⟩) rfl _⟩
  · have hb : (e != 0) = true := by simp [he]
    have HS : Hid (takeS n ex (rest, e) = (false, rest, e)) := by show _ = _; unfold takeS; rw [if_pos he]
    clear he hn
    go_wp2_with fail
    go_ret
    exact ⟨rbE (by rw [HS.out]), by rw [HS.out]; exact H.out, Fr.refl _ _⟩
end Go.Proofs.Ytgjmnmcbinekdaa
