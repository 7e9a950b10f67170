/- Timers and the document's timers side by side. -/
import Derived.Test.YteladooegjgdnaaRt6
import Derived.Test.YteladooegjgdnaaRt7
import Derived.Test.YteladooegjgdnaaAll3
import Derived.Deep.LoopGhost
import Derived.Deep.DeepCutAuto
import Derived.Deep.CutBlock
namespace Go.Proofs.Yteladooegjgdnaa
open Go.RowKit Go.Sort Go.Lib

def sl (ts : Array Value) (i : Nat) : Value := ts.getD i undef
theorem frame_of {n : Nat} {ts : Array Value} (h : ts.size = n) : ts = ((List.range n).map (sl ts)).toArray := by
  apply Array.ext
  · simp [h]
  · intro i h1 h2
    simp [sl, Array.getD, h1]
set_option maxRecDepth 100000 in
theorem frame_lit170 {ts : Array Value} (h : ts.size = 170) : ts = #[sl ts 0, sl ts 1, sl ts 2, sl ts 3, sl ts 4, sl ts 5, sl ts 6, sl ts 7, sl ts 8, sl ts 9, sl ts 10, sl ts 11, sl ts 12, sl ts 13, sl ts 14, sl ts 15, sl ts 16, sl ts 17, sl ts 18, sl ts 19, sl ts 20, sl ts 21, sl ts 22, sl ts 23, sl ts 24, sl ts 25, sl ts 26, sl ts 27, sl ts 28, sl ts 29, sl ts 30, sl ts 31, sl ts 32, sl ts 33, sl ts 34, sl ts 35, sl ts 36, sl ts 37, sl ts 38, sl ts 39, sl ts 40, sl ts 41, sl ts 42, sl ts 43, sl ts 44, sl ts 45, sl ts 46, sl ts 47, sl ts 48, sl ts 49, sl ts 50, sl ts 51, sl ts 52, sl ts 53, sl ts 54, sl ts 55, sl ts 56, sl ts 57, sl ts 58, sl ts 59, sl ts 60, sl ts 61, sl ts 62, sl ts 63, sl ts 64, sl ts 65, sl ts 66, sl ts 67, sl ts 68, sl ts 69, sl ts 70, sl ts 71, sl ts 72, sl ts 73, sl ts 74, sl ts 75, sl ts 76, sl ts 77, sl ts 78, sl ts 79, sl ts 80, sl ts 81, sl ts 82, sl ts 83, sl ts 84, sl ts 85, sl ts 86, sl ts 87, sl ts 88, sl ts 89, sl ts 90, sl ts 91, sl ts 92, sl ts 93, sl ts 94, sl ts 95, sl ts 96, sl ts 97, sl ts 98, sl ts 99, sl ts 100, sl ts 101, sl ts 102, sl ts 103, sl ts 104, sl ts 105, sl ts 106, sl ts 107, sl ts 108, sl ts 109, sl ts 110, sl ts 111, sl ts 112, sl ts 113, sl ts 114, sl ts 115, sl ts 116, sl ts 117, sl ts 118, sl ts 119, sl ts 120, sl ts 121, sl ts 122, sl ts 123, sl ts 124, sl ts 125, sl ts 126, sl ts 127, sl ts 128, sl ts 129, sl ts 130, sl ts 131, sl ts 132, sl ts 133, sl ts 134, sl ts 135, sl ts 136, sl ts 137, sl ts 138, sl ts 139, sl ts 140, sl ts 141, sl ts 142, sl ts 143, sl ts 144, sl ts 145, sl ts 146, sl ts 147, sl ts 148, sl ts 149, sl ts 150, sl ts 151, sl ts 152, sl ts 153, sl ts 154, sl ts 155, sl ts 156, sl ts 157, sl ts 158, sl ts 159, sl ts 160, sl ts 161, sl ts 162, sl ts 163, sl ts 164, sl ts 165, sl ts 166, sl ts 167, sl ts 168, sl ts 169] := (frame_of h).trans rfl
abbrev StepT : TypeId := 29
abbrev stepC (x : Stp) : Array Value := #[.int .i64 x.1, .string x.2.1, .string x.2.2.1, .int .i64 x.2.2.2]
theorem step_cells {w : World} {s : Nat} {x : Stp} (h : BoxAt w s (stepC x) StepT) : w.cell? ⟨s, 0, none⟩ = some (.int .i64 x.1) ∧ w.cell? ⟨s, 1, none⟩ = some (.string x.2.1) ∧ w.cell? ⟨s, 2, none⟩ = some (.string x.2.2.1) ∧ w.cell? ⟨s, 3, none⟩ = some (.int .i64 x.2.2.2) := ⟨h.cell 0, h.cell 1, h.cell 2, h.cell 3⟩
/-- Timers of the call's own, the document's too. -/
structure Pt (w0 : World) (b : Nat) (rv : Value) (L : List Tm) (c : Int) (r : Nat) (lv : Value) (M : List Tm) (m : Int) (w : World) : Prop where
  t : Wt w0 b rv L c w
  d : Rms w0.heap.size r lv M m w
  ap : NoSame rv lv
section
variable {w0 w w' : World} {b r : Nat} {rv rv' lv lv' : Value} {L L' M M' : List Tm} {c c' m m' : Int} {x : Stp}
theorem Rms.cell {Z : Nat} (h : Rms Z r lv M m w) : w.cell? ⟨r, 0, none⟩ = some (.int .i64 m) := by
  obtain ⟨l, hq, _⟩ := h
  exact hq.cell.1
theorem Pt.below (h : Pt w0 b rv L c r lv M m w) (hB : Below w.heap.size w w') : Pt w0 b rv L c r lv M m w' := ⟨h.t.below hB, h.d.below hB, h.ap⟩
theorem Pt.left (h : Pt w0 b rv L c r lv M m w) (ht : Tms w0.heap.size b rv' L' c' w') (hL : QL b rv w rv' w') : Pt w0 b rv' L' c' r lv M m w' := by
  obtain ⟨l, hq, _, _⟩ := h.t.tms
  obtain ⟨l2, q2, p2⟩ := h.d
  have h1 : ¬ QS b rv r := fun e => e.elim (fun e => box_ne q2.box hq.box (by decide) e) (own_not_box hq.own q2.box (by decide))
  refine ⟨h.t.next ht hL, ⟨l2, ⟨q2.box.fr hL.fr h1, own_fr q2.own hL.fr (fun i hi hs => hs.elim (fun e => own_not_box q2.own hq.box (by decide) (e ▸ hi)) (fun e => h.ap i e hi)), q2.zr⟩, p2⟩, ?_⟩
  intro g hg hu
  rcases hL.own with e | e
  · exact h.ap g (e ▸ hg) hu
  · have h2 := e g hg; have h3 := q2.block g hu; omega
theorem Pt.right (h : Pt w0 b rv L c r lv M m w) (hd : Rms w0.heap.size r lv' M' m' w') (hR : RL r lv w lv' w') : Pt w0 b rv L c r lv' M' m' w' := by
  obtain ⟨l, hq, ht, hn⟩ := h.t.tms
  obtain ⟨l2, q2, p2⟩ := h.d
  refine ⟨⟨⟨l, ⟨hq.box.fr hR.fr (fun e => box_ne q2.box hq.box (by decide) e.symm), own_fr hq.own hR.fr (fun i hi e => own_not_box hq.own q2.box (by decide) (e ▸ hi)), hq.zb⟩, ht, hn⟩, h.t.low.trans (hR.fr.below (fun i e => by subst e; exact q2.zr) h.t.low.size)⟩, hd, ?_⟩
  intro g hg hu
  rcases hR.own with e | e
  · exact h.ap g hg (e ▸ hu)
  · have h2 := e g hu; have h3 := (hq.own.lt g hg).2; omega
theorem Pt.boxL {s : Nat} (h : Pt w0 b rv L c r lv M m w) (hs : BoxAt w s (stepC x) StepT) (hL : QL b rv w rv' w') : BoxAt w' s (stepC x) StepT := by
  obtain ⟨l, hq, _, _⟩ := h.t.tms
  refine hs.fr hL.fr ?_
  rintro (e | e)
  · exact box_ne hs hq.box (by decide) e
  · exact own_not_box hq.own hs (by decide) e
theorem Pt.boxR {s : Nat} (h : Pt w0 b rv L c r lv M m w) (hs : BoxAt w s (stepC x) StepT) (hR : RL r lv w lv' w') : BoxAt w' s (stepC x) StepT := by
  obtain ⟨l2, q2, _⟩ := h.d
  exact hs.fr hR.fr (fun e => box_ne hs q2.box (by decide) e)
/-- An own list of timers is not turned by the document's. -/
theorem Pt.ownR {Z n : Nat} {v : Value} {xs : List Value} (h : Pt w0 b rv L c r lv M m w) (ho : w.ownsRow Z TmT 2 v n xs) (hR : RL r lv w lv' w') : w'.ownsRow Z TmT 2 v n xs := by
  obtain ⟨l2, q2, _⟩ := h.d
  exact own_fr ho hR.fr (fun i hi e => own_not_box ho q2.box (by decide) (e ▸ hi))
end
def headK (L : List Tm) : ByteArray := match L with | [] => ⟨#[]⟩ | x :: _ => x.k
def headA (L : List Tm) : Int := match L with | [] => 0 | x :: _ => x.a
theorem nextV_head (L : List Tm) : nextV L = .tuple #[.agg #[.string (headK L), .int .i64 (headA L)], .bool (!L.isEmpty)] := by cases L <;> rfl
set_option maxHeartbeats 800000 in
theorem stop_none {Z b : Nat} {rv : Value} {L : List Tm} {now : Int} {w : World} (h : Tms Z b rv L now w) : Calls Try.prog 17 #[TP b, .slice none 0 0] w fun e w' => e = .returned (.int .i64 0) ∧ w' = w := by
  clear h
  go_enter Try.func17, Try.ntmps17
  go_wp2_with fail
  go_loopg [4, 12] 0 (fun gk t4 t12 wr => t12 = .int .i64 0 ∧ t4 = .int .i64 0 ∧ wr = w)
  case atStart => exact ⟨rfl, rfl, rfl⟩
  case round =>
    obtain ⟨rfl, rfl, rfl⟩ := hrel
    go_wp2_with fail
    go_ret
    exact ⟨rfl, rfl⟩
end Go.Proofs.Yteladooegjgdnaa
