/- Timers and the caller's map side by side; a frame of 233 slots. -/
import Derived.Test.YteladooegjgdnaaOnLaw
import Derived.Test.YteladooegjgdnaaAll3
import Derived.Deep.LoopGhost
import Derived.Deep.DeepCutAuto
import Derived.Deep.CutBlock
namespace Go.Proofs.Yteladooegjgdnaa
open Go.RowKit Go.Sort Go.Lib

def sl (ts : Array Value) (i : Nat) : Value := ts.getD i undef
theorem frame_of {n : Nat} {ts : Array Value} (h : ts.size = n) : ts = ((List.range n).map (sl ts)).toArray := by
  apply Array.ext
  · simp [h]
  · intro i h1 h2
    simp [sl, Array.getD, h1]
set_option maxRecDepth 100000 in
theorem frame_lit233 {ts : Array Value} (h : ts.size = 233) : ts = #[sl ts 0, sl ts 1, sl ts 2, sl ts 3, sl ts 4, sl ts 5, sl ts 6, sl ts 7, sl ts 8, sl ts 9, sl ts 10, sl ts 11, sl ts 12, sl ts 13, sl ts 14, sl ts 15, sl ts 16, sl ts 17, sl ts 18, sl ts 19, sl ts 20, sl ts 21, sl ts 22, sl ts 23, sl ts 24, sl ts 25, sl ts 26, sl ts 27, sl ts 28, sl ts 29, sl ts 30, sl ts 31, sl ts 32, sl ts 33, sl ts 34, sl ts 35, sl ts 36, sl ts 37, sl ts 38, sl ts 39, sl ts 40, sl ts 41, sl ts 42, sl ts 43, sl ts 44, sl ts 45, sl ts 46, sl ts 47, sl ts 48, sl ts 49, sl ts 50, sl ts 51, sl ts 52, sl ts 53, sl ts 54, sl ts 55, sl ts 56, sl ts 57, sl ts 58, sl ts 59, sl ts 60, sl ts 61, sl ts 62, sl ts 63, sl ts 64, sl ts 65, sl ts 66, sl ts 67, sl ts 68, sl ts 69, sl ts 70, sl ts 71, sl ts 72, sl ts 73, sl ts 74, sl ts 75, sl ts 76, sl ts 77, sl ts 78, sl ts 79, sl ts 80, sl ts 81, sl ts 82, sl ts 83, sl ts 84, sl ts 85, sl ts 86, sl ts 87, sl ts 88, sl ts 89, sl ts 90, sl ts 91, sl ts 92, sl ts 93, sl ts 94, sl ts 95, sl ts 96, sl ts 97, sl ts 98, sl ts 99, sl ts 100, sl ts 101, sl ts 102, sl ts 103, sl ts 104, sl ts 105, sl ts 106, sl ts 107, sl ts 108, sl ts 109, sl ts 110, sl ts 111, sl ts 112, sl ts 113, sl ts 114, sl ts 115, sl ts 116, sl ts 117, sl ts 118, sl ts 119, sl ts 120, sl ts 121, sl ts 122, sl ts 123, sl ts 124, sl ts 125, sl ts 126, sl ts 127, sl ts 128, sl ts 129, sl ts 130, sl ts 131, sl ts 132, sl ts 133, sl ts 134, sl ts 135, sl ts 136, sl ts 137, sl ts 138, sl ts 139, sl ts 140, sl ts 141, sl ts 142, sl ts 143, sl ts 144, sl ts 145, sl ts 146, sl ts 147, sl ts 148, sl ts 149, sl ts 150, sl ts 151, sl ts 152, sl ts 153, sl ts 154, sl ts 155, sl ts 156, sl ts 157, sl ts 158, sl ts 159, sl ts 160, sl ts 161, sl ts 162, sl ts 163, sl ts 164, sl ts 165, sl ts 166, sl ts 167, sl ts 168, sl ts 169, sl ts 170, sl ts 171, sl ts 172, sl ts 173, sl ts 174, sl ts 175, sl ts 176, sl ts 177, sl ts 178, sl ts 179, sl ts 180, sl ts 181, sl ts 182, sl ts 183, sl ts 184, sl ts 185, sl ts 186, sl ts 187, sl ts 188, sl ts 189, sl ts 190, sl ts 191, sl ts 192, sl ts 193, sl ts 194, sl ts 195, sl ts 196, sl ts 197, sl ts 198, sl ts 199, sl ts 200, sl ts 201, sl ts 202, sl ts 203, sl ts 204, sl ts 205, sl ts 206, sl ts 207, sl ts 208, sl ts 209, sl ts 210, sl ts 211, sl ts 212, sl ts 213, sl ts 214, sl ts 215, sl ts 216, sl ts 217, sl ts 218, sl ts 219, sl ts 220, sl ts 221, sl ts 222, sl ts 223, sl ts 224, sl ts 225, sl ts 226, sl ts 227, sl ts 228, sl ts 229, sl ts 230, sl ts 231, sl ts 232] := (frame_of h).trans rfl
abbrev StepT : TypeId := 29
def evA (x : Int) : Value := .int .i64 x
/-- Timers of the call's own, and a map of its own. -/
structure Oc (w0 : World) (b : Nat) (rv : Value) (L : List Tm) (now : Int) (km : Nat) (M : Mp) (w : World) : Prop where
  t : Wt w0 b rv L now w
  mp : S.MapL evA w km M
  kb : w0.heap.size ≤ km
/-- A step's box. -/
abbrev stepC (x : Stp) : Array Value := #[.int .i64 x.1, .string x.2.1, .string x.2.2.1, .int .i64 x.2.2.2]
theorem not_map {w : World} {km : Nat} {M : Mp} (h : S.MapL evA w km M) {c : Array Value} {E : TypeId} {fz : Nat × Nat} : w.heap[km]? ≠ some (.cells c E fz) := by
  obtain ⟨es, cl, hb, _⟩ := h
  rw [hb]; intro e; cases e
theorem own_not_map {w : World} {km Z k n : Nat} {E : TypeId} {v : Value} {xs : List Value} {M : Mp} (h : w.ownsRow Z E k v n xs) (hm : S.MapL evA w km M) : v.ownBlock ≠ some km := by
  intro e
  obtain ⟨_, ⟨hv, _⟩ | ⟨g, cap, cur, hv, _, hg, _⟩⟩ := h
  · rw [hv] at e; cases e
  · rw [hv] at e
    have e1 : g = km := by simpa [Value.ownBlock] using e
    subst e1
    exact not_map hm hg
theorem fr_only {w w' : World} {km : Nat} (h : OnlyAt w w' km) : Fr (fun i => i = km) w w' := (Fr.refl _ w).only h rfl
theorem box_only {w w' : World} {km s : Nat} {M : Mp} {c : Array Value} {E : TypeId} (h : BoxAt w s c E) (hm : S.MapL evA w km M) (ho : OnlyAt w w' km) : BoxAt w' s c E :=
  h.fr (fr_only ho) (fun e => by subst e; exact not_map hm h)
theorem own_only {w w' : World} {km Z k n : Nat} {E : TypeId} {v : Value} {xs : List Value} {M : Mp} (h : w.ownsRow Z E k v n xs) (hm : S.MapL evA w km M) (ho : OnlyAt w w' km) : w'.ownsRow Z E k v n xs :=
  own_fr h (fr_only ho) (fun i hi e => by subst e; exact own_not_map h hm hi)
section
variable {w0 w w' : World} {b km s : Nat} {rv rv' : Value} {L L' : List Tm} {now now' : Int} {M M' : Mp} {x : Stp}
theorem Oc.below (h : Oc w0 b rv L now km M w) (hB : Below w.heap.size w w') : Oc w0 b rv L now km M w' := ⟨h.t.below hB, h.mp.block (hB.block _ h.mp.lt), h.kb⟩
theorem Oc.qs (h : Oc w0 b rv L now km M w) : ¬ QS b rv km := by
  obtain ⟨l, hq, _, _⟩ := h.t.tms
  rintro (e | e)
  · subst e; exact not_map h.mp hq.box
  · exact own_not_map hq.own h.mp e
theorem Oc.next (h : Oc w0 b rv L now km M w) (ht : Tms w0.heap.size b rv' L' now' w') (hL : QL b rv w rv' w') : Oc w0 b rv' L' now' km M w' :=
  ⟨h.t.next ht hL, h.mp.block (hL.fr.block _ h.mp.lt h.qs), h.kb⟩
theorem Oc.put (h : Oc w0 b rv L now km M w) (hm : S.MapL evA w' km M') (ho : OnlyAt w w' km) : Oc w0 b rv L now km M' w' := by
  obtain ⟨l, hq, ht, hll⟩ := h.t.tms
  exact ⟨⟨⟨l, ⟨box_only hq.box h.mp ho, own_only hq.own h.mp ho, hq.zb⟩, ht, hll⟩, h.t.low.trans ((fr_only ho).below (fun i e => by subst e; exact h.kb) h.t.low.size)⟩, hm, h.kb⟩
theorem Oc.box (h : Oc w0 b rv L now km M w) (hs : BoxAt w s (stepC x) StepT) (hL : QL b rv w rv' w') : BoxAt w' s (stepC x) StepT := by
  obtain ⟨l, hq, _, _⟩ := h.t.tms
  refine hs.fr hL.fr ?_
  rintro (e | e)
  · exact box_ne hs hq.box (by decide) e
  · exact own_not_box hq.own hs (by decide) e
theorem Oc.srt (h : Oc w0 b rv L now km M w) : Srt L ∧ (L.map (·.k)).Nodup ∧ L.length ≤ 1024 := by
  obtain ⟨l, hq, ht, hll⟩ := h.t.tms
  exact ⟨ht.srt, ht.nod, hll⟩
theorem step_cells (h : BoxAt w s (stepC x) StepT) : w.cell? ⟨s, 0, none⟩ = some (.int .i64 x.1) ∧ w.cell? ⟨s, 1, none⟩ = some (.string x.2.1) ∧ w.cell? ⟨s, 2, none⟩ = some (.string x.2.2.1) ∧ w.cell? ⟨s, 3, none⟩ = some (.int .i64 x.2.2.2) := ⟨h.cell 0, h.cell 1, h.cell 2, h.cell 3⟩
end
theorem zeroA (w : World) : (zeroValue 2).run Try.prog w = .ok (.int .i64 0) w := by kernel_rfl
abbrev MapT : TypeId := 49
theorem map_look {w : World} {km : Nat} {M : Mp} (h : S.MapL evA w km M) (k : ByteArray) : (Instr.lookup MapT (.map (some km)) (.string k) true).run Try.prog w = .ok (.tuple #[.int .i64 ((S.getL M k).getD 0), .bool (S.getL M k).isSome]) w := by
  have := h.lookupOk (P := Try.prog) S.nameTy Try.underlying49 (zeroA w) k
  rw [show ((S.getL M k).map evA).getD (.int .i64 0) = .int .i64 ((S.getL M k).getD 0) from by cases S.getL M k <;> rfl] at this
  exact this
theorem wpList_del {P : Program} {ops : Array Oper} {rest : List Oper} {o : Oper} {a : Act} {w : World} {Q : Exit → Act → World → Prop} (hgd : o.guard = none) (s x : Operand) (t t' : TypeId)
    (ho : o.op = .call { callee := .builtin .delete, args := #[s, x], argTypes := #[t, t'] }) {v u : Value} (hs : a.eval s = v) (hx : a.eval x = u) {v' : Value} {w' : World} (hr : (Builtin.delete_ #[t, t'] o.type #[v, u]).run P w = .ok v' w')
    (h : wpList P ops Q rest (a.put o.dst v') w') : wpList P ops Q (o :: rest) a w := by
  refine wpList_plain hgd fun _ hK => ?_
  unfold Oper.wp execOp
  simp only [ho, resolve, invoke, builtin, Sem.run_bind, Sem.run_pure, Result.andThen_ok, List.map_toArray, List.map_cons, List.map_nil, hs, hx, hr]
  exact hK _ _ h
end Go.Proofs.Yteladooegjgdnaa
