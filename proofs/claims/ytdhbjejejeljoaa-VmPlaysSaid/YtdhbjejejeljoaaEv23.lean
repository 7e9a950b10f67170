/- The world of the document's task that is done. -/
import Derived.Test.YtdhbjejejeljoaaEv22
namespace Go.Proofs.Ytdhbjejejeljoaa
open Go.RowKit Go.Sort Go.Lib

abbrev RunT : TypeId := 62
abbrev ruC (pv : Value) (t : Tk) (av : Value) (r f : Nat) (s : St) (iv dv : Value) : Array Value :=
  #[pv, .string t.p, .int .i64 t.fn, av, .int .i64 t.fuel, .slice (some ⟨r, 0, none⟩) s.regs.length s.regs.length, .int .i64 s.pc, .int .i64 s.left, .int .i64 s.kids, .int .i64 ((f : Int) + 1), iv, dv]
/-- The document's task in block q, its registers in block r; all from block Z on. -/
structure Ru (w0 : World) (Z q r : Nat) (pv : Value) (t : Tk) (av : Value) (f : Nat) (iv dv : Value) (I : List Int) (nd : List DnA) (s : St) (w : World) : Prop where
  box : BoxAt w q (ruC pv t av r f s iv dv) RunT
  regs : BoxAt w r (s.regs.map (Value.int .i64)).toArray I64T
  into : w.ownsRow Z IntT 1 iv I.length (I.flatMap encN1)
  done : w.ownsRow Z DoneT 7 dv nd.length (nd.flatMap encDn)
  da : ∀ d ∈ nd, ArgsAt Z w d
  sep : ∀ d ∈ nd, (argV d).ownBlock ≠ some r
  dn : nd.map (·.1) = s.done
  low : Below Z w0 w
  zq : Z ≤ q ∧ Z ≤ r
  ik : (I.length : Int) = s.kids
  ifr : f ≤ I.length ∧ s.into = I.drop f
section
variable {w0 : World} {Z q r : Nat} {pv : Value} {t : Tk} {av : Value} {f : Nat} {iv dv : Value} {I : List Int} {nd : List DnA} {s : St} {w w' : World}
theorem Ru.below (h : Ru w0 Z q r pv t av f iv dv I nd s w) (hB : Below w.heap.size w w') : Ru w0 Z q r pv t av f iv dv I nd s w' := by
  have hz : Z ≤ w.heap.size := by have := (Array.getElem?_eq_some_iff.1 h.box).1; have := h.zq; omega
  exact ⟨h.box.below hB, h.regs.below hB, own_below h.into hB, own_below h.done hB, fun d hd => own_below (h.da d hd) hB, h.sep, h.dn, h.low.trans (hB.mono hz), h.zq, h.ik, h.ifr⟩
/-- Something else turns: blocks of types that are none of these. -/
theorem Ru.other {S : Nat → Prop} {Es : List TypeId} (h : Ru w0 Z q r pv t av f iv dv I nd s w) (hF : Fr S w w') (hT : Typed S w Es) (hlo : ∀ i, S i → Z ≤ i) (h1 : RunT ∉ Es) (h2 : I64T ∉ Es) (h3 : IntT ∉ Es) (h4 : DoneT ∉ Es) : Ru w0 Z q r pv t av f iv dv I nd s w' := by
  have hz : Z ≤ w.heap.size := by have := (Array.getElem?_eq_some_iff.1 h.box).1; have := h.zq; omega
  exact ⟨box_typed h.box hF hT h1, box_typed h.regs hF hT h2, own_typed h.into hF hT h3, own_typed h.done hF hT h4, fun d hd => own_typed (h.da d hd) hF hT h2, h.sep, h.dn, h.low.trans (hF.below hlo hz), h.zq, h.ik, h.ifr⟩
/-- The struct turns. -/
theorem Ru.boxX {s' : St} {f' : Nat} (h : Ru w0 Z q r pv t av f iv dv I nd s w) (hF : Fr (fun i => i = q) w w') (hb : BoxAt w' q (ruC pv t av r f' s' iv dv) RunT)
    (e1 : s'.regs = s.regs) (e4 : s'.done = s.done) (e5 : (I.length : Int) = s'.kids) (e6 : f' ≤ I.length ∧ s'.into = I.drop f') : Ru w0 Z q r pv t av f' iv dv I nd s' w' := by
  have hT := typed_box h.box
  have hz : Z ≤ w.heap.size := by have := (Array.getElem?_eq_some_iff.1 h.box).1; have := h.zq; omega
  exact ⟨hb, e1 ▸ box_typed h.regs hF hT (by decide), own_typed h.into hF hT (by decide), own_typed h.done hF hT (by decide), fun d hd => own_typed (h.da d hd) hF hT (by decide), h.sep, e4 ▸ h.dn,
    h.low.trans (hF.below (fun i hi => by have := h.zq; omega) hz), h.zq, e5, e6⟩
/-- A register turns. -/
theorem Ru.regsX {rs : List Int} (h : Ru w0 Z q r pv t av f iv dv I nd s w) (hF : Fr (fun i => i = r) w w') (hb : BoxAt w' r (rs.map (Value.int .i64)).toArray I64T) (hl : rs.length = s.regs.length) : Ru w0 Z q r pv t av f iv dv I nd { s with regs := rs } w' := by
  have hT := typed_box h.regs
  have hz : Z ≤ w.heap.size := by have := (Array.getElem?_eq_some_iff.1 h.box).1; have := h.zq; omega
  have hx := box_typed h.box hF hT (by decide)
  refine ⟨?_, hb, own_typed h.into hF hT (by decide), own_typed h.done hF hT (by decide), fun d hd => own_far (h.da d hd) (fun i hi => hF.block i ((h.da d hd).lt i hi).2 (fun e => h.sep d hd (by rw [hi, e]))), h.sep, h.dn,
    h.low.trans (hF.below (fun i hi => by have := h.zq; omega) hz), h.zq, h.ik, h.ifr⟩
  unfold ruC at hx ⊢
  rw [hl]; exact hx
/-- The registers that wait grow. -/
theorem Ru.pushI {iv' : Value} {a : Int} {w1 : World} (h : Ru w0 Z q r pv t av f iv dv I nd s w) (hF : Fr (fun i => iv.ownBlock = some i) w w1) (ho : w1.ownsRow Z IntT 1 iv' (I.length + 1) (I.flatMap encN1 ++ encN1 a)) :
    Fr (fun i => i = q ∨ iv.ownBlock = some i) w (w1.setCell ⟨q, 10, none⟩ iv') ∧ BoxAt (w1.setCell ⟨q, 10, none⟩ iv') q (ruC pv t av r f s iv' dv) RunT ∧ (w1.setCell ⟨q, 10, none⟩ iv').ownsRow Z IntT 1 iv' (I ++ [a]).length ((I ++ [a]).flatMap encN1) := by
  have hT := typed_own h.into
  have hx := box_typed h.box hF hT (by decide)
  have hF2 : Fr (fun i => i = q) w1 (w1.setCell ⟨q, 10, none⟩ iv') := (Fr.refl (fun i => i = q) w1).setCell (p := ⟨q, 10, none⟩) rfl iv'
  refine ⟨(hF.mono fun i hi => .inr hi).trans (hF2.mono fun i hi => .inl hi), Go.heap_setCell_same w1 q 10 _ _ iv' hx, ?_⟩
  have := own_typed ho hF2 (typed_box hx) (by decide)
  simpa [List.flatMap_append] using this
theorem ru_cells (h : Ru w0 Z q r pv t av f iv dv I nd s w) :
    w.cell? ⟨q, 0, none⟩ = some pv ∧ w.cell? ⟨q, 1, none⟩ = some (.string t.p) ∧ w.cell? ⟨q, 2, none⟩ = some (.int .i64 t.fn) ∧ w.cell? ⟨q, 5, none⟩ = some (.slice (some ⟨r, 0, none⟩) s.regs.length s.regs.length) ∧ w.cell? ⟨q, 6, none⟩ = some (.int .i64 s.pc) ∧
    w.cell? ⟨q, 7, none⟩ = some (.int .i64 s.left) ∧ w.cell? ⟨q, 8, none⟩ = some (.int .i64 s.kids) ∧ w.cell? ⟨q, 9, none⟩ = some (.int .i64 ((f : Int) + 1)) ∧ w.cell? ⟨q, 10, none⟩ = some iv ∧ w.cell? ⟨q, 11, none⟩ = some dv :=
  ⟨h.box.cell 0, h.box.cell 1, h.box.cell 2, h.box.cell 5, h.box.cell 6, h.box.cell 7, h.box.cell 8, h.box.cell 9, h.box.cell 10, h.box.cell 11⟩
end
/-- What a plain op leaves: its error. -/
def opR (s0 : St) (o : Opr) : Int × St :=
  let s : St := { s0 with pc := s0.pc + 1 }
  if o.k = 1 then (0, { s with regs := s.regs.set o.d.toNat o.n })
  else if o.k = 10 then (0, { s with pc := o.n })
  else if o.k = 11 then (0, if rg s.regs o.a = 0 then s else { s with pc := o.n })
  else match calcP o.k (rg s.regs o.a) (rg s.regs o.b) with
    | none => (131, s)
    | some x => (0, { s with regs := s.regs.set o.d.toNat x })
theorem opR_opS {p : List Fnc} {D : Tk → Rs × List Dn} {t : Tk} {s : St} {o : Opr} (h12 : o.k ≠ 12) (h13 : o.k ≠ 13) (h14 : o.k ≠ 14) : (opS p D t s o).2 = opR s o := by
  unfold opS opR
  simp only []
  by_cases h1 : o.k = 1
  · rw [if_pos h1, if_pos h1]
  rw [if_neg h1, if_neg h1]
  by_cases h10 : o.k = 10
  · rw [if_pos h10, if_pos h10]
  rw [if_neg h10, if_neg h10]
  by_cases h11 : o.k = 11
  · rw [if_pos h11, if_pos h11]
  rw [if_neg h11, if_neg h11, if_neg h12, if_neg h13, if_neg h14]
  cases calcP o.k (rg s.regs o.a) (rg s.regs o.b) <;> rfl
end Go.Proofs.Ytdhbjejejeljoaa
