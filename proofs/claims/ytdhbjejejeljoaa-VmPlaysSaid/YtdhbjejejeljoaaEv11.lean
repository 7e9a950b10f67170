/- Contract: eval.task.join. -/
import Derived.Test.YtdhbjejejeljoaaEv10
namespace Go.Proofs.Ytdhbjejejeljoaa
open Go.RowKit Go.Sort Go.Lib

theorem setAll_take {r : List Int} {ds : List Int} {xs : List Rs} {k : Nat} (h1 : k < ds.length) (h2 : k < xs.length) : setAll r (ds.take (k + 1)) (xs.take (k + 1)) = (setAll r (ds.take k) (xs.take k)).set ds[k].toNat xs[k].v := by
  induction ds generalizing r xs k with
  | nil => simp at h1
  | cons d ds ih =>
    cases xs with
    | nil => simp at h2
    | cons x xs =>
      cases k with
      | zero => simp [setAll]
      | succ k =>
        simp only [List.take_succ_cons, setAll, List.getElem_cons_succ]
        exact ih (by simpa using h1) (by simpa using h2)
theorem set_box {w : World} {r q : Nat} {rs : List Int} (h : BoxAt w r (rs.map (Value.int .i64)).toArray I64T) (v : Int) : BoxAt (w.setCell ⟨r, q, none⟩ (.int .i64 v)) r ((rs.set q v).map (Value.int .i64)).toArray I64T := by
  have h1 := Go.heap_setCell_same w r q _ _ (.int .i64 v) h
  unfold BoxAt
  rw [h1]
  simp [List.map_set]
theorem regs_cell {w : World} {r q : Nat} {rs : List Int} (h : BoxAt w r (rs.map (Value.int .i64)).toArray I64T) (hq : q < rs.length) : w.cell? ⟨r, q, none⟩ = some (.int .i64 rs[q]) := by
  rw [h.cell q]; simp [hq]
theorem firstE_hit {l : List Int} {k : Nat} (hk : k < l.length) (h : ∀ j, (hj : j < l.length) → j < k → l[j] = 0) (h0 : l[k] ≠ 0) : firstE l = l[k] := by
  induction l generalizing k with
  | nil => simp at hk
  | cons e l ih =>
    unfold firstE
    cases k with
    | zero => rw [if_neg (by simpa using h0)]; rfl
    | succ k =>
      rw [if_pos (show e = 0 from h 0 (by simp) (by omega)), ih (by simpa using hk) (fun j hj hjk => h (j + 1) (by simpa using hj) (by omega)) (by simpa using h0)]
      rfl
theorem firstE_none {l : List Int} (h : ∀ j, (hj : j < l.length) → l[j] = 0) : firstE l = 0 :=
  firstE_all fun e he => by obtain ⟨j, hj, rfl⟩ := List.getElem_of_mem he; exact h j hj
abbrev resC (r : Rs) : Array Value := #[.int .i64 r.v, .int .i64 r.e]
end Go.Proofs.Ytdhbjejejeljoaa
