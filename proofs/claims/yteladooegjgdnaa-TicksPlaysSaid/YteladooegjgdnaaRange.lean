/- A range over an iterator that hands out a whole list, where the iterator itself may range over others. -/
import Derived.RangeFuncFrom
import Derived.RangeFuncLeaves
import Derived.RangeFuncBox
import Derived.Test.YteladooegjgdnaaFr
namespace Go.Proofs.Yteladooegjgdnaa
open Go.RowKit

section
variable {F : Fence} {n : Nat} {P : Program}

/-- What the caller may turn between two rounds (it hangs on the world): blocks of cells, all of them there. -/
structure Abide {α : Type} (B : Nat) (Φ : World → Nat → Prop) (J : List α → World → Prop) : Prop where
  own : OwnFrom B J
  turn : ∀ s A C row, J s A → A.grownBy C row → (∀ r, row = some r → B ≤ r ∧ ∃ o : Obj, A.heap[r]? = some o ∧ o.isCells = false) → ∀ j, Φ C j → Φ A j
  cells : ∀ s A j, J s A → Φ A j → ∃ o : Obj, A.heap[j]? = some o ∧ o.isCells = true
/-- All that is free lies, and is free. -/
structure Free (Φ : World → Nat → Prop) (A C : World) : Prop where
  fr : Fr (Φ A) A C
  stay : ∀ j, j < A.heap.size → Φ C j → Φ A j
theorem Free.refl (Φ : World → Nat → Prop) (A : World) : Free Φ A A := ⟨.refl _ _, fun _ _ h => h⟩
theorem Free.trans {Φ : World → Nat → Prop} {A C D : World} (h : Free Φ A C) (k : Free Φ C D) : Free Φ A D :=
  ⟨⟨k.fr.os.trans h.fr.os, k.fr.tape.trans h.fr.tape, k.fr.output.trans h.fr.output, Nat.le_trans h.fr.size k.fr.size,
    fun i hi hs => (k.fr.block i (Nat.lt_of_lt_of_le hi h.fr.size) (fun e => hs (h.stay i hi e))).trans (h.fr.block i hi hs)⟩,
   fun j hj e => h.stay j hj (k.stay j (Nat.lt_of_lt_of_le hj h.fr.size) e)⟩
theorem Free.cell {Φ : World → Nat → Prop} {A C : World} (h : Free Φ A C) {p : Addr} {v : Value} (hp : ¬ Φ A p.block) (hc : A.cell? p = some v) : C.cell? p = some v ∧ ¬ Φ C p.block :=
  have hl : p.block < A.heap.size := World.block_lt_of_cell? _ _ hc
  ⟨(World.cell?_of_block (h.fr.block _ hl hp)).trans hc, fun e => hp (h.stay _ hl e)⟩
theorem Free.block {Φ : World → Nat → Prop} {A C : World} (h : Free Φ A C) {j : Nat} {o : Obj} (hp : ¬ Φ A j) (hc : A.heap[j]? = some o) : C.heap[j]? = some o ∧ ¬ Φ C j :=
  have hl : j < A.heap.size := (Array.getElem?_eq_some_iff.1 hc).1
  ⟨(h.fr.block _ hl hp).trans hc, fun e => hp (h.stay _ hl e)⟩

section
variable {α : Type} {B : Nat} {Φ : World → Nat → Prop} {J : List α → World → Prop}
theorem Abide.mono (h : Abide B Φ J) {B' : Nat} (hb : B ≤ B') : Abide B' Φ J :=
  ⟨fun s A C row hs hg hr => h.own s A C row hs hg (fun r e => ⟨Nat.le_trans hb (hr r e).1, (hr r e).2⟩), fun s A C row hs hg hr => h.turn s A C row hs hg (fun r e => ⟨Nat.le_trans hb (hr r e).1, (hr r e).2⟩), h.cells⟩
theorem Abide.grow (h : Abide B Φ J) {s : List α} {A C : World} (hs : J s A) (hb : Below A.heap.size A C) : J s C ∧ Free Φ A C := by
  have hg : A.grownBy C none := ⟨hb.os, hb.tape, hb.output, hb.size, fun k hk _ => hb.block k hk⟩
  exact ⟨h.own s A C none hs hg (fun r e => by cases e), ⟨.of_below hb, fun j _ e => h.turn s A C none hs hg (fun r e => by cases e) j e⟩⟩
theorem Abide.lt (h : Abide B Φ J) {s : List α} {A : World} (hs : J s A) {j : Nat} (hj : Φ A j) : j < A.heap.size := by
  obtain ⟨o, ho, _⟩ := h.cells s A j hs hj
  exact (Array.getElem?_eq_some_iff.1 ho).1
/-- What is new is free. -/
theorem Abide.new (h : Abide B Φ J) {s : List α} {A C : World} (hs : J s A) (hb : Below A.heap.size A C) {j : Nat} (hj : A.heap.size ≤ j) : ¬ Φ C j := fun e => by
  have hg : A.grownBy C none := ⟨hb.os, hb.tape, hb.output, hb.size, fun k hk _ => hb.block k hk⟩
  have := h.lt hs (h.turn s A C none hs hg (fun r e => by cases e) j e)
  omega
theorem Abide.notCells (h : Abide B Φ J) {s : List α} {A : World} (hs : J s A) {j : Nat} {o : Obj} (ho : A.heap[j]? = some o) (hc : o.isCells = false) : ¬ Φ A j := fun e => by
  obtain ⟨o', ho', hc'⟩ := h.cells s A j hs e
  rw [ho] at ho'; injection ho' with ho'; subst ho'; rw [hc] at hc'; cases hc'
/-- The turn of a block beyond B that is no cells. -/
theorem Abide.put (h : Abide B Φ J) {s : List α} {A : World} (hs : J s A) {l : Nat} {o : Obj} (o' : Obj) (hB : B ≤ l) (hl : A.heap[l]? = some o) (ho : o.isCells = false) : J s (A.putObj l o') ∧ ∀ j, Φ (A.putObj l o') j → Φ A j :=
  ⟨h.own.putObj o' hs hB hl ho, h.turn s A _ (some l) hs (grownBy_putObj' A l o') (fun r e => by cases e; exact ⟨hB, o, hl, ho⟩)⟩
end

/-- The value (function g, captured lb), made in w, hands out just xs, one by one, to whoever keeps; no round says 'no more'. It reads the blocks bs, and those that it lays itself: the caller leaves them. -/
def SeqW {α : Type} (F : Fence) (n : Nat) (P : Program) (g : Nat) (lb : Array Value) (encs : α → Array Value) (bs : List Nat) (xs : List α) (w : World) : Prop :=
  ∀ (l : Nat) (Φ : World → Nat → Prop) (J : List α → World → Prop) (W : World), Below w.heap.size w W → Abide W.heap.size Φ J → (∀ b ∈ bs, ¬ Φ W b) →
    (∀ pre x W1, J pre W1 → (pre ++ [x]) <+: xs → YieldAt F (n - 1) P l (encs x) W1 fun e W' => e = .returned (.bool true) ∧ J (pre ++ [x]) W' ∧ Free Φ W1 W') →
    J [] W → CallsIn F n P g (#[.func (.yield l) #[] #[]] ++ lb) W fun e W' => (∃ v, e = .returned v) ∧ J xs W' ∧ Free Φ W W'

/-- A round's end: it goes on. -/
def goesOn {α : Type} (Φ : World → Nat → Prop) (I : List α → World → Prop) (ys : List α) (W : World) : Exit → Act → World → Prop
  | .normal, _, W' => Free Φ W W' ∧ I ys W'
  | _, _, _ => False

theorem range_whole {α : Type} {g : Operand} {ps : Array Tmp} {assign body : Code} {Q : Exit → Act → World → Prop} {a : Act} {w : World} (hro : F.round = none) (h1 : 1 ≤ n)
    {gf : Nat} {lb : Array Value} (hg : a.eval g = .func (.func gf) #[] lb) (hFg : F.fn gf) (eg : ∀ args w, (callFunc gf args).run P w = .ok (.enter gf args) w)
    {encs : α → Array Value} {bs : List Nat} {xs : List α} {w0 : World} (hseq : SeqW F (n - 1) P gf lb encs bs xs w0) (hb0 : Below w0.heap.size w0 w) (hps : ∀ x, (encs x).size = ps.size)
    (Φ : World → Nat → Prop) (I : List α → World → Prop) (hI : Abide w.heap.size Φ I) (hbs : ∀ b ∈ bs, ¬ Φ w b) (h0 : I [] w) (a₁ : α → Act)
    (hassign : ∀ (l : Nat) (x : α) (W : World) (K : Act → World → Prop), K (a₁ x) W →
      assign.wpIn (F.inRound l) (n - 1 - 1) P (Exit.then K (fun _ _ _ => False)) { tmps := (ps.zip (encs x)).foldl (fun t (p, v) => t.setIfInBounds p v) a.tmps, defers := [] } W)
    (hbody : ∀ (l : Nat) (pre : List α) (x : α) (W : World), I pre W → (pre ++ [x]) <+: xs → body.wpIn (F.inRound l) (n - 1 - 1) P (goesOn Φ I (pre ++ [x]) W) (a₁ x) W)
    (hdone : ∀ (D : Nat) (W : World), w.heap.size ≤ D → I xs W → Free Φ w W → W.heap[D]? = some (.deferred (some [])) → Q .normal { a with defers := { target := .collected D, args := #[] } :: a.defers } W) :
    (Code.rangeFunc g ps assign body).wpIn F n P Q a w := by
  refine wpIn_rangeFunc ?_
  intro fn hfn
  rw [hro]
  -- the loop's record: block w.heap.size + 1; its deferred calls: block w.heap.size
  generalize hR : (fun st => Obj.loop { state := st, pending := none, fn := fn, tmps := a.tmps, params := ps, assign := assign, body := body, defers := w.heap.size }) = R
  have hRc : ∀ st, (R st).isCells = false := fun st => by rw [← hR]; rfl
  generalize hW : (w.alloc (.deferred (some []))).alloc (R .ready) = W1
  have hsz : W1.heap.size = w.heap.size + 2 := by rw [← hW]; simp
  have hl : W1.heap[w.heap.size + 1]? = some (R .ready) := by
    rw [← hW]; have := World.alloc_heap_new (w.alloc (.deferred (some []))) (R .ready); rwa [World.size_alloc] at this
  have hk : W1.heap[w.heap.size]? = some (.deferred (some [])) := by
    rw [← hW]; exact (Below.heap_alloc _ _ _ (by simp)).trans (World.alloc_heap_new w _)
  have hbw : Below w.heap.size w W1 := by rw [← hW]; exact ((Below.refl _ w).alloc (Nat.le_refl _) _).alloc (by simp) _
  have hb : Below w0.heap.size w0 W1 := hb0.trans (hbw.mono hb0.size)
  obtain ⟨h01, hF1⟩ := hI.grow h0 hbw
  refine ⟨w.heap.size + 1, [{ target := .collected w.heap.size, args := #[] }], W1, { target := .fn (.func gf) lb, args := #[.func (.yield (w.heap.size + 1)) #[] #[]] }, W1, gf,
    #[.func (.yield (w.heap.size + 1)) #[] #[]] ++ lb, W1, ?_, ?_, ?_, ?_, fun _ => h1, ?_⟩
  · rw [← hW, ← hR]; exact run_enterLoop_outer _ _ _ _ _
  · simp only [resolve, hg]; simp [go_sem]
  · intro f' hf'; simp [Target.leads] at hf'; subst hf'; exact hFg
  · simp [invoke, go_sem, eg]
  have hturn : ∀ {A C : World} {r : Nat} {o : Obj} {row : Option Nat}, A.grownBy C row → (∀ q, row = some q → W1.heap.size ≤ q ∧ ∃ o : Obj, A.heap[q]? = some o ∧ o.isCells = false) → r < W1.heap.size → A.heap[r]? = some o → C.heap[r]? = some o :=
    fun hg hr hlt ho => (hg.block _ (Array.getElem?_eq_some_iff.1 ho).1 (fun e => by have := (hr _ e.symm).1; omega)).trans ho
  have hlow : ∀ {A : World} {row : Option Nat}, (∀ q, row = some q → W1.heap.size ≤ q ∧ ∃ o : Obj, A.heap[q]? = some o ∧ o.isCells = false) → ∀ q, row = some q → w.heap.size ≤ q ∧ ∃ o : Obj, A.heap[q]? = some o ∧ o.isCells = false :=
    fun hr q e => ⟨by have := (hr q e).1; omega, (hr q e).2⟩
  refine (hseq (w.heap.size + 1) Φ (fun pre W => I pre W ∧ W.heap[w.heap.size + 1]? = some (R .ready) ∧ W.heap[w.heap.size]? = some (.deferred (some []))) W1 hb ⟨?_, ?_, ?_⟩ ?_ ?_ ?_).mono ?_
  · intro s A C row hs hgr hr
    exact ⟨hI.own s A C row hs.1 hgr (hlow hr), hturn hgr hr (by omega) hs.2.1, hturn hgr hr (by omega) hs.2.2⟩
  · intro s A C row hs hgr hr
    exact hI.turn s A C row hs.1 hgr (hlow hr)
  · intro s A j hs
    exact hI.cells s A j hs.1
  · exact fun b hb e => hbs b hb (by
      have hg : w.grownBy W1 none := ⟨hbw.os, hbw.tape, hbw.output, hbw.size, fun k hk _ => hbw.block k hk⟩
      exact hI.turn [] w W1 none h0 hg (fun r e => by cases e) b e)
  · rintro pre x W ⟨hi, hlW, hkW⟩ hpre
    have hlt : w.heap.size + 1 < W.heap.size := (Array.getElem?_eq_some_iff.1 hlW).1
    have hlW' := hlW
    rw [← hR] at hlW'
    have hy := run_yield (P := P) (args := encs x) hlW' (hps x)
    refine ⟨fn, _, assign, body, hy, roundIn_of_wpIn hfn (hassign _ x W _ ⟨_, run_beginRound hlW' rfl, ?_⟩)⟩
    have e2 : Obj.loop { state := LoopState.busy, pending := none, fn := fn, tmps := a.tmps, params := ps, assign := assign, body := body, defers := w.heap.size } = R .busy := by rw [← hR]
    show body.wpIn _ _ _ _ _ (W.putObj (w.heap.size + 1) (Obj.loop { state := LoopState.busy, pending := none, fn := fn, tmps := a.tmps, params := ps, assign := assign, body := body, defers := w.heap.size }))
    rw [e2]
    have hlB : (W.putObj (w.heap.size + 1) (R .busy)).heap[w.heap.size + 1]? = some (R .busy) := World.putObj_heap_same hlt
    obtain ⟨hiB, htB⟩ := hI.put hi (R .busy) (by omega) hlW (hRc _)
    refine wpIn_mono (hbody _ pre x _ hiB hpre) ?_
    intro e a3 W3 hp
    cases e with
    | normal =>
      obtain ⟨hk3, hi3⟩ := hp
      obtain ⟨hl3, hf3⟩ := hk3.block (hI.notCells hiB hlB (hRc _)) hlB
      have hl3' := hl3
      rw [← hR] at hl3'
      have hlt3 : w.heap.size + 1 < W3.heap.size := (Array.getElem?_eq_some_iff.1 hl3).1
      have e3 : Obj.loop { state := LoopState.ready, pending := none, fn := fn, tmps := a.tmps, params := ps, assign := assign, body := body, defers := w.heap.size } = R .ready := by rw [← hR]
      have hkB : (W.putObj (w.heap.size + 1) (R .busy)).heap[w.heap.size]? = some (.deferred (some [])) := (World.putObj_heap_other (by omega)).trans hkW
      obtain ⟨hk3', _⟩ := hk3.block (hI.notCells hiB hkB rfl) hkB
      have key : ∀ o, o = R .ready → (Ending.returned (Value.bool true) = Ending.returned (Value.bool true) ∧ (I (pre ++ [x]) (W3.putObj (w.heap.size + 1) o) ∧ (W3.putObj (w.heap.size + 1) o).heap[w.heap.size + 1]? = some (R .ready) ∧ (W3.putObj (w.heap.size + 1) o).heap[w.heap.size]? = some (.deferred (some []))) ∧ Free Φ W (W3.putObj (w.heap.size + 1) o)) := by
        rintro o rfl
        obtain ⟨hiC, htC⟩ := hI.put hi3 (R .ready) (by omega) hl3 (hRc _)
        refine ⟨rfl, ⟨hiC, World.putObj_heap_same hlt3, (World.putObj_heap_other (by omega)).trans hk3'⟩, ⟨hk3.fr.os, hk3.fr.tape, hk3.fr.output, by have := hk3.fr.size; simpa using this, fun q hq hfq => ?_⟩, fun j hj e => htB j (hk3.stay j (by simpa using hj) (htC j e))⟩
        by_cases hq1 : q = w.heap.size + 1
        · subst hq1
          rw [hlW]
          exact World.putObj_heap_same hlt3
        · refine (World.putObj_heap_other hq1).trans ((hk3.fr.block q (by simpa using hq) (fun e => hfq (htB q e))).trans (World.putObj_heap_other hq1))
      exact ⟨_, _, run_endRound none hl3', key _ e3⟩
    | _ => exact hp.elim
  · exact ⟨h01, hl, hk⟩
  · rintro e W2 ⟨⟨v, rfl⟩, ⟨hi, hlW, hkW⟩, hF2⟩
    have hlW' := hlW
    rw [← hR] at hlW'
    have hFw : Free Φ w W2 := hF1.trans hF2
    refine ⟨none, _, run_endLoop hlW' (by simp), ?_⟩
    obtain ⟨hiC, htC⟩ := hI.put hi (Obj.loop { state := LoopState.exhausted, pending := none, fn := fn, tmps := a.tmps, params := ps, assign := assign, body := body, defers := w.heap.size }) (by omega) hlW (hRc _)
    refine hdone _ _ (Nat.le_refl _) hiC ⟨⟨hFw.fr.os, hFw.fr.tape, hFw.fr.output, by have := hFw.fr.size; simpa using this, fun q hq hfq => (World.putObj_heap_other (by omega)).trans (hFw.fr.block q hq hfq)⟩, fun j hj e => hFw.stay j hj (htC j e)⟩ ((World.putObj_heap_other (by omega)).trans hkW)

/-- A function that ranged several times leaves: its marks are taken over one by one; no call was deferred. -/
theorem leaves_marks {fn : Func} {tmps : Array Value} {R : Ending → World → Prop} {B : Nat} (Inv : World → Prop)
    (hInv : ∀ w D, Inv w → B ≤ D → w.heap[D]? = some (.deferred (some [])) → Inv (w.putObj D (.deferred none))) (hend : ∀ w, Inv w → LeavesIn F n P fn tmps R [] .returning w) :
    ∀ (Ds : List Nat) (w : World), Inv w → Ds.Nodup → (∀ D ∈ Ds, B ≤ D ∧ w.heap[D]? = some (.deferred (some []))) →
      LeavesInM F n P fn tmps R (Ds.map fun D => { target := .collected D, args := #[] }) .returning w
  | [], w, h, _, _ => hend w h
  | D :: Ds, w, h, hn, hd => by
    obtain ⟨hD, hk⟩ := hd D (by simp)
    refine ⟨by simp, .inl ⟨D, _, rfl, run_takeDeferred hk, ?_⟩⟩
    have hn' := List.nodup_cons.1 hn
    refine leaves_marks Inv hInv hend Ds _ (hInv w D h hD hk) hn'.2 fun E hE => ?_
    obtain ⟨h1, h2⟩ := hd E (by simp [hE])
    exact ⟨h1, (World.putObj_heap_other (fun e => hn'.1 (by rw [← e]; exact hE))).trans h2⟩
end
end Go.Proofs.Yteladooegjgdnaa
