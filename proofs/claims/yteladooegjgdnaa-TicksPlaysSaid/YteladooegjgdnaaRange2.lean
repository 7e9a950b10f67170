/- A range over an iterator whose loop variable lies in a box: the assignment allocates. -/
import Derived.Test.YteladooegjgdnaaRange
namespace Go.Proofs.Yteladooegjgdnaa
open Go.RowKit
section
variable {F : Fence} {n : Nat} {P : Program}

theorem range_boxed {α : Type} {g : Operand} {ps : Array Tmp} {assign body : Code} {Q : Exit → Act → World → Prop} {a : Act} {w : World} (hro : F.round = none) (h1 : 1 ≤ n)
    {gf : Nat} {lb : Array Value} (hg : a.eval g = .func (.func gf) #[] lb) (hFg : F.fn gf) (eg : ∀ args w, (callFunc gf args).run P w = .ok (.enter gf args) w)
    {encs : α → Array Value} {bs : List Nat} {xs : List α} {w0 : World} (hseq : SeqW F (n - 1) P gf lb encs bs xs w0) (hb0 : Below w0.heap.size w0 w) (hps : ∀ x, (encs x).size = ps.size)
    (Φ : World → Nat → Prop) (I : List α → World → Prop) (hI : Abide w.heap.size Φ I) (hbs : ∀ b ∈ bs, ¬ Φ w b) (h0 : I [] w) (a₁ : α → World → Act) (G : α → World → World) (hG : ∀ x W, Below W.heap.size W (G x W))
    (hassign : ∀ (l : Nat) (x : α) (W : World) (K : Act → World → Prop), K (a₁ x W) (G x W) →
      assign.wpIn (F.inRound l) (n - 1 - 1) P (Exit.then K (fun _ _ _ => False)) { tmps := (ps.zip (encs x)).foldl (fun t (p, v) => t.setIfInBounds p v) a.tmps, defers := [] } W)
    (hbody : ∀ (l : Nat) (pre : List α) (x : α) (W0 W : World), I pre W → (pre ++ [x]) <+: xs → W0.heap.size ≤ W.heap.size → (∀ j, W0.heap.size ≤ j → W.heap[j]? = (G x W0).heap[j]?) → body.wpIn (F.inRound l) (n - 1 - 1) P (goesOn Φ I (pre ++ [x]) W) (a₁ x W0) W)
    (hdone : ∀ (D : Nat) (W : World), w.heap.size ≤ D → I xs W → Free Φ w W → W.heap[D]? = some (.deferred (some [])) → Q .normal { a with defers := { target := .collected D, args := #[] } :: a.defers } W) :
    (Code.rangeFunc g ps assign body).wpIn F n P Q a w := by
  refine wpIn_rangeFunc ?_
  intro fn hfn
  rw [hro]
  -- the loop's record: block w.heap.size + 1; its deferred calls: block w.heap.size
  generalize hR : (fun st => Obj.loop { state := st, pending := none, fn := fn, tmps := a.tmps, params := ps, assign := assign, body := body, defers := w.heap.size }) = R
  have hRc : ∀ st, (R st).isCells = false := fun st => by rw [← hR]; rfl
  generalize hW : (w.alloc (.deferred (some []))).alloc (R .ready) = W1
  have hsz : W1.heap.size = w.heap.size + 2 := by rw [← hW]; simp
  have hl : W1.heap[w.heap.size + 1]? = some (R .ready) := by
    rw [← hW]; have := World.alloc_heap_new (w.alloc (.deferred (some []))) (R .ready); rwa [World.size_alloc] at this
  have hk : W1.heap[w.heap.size]? = some (.deferred (some [])) := by
    rw [← hW]; exact (Below.heap_alloc _ _ _ (by simp)).trans (World.alloc_heap_new w _)
  have hbw : Below w.heap.size w W1 := by rw [← hW]; exact ((Below.refl _ w).alloc (Nat.le_refl _) _).alloc (by simp) _
  have hb : Below w0.heap.size w0 W1 := hb0.trans (hbw.mono hb0.size)
  obtain ⟨h01, hF1⟩ := hI.grow h0 hbw
  refine ⟨w.heap.size + 1, [{ target := .collected w.heap.size, args := #[] }], W1, { target := .fn (.func gf) lb, args := #[.func (.yield (w.heap.size + 1)) #[] #[]] }, W1, gf,
    #[.func (.yield (w.heap.size + 1)) #[] #[]] ++ lb, W1, ?_, ?_, ?_, ?_, fun _ => h1, ?_⟩
  · rw [← hW, ← hR]; exact run_enterLoop_outer _ _ _ _ _
  · simp only [resolve, hg]; simp [go_sem]
  · intro f' hf'; simp [Target.leads] at hf'; subst hf'; exact hFg
  · simp [invoke, go_sem, eg]
  have hturn : ∀ {A C : World} {r : Nat} {o : Obj} {row : Option Nat}, A.grownBy C row → (∀ q, row = some q → W1.heap.size ≤ q ∧ ∃ o : Obj, A.heap[q]? = some o ∧ o.isCells = false) → r < W1.heap.size → A.heap[r]? = some o → C.heap[r]? = some o :=
    fun hg hr hlt ho => (hg.block _ (Array.getElem?_eq_some_iff.1 ho).1 (fun e => by have := (hr _ e.symm).1; omega)).trans ho
  have hlow : ∀ {A : World} {row : Option Nat}, (∀ q, row = some q → W1.heap.size ≤ q ∧ ∃ o : Obj, A.heap[q]? = some o ∧ o.isCells = false) → ∀ q, row = some q → w.heap.size ≤ q ∧ ∃ o : Obj, A.heap[q]? = some o ∧ o.isCells = false :=
    fun hr q e => ⟨by have := (hr q e).1; omega, (hr q e).2⟩
  refine (hseq (w.heap.size + 1) Φ (fun pre W => I pre W ∧ W.heap[w.heap.size + 1]? = some (R .ready) ∧ W.heap[w.heap.size]? = some (.deferred (some []))) W1 hb ⟨?_, ?_, ?_⟩ ?_ ?_ ?_).mono ?_
  · intro s A C row hs hgr hr
    exact ⟨hI.own s A C row hs.1 hgr (hlow hr), hturn hgr hr (by omega) hs.2.1, hturn hgr hr (by omega) hs.2.2⟩
  · intro s A C row hs hgr hr
    exact hI.turn s A C row hs.1 hgr (hlow hr)
  · intro s A j hs
    exact hI.cells s A j hs.1
  · exact fun b hb e => hbs b hb (by
      have hg : w.grownBy W1 none := ⟨hbw.os, hbw.tape, hbw.output, hbw.size, fun k hk _ => hbw.block k hk⟩
      exact hI.turn [] w W1 none h0 hg (fun r e => by cases e) b e)
  · rintro pre x WO ⟨hiO, hlO, hkO⟩ hpre
    have hltO : w.heap.size + 1 < WO.heap.size := (Array.getElem?_eq_some_iff.1 hlO).1
    have hlO' := hlO
    rw [← hR] at hlO'
    have hy := run_yield (P := P) (args := encs x) hlO' (hps x)
    have hGB := hG x WO
    obtain ⟨hi, hFG⟩ := (hI.mono (show w.heap.size ≤ WO.heap.size by omega)).grow hiO hGB
    have hnew : ∀ j, WO.heap.size ≤ j → ∀ o, ((G x WO).putObj (w.heap.size + 1) o).heap[j]? = (G x WO).heap[j]? := fun j hj o => World.putObj_heap_other (by omega)
    have hszG := hGB.size
    have hassO := hassign (w.heap.size + 1) x WO
    have hlW : (G x WO).heap[w.heap.size + 1]? = some (R .ready) := (hGB.block _ hltO).trans hlO
    have hkW : (G x WO).heap[w.heap.size]? = some (.deferred (some [])) := (hGB.block _ (by omega)).trans hkO
    have hbodyO := fun W h => hbody (w.heap.size + 1) pre x WO W h hpre
    have hfin : ∀ {Q1 Q2 : Prop} {Wf : World}, (Q1 ∧ Q2 ∧ Free Φ (G x WO) Wf) → (Q1 ∧ Q2 ∧ Free Φ WO Wf) := fun h => ⟨h.1, h.2.1, hFG.trans h.2.2⟩
    generalize a₁ x WO = aO at *
    generalize G x WO = W at *
    have hlt : w.heap.size + 1 < W.heap.size := (Array.getElem?_eq_some_iff.1 hlW).1
    have hlW' := hlW
    rw [← hR] at hlW'
    refine ⟨fn, _, assign, body, hy, roundIn_of_wpIn hfn (hassO _ ⟨_, run_beginRound hlW' rfl, ?_⟩)⟩
    have e2 : Obj.loop { state := LoopState.busy, pending := none, fn := fn, tmps := a.tmps, params := ps, assign := assign, body := body, defers := w.heap.size } = R .busy := by rw [← hR]
    show body.wpIn _ _ _ _ _ (W.putObj (w.heap.size + 1) (Obj.loop { state := LoopState.busy, pending := none, fn := fn, tmps := a.tmps, params := ps, assign := assign, body := body, defers := w.heap.size }))
    rw [e2]
    have hlB : (W.putObj (w.heap.size + 1) (R .busy)).heap[w.heap.size + 1]? = some (R .busy) := World.putObj_heap_same hlt
    obtain ⟨hiB, htB⟩ := hI.put hi (R .busy) (by omega) hlW (hRc _)
    refine wpIn_mono (hbodyO _ hiB (by rw [World.putObj_size]; exact hszG) (fun j hj => hnew j hj _)) ?_
    intro e a3 W3 hp
    cases e with
    | normal =>
      obtain ⟨hk3, hi3⟩ := hp
      obtain ⟨hl3, hf3⟩ := hk3.block (hI.notCells hiB hlB (hRc _)) hlB
      have hl3' := hl3
      rw [← hR] at hl3'
      have hlt3 : w.heap.size + 1 < W3.heap.size := (Array.getElem?_eq_some_iff.1 hl3).1
      have e3 : Obj.loop { state := LoopState.ready, pending := none, fn := fn, tmps := a.tmps, params := ps, assign := assign, body := body, defers := w.heap.size } = R .ready := by rw [← hR]
      have hkB : (W.putObj (w.heap.size + 1) (R .busy)).heap[w.heap.size]? = some (.deferred (some [])) := (World.putObj_heap_other (by omega)).trans hkW
      obtain ⟨hk3', _⟩ := hk3.block (hI.notCells hiB hkB rfl) hkB
      have key : ∀ o, o = R .ready → (Ending.returned (Value.bool true) = Ending.returned (Value.bool true) ∧ (I (pre ++ [x]) (W3.putObj (w.heap.size + 1) o) ∧ (W3.putObj (w.heap.size + 1) o).heap[w.heap.size + 1]? = some (R .ready) ∧ (W3.putObj (w.heap.size + 1) o).heap[w.heap.size]? = some (.deferred (some []))) ∧ Free Φ W (W3.putObj (w.heap.size + 1) o)) := by
        rintro o rfl
        obtain ⟨hiC, htC⟩ := hI.put hi3 (R .ready) (by omega) hl3 (hRc _)
        refine ⟨rfl, ⟨hiC, World.putObj_heap_same hlt3, (World.putObj_heap_other (by omega)).trans hk3'⟩, ⟨hk3.fr.os, hk3.fr.tape, hk3.fr.output, by have := hk3.fr.size; simpa using this, fun q hq hfq => ?_⟩, fun j hj e => htB j (hk3.stay j (by simpa using hj) (htC j e))⟩
        by_cases hq1 : q = w.heap.size + 1
        · subst hq1
          rw [hlW]
          exact World.putObj_heap_same hlt3
        · refine (World.putObj_heap_other hq1).trans ((hk3.fr.block q (by simpa using hq) (fun e => hfq (htB q e))).trans (World.putObj_heap_other hq1))
      exact ⟨_, _, run_endRound none hl3', hfin (key _ e3)⟩
    | _ => exact hp.elim
  · exact ⟨h01, hl, hk⟩
  · rintro e W2 ⟨⟨v, rfl⟩, ⟨hi, hlW, hkW⟩, hF2⟩
    have hlW' := hlW
    rw [← hR] at hlW'
    have hFw : Free Φ w W2 := hF1.trans hF2
    refine ⟨none, _, run_endLoop hlW' (by simp), ?_⟩
    obtain ⟨hiC, htC⟩ := hI.put hi (Obj.loop { state := LoopState.exhausted, pending := none, fn := fn, tmps := a.tmps, params := ps, assign := assign, body := body, defers := w.heap.size }) (by omega) hlW (hRc _)
    refine hdone _ _ (Nat.le_refl _) hiC ⟨⟨hFw.fr.os, hFw.fr.tape, hFw.fr.output, by have := hFw.fr.size; simpa using this, fun q hq hfq => (World.putObj_heap_other (by omega)).trans (hFw.fr.block q hq hfq)⟩, fun j hj e => hFw.stay j hj (htC j e)⟩ ((World.putObj_heap_other (by omega)).trans hkW)

end
end Go.Proofs.Yteladooegjgdnaa
