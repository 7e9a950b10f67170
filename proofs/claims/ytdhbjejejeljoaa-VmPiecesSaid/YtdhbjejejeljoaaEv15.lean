/- Contract: eval.world.do. -/
import Derived.Test.YtdhbjejejeljoaaEv14
import Derived.Deep.OwnRows
import Derived.Laws.CopyOwn
import Derived.Deep.AppendLies
namespace Go.Proofs.Ytdhbjejejeljoaa
open Go.RowKit Go.Sort Go.Lib

theorem info_done : (Try.prog.info? 169).map (fun i => (i.zero, i.size, i.bytes)) = some (some (.agg #[.string ⟨#[]⟩, .int .i64 0, .slice none 0 0, .int .i64 0, .int .i64 0, .int .i64 0, .int .i64 0]), 7, 80) := by kernel_rfl
theorem wpList_copy_fr {P : Program} {w : World} {ops : Array Oper} {rest : List Oper} {o : Oper} {a : Act} {Q : Exit → Act → World → Prop} (hgd : o.guard = none) (d s : Operand) (dT sT : TypeId)
    (ho : o.op = .call { callee := .builtin .copy, args := #[d, s], argTypes := #[dT, sT] }) (elem : TypeId) (hu : P.underlying dT = some (.slice elem)) (hsz : (P.info? elem).map (·.size) = some 1)
    (dp sp : Option Addr) (dLen dCap sLen sCap : Nat) (hd : a.eval d = .slice dp dLen dCap) (hs : a.eval s = .slice sp sLen sCap)
    (g off : Nat) (cur : List Value) (t : TypeId) (hg : w.heap[g]? = some (.cells cur.toArray t (0, 0))) (cs : List Value) (hn : cs.length = Nat.min sLen dLen)
    (hpos : 0 < cs.length → dp = some ⟨g, off, none⟩ ∧ ∃ ad, sp = some ad ∧ ∀ j v, cs[j]? = some v → w.cell? (ad.add j) = some v)
    (hfit : off + cs.length ≤ cur.length) (h1 : ∀ v ∈ cs, v.oneCell' = true)
    (h : ∀ w', Hid (w'.heap[g]? = some (.cells (splice cur off cs).toArray t (0, 0))) → Hid (Fr (fun i => i = g) w w') → wpList P ops Q rest (a.put o.dst (goInt cs.length)) w') :
    wpList P ops Q (o :: rest) a w := by
  by_cases h0 : cs.length = 0
  · obtain rfl : cs = [] := List.eq_nil_of_length_eq_zero h0
    refine wpList_copy_nothing hgd d s dT sT ho elem hu hsz dp sp dLen dCap sLen sCap hd hs (by simpa using hn.symm) ?_
    exact h w (show _ = _ by simpa [splice] using hg) (Fr.refl _ _)
  · obtain ⟨rfl, ad, rfl, hsrc⟩ := hpos (by omega)
    refine wpList_copy_own hgd d s dT sT ho elem hu hsz g off dLen dCap ad sLen sCap hd hs cur.toArray t hg cs hn hsrc (by simpa using hfit) h1 ?_
    exact h _ (show _ = _ by simpa [splice] using setRow_heap w g _ _ t _ hg) ⟨rfl, rfl, rfl, by simp [World.setRow], fun k hk hs => setRow_other w g k _ hs⟩
theorem made_box {w : World} {r n : Nat} (h : w.heap[r]? = some (.cells (madeCells #[.int .i64 0] n) I64T (0, 0))) : BoxAt w r ((List.replicate n (0 : Int)).map (Value.int .i64)).toArray I64T := by
  unfold BoxAt
  rw [h, List.map_replicate, ← toList_madeCells_one]
theorem one_done (w : World) (d : DnA) : ∀ j u, (encDn d)[j]? = some u → (w.alloc (.cells #[.string d.1.t.p, .int .i64 d.1.t.fn, .slice d.2.1 d.1.t.args.length d.2.2, .int .i64 d.1.t.fuel, .int .i64 d.1.r.v, .int .i64 d.1.r.e, .int .i64 d.1.kids] DoneT)).cell? ((⟨w.heap.size, 0, none⟩ : Addr).add j) = some u := by
  intro j u hj
  have h := World.news_of_block (heap_alloc_new w (.cells #[.string d.1.t.p, .int .i64 d.1.t.fn, .slice d.2.1 d.1.t.args.length d.2.2, .int .i64 d.1.t.fuel, .int .i64 d.1.r.v, .int .i64 d.1.r.e, .int .i64 d.1.kids] DoneT)) j u
  exact h hj
theorem own_set {w : World} {Z k n g cap j : Nat} {E : TypeId} {xs : List Value} {v : Value} (h : w.ownsRow Z E k (.slice (some ⟨g, 0, none⟩) n cap) n xs) : (w.setCell ⟨g, j, none⟩ v).ownsRow Z E k (.slice (some ⟨g, 0, none⟩) n cap) n (xs.set j v) := by
  obtain ⟨h0, ⟨hv, _⟩ | ⟨g', cap', cur, hv, h1, h2, h3, h4, h5, h6⟩⟩ := h
  · cases hv
  injection hv with e1 _ e3
  injection e1 with e1
  injection e1 with e1
  subst e1; subst e3
  refine ⟨by simp [h0], .inr ⟨g, cap, cur.setIfInBounds j v, rfl, h1, Go.heap_setCell_same w g j cur E v h2, h3, h4, by simp [h5], ?_⟩⟩
  rw [Array.toList_setIfInBounds, ← h6, List.take_set]
theorem own_cells {w : World} {Z g cap N : Nat} {l nd : List DnA} {o : DnA} (h : w.ownsRow Z DoneT 7 (.slice (some ⟨g, 0, none⟩) N cap) (l ++ o :: nd).length ((l ++ o :: nd).flatMap encDn)) (hN : (l ++ o :: nd).length = N) :
    w.cell? ⟨g, l.length * 7 + 4, none⟩ = some (.int .i64 o.1.r.v) ∧ w.cell? ⟨g, l.length * 7 + 5, none⟩ = some (.int .i64 o.1.r.e) ∧ w.cell? ⟨g, l.length * 7 + 6, none⟩ = some (.int .i64 o.1.kids) := by
  rw [← hN] at h
  obtain ⟨b, off, c, he, _, hc⟩ := (own_readsK (enc := encDn) (k := 7) encDn_len (by decide) h).at (by simp; omega)
  injection he with he _ _
  injection he with he
  injection he with e1 e2 _
  subst e1; subst e2
  have hl : l.length < (l ++ o :: nd).length := by simp
  have hg : (l ++ o :: nd)[l.length] = o := by simp
  have h4 := hc l.length hl 4 (.int .i64 o.1.r.v) (by rw [hg]; rfl)
  have h5 := hc l.length hl 5 (.int .i64 o.1.r.e) (by rw [hg]; rfl)
  have h6 := hc l.length hl 6 (.int .i64 o.1.kids) (by rw [hg]; rfl)
  rw [Nat.zero_add] at h4 h5 h6
  exact ⟨h4, h5, h6⟩
theorem own_frozen {w : World} {Z k n g cap : Nat} {E : TypeId} {xs : List Value} {m : Nat} (h : w.ownsRow Z E k (.slice (some ⟨g, 0, none⟩) n cap) m xs) (o : Nat) : w.frozen? ⟨g, o, none⟩ = false := by
  obtain ⟨h0, ⟨hv, _⟩ | ⟨g', cap', cur, hv, h1, h2, _⟩⟩ := h
  · cases hv
  injection hv with e1 _ e3
  injection e1 with e1
  injection e1 with e1
  subst e1
  simp [World.frozen?, h2]
theorem flat_set (l nd : List DnA) (t : Tk) (aa : Option Addr) (ac : Nat) (v e k : Int) : ((((l ++ (⟨t, ⟨0, 0⟩, 0⟩, aa, ac) :: nd).flatMap encDn).set (l.length * 7 + 4) (.int .i64 v)).set (l.length * 7 + 5) (.int .i64 e)).set (l.length * 7 + 6) (.int .i64 k) = (l ++ ((⟨t, ⟨v, e⟩, k⟩, aa, ac) : DnA) :: nd).flatMap encDn := by
  have hl : (l.flatMap encDn).length = l.length * 7 := flat_len (k := 7) encDn_len l
  rw [List.flatMap_append, List.flatMap_append, List.flatMap_cons, List.flatMap_cons]
  rw [List.set_append_right _ _ (by omega), List.set_append_right _ _ (by omega), List.set_append_right _ _ (by omega), hl]
  simp only [Nat.add_sub_cancel_left]
  rfl
end Go.Proofs.Ytdhbjejejeljoaa
