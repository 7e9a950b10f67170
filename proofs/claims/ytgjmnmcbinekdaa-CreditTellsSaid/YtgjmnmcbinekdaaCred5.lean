/- Credits: slices.Insert of one number into the midst of an own slice. -/
import Derived.Test.YtgjmnmcbinekdaaCred4
import Derived.Laws.Externs
import Derived.Lib.Overlaps
import Derived.Shelf.RegionOpenPlain
namespace Go.Proofs.Ytgjmnmcbinekdaa
open Go.RowKit Go.Sort Go.Lib Go.Shelf

theorem one_cells (l : List Int) : ∀ v ∈ l.map (Value.int .i64), v.oneCell' = true := by
  intro v hv
  obtain ⟨x, _, rfl⟩ := List.mem_map.1 hv
  rfl
theorem sz_int : ∀ w, (Go.sizeOf 3).run Try.prog w = .ok 1 w := Try.sizeOf3
set_option maxHeartbeats 4000000 in
set_option maxRecDepth 100000 in
theorem ins_shift (l : List Int) (i : Nat) (k : Int) (g cap B vb : Nat) (cur : Array Value) (w : World) (hi : i < l.length) (hl : l.length ≤ 100000) (hBg : B ≤ g) (hg : w.heap[g]? = some (.cells cur 3 (0, 0))) (hroom : l.length + 1 ≤ cap) (hm : cap ≤ maxLen) (hs : cur.size = cap)
    (hc : ∀ j x, l[j]? = some x → w.cell? ⟨g, j, none⟩ = some (.int .i64 x)) (hvb : w.heap[vb]? = some (.cells #[.int .i64 k] 3 (0, 0))) (hne : vb ≠ g) :
    Calls Try.prog 52 #[.slice (some ⟨g, 0, none⟩) l.length cap, .int .i64 i, .slice (some ⟨vb, 0, none⟩) 1 1] w fun e w' => ∃ v', e = .returned v' ∧ COwn w' B v' (insAt l i k) ∧ Below B w w' := by
  have hk0 : w.cell? ⟨vb, 0, none⟩ = some (.int .i64 k) := by simp [World.cell?, hvb]
  have hsp : ∀ j, j < cap → (w.cell? ⟨g, j, none⟩).isSome = true := fun j hj => by
    simp only [World.cell?, hg, Option.isSome_none, Bool.false_eq_true, if_false]
    rw [Array.getElem?_eq_getElem (by omega)]; rfl
  have hfz : ∀ j, w.frozen? ⟨g, j, none⟩ = false := fun j => by simp [World.frozen?, hg]
  have hsz : (Try.prog.info? 3).map (·.size) = some 1 := by
    obtain ⟨i0, hi0, h0, h1, h2⟩ := info_parts info_int
    rw [hi0]; simp [h1]
  have hdl : ((l.map (Value.int .i64)).drop i).length = l.length - i := by simp
  obtain ⟨W1, hW1⟩ : ∃ W1, W1 = w.drew.setCells g (i + 1) ((l.map (Value.int .i64)).drop i) := ⟨_, rfl⟩
  have hcp1 : ∀ ty dc sc, (Builtin.copy_ #[23, 23] ty #[.slice (some ⟨g, i + 1, none⟩) (l.length - i) dc, .slice (some ⟨g, i, none⟩) (l.length + 1 - i) sc]).run Try.prog w.drew = .ok (goInt ((l.map (Value.int .i64)).drop i).length) W1 := fun ty dc sc => by
    rw [hW1]
    exact run_copy_cells w.drew _ _ ty 3 g (i + 1) (l.length - i) dc ⟨g, i, none⟩ (l.length + 1 - i) sc _ Try.underlying23 hsz (by rw [hdl]; simp only [Nat.min_def]; split <;> omega)
      (fun j v hj => by
        rw [Addr.add_lit]
        rw [List.getElem?_drop, List.getElem?_map] at hj
        obtain ⟨x, hx, rfl⟩ := Option.map_eq_some_iff.1 hj
        exact hc (i + j) x hx)
      (fun j hj => hsp _ (by omega)) (fun j hj => hfz _) (fun v hv => one_cells l v (List.mem_of_mem_drop hv))
  have hsp1 : ∀ j, j < cap → (W1.cell? ⟨g, j, none⟩).isSome = true := fun j hj => by
    rw [hW1]
    exact isSome_setCells g ((l.map (Value.int .i64)).drop i) (i + 1) w.drew (fun t ht => hsp _ (by rw [hdl] at ht; omega)) j (hsp j hj)
  have hcp2 : ∀ (W : World), (∀ x, W.cell? x = W1.cell? x) → (∀ x, W.frozen? x = W1.frozen? x) → ∀ ty dc, (Builtin.copy_ #[23, 22] ty #[.slice (some ⟨g, i, none⟩) (l.length + 1 - i) dc, .slice (some ⟨vb, 0, none⟩) 1 1]).run Try.prog W = .ok (goInt [Value.int .i64 k].length) (W.setCells g i [Value.int .i64 k]) := fun W hWc hWf ty dc =>
    run_copy_cells W _ _ ty 3 g i (l.length + 1 - i) dc ⟨vb, 0, none⟩ 1 1 [Value.int .i64 k] Try.underlying23 hsz (by simp only [Nat.min_def, List.length_cons, List.length_nil]; split <;> omega)
      (fun j v hj => by
        have := (List.getElem?_eq_some_iff.1 hj).1
        cases one_idx this
        simp at hj
        subst hj
        rw [Addr.add_lit, hWc, hW1, World.cell?_setCells_out g _ _ _ _ (fun h _ => absurd h hne)]
        exact hk0)
      (fun j hj => by rw [hWc]; cases one_idx hj; exact hsp1 _ (by omega)) (fun j hj => by rw [hWf, hW1, World.frozen?_setCells]; exact hfz _) (by simp [Value.oneCell'])
  have hov : ∀ lb cb, (callFunc 61 #[.slice (some ⟨vb, 0, none⟩) 1 1, .slice (some ⟨g, i + 1, none⟩) lb cb]).run Try.prog w = .ok (.value (.bool false)) w := fun lb cb => by
    rw [run_callFunc_extern Try.func61 (by kernel_rfl) (by kernel_rfl) (by kernel_rfl) (e := Extern.SlicesOverlaps.overlaps #[22, 22] #[4]) (by kernel_rfl),
      Lib.run_overlaps_apart w 22 4 3 Try.underlying22 1 sz_int ⟨vb, 0, none⟩ ⟨g, i + 1, none⟩ 1 1 lb cb hne 3 3 1 cap (by simp [World.shape?, hvb]) (by simp [World.shape?, hg, hs]) (by omega) (by simp [World.frozen?, hvb]) (by simp [World.frozen?, hvb])]
    rfl
  have HR : Hid (COwn (W1.setCells g i [.int .i64 k]) B (.slice (some ⟨g, 0, none⟩) (l.length + 1) cap) (insAt l i k) ∧ Below B w (W1.setCells g i [.int .i64 k])) := by
    obtain ⟨c1, e1, e2⟩ := setCells_shape ((l.map (Value.int .i64)).drop i) (i + 1) w.drew cur hg
    rw [← hW1] at e1
    obtain ⟨c2, e3, e4⟩ := setCells_shape [.int .i64 k] i W1 c1 e1
    have hB1 : Below B w W1 := by rw [hW1]; exact below_setCells hBg _ _ _ ((Below.refl _ _).drew)
    refine ⟨?_, below_setCells hBg _ _ _ hB1⟩
    have := COwn.cells (l := insAt l i k) hBg e3 (by rw [insAt_len]; omega) hm (by omega) (fun j x hx => by
      have hj := (List.getElem?_eq_some_iff.1 hx).1
      rw [insAt_len] at hj
      rw [insAt_get l i k (by omega)] at hx
      by_cases h1 : j < i
      · rw [if_pos h1] at hx
        rw [World.cell?_setCells_out _ _ _ _ _ (fun _ _ => .inl h1), hW1, World.cell?_setCells_out _ _ _ _ _ (fun _ _ => .inl (by show j < i + 1; omega))]
        exact hc j x hx
      · rw [if_neg h1] at hx
        by_cases h2 : j = i
        · rw [if_pos h2] at hx
          subst h2
          have := World.cell?_setCells_in g [.int .i64 k] j W1 (fun t ht => by cases one_idx ht; exact hsp1 _ (by omega)) 0 (by simp)
          rw [Nat.add_zero] at this
          rw [this]
          injection hx with hx
          rw [← hx]; rfl
        · rw [if_neg h2] at hx
          rw [World.cell?_setCells_out _ _ _ _ _ (fun _ _ => .inr (by show i + 1 ≤ j; omega)), hW1]
          have hlt : j - 1 - i < ((l.map (Value.int .i64)).drop i).length := by rw [hdl]; omega
          have := World.cell?_setCells_in g ((l.map (Value.int .i64)).drop i) (i + 1) w.drew (fun t ht => hsp _ (by rw [hdl] at ht; omega)) (j - 1 - i) hlt
          rw [show i + 1 + (j - 1 - i) = j by omega] at this
          rw [this, List.getElem_drop, List.getElem_map]
          have h3 := (List.getElem?_eq_some_iff.1 hx).2
          rw [← h3]
          congr 2
          congr 1
          omega)
    rw [insAt_len] at this
    exact this
  have hz2 : ¬ ((i : Int) = (l.length : Int)) := by omega
  have mixed : Try.prog.follows .mixedOrders = true := by kernel_rfl
  have hb1 : (0 : Int) ≤ (i : Int) + 1 := by omega
  have hin : i ≤ l.length := by omega
  have hin1 : i ≤ l.length + 1 := by omega
  have htn : ((i : Int) + 1).toNat = i + 1 := by omega
  have hw1 : IntKind.i64.wrap ((i : Int) + 1) = (i : Int) + 1 := by rw [IntKind.wrap_i64]; omega
  have hb2 : ¬ (cap = i + 1) := by omega
  have hb3 : (i : Int) ≤ (l.length : Int) + 1 := by omega
  have hb4 : ¬ (cap = i) := by omega
  have hm63 : cap ≤ 9223372036854775807 := by unfold maxLen at hm; omega
  subst hW1
  clear hc hsp hfz hsp1 hvb hg hk0 hs
  go_enter Try.func52, Try.ntmps52
  go_wp2_with (simp only [hov])
  go_region_law_o (refine step_copy_runI rfl _ _ 23 23 rfl _ _ (by simp [Act.eval, Act.put]) (by simp [Act.eval, Act.put]) (hcp1 _ _ _) ?_)
  go_wp2_with (at_builtin; refine wpList_copy_runI _ rfl _ _ 23 22 rfl _ _ rfl rfl (hcp2 _ (fun _ => rfl) (fun _ => rfl) _ _) ?_)
  go_ret
  exact ⟨_, rfl, HR.out⟩
end Go.Proofs.Ytgjmnmcbinekdaa
