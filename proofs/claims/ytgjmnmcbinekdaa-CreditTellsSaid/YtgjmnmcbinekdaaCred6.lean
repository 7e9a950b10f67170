/- Credits: slices.Insert of one number into the midst of an own slice that is full; any place. -/
import Derived.Test.YtgjmnmcbinekdaaCred5
namespace Go.Proofs.Ytgjmnmcbinekdaa
open Go.RowKit Go.Sort Go.Lib Go.Shelf

set_option maxHeartbeats 4000000 in
set_option maxRecDepth 100000 in
theorem ins_grow (l : List Int) (i : Nat) (k : Int) (g cap B vb : Nat) (cur : Array Value) (w : World) (hi : i < l.length) (hl : l.length ≤ 100000) (hB0 : B ≤ w.heap.size) (hg : w.heap[g]? = some (.cells cur 3 (0, 0))) (hn : l.length ≤ cap) (hroom : cap < l.length + 1)
    (hc : ∀ j x, l[j]? = some x → w.cell? ⟨g, j, none⟩ = some (.int .i64 x)) (hvb : w.heap[vb]? = some (.cells #[.int .i64 k] 3 (0, 0))) :
    Calls Try.prog 52 #[.slice (some ⟨g, 0, none⟩) l.length cap, .int .i64 i, .slice (some ⟨vb, 0, none⟩) 1 1] w fun e w' => ∃ v', e = .returned v' ∧ COwn w' B v' (insAt l i k) ∧ Below B w w' := by
  have mixed : Try.prog.follows .mixedOrders = true := by kernel_rfl
  obtain ⟨i0, hi0, hz0, hzs, hzb⟩ := info_parts info_int
  have hsz : (Try.prog.info? 3).map (·.size) = some 1 := by rw [hi0]; simp [hzs]
  have hk0 : w.cell? ⟨vb, 0, none⟩ = some (.int .i64 k) := by simp [World.cell?, hvb]
  have hgl : g < w.heap.size := (Array.getElem?_eq_some_iff.1 hg).1
  have hvl : vb < w.heap.size := (Array.getElem?_eq_some_iff.1 hvb).1
  have hold : (Builtin.firstCells i0.size i (.slice (some ⟨g, 0, none⟩) i cap)).run Try.prog w.drew = .ok ((l.take i).map (Value.int .i64)).toArray w.drew := by
    rw [hzs]
    exact run_firstCells_some w.drew 1 i ⟨g, 0, none⟩ i cap _ (by simp; omega) (fun j v hj => by
      rw [Addr.add_lit, Nat.zero_add]
      rw [List.getElem?_map] at hj
      obtain ⟨x, hx, rfl⟩ := Option.map_eq_some_iff.1 hj
      rw [List.getElem?_take] at hx
      split at hx
      · exact hc j x hx
      · cases hx)
  have hik : i + (l.length + 1 - i) = l.length + 1 := by omega
  have hkk : (l.length : Int) + 1 - (i : Int) = ((l.length + 1 - i : Nat) : Int) := by omega
  obtain ⟨G, hG⟩ : ∃ G, grownCap w (l.length + 1) cap 3 = G := ⟨_, rfl⟩
  have hGn : l.length + 1 ≤ G := by rw [← hG]; exact grownCap_ge w _ _ _
  have hGm : G ≤ maxLen := by rw [← hG]; exact grownCap_le_maxLen w _ _ _ (by unfold maxLen; omega)
  obtain ⟨ROW, hROW⟩ : ∃ ROW : Array Value, ROW = ((l.take i).map (Value.int .i64)).toArray ++ Builtin.zeroCells (Value.int .i64 0).cells (l.length + 1 - i) ++ Builtin.zeroCells (Value.int .i64 0).cells (G - (l.length + 1)) := ⟨_, rfl⟩
  have hrz : ∀ ty, (Builtin.append_ #[23, 3] ty #[.slice (some ⟨g, 0, none⟩) i cap, .int .i64 ((l.length : Int) + 1 - (i : Int))]).run Try.prog w = .ok (.slice (some ⟨w.heap.size, 0, none⟩) (l.length + 1) G) (w.drew.alloc (.cells ROW 3)) := fun ty => by
    have h := Lib.run_append_grow_zeros (P := Try.prog) w 23 3 ty 3 i0 _ .i64 .i64 Try.underlying23 Try.underlying3 hi0 hz0 (some ⟨g, 0, none⟩) i cap _ hold (l.length + 1 - i) (by omega) (by omega) (by omega) (by omega) (by rw [hzb]; omega) (by rw [hzb, hik]; exact growslice_fits hroom (by omega))
    rw [hik, hG, ← hROW] at h
    rw [hkk]
    exact h
  have hRs : ROW.size = G := by
    rw [hROW]
    simp [Builtin.zeroCells, Value.cells]
    omega
  obtain ⟨W1, hW1⟩ : ∃ W1, W1 = w.drew.alloc (.cells ROW 3) := ⟨_, rfl⟩
  rw [← hW1] at hrz
  have hnew : W1.heap[w.heap.size]? = some (.cells ROW 3 (0, 0)) := by rw [hW1]; exact heap_alloc_new w.drew _
  have hB1 : Below w.heap.size w W1 := by rw [hW1]; exact (Below.refl _ _).drew.alloc (by show _ ≤ _; simp) _
  have hN : ∀ j, j < G → (W1.cell? ⟨w.heap.size, j, none⟩).isSome = true := fun j hj => by
    simp only [World.cell?, hnew, Option.isSome_none, Bool.false_eq_true, if_false]
    rw [Array.getElem?_eq_getElem (by omega)]; rfl
  have hNf : ∀ j, W1.frozen? ⟨w.heap.size, j, none⟩ = false := fun j => by simp [World.frozen?, hnew]
  have hOv : W1.cell? ⟨vb, 0, none⟩ = some (.int .i64 k) := (hB1.cell hvl).trans hk0
  have hOg : ∀ j x, l[j]? = some x → W1.cell? ⟨g, j, none⟩ = some (.int .i64 x) := fun j x hx => (hB1.cell hgl).trans (hc j x hx)
  have hdl : ((l.map (Value.int .i64)).drop i).length = l.length - i := by simp
  have hcpA : ∀ (W : World), (∀ x, W.cell? x = W1.cell? x) → (∀ x, W.frozen? x = W1.frozen? x) → ∀ ty dc, (Builtin.copy_ #[23, 22] ty #[.slice (some ⟨w.heap.size, i, none⟩) (l.length + 1 - i) dc, .slice (some ⟨vb, 0, none⟩) 1 1]).run Try.prog W = .ok (goInt [Value.int .i64 k].length) (W.setCells w.heap.size i [Value.int .i64 k]) := fun W hWc hWf ty dc =>
    run_copy_cells W _ _ ty 3 w.heap.size i (l.length + 1 - i) dc ⟨vb, 0, none⟩ 1 1 [Value.int .i64 k] Try.underlying23 hsz (by simp only [Nat.min_def, List.length_cons, List.length_nil]; split <;> omega)
      (fun j v hj => by
        have := (List.getElem?_eq_some_iff.1 hj).1
        cases one_idx this
        simp at hj
        subst hj
        rw [Addr.add_lit, hWc]
        exact hOv)
      (fun j hj => by rw [hWc]; cases one_idx hj; exact hN _ (by omega)) (fun j hj => by rw [hWf]; exact hNf _) (by simp [Value.oneCell'])
  have hgn : g ≠ w.heap.size := by omega
  have hcpB : ∀ (W : World), (∀ x, W.cell? x = (W1.setCells w.heap.size i [Value.int .i64 k]).cell? x) → (∀ x, W.frozen? x = (W1.setCells w.heap.size i [Value.int .i64 k]).frozen? x) → ∀ ty dc sc, (Builtin.copy_ #[23, 23] ty #[.slice (some ⟨w.heap.size, i + 1, none⟩) (l.length - i) dc, .slice (some ⟨g, i, none⟩) (l.length - i) sc]).run Try.prog W = .ok (goInt ((l.map (Value.int .i64)).drop i).length) (W.setCells w.heap.size (i + 1) ((l.map (Value.int .i64)).drop i)) := fun W hWc hWf ty dc sc =>
    run_copy_cells W _ _ ty 3 w.heap.size (i + 1) (l.length - i) dc ⟨g, i, none⟩ (l.length - i) sc _ Try.underlying23 hsz (by rw [hdl]; simp only [Nat.min_def]; split <;> omega)
      (fun j v hj => by
        rw [Addr.add_lit, hWc, World.cell?_setCells_out _ _ _ _ _ (fun h _ => absurd h hgn)]
        rw [List.getElem?_drop, List.getElem?_map] at hj
        obtain ⟨x, hx, rfl⟩ := Option.map_eq_some_iff.1 hj
        exact hOg (i + j) x hx)
      (fun j hj => by rw [hWc]; exact isSome_setCells _ _ _ _ (fun t ht => by cases one_idx ht; exact hN _ (by omega)) _ (hN _ (by omega)))
      (fun j hj => by rw [hWf, World.frozen?_setCells]; exact hNf _) (fun v hv => one_cells l v (List.mem_of_mem_drop hv))
  have hGi : ¬ (G = i) := by omega
  have hGim : ¬ (G = i + 1) := by omega
  have hci : ¬ (cap = i) := by omega
  have hw1 : IntKind.i64.wrap ((i : Int) + 1) = (i : Int) + 1 := by rw [IntKind.wrap_i64]; omega
  have hb1 : (0 : Int) ≤ (i : Int) + 1 := by omega
  have hin : i ≤ l.length := by omega
  have hin1 : i ≤ l.length + 1 := by omega
  have htn : ((i : Int) + 1).toNat = i + 1 := by omega
  have hb3 : (i : Int) ≤ (l.length : Int) + 1 := by omega
  have hb5 : (i : Int) ≤ (l.length : Int) := by omega
  have hb6 : i ≤ cap := by omega
  have hz2 : ¬ ((i : Int) = (l.length : Int)) := by omega
  have hz3 : (cap : Int) < (l.length : Int) + 1 := by omega
  have hG63 : G ≤ 9223372036854775807 := by unfold maxLen at hGm; omega
  have HC := Lib.hid hc
  have HN := Lib.hid hN
  have HNEW := Lib.hid hnew
  have HB1 := Lib.hid hB1
  have HROW := Lib.hid hROW
  have HRS := Lib.hid hRs
  subst hW1
  have HR : Hid (COwn (((w.alloc (.cells ROW 3)).drew.setCells w.heap.size i [.int .i64 k]).drew.setCells w.heap.size (i + 1) ((l.map (Value.int .i64)).drop i)) B (.slice (some ⟨w.heap.size, 0, none⟩) (l.length + 1) G) (insAt l i k) ∧
      Below B w (((w.alloc (.cells ROW 3)).drew.setCells w.heap.size i [.int .i64 k]).drew.setCells w.heap.size (i + 1) ((l.map (Value.int .i64)).drop i))) := by
    obtain ⟨Wa, hWa⟩ : ∃ Wa, Wa = (w.alloc (.cells ROW 3)).drew := ⟨_, rfl⟩
    rw [← hWa]
    have g0 : Wa.heap[w.heap.size]? = some (.cells ROW 3 (0, 0)) := by rw [hWa]; exact heap_alloc_new w _
    have gB : Below B w Wa := by rw [hWa]; exact ((Below.refl _ _).alloc hB0 _).drew
    have gN : ∀ j, j < G → (Wa.cell? ⟨w.heap.size, j, none⟩).isSome = true := fun j hj => by
      simp only [World.cell?, g0, Option.isSome_none, Bool.false_eq_true, if_false]
      rw [Array.getElem?_eq_getElem (by omega)]; rfl
    obtain ⟨W3, hW3⟩ : ∃ W3, W3 = (Wa.setCells w.heap.size i [.int .i64 k]).drew := ⟨_, rfl⟩
    rw [← hW3]
    obtain ⟨c1, e1, e2⟩ := setCells_shape [.int .i64 k] i Wa ROW g0
    have e1' : W3.heap[w.heap.size]? = some (.cells c1 3 (0, 0)) := by rw [hW3]; exact e1
    have g3N : ∀ j, j < G → (W3.cell? ⟨w.heap.size, j, none⟩).isSome = true := fun j hj => by
      simp only [World.cell?, e1', Option.isSome_none, Bool.false_eq_true, if_false]
      rw [Array.getElem?_eq_getElem (by omega)]; rfl
    obtain ⟨c2, e3, e4⟩ := setCells_shape ((l.map (Value.int .i64)).drop i) (i + 1) W3 c1 e1'
    have gB3 : Below B w W3 := by rw [hW3]; exact (below_setCells hB0 _ _ _ gB).drew
    refine ⟨?_, below_setCells hB0 _ _ _ gB3⟩
    have := COwn.cells (l := insAt l i k) hB0 e3 (by rw [insAt_len]; omega) hGm (by omega) (fun j x hx => by
      have hj := (List.getElem?_eq_some_iff.1 hx).1
      rw [insAt_len] at hj
      rw [insAt_get l i k (by omega)] at hx
      by_cases h1 : j < i
      · rw [if_pos h1] at hx
        rw [World.cell?_setCells_out _ _ _ _ _ (fun _ _ => .inl (by show j < i + 1; omega)), hW3]
        show (Wa.setCells w.heap.size i [.int .i64 k]).cell? _ = _
        rw [World.cell?_setCells_out _ _ _ _ _ (fun _ _ => .inl h1)]
        simp only [World.cell?, g0, Option.isSome_none, Bool.false_eq_true, if_false]
        rw [hROW, Array.getElem?_append_left (by simp; omega), Array.getElem?_append_left (by simp; omega), List.getElem?_toArray, List.getElem?_map, List.getElem?_take, if_pos h1, hx]
        rfl
      · rw [if_neg h1] at hx
        by_cases h2 : j = i
        · rw [if_pos h2] at hx
          subst h2
          rw [World.cell?_setCells_out _ _ _ _ _ (fun _ _ => .inl (by show j < j + 1; omega)), hW3]
          show (Wa.setCells w.heap.size j [.int .i64 k]).cell? _ = _
          have := World.cell?_setCells_in w.heap.size [.int .i64 k] j Wa (fun t ht => by cases one_idx ht; exact gN _ (by omega)) 0 (by simp)
          rw [Nat.add_zero] at this
          rw [this]
          injection hx with hx
          rw [← hx]; rfl
        · rw [if_neg h2] at hx
          have hlt : j - 1 - i < ((l.map (Value.int .i64)).drop i).length := by rw [hdl]; omega
          have := World.cell?_setCells_in w.heap.size ((l.map (Value.int .i64)).drop i) (i + 1) W3 (fun t ht => g3N _ (by rw [hdl] at ht; omega)) (j - 1 - i) hlt
          rw [show i + 1 + (j - 1 - i) = j by omega] at this
          rw [this, List.getElem_drop, List.getElem_map]
          have h3 := (List.getElem?_eq_some_iff.1 hx).2
          rw [← h3]
          congr 2
          congr 1
          omega)
    rw [insAt_len] at this
    exact this
  have hE1 : ∀ x, ((w.alloc (.cells ROW 3)).drew).cell? x = (w.drew.alloc (.cells ROW 3)).cell? x := fun x => rfl
  have hE2 : ∀ x, ((w.alloc (.cells ROW 3)).drew).frozen? x = (w.drew.alloc (.cells ROW 3)).frozen? x := fun x => rfl
  have hF1 : ∀ x, (((w.alloc (.cells ROW 3)).drew.setCells w.heap.size i [Value.int .i64 k]).drew).cell? x = ((w.drew.alloc (.cells ROW 3)).setCells w.heap.size i [Value.int .i64 k]).cell? x := fun x => rfl
  have hF2 : ∀ x, (((w.alloc (.cells ROW 3)).drew.setCells w.heap.size i [Value.int .i64 k]).drew).frozen? x = ((w.drew.alloc (.cells ROW 3)).setCells w.heap.size i [Value.int .i64 k]).frozen? x := fun x => rfl
  clear hc hvb hg hold hik hkk hG hROW hRs hnew hB1 hN hNf hOv hOg hk0
  go_enter Try.func52, Try.ntmps52
  go_wp2_with (first
    | (at_builtin; refine Lib.wpList_append_run _ rfl _ _ _ _ rfl _ _ rfl rfl _ _ (hrz _) ?_)
    | (at_builtin; refine wpList_copy_runI _ rfl _ _ 23 22 rfl _ _ rfl rfl (hcpA _ hE1 hE2 _ _) ?_))
  go_region_law_o (refine step_copy_runI rfl _ _ 23 23 rfl (.slice (some ⟨w.heap.size, i + 1, none⟩) (l.length - i) (G - (i + 1))) (.slice (some ⟨g, i, none⟩) (l.length - i) (cap - i)) (by simp [Act.eval, Act.put]) (by simp [Act.eval, Act.put]) (hcpB _ hF1 hF2 3 (G - (i + 1)) (cap - i)) ?_)
  go_wp2_with fail
  go_ret
  exact ⟨_, rfl, HR.out⟩
/-- slices.Insert of one number into an own slice. -/
theorem ins_own (l : List Int) (i : Nat) (k : Int) (v : Value) (B vb : Nat) (w : World) (h : COwn w B v l) (hi : i ≤ l.length) (hl : l.length ≤ 100000) (hB0 : B ≤ w.heap.size) (hvb : w.heap[vb]? = some (.cells #[.int .i64 k] 3 (0, 0))) (hne : v.ownBlock ≠ some vb) :
    Calls Try.prog 52 #[v, .int .i64 i, .slice (some ⟨vb, 0, none⟩) 1 1] w fun e w' => ∃ v', e = .returned v' ∧ COwn w' B v' (insAt l i k) ∧ Below B w w' := by
  by_cases he : i = l.length
  · subst he
    have := ins_end l k v B vb w h hB0 hl hvb
    rw [show insAt l l.length k = l ++ [k] by unfold insAt; simp]
    exact this
  · rcases h.open with ⟨rfl, rfl⟩ | ⟨g, cap, cur, rfl, h1, h2, h3, h4, h5, h6⟩
    · exact absurd (by simpa using hi) he
    · by_cases hroom : l.length + 1 ≤ cap
      · exact ins_shift l i k g cap B vb cur w (by omega) hl h1 h2 hroom h4 h5 h6 hvb (fun e => hne (by rw [e]; rfl))
      · exact ins_grow l i k g cap B vb cur w (by omega) hl hB0 h2 h3 (by omega) h6 hvb
end Go.Proofs.Ytgjmnmcbinekdaa
