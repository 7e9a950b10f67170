/- Contracts: the queue's Push and Pop. -/
import Derived.Test.YteladooegjgdnaaHp5
namespace Go.Proofs.Yteladooegjgdnaa
open Go.RowKit Go.Sort Go.Lib

theorem info_tm : (Try.prog.info? TmT).map (fun i => (i.zero, i.size, i.bytes)) = some (some (.agg #[.string ⟨#[]⟩, .int .i64 0]), 2, 24) := by kernel_rfl
/-- What a call of a queue turns. -/
abbrev QS (b : Nat) (rv : Value) : Nat → Prop := fun i => i = b ∨ rv.ownBlock = some i
structure QL (b : Nat) (rv : Value) (w : World) (rv' : Value) (w' : World) : Prop where
  fr : Fr (QS b rv) w w'
  own : rv'.ownBlock = rv.ownBlock ∨ ∀ g, rv'.ownBlock = some g → w.heap.size ≤ g
theorem QL.refl (b : Nat) (rv : Value) (w : World) : QL b rv w rv w := ⟨Fr.refl _ _, .inl rfl⟩
theorem QL.trans {b : Nat} {rv rv1 rv2 : Value} {w w1 w2 : World} (h1 : QL b rv w rv1 w1) (h2 : QL b rv1 w1 rv2 w2) : QL b rv w rv2 w2 := by
  refine ⟨h1.fr.join h2.fr (fun i hi => ?_), ?_⟩
  · rcases hi with hi | hi
    · exact .inl (.inl hi)
    · rcases h1.own with h | h
      · exact .inl (.inr (h ▸ hi))
      · exact .inr (h i hi)
  · rcases h2.own with h | h
    · rcases h1.own with h' | h'
      · exact .inl (h.trans h')
      · exact .inr fun b hb => h' b (h ▸ hb)
    · exact .inr fun b hb => Nat.le_trans h1.fr.size (h b hb)
theorem QL.below {b : Nat} {rv rv' : Value} {w w1 w2 : World} (h : QL b rv w rv' w1) (hB : Below w1.heap.size w1 w2) : QL b rv w rv' w2 := ⟨h.fr.then hB, h.own⟩
/-- The rows alone turn. -/
theorem QL.of {b g n cap : Nat} {n' cap' : Nat} {w w' : World} (hF : Fr (fun i => i = g) w w') : QL b (.slice (some ⟨g, 0, none⟩) n cap) w (.slice (some ⟨g, 0, none⟩) n' cap') w' :=
  ⟨hF.mono fun i hi => .inr (by rw [hi]; rfl), .inl rfl⟩
theorem one_tm (w : World) (x : Tm) : ∀ j u, (encT x)[j]? = some u → (w.alloc (.cells #[.string x.k, .int .i64 x.a] TmT)).cell? ((⟨w.heap.size, 0, none⟩ : Addr).add j) = some u := by
  intro j u hj
  match j with
  | 0 => simp [encT] at hj; subst hj; simp [go_sem, Addr.add]
  | 1 => simp [encT] at hj; subst hj; simp [go_sem, Addr.add]
  | j + 2 => simp [encT] at hj
abbrev ifT (x : Tm) : Value := .iface TmT (.agg #[.string x.k, .int .i64 x.a])
theorem run_ifT (x : Tm) (w : World) : (Instr.typeAssert (ifT x) 20 TmT false).run Try.prog w = .ok (.agg #[.string x.k, .int .i64 x.a]) w := by
  kernel_rfl
set_option maxHeartbeats 6400000 in
set_option maxRecDepth 100000 in
theorem qpush_any {Z b : Nat} {rv : Value} {l : List Tm} {now : Int} {w : World} (x : Tm) (h : Qu Z b rv l now w) (hl : l.length ≤ 100000) :
    Calls Try.prog 82 #[.pointer (some ⟨b, 0, none⟩), ifT x] w fun e w' => e = .returned (.tuple #[]) ∧ ∃ g cap, Qu Z b (.slice (some ⟨g, 0, none⟩) (l.length + 1) cap) (l ++ [x]) now w' ∧ QL b rv w (.slice (some ⟨g, 0, none⟩) (l.length + 1) cap) w' := by
  obtain ⟨ra, rc, rfl⟩ := own_slice h.own
  have hbl := (Array.getElem?_eq_some_iff.1 h.box).1
  have hzb := h.zb
  obtain ⟨ig, hig, hg0, hg1, hg2⟩ := info_parts info_tm
  obtain ⟨g, cap, w7, hap, hown7, hgrow, hat, _⟩ := run_append_lies (P := Try.prog) (w.drew.alloc (.cells #[.string x.k, .int .i64 x.a] TmT)) RowsT RowsT Z TmT ig (.agg #[.string ⟨#[]⟩, .int .i64 0]) 2 24 Try.underlying55 hig hg0 hg1 hg2 rfl (by decide) (.slice ra l.length rc) l.length (l.flatMap encT) (own_below h.own (((Below.refl _ _).drew).alloc (Nat.le_refl _) _)) ⟨w.heap.size, 0, none⟩ 1 1 (encT x) rfl (one_tm w.drew x) (by intro v hv; simp [encT] at hv; rcases hv with rfl | rfl <;> rfl) (by decide) (by unfold maxLen; omega) (by omega) (by simp; omega) _ rfl
  have hF7 := grow_fr' (show Below w.heap.size w (w.drew.alloc (.cells #[.string x.k, .int .i64 x.a] TmT)) from ((Below.refl _ _).drew).alloc (Nat.le_refl _) _) hgrow
  have hT7 := typed_own h.own
  have hb7 := box_typed h.box hF7 hT7 (by decide)
  have hF8 : Fr (fun i => i = b) w7 (w7.setCell ⟨b, 0, none⟩ (.slice (some ⟨g, 0, none⟩) (l.length + 1) cap)) := (Fr.refl (fun i => i = b) w7).setCell (p := ⟨b, 0, none⟩) rfl _
  have hb8 : BoxAt (w7.setCell ⟨b, 0, none⟩ (.slice (some ⟨g, 0, none⟩) (l.length + 1) cap)) b #[.slice (some ⟨g, 0, none⟩) (l.length + 1) cap, .int .i64 now, .bool true] TimersT := Go.heap_setCell_same w7 b 0 _ _ _ hb7
  have ho8 := own_typed hown7 hF8 (typed_box hb7) (by decide)
  have HQ := Lib.hid (show Qu Z b (.slice (some ⟨g, 0, none⟩) (l.length + 1) cap) (l ++ [x]) now (w7.setCell ⟨b, 0, none⟩ (.slice (some ⟨g, 0, none⟩) (l.length + 1) cap)) from ⟨hb8, by simpa [List.flatMap_append] using ho8, hzb⟩)
  have HL := Lib.hid (show QL b (.slice ra l.length rc) w (.slice (some ⟨g, 0, none⟩) (l.length + 1) cap) (w7.setCell ⟨b, 0, none⟩ (.slice (some ⟨g, 0, none⟩) (l.length + 1) cap)) from by
    refine ⟨(hF7.mono fun i hi => .inr hi).trans (hF8.mono fun i hi => .inl hi), ?_⟩
    rcases hat with e | e
    · left; rw [e]; rfl
    · right
      intro g' hg'
      have e1 : g = g' := by simpa [Value.ownBlock] using hg'
      have e2 : (w.drew.alloc (.cells #[.string x.k, .int .i64 x.a] TmT)).heap.size = w.heap.size + 1 := by simp
      omega)
  have x0 : w.cell? ⟨b, 0, none⟩ = some (.slice ra l.length rc) := h.box.cell 0
  have hal : ∀ (o : Obj), (w.alloc o).cell? ⟨b, 0, none⟩ = some (.slice ra l.length rc) := fun o => ((alT w o).cell (World.block_lt_of_cell? _ _ x0)).trans x0
  have x0' : w7.cell? ⟨b, 0, none⟩ = some (.slice ra l.length rc) := hb7.cell 0
  have f0 := hb7.frozen 0
  clear hgrow hown7 hF7 hT7 hb7 hF8 hb8 ho8 hat hig hg0 hg1 hg2 h
  have hta := run_ifT x
  go_enter Try.func82, Try.ntmps82
  go_region_law (first | (refine step_append_run rfl _ _ _ _ rfl _ _ (by simp [Act.eval]) (by simp [Act.eval]) hap ?_) | (go_simp))
  all_goals
    go_end0
    first
      | exact ⟨rfl, _, _, HQ.out, HL.out⟩
      | exact ⟨rfl, _, _, HQ.out.below (Below.refl _ _).drew, HL.out.below (Below.refl _ _).drew⟩
theorem own_cut {w : World} {Z g n cap : Nat} {xs : List Value} {k m : Nat} {E : TypeId} (h : w.ownsRow Z E k (.slice (some ⟨g, 0, none⟩) n cap) n xs) (hm : m ≤ n) : w.ownsRow Z E k (.slice (some ⟨g, 0, none⟩) m cap) m (xs.take (m * k)) := by
  obtain ⟨h0, ⟨hv, _⟩ | ⟨g', cap', cur, hv, h1, h2, h3, h4, h5, h6⟩⟩ := h
  · cases hv
  injection hv with e1 _ e3
  injection e1 with e1
  injection e1 with e1
  subst e1; subst e3
  have hk : m * k ≤ n * k := Nat.mul_le_mul_right k hm
  refine ⟨by rw [List.length_take, h0]; exact Nat.min_eq_left hk, .inr ⟨g, cap, cur, rfl, h1, h2, Nat.le_trans hm h3, h4, h5, ?_⟩⟩
  rw [← h6, List.take_take, Nat.min_eq_left hk]
theorem take_flat : ∀ (l : List Tm) (n : Nat), (l.flatMap encT).take (n * 2) = (l.take n).flatMap encT
  | [], n => by simp
  | x :: l, 0 => by simp
  | x :: l, n + 1 => by
    rw [List.take_succ_cons, List.flatMap_cons, List.flatMap_cons, ← take_flat l n, show (n + 1) * 2 = 2 + n * 2 from by omega, show encT x = [.string x.k, .int .i64 x.a] from rfl, Nat.add_comm 2]
    rfl
theorem run_cutT {g N n cap : Nat} (hn : n ≤ cap) (W : World) : (Instr.slice RowsT (.slice (some ⟨g, 0, none⟩) N cap) none (some (.int .i64 (n : Int))) none).run Try.prog W = .ok (.slice (some ⟨g, 0, none⟩) n cap) W := by
  rw [run_slice_h (P := Try.prog) (w := W) (t := RowsT) (a := some ⟨g, 0, none⟩) (len := N) (cap := cap) (by kernel_rfl) .i64 n (by omega) (by omega)]
  have hs : (sizeOf (Try.prog.elem RowsT)).run Try.prog W = .ok 2 W := by kernel_rfl
  rw [hs]
  simp [Result.andThen, sliced, Addr.add]
set_option maxHeartbeats 6400000 in
set_option maxRecDepth 100000 in
theorem qpop_any {Z b g n cap : Nat} {l : List Tm} {now : Int} {w : World} (h : Qu Z b (.slice (some ⟨g, 0, none⟩) (n + 1) cap) l now w) (hl : l.length = n + 1) (hn : n ≤ 100000) :
    Calls Try.prog 81 #[.pointer (some ⟨b, 0, none⟩)] w fun e w' => e = .returned (ifT (l.getD n default)) ∧ Qu Z b (.slice (some ⟨g, 0, none⟩) n cap) (l.take n) now w' ∧ QL b (.slice (some ⟨g, 0, none⟩) (n + 1) cap) w (.slice (some ⟨g, 0, none⟩) n cap) w' := by
  have H0 := Lib.hid h
  have ho : w.ownsRow Z TmT 2 (.slice (some ⟨g, 0, none⟩) (n + 1) cap) (n + 1) (l.flatMap encT) := by have := h.own; rwa [hl] at this
  have hnl : n < l.length := by omega
  obtain ⟨a0, a1⟩ := tm_at ho hl hnl
  have hgn : l.getD n default = l[n] := by rw [List.getD_eq_getElem?_getD, List.getElem?_eq_getElem hnl]; rfl
  have x0 : w.cell? ⟨b, 0, none⟩ = some (.slice (some ⟨g, 0, none⟩) (n + 1) cap) := h.box.cell 0
  have HO := Lib.hid (own_cut ho (show n ≤ n + 1 by omega))
  have HLN := Lib.hid hl
  rw [hgn]
  clear h ho hgn
  obtain ⟨N, hN⟩ : ∃ N, n + 1 = N := ⟨_, rfl⟩
  rw [hN] at x0 H0 ⊢
  have q1 : IntKind.i64.wrap ((N : Int) - 1) = (n : Int) := by rw [IntWalk.i64_in _ (by omega)]; omega
  have i0 : (0 : Int) ≤ n := by omega
  have i1 : (n : Int) < N := by omega
  have i2 : n ≤ N := by omega
  have hNc : N ≤ cap := by
    obtain ⟨_, ⟨hv, _⟩ | ⟨g', cap', cur, hv, _, _, h3, _⟩⟩ := H0.out.own
    · cases hv
    · injection hv with _ h1 h2; omega
  have HNN := Lib.hid hN
  clear hN
  generalize l[n] = x at *
  go_enter Try.func81, Try.ntmps81
  go_wp2_with fail
  refine (rlen_any _ _ _ _).mono ?_
  rintro e w2 ⟨rfl, rfl⟩
  go_upto_region 3 with fail
  have hsl := run_cutT (g := g) (N := N) (show n ≤ cap by omega)
  have hR := Lib.hid (show Qu Z b (.slice (some ⟨g, 0, none⟩) n cap) (l.take n) now ((w2.alloc (.cells #[.string x.k, .int .i64 x.a] TmT)).setCell ⟨b, 0, none⟩ (.slice (some ⟨g, 0, none⟩) n cap)) ∧ QL b (.slice (some ⟨g, 0, none⟩) N cap) w2 (.slice (some ⟨g, 0, none⟩) n cap) ((w2.alloc (.cells #[.string x.k, .int .i64 x.a] TmT)).setCell ⟨b, 0, none⟩ (.slice (some ⟨g, 0, none⟩) n cap)) from by
    have hB : Below w2.heap.size w2 (w2.alloc (.cells #[.string x.k, .int .i64 x.a] TmT)) := (Below.refl _ _).alloc (Nat.le_refl _) _
    have hF8 : Fr (fun i => i = b) (w2.alloc (.cells #[.string x.k, .int .i64 x.a] TmT)) ((w2.alloc (.cells #[.string x.k, .int .i64 x.a] TmT)).setCell ⟨b, 0, none⟩ (.slice (some ⟨g, 0, none⟩) n cap)) := (Fr.refl (fun i => i = b) _).setCell (p := ⟨b, 0, none⟩) rfl _
    have H1 := H0.out.below hB
    have hb8 : BoxAt ((w2.alloc (.cells #[.string x.k, .int .i64 x.a] TmT)).setCell ⟨b, 0, none⟩ (.slice (some ⟨g, 0, none⟩) n cap)) b #[.slice (some ⟨g, 0, none⟩) n cap, .int .i64 now, .bool true] TimersT := Go.heap_setCell_same _ b 0 _ _ _ H1.box
    have ho8 := own_typed (own_below HO.out hB) hF8 (typed_box H1.box) (by decide)
    have e : (l.take n).length = n := by rw [List.length_take, HLN.out]; omega
    exact ⟨⟨hb8, by rw [e]; rw [take_flat] at ho8; exact ho8, H0.out.zb⟩, ((Fr.refl _ w2).then hB).trans (hF8.mono fun i hi => .inl hi), .inl rfl⟩)
  have f0 : (w2.alloc (.cells #[.string x.k, .int .i64 x.a] TmT)).frozen? ⟨b, 0, none⟩ = false := (H0.out.below ((Below.refl _ _).alloc (Nat.le_refl _) _)).box.frozen 0
  have hal : ∀ (o : Obj), (w2.alloc o).cell? ⟨b, 0, none⟩ = some (.slice (some ⟨g, 0, none⟩) N cap) := fun o => ((alT w2 o).cell (World.block_lt_of_cell? _ _ x0)).trans x0
  have hF9 : Fr (fun i => i = b) (w2.alloc (.cells #[.string x.k, .int .i64 x.a] TmT)) ((w2.alloc (.cells #[.string x.k, .int .i64 x.a] TmT)).setCell ⟨b, 0, none⟩ (.slice (some ⟨g, 0, none⟩) n cap)) := (Fr.refl (fun i => i = b) _).setCell (p := ⟨b, 0, none⟩) rfl _
  have hbl : w2.heap.size ≠ b := fun e => Nat.lt_irrefl _ (e ▸ (World.block_lt_of_cell? _ _ x0 : b < w2.heap.size))
  have z0 : ((w2.alloc (.cells #[.string x.k, .int .i64 x.a] TmT)).setCell ⟨b, 0, none⟩ (.slice (some ⟨g, 0, none⟩) n cap)).cell? ⟨w2.heap.size, 0, none⟩ = some (.string x.k) := (hF9.cell (p := ⟨w2.heap.size, 0, none⟩) (by simp) hbl).trans (by simp [go_sem])
  have z1 : ((w2.alloc (.cells #[.string x.k, .int .i64 x.a] TmT)).setCell ⟨b, 0, none⟩ (.slice (some ⟨g, 0, none⟩) n cap)).cell? ⟨w2.heap.size, 1, none⟩ = some (.int .i64 x.a) := (hF9.cell (p := ⟨w2.heap.size, 1, none⟩) (by simp) hbl).trans (by simp [go_sem])
  clear hF9
  go_wp2_with fail
  first | go_ret | go_ret2
  exact ⟨rfl, hR.out.1, hR.out.2⟩
end Go.Proofs.Yteladooegjgdnaa
