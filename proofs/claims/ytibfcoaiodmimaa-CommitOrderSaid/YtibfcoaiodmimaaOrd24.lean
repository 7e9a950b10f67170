/- Walk: CommitOrder. -/
import Derived.Test.YtibfcoaiodmimaaHeavy24
import Derived.Test.YtibfcoaiodmimaaCLaw24
namespace Go.Proofs.Ytibfcoaiodmimaa
open Go.RowKit Go.Sort Go.Lib

/-- Two ledgers of the call's own, and a slice. -/
structure Two (wb : World) (fa ma fb mb : Nat) (la lb : List (Nm × Ent)) (w : World) : Prop where
  low : Below wb.heap.size wb w
  ha : wb.heap.size ≤ fa
  hm : wb.heap.size ≤ ma
  hb : wb.heap.size ≤ fb
  hn : wb.heap.size ≤ mb
  a : Led w fa ma 4096 la
  b : Led w fb mb 4096 lb
  ap : fb ≠ fa ∧ fb ≠ ma ∧ mb ≠ fa ∧ mb ≠ ma
section
variable {wb w w' : World} {fa ma fb mb : Nat} {la lb : List (Nm × Ent)}
theorem Two.below (h : Two wb fa ma fb mb la lb w) (hB : Below w.heap.size w w') : Two wb fa ma fb mb la lb w' :=
  ⟨h.low.trans (hB.mono h.low.size), h.ha, h.hm, h.hb, h.hn, h.a.below hB, h.b.below hB, h.ap⟩
theorem Two.cmdA (h : Two wb fa ma fb mb la lb w) {x : Ent} (hC : Cmd fa ma 4096 la x w w') : Two wb fa ma fb mb (cmL la 4096 x) lb w' :=
  ⟨h.low.trans (hC.2.below (fun i hi => by rcases hi with rfl | rfl; exact h.ha; exact h.hm) h.low.size), h.ha, h.hm, h.hb, h.hn, hC.1,
    h.b.fr hC.2 (by rintro (e | e); exact h.ap.1 e; exact h.ap.2.1 e) (by rintro (e | e); exact h.ap.2.2.1 e; exact h.ap.2.2.2 e), h.ap⟩
theorem Two.cmdB (h : Two wb fa ma fb mb la lb w) {x : Ent} (hC : Cmd fb mb 4096 lb x w w') : Two wb fa ma fb mb la (cmL lb 4096 x) w' :=
  ⟨h.low.trans (hC.2.below (fun i hi => by rcases hi with rfl | rfl; exact h.hb; exact h.hn) h.low.size), h.ha, h.hm, h.hb, h.hn,
    h.a.fr hC.2 (by rintro (e | e); exact h.ap.1 e.symm; exact h.ap.2.2.1 e.symm) (by rintro (e | e); exact h.ap.2.1 e.symm; exact h.ap.2.2.2 e.symm), hC.1, h.ap⟩
/-- .. and a slice of entries. -/
structure Ord1 (wb : World) (fa ma fb mb B : Nat) (la lb : List (Nm × Ent)) (L : List Ent) (u : Value) (w : World) : Prop where
  two : Two wb fa ma fb mb la lb w
  fB : fa < B ∧ ma < B ∧ fb < B ∧ mb < B
  Bw : B ≤ w.heap.size
  own : w.ownsRow B ET 5 u L.length (L.flatMap encE)
variable {B : Nat} {L : List Ent} {u : Value}
theorem Ord1.below (h : Ord1 wb fa ma fb mb B la lb L u w) (hB : Below w.heap.size w w') : Ord1 wb fa ma fb mb B la lb L u w' :=
  ⟨h.two.below hB, h.fB, Nat.le_trans h.Bw hB.size, own_below h.own hB⟩
theorem Ord1.cmdA (h : Ord1 wb fa ma fb mb B la lb L u w) {x : Ent} (hC : Cmd fa ma 4096 la x w w') : Ord1 wb fa ma fb mb B (cmL la 4096 x) lb L u w' :=
  ⟨h.two.cmdA hC, h.fB, Nat.le_trans h.Bw hC.2.size, own_fr h.own hC.2 (fun i hi => by have := (h.own.lt i hi).1; have := h.fB; rintro (rfl | rfl) <;> omega)⟩
theorem Ord1.cmdB (h : Ord1 wb fa ma fb mb B la lb L u w) {x : Ent} (hC : Cmd fb mb 4096 lb x w w') : Ord1 wb fa ma fb mb B la (cmL lb 4096 x) L u w' :=
  ⟨h.two.cmdB hC, h.fB, Nat.le_trans h.Bw hC.2.size, own_fr h.own hC.2 (fun i hi => by have := (h.own.lt i hi).1; have := h.fB; rintro (rfl | rfl) <;> omega)⟩
theorem Ord1.more (h : Ord1 wb fa ma fb mb B la lb L u w) {u' : Value} {x : Ent} (hF : Fr (fun i => some i = u.ownBlock) w w') (ho : w'.ownsRow B ET 5 u' (L.length + 1) (L.flatMap encE ++ encE x)) : Ord1 wb fa ma fb mb B la lb (L ++ [x]) u' w' := by
  have hb : ∀ i, i < B → ¬ some i = u.ownBlock := fun i hi e => by have := (h.own.lt i e.symm).1; omega
  have hwb : wb.heap.size ≤ B := by have := h.two.ha; have := h.fB; omega
  refine ⟨⟨h.two.low.trans (hF.below (fun i hi => by have := (h.own.lt i hi.symm).1; omega) h.two.low.size), h.two.ha, h.two.hm, h.two.hb, h.two.hn, h.two.a.fr hF (hb _ h.fB.1) (hb _ h.fB.2.1), h.two.b.fr hF (hb _ h.fB.2.2.1) (hb _ h.fB.2.2.2), h.two.ap⟩, h.fB, Nat.le_trans h.Bw hF.size, ?_⟩
  simpa using ho
theorem Ord1.reads (h : Ord1 wb fa ma fb mb B la lb L u w) : ReadsK encE 5 w u L := own_readsK (enc := encE) (k := 5) (fun _ => rfl) (by decide) h.own
end

theorem ent_at {wb w : World} {b off k : Nat} {x : Stp} (hcc : ∀ t u, (encS x)[t]? = some u → wb.cell? ⟨b, off + (k * 10 + t), none⟩ = some u) (hb : b < wb.heap.size) (h : Below wb.heap.size wb w) :
    w.cell? ⟨b, off + k * 10 + 1, none⟩ = some (.int .u64 x.2.1.1.1) ∧ w.cell? ⟨b, off + k * 10 + 1 + 1, none⟩ = some (.string x.2.1.1.2) ∧ w.cell? ⟨b, off + k * 10 + 1 + 2, none⟩ = some (.int .i64 x.2.1.2.1) ∧
      w.cell? ⟨b, off + k * 10 + 1 + 3, none⟩ = some (.int .i64 x.2.1.2.2.1) ∧ w.cell? ⟨b, off + k * 10 + 1 + 4, none⟩ = some (.int .i64 x.2.1.2.2.2) :=
  ⟨cell_low h hb (hcc 1 _ rfl), cell_low h hb (hcc 2 _ rfl), cell_low h hb (hcc 3 _ rfl), cell_low h hb (hcc 4 _ rfl), cell_low h hb (hcc 5 _ rfl)⟩
theorem gl_size {l : List (Nm × Ent)} (h : GL l) : ∀ p ∈ l, p.1.2.size ≤ 9223372036854775807 := fun p hp => by
  have := (good_ent (h.good p hp)).2.2.1
  rw [h.key p hp] at this
  omega
theorem gdrew {n : Nat} {w y : World} (h : Below n w.drew y) : Below n w y := ⟨h.os, h.tape, h.output, h.size, h.block⟩
theorem wantR_len {l : List (Nm × Ent)} (h : GL l) (hl : l.length ≤ 4096) (root : Nm) : (wantR root l).length ≤ 1000000 := by
  unfold wantR; split
  · exact want_len h hl _ _
  · simp
theorem undR_le (root : Nm) (l : List (Nm × Ent)) : (undR root l).length ≤ l.length := by
  unfold undR; split
  · rw [(sortE_perm _).length_eq]; unfold undA; rw [List.length_map]; exact List.length_filter_le _ _
  · simp
theorem cm_pair {l : List (Nm × Ent)} {most : Int} {x : Ent} : cmA l most x = ((cmA l most x).1, (cmA l most x).2) := rfl

set_option maxHeartbeats 8000000 in
set_option maxRecDepth 100000 in
theorem order_any (v : Value) (l : List Stp) (root : Nm) (w0 : World) (hv : ReadsK encS 10 w0 v l) (hz : ∀ x ∈ l, x.2.1.1.2.size ≤ 9223372036854775807) (hl : (l.length : Int) ≤ 9223372036854775807) (hs : root.2.size ≤ 9223372036854775807) :
    Calls Try.prog 3 #[v, .agg #[.int .u64 root.1, .string root.2]] w0 fun e w' => e = .returned (.bool true) ∧ Below w0.heap.size w0 w' := by
  obtain ⟨ig, hig, hg0, hg1, hg2⟩ := info_parts info_ent
  obtain ⟨a, cap, rfl⟩ := hv.slice
  have hA : Below w0.heap.size w0 (w0.alloc (.cells #[.int .u64 root.1, .string root.2] 25)) := (Below.refl _ _).alloc (Nat.le_refl _) _
  have HV := Lib.hid (hv.below hA)
  have HZ := Lib.hid hz
  have n1 : (w0.alloc (.cells #[.int .u64 root.1, .string root.2] 25)).cell? ⟨w0.heap.size, 0, none⟩ = some (.int .u64 root.1) := by simp
  have n2 : (w0.alloc (.cells #[.int .u64 root.1, .string root.2] 25)).cell? ⟨w0.heap.size, 1, none⟩ = some (.string root.2) := by simp
  have HA := Lib.hid hA
  clear hv hz hA
  go_enter Try.func3, Try.ntmps3
  go_wp2_with fail
  refine (heavy_any _ l _ HV.out hl).mono ?_
  rintro e wb ⟨b, rfl, hB, hb⟩
  replace n1 := cell_keep hB n1
  replace n2 := cell_keep hB n2
  replace HV := Lib.hid (HV.out.below hB)
  have HB := Lib.hid (gthen HA.out hB)
  clear hB HA
  cases b
  · have hl2 := hb rfl
    clear hb hl
    by_cases hr : (root.2.size : Int) > 100
    · go_wp2_with fail
      refine (works_any _).mono ?_
      rintro e w1 ⟨rfl, hB⟩
      have HB1 := Lib.hid (gthen HB.out hB)
      clear hB HB
      go_wp2_with fail
      go_ret
      exact ⟨ret_boolE rfl, HB1.out⟩
    · go_wp2_with fail
      refine (new_led 4096 _ (by decide) (by decide)).mono ?_
      rintro e w1 ⟨fa, ma, rfl, hfa, hma, hFa, hB1⟩
      have HFA := Lib.hid hFa
      have HB1 := Lib.hid hB1
      clear hFa hB1
      go_wp2_with fail
      refine (new_led 4096 _ (by decide) (by decide)).mono ?_
      rintro e w2 ⟨fb, mb, rfl, hfb, hmb, hFb, hB2⟩
      have hsz1 := HB1.out.size
      have hlt := HFA.out.lt
      have hlb := hFb.lt
      have HE : Hid (Ord1 wb fa ma fb mb w2.heap.size [] [] [] (.slice none 0 0) w2) := ⟨⟨gthen HB1.out hB2, hfa, hma, by omega, by omega, HFA.out.below hB2, hFb, by omega, by omega, by omega, by omega⟩, ⟨by have := hB2.size; omega, by have := hB2.size; omega, hlb.1, hlb.2.1⟩, Nat.le_refl _, World.ownsRow_nil _ _ _ _⟩
      clear HB1 HFA hFb hB2 hlt hlb hfa hma hfb hmb hsz1
      go_wp2_with fail
      generalize w2.heap.size = B at HE
      go_loopg [9, 10] l.length (fun gk u i wr => ∃ (k : Nat) (la : List (Nm × Ent)) (L : List Ent), gk + k = l.length ∧ i = .int .i64 k ∧ Ord1 wb fa ma fb mb B la [] L u wr ∧ OrdI la L ∧ L.length ≤ k)
      case atStart => exact ⟨0, [], [], by omega, rfl, HE.out, OrdI.start, by simp⟩
      case round =>
        clear HE
        obtain ⟨k, la, L, hlen, rfl, hE, hI, hLk⟩ := hrel
        have HE := Lib.hid hE
        have HI := Lib.hid hI
        clear hE hI
        by_cases hlt : k < l.length
        · obtain ⟨b, off, c, he, hb, hc⟩ := HV.out.at (by omega)
          injection he with he1 he2 he3
          subst he1
          have hx := Lib.hid (HZ.out _ (List.getElem_mem hlt))
          have HC := Lib.hid (hc k hlt)
          have hbl := Lib.hid hb
          clear hc he2 he3 hb
          generalize l[k] = x at HC hx
          obtain ⟨c1, c2, c3, c4, c5⟩ := ent_at HC.out hbl.out HE.out.two.low
          have hla : (la.length : Int) ≤ 9223372036854775807 := by have := HI.out.len; rw [HI.out.eq]; simp [ents]; omega
          go_wp2_with fail
          refine (commit_led fa ma 4096 la x.2.1 wr HE.out.two.a hx.out hla).mono ?_
          rintro e w3 ⟨rfl, hC⟩
          have HE3 := Lib.hid (HE.out.cmdA hC)
          clear hC HE c1 c2 c3 c4 c5
          cases hc : (cmA la 4096 x.2.1).1
          · rw [cm_old hc] at HE3
            clear hc
            by_cases h0 : (cmA la 4096 x.2.1).2 = 0
            · rw [h0]
              clear h0
              go_wp2_with fail
              go_roundg (gk - 1)
              case rel => exact ⟨k + 1, la, L, by omega, by go_num, HE3.out, HI.out, by omega⟩
              case measure => omega
            · go_wp2_with fail
              go_roundg (gk - 1)
              case rel => exact ⟨k + 1, la, L, by omega, by go_num, HE3.out, HI.out, by omega⟩
              case measure => omega
          · have HI3 := Lib.hid (HI.out.step hc)
            have h0 : (cmA la 4096 x.2.1).2 = 0 := by rw [(cm_new hc).2.2.2.1]
            rw [h0]
            obtain ⟨c1, c2, c3, c4, c5⟩ := ent_at HC.out hbl.out HE3.out.two.low
            generalize cmL la 4096 x.2.1 = la' at HE3 HI3
            clear h0 hc
            go_wp2_with (at_builtin; refine wpList_append_lies _ rfl _ _ 32 rfl B ET ig (.agg #[.int .u64 0, .string ⟨#[]⟩, .int .i64 0, .int .i64 0, .int .i64 0]) 5 48 Try.underlying32 hig hg0 hg1 hg2 rfl (by decide) _ _ _ rfl (own_below HE3.out.own ((Below.refl _ _).alloc (Nat.le_refl _) _)) ⟨w3.heap.size, 0, none⟩ 1 1 (encE x.2.1) rfl rfl ?c1 ?c2 (by decide) ?c3 ?c4 ?c5 _ rfl ?_)
            case c1 => exact ent_cells x.2.1 _ rfl
            case c2 => exact ent_one _
            case c3 => unfold maxLen; omega
            case c4 => omega
            case c5 => have := HE3.out.Bw; simp; omega
            intro g cap' w5 hown5 hgrow hat _
            have hF := grow_fr ((Below.refl w3.heap.size w3).alloc (Nat.le_refl _) (.cells #[.int .u64 x.2.1.1.1, .string x.2.1.1.2, .int .i64 x.2.1.2.1, .int .i64 x.2.1.2.2.1, .int .i64 x.2.1.2.2.2] 38)) hgrow
            have HE5 := Lib.hid (HE3.out.more (x := x.2.1) hF (by simpa using hown5))
            clear HE3 hown5 hgrow hat hF c1 c2 c3 c4 c5
            go_wp2_with fail
            go_roundg (gk - 1)
            case rel => exact ⟨k + 1, la', L ++ [x.2.1], by omega, by go_num, HE5.out, HI3.out, by simp; omega⟩
            case measure => omega
        · obtain rfl : k = l.length := by omega
          clear hlt hlen
          obtain ⟨u0, ucap, hu⟩ := HE.out.reads.slice
          have hL200 : L.length ≤ 200 := by omega
          obtain ⟨wo, hwo⟩ : ∃ wo, wo = wr := ⟨_, rfl⟩
          subst hwo
          obtain ⟨gko, hgo⟩ : ∃ gko, gko = gk := ⟨_, rfl⟩
          subst hgo
          subst hu
          go_wp2_with fail
          go_loopg [13] L.length (fun gk i wx => i = .int .i64 ((gk : Int) - 1) ∧ gk ≤ L.length ∧ Ord1 wb fa ma fb mb B la (backL L gk) L (.slice u0 L.length ucap) wx)
          case atStart => exact ⟨by simp, Nat.le_refl _, by rw [back_start]; exact HE.out⟩
          case round =>
            clear HE
            obtain ⟨rfl, hgl, hE⟩ := hrel
            have HE := Lib.hid hE
            clear hE
            cases gk with
            | succ k =>
              rw [show ((k + 1 : Nat) : Int) - 1 = (k : Int) by omega]
              obtain ⟨b, off, c, he, hb, hc⟩ := HE.out.reads.at (by omega)
              injection he with he1 he2 he3
              subst he1
              have HS := Lib.hid (back_step HI.out (show k < L.length by omega))
              have hx := Lib.hid (good_ent (HI.out.ok (List.getElem_mem (show k < L.length by omega))))
              have hcc := hc k (by omega)
              clear hc he2 he3 hb
              generalize L[k] = x at hcc HS hx
              have c1 : wr.cell? ⟨b, off + k * 5, none⟩ = some (.int .u64 x.1.1) := hcc 0 _ rfl
              have c2 : wr.cell? ⟨b, off + k * 5 + 1, none⟩ = some (.string x.1.2) := hcc 1 _ rfl
              have c3 : wr.cell? ⟨b, off + k * 5 + 2, none⟩ = some (.int .i64 x.2.1) := hcc 2 _ rfl
              have c4 : wr.cell? ⟨b, off + k * 5 + 3, none⟩ = some (.int .i64 x.2.2.1) := hcc 3 _ rfl
              have c5 : wr.cell? ⟨b, off + k * 5 + 4, none⟩ = some (.int .i64 x.2.2.2) := hcc 4 _ rfl
              clear hcc
              go_wp2_with fail
              refine (commit_led fb mb 4096 (backL L (k + 1)) x wr HE.out.two.b (by have := hx.out.2.2.1; omega) (by simp [backL, ents]; omega)).mono ?_
              rintro e w3 ⟨rfl, hC⟩
              have hE3 := HE.out.cmdB hC
              rw [HS.out.2] at hE3
              rw [HS.out.1]
              have HE3 := Lib.hid hE3
              clear hC HE hE3 c1 c2 c3 c4 c5 HS
              go_wp2_with fail
              go_roundg k
              case rel => exact ⟨rfl, by omega, HE3.out⟩
              case measure => omega
            | zero =>
              have HT := Lib.hid (want_same HI.out.gl (back_perm HI.out) root)
              have HGA := Lib.hid HI.out.gl
              have HGB := Lib.hid (show GL (backL L 0) from by have := back_gl HI.out L.length (Nat.le_refl _); rwa [Nat.sub_self] at this)
              have HLA := Lib.hid (show la.length = L.length from by rw [HI.out.eq]; simp [ents])
              have HLB := Lib.hid (show (backL L 0).length = L.length from by simp [backL, ents])
              have n1' := cell_low HE.out.two.low (World.block_lt_of_cell? _ _ n1) n1
              have n2' := cell_low HE.out.two.low (World.block_lt_of_cell? _ _ n2) n2
              have hl0 : w0.heap.size < wr.heap.size := World.block_lt_of_cell? _ _ n1'
              have HL4 := Lib.hid HI.out.len
              clear HI hgl
              generalize backL L 0 = lb at HE HT HGB HLB
              go_upto_region 20 with fail
              have hlA : la.length ≤ 4096 := by rw [HLA.out]; exact HL4.out
              have hlB : lb.length ≤ 4096 := by rw [HLB.out]; exact HL4.out
              refine wp_region_held_drew (S := fun y => Below wr.heap.size wr y) (by kernel_rfl) ((Below.refl _ _).drew) (fun hHeld => ?_)
              refine wpAnyH_take (i := 0) (oi := _) (v := ?_) (by rw [List.getElem?_toArray]; exact rfl) (by kernel_rfl) (by kernel_rfl) (by kernel_rfl) (by exact fun _ _ _ h => h) (Or.inl ⟨by rfl, ?_⟩) hHeld ?_
              rotate_left
              · (intro w hSw; have q0 := cell_low hSw hl0 n1'; have q1 := cell_low hSw hl0 n2'; clear hSw; go_simp; try with_reducible rfl)
              try simp only [Act.put, List.setIfInBounds_toArray, List.set_cons_zero, List.set_cons_succ]
              refine wpAnyH_take (i := 1) (oi := _) (v := ?_) (by rw [List.getElem?_toArray]; exact rfl) (by kernel_rfl) (by kernel_rfl) (by kernel_rfl) (by exact fun _ _ _ h => h) (Or.inl ⟨by rfl, ?_⟩) hHeld ?_
              rotate_left
              · (intro w hSw; have q0 := cell_low hSw hl0 n1'; have q1 := cell_low hSw hl0 n2'; clear hSw; go_simp; try with_reducible rfl)
              try simp only [Act.put, List.setIfInBounds_toArray, List.set_cons_zero, List.set_cons_succ]
              refine wpAnyH_take (i := 3) (oi := _) (v := ?_) (by rw [List.getElem?_toArray]; exact rfl) (by kernel_rfl) (by kernel_rfl) (by kernel_rfl) (by exact fun _ _ _ h => h) (Or.inl ⟨by rfl, ?_⟩) hHeld ?_
              rotate_left
              · (intro w hSw; have q0 := cell_low hSw hl0 n1'; have q1 := cell_low hSw hl0 n2'; clear hSw; go_simp; try with_reducible rfl)
              try simp only [Act.put, List.setIfInBounds_toArray, List.set_cons_zero, List.set_cons_succ]
              refine wpAnyH_take (i := 4) (oi := _) (v := ?_) (by rw [List.getElem?_toArray]; exact rfl) (by kernel_rfl) (by kernel_rfl) (by kernel_rfl) (by exact fun _ _ _ h => h) (Or.inl ⟨by rfl, ?_⟩) hHeld ?_
              rotate_left
              · (intro w hSw; have q0 := cell_low hSw hl0 n1'; have q1 := cell_low hSw hl0 n2'; clear hSw; go_simp; try with_reducible rfl)
              try simp only [Act.put, List.setIfInBounds_toArray, List.set_cons_zero, List.set_cons_succ]
              refine wpAnyH_ready (rs := [2]) (by kernel_rfl) (by simp) ?_
              refine AllReadyH.cons (o := _) (by rw [List.getElem?_toArray]; exact rfl) (fun K hK => ?_) ?_
              · go_simp
                refine (wants_led fa ma 4096 la root _ (HE.out.two.a.below hHeld) HGA.out.good (want_len HGA.out hlA root.1 root.2) hs).mono ?_; rintro e wc ⟨vx, rfl, ho1, hB⟩; have HX := Lib.hid (own_readsV ho1); clear ho1
                go_wp2_with fail
                refine hK.out _ _ (hHeld.trans (hB.mono hHeld.size)) (fun hHeld => ?_)
                clear hK K
                try simp only [Act.put, List.setIfInBounds_toArray, List.set_cons_zero, List.set_cons_succ]
                refine wpAnyH_ready (rs := [5]) (by kernel_rfl) (by simp) ?_
                refine AllReadyH.cons (o := _) (by rw [List.getElem?_toArray]; exact rfl) (fun K hK => ?_) ?_
                · go_simp
                  refine (wants_led fb mb 4096 lb root _ (HE.out.two.b.below hHeld) HGB.out.good (want_len HGB.out hlB root.1 root.2) hs).mono ?_; rintro e wd ⟨vy, rfl, ho1, hB⟩; rw [HT.out.1] at ho1; have HY := Lib.hid (own_readsV ho1); replace HX := Lib.hid (HX.out.below hB); clear ho1
                  go_wp2_with fail
                  refine hK.out _ _ (hHeld.trans (hB.mono hHeld.size)) (fun hHeld => ?_)
                  clear hK K
                  try simp only [Act.put, List.setIfInBounds_toArray, List.set_cons_zero, List.set_cons_succ]
                  refine wpAnyH_take (i := 6) (oi := _) (v := ?_) (by rw [List.getElem?_toArray]; exact rfl) (by kernel_rfl) (by kernel_rfl) (by kernel_rfl) (by exact fun _ _ _ h => h) (Or.inl ⟨by rfl, ?_⟩) hHeld ?_
                  rotate_left
                  · (intro w hSw; have q0 := cell_low hSw hl0 n1'; have q1 := cell_low hSw hl0 n2'; clear hSw; go_simp; try with_reducible rfl)
                  try simp only [Act.put, List.setIfInBounds_toArray, List.set_cons_zero, List.set_cons_succ]
                  refine wpAnyH_take (i := 7) (oi := _) (v := ?_) (by rw [List.getElem?_toArray]; exact rfl) (by kernel_rfl) (by kernel_rfl) (by kernel_rfl) (by exact fun _ _ _ h => h) (Or.inl ⟨by rfl, ?_⟩) hHeld ?_
                  rotate_left
                  · (intro w hSw; have q0 := cell_low hSw hl0 n1'; have q1 := cell_low hSw hl0 n2'; clear hSw; go_simp; try with_reducible rfl)
                  try simp only [Act.put, List.setIfInBounds_toArray, List.set_cons_zero, List.set_cons_succ]
                  refine wpAnyH_done (by kernel_rfl) ?_ _
                  obtain ⟨ax, cx, rfl⟩ := HX.out.slice
                  obtain ⟨ay, cy, rfl⟩ := HY.out.slice
                  have hWL := wantR_len HGA.out hlA root
                  generalize wantR root la = WL at *
                  replace HE := Lib.hid (HE.out.below hHeld)
                  replace n1' := cell_keep hHeld n1'
                  replace n2' := cell_keep hHeld n2'
                  clear hHeld hl0
                  have hl0 : w0.heap.size < wd.heap.size := World.block_lt_of_cell? _ _ n1'
                  go_upto_region 21 with fail
                  refine wp_region_held_drew (S := fun y => Below wd.heap.size wd y) (by kernel_rfl) ((Below.refl _ _).drew) (fun hHeld => ?_)
                  refine wpAnyH_take (i := 0) (oi := _) (v := ?_) (by rw [List.getElem?_toArray]; exact rfl) (by kernel_rfl) (by kernel_rfl) (by kernel_rfl) (by exact fun _ _ _ h => h) (Or.inl ⟨by rfl, ?_⟩) hHeld ?_
                  rotate_left
                  · (intro w hSw; have q0 := cell_low hSw hl0 n1'; have q1 := cell_low hSw hl0 n2'; clear hSw; go_simp; try with_reducible rfl)
                  try simp only [Act.put, List.setIfInBounds_toArray, List.set_cons_zero, List.set_cons_succ]
                  refine wpAnyH_take (i := 1) (oi := _) (v := ?_) (by rw [List.getElem?_toArray]; exact rfl) (by kernel_rfl) (by kernel_rfl) (by kernel_rfl) (by exact fun _ _ _ h => h) (Or.inl ⟨by rfl, ?_⟩) hHeld ?_
                  rotate_left
                  · (intro w hSw; have q0 := cell_low hSw hl0 n1'; have q1 := cell_low hSw hl0 n2'; clear hSw; go_simp; try with_reducible rfl)
                  try simp only [Act.put, List.setIfInBounds_toArray, List.set_cons_zero, List.set_cons_succ]
                  refine wpAnyH_take (i := 3) (oi := _) (v := ?_) (by rw [List.getElem?_toArray]; exact rfl) (by kernel_rfl) (by kernel_rfl) (by kernel_rfl) (by exact fun _ _ _ h => h) (Or.inl ⟨by rfl, ?_⟩) hHeld ?_
                  rotate_left
                  · (intro w hSw; have q0 := cell_low hSw hl0 n1'; have q1 := cell_low hSw hl0 n2'; clear hSw; go_simp; try with_reducible rfl)
                  try simp only [Act.put, List.setIfInBounds_toArray, List.set_cons_zero, List.set_cons_succ]
                  refine wpAnyH_take (i := 4) (oi := _) (v := ?_) (by rw [List.getElem?_toArray]; exact rfl) (by kernel_rfl) (by kernel_rfl) (by kernel_rfl) (by exact fun _ _ _ h => h) (Or.inl ⟨by rfl, ?_⟩) hHeld ?_
                  rotate_left
                  · (intro w hSw; have q0 := cell_low hSw hl0 n1'; have q1 := cell_low hSw hl0 n2'; clear hSw; go_simp; try with_reducible rfl)
                  try simp only [Act.put, List.setIfInBounds_toArray, List.set_cons_zero, List.set_cons_succ]
                  refine wpAnyH_ready (rs := [2]) (by kernel_rfl) (by simp) ?_
                  refine AllReadyH.cons (o := _) (by rw [List.getElem?_toArray]; exact rfl) (fun K hK => ?_) ?_
                  · go_simp
                    refine (under_led fa ma 4096 la root _ (HE.out.two.a.below hHeld) (by omega) hs (gl_size HGA.out)).mono ?_; rintro e we ⟨vu, rfl, ho1, hB⟩; have HU := Lib.hid (own_readsK (enc := encE) (k := 5) (fun _ => rfl) (by decide) ho1); replace HX := Lib.hid (HX.out.below (gdrew hB)); replace HY := Lib.hid (HY.out.below (gdrew hB)); clear ho1
                    go_wp2_with fail
                    refine hK.out _ _ (hHeld.trans (hB.mono hHeld.size)) (fun hHeld => ?_)
                    clear hK K
                    try simp only [Act.put, List.setIfInBounds_toArray, List.set_cons_zero, List.set_cons_succ]
                    refine wpAnyH_ready (rs := [5]) (by kernel_rfl) (by simp) ?_
                    refine AllReadyH.cons (o := _) (by rw [List.getElem?_toArray]; exact rfl) (fun K hK => ?_) ?_
                    · go_simp
                      refine (under_led fb mb 4096 lb root _ (HE.out.two.b.below hHeld) (by omega) hs (gl_size HGB.out)).mono ?_; rintro e wf ⟨vv, rfl, ho1, hB⟩; rw [HT.out.2.1] at ho1; have HVV := Lib.hid (own_readsK (enc := encE) (k := 5) (fun _ => rfl) (by decide) ho1); replace HX := Lib.hid (HX.out.below hB); replace HY := Lib.hid (HY.out.below hB); replace HU := Lib.hid (HU.out.below hB); clear ho1
                      go_wp2_with fail
                      refine hK.out _ _ (hHeld.trans (hB.mono hHeld.size)) (fun hHeld => ?_)
                      clear hK K
                      try simp only [Act.put, List.setIfInBounds_toArray, List.set_cons_zero, List.set_cons_succ]
                      refine wpAnyH_take (i := 6) (oi := _) (v := ?_) (by rw [List.getElem?_toArray]; exact rfl) (by kernel_rfl) (by kernel_rfl) (by kernel_rfl) (by exact fun _ _ _ h => h) (Or.inl ⟨by rfl, ?_⟩) hHeld ?_
                      rotate_left
                      · (intro w hSw; have q0 := cell_low hSw hl0 n1'; have q1 := cell_low hSw hl0 n2'; clear hSw; go_simp; try with_reducible rfl)
                      try simp only [Act.put, List.setIfInBounds_toArray, List.set_cons_zero, List.set_cons_succ]
                      refine wpAnyH_take (i := 7) (oi := _) (v := ?_) (by rw [List.getElem?_toArray]; exact rfl) (by kernel_rfl) (by kernel_rfl) (by kernel_rfl) (by exact fun _ _ _ h => h) (Or.inl ⟨by rfl, ?_⟩) hHeld ?_
                      rotate_left
                      · (intro w hSw; have q0 := cell_low hSw hl0 n1'; have q1 := cell_low hSw hl0 n2'; clear hSw; go_simp; try with_reducible rfl)
                      try simp only [Act.put, List.setIfInBounds_toArray, List.set_cons_zero, List.set_cons_succ]
                      refine wpAnyH_done (by kernel_rfl) ?_ _
                      obtain ⟨au, cu, rfl⟩ := HU.out.slice
                      obtain ⟨av, cv, rfl⟩ := HVV.out.slice
                      have hUL := undR_le root la
                      generalize undR root la = UL at *
                      replace HE := Lib.hid (HE.out.below hHeld)
                      replace n1' := cell_keep hHeld n1'
                      replace n2' := cell_keep hHeld n2'
                      clear hHeld hl0
                      have hl0 : w0.heap.size < wf.heap.size := World.block_lt_of_cell? _ _ n1'
                      go_upto_region 22 with fail
                      refine wp_region_held_drew (S := fun y => Below wf.heap.size wf y) (by kernel_rfl) ((Below.refl _ _).drew) (fun hHeld => ?_)
                      refine wpAnyH_take (i := 0) (oi := _) (v := ?_) (by rw [List.getElem?_toArray]; exact rfl) (by kernel_rfl) (by kernel_rfl) (by kernel_rfl) (by exact fun _ _ _ h => h) (Or.inl ⟨by rfl, ?_⟩) hHeld ?_
                      rotate_left
                      · (intro w hSw; have q0 := cell_low hSw hl0 n1'; have q1 := cell_low hSw hl0 n2'; clear hSw; go_simp; try with_reducible rfl)
                      try simp only [Act.put, List.setIfInBounds_toArray, List.set_cons_zero, List.set_cons_succ]
                      refine wpAnyH_take (i := 1) (oi := _) (v := ?_) (by rw [List.getElem?_toArray]; exact rfl) (by kernel_rfl) (by kernel_rfl) (by kernel_rfl) (by exact fun _ _ _ h => h) (Or.inl ⟨by rfl, ?_⟩) hHeld ?_
                      rotate_left
                      · (intro w hSw; have q0 := cell_low hSw hl0 n1'; have q1 := cell_low hSw hl0 n2'; clear hSw; go_simp; try with_reducible rfl)
                      try simp only [Act.put, List.setIfInBounds_toArray, List.set_cons_zero, List.set_cons_succ]
                      refine wpAnyH_take (i := 2) (oi := _) (v := ?_) (by rw [List.getElem?_toArray]; exact rfl) (by kernel_rfl) (by kernel_rfl) (by kernel_rfl) (by exact fun _ _ _ h => h) (Or.inl ⟨by rfl, ?_⟩) hHeld ?_
                      rotate_left
                      · (intro w hSw; have q0 := cell_low hSw hl0 n1'; have q1 := cell_low hSw hl0 n2'; clear hSw; go_simp; try with_reducible rfl)
                      try simp only [Act.put, List.setIfInBounds_toArray, List.set_cons_zero, List.set_cons_succ]
                      refine wpAnyH_take (i := 3) (oi := _) (v := ?_) (by rw [List.getElem?_toArray]; exact rfl) (by kernel_rfl) (by kernel_rfl) (by kernel_rfl) (by exact fun _ _ _ h => h) (Or.inl ⟨by rfl, ?_⟩) hHeld ?_
                      rotate_left
                      · (intro w hSw; have q0 := cell_low hSw hl0 n1'; have q1 := cell_low hSw hl0 n2'; clear hSw; go_simp; try with_reducible rfl)
                      try simp only [Act.put, List.setIfInBounds_toArray, List.set_cons_zero, List.set_cons_succ]
                      refine wpAnyH_take (i := 4) (oi := _) (v := ?_) (by rw [List.getElem?_toArray]; exact rfl) (by kernel_rfl) (by kernel_rfl) (by kernel_rfl) (by exact fun _ _ _ h => h) (Or.inl ⟨by rfl, ?_⟩) hHeld ?_
                      rotate_left
                      · (intro w hSw; have q0 := cell_low hSw hl0 n1'; have q1 := cell_low hSw hl0 n2'; clear hSw; go_simp; try with_reducible rfl)
                      try simp only [Act.put, List.setIfInBounds_toArray, List.set_cons_zero, List.set_cons_succ]
                      refine wpAnyH_take (i := 5) (oi := _) (v := ?_) (by rw [List.getElem?_toArray]; exact rfl) (by kernel_rfl) (by kernel_rfl) (by kernel_rfl) (by exact fun _ _ _ h => h) (Or.inl ⟨by rfl, ?_⟩) hHeld ?_
                      rotate_left
                      · (intro w hSw; have q0 := cell_low hSw hl0 n1'; have q1 := cell_low hSw hl0 n2'; clear hSw; go_simp; try with_reducible rfl)
                      try simp only [Act.put, List.setIfInBounds_toArray, List.set_cons_zero, List.set_cons_succ]
                      refine wpAnyH_take (i := 6) (oi := _) (v := ?_) (by rw [List.getElem?_toArray]; exact rfl) (by kernel_rfl) (by kernel_rfl) (by kernel_rfl) (by exact fun _ _ _ h => h) (Or.inl ⟨by rfl, ?_⟩) hHeld ?_
                      rotate_left
                      · (intro w hSw; have q0 := cell_low hSw hl0 n1'; have q1 := cell_low hSw hl0 n2'; clear hSw; go_simp; try with_reducible rfl)
                      try simp only [Act.put, List.setIfInBounds_toArray, List.set_cons_zero, List.set_cons_succ]
                      refine wpAnyH_take (i := 7) (oi := _) (v := ?_) (by rw [List.getElem?_toArray]; exact rfl) (by kernel_rfl) (by kernel_rfl) (by kernel_rfl) (by exact fun _ _ _ h => h) (Or.inl ⟨by rfl, ?_⟩) hHeld ?_
                      rotate_left
                      · (intro w hSw; have q0 := cell_low hSw hl0 n1'; have q1 := cell_low hSw hl0 n2'; clear hSw; go_simp; try with_reducible rfl)
                      try simp only [Act.put, List.setIfInBounds_toArray, List.set_cons_zero, List.set_cons_succ]
                      refine wpAnyH_take (i := 8) (oi := _) (v := ?_) (by rw [List.getElem?_toArray]; exact rfl) (by kernel_rfl) (by kernel_rfl) (by kernel_rfl) (by exact fun _ _ _ h => h) (Or.inl ⟨by rfl, ?_⟩) hHeld ?_
                      rotate_left
                      · (intro w hSw; have q0 := cell_low hSw hl0 n1'; have q1 := cell_low hSw hl0 n2'; clear hSw; go_simp; try with_reducible rfl)
                      try simp only [Act.put, List.setIfInBounds_toArray, List.set_cons_zero, List.set_cons_succ]
                      refine wpAnyH_take (i := 9) (oi := _) (v := ?_) (by rw [List.getElem?_toArray]; exact rfl) (by kernel_rfl) (by kernel_rfl) (by kernel_rfl) (by exact fun _ _ _ h => h) (Or.inl ⟨by rfl, ?_⟩) hHeld ?_
                      rotate_left
                      · (intro w hSw; have q0 := cell_low hSw hl0 n1'; have q1 := cell_low hSw hl0 n2'; clear hSw; go_simp; try with_reducible rfl)
                      try simp only [Act.put, List.setIfInBounds_toArray, List.set_cons_zero, List.set_cons_succ]
                      refine wpAnyH_take (i := 10) (oi := _) (v := ?_) (by rw [List.getElem?_toArray]; exact rfl) (by kernel_rfl) (by kernel_rfl) (by kernel_rfl) (by exact fun _ _ _ h => h) (Or.inl ⟨by rfl, ?_⟩) hHeld ?_
                      rotate_left
                      · (intro w hSw; have q0 := cell_low hSw hl0 n1'; have q1 := cell_low hSw hl0 n2'; clear hSw; go_simp; try with_reducible rfl)
                      try simp only [Act.put, List.setIfInBounds_toArray, List.set_cons_zero, List.set_cons_succ]
                      refine wpAnyH_take (i := 11) (oi := _) (v := ?_) (by rw [List.getElem?_toArray]; exact rfl) (by kernel_rfl) (by kernel_rfl) (by kernel_rfl) (by exact fun _ _ _ h => h) (Or.inl ⟨by rfl, ?_⟩) hHeld ?_
                      rotate_left
                      · (intro w hSw; have q0 := cell_low hSw hl0 n1'; have q1 := cell_low hSw hl0 n2'; clear hSw; go_simp; try with_reducible rfl)
                      try simp only [Act.put, List.setIfInBounds_toArray, List.set_cons_zero, List.set_cons_succ]
                      refine wpAnyH_take (i := 12) (oi := _) (v := ?_) (by rw [List.getElem?_toArray]; exact rfl) (by kernel_rfl) (by kernel_rfl) (by kernel_rfl) (by exact fun _ _ _ h => h) (Or.inl ⟨by rfl, ?_⟩) hHeld ?_
                      rotate_left
                      · (intro w hSw; have q0 := cell_low hSw hl0 n1'; have q1 := cell_low hSw hl0 n2'; clear hSw; go_simp; try with_reducible rfl)
                      try simp only [Act.put, List.setIfInBounds_toArray, List.set_cons_zero, List.set_cons_succ]
                      refine wpAnyH_take (i := 13) (oi := _) (v := ?_) (by rw [List.getElem?_toArray]; exact rfl) (by kernel_rfl) (by kernel_rfl) (by kernel_rfl) (by exact fun _ _ _ h => h) (Or.inl ⟨by rfl, ?_⟩) hHeld ?_
                      rotate_left
                      · (intro w hSw; have q0 := cell_low hSw hl0 n1'; have q1 := cell_low hSw hl0 n2'; clear hSw; go_simp; try with_reducible rfl)
                      try simp only [Act.put, List.setIfInBounds_toArray, List.set_cons_zero, List.set_cons_succ]
                      refine wpAnyH_take (i := 14) (oi := _) (v := ?_) (by rw [List.getElem?_toArray]; exact rfl) (by kernel_rfl) (by kernel_rfl) (by kernel_rfl) (by exact fun _ _ _ h => h) (Or.inl ⟨by rfl, ?_⟩) hHeld ?_
                      rotate_left
                      · (intro w hSw; have q0 := cell_low hSw hl0 n1'; have q1 := cell_low hSw hl0 n2'; clear hSw; go_simp; try with_reducible rfl)
                      try simp only [Act.put, List.setIfInBounds_toArray, List.set_cons_zero, List.set_cons_succ]
                      refine wpAnyH_take (i := 16) (oi := _) (v := ?_) (by rw [List.getElem?_toArray]; exact rfl) (by kernel_rfl) (by kernel_rfl) (by kernel_rfl) (by exact fun _ _ _ h => h) (Or.inl ⟨by rfl, ?_⟩) hHeld ?_
                      rotate_left
                      · (intro w hSw; have q0 := cell_low hSw hl0 n1'; have q1 := cell_low hSw hl0 n2'; clear hSw; go_simp; try with_reducible rfl)
                      try simp only [Act.put, List.setIfInBounds_toArray, List.set_cons_zero, List.set_cons_succ]
                      refine wpAnyH_take (i := 17) (oi := _) (v := ?_) (by rw [List.getElem?_toArray]; exact rfl) (by kernel_rfl) (by kernel_rfl) (by kernel_rfl) (by exact fun _ _ _ h => h) (Or.inl ⟨by rfl, ?_⟩) hHeld ?_
                      rotate_left
                      · (intro w hSw; have q0 := cell_low hSw hl0 n1'; have q1 := cell_low hSw hl0 n2'; clear hSw; go_simp; try with_reducible rfl)
                      try simp only [Act.put, List.setIfInBounds_toArray, List.set_cons_zero, List.set_cons_succ]
                      refine wpAnyH_ready (rs := [15]) (by kernel_rfl) (by simp) ?_
                      refine AllReadyH.cons (o := _) (by rw [List.getElem?_toArray]; exact rfl) (fun K hK => ?_) ?_
                      · go_simp
                        refine (whole_led fa ma 4096 la root _ (HE.out.two.a.below hHeld) HGA.out.good (want_len HGA.out hlA root.1 root.2) hs).mono ?_; rintro e wg ⟨rfl, hB⟩
                        go_wp2_with fail
                        refine hK.out _ _ (hHeld.trans (hB.mono hHeld.size)) (fun hHeld => ?_)
                        clear hK K
                        try simp only [Act.put, List.setIfInBounds_toArray, List.set_cons_zero, List.set_cons_succ]
                        refine wpAnyH_ready (rs := [18]) (by kernel_rfl) (by simp) ?_
                        refine AllReadyH.cons (o := _) (by rw [List.getElem?_toArray]; exact rfl) (fun K hK => ?_) ?_
                        · go_simp
                          refine (whole_led fb mb 4096 lb root _ (HE.out.two.b.below hHeld) HGB.out.good (want_len HGB.out hlB root.1 root.2) hs).mono ?_; rintro e wh ⟨rfl, hB⟩; rw [HT.out.2.2]
                          go_wp2_with fail
                          refine hK.out _ _ (hHeld.trans (hB.mono hHeld.size)) (fun hHeld => ?_)
                          clear hK K
                          try simp only [Act.put, List.setIfInBounds_toArray, List.set_cons_zero, List.set_cons_succ]
                          refine wpAnyH_take (i := 19) (oi := _) (v := ?_) (by rw [List.getElem?_toArray]; exact rfl) (by kernel_rfl) (by kernel_rfl) (by kernel_rfl) (by exact fun _ _ _ h => h) (Or.inl ⟨by rfl, ?_⟩) hHeld ?_
                          rotate_left
                          · (intro w hSw; have q0 := cell_low hSw hl0 n1'; have q1 := cell_low hSw hl0 n2'; clear hSw; go_simp; try with_reducible rfl)
                          try simp only [Act.put, List.setIfInBounds_toArray, List.set_cons_zero, List.set_cons_succ]
                          refine wpAnyH_take (i := 20) (oi := _) (v := ?_) (by rw [List.getElem?_toArray]; exact rfl) (by kernel_rfl) (by kernel_rfl) (by kernel_rfl) (by exact fun _ _ _ h => h) (Or.inl ⟨by rfl, ?_⟩) hHeld ?_
                          rotate_left
                          · (intro w hSw; have q0 := cell_low hSw hl0 n1'; have q1 := cell_low hSw hl0 n2'; clear hSw; go_simp; try with_reducible rfl)
                          try simp only [Act.put, List.setIfInBounds_toArray, List.set_cons_zero, List.set_cons_succ]
                          refine wpAnyH_take (i := 21) (oi := _) (v := ?_) (by rw [List.getElem?_toArray]; exact rfl) (by kernel_rfl) (by kernel_rfl) (by kernel_rfl) (by exact fun _ _ _ h => h) (Or.inl ⟨by rfl, ?_⟩) hHeld ?_
                          rotate_left
                          · (intro w hSw; have q0 := cell_low hSw hl0 n1'; have q1 := cell_low hSw hl0 n2'; clear hSw; go_simp; try with_reducible rfl)
                          try simp only [Act.put, List.setIfInBounds_toArray, List.set_cons_zero, List.set_cons_succ]
                          refine wpAnyH_take (i := 22) (oi := _) (v := ?_) (by rw [List.getElem?_toArray]; exact rfl) (by kernel_rfl) (by kernel_rfl) (by kernel_rfl) (by exact fun _ _ _ h => h) (Or.inl ⟨by rfl, ?_⟩) hHeld ?_
                          rotate_left
                          · (intro w hSw; have q0 := cell_low hSw hl0 n1'; have q1 := cell_low hSw hl0 n2'; clear hSw; go_simp; try with_reducible rfl)
                          try simp only [Act.put, List.setIfInBounds_toArray, List.set_cons_zero, List.set_cons_succ]
                          refine wpAnyH_take (i := 24) (oi := _) (v := ?_) (by rw [List.getElem?_toArray]; exact rfl) (by kernel_rfl) (by kernel_rfl) (by kernel_rfl) (by exact fun _ _ _ h => h) (Or.inl ⟨by rfl, ?_⟩) hHeld ?_
                          rotate_left
                          · (intro w hSw; have q0 := cell_low hSw hl0 n1'; have q1 := cell_low hSw hl0 n2'; clear hSw; go_simp; try with_reducible rfl)
                          try simp only [Act.put, List.setIfInBounds_toArray, List.set_cons_zero, List.set_cons_succ]
                          refine wpAnyH_ready (rs := [23]) (by kernel_rfl) (by simp) ?_
                          refine AllReadyH.cons (o := _) (by rw [List.getElem?_toArray]; exact rfl) (fun K hK => ?_) ?_
                          · go_simp
                            refine (len_led fa ma 4096 la _ (HE.out.two.a.below hHeld)).mono ?_; rintro e wi ⟨rfl, rfl⟩; rw [HLA.out]
                            go_wp2_with fail
                            refine hK.out _ _ (hHeld) (fun hHeld => ?_)
                            clear hK K
                            try simp only [Act.put, List.setIfInBounds_toArray, List.set_cons_zero, List.set_cons_succ]
                            refine wpAnyH_ready (rs := [25]) (by kernel_rfl) (by simp) ?_
                            refine AllReadyH.cons (o := _) (by rw [List.getElem?_toArray]; exact rfl) (fun K hK => ?_) ?_
                            · go_simp
                              refine (len_led fb mb 4096 lb _ (HE.out.two.b.below hHeld)).mono ?_; rintro e wi ⟨rfl, rfl⟩; rw [HLB.out]
                              go_wp2_with fail
                              refine hK.out _ _ (hHeld) (fun hHeld => ?_)
                              clear hK K
                              try simp only [Act.put, List.setIfInBounds_toArray, List.set_cons_zero, List.set_cons_succ]
                              refine wpAnyH_take (i := 26) (oi := _) (v := ?_) (by rw [List.getElem?_toArray]; exact rfl) (by kernel_rfl) (by kernel_rfl) (by kernel_rfl) (by exact fun _ _ _ h => h) (Or.inl ⟨by rfl, ?_⟩) hHeld ?_
                              rotate_left
                              · (intro w hSw; have q0 := cell_low hSw hl0 n1'; have q1 := cell_low hSw hl0 n2'; clear hSw; go_simp; try with_reducible rfl)
                              try simp only [Act.put, List.setIfInBounds_toArray, List.set_cons_zero, List.set_cons_succ]
                              refine wpAnyH_take (i := 27) (oi := _) (v := ?_) (by rw [List.getElem?_toArray]; exact rfl) (by kernel_rfl) (by kernel_rfl) (by kernel_rfl) (by exact fun _ _ _ h => h) (Or.inl ⟨by rfl, ?_⟩) hHeld ?_
                              rotate_left
                              · (intro w hSw; have q0 := cell_low hSw hl0 n1'; have q1 := cell_low hSw hl0 n2'; clear hSw; go_simp; try with_reducible rfl)
                              try simp only [Act.put, List.setIfInBounds_toArray, List.set_cons_zero, List.set_cons_succ]
                              refine wpAnyH_take (i := 28) (oi := _) (v := ?_) (by rw [List.getElem?_toArray]; exact rfl) (by kernel_rfl) (by kernel_rfl) (by kernel_rfl) (by exact fun _ _ _ h => h) (Or.inl ⟨by rfl, ?_⟩) hHeld ?_
                              rotate_left
                              · (intro w hSw; have q0 := cell_low hSw hl0 n1'; have q1 := cell_low hSw hl0 n2'; clear hSw; go_simp; try with_reducible rfl)
                              try simp only [Act.put, List.setIfInBounds_toArray, List.set_cons_zero, List.set_cons_succ]
                              refine wpAnyH_take (i := 29) (oi := _) (v := ?_) (by rw [List.getElem?_toArray]; exact rfl) (by kernel_rfl) (by kernel_rfl) (by kernel_rfl) (by exact fun _ _ _ h => h) (Or.inl ⟨by rfl, ?_⟩) hHeld ?_
                              rotate_left
                              · (intro w hSw; have q0 := cell_low hSw hl0 n1'; have q1 := cell_low hSw hl0 n2'; clear hSw; go_simp; try with_reducible rfl)
                              try simp only [Act.put, List.setIfInBounds_toArray, List.set_cons_zero, List.set_cons_succ]
                              refine wpAnyH_take (i := 31) (oi := _) (v := ?_) (by rw [List.getElem?_toArray]; exact rfl) (by kernel_rfl) (by kernel_rfl) (by kernel_rfl) (by exact fun _ _ _ h => h) (Or.inl ⟨by rfl, ?_⟩) hHeld ?_
                              rotate_left
                              · (intro w hSw; have q0 := cell_low hSw hl0 n1'; have q1 := cell_low hSw hl0 n2'; clear hSw; go_simp; try with_reducible rfl)
                              try simp only [Act.put, List.setIfInBounds_toArray, List.set_cons_zero, List.set_cons_succ]
                              refine wpAnyH_take (i := 32) (oi := _) (v := ?_) (by rw [List.getElem?_toArray]; exact rfl) (by kernel_rfl) (by kernel_rfl) (by kernel_rfl) (by exact fun _ _ _ h => h) (Or.inl ⟨by rfl, ?_⟩) hHeld ?_
                              rotate_left
                              · (intro w hSw; have q0 := cell_low hSw hl0 n1'; have q1 := cell_low hSw hl0 n2'; clear hSw; go_simp; try with_reducible rfl)
                              try simp only [Act.put, List.setIfInBounds_toArray, List.set_cons_zero, List.set_cons_succ]
                              refine wpAnyH_ready (rs := [30]) (by kernel_rfl) (by simp) ?_
                              refine AllReadyH.cons (o := _) (by rw [List.getElem?_toArray]; exact rfl) (fun K hK => ?_) ?_
                              · go_simp
                                refine (len_led fa ma 4096 la _ (HE.out.two.a.below hHeld)).mono ?_; rintro e wi ⟨rfl, rfl⟩; rw [HLA.out]
                                go_wp2_with fail
                                refine hK.out _ _ (hHeld) (fun hHeld => ?_)
                                clear hK K
                                try simp only [Act.put, List.setIfInBounds_toArray, List.set_cons_zero, List.set_cons_succ]
                                refine wpAnyH_take (i := 33) (oi := _) (v := ?_) (by rw [List.getElem?_toArray]; exact rfl) (by kernel_rfl) (by kernel_rfl) (by kernel_rfl) (by exact fun _ _ _ h => h) (Or.inl ⟨by rfl, ?_⟩) hHeld ?_
                                rotate_left
                                · (intro w hSw; have q0 := cell_low hSw hl0 n1'; have q1 := cell_low hSw hl0 n2'; clear hSw; go_simp; try with_reducible rfl)
                                try simp only [Act.put, List.setIfInBounds_toArray, List.set_cons_zero, List.set_cons_succ]
                                refine wpAnyH_take (i := 34) (oi := _) (v := ?_) (by rw [List.getElem?_toArray]; exact rfl) (by kernel_rfl) (by kernel_rfl) (by kernel_rfl) (by exact fun _ _ _ h => h) (Or.inl ⟨by rfl, ?_⟩) hHeld ?_
                                rotate_left
                                · (intro w hSw; have q0 := cell_low hSw hl0 n1'; have q1 := cell_low hSw hl0 n2'; clear hSw; go_simp; try with_reducible rfl)
                                try simp only [Act.put, List.setIfInBounds_toArray, List.set_cons_zero, List.set_cons_succ]
                                refine wpAnyH_done (by kernel_rfl) ?_ _
                                have HB2 := Lib.hid (HE.out.two.low.trans (hHeld.mono HE.out.two.low.size))
                                replace HX := Lib.hid (HX.out.below hHeld)
                                replace HY := Lib.hid (HY.out.below hHeld)
                                replace HU := Lib.hid (HU.out.below hHeld)
                                replace HVV := Lib.hid (HVV.out.below hHeld)
                                clear hHeld hl0 HE n1' n2' HT HGA HGB
                                go_wp2_with fail
                                obtain ⟨wo2, hwo2⟩ : ∃ wo2, wo2 = wi := ⟨_, rfl⟩
                                subst hwo2
                                go_loopg [20] WL.length (fun gk i wx => ∃ j : Nat, gk + j = WL.length ∧ i = .int .i64 j ∧ Below wo2.heap.size wo2 wx)
                                case atStart => exact ⟨0, by omega, rfl, Below.refl _ _⟩
                                case round =>
                                  obtain ⟨j, hj, rfl, hBx⟩ := hrel
                                  have HBX := Lib.hid hBx
                                  clear hBx
                                  by_cases hjl : j < WL.length
                                  · obtain ⟨b1, o1, d1, he1, hb1, hc1⟩ := (HX.out.below HBX.out).at (by omega)
                                    obtain ⟨b2, o2, d2, he2, hb2, hc2⟩ := (HY.out.below HBX.out).at (by omega)
                                    injection he1 with he1 he1b he1c
                                    injection he2 with he2 he2b he2c
                                    subst he1
                                    subst he2
                                    have hs1 : wr.cell? ⟨b1, o1 + j, none⟩ = some (.string WL[j]) := by have h := hc1 j hjl 0 _ rfl; rw [Nat.mul_one, Nat.add_zero] at h; exact h
                                    have hs2 : wr.cell? ⟨b2, o2 + j, none⟩ = some (.string WL[j]) := by have h := hc2 j hjl 0 _ rfl; rw [Nat.mul_one, Nat.add_zero] at h; exact h
                                    clear hc1 hc2 hb1 hb2 he1b he1c he2b he2c
                                    generalize WL[j] = y at hs1 hs2
                                    go_wp2_with fail
                                    go_quiet (fail)
                                    have HB3 := Lib.hid (HBX.out.trans ((below_drewN (Below.refl wr.heap.size wr) nq).mono HBX.out.size))
                                    clear HBX
                                    go_wp2_with fail
                                    go_roundg (gk - 1)
                                    case rel => exact ⟨j + 1, by omega, by go_num, HB3.out⟩
                                    case measure => omega
                                  · obtain rfl : j = WL.length := by omega
                                    clear hjl hj
                                    replace HU := Lib.hid (HU.out.below HBX.out)
                                    replace HVV := Lib.hid (HVV.out.below HBX.out)
                                    replace HB2 := Lib.hid (HB2.out.trans (HBX.out.mono HB2.out.size))
                                    clear HX HY HBX
                                    go_wp2_with fail
                                    obtain ⟨wo3, hwo3⟩ : ∃ wo3, wo3 = wr := ⟨_, rfl⟩
                                    subst hwo3
                                    obtain ⟨gko2, hgo2⟩ : ∃ gko2, gko2 = gk := ⟨_, rfl⟩
                                    subst hgo2
                                    go_loopg [21] UL.length (fun gk i wx => ∃ j : Nat, gk + j = UL.length ∧ i = .int .i64 j ∧ Below wo3.heap.size wo3 wx)
                                    case atStart => exact ⟨0, by omega, rfl, Below.refl _ _⟩
                                    case round =>
                                      obtain ⟨j, hj, rfl, hBx⟩ := hrel
                                      have HBX := Lib.hid hBx
                                      clear hBx
                                      by_cases hjl : j < UL.length
                                      · obtain ⟨b1, o1, d1, he1, hb1, hc1⟩ := (HU.out.below HBX.out).at (by omega)
                                        obtain ⟨b2, o2, d2, he2, hb2, hc2⟩ := (HVV.out.below HBX.out).at (by omega)
                                        injection he1 with he1 he1b he1c
                                        injection he2 with he2 he2b he2c
                                        subst he1
                                        subst he2
                                        have h1 := hc1 j hjl
                                        have h2 := hc2 j hjl
                                        generalize UL[j] = y at h1 h2
                                        have p1 : wr.cell? ⟨b1, o1 + j * 5, none⟩ = some (.int .u64 y.1.1) := h1 0 _ rfl
                                        have p2 : wr.cell? ⟨b1, o1 + j * 5 + 1, none⟩ = some (.string y.1.2) := h1 1 _ rfl
                                        have p3 : wr.cell? ⟨b1, o1 + j * 5 + 2, none⟩ = some (.int .i64 y.2.1) := h1 2 _ rfl
                                        have p4 : wr.cell? ⟨b1, o1 + j * 5 + 3, none⟩ = some (.int .i64 y.2.2.1) := h1 3 _ rfl
                                        have p5 : wr.cell? ⟨b1, o1 + j * 5 + 4, none⟩ = some (.int .i64 y.2.2.2) := h1 4 _ rfl
                                        have q1 : wr.cell? ⟨b2, o2 + j * 5, none⟩ = some (.int .u64 y.1.1) := h2 0 _ rfl
                                        have q2 : wr.cell? ⟨b2, o2 + j * 5 + 1, none⟩ = some (.string y.1.2) := h2 1 _ rfl
                                        have q3 : wr.cell? ⟨b2, o2 + j * 5 + 2, none⟩ = some (.int .i64 y.2.1) := h2 2 _ rfl
                                        have q4 : wr.cell? ⟨b2, o2 + j * 5 + 3, none⟩ = some (.int .i64 y.2.2.1) := h2 3 _ rfl
                                        have q5 : wr.cell? ⟨b2, o2 + j * 5 + 4, none⟩ = some (.int .i64 y.2.2.2) := h2 4 _ rfl
                                        clear hc1 hc2 hb1 hb2 he1b he1c he2b he2c h1 h2
                                        go_wp2_with fail
                                        go_quiet (fail)
                                        have HB3 := Lib.hid (HBX.out.trans ((below_drewN (Below.refl wr.heap.size wr) nq).mono HBX.out.size))
                                        clear HBX
                                        go_wp2_with fail
                                        go_roundg (gk - 1)
                                        case rel => exact ⟨j + 1, by omega, by go_num, HB3.out⟩
                                        case measure => omega
                                      · obtain rfl : j = UL.length := by omega
                                        clear hjl hj
                                        replace HB2 := Lib.hid (HB2.out.trans (HBX.out.mono HB2.out.size))
                                        clear HU HVV HBX
                                        go_wp2_with fail
                                        refine (works_any _).mono ?_
                                        rintro e w9 ⟨rfl, hB⟩
                                        have HB9 := Lib.hid (gthen HB.out (gthen HB2.out hB))
                                        clear hB HB2
                                        go_wp2_with fail
                                        go_ret
                                        exact ⟨ret_boolE rfl, HB9.out⟩
                              exact AllReadyH.nil
                            exact AllReadyH.nil
                          exact AllReadyH.nil
                        exact AllReadyH.nil
                      exact AllReadyH.nil
                    exact AllReadyH.nil
                  exact AllReadyH.nil
                exact AllReadyH.nil
              exact AllReadyH.nil
  · go_wp2_with fail
    refine (works_any _).mono ?_
    rintro e w1 ⟨rfl, hB⟩
    have HB1 := Lib.hid (gthen HB.out hB)
    clear hB HB
    go_wp2_with fail
    go_ret
    exact ⟨ret_boolE rfl, HB1.out⟩

/-- For the row. -/
theorem order_row (v u : Value) (W : World) (h : ∃ l, ReadsK encS 10 W v l ∧ l.length ≤ maxLen ∧ ∀ x ∈ l, x.2.1.1.2.size ≤ maxLen ∧ x.2.2.1.2.size ≤ maxLen ∧ x.2.2.2.2.size ≤ maxLen) (h2 : ∃ n : Nm, u = .agg #[.int .u64 n.1, .string n.2] ∧ (Lit.int .u64 n.1).wf = true ∧ n.2.size ≤ maxLen) :
    Calls Try.prog 3 #[v, u] W fun e W' => e = .returned (.bool true) ∧ Below W.heap.size W W' := by
  obtain ⟨l, hv, hl, hz⟩ := h
  obtain ⟨n, rfl, _, hs⟩ := h2
  unfold maxLen at hl hs hz
  exact order_any v l n W hv (fun x hx => by have := (hz x hx).1; omega) (by omega) (by omega)
end Go.Proofs.Ytibfcoaiodmimaa
