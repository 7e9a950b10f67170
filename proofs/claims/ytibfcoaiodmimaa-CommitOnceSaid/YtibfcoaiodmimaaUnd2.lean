/- Contract: Under. -/
import Derived.Test.YtibfcoaiodmimaaUnd1
import Derived.Test.YtibfcoaiodmimaaOwnFr
import Derived.Test.YtibfcoaiodmimaaIter
import Derived.OwnWalk
namespace Go.Proofs.Ytibfcoaiodmimaa
open Go.RowKit Go.Sort Go.Lib

theorem info_ent : (Try.prog.info? 38).map (fun i => (i.zero, i.size, i.bytes)) = some (some (.agg #[.int .u64 0, .string ⟨#[]⟩, .int .i64 0, .int .i64 0, .int .i64 0]), 5, 48) := by kernel_rfl
def undP (root : Nm) (p : Nm × Ent) : Bool := decide (p.1.1 = root.1) && underS p.1.2 root.2
def undA (root : Nm) (l : List (Nm × Ent)) : List Ent := (l.filter (undP root)).map (·.2)
def undR (root : Nm) (l : List (Nm × Ent)) : List Ent := if mayS root.2 then sortE (undA root l) else []
theorem undA_snoc (root : Nm) (l : List (Nm × Ent)) (p : Nm × Ent) : undA root (l ++ [p]) = if undP root p then undA root l ++ [p.2] else undA root l := by
  unfold undA
  rw [List.filter_append, List.map_append]
  cases h : undP root p <;> simp [h]
theorem undA_nodup {root : Nm} {l : List (Nm × Ent)} (hn : (l.map (·.1)).Nodup) (hk : ∀ p ∈ l, p.2.1 = p.1) : ((undA root l).map (·.1.2)).Nodup := by
  have h1 : ((l.filter (undP root)).map (·.1)).Nodup := List.Nodup.sublist (List.Sublist.map _ List.filter_sublist) hn
  unfold undA
  rw [List.map_map, List.nodup_iff_pairwise_ne, List.pairwise_map]
  rw [List.nodup_iff_pairwise_ne, List.pairwise_map] at h1
  refine h1.imp_of_mem ?_
  intro a b ha hb hab e
  obtain ⟨ha1, ha2⟩ := List.mem_filter.1 ha
  obtain ⟨hb1, hb2⟩ := List.mem_filter.1 hb
  simp only [Function.comp] at e
  rw [hk a ha1, hk b hb1] at e
  unfold undP at ha2 hb2
  rw [Bool.and_eq_true] at ha2 hb2
  exact hab (Prod.ext ((of_decide_eq_true ha2.1).trans (of_decide_eq_true hb2.1).symm) e)
theorem undA_perm (root : Nm) {l m : List (Nm × Ent)} (h : l.Perm m) : (undA root l).Perm (undA root m) := (h.filter _).map _
theorem sortE_perm_eq {l m : List Ent} (hn : (m.map (·.1.2)).Nodup) (h : l.Perm m) : sortE l = sortE m :=
  (sortE_unique hn ((sortE_perm l).trans h) (sortE_sorted l)).symm

theorem ent_cells {w : World} (p : Ent) (b : Nat) {E : TypeId} (h : b = w.heap.size) : ∀ j u, (encE p)[j]? = some u → (w.alloc (.cells #[.int .u64 p.1.1, .string p.1.2, .int .i64 p.2.1, .int .i64 p.2.2.1, .int .i64 p.2.2.2] E (0, 0))).cell? ((⟨b, 0, none⟩ : Addr).add j) = some u := by
  subst h
  intro j u hj
  match j with
  | 0 => simp [encE] at hj; subst hj; simp [go_sem, Addr.add]
  | 1 => simp [encE] at hj; subst hj; simp [go_sem, Addr.add]
  | 2 => simp [encE] at hj; subst hj; simp [go_sem, Addr.add]
  | 3 => simp [encE] at hj; subst hj; simp [go_sem, Addr.add]
  | 4 => simp [encE] at hj; subst hj; simp [go_sem, Addr.add]
  | j + 5 => simp [encE] at hj
theorem ent_one (p : Ent) : ∀ u ∈ encE p, u.oneCell' = true := by intro u hu; simp [encE] at hu; rcases hu with rfl | rfl | rfl | rfl | rfl <;> rfl
structure Ru (B m : Nat) (l : List (Nm × Ent)) (root : Nm) (wb : World) (u : Value) (done : List (Nm × Ent)) (wr : World) : Prop where
  it : IterL evE wr B m l (done.map (·.1))
  low : Below B wb wr
  own : wr.ownsRow (B + 1) ET 5 u (undA root done).length ((undA root done).flatMap encE)
  sub : ∀ p ∈ done, p ∈ l
  nd : (done.map (·.1)).Nodup
theorem keysP_nodup {l : List (Nm × Ent)} (h : (l.map (·.1)).Nodup) : l.Nodup := List.Pairwise.of_map (S := (· ≠ ·)) _ (fun a b h e => h (by rw [e])) h
theorem eq_of_keyP {l : List (Nm × Ent)} (hn : (l.map (·.1)).Nodup) {a b : Nm × Ent} (ha : a ∈ l) (hb : b ∈ l) (h : a.1 = b.1) : a = b := by
  obtain ⟨i, hi, rfl⟩ := List.getElem_of_mem ha
  obtain ⟨j, hj, rfl⟩ := List.getElem_of_mem hb
  have : i = j := idx_only hn hi hj rfl h.symm
  subst this; rfl
theorem Ru.len {B m : Nat} {l : List (Nm × Ent)} {root : Nm} {wb : World} {u : Value} {done : List (Nm × Ent)} {wr : World} (h : Ru B m l root wb u done wr) : done.length ≤ l.length ∧ (undA root done).length ≤ l.length := by
  have h1 : done.length ≤ l.length := List.Nodup.length_le_of_subset (keysP_nodup h.nd) h.sub
  refine ⟨h1, ?_⟩
  unfold undA; rw [List.length_map]
  exact Nat.le_trans (List.length_filter_le _ _) h1
theorem Ru.perm {B m : Nat} {l : List (Nm × Ent)} {root : Nm} {wb : World} {u : Value} {done : List (Nm × Ent)} {wr : World} (h : Ru B m l root wb u done wr) (hn : (l.map (·.1)).Nodup) (hall : ∀ p ∈ l, p.1 ∈ done.map (·.1)) : done.Perm l :=
  (List.perm_ext_iff_of_nodup (keysP_nodup h.nd) (keysP_nodup hn)).2 fun a => ⟨h.sub a, fun ha => by
    obtain ⟨q, hq, he⟩ := List.mem_map.1 (hall a ha)
    rwa [← eq_of_keyP hn (h.sub q hq) ha he]⟩
theorem Ru.next {B m : Nat} {l : List (Nm × Ent)} {root : Nm} {wb : World} {u u' : Value} {done : List (Nm × Ent)} {wr w2 w' : World} {p : Nm × Ent} (h : Ru B m l root wb u done wr) (hm : m < B) (hp : p ∈ l) (hnot : p.1 ∉ done.map (·.1))
    (hI2 : IterL evE w2 B m l (done.map (·.1) ++ [p.1])) (hO : w2.os = wr.os ∧ w2.tape = wr.tape ∧ w2.output = wr.output ∧ w2.heap.size = wr.heap.size ∧ (∀ i, i ≠ B → w2.heap[i]? = wr.heap[i]?))
    (hB : Below (B + 1) w2 w') (hown : w'.ownsRow (B + 1) ET 5 u' (undA root (done ++ [p])).length ((undA root (done ++ [p])).flatMap encE)) : Ru B m l root wb u' (done ++ [p]) w' := by
  refine ⟨?_, ?_, hown, ?_, ?_⟩
  · rw [List.map_append]; exact hI2.block (hB.block m (by omega)) (hB.block B (by omega))
  · exact ⟨hB.os.trans (hO.1.trans h.low.os), hB.tape.trans (hO.2.1.trans h.low.tape), hB.output.trans (hO.2.2.1.trans h.low.output), by have h1 := hB.size; have h2 := h.low.size; have h3 := hO.2.2.2.1; omega,
      fun i hi => (hB.block i (by omega)).trans ((hO.2.2.2.2 i (by omega)).trans (h.low.block i hi))⟩
  · intro q hq; rw [List.mem_append] at hq
    rcases hq with hq | hq
    · exact h.sub q hq
    · simp at hq; subst hq; exact hp
  · rw [List.map_append, List.nodup_append]
    exact ⟨h.nd, by simp, fun a ha b hb e => by simp at hb; subst hb; subst e; exact hnot ha⟩

set_option maxHeartbeats 3200000 in
set_option maxRecDepth 100000 in
theorem under_led (f m : Nat) (most : Int) (l : List (Nm × Ent)) (root : Nm) (w : World) (h : Led w f m most l) (hl : l.length ≤ 1000000) (hs : root.2.size ≤ 9223372036854775807) (hz : ∀ p ∈ l, p.1.2.size ≤ 9223372036854775807) :
    Calls Try.prog 11 #[.pointer (some ⟨f, 0, none⟩), .agg #[.int .u64 root.1, .string root.2]] w fun e w' =>
      ∃ v, e = .returned v ∧ w'.ownsRow w.heap.size ET 5 v (undR root l).length ((undR root l).flatMap encE) ∧ Below w.heap.size w w' := by
  obtain ⟨ig, hig, hg0, hg1, hg2⟩ := info_parts info_ent
  have hA : Below w.heap.size w (w.alloc (.cells #[.int .u64 root.1, .string root.2] 25)) := (Below.refl _ _).alloc (Nat.le_refl _) _
  have HL := Lib.hid (h.below hA)
  have n1 : (w.alloc (.cells #[.int .u64 root.1, .string root.2] 25)).cell? ⟨w.heap.size, 0, none⟩ = some (.int .u64 root.1) := by simp
  have n2 : (w.alloc (.cells #[.int .u64 root.1, .string root.2] 25)).cell? ⟨w.heap.size, 1, none⟩ = some (.string root.2) := by simp
  have HA := Lib.hid hA
  clear h hA
  go_enter Try.func11, Try.ntmps11
  go_wp2_with fail
  refine (may_any root.2 _ hs).mono ?_
  rintro e wb ⟨rfl, hB⟩
  have HL2 := Lib.hid (HL.out.below hB)
  replace n1 := cell_keep hB n1
  replace n2 := cell_keep hB n2
  have HB := Lib.hid (HA.out.trans (hB.mono HA.out.size))
  clear hB HL HA
  cases hm : mayS root.2
  · have hu := Lib.hid (show undR root l = [] by unfold undR; rw [hm]; rfl)
    clear hm
    go_wp2_with fail
    go_ret
    exact ⟨_, rfl, by rw [hu.out]; exact World.ownsRow_nil _ _ _ _, HB.out⟩
  · have hu := Lib.hid (show undR root l = sortE (undA root l) by unfold undR; rw [hm]; rfl)
    clear hm
    obtain ⟨w1, hrun, hI, hB1, hsz1⟩ := range_run (P := Try.prog) HL2.out.map Try.underlying48
    have hnd : (l.map (·.1)).Nodup := by obtain ⟨_, _, _, _, h, _⟩ := HL2.out.map; exact h
    have c1 := HL2.out.c1
    have HLT := Lib.hid HL2.out.lt
    have HKEY := Lib.hid HL2.out.key
    have hsw : w.heap.size < wb.heap.size := World.block_lt_of_cell? _ _ n1
    clear HL2
    go_wp2_with fail
    have HR0 : Hid (Ru wb.heap.size m l root wb (.slice none 0 0) [] w1) := ⟨hI, hB1, World.ownsRow_nil _ _ _ _, by simp, List.nodup_nil⟩
    clear hI hrun hB1 hsz1 c1
    generalize hBB : wb.heap.size = B at *
    go_loopg [4] l.length (fun gk u wr => ∃ done : List (Nm × Ent), gk + done.length = l.length ∧ Ru B m l root wb u done wr)
    case atStart => exact ⟨[], by simp, HR0.out⟩
    case round =>
      clear HR0
      obtain ⟨done, hlen, hR⟩ := hrel
      have HR := Lib.hid hR
      rcases hR.it.next (P := Try.prog) 0 with ⟨hall, hrun⟩ | ⟨p, hp, hnotin, w2, hrun, hI2, hO2, hent⟩
      · have hpm := Lib.hid (HR.out.perm hnd hall)
        have hE := Lib.hid (sortE_perm_eq (undA_nodup (root := root) hnd HKEY.out) (undA_perm root hpm.out))
        have hown := HR.out.own
        have hll := HR.out.len.2
        have hnp : ((undA root done).map (·.1.2)).Nodup := undA_nodup HR.out.nd (fun q hq => HKEY.out q (HR.out.sub q hq))
        have hB1 := HR.out.low
        have hrl := HR.out.it.lt.1
        clear hall hR
        go_wp2_with fail
        refine (sortEnts_own (undA root done) _ hnp hown (by omega) hrl).mono ?_
        rintro e w3 ⟨rfl, hown3, hB3⟩
        rw [hE.out] at hown3
        have HB4 := Lib.hid (HB.out.trans ((hB1.trans (hB3.mono (by omega))).mono (by omega)))
        have HO3 := Lib.hid hown3
        clear hown hB1 hB3 hown3 HR
        go_wp2_with fail
        go_ret
        exact ⟨_, rfl, by rw [hu.out]; exact owns_monoG HO3.out (by omega), HB4.out⟩
      · have he2 := hent w2 rfl rfl
        have hzp := hz p hp
        have hszr := HR.out.len
        have hlt2 := hI2.lt
        have hown2 := own_far (w' := w2) HR.out.own (fun i hi => hO2.2.2.2.2 i (by have := (HR.out.own.lt i hi).1; omega))
        have hc2 : ∀ o v, wb.cell? ⟨w.heap.size, o, none⟩ = some v → w2.cell? ⟨w.heap.size, o, none⟩ = some v := fun o v hv =>
          (World.cell?_of_block ((hO2.2.2.2.2 w.heap.size (by omega)).trans (HR.out.low.block w.heap.size hsw))).trans hv
        replace n1 := hc2 0 _ n1
        replace n2 := hc2 1 _ n2
        have HI2 := Lib.hid hI2
        have HO2 : Hid (w2.os = wr.os ∧ w2.tape = wr.tape ∧ w2.output = wr.output ∧ w2.heap.size = wr.heap.size ∧ (∀ i, i ≠ B → w2.heap[i]? = wr.heap[i]?)) := hO2
        have HHO := Lib.hid hown2
        have HNI := Lib.hid hnotin
        have hA1 : Below w2.heap.size w2 (w2.alloc (.cells #[.int .u64 p.1.1, .string p.1.2] 25)) := (Below.refl _ _).alloc (Nat.le_refl _) _
        have hA2 : Below w2.heap.size w2 ((w2.alloc (.cells #[.int .u64 p.1.1, .string p.1.2] 25)).alloc (.cells #[.int .u64 p.2.1.1, .string p.2.1.2, .int .i64 p.2.2.1, .int .i64 p.2.2.2.1, .int .i64 p.2.2.2.2] 38)) := hA1.alloc (by simp) _
        have k0 : ((w2.alloc (.cells #[.int .u64 p.1.1, .string p.1.2] 25)).alloc (.cells #[.int .u64 p.2.1.1, .string p.2.1.2, .int .i64 p.2.2.1, .int .i64 p.2.2.2.1, .int .i64 p.2.2.2.2] 38)).cell? ⟨w.heap.size, 0, none⟩ = some (.int .u64 root.1) := cell_keep hA2 n1
        have k1 : ((w2.alloc (.cells #[.int .u64 p.1.1, .string p.1.2] 25)).alloc (.cells #[.int .u64 p.2.1.1, .string p.2.1.2, .int .i64 p.2.2.1, .int .i64 p.2.2.2.1, .int .i64 p.2.2.2.2] 38)).cell? ⟨w.heap.size, 1, none⟩ = some (.string root.2) := cell_keep hA2 n2
        have x0 : ((w2.alloc (.cells #[.int .u64 p.1.1, .string p.1.2] 25)).alloc (.cells #[.int .u64 p.2.1.1, .string p.2.1.2, .int .i64 p.2.2.1, .int .i64 p.2.2.2.1, .int .i64 p.2.2.2.2] 38)).cell? ⟨w2.heap.size + 1, 0, none⟩ = some (.int .u64 p.2.1.1) := by simp
        have x1 : ((w2.alloc (.cells #[.int .u64 p.1.1, .string p.1.2] 25)).alloc (.cells #[.int .u64 p.2.1.1, .string p.2.1.2, .int .i64 p.2.2.1, .int .i64 p.2.2.2.1, .int .i64 p.2.2.2.2] 38)).cell? ⟨w2.heap.size + 1, 1, none⟩ = some (.string p.2.1.2) := by simp
        have x2 : ((w2.alloc (.cells #[.int .u64 p.1.1, .string p.1.2] 25)).alloc (.cells #[.int .u64 p.2.1.1, .string p.2.1.2, .int .i64 p.2.2.1, .int .i64 p.2.2.2.1, .int .i64 p.2.2.2.2] 38)).cell? ⟨w2.heap.size + 1, 2, none⟩ = some (.int .i64 p.2.2.1) := by simp
        have x3 : ((w2.alloc (.cells #[.int .u64 p.1.1, .string p.1.2] 25)).alloc (.cells #[.int .u64 p.2.1.1, .string p.2.1.2, .int .i64 p.2.2.1, .int .i64 p.2.2.2.1, .int .i64 p.2.2.2.2] 38)).cell? ⟨w2.heap.size + 1, 3, none⟩ = some (.int .i64 p.2.2.2.1) := by simp
        have x4 : ((w2.alloc (.cells #[.int .u64 p.1.1, .string p.1.2] 25)).alloc (.cells #[.int .u64 p.2.1.1, .string p.2.1.2, .int .i64 p.2.2.1, .int .i64 p.2.2.2.1, .int .i64 p.2.2.2.2] 38)).cell? ⟨w2.heap.size + 1, 4, none⟩ = some (.int .i64 p.2.2.2.2) := by simp
        have y0 : ((w2.alloc (.cells #[.int .u64 p.1.1, .string p.1.2] 25)).alloc (.cells #[.int .u64 p.2.1.1, .string p.2.1.2, .int .i64 p.2.2.1, .int .i64 p.2.2.2.1, .int .i64 p.2.2.2.2] 38)).cell? ⟨w2.heap.size, 0, none⟩ = some (.int .u64 p.1.1) := cell_keep ((Below.refl _ _).alloc (Nat.le_refl _) _) (by simp)
        have y1 : ((w2.alloc (.cells #[.int .u64 p.1.1, .string p.1.2] 25)).alloc (.cells #[.int .u64 p.2.1.1, .string p.2.1.2, .int .i64 p.2.2.1, .int .i64 p.2.2.2.1, .int .i64 p.2.2.2.2] 38)).cell? ⟨w2.heap.size, 1, none⟩ = some (.string p.1.2) := cell_keep ((Below.refl _ _).alloc (Nat.le_refl _) _) (by simp)
        have HA2 := Lib.hid hA2
        unfold encN evE at hrun he2
        clear hR hI2 hO2 hown2 hc2 hent hA1 hA2 hnotin n1 n2
        by_cases hj : p.1.1 = root.1
        · have hjb : (p.1.1 == root.1) = true := by simp [hj]
          have HJ := Lib.hid hj
          clear hj
          go_wp2_with fail
          refine (under_any p.1.2 root.2 _ hzp hs).mono ?_
          rintro e w3 ⟨rfl, hB3⟩
          replace x0 := cell_keep hB3 x0; replace x1 := cell_keep hB3 x1; replace x2 := cell_keep hB3 x2; replace x3 := cell_keep hB3 x3; replace x4 := cell_keep hB3 x4
          have HB3 := Lib.hid (HA2.out.trans (hB3.mono HA2.out.size))
          clear hB3 k0 k1 y0 y1
          cases hun : underS p.1.2 root.2
          · have hP : undP root p = false := by unfold undP; rw [hun]; simp
            have HR5 : Hid (Ru B m l root wb u4 (done ++ [p]) w3) := Lib.hid (HR.out.next HLT.out.2.1 hp HNI.out HI2.out HO2.out (HB3.out.mono (by omega)) (by
              rw [undA_snoc, hP]; simpa using own_below HHO.out HB3.out))
            clear HR HI2 HO2 HHO hun hP x0 x1 x2 x3 x4 hrun he2 HB3 HA2
            have hlen5 := HR5.out.len.1
            simp only [List.length_append, List.length_cons, List.length_nil] at hlen5
            go_wp2_with fail
            go_roundg (gk - 1)
            case rel => exact ⟨done ++ [p], by simp; omega, HR5.out⟩
            case measure => omega
          · have hP : undP root p = true := by unfold undP; rw [hun, decide_eq_true HJ.out]; rfl
            have HP := Lib.hid hP
            clear hun hP
            go_wp2_with (at_builtin; refine wpList_append_lies _ rfl _ _ 32 rfl (B + 1) ET ig (.agg #[.int .u64 0, .string ⟨#[]⟩, .int .i64 0, .int .i64 0, .int .i64 0]) 5 48 Try.underlying32 hig hg0 hg1 hg2 rfl (by decide) _ _ _ rfl (own_below (own_below HHO.out HB3.out) ((Below.refl _ _).alloc (Nat.le_refl _) _)) ⟨w3.heap.size, 0, none⟩ 1 1 (encE p.2) rfl rfl ?c1 ?c2 (by decide) ?c3 ?c4 ?c5 _ rfl ?_)
            case c1 => exact ent_cells p.2 _ rfl
            case c2 => exact ent_one _
            case c3 => unfold maxLen; omega
            case c4 => omega
            case c5 => have := HB3.out.size; simp; omega
            intro g cap' w5 hown5 hgrow hat _
            have hF := grow_fr ((Below.refl w3.heap.size w3).alloc (Nat.le_refl _) (.cells #[.int .u64 p.2.1.1, .string p.2.1.2, .int .i64 p.2.2.1, .int .i64 p.2.2.2.1, .int .i64 p.2.2.2.2] 38)) hgrow
            have hB5 : Below (B + 1) w3 w5 := hF.below (fun i hi => (HHO.out.lt i hi.symm).1) (by have := HB3.out.size; omega)
            have HR5 : Hid (Ru B m l root wb (.slice (some ⟨g, 0, none⟩) ((undA root done).length + 1) cap') (done ++ [p]) w5) := Lib.hid (HR.out.next HLT.out.2.1 hp HNI.out HI2.out HO2.out ((HB3.out.mono (by omega)).trans hB5) (by
              rw [undA_snoc, HP.out]; simpa using hown5))
            clear HR HI2 HO2 HHO HP x0 x1 x2 x3 x4 hrun he2 HB3 HA2 hown5 hgrow hat hF hB5
            have hlen5 := HR5.out.len.1
            simp only [List.length_append, List.length_cons, List.length_nil] at hlen5
            go_wp2_with fail
            go_roundg (gk - 1)
            case rel => exact ⟨done ++ [p], by simp; omega, HR5.out⟩
            case measure => omega
        · have hP : undP root p = false := by unfold undP; rw [decide_eq_false hj]; rfl
          have HR5 : Hid (Ru B m l root wb u4 (done ++ [p]) ((w2.alloc (.cells #[.int .u64 p.1.1, .string p.1.2] 25)).alloc (.cells #[.int .u64 p.2.1.1, .string p.2.1.2, .int .i64 p.2.2.1, .int .i64 p.2.2.2.1, .int .i64 p.2.2.2.2] 38))) := Lib.hid (HR.out.next HLT.out.2.1 hp HNI.out HI2.out HO2.out (HA2.out.mono (by omega)) (by
            rw [undA_snoc, hP]; simpa using own_below HHO.out HA2.out))
          have hjb : (p.1.1 == root.1) = false := by simpa using hj
          clear HR HI2 HO2 HHO hj hP HA2
          have hlen5 := HR5.out.len.1
          simp only [List.length_append, List.length_cons, List.length_nil] at hlen5
          go_wp2_with fail
          go_roundg (gk - 1)
          case rel => exact ⟨done ++ [p], by simp; omega, HR5.out⟩
          case measure => omega
end Go.Proofs.Ytibfcoaiodmimaa
