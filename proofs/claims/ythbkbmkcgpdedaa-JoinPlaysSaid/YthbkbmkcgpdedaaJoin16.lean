/- Drop. -/
import Derived.Test.YthbkbmkcgpdedaaJoin15
import Derived.Test.YthbkbmkcgpdedaaJoin8
namespace Go.Proofs.Ythbkbmkcgpdedaa
open Go.RowKit Go.Sort Go.Lib

def decT (T : Tb) (n : Nm) : Tb := match getL T n with
  | some (_, q) => updT T n { q with op := q.op - 1 }
  | none => T
def dropT1 (T : Tb) (root : Nm) : Tb := match getL T root with
  | some (_, r) => if r.fk = true ∧ r.st ≠ 6 then decT T (root.1, parS root.2) else T
  | none => T
def dropT (T : Tb) (root : Nm) : Tb := if mayS root.2 then (dropT1 T root).filter (fun p => !badN root p.1) else T
def dropsT (T : Tb) (roots : List Nm) : Tb := roots.foldl dropT T
/-- What Drop leans on: a parent is there, and its children are counted. -/
def DropOk (T : Tb) : Prop := (∀ n b r, getL T n = some (b, r) → r.fk = true → r.st ≠ 6 → ∃ pb q, getL T (n.1, parS n.2) = some (pb, q) ∧ 1 ≤ q.op ∧ q.op ≤ 1000000) ∧ ∀ p ∈ T, p.1.2.size ≤ 9223372036854775807
def encM (n : Nm) : List Value := [.int .u64 n.1, .string n.2]
theorem dropsT_take {T : Tb} {roots : List Nm} {k : Nat} (h : k < roots.length) : dropsT T (roots.take (k + 1)) = dropT (dropsT T (roots.take k)) roots[k] := by
  unfold dropsT
  rw [List.take_succ_eq_append_getElem h, List.foldl_append]; rfl
theorem mapT_filter (T : Tb) (bad : Nm → Bool) : mapT (T.filter (fun p => !bad p.1)) = dropP (mapT T) bad := by
  unfold mapT dropP
  rw [List.filter_map]; rfl
theorem Tab.filter {w w' : World} {f m : Nat} {most : Int} {T : Tb} {bad : Nm → Bool} (h : Tab w f m most T) (hM : MapL evP w' m (dropP (mapT T) bad)) (hF : Fr (fun i => i = m) w w') : Tab w' f m most (T.filter (fun p => !bad p.1)) := by
  have hk : ∀ (i : Nat) (cs : Array Value) (t : TypeId) (fr : Nat × Nat), w.heap[i]? = some (Obj.cells cs t fr) → w'.heap[i]? = w.heap[i]? := fun i cs t fr hi =>
    hF.block i (Array.getElem?_eq_some_iff.1 hi).1 (h.notMap hi)
  refine ⟨(hk _ _ _ _ h.box).trans h.box, by rw [mapT_filter]; exact hM, fun p hp => ?_, ?_⟩
  · have hr := h.row p (List.mem_filter.1 hp).1
    exact ⟨(hk _ _ _ _ hr.1).trans hr.1, Args.far hr.2 (fun i cur hi => hk i _ _ _ hi)⟩
  · exact h.nd.sublist (List.Sublist.map _ List.filter_sublist)
theorem InRows.filter {T : Tb} {bad : Nm → Bool} {i : Nat} (h : InRows (T.filter (fun p => !bad p.1)) i) : InRows T i := by
  obtain ⟨p, hp, he⟩ := h
  exact ⟨p, (List.mem_filter.1 hp).1, he⟩
theorem InRows.upd {T : Tb} {n : Nm} {r : Rw} {i : Nat} (h : InRows (updT T n r) i) : InRows T i := by
  obtain ⟨p, hp, he⟩ := h
  unfold updT at hp
  obtain ⟨q, hq, rfl⟩ := List.mem_map.1 hp
  refine ⟨q, hq, ?_⟩
  revert he
  split <;> exact id
theorem InRows.dec {T : Tb} {n : Nm} {i : Nat} (h : InRows (decT T n) i) : InRows T i := by
  unfold decT at h
  split at h
  · exact h.upd
  · exact h
theorem dropT1_rows {T : Tb} {root : Nm} {i : Nat} (h : InRows (dropT1 T root) i) : InRows T i := by
  unfold dropT1 at h
  split at h
  · split at h
    · exact h.dec
    · exact h
  · exact h
theorem dropT_rows {T : Tb} {root : Nm} {i : Nat} (h : InRows (dropT T root) i) : InRows T i := by
  unfold dropT at h
  split at h
  · exact dropT1_rows h.filter
  · exact h
theorem decT_len (T : Tb) (n : Nm) : (decT T n).length = T.length := by
  unfold decT
  split
  · exact updT_len _ _ _
  · rfl
theorem dropT1_len (T : Tb) (root : Nm) : (dropT1 T root).length = T.length := by
  unfold dropT1
  split
  · split
    · exact decT_len _ _
    · rfl
  · rfl
theorem dropT_no {T : Tb} {root : Nm} (h : mayS root.2 = false) : dropT T root = T := by unfold dropT; rw [h]; rfl
theorem dropT_yes {T : Tb} {root : Nm} (h : mayS root.2 = true) : dropT T root = (dropT1 T root).filter (fun p => !badN root p.1) := by unfold dropT; rw [if_pos h]
theorem dropT1_same {T : Tb} {root : Nm} (h : ∀ b r, getL T root = some (b, r) → ¬ (r.fk = true ∧ r.st ≠ 6)) : dropT1 T root = T := by
  unfold dropT1
  cases hg : getL T root with
  | none => rfl
  | some br =>
    obtain ⟨b, r⟩ := br
    simp only
    rw [if_neg (h b r hg)]
theorem dropT1_dec {T : Tb} {root : Nm} {b pb : Nat} {r q : Rw} (h : getL T root = some (b, r)) (hk : r.fk = true) (hs : r.st ≠ 6) (hp : getL T (root.1, parS root.2) = some (pb, q)) : dropT1 T root = updT T (root.1, parS root.2) { q with op := q.op - 1 } := by
  unfold dropT1
  rw [h]
  simp only
  rw [if_pos ⟨hk, hs⟩]
  unfold decT
  rw [hp]
set_option maxHeartbeats 6400000 in
set_option maxRecDepth 100000 in
theorem drop_tab (Inv : Tb → Prop) (hok : ∀ T, Inv T → DropOk T) (hst : ∀ T root, Inv T → Inv (dropT T root)) (f m : Nat) (most : Int) (T : Tb) (roots : List Nm) (v : Value) (w : World) (h : Tab w f m most T) (hv : ReadsK encM 2 w v roots) (hI : Inv T) (hT : T.length ≤ 1000000) (hl : roots.length ≤ 1000000) (hr : ∀ n ∈ roots, n.2.size ≤ 9223372036854775807)
    (hvm : ∀ a k c, v = .slice (some a) k c → ∃ cs t fr, w.heap[a.block]? = some (.cells cs t fr) ∧ t ≠ 85) :
    Calls Try.prog 25 #[.pointer (some ⟨f, 0, none⟩), v] w fun e w' => e = .returned (.int .i64 ((T.length : Int) - (dropsT T roots).length)) ∧ Tab w' f m most (dropsT T roots) ∧ Inv (dropsT T roots) ∧ Fr (fun i => i = m ∨ InRows T i) w w' := by
  obtain ⟨va, vc, rfl⟩ := hv.slice
  have HV := Lib.hid hv
  have HVM := Lib.hid hvm
  have HT := Lib.hid h
  have HOK := Lib.hid hok
  have HST := Lib.hid hst
  have HI := Lib.hid hI
  have HRS := Lib.hid hr
  clear hv hvm h hok hst hI hr
  go_enter Try.func25, Try.ntmps25
  go_wp2_with fail
  go_loopg [4, 13] roots.length (fun gk sn si wr => ∃ (k : Nat) (T' : Tb), gk + k = roots.length ∧ si = .int .i64 k ∧ sn = .int .i64 ((T.length : Int) - (T'.length : Int)) ∧ T' = dropsT T (roots.take k) ∧ T'.length ≤ T.length ∧ Tab wr f m most T' ∧ Inv T' ∧ (∀ i, InRows T' i → InRows T i) ∧ Fr (fun i => i = m ∨ InRows T i) w wr)
  case atStart => exact ⟨0, T, by omega, rfl, by simp, rfl, Nat.le_refl _, HT.out, HI.out, fun _ h => h, Fr.refl _ _⟩
  case round =>
    obtain ⟨k, T', hk, rfl, rfl, hTe, hTl, hTab, hInv, hsub, hF⟩ := hrel
    have HTE := Lib.hid hTe
    have HT' := Lib.hid hTab
    have HI' := Lib.hid hInv
    have HSUB := Lib.hid hsub
    have HF := Lib.hid hF
    clear hTe hTab hInv hsub hF HI
    by_cases hkl : k < roots.length
    · have HVR : Hid (ReadsK encM 2 wr (.slice va roots.length vc) roots) := HV.out.fr HF.out (fun a n c hv hs => by
        obtain ⟨cs, t, fr, hc, ht⟩ := HVM.out a n c hv
        rcases hs with hs | ⟨p, hp, hs⟩
        · rw [hs] at hc
          exact HT.out.notMap hc rfl
        · have h1 := (HT.out.row p hp).1
          rw [hs, hc] at h1
          unfold rowO at h1
          injection h1 with h1
          injection h1 with _ h1 _
          exact ht h1)
      obtain ⟨b5, off5, cc5, he, hb5, hc5⟩ := HVR.out.at (by omega)
      injection he with he1 he2 he3
      subst he1
      have k1 : wr.cell? ⟨b5, off5 + k * 2, none⟩ = some (.int .u64 roots[k].1) := hc5 k hkl 0 _ rfl
      have k2 : wr.cell? ⟨b5, off5 + k * 2 + 1, none⟩ = some (.string roots[k].2) := hc5 k hkl 1 _ rfl
      have HRT := Lib.hid (dropsT_take (T := T) hkl)
      rw [← HTE.out] at HRT
      have hrs := HRS.out _ (List.getElem_mem hkl)
      generalize roots[k] = root at *
      clear hc5 he2 he3 hb5 HVR
      have HB0 := Lib.hid ((Below.refl wr.heap.size wr).alloc (Nat.le_refl _) (.cells #[.int .u64 root.1, .string root.2] 35))
      have hA1 : (wr.alloc (.cells #[.int .u64 root.1, .string root.2] 35)).heap[wr.heap.size]? = some (.cells #[.int .u64 root.1, .string root.2] 35 (0, 0)) := heap_alloc_new wr _
      have HA1 := Lib.hid hA1
      clear hA1
      go_wp2_with fail
      refine (may_any root.2 _ hrs).mono ?_
      rintro e w2 ⟨rfl, hB⟩
      have hb2 := (hB.block _ (by simp)).trans HA1.out
      have HB2 := Lib.hid (gthen HB0.out hB)
      have HA2 := Lib.hid hb2
      have HT2 := Lib.hid (HT'.out.below HB2.out)
      have HF2 := Lib.hid (HF.out.trans (Fr.of_below HB2.out))
      clear hB hb2 k1 k2 HB0 HA1
      cases hm : mayS root.2
      · have HD := Lib.hid (dropT_no (T := T') hm)
        clear hm
        go_wp2_with fail
        go_roundg (gk - 1)
        case rel => exact ⟨k + 1, T', by omega, by go_num, rfl, by rw [HRT.out, HD.out], hTl, HT2.out, HI'.out, HSUB.out, HF2.out⟩
        case measure => omega
      · have HD := Lib.hid (dropT_yes (T := T') hm)
        clear hm
        have n1 : w2.cell? ⟨wr.heap.size, 0, none⟩ = some (.int .u64 root.1) := by simp [World.cell?, HA2.out]
        have n2 : w2.cell? ⟨wr.heap.size, 1, none⟩ = some (.string root.2) := by simp [World.cell?, HA2.out]
        have hlk := fun q => (HT2.out.drewN q).look_at rfl root
        have c1 := HT2.out.c1
        have hlt := HT2.out.lt
        unfold ptrT at hlk
        cases hg : getL T' root with
        | none =>
          rw [hg] at hlk
          simp only [Option.map_none] at hlk
          have H1 := Lib.hid (dropT1_same (T := T') (root := root) (fun b r h => by rw [hg] at h; cases h))
          clear hg
          go_wp2_with fail
          go_quiet (fail)
          have hq0 := below_drewN (Below.refl w2.heap.size w2) nq
          have HTX := Lib.hid (HT2.out.below hq0)
          have HAX := Lib.hid ((hq0.block _ (Array.getElem?_eq_some_iff.1 HA2.out).1).trans HA2.out)
          have HFX := Lib.hid (HF2.out.trans (Fr.of_below hq0))
          generalize w2.drewN nq = wx at *
          clear hq0 hlk c1 hlt n1 n2 HT2 HA2 HF2 HB2 HT'
          obtain ⟨T1, hT1⟩ : ∃ T1, T' = T1 := ⟨_, rfl⟩
          have hT1l : T1.length = T'.length := by rw [hT1]
          have HSZ := Lib.hid ((HOK.out T' HI'.out).2)
          have H1' := Lib.hid (H1.out.trans hT1)
          rw [hT1] at HTX HSZ
          clear hT1 H1
          have hln := fun ty => HTX.out.map.len (P := Try.prog) (k := 35) Try.underlying74 ty
          have hll : ((mapT T1).length : Int) = T1.length := by unfold mapT; simp
          rw [hll] at hln
          have c1 := HTX.out.c1
          have hlt := HTX.out.lt
          have n1 : wx.cell? ⟨wr.heap.size, 0, none⟩ = some (.int .u64 root.1) := by simp [World.cell?, HAX.out]
          have n2 : wx.cell? ⟨wr.heap.size, 1, none⟩ = some (.string root.2) := by simp [World.cell?, HAX.out]
          have hrb := (Array.getElem?_eq_some_iff.1 HAX.out).1
          have HNS : Hid (∀ p ∈ mapT T1, p.1.2.size ≤ 9223372036854775807) := by
            intro p hp
            unfold mapT at hp
            obtain ⟨q, hq, rfl⟩ := List.mem_map.1 hp
            exact HSZ.out q hq
          clear hll
          go_wp2_with fail
          refine (deleteFunc17 m (mapT T1) wr.heap.size root wx HTX.out.map n1 n2 hrb hrs HNS.out).mono ?_
          rintro e w5 ⟨rfl, hM, hF5⟩
          have HT5 := Lib.hid (HTX.out.filter hM hF5)
          have HF5 := Lib.hid (HFX.out.trans (hF5.mono (fun i hi => .inl hi)))
          have HI5 := Lib.hid (HST.out T' root HI'.out)
          have HD5 := HD.out
          rw [H1'.out] at HD5
          have HD5 := Lib.hid HD5
          have hT5l : (T1.filter (fun p => !badN root p.1)).length ≤ T1.length := List.length_filter_le _ _
          have HSUB5 : Hid (∀ i, InRows (T1.filter (fun p => !badN root p.1)) i → InRows T i) := fun i hi => HSUB.out i (by rw [← HD5.out] at hi; exact dropT_rows hi)
          rw [HD5.out] at HI5
          have HRT5 := HRT.out
          rw [HD5.out] at HRT5
          have HRT5 := Lib.hid HRT5
          clear hM hF5 c1 n1 n2 hln HAX HFX HNS HD HRT HD5
          generalize T1.filter (fun p => !badN root p.1) = T5 at *
          have hln := fun ty => HT5.out.map.len (P := Try.prog) (k := 35) Try.underlying74 ty
          have hll : ((mapT T5).length : Int) = T5.length := by unfold mapT; simp
          rw [hll] at hln
          have c1 := HT5.out.c1
          clear hll
          go_wp2_with fail
          go_roundg (gk - 1)
          case rel => exact ⟨k + 1, T5, by omega, by go_num, by first | go_num | (congr 1; omega), HRT5.out.symm, by omega, HT5.out, HI5.out, HSUB5.out, HF5.out⟩
          case measure => omega
        | some br =>
          obtain ⟨b, r⟩ := br
          rw [hg] at hlk
          simp only [Option.map_some] at hlk
          have hrow2 := (HT2.out.at hg).1
          by_cases hdec : r.fk = true ∧ r.st ≠ 6
          · obtain ⟨hfk, hst⟩ := hdec
            obtain ⟨pb, q, hpg, hq1, hq2⟩ := (HOK.out T' HI'.out).1 root b r hg hfk hst
            have H1 := Lib.hid (dropT1_dec hg hfk hst hpg)
            have k6 : w2.cell? ⟨b, 6, none⟩ = some (.int .u8 r.st) := row_cells hrow2 6
            have k10 : w2.cell? ⟨b, 10, none⟩ = some (.bool r.fk) := row_cells hrow2 10
            have hb6 : (r.st != 6) = true := by simp [hst]
            rw [hfk] at k10
            have HROW := Lib.hid hrow2
            have HPG := Lib.hid hpg
            clear hg hrow2 hst hpg
            go_wp2_with fail
            go_quiet (fail)
            have hq0 := below_drewN (Below.refl w2.heap.size w2) nq
            have j6 := cell_keep hq0 k6
            have j10 := cell_keep hq0 k10
            have HTX := Lib.hid (HT2.out.below hq0)
            have HAX := Lib.hid ((hq0.block _ (Array.getElem?_eq_some_iff.1 HA2.out).1).trans HA2.out)
            have HFX := Lib.hid (HF2.out.trans (Fr.of_below hq0))
            have HRX := Lib.hid ((hq0.block _ (Array.getElem?_eq_some_iff.1 HROW.out).1).trans HROW.out)
            generalize w2.drewN nq = wx at *
            clear k6 k10 HROW
            clear hq0 hlk c1 hlt n1 n2 HT2 HA2 HF2 HB2 HT'
            go_wp2_with fail
            have HTD := Lib.hid (show Tab wx.drew f m most T' from HTX.out.drewN 1)
            have HRD := Lib.hid (show wx.drew.heap[b]? = some (rowO root r) from HRX.out)
            have cd1 : wx.drew.cell? ⟨f, 1, none⟩ = some (.map (some m)) := HTD.out.c1
            have c1 := HTX.out.c1
            have wop : IntKind.i64.wrap (q.op - 1) = q.op - 1 := by rw [IntKind.wrap_i64]; omega
            go_region_with (go_at_call 44; refine (rparent b root r wx.drew HRD.out hrs).mono ?_; rintro e w' ⟨rfl, hB⟩; have c1' := (HTD.out.below hB).c1; have hlk' := (HTD.out.below hB).look_at (x := w') rfl (root.1, parS root.2); have hpr := ((HTD.out.below hB).at HPG.out).1; have kp : w'.cell? ⟨pb, 7, none⟩ = some (.int .i64 q.op) := row_cells hpr 7; have zp : w'.frozen? ⟨pb, 7, none⟩ = false := row_open hpr 7; unfold ptrT at hlk'; rw [HPG.out] at hlk'; simp only [Option.map_some] at hlk')
            · have HTY := Lib.hid ((HTD.out.below hB).set (r' := { q with op := q.op - 1 }) HPG.out (fr_set w' pb 7 (.int .i64 (q.op - 1))) (row_open7 hpr (q.op - 1)) ⟨rfl, rfl, rfl⟩)
              have HAY0 := (hB.block _ (Array.getElem?_eq_some_iff.1 (show wx.drew.heap[wr.heap.size]? = _ from HAX.out)).1).trans (show wx.drew.heap[wr.heap.size]? = _ from HAX.out)
              have hpne : wr.heap.size ≠ pb := fun e => by
                rw [e, hpr] at HAY0
                unfold rowO at HAY0
                injection HAY0 with h1
                injection h1 with _ h1 _
                cases h1
              have HAY := Lib.hid ((Go.heap_setCell_other w' ⟨pb, 7, none⟩ wr.heap.size (.int .i64 (q.op - 1)) hpne).trans HAY0)
              have HFY := Lib.hid ((HFX.out.trans (Fr.of_below ((Below.refl wx.heap.size wx).drew.trans (hB.mono (Nat.le_refl _))))).trans ((fr_set w' pb 7 (.int .i64 (q.op - 1))).mono (fun i hi => .inr (HSUB.out i (inRows HPG.out hi)))))
              have H1l : (updT T' (root.1, parS root.2) { q with op := q.op - 1 }).length = T'.length := updT_len _ _ _
              have HSZ0 := (HOK.out T' HI'.out).2
              have HSZ : Hid (∀ p ∈ updT T' (root.1, parS root.2) { q with op := q.op - 1 }, p.1.2.size ≤ 9223372036854775807) := by
                intro p hp
                unfold updT at hp
                obtain ⟨z, hz, rfl⟩ := List.mem_map.1 hp
                have := HSZ0 z hz
                split <;> exact this
              clear HSZ0 HAY0 hpne hpr kp zp c1' hlk' hB HTD HRD cd1 HTX HAX HFX HRX j6 j10 HPG hq1 hq2 hfk hb6
              generalize w'.setCell ⟨pb, 7, none⟩ (.int .i64 (q.op - 1)) = wy at *
              generalize updT T' (root.1, parS root.2) { q with op := q.op - 1 } = T1 at *
              have hT1l : T1.length = T'.length := H1l
              have HTX := HTY
              have HAX := HAY
              have HFX := HFY
              clear HTY HAY HFY H1l c1
              have hln := fun ty => HTX.out.map.len (P := Try.prog) (k := 35) Try.underlying74 ty
              have hll : ((mapT T1).length : Int) = T1.length := by unfold mapT; simp
              rw [hll] at hln
              have c1 := HTX.out.c1
              have hlt := HTX.out.lt
              have n1 : wy.cell? ⟨wr.heap.size, 0, none⟩ = some (.int .u64 root.1) := by simp [World.cell?, HAX.out]
              have n2 : wy.cell? ⟨wr.heap.size, 1, none⟩ = some (.string root.2) := by simp [World.cell?, HAX.out]
              have hrb := (Array.getElem?_eq_some_iff.1 HAX.out).1
              have HNS : Hid (∀ p ∈ mapT T1, p.1.2.size ≤ 9223372036854775807) := by
                intro p hp
                unfold mapT at hp
                obtain ⟨q, hq, rfl⟩ := List.mem_map.1 hp
                exact HSZ.out q hq
              clear hll
              go_wp2_with fail
              refine (deleteFunc17 m (mapT T1) wr.heap.size root wy HTX.out.map n1 n2 hrb hrs HNS.out).mono ?_
              rintro e w5 ⟨rfl, hM, hF5⟩
              have HT5 := Lib.hid (HTX.out.filter hM hF5)
              have HF5 := Lib.hid (HFX.out.trans (hF5.mono (fun i hi => .inl hi)))
              have HI5 := Lib.hid (HST.out T' root HI'.out)
              have HD5 := HD.out
              rw [H1.out] at HD5
              have HD5 := Lib.hid HD5
              have hT5l : (T1.filter (fun p => !badN root p.1)).length ≤ T1.length := List.length_filter_le _ _
              have HSUB5 : Hid (∀ i, InRows (T1.filter (fun p => !badN root p.1)) i → InRows T i) := fun i hi => HSUB.out i (by rw [← HD5.out] at hi; exact dropT_rows hi)
              rw [HD5.out] at HI5
              have HRT5 := HRT.out
              rw [HD5.out] at HRT5
              have HRT5 := Lib.hid HRT5
              clear hM hF5 c1 n1 n2 hln HAX HFX HNS HD HRT HD5
              generalize T1.filter (fun p => !badN root p.1) = T5 at *
              have hln := fun ty => HT5.out.map.len (P := Try.prog) (k := 35) Try.underlying74 ty
              have hll : ((mapT T5).length : Int) = T5.length := by unfold mapT; simp
              rw [hll] at hln
              have c1 := HT5.out.c1
              clear hll
              go_wp2_with fail
              go_roundg (gk - 1)
              case rel => exact ⟨k + 1, T5, by omega, by go_num, by first | go_num | (congr 1; omega), HRT5.out.symm, by omega, HT5.out, HI5.out, HSUB5.out, HF5.out⟩
              case measure => omega
            · have HTY := Lib.hid ((HTD.out.below hB).set (r' := { q with op := q.op - 1 }) HPG.out (fr_set w' pb 7 (.int .i64 (q.op - 1))) (row_open7 hpr (q.op - 1)) ⟨rfl, rfl, rfl⟩)
              have HAY0 := (hB.block _ (Array.getElem?_eq_some_iff.1 (show wx.drew.heap[wr.heap.size]? = _ from HAX.out)).1).trans (show wx.drew.heap[wr.heap.size]? = _ from HAX.out)
              have hpne : wr.heap.size ≠ pb := fun e => by
                rw [e, hpr] at HAY0
                unfold rowO at HAY0
                injection HAY0 with h1
                injection h1 with _ h1 _
                cases h1
              have HAY := Lib.hid ((Go.heap_setCell_other w' ⟨pb, 7, none⟩ wr.heap.size (.int .i64 (q.op - 1)) hpne).trans HAY0)
              have HFY := Lib.hid ((HFX.out.trans (Fr.of_below ((Below.refl wx.heap.size wx).drew.trans (hB.mono (Nat.le_refl _))))).trans ((fr_set w' pb 7 (.int .i64 (q.op - 1))).mono (fun i hi => .inr (HSUB.out i (inRows HPG.out hi)))))
              have H1l : (updT T' (root.1, parS root.2) { q with op := q.op - 1 }).length = T'.length := updT_len _ _ _
              have HSZ0 := (HOK.out T' HI'.out).2
              have HSZ : Hid (∀ p ∈ updT T' (root.1, parS root.2) { q with op := q.op - 1 }, p.1.2.size ≤ 9223372036854775807) := by
                intro p hp
                unfold updT at hp
                obtain ⟨z, hz, rfl⟩ := List.mem_map.1 hp
                have := HSZ0 z hz
                split <;> exact this
              clear HSZ0 HAY0 hpne hpr kp zp c1' hlk' hB HTD HRD cd1 HTX HAX HFX HRX j6 j10 HPG hq1 hq2 hfk hb6
              generalize w'.setCell ⟨pb, 7, none⟩ (.int .i64 (q.op - 1)) = wy at *
              generalize updT T' (root.1, parS root.2) { q with op := q.op - 1 } = T1 at *
              have hT1l : T1.length = T'.length := H1l
              have HTX := HTY
              have HAX := HAY
              have HFX := HFY
              clear HTY HAY HFY H1l c1
              have hln := fun ty => HTX.out.map.len (P := Try.prog) (k := 35) Try.underlying74 ty
              have hll : ((mapT T1).length : Int) = T1.length := by unfold mapT; simp
              rw [hll] at hln
              have c1 := HTX.out.c1
              have hlt := HTX.out.lt
              have n1 : wy.cell? ⟨wr.heap.size, 0, none⟩ = some (.int .u64 root.1) := by simp [World.cell?, HAX.out]
              have n2 : wy.cell? ⟨wr.heap.size, 1, none⟩ = some (.string root.2) := by simp [World.cell?, HAX.out]
              have hrb := (Array.getElem?_eq_some_iff.1 HAX.out).1
              have HNS : Hid (∀ p ∈ mapT T1, p.1.2.size ≤ 9223372036854775807) := by
                intro p hp
                unfold mapT at hp
                obtain ⟨q, hq, rfl⟩ := List.mem_map.1 hp
                exact HSZ.out q hq
              clear hll
              go_wp2_with fail
              refine (deleteFunc17 m (mapT T1) wr.heap.size root wy HTX.out.map n1 n2 hrb hrs HNS.out).mono ?_
              rintro e w5 ⟨rfl, hM, hF5⟩
              have HT5 := Lib.hid (HTX.out.filter hM hF5)
              have HF5 := Lib.hid (HFX.out.trans (hF5.mono (fun i hi => .inl hi)))
              have HI5 := Lib.hid (HST.out T' root HI'.out)
              have HD5 := HD.out
              rw [H1.out] at HD5
              have HD5 := Lib.hid HD5
              have hT5l : (T1.filter (fun p => !badN root p.1)).length ≤ T1.length := List.length_filter_le _ _
              have HSUB5 : Hid (∀ i, InRows (T1.filter (fun p => !badN root p.1)) i → InRows T i) := fun i hi => HSUB.out i (by rw [← HD5.out] at hi; exact dropT_rows hi)
              rw [HD5.out] at HI5
              have HRT5 := HRT.out
              rw [HD5.out] at HRT5
              have HRT5 := Lib.hid HRT5
              clear hM hF5 c1 n1 n2 hln HAX HFX HNS HD HRT HD5
              generalize T1.filter (fun p => !badN root p.1) = T5 at *
              have hln := fun ty => HT5.out.map.len (P := Try.prog) (k := 35) Try.underlying74 ty
              have hll : ((mapT T5).length : Int) = T5.length := by unfold mapT; simp
              rw [hll] at hln
              have c1 := HT5.out.c1
              clear hll
              go_wp2_with fail
              go_roundg (gk - 1)
              case rel => exact ⟨k + 1, T5, by omega, by go_num, by first | go_num | (congr 1; omega), HRT5.out.symm, by omega, HT5.out, HI5.out, HSUB5.out, HF5.out⟩
              case measure => omega
          · have H1 := Lib.hid (dropT1_same (T := T') (root := root) (fun b' r' h => by rw [hg] at h; injection h with h; injection h with _ h; subst h; exact hdec))
            have k6 : w2.cell? ⟨b, 6, none⟩ = some (.int .u8 r.st) := row_cells hrow2 6
            have k10 : w2.cell? ⟨b, 10, none⟩ = some (.bool r.fk) := row_cells hrow2 10
            clear hg hrow2
            cases hfk : r.fk with
            | false =>
              rw [hfk] at k10
              clear hfk hdec
              go_wp2_with fail
              go_quiet (fail)
              have hq0 := below_drewN (Below.refl w2.heap.size w2) nq
              have j6 := cell_keep hq0 k6
              have j10 := cell_keep hq0 k10
              have HTX := Lib.hid (HT2.out.below hq0)
              have HAX := Lib.hid ((hq0.block _ (Array.getElem?_eq_some_iff.1 HA2.out).1).trans HA2.out)
              have HFX := Lib.hid (HF2.out.trans (Fr.of_below hq0))
              generalize w2.drewN nq = wx at *
              clear k6 k10
              clear hq0 hlk c1 hlt n1 n2 HT2 HA2 HF2 HB2 HT'
              obtain ⟨T1, hT1⟩ : ∃ T1, T' = T1 := ⟨_, rfl⟩
              have hT1l : T1.length = T'.length := by rw [hT1]
              have HSZ := Lib.hid ((HOK.out T' HI'.out).2)
              have H1' := Lib.hid (H1.out.trans hT1)
              rw [hT1] at HTX HSZ
              clear hT1 H1
              have hln := fun ty => HTX.out.map.len (P := Try.prog) (k := 35) Try.underlying74 ty
              have hll : ((mapT T1).length : Int) = T1.length := by unfold mapT; simp
              rw [hll] at hln
              have c1 := HTX.out.c1
              have hlt := HTX.out.lt
              have n1 : wx.cell? ⟨wr.heap.size, 0, none⟩ = some (.int .u64 root.1) := by simp [World.cell?, HAX.out]
              have n2 : wx.cell? ⟨wr.heap.size, 1, none⟩ = some (.string root.2) := by simp [World.cell?, HAX.out]
              have hrb := (Array.getElem?_eq_some_iff.1 HAX.out).1
              have HNS : Hid (∀ p ∈ mapT T1, p.1.2.size ≤ 9223372036854775807) := by
                intro p hp
                unfold mapT at hp
                obtain ⟨q, hq, rfl⟩ := List.mem_map.1 hp
                exact HSZ.out q hq
              clear hll
              go_wp2_with fail
              refine (deleteFunc17 m (mapT T1) wr.heap.size root wx HTX.out.map n1 n2 hrb hrs HNS.out).mono ?_
              rintro e w5 ⟨rfl, hM, hF5⟩
              have HT5 := Lib.hid (HTX.out.filter hM hF5)
              have HF5 := Lib.hid (HFX.out.trans (hF5.mono (fun i hi => .inl hi)))
              have HI5 := Lib.hid (HST.out T' root HI'.out)
              have HD5 := HD.out
              rw [H1'.out] at HD5
              have HD5 := Lib.hid HD5
              have hT5l : (T1.filter (fun p => !badN root p.1)).length ≤ T1.length := List.length_filter_le _ _
              have HSUB5 : Hid (∀ i, InRows (T1.filter (fun p => !badN root p.1)) i → InRows T i) := fun i hi => HSUB.out i (by rw [← HD5.out] at hi; exact dropT_rows hi)
              rw [HD5.out] at HI5
              have HRT5 := HRT.out
              rw [HD5.out] at HRT5
              have HRT5 := Lib.hid HRT5
              clear hM hF5 c1 n1 n2 hln HAX HFX HNS HD HRT HD5
              generalize T1.filter (fun p => !badN root p.1) = T5 at *
              have hln := fun ty => HT5.out.map.len (P := Try.prog) (k := 35) Try.underlying74 ty
              have hll : ((mapT T5).length : Int) = T5.length := by unfold mapT; simp
              rw [hll] at hln
              have c1 := HT5.out.c1
              clear hll
              go_wp2_with fail
              go_roundg (gk - 1)
              case rel => exact ⟨k + 1, T5, by omega, by go_num, by first | go_num | (congr 1; omega), HRT5.out.symm, by omega, HT5.out, HI5.out, HSUB5.out, HF5.out⟩
              case measure => omega
            | true =>
              rw [hfk] at k10
              have hs6 : r.st = 6 := by
                by_cases h6 : r.st = 6
                · exact h6
                · exact absurd ⟨hfk, h6⟩ hdec
              have hb6 : (r.st != 6) = false := by simp [hs6]
              clear hs6
              clear hfk hdec
              go_wp2_with fail
              go_quiet (fail)
              have hq0 := below_drewN (Below.refl w2.heap.size w2) nq
              have j6 := cell_keep hq0 k6
              have j10 := cell_keep hq0 k10
              have HTX := Lib.hid (HT2.out.below hq0)
              have HAX := Lib.hid ((hq0.block _ (Array.getElem?_eq_some_iff.1 HA2.out).1).trans HA2.out)
              have HFX := Lib.hid (HF2.out.trans (Fr.of_below hq0))
              generalize w2.drewN nq = wx at *
              clear k6 k10
              clear hq0 hlk c1 hlt n1 n2 HT2 HA2 HF2 HB2 HT'
              obtain ⟨T1, hT1⟩ : ∃ T1, T' = T1 := ⟨_, rfl⟩
              have hT1l : T1.length = T'.length := by rw [hT1]
              have HSZ := Lib.hid ((HOK.out T' HI'.out).2)
              have H1' := Lib.hid (H1.out.trans hT1)
              rw [hT1] at HTX HSZ
              clear hT1 H1
              have hln := fun ty => HTX.out.map.len (P := Try.prog) (k := 35) Try.underlying74 ty
              have hll : ((mapT T1).length : Int) = T1.length := by unfold mapT; simp
              rw [hll] at hln
              have c1 := HTX.out.c1
              have hlt := HTX.out.lt
              have n1 : wx.cell? ⟨wr.heap.size, 0, none⟩ = some (.int .u64 root.1) := by simp [World.cell?, HAX.out]
              have n2 : wx.cell? ⟨wr.heap.size, 1, none⟩ = some (.string root.2) := by simp [World.cell?, HAX.out]
              have hrb := (Array.getElem?_eq_some_iff.1 HAX.out).1
              have HNS : Hid (∀ p ∈ mapT T1, p.1.2.size ≤ 9223372036854775807) := by
                intro p hp
                unfold mapT at hp
                obtain ⟨q, hq, rfl⟩ := List.mem_map.1 hp
                exact HSZ.out q hq
              clear hll
              go_wp2_with fail
              refine (deleteFunc17 m (mapT T1) wr.heap.size root wx HTX.out.map n1 n2 hrb hrs HNS.out).mono ?_
              rintro e w5 ⟨rfl, hM, hF5⟩
              have HT5 := Lib.hid (HTX.out.filter hM hF5)
              have HF5 := Lib.hid (HFX.out.trans (hF5.mono (fun i hi => .inl hi)))
              have HI5 := Lib.hid (HST.out T' root HI'.out)
              have HD5 := HD.out
              rw [H1'.out] at HD5
              have HD5 := Lib.hid HD5
              have hT5l : (T1.filter (fun p => !badN root p.1)).length ≤ T1.length := List.length_filter_le _ _
              have HSUB5 : Hid (∀ i, InRows (T1.filter (fun p => !badN root p.1)) i → InRows T i) := fun i hi => HSUB.out i (by rw [← HD5.out] at hi; exact dropT_rows hi)
              rw [HD5.out] at HI5
              have HRT5 := HRT.out
              rw [HD5.out] at HRT5
              have HRT5 := Lib.hid HRT5
              clear hM hF5 c1 n1 n2 hln HAX HFX HNS HD HRT HD5
              generalize T1.filter (fun p => !badN root p.1) = T5 at *
              have hln := fun ty => HT5.out.map.len (P := Try.prog) (k := 35) Try.underlying74 ty
              have hll : ((mapT T5).length : Int) = T5.length := by unfold mapT; simp
              rw [hll] at hln
              have c1 := HT5.out.c1
              clear hll
              go_wp2_with fail
              go_roundg (gk - 1)
              case rel => exact ⟨k + 1, T5, by omega, by go_num, by first | go_num | (congr 1; omega), HRT5.out.symm, by omega, HT5.out, HI5.out, HSUB5.out, HF5.out⟩
              case measure => omega
    · have hke : k = roots.length := by omega
      have HTE2 := HTE.out
      rw [hke, List.take_length] at HTE2
      have HTE2 := Lib.hid HTE2
      go_wp2_with fail
      go_ret
      exact ⟨by rw [← HTE2.out]; rfl, by rw [← HTE2.out]; exact HT'.out, by rw [← HTE2.out]; exact HI'.out, HF.out⟩
end Go.Proofs.Ythbkbmkcgpdedaa
