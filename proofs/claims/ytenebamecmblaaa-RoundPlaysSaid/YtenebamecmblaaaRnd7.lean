/- Take. -/
import Derived.Test.YtenebamecmblaaaRnd6
namespace Go.Proofs.Ytenebamecmblaaa
open Go.RowKit Go.Sort Go.Lib

def encM (n : Nm) : List Value := [.int .u64 n.1, .string n.2]
def takeE (A : AB) (n : Nm) : Option (AO × List Int) := (U.getL A n.1).bind fun x => (getL x.2 n).map fun c => (x, c)
def take1 (A : AB) (n : Nm) : AB := match takeE A n with
  | none => A
  | some (x, c) => updA A n.1 ((addL [x.1, c]).2, delL x.2 n)
def takeA (A : AB) : List Nm → AB
  | [] => A
  | n :: l => takeA (take1 A n) l
def takeN (A : AB) : List Nm → Nat
  | [] => 0
  | n :: l => (if (takeE A n).isSome then 1 else 0) + takeN (take1 A n) l
theorem sum_del : ∀ {l : List (Nm × List Int)} {k : Nm} {c : List Int}, (l.map (·.1)).Nodup → getL l k = some c → (l.map fun q => vC q.2).sum = vC c + ((delL l k).map fun q => vC q.2).sum
  | [], _, _, _, h => by cases h
  | p :: l, k, c, hn, h => by
    rw [List.map_cons, List.nodup_cons] at hn
    by_cases e : p.1 = k
    · have hc : p.2 = c := by unfold getL at h; rw [List.find?_cons_of_pos (by simpa using e)] at h; simpa using h
      have hd : delL (p :: l) k = l := by
        unfold delL
        rw [List.filter_cons_of_neg (by simp [e]), List.filter_eq_self]
        intro q hq
        have : q.1 ≠ k := fun e2 => hn.1 (List.mem_map.2 ⟨q, hq, e2.trans e.symm⟩)
        simp [this]
      rw [hd, List.map_cons, List.sum_cons, hc]
    · have h' : getL l k = some c := by unfold getL at h ⊢; rwa [List.find?_cons_of_neg (by simpa using e)] at h
      have hd : delL (p :: l) k = p :: delL l k := by
        unfold delL
        rw [List.filter_cons_of_pos (by simp [e])]
      have ih := sum_del hn.2 h'
      rw [hd, List.map_cons, List.sum_cons, List.map_cons, List.sum_cons]
      omega
theorem GoodO.keeps {n : Int} {x : AO} (h : GoodO n x) {k : Nm} {c : List Int} (hc : getL x.2 k = some c) : ∃ r, addL [x.1, c] = (0, r) ∧ mayC r = true ∧ GoodO n (r, delL x.2 k) := by
  have hmem := getL_mem' hc
  have hs := sum_del h.keys hc
  have hsum := h.sum
  obtain ⟨r, h1, h2, h3⟩ := addL_two h.heldMay (h.may _ hmem).1 (by simp only; omega)
  have hsub : ∀ q, q ∈ delL x.2 k → q ∈ x.2 := fun q hq => (List.mem_filter.1 hq).1
  refine ⟨r, h1, h2, mayC_sc h2, ?_, fun q hq => h.may q (hsub q hq), h.keys.sublist (List.filter_sublist.map _), fun q hq => h.job q (hsub q hq), fun q hq => h.pth q (hsub q hq), ?_⟩
  · rintro rfl
    have := vC_pos h.ne
    change 0 = _ at h3
    simp only at h3
    omega
  · show vC r + ((delL x.2 k).map fun q => vC q.2).sum = pw 0
    simp only at h3
    omega
theorem updA_keys (A : AB) (n : Int) (x : AO) : (updA A n x).map (·.1) = A.map (·.1) := by
  unfold updA
  rw [List.map_map]
  apply List.map_congr_left
  intro p _
  simp only [Function.comp]
  split
  · rename_i e; exact e.symm
  · rfl
theorem GoodA.upd {A : AB} (h : GoodA A) {n : Int} {x : AO} (hx : GoodO n x) : GoodA (updA A n x) := by
  refine ⟨by rw [updA_keys]; exact h.1, fun p hp => ?_⟩
  obtain ⟨q, hq, rfl⟩ := List.mem_map.1 hp
  by_cases e : q.1 = n
  · rw [if_pos e]; exact hx
  · rw [if_neg e]; exact h.2 q hq
theorem GoodA.take1 {A : AB} (h : GoodA A) (n : Nm) : GoodA (take1 A n) := by
  unfold Go.Proofs.Ytenebamecmblaaa.take1
  cases he : takeE A n with
  | none => exact h
  | some y =>
    obtain ⟨x, c⟩ := y
    unfold takeE at he
    cases hg : U.getL A n.1 with
    | none => rw [hg] at he; cases he
    | some x' =>
      rw [hg] at he
      simp only [Option.bind_some, Option.map_eq_some_iff] at he
      obtain ⟨c', hc, he⟩ := he
      injection he with e1 e2
      subst e1; subst e2
      obtain ⟨r, h1, _, h2⟩ := (getA_good h hg).keeps hc
      refine h.upd ?_
      rw [h1]; exact h2
theorem nilC (w : World) (a : Option Addr) (n c : Nat) : (binOp .eql 39 (.slice a n c) (.slice none 0 0)).run Try.prog w = .ok (.bool a.isNone) w :=
  run_eql_slice_nil w _ _ a n c Try.underlying39
theorem frozen_keep {w w' : World} {b : Nat} (hB : Below w.heap.size w w') (hb : b < w.heap.size) (h : w.frozen? ⟨b, 0, none⟩ = false) : w'.frozen? ⟨b, 0, none⟩ = false := by
  unfold World.frozen? at *
  rw [hB.block b hb]; exact h
/-- While a credit is taken: the box turns, nothing else. -/
structure TakeS (w3 : World) (x : On) (y : World) : Prop where
  fr : Fr (fun i => i = x.b) w3 y
  box : ∃ v, y.heap[x.b]? = some (Obj.cells #[v, .map (some x.o)] 65 (0, 0))
  ne : x.b ≠ x.o
theorem TakeS.c1 {w3 y : World} {x : On} (h : TakeS w3 x y) : y.cell? ⟨x.b, 1, none⟩ = some (.map (some x.o)) := by
  obtain ⟨v, hb⟩ := h.box
  simp [World.cell?, hb]
theorem TakeS.start {w3 : World} {x : On} (h : OnOk w3 x) : TakeS w3 x w3.drew := ⟨(Fr.refl _ _).drew, ⟨_, h.box⟩, h.box_map h⟩
theorem TakeS.store {w3 y : World} {x : On} (h : TakeS w3 x y) (v : Value) : TakeS w3 x (y.setCell ⟨x.b, 0, none⟩ v) := by
  obtain ⟨u, hb⟩ := h.box
  exact ⟨h.fr.setCell rfl v, ⟨v, box_set hb v⟩, h.ne⟩
theorem TakeS.below {w3 y : World} {x : On} (h : OnOk w3 x) (hB : Below w3.heap.size w3 y) : TakeS w3 x y := ⟨.of_below hB, ⟨_, (hB.block _ h.lt.1).trans h.box⟩, h.box_map h⟩
theorem TakeS.alloc {w3 y : World} {x : On} (h : TakeS w3 x y) (hx : OnOk w3 x) (o : Obj) : TakeS w3 x (y.alloc o) := by
  obtain ⟨u, hb⟩ := h.box
  exact ⟨h.fr.alloc o, ⟨u, ((below_allocC y o).block _ (Nat.lt_of_lt_of_le hx.lt.1 h.fr.size)).trans hb⟩, h.ne⟩
theorem TakeS.look {w3 y : World} {x : On} (h : TakeS w3 x y) (hx : OnOk w3 x) {n : Nm} {a : Option Addr} {c : Nat} {l : List Int} (ho : getL x.out n = some ⟨a, c, l⟩) :
    (Instr.lookup 33 (.map (some x.o)) (.agg #[.int .u64 n.1, .string n.2]) false).run Try.prog y = .ok (.slice a l.length c) y := by
  have := hx.look (h.fr.block _ hx.lt.2 (fun e => h.ne e.symm)) n
  unfold outV at this
  rw [ho] at this
  exact this
theorem two_reads (w : World) (v1 v2 : Value) (l1 l2 : List Int) : ReadsK encV 1 (w.alloc (.cells #[v1, v2] 39)).drew (.slice (some ⟨w.heap.size, 0, none⟩) 2 2) [(v1, l1), (v2, l2)] := by
  have hb := heap_alloc_new w (.cells #[v1, v2] 39)
  refine .inr ⟨w.heap.size, 0, 2, rfl, by show _ < (w.alloc _).heap.size; simp, fun i hi t u hu => ?_⟩
  have ht : t = 0 := by
    have := (List.getElem?_eq_some_iff.1 hu).1
    simp at this; omega
  subst ht
  simp at hi
  have hcell : ∀ k, (w.alloc (.cells #[v1, v2] 39)).drew.cell? ⟨w.heap.size, k, none⟩ = #[v1, v2][k]? := fun k => by
    show (w.alloc (.cells #[v1, v2] 39)).cell? ⟨w.heap.size, k, none⟩ = _
    unfold World.cell?
    rw [hb]
    rfl
  rw [hcell]
  have h01 : i = 0 ∨ i = 1 := by omega
  rcases h01 with rfl | rfl <;> simpa using hu
theorem add_below {w w' : World} {o : Obj} (h : Below (w.alloc o).drew.heap.size (w.alloc o).drew w') : Below w.heap.size w w' := by
  have h1 : Below w.heap.size w (w.alloc o).drew := (below_allocC w o).drew
  exact gthen h1 h
theorem add_two (l1 l2 : List Int) (v1 v2 : Value) (w : World) (h1 : COwn w 0 v1 l1) (h2 : COwn w 0 v2 l2) (hl1 : l1.length ≤ 1000000) (hl2 : l2.length ≤ 1000000) :
    Calls Try.prog 17 #[.slice (some ⟨w.heap.size, 0, none⟩) 2 2] (w.alloc (.cells #[v1, v2] 39)).drew (AddR [l1, l2] (w.alloc (.cells #[v1, v2] 39)).drew) := by
  have hB : Below w.heap.size w (w.alloc (.cells #[v1, v2] 39)).drew := (below_allocC w _).drew
  refine add_any [(v1, l1), (v2, l2)] _ _ (two_reads w v1 v2 l1 l2) (by simp) (fun p hp => ?_)
  simp at hp
  rcases hp with rfl | rfl
  · exact ⟨h1.reads.below hB, hl1⟩
  · exact ⟨h2.reads.below hB, hl2⟩
theorem delL_mapC (l : List (Nm × Cr)) (n : Nm) : (delL l n).map (fun q => (q.1, q.2.l)) = delL (l.map fun q => (q.1, q.2.l)) n := by
  unfold delL
  rw [List.filter_map]; rfl
theorem take_abs {L : Rd} {n : Nm} {x : On} {cl : List Int} {a : Option Addr} {c : Nat} (h : takeE (absR L) n = some (abO x, cl)) : absR (updR L n.1 ⟨x.b, x.o, ⟨a, c, (addL [x.held.l, cl]).2⟩, delL x.out n⟩) = take1 (absR L) n := by
  rw [absR_upd]
  unfold take1
  rw [h]
  unfold abO
  rw [delL_mapC]
structure TakeZ (w3 : World) (x : On) (k : Cr) (wz : World) : Prop where
  ts : TakeS w3 x wz
  box : wz.heap[x.b]? = some (Obj.cells #[evC k, .map (some x.o)] 65 (0, 0))
  held : CrOk wz k
theorem TakeZ.mk' {w3 w4 : World} {x : On} {k : Cr} (hx : OnOk w3 x) (hB : Below w3.heap.size w3 w4) (hk : CrOk w4 k) : TakeZ w3 x k (w4.setCell ⟨x.b, 0, none⟩ (evC k)) := by
  have hb := (hB.block _ hx.lt.1).trans hx.box
  refine ⟨(TakeS.below hx hB).store _, box_set hb _, hk.keep fun i hi => Go.heap_setCell_other _ ⟨x.b, 0, none⟩ _ _ ?_⟩
  rintro rfl
  obtain ⟨cur, hi⟩ := hi
  rw [hb] at hi
  injection hi with hi
  injection hi with _ hi _
  exact absurd hi (by decide)
theorem TakeZ.done {w3 wz w7 : World} {r m : Nat} {L : Rd} {x : On} {n : Nm} {k : Cr} (h : TakeZ w3 x k wz) (hx : OnOk w3 x) (hR : Rds w3 r m L) (hg : U.getL L n.1 = some x) (hO : OnlyAt wz.drew w7 x.o) (hm : MapL evC w7 x.o (delL x.out n)) :
    Rds w7 r m (updR L n.1 ⟨x.b, x.o, k, delL x.out n⟩) ∧ Mv m L w3 (updR L n.1 ⟨x.b, x.o, k, delL x.out n⟩) w7 := by
  have hne : x.b ≠ x.o := h.ts.ne
  have hF : Fr (fun i => i = x.b ∨ i = x.o) w3 w7 := (h.ts.fr.mono fun i hi => .inl hi).drew.only hO (.inr rfl)
  have hI : ∀ i, IntB w3 i → w7.heap[i]? = w3.heap[i]? := fun i hi => hF.block i hi.lt (fun e => hR.int_out hi (.inr ⟨_, (hR.at hg).1, e⟩))
  have hz : ∀ i, IntB wz i → w7.heap[i]? = wz.heap[i]? := fun i ⟨cur, hi⟩ => hO.2.2.2.2.1 i (by
    rintro rfl
    have h2 := (h.ts.fr.block _ hx.lt.2 (fun e => hne e.symm))
    exact hx.map.no_cells (h2.symm.trans hi))
  have hsub : ∀ p, p ∈ delL x.out n → p ∈ x.out := fun p hp => (List.mem_filter.1 hp).1
  exact hR.set hg (y := ⟨x.b, x.o, k, delL x.out n⟩) rfl rfl hF ⟨(hO.2.2.2.2.1 _ hne).trans h.box, hm, h.held.keep hz, fun p hp => (hx.out p (hsub p hp)).keep hI, fun p hp => hx.outn p (hsub p hp)⟩
set_option maxHeartbeats 3200000 in
set_option maxRecDepth 100000 in
theorem take_rnd (r m : Nat) (L : Rd) (l : List Nm) (v : Value) (w : World) (h : Rds w r m L) (hG : GoodA (absR L)) (hv : ReadsK encM 2 w v l) (hs : ∀ a n c, v = .slice (some a) n c → ¬ RS m L a.block) (hl : l.length ≤ 1000000) :
    Calls Try.prog 18 #[.pointer (some ⟨r, 0, none⟩), v] w fun e w' => e = .returned (.int .i64 (takeN (absR L) l : Nat)) ∧ Nxt r m L w (takeA (absR L) l) w' := by
  obtain ⟨a, c, rfl⟩ := hv.slice
  have H := Lib.hid h
  have HV := Lib.hid hv
  have HS := Lib.hid hs
  have HG := Lib.hid hG
  obtain ⟨DA, hDA⟩ : ∃ DA, takeA (absR L) l = DA := ⟨_, rfl⟩
  obtain ⟨DN, hDN⟩ : ∃ DN, takeN (absR L) l = DN := ⟨_, rfl⟩
  have HDA := Lib.hid hDA
  have HDN := Lib.hid hDN
  rw [hDA, hDN]
  clear h hv hs hDA hDN hG
  go_enter Try.func18, Try.ntmps18
  go_wp2_with fail
  have hnl := nilC
  go_loopg [4, 10] l.length (fun gk cnt i wr => ∃ (k : Nat) (L' : Rd) (c : Nat), gk + k = l.length ∧ cnt = .int .i64 c ∧ i = .int .i64 k ∧ Rds wr r m L' ∧ Mv m L w L' wr ∧ GoodA (absR L') ∧ takeA (absR L') (l.drop k) = DA ∧ c + takeN (absR L') (l.drop k) = DN ∧ c ≤ k)
  case atStart => exact ⟨0, L, 0, by omega, rfl, rfl, H.out, .below m L (Below.refl _ _), HG.out, HDA.out, by rw [List.drop_zero, Nat.zero_add]; exact HDN.out, Nat.le_refl _⟩
  case round =>
    obtain ⟨k, L', cn, hk, rfl, rfl, h', hM, hG, hA, hN, hck⟩ := hrel
    have H' := Lib.hid h'
    have HM := Lib.hid hM
    have HA := Lib.hid hA
    have HN := Lib.hid hN
    have HG' := Lib.hid hG
    clear h' hM hA hN hG
    by_cases hlt : k < l.length
    · obtain ⟨b, off, cc, he, hb, hc⟩ := (HV.out.fr HM.out.fr HS.out).at (by omega)
      injection he with he1 he2 he3
      subst he1
      have k1 : wr.cell? ⟨b, off + k * 2, none⟩ = some (.int .u64 l[k].1) := by have h := hc k hlt 0 _ rfl; rw [Nat.add_zero] at h; exact h
      have k2 : wr.cell? ⟨b, off + k * 2 + 1, none⟩ = some (.string l[k].2) := by have h := hc k hlt 1 _ rfl; rw [← Nat.add_assoc] at h; exact h
      clear hc hb he2 he3
      have HDR : Hid (l.drop k = l[k] :: l.drop (k + 1)) := List.drop_eq_getElem_cons hlt
      obtain ⟨n, hn⟩ : ∃ n, l[k] = n := ⟨_, rfl⟩
      rw [hn] at k1 k2 HDR
      clear hn
      go_wp2_with fail
      have hB1 := below_allocC wr (.cells #[.int .u64 n.1, .string n.2] 35)
      have n1 : (wr.alloc (.cells #[.int .u64 n.1, .string n.2] 35)).cell? ⟨wr.heap.size, 0, none⟩ = some (.int .u64 n.1) := by simp
      have n2 : (wr.alloc (.cells #[.int .u64 n.1, .string n.2] 35)).cell? ⟨wr.heap.size, 1, none⟩ = some (.string n.2) := by simp
      have H1 := Lib.hid (H'.out.below hB1)
      have HB1 := Lib.hid hB1
      generalize hwa : wr.alloc (.cells #[.int .u64 n.1, .string n.2] 35) = wa at *
      clear hB1 k1 k2 hwa
      refine (of_rnd r m L' n.1 _ H1.out).mono ?_
      rintro e w2 ⟨rfl, hw2⟩
      subst hw2
      unfold ptrR
      cases hg : U.getL L' n.1 with
      | none =>
        simp only [Option.map_none]
        have HE := Lib.hid (show takeE (absR L') n = none by unfold takeE; rw [getL_absR, hg]; rfl)
        clear hg
        go_wp2_with fail
        go_quiet (fail)
        go_wp2_with fail
        go_roundg (gk - 1)
        case rel => exact ⟨k + 1, L', cn, by omega, rfl, by go_num, H1.out.below (below_drewN (Below.refl _ _) _), HM.out.trans (.below m L' (below_drewN HB1.out _)), HG'.out, by
          have := HA.out; rw [HDR.out] at this; unfold takeA take1 at this; rwa [HE.out] at this, by
          have := HN.out; rw [HDR.out] at this; unfold takeN take1 at this; rw [HE.out] at this; simpa using this, by omega⟩
        case measure => omega
      | some x =>
        simp only [Option.map_some]
        have HX := Lib.hid hg
        have hx := (H1.out.at hg).2
        have hlk := fun q => hx.look (y := w2.drewN q) rfl n
        have b1 := hx.c1
        unfold outV at hlk
        cases ho : getL x.out n with
        | none =>
          have HE := Lib.hid (show takeE (absR L') n = none by unfold takeE; rw [getL_absR, hg]; simp only [Option.map_some, Option.bind_some]; unfold abO; rw [getL_mapC, ho]; rfl)
          rw [ho] at hlk
          simp only [Option.map_none, Option.getD_none] at hlk
          clear hg ho hx
          go_wp2_with fail
          go_quiet (fail)
          go_wp2_with fail
          go_roundg (gk - 1)
          case rel => exact ⟨k + 1, L', cn, by omega, rfl, by go_num, H1.out.below (below_drewN (Below.refl _ _) _), HM.out.trans (.below m L' (below_drewN HB1.out _)), HG'.out, by
            have := HA.out; rw [HDR.out] at this; unfold takeA take1 at this; rwa [HE.out] at this, by
            have := HN.out; rw [HDR.out] at this; unfold takeN take1 at this; rw [HE.out] at this; simpa using this, by omega⟩
          case measure => omega
        | some cr =>
          have HE := Lib.hid (show takeE (absR L') n = some (abO x, cr.l) by unfold takeE; rw [getL_absR, hg]; simp only [Option.map_some, Option.bind_some]; unfold abO; rw [getL_mapC, ho]; rfl)
          rw [ho] at hlk
          have HO := Lib.hid ho
          have hcr := hx.out _ (getL_mem' ho)
          have hne := hx.outn _ (getL_mem' ho)
          obtain ⟨ca, cc2, cl⟩ := cr
          simp only [Option.map_some, Option.getD_some, evC] at hlk
          cases ca with
          | none => exact absurd rfl hne
          | some ca =>
            clear hg ho hx hne hcr
            go_wp2_with fail
            go_quiet (fail)
            have HXX := Lib.hid ((H1.out.at HX.out).2)
            have H2 := Lib.hid (H1.out.below (below_drewN (Below.refl _ _) nq))
            have HB2 := Lib.hid (below_drewN HB1.out nq)
            have HX2 := Lib.hid ((H2.out.at HX.out).2)
            have p1 : (w2.drewN nq).cell? ⟨wr.heap.size, 0, none⟩ = some (.int .u64 n.1) := n1
            have p2 : (w2.drewN nq).cell? ⟨wr.heap.size, 1, none⟩ = some (.string n.2) := n2
            generalize w2.drewN nq = w3 at *
            clear n1 n2 hlk b1 HXX H1 HB1
            go_upto_region 6 with fail
            have HCL := Lib.hid (HX2.out.out _ (getL_mem' HO.out))
            have HGX := Lib.hid (H2.out.good HG'.out HX.out)
            have HLL := Lib.hid (show cl.length ≤ 1000000 from Nat.le_trans (mayC_sc ((HGX.out.may (n, cl) (List.mem_map.2 ⟨_, getL_mem' HO.out, rfl⟩)).1)).len (by decide))
            have hws : wr.heap.size < w3.heap.size := World.block_lt_of_cell? _ _ p1
            have hx0 := (H'.out.at HX.out).2.lt
            refine wp_region_held_drew (S := TakeS w3 x) (by kernel_rfl) (TakeS.start HX2.out) (fun hHeld => ?_)
            refine wpAnyH_take (i := 0) (oi := _) (v := ?_) (by rw [List.getElem?_toArray]; exact rfl) (by kernel_rfl) (by kernel_rfl) (by kernel_rfl) (by exact fun _ _ _ h => h) (Or.inl ⟨by rfl, ?_⟩) hHeld ?_
            rotate_left
            · (intro wX hSw; have z0 := (hSw.fr.cell (p := ⟨wr.heap.size, 0, none⟩) hws (by simp only; omega)).trans p1; have z1 := (hSw.fr.cell (p := ⟨wr.heap.size, 1, none⟩) hws (by simp only; omega)).trans p2; have z2 := hSw.c1; have z4 := hSw.look HX2.out HO.out; clear hSw; go_simp; try with_reducible rfl)
            try simp only [Act.put, List.setIfInBounds_toArray, List.set_cons_zero, List.set_cons_succ]
            refine wpAnyH_take (i := 1) (oi := _) (v := ?_) (by rw [List.getElem?_toArray]; exact rfl) (by kernel_rfl) (by kernel_rfl) (by kernel_rfl) (by exact fun _ _ _ h => h) (Or.inl ⟨by rfl, ?_⟩) hHeld ?_
            rotate_left
            · (intro wX hSw; have z0 := (hSw.fr.cell (p := ⟨wr.heap.size, 0, none⟩) hws (by simp only; omega)).trans p1; have z1 := (hSw.fr.cell (p := ⟨wr.heap.size, 1, none⟩) hws (by simp only; omega)).trans p2; have z2 := hSw.c1; have z4 := hSw.look HX2.out HO.out; clear hSw; go_simp; try with_reducible rfl)
            try simp only [Act.put, List.setIfInBounds_toArray, List.set_cons_zero, List.set_cons_succ]
            refine wpAnyH_take (i := 2) (oi := _) (v := ?_) (by rw [List.getElem?_toArray]; exact rfl) (by kernel_rfl) (by kernel_rfl) (by kernel_rfl) (by exact fun _ _ _ h => h) (Or.inl ⟨by rfl, ?_⟩) hHeld ?_
            rotate_left
            · (intro wX hSw; have z0 := (hSw.fr.cell (p := ⟨wr.heap.size, 0, none⟩) hws (by simp only; omega)).trans p1; have z1 := (hSw.fr.cell (p := ⟨wr.heap.size, 1, none⟩) hws (by simp only; omega)).trans p2; have z2 := hSw.c1; have z4 := hSw.look HX2.out HO.out; clear hSw; go_simp; try with_reducible rfl)
            try simp only [Act.put, List.setIfInBounds_toArray, List.set_cons_zero, List.set_cons_succ]
            refine wpAnyH_take (i := 3) (oi := _) (v := ?_) (by rw [List.getElem?_toArray]; exact rfl) (by kernel_rfl) (by kernel_rfl) (by kernel_rfl) (by exact fun _ _ _ h => h) (Or.inl ⟨by rfl, ?_⟩) hHeld ?_
            rotate_left
            · (intro wX hSw; have z0 := (hSw.fr.cell (p := ⟨wr.heap.size, 0, none⟩) hws (by simp only; omega)).trans p1; have z1 := (hSw.fr.cell (p := ⟨wr.heap.size, 1, none⟩) hws (by simp only; omega)).trans p2; have z2 := hSw.c1; have z4 := hSw.look HX2.out HO.out; clear hSw; go_simp; try with_reducible rfl)
            try simp only [Act.put, List.setIfInBounds_toArray, List.set_cons_zero, List.set_cons_succ]
            refine wpAnyH_take (i := 5) (oi := _) (v := ?_) (by rw [List.getElem?_toArray]; exact rfl) (by kernel_rfl) (by kernel_rfl) (by kernel_rfl) (by exact fun _ _ _ h => h) (Or.inl ⟨by rfl, ?_⟩) hHeld ?_
            rotate_left
            · (intro wX hSw; have z0 := (hSw.fr.cell (p := ⟨wr.heap.size, 0, none⟩) hws (by simp only; omega)).trans p1; have z1 := (hSw.fr.cell (p := ⟨wr.heap.size, 1, none⟩) hws (by simp only; omega)).trans p2; have z2 := hSw.c1; have z4 := hSw.look HX2.out HO.out; clear hSw; go_simp; try with_reducible rfl)
            try simp only [Act.put, List.setIfInBounds_toArray, List.set_cons_zero, List.set_cons_succ]
            refine wpAnyH_take (i := 6) (oi := _) (v := ?_) (by rw [List.getElem?_toArray]; exact rfl) (by kernel_rfl) (by kernel_rfl) (by kernel_rfl) (by exact fun _ _ _ h => h) (Or.inl ⟨by rfl, ?_⟩) hHeld ?_
            rotate_left
            · (intro wX hSw; have z0 := (hSw.fr.cell (p := ⟨wr.heap.size, 0, none⟩) hws (by simp only; omega)).trans p1; have z1 := (hSw.fr.cell (p := ⟨wr.heap.size, 1, none⟩) hws (by simp only; omega)).trans p2; have z2 := hSw.c1; have z4 := hSw.look HX2.out HO.out; clear hSw; go_simp; try with_reducible rfl)
            try simp only [Act.put, List.setIfInBounds_toArray, List.set_cons_zero, List.set_cons_succ]
            refine wpAnyH_take (i := 7) (oi := _) (v := ?_) (by rw [List.getElem?_toArray]; exact rfl) (by kernel_rfl) (by kernel_rfl) (by kernel_rfl) (by exact fun _ _ _ h => h) (Or.inl ⟨by rfl, ?_⟩) hHeld ?_
            rotate_left
            · (intro wX hSw; have z0 := (hSw.fr.cell (p := ⟨wr.heap.size, 0, none⟩) hws (by simp only; omega)).trans p1; have z1 := (hSw.fr.cell (p := ⟨wr.heap.size, 1, none⟩) hws (by simp only; omega)).trans p2; have z2 := hSw.c1; have z4 := hSw.look HX2.out HO.out; clear hSw; go_simp; try with_reducible rfl)
            try simp only [Act.put, List.setIfInBounds_toArray, List.set_cons_zero, List.set_cons_succ]
            refine wpAnyH_take (i := 8) (oi := _) (v := ?_) (by rw [List.getElem?_toArray]; exact rfl) (by kernel_rfl) (by kernel_rfl) (by kernel_rfl) (by exact fun _ _ _ h => h) (Or.inl ⟨by rfl, ?_⟩) hHeld ?_
            rotate_left
            · (intro wX hSw; have z0 := (hSw.fr.cell (p := ⟨wr.heap.size, 0, none⟩) hws (by simp only; omega)).trans p1; have z1 := (hSw.fr.cell (p := ⟨wr.heap.size, 1, none⟩) hws (by simp only; omega)).trans p2; have z2 := hSw.c1; have z4 := hSw.look HX2.out HO.out; clear hSw; go_simp; try with_reducible rfl)
            try simp only [Act.put, List.setIfInBounds_toArray, List.set_cons_zero, List.set_cons_succ]
            refine wpAnyH_take (i := 9) (oi := _) (v := ?_) (by rw [List.getElem?_toArray]; exact rfl) (by kernel_rfl) (by kernel_rfl) (by kernel_rfl) (by exact fun _ _ _ h => h) (Or.inl ⟨by rfl, ?_⟩) hHeld ?_
            rotate_left
            · (intro wX hSw; have z0 := (hSw.fr.cell (p := ⟨wr.heap.size, 0, none⟩) hws (by simp only; omega)).trans p1; have z1 := (hSw.fr.cell (p := ⟨wr.heap.size, 1, none⟩) hws (by simp only; omega)).trans p2; have z2 := hSw.c1; have z4 := hSw.look HX2.out HO.out; clear hSw; go_simp; try with_reducible rfl)
            try simp only [Act.put, List.setIfInBounds_toArray, List.set_cons_zero, List.set_cons_succ]
            refine wpAnyH_take (i := 10) (oi := _) (v := ?_) (by rw [List.getElem?_toArray]; exact rfl) (by kernel_rfl) (by kernel_rfl) (by kernel_rfl) (by exact fun _ _ _ h => h) (Or.inl ⟨by rfl, ?_⟩) hHeld ?_
            rotate_left
            · (intro wX hSw; have z0 := (hSw.fr.cell (p := ⟨wr.heap.size, 0, none⟩) hws (by simp only; omega)).trans p1; have z1 := (hSw.fr.cell (p := ⟨wr.heap.size, 1, none⟩) hws (by simp only; omega)).trans p2; have z2 := hSw.c1; have z4 := hSw.look HX2.out HO.out; clear hSw; go_simp; try with_reducible rfl)
            try simp only [Act.put, List.setIfInBounds_toArray, List.set_cons_zero, List.set_cons_succ]
            refine wpAnyH_ready (rs := [4]) (by kernel_rfl) (by simp) ?_
            refine AllReadyH.cons (o := _) (by rw [List.getElem?_toArray]; exact rfl) (fun K hK => ?_) ?_
            · have y0 := HX2.out.c0
              go_simp
              refine hK.out _ _ (hHeld) (fun hHeld => ?_)
              clear hK K
              try simp only [Act.put, List.setIfInBounds_toArray, List.set_cons_zero, List.set_cons_succ]
              refine wpAnyH_ready (rs := [11]) (by kernel_rfl) (by simp) ?_
              refine AllReadyH.cons (o := _) (by rw [List.getElem?_toArray]; exact rfl) (fun K hK => ?_) ?_
              · go_simp
                refine hK.out _ _ (hHeld.alloc HX2.out _) (fun hHeld => ?_)
                clear hK K
                try simp only [Act.put, List.setIfInBounds_toArray, List.set_cons_zero, List.set_cons_succ]
                refine wpAnyH_ready (rs := [12]) (by kernel_rfl) (by simp) ?_
                refine AllReadyH.cons (o := _) (by rw [List.getElem?_toArray]; exact rfl) (fun K hK => ?_) ?_
                · go_simp
                  refine (add_two x.held.l cl _ _ w3 HX2.out.held HCL.out (Nat.le_trans HGX.out.len (by decide)) HLL.out).mono ?_; rintro e w4 ⟨v, rfl, hov, hB⟩; obtain ⟨va, vc, rfl⟩ := COwn.slice hov; have HOV := Lib.hid (show CrOk w4 ⟨va, vc, (addL [x.held.l, cl]).2⟩ from owns_low hov (Nat.zero_le _)); have HB4 := Lib.hid (add_below hB); clear hov hB
                  go_wp2_with fail
                  refine hK.out _ _ (TakeS.below HX2.out HB4.out) (fun hHeld => ?_)
                  clear hK K
                  try simp only [Act.put, List.setIfInBounds_toArray, List.set_cons_zero, List.set_cons_succ]
                  refine wpAnyH_take (i := 13) (oi := _) (v := ?_) (by rw [List.getElem?_toArray]; exact rfl) (by kernel_rfl) (by kernel_rfl) (by kernel_rfl) (by exact fun _ _ _ h => h) (Or.inl ⟨by rfl, ?_⟩) hHeld ?_
                  rotate_left
                  · (intro wX hSw; have z0 := (hSw.fr.cell (p := ⟨wr.heap.size, 0, none⟩) hws (by simp only; omega)).trans p1; have z1 := (hSw.fr.cell (p := ⟨wr.heap.size, 1, none⟩) hws (by simp only; omega)).trans p2; have z2 := hSw.c1; have z4 := hSw.look HX2.out HO.out; clear hSw; go_simp; try with_reducible rfl)
                  try simp only [Act.put, List.setIfInBounds_toArray, List.set_cons_zero, List.set_cons_succ]
                  refine wpAnyH_take (i := 14) (oi := _) (v := ?_) (by rw [List.getElem?_toArray]; exact rfl) (by kernel_rfl) (by kernel_rfl) (by kernel_rfl) (by exact fun _ _ _ h => h) (Or.inl ⟨by rfl, ?_⟩) hHeld ?_
                  rotate_left
                  · (intro wX hSw; have z0 := (hSw.fr.cell (p := ⟨wr.heap.size, 0, none⟩) hws (by simp only; omega)).trans p1; have z1 := (hSw.fr.cell (p := ⟨wr.heap.size, 1, none⟩) hws (by simp only; omega)).trans p2; have z2 := hSw.c1; have z4 := hSw.look HX2.out HO.out; clear hSw; go_simp; try with_reducible rfl)
                  try simp only [Act.put, List.setIfInBounds_toArray, List.set_cons_zero, List.set_cons_succ]
                  refine wpAnyH_take (i := 15) (oi := _) (v := ?_) (by rw [List.getElem?_toArray]; exact rfl) (by kernel_rfl) (by kernel_rfl) (by kernel_rfl) (by exact fun _ _ _ h => h) (Or.inl ⟨by rfl, ?_⟩) hHeld ?_
                  rotate_left
                  · (intro wX hSw; have z0 := (hSw.fr.cell (p := ⟨wr.heap.size, 0, none⟩) hws (by simp only; omega)).trans p1; have z1 := (hSw.fr.cell (p := ⟨wr.heap.size, 1, none⟩) hws (by simp only; omega)).trans p2; have z2 := hSw.c1; have z4 := hSw.look HX2.out HO.out; clear hSw; go_simp; try with_reducible rfl)
                  try simp only [Act.put, List.setIfInBounds_toArray, List.set_cons_zero, List.set_cons_succ]
                  refine wpAnyH_take (i := 16) (oi := _) (v := ?_) (by rw [List.getElem?_toArray]; exact rfl) (by kernel_rfl) (by kernel_rfl) (by kernel_rfl) (by exact fun _ _ _ h => h) (Or.inl ⟨by rfl, ?_⟩) hHeld ?_
                  rotate_left
                  · (intro wX hSw; have z0 := (hSw.fr.cell (p := ⟨wr.heap.size, 0, none⟩) hws (by simp only; omega)).trans p1; have z1 := (hSw.fr.cell (p := ⟨wr.heap.size, 1, none⟩) hws (by simp only; omega)).trans p2; have z2 := hSw.c1; have z4 := hSw.look HX2.out HO.out; clear hSw; go_simp; try with_reducible rfl)
                  try simp only [Act.put, List.setIfInBounds_toArray, List.set_cons_zero, List.set_cons_succ]
                  refine wpAnyH_take (i := 17) (oi := _) (v := ?_) (by rw [List.getElem?_toArray]; exact rfl) (by kernel_rfl) (by kernel_rfl) (by kernel_rfl) (by exact fun _ _ _ h => h) (Or.inl ⟨by rfl, ?_⟩) hHeld ?_
                  rotate_left
                  · (intro wX hSw; have z0 := (hSw.fr.cell (p := ⟨wr.heap.size, 0, none⟩) hws (by simp only; omega)).trans p1; have z1 := (hSw.fr.cell (p := ⟨wr.heap.size, 1, none⟩) hws (by simp only; omega)).trans p2; have z2 := hSw.c1; have z4 := hSw.look HX2.out HO.out; clear hSw; go_simp; try with_reducible rfl)
                  try simp only [Act.put, List.setIfInBounds_toArray, List.set_cons_zero, List.set_cons_succ]
                  refine wpAnyH_ready (rs := [18]) (by kernel_rfl) (by simp) ?_
                  refine AllReadyH.cons (o := _) (by rw [List.getElem?_toArray]; exact rfl) (fun K hK => ?_) ?_
                  · have y0 := cell_keep HB4.out HX2.out.c0; have y1 := frozen_keep HB4.out HX2.out.lt.1 HX2.out.z
                    go_simp
                    refine hK.out _ _ (hHeld.store _) (fun hHeld => ?_)
                    clear hK K
                    try simp only [Act.put, List.setIfInBounds_toArray, List.set_cons_zero, List.set_cons_succ]
                    refine wpAnyH_done (by kernel_rfl) ?_ _
                    have HZ : Hid (TakeZ w3 x ⟨va, vc, (addL [x.held.l, cl]).2⟩ (w4.setCell ⟨x.b, 0, none⟩ (.slice va (addL [x.held.l, cl]).2.length vc))) := TakeZ.mk' HX2.out HB4.out HOV.out
                    have r1 := (HB4.out.cell (p := ⟨wr.heap.size, 0, none⟩) hws).trans p1
                    have r2 := (HB4.out.cell (p := ⟨wr.heap.size, 1, none⟩) hws).trans p2
                    have r1 := (World.cell?_of_block (Go.heap_setCell_other w4 ⟨x.b, 0, none⟩ _ (.slice va (addL [x.held.l, cl]).2.length vc) (show wr.heap.size ≠ x.b by omega))).trans r1
                    have r2 := (World.cell?_of_block (Go.heap_setCell_other w4 ⟨x.b, 0, none⟩ _ (.slice va (addL [x.held.l, cl]).2.length vc) (show wr.heap.size ≠ x.b by omega))).trans r2
                    have hwsz : wr.heap.size < (w4.setCell ⟨x.b, 0, none⟩ (.slice va (addL [x.held.l, cl]).2.length vc)).heap.size := World.block_lt_of_cell? _ _ r1
                    generalize hwz : (w4.setCell ⟨x.b, 0, none⟩ (.slice va (addL [x.held.l, cl]).2.length vc)) = wz at *
                    clear hHeld y0 y1 hwz
                    generalize (addL [x.held.l, cl]).2.length = vl
                    go_upto_region 7 with fail
                    have hxo : x.o < wz.heap.size := Nat.lt_of_lt_of_le HX2.out.lt.2 HZ.out.ts.fr.size
                    have hxb : x.b < wz.heap.size := Nat.lt_of_lt_of_le HX2.out.lt.1 HZ.out.ts.fr.size
                    have hne : ¬ x.b = x.o := HZ.out.ts.ne
                    have rb := HZ.out.ts.c1
                    refine wp_region_held_drew (S := fun y => Fr (fun i => i = x.o) wz y) (by kernel_rfl) ((Fr.refl _ _).drew) (fun hHeld => ?_)
                    refine wpAnyH_take (i := 0) (oi := _) (v := ?_) (by rw [List.getElem?_toArray]; exact rfl) (by kernel_rfl) (by kernel_rfl) (by kernel_rfl) (by exact fun _ _ _ h => h) (Or.inl ⟨by rfl, ?_⟩) hHeld ?_
                    rotate_left
                    · (intro wX hSw; have z0 := (hSw.cell (p := ⟨wr.heap.size, 0, none⟩) hwsz (by simp only; omega)).trans r1; have z1 := (hSw.cell (p := ⟨wr.heap.size, 1, none⟩) hwsz (by simp only; omega)).trans r2; have z2 := (hSw.cell (p := ⟨x.b, 1, none⟩) hxb hne).trans rb; clear hSw; go_simp; try with_reducible rfl)
                    try simp only [Act.put, List.setIfInBounds_toArray, List.set_cons_zero, List.set_cons_succ]
                    refine wpAnyH_take (i := 1) (oi := _) (v := ?_) (by rw [List.getElem?_toArray]; exact rfl) (by kernel_rfl) (by kernel_rfl) (by kernel_rfl) (by exact fun _ _ _ h => h) (Or.inl ⟨by rfl, ?_⟩) hHeld ?_
                    rotate_left
                    · (intro wX hSw; have z0 := (hSw.cell (p := ⟨wr.heap.size, 0, none⟩) hwsz (by simp only; omega)).trans r1; have z1 := (hSw.cell (p := ⟨wr.heap.size, 1, none⟩) hwsz (by simp only; omega)).trans r2; have z2 := (hSw.cell (p := ⟨x.b, 1, none⟩) hxb hne).trans rb; clear hSw; go_simp; try with_reducible rfl)
                    try simp only [Act.put, List.setIfInBounds_toArray, List.set_cons_zero, List.set_cons_succ]
                    refine wpAnyH_take (i := 2) (oi := _) (v := ?_) (by rw [List.getElem?_toArray]; exact rfl) (by kernel_rfl) (by kernel_rfl) (by kernel_rfl) (by exact fun _ _ _ h => h) (Or.inl ⟨by rfl, ?_⟩) hHeld ?_
                    rotate_left
                    · (intro wX hSw; have z0 := (hSw.cell (p := ⟨wr.heap.size, 0, none⟩) hwsz (by simp only; omega)).trans r1; have z1 := (hSw.cell (p := ⟨wr.heap.size, 1, none⟩) hwsz (by simp only; omega)).trans r2; have z2 := (hSw.cell (p := ⟨x.b, 1, none⟩) hxb hne).trans rb; clear hSw; go_simp; try with_reducible rfl)
                    try simp only [Act.put, List.setIfInBounds_toArray, List.set_cons_zero, List.set_cons_succ]
                    refine wpAnyH_take (i := 3) (oi := _) (v := ?_) (by rw [List.getElem?_toArray]; exact rfl) (by kernel_rfl) (by kernel_rfl) (by kernel_rfl) (by exact fun _ _ _ h => h) (Or.inl ⟨by rfl, ?_⟩) hHeld ?_
                    rotate_left
                    · (intro wX hSw; have z0 := (hSw.cell (p := ⟨wr.heap.size, 0, none⟩) hwsz (by simp only; omega)).trans r1; have z1 := (hSw.cell (p := ⟨wr.heap.size, 1, none⟩) hwsz (by simp only; omega)).trans r2; have z2 := (hSw.cell (p := ⟨x.b, 1, none⟩) hxb hne).trans rb; clear hSw; go_simp; try with_reducible rfl)
                    try simp only [Act.put, List.setIfInBounds_toArray, List.set_cons_zero, List.set_cons_succ]
                    refine wpAnyH_take (i := 4) (oi := _) (v := ?_) (by rw [List.getElem?_toArray]; exact rfl) (by kernel_rfl) (by kernel_rfl) (by kernel_rfl) (by exact fun _ _ _ h => h) (Or.inl ⟨by rfl, ?_⟩) hHeld ?_
                    rotate_left
                    · (intro wX hSw; have z0 := (hSw.cell (p := ⟨wr.heap.size, 0, none⟩) hwsz (by simp only; omega)).trans r1; have z1 := (hSw.cell (p := ⟨wr.heap.size, 1, none⟩) hwsz (by simp only; omega)).trans r2; have z2 := (hSw.cell (p := ⟨x.b, 1, none⟩) hxb hne).trans rb; clear hSw; go_simp; try with_reducible rfl)
                    try simp only [Act.put, List.setIfInBounds_toArray, List.set_cons_zero, List.set_cons_succ]
                    refine wpAnyH_ready (rs := [5]) (by kernel_rfl) (by simp) ?_
                    refine AllReadyH.cons (o := _) (by rw [List.getElem?_toArray]; exact rfl) (fun K hK => ?_) ?_
                    · obtain ⟨w7, hrun7, hM7, hO7, _⟩ := (HX2.out.map.block (w' := wz.drew) (HZ.out.ts.fr.block _ HX2.out.lt.2 (fun e => hne e.symm))).delete (P := Try.prog) nameTy Try.underlying33 n 0
                      unfold encN at hrun7
                      go_simp
                      refine hK.out _ _ (hHeld.only hO7 rfl) (fun hHeld => ?_)
                      clear hK K
                      try simp only [Act.put, List.setIfInBounds_toArray, List.set_cons_zero, List.set_cons_succ]
                      refine wpAnyH_done (by kernel_rfl) ?_ _
                      have HT := Lib.hid (HZ.out.done HX2.out H2.out HX.out hO7 hM7)
                      clear hHeld hM7 hO7 hrun7 HZ HCL
                      go_wp2_with fail
                      go_roundg (gk - 1)
                      case rel => exact ⟨k + 1, _, cn + 1, by omega, by go_num, by go_num, HT.out.1, (HM.out.trans (.below m L' HB2.out)).trans HT.out.2, by rw [take_abs HE.out]; exact HG'.out.take1 n, by
                        have := HA.out; rw [HDR.out] at this; unfold takeA at this; rwa [take_abs HE.out], by
                        have := HN.out; rw [HDR.out] at this; unfold takeN at this; rw [HE.out] at this; simp only [Option.isSome_some, if_true] at this; rw [take_abs HE.out]; omega, by omega⟩
                      case measure => omega
                    exact AllReadyH.nil
                  exact AllReadyH.nil
                exact AllReadyH.nil
              exact AllReadyH.nil
            exact AllReadyH.nil
    · have hd : l.drop k = [] := List.drop_eq_nil_of_le (by omega)
      have hA2 := HA.out
      have hN2 := HN.out
      rw [hd] at hA2 hN2
      have HE := Lib.hid (show cn = DN from hN2)
      have HX := Lib.hid (show absR L' = DA from hA2)
      clear hA2 hN2 hd
      go_wp2_with fail
      go_ret
      exact ⟨ret_intE (by rw [HE.out]), L', HX.out, H'.out, HM.out⟩
end Go.Proofs.Ytenebamecmblaaa
