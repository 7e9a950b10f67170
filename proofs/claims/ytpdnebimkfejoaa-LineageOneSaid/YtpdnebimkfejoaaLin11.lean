/- Waits; Rows; Within; Lost. -/
import Derived.Test.YtpdnebimkfejoaaLin10
namespace Go.Proofs.Ytpdnebimkfejoaa
open Go.RowKit Go.Sort Go.Lib

theorem pick_len (T : Tb) (P : Nm → Rw → Bool) : (sortV (pick T P)).length ≤ T.length := by
  rw [(sortV_perm _).length_eq]; exact List.length_filter_le _ _
theorem pick_mem {T : Tb} {P : Nm → Rw → Bool} {p : Nm × Nat × Rw} (h : p ∈ sortV (pick T P)) : p ∈ T ∧ P p.1 p.2.2 = true := by
  have := (sortV_perm _).mem_iff.1 h
  unfold pick at this
  exact List.mem_filter.1 this
set_option maxHeartbeats 800000 in
set_option maxRecDepth 100000 in
theorem waits_tab (f m : Nat) (T : Tb) (w : World) (h : Tab w f m T) (hl : T.length ≤ 1000000) :
    Calls Try.prog 16 #[.pointer (some ⟨f, 0, none⟩)] w (NamesR ((sortV (pick T (fun _ r => decide (r.st = 1)))).map (·.1)) w) := by
  have HT := Lib.hid h
  clear h
  obtain ⟨S, hS⟩ : ∃ S : Tb, S = sortV (pick T (fun _ r => decide (r.st = 1))) := ⟨_, rfl⟩
  have HSS := Lib.hid hS
  rw [← hS]
  clear hS
  go_enter Try.func16, Try.ntmps16
  go_wp2_with fail
  refine (rowsWaits f m T w HT.out hl).mono ?_
  rintro e w2 ⟨v, rfl, ho, hB⟩
  rw [← HSS.out] at ho
  have HR := Lib.hid (reads_ptrs ho)
  have HB := Lib.hid hB
  have hln := pick_len T (fun _ r => decide (r.st = 1))
  rw [← HSS.out] at hln
  have HM := Lib.hid (show ∀ p ∈ S, w2.heap[p.2.1]? = some (rowO p.1 p.2.2) from fun p hp => ((HT.out.below HB.out).row p (pick_mem (HSS.out ▸ hp)).1).1)
  clear ho hB
  go_wp2_with fail
  refine (names_any S v w2 HR.out HM.out (by omega)).mono ?_
  rintro e w3 ⟨v3, rfl, ho, hB⟩
  have HO := Lib.hid ho
  have HB3 := Lib.hid (gthen HB.out hB)
  clear ho hB
  go_wp2_with fail
  go_ret
  exact ⟨_, rfl, owns_base HO.out HB.out.size, HB3.out⟩
set_option maxHeartbeats 800000 in
set_option maxRecDepth 100000 in
theorem rows_tab (f m : Nat) (T : Tb) (w : World) (h : Tab w f m T) (hl : T.length ≤ 1000000) (hargs : ∀ p ∈ T, p.2.2.args.length ≤ 1000000) :
    Calls Try.prog 13 #[.pointer (some ⟨f, 0, none⟩)] w (RowsR (rowsT (sortV T)) w) := by
  have HT := Lib.hid h
  have HAR := Lib.hid hargs
  clear h hargs
  obtain ⟨S, hS⟩ : ∃ S : Tb, S = sortV (pick T (fun _ _ => true)) := ⟨_, rfl⟩
  have HSS := Lib.hid hS
  rw [show sortV T = S by rw [hS, show pick T (fun _ _ => true) = T from List.filter_eq_self.2 (fun _ _ => rfl)]]
  clear hS
  go_enter Try.func13, Try.ntmps13
  go_wp2_with fail
  refine (rowsAll f m T w HT.out hl).mono ?_
  rintro e w2 ⟨v, rfl, ho, hB⟩
  rw [← HSS.out] at ho
  have HR := Lib.hid (reads_ptrs ho)
  have HB := Lib.hid hB
  have hln := pick_len T (fun _ _ => true)
  rw [← HSS.out] at hln
  have HM := Lib.hid (show ∀ p ∈ S, w2.heap[p.2.1]? = some (rowO p.1 p.2.2) ∧ Args w2 p.2.2 from fun p hp => (HT.out.below HB.out).row p (pick_mem (HSS.out ▸ hp)).1)
  have HA := Lib.hid (show ∀ p ∈ S, p.2.2.args.length ≤ 1000000 from fun p hp => HAR.out p (pick_mem (HSS.out ▸ hp)).1)
  clear ho hB
  go_wp2_with fail
  refine (all_any S v w2 HR.out HM.out (by omega) HA.out).mono ?_
  rintro e w3 ⟨v3, S3, rfl, ho, hc, ha, hB⟩
  have HO := Lib.hid ho
  have HC := Lib.hid hc
  have HA3 := Lib.hid ha
  have HB3 := Lib.hid (gthen HB.out hB)
  clear ho hB hc ha
  go_wp2_with fail
  go_ret
  exact ⟨_, S3, rfl, owns_base HO.out HB.out.size, HC.out, fun p hp => (HA3.out p hp).base HB.out.size, HB3.out⟩
set_option maxHeartbeats 800000 in
set_option maxRecDepth 100000 in
theorem within_tab (f m : Nat) (T : Tb) (n : Nm) (w : World) (h : Tab w f m T) (hl : T.length ≤ 1000000) (hargs : ∀ p ∈ T, p.2.2.args.length ≤ 1000000) (hz : ∀ p ∈ T, p.1.2.size ≤ 9223372036854775807) :
    Calls Try.prog 19 #[.pointer (some ⟨f, 0, none⟩), .agg #[.int .u64 n.1, .string n.2]] w (RowsR (rowsT (sortV (pick T (fun a _ => withinB T n a)))) w) := by
  have hA : Below w.heap.size w ((w.alloc (.cells #[.pointer (some ⟨f, 0, none⟩)] 25)).alloc (.cells #[.int .u64 n.1, .string n.2] 29)) := ((Below.refl _ _).alloc (Nat.le_refl _) _).alloc (by simp) _
  have b0 : ((w.alloc (.cells #[.pointer (some ⟨f, 0, none⟩)] 25)).alloc (.cells #[.int .u64 n.1, .string n.2] 29)).heap[w.heap.size]? = some (.cells #[.pointer (some ⟨f, 0, none⟩)] 25 (0, 0)) :=
    (((Below.refl (w.alloc (.cells #[.pointer (some ⟨f, 0, none⟩)] 25)).heap.size _).alloc (Nat.le_refl _) _).block _ (by simp)).trans (heap_alloc_new _ _)
  have b1 := heap_alloc_new (w.alloc (.cells #[.pointer (some ⟨f, 0, none⟩)] 25)) (.cells #[.int .u64 n.1, .string n.2] 29)
  rw [show (w.alloc (.cells #[.pointer (some ⟨f, 0, none⟩)] 25)).heap.size = w.heap.size + 1 by simp] at b1
  have HT := Lib.hid (h.below hA)
  have HAR := Lib.hid hargs
  have HZ := Lib.hid hz
  have HA := Lib.hid hA
  have HB0 := Lib.hid b0
  have HB1 := Lib.hid b1
  clear h hargs hz hA b0 b1
  obtain ⟨S, hS⟩ : ∃ S : Tb, S = sortV (pick T (fun a _ => withinB T n a)) := ⟨_, rfl⟩
  have HSS := Lib.hid hS
  rw [← hS]
  clear hS
  go_enter Try.func19, Try.ntmps19
  go_wp2_with fail
  generalize (w.alloc (.cells #[.pointer (some ⟨f, 0, none⟩)] 25)).alloc (.cells #[.int .u64 n.1, .string n.2] 29) = w1 at *
  have k0 : w1.cell? ⟨w.heap.size, 0, none⟩ = some (.pointer (some ⟨f, 0, none⟩)) := by have := HB0.out; simp [World.cell?, this]
  have k1 : w1.cell? ⟨w.heap.size + 1, 0, none⟩ = some (.int .u64 n.1) := by have := HB1.out; simp [World.cell?, this]
  have k2 : w1.cell? ⟨w.heap.size + 1, 1, none⟩ = some (.string n.2) := by have := HB1.out; simp [World.cell?, this]
  refine (rowsWithin f m T n w.heap.size (w.heap.size + 1) w1 HT.out hl HZ.out k0 k1 k2).mono ?_
  rintro e w2 ⟨v, rfl, ho, hB⟩
  rw [← HSS.out] at ho
  have HR := Lib.hid (reads_ptrs ho)
  have HB := Lib.hid hB
  have hln := pick_len T (fun a _ => withinB T n a)
  rw [← HSS.out] at hln
  have HM := Lib.hid (show ∀ p ∈ S, w2.heap[p.2.1]? = some (rowO p.1 p.2.2) ∧ Args w2 p.2.2 from fun p hp => (HT.out.below HB.out).row p (pick_mem (HSS.out ▸ hp)).1)
  have HP := Lib.hid (show ∀ p ∈ S, p.2.2.args.length ≤ 1000000 from fun p hp => HAR.out p (pick_mem (HSS.out ▸ hp)).1)
  clear ho hB k0 k1 k2 HB0 HB1
  go_wp2_with fail
  refine (all_any S v w2 HR.out HM.out (by omega) HP.out).mono ?_
  rintro e w3 ⟨v3, S3, rfl, ho, hc, ha, hB⟩
  have HO := Lib.hid ho
  have HC := Lib.hid hc
  have HA3 := Lib.hid ha
  have HB2 := Lib.hid (gthen HA.out HB.out)
  have HB3 := Lib.hid (gthen HB2.out hB)
  clear ho hB hc ha
  go_wp2_with fail
  go_ret
  exact ⟨_, S3, rfl, owns_base HO.out HB2.out.size, HC.out, fun p hp => (HA3.out p hp).base HB2.out.size, HB3.out⟩
def inB (done : List Nm) (n : Nm) : Bool := done.any (fun x => decide (x = n))
theorem inB_iff (done : List Nm) (n : Nm) : inB done n = true ↔ n ∈ done := by
  unfold inB; rw [List.any_eq_true]
  constructor
  · rintro ⟨x, hx, h⟩; rw [← of_decide_eq_true h]; exact hx
  · intro h; exact ⟨n, h, by simp⟩
theorem inB_snoc (done : List Nm) (n m : Nm) : inB (done ++ [n]) m = (inB done m || decide (n = m)) := by
  unfold inB; rw [List.any_append]; simp
/-- What is left behind a worker that is lost. -/
def freeR (r : Rw) : Rw := { r with st := 1, wk := 0, ep := 0 }
def freeT (T : Tb) (ns : List Nm) : Tb := T.map fun (p : Nm × Nat × Rw) => if inB ns p.1 then (p.1, p.2.1, freeR p.2.2) else p
def lostT (T : Tb) (ks : List Int) : Tb := T.map fun p => if lostB ks p.2.2 then (p.1, p.2.1, freeR p.2.2) else p
theorem freeT_nil (T : Tb) : freeT T [] = T := by unfold freeT inB; simp
theorem freeT_len (T : Tb) (ns : List Nm) : (freeT T ns).length = T.length := by unfold freeT; simp
theorem freeT_keys (T : Tb) (ns : List Nm) : (freeT T ns).map (·.1) = T.map (·.1) := by
  unfold freeT; rw [List.map_map]
  apply List.map_congr_left
  intro p _; simp only [Function.comp]; split <;> rfl
theorem freeT_rows {T : Tb} {ns : List Nm} {i : Nat} (h : InRows (freeT T ns) i) : InRows T i := by
  obtain ⟨p, hp, he⟩ := h
  unfold freeT at hp
  obtain ⟨q, hq, rfl⟩ := List.mem_map.1 hp
  refine ⟨q, hq, ?_⟩
  revert he; split <;> exact id
theorem freeT_get {T : Tb} {ns : List Nm} {n : Nm} {b : Nat} {r : Rw} (h : getL T n = some (b, r)) (hn : n ∉ ns) : getL (freeT T ns) n = some (b, r) := by
  have hk : ∀ m, getL (freeT T ns) m = (getL T m).map fun p => (p.1, if inB ns m then freeR p.2 else p.2) := by
    intro m
    unfold getL freeT
    rw [List.find?_map]
    have : ((fun p : Nm × Nat × Rw => decide (p.1 = m)) ∘ fun p => if inB ns p.1 then (p.1, p.2.1, freeR p.2.2) else p) = fun p => decide (p.1 = m) := by
      funext p; simp only [Function.comp]; split <;> rfl
    rw [this]
    cases hf : T.find? (fun p => decide (p.1 = m)) with
    | none => rfl
    | some q =>
      have hq : q.1 = m := by simpa using List.find?_some hf
      subst hq
      simp only [Option.map_some]
      split <;> rfl
  have hn' : inB ns n = false := by
    cases hc : inB ns n
    · rfl
    · exact absurd ((inB_iff _ _).1 hc) hn
  rw [hk, h]; simp [hn']
theorem freeT_snoc {T : Tb} {ns : List Nm} {n : Nm} {b : Nat} {r : Rw} (hn : (T.map (·.1)).Nodup) (h : getL T n = some (b, r)) (hns : n ∉ ns) : updT (freeT T ns) n { r with st := 1, wk := 0, ep := 0 } = freeT T (ns ++ [n]) := by
  unfold updT freeT
  rw [List.map_map]
  apply List.map_congr_left
  intro p hp
  simp only [Function.comp]
  have hn' : inB ns n = false := by
    cases hc : inB ns n
    · rfl
    · exact absurd ((inB_iff _ _).1 hc) hns
  rw [inB_snoc]
  by_cases e : p.1 = n
  · have : p = (n, b, r) := eq_of_keyV hn hp (getL_mem' h) e
    subst this
    simp [hn', freeR]
  · have e' : ¬ n = p.1 := fun x => e x.symm
    cases hc : inB ns p.1
    · simp [e, e']
    · simp [e, e']
theorem freeT_all {T : Tb} {ks : List Int} (hn : (T.map (·.1)).Nodup) : freeT T ((sortV (pick T (fun _ r => lostB ks r))).map (·.1)) = lostT T ks := by
  unfold freeT lostT
  apply List.map_congr_left
  intro p hp
  have : p.1 ∈ (sortV (pick T (fun _ r => lostB ks r))).map (·.1) ↔ lostB ks p.2.2 = true := by
    constructor
    · intro h
      obtain ⟨q, hq, he⟩ := List.mem_map.1 h
      obtain ⟨h1, h2⟩ := pick_mem hq
      have := eq_of_keyV hn h1 hp he
      subst this; exact h2
    · intro h
      refine List.mem_map.2 ⟨p, (sortV_perm _).mem_iff.2 ?_, rfl⟩
      unfold pick
      exact List.mem_filter.2 ⟨hp, h⟩
  by_cases h : lostB ks p.2.2 = true
  · rw [if_pos ((inB_iff _ _).2 (this.2 h)), if_pos h]
  · rw [if_neg (fun x => h (this.1 ((inB_iff _ _).1 x))), if_neg h]
/-- What Lost answers. -/
def LostR (f m : Nat) (T : Tb) (ks : List Int) (w : World) (e : Ending) (w' : World) : Prop :=
  ∃ v, e = .returned v ∧ w'.ownsRow w.heap.size 29 2 v (sortV (pick T (fun _ r => lostB ks r))).length ((sortV (pick T (fun _ r => lostB ks r))).flatMap (fun p => encM p.1)) ∧ Tab w' f m (lostT T ks) ∧ Fr (InRows T) w w'
set_option maxHeartbeats 1600000 in
set_option maxRecDepth 100000 in
theorem lost_tab (f m : Nat) (T : Tb) (v : Value) (ks : List Int) (w : World) (h : Tab w f m T) (hl : T.length ≤ 1000000) (hv : ReadsK encI 1 w v ks) (hkl : ks.length ≤ 1000000) :
    Calls Try.prog 22 #[.pointer (some ⟨f, 0, none⟩), v] w (LostR f m T ks w) := by
  have hA : Below w.heap.size w (w.alloc (.cells #[v] 60)) := (Below.refl _ _).alloc (Nat.le_refl _) _
  have b0 := heap_alloc_new w (.cells #[v] 60)
  have hnd := h.keys
  have HT := Lib.hid (h.below hA)
  have HT0 := Lib.hid h
  have HA := Lib.hid hA
  have HB0 := Lib.hid b0
  have HV := Lib.hid (hv.below hA)
  obtain ⟨va, vc, rfl⟩ := hv.slice
  clear h hA b0 hv
  unfold LostR
  obtain ⟨S, hS⟩ : ∃ S : Tb, S = sortV (pick T (fun _ r => lostB ks r)) := ⟨_, rfl⟩
  have HSS := Lib.hid hS
  rw [← hS]
  clear hS
  go_enter Try.func22, Try.ntmps22
  go_wp2_with fail
  generalize w.alloc (.cells #[.slice va ks.length vc] 60) = w1 at *
  have k0 : w1.cell? ⟨w.heap.size, 0, none⟩ = some (.slice va ks.length vc) := by have := HB0.out; simp [World.cell?, this]
  refine (rowsLost f m T w.heap.size _ ks w1 HT.out hl k0 HV.out hkl).mono ?_
  rintro e w2 ⟨v, rfl, ho, hB⟩
  rw [← HSS.out] at ho
  have HO := Lib.hid ho
  have HB := Lib.hid (gthen HA.out hB)
  have hs1 := HA.out.size
  have hln := pick_len T (fun _ r => lostB ks r)
  rw [← HSS.out] at hln
  have HP := Lib.hid (show ∀ p ∈ S, p ∈ T from fun p hp => (pick_mem (HSS.out ▸ hp)).1)
  have HND := Lib.hid (show (S.map (·.1)).Nodup from HSS.out ▸ ((sortV_perm _).map (·.1)).nodup_iff.2 (hnd.sublist (List.filter_sublist.map _)))
  have HALL := Lib.hid (show freeT T (S.map (·.1)) = lostT T ks from HSS.out ▸ freeT_all (T := T) (ks := ks) hnd)
  obtain ⟨a0, c0, hv0⟩ := (reads_ptrs HO.out).slice
  subst hv0
  have HND0 := Lib.hid hnd
  clear ho hB k0 HV HB0 HT hnd
  go_wp2_with fail
  go_loopg [13] S.length (fun gk i wr => ∃ k : Nat, gk + k = S.length ∧ i = .int .i64 k ∧ Tab wr f m (freeT T ((S.take k).map (·.1))) ∧ Fr (InRows T) w wr ∧ wr.ownsRow w1.heap.size 69 1 (.slice a0 S.length c0) S.length (ptrs S))
  case atStart => exact ⟨0, by omega, rfl, by rw [List.take_zero, List.map_nil, freeT_nil]; exact HT0.out.below HB.out, .of_below HB.out, HO.out⟩
  case round =>
    obtain ⟨k, hk, rfl, hT, hF, hO⟩ := hrel
    have HTR := Lib.hid hT
    have HF := Lib.hid hF
    have HOR := Lib.hid hO
    clear hT hF hO
    by_cases hlt : k < S.length
    · obtain ⟨b, off, c, he, hb, hc⟩ := (reads_ptrs HOR.out).at (by omega)
      injection he with he1 he2 he3
      subst he1
      have hcc : wr.cell? ⟨b, off + k, none⟩ = some (evP S[k].2.1) := by have h := hc k hlt 0 _ rfl; rw [Nat.mul_one, Nat.add_zero] at h; exact h
      have hmem := HP.out _ (List.getElem_mem hlt)
      have HX := Lib.hid (show (S.take (k + 1)).map (·.1) = (S.take k).map (·.1) ++ [S[k].1] by rw [List.take_succ_eq_append_getElem hlt, List.map_append]; rfl)
      have hnot : S[k].1 ∉ (S.take k).map (·.1) := by
        intro hx
        have h1 := HND.out
        rw [← List.take_append_drop k S, List.map_append, List.nodup_append] at h1
        exact h1.2.2 _ hx S[k].1 (List.mem_map.2 ⟨S[k], by rw [List.drop_eq_getElem_cons hlt]; exact List.mem_cons_self, rfl⟩) rfl
      generalize S[k] = p at *
      obtain ⟨n, bb, r⟩ := p
      simp only at hmem hcc HX hnot
      have hg := (getL_memV HND0.out n (bb, r)).2 hmem
      have hg2 := freeT_get hg hnot
      have hrow := (HTR.out.at hg2).1
      unfold evP at hcc
      have HROW := Lib.hid hrow
      have HG := Lib.hid hg
      have HG2 := Lib.hid hg2
      have HNOT := Lib.hid hnot
      have HMEM := Lib.hid hmem
      clear hc hb he2 he3 hrow hg hg2 hnot hmem
      go_wp2_with fail
      refine (to_any bb n r 1 0 0 wr HROW.out).mono ?_
      rintro e w3 ⟨rfl, hrow, hF3⟩
      have HT3 := Lib.hid (show Tab w3 f m (freeT T ((S.take (k + 1)).map (·.1))) by
        have h1 := HTR.out.set (r' := { r with st := 1, wk := 0, ep := 0 }) HG2.out hF3 hrow ⟨rfl, rfl, rfl⟩
        rw [freeT_snoc HND0.out HG.out HNOT.out, ← HX.out] at h1
        exact h1)
      have HF3 := Lib.hid (HF.out.trans (hF3.mono (fun i hi => ⟨_, HMEM.out, hi.symm⟩)))
      have HO3 : Hid (w3.ownsRow w1.heap.size 69 1 (.slice (some ⟨b, off, none⟩) S.length c0) S.length (ptrs S)) := by
        refine ⟨HOR.out.1, HOR.out.2.imp id ?_⟩
        rintro ⟨g, cap, cur, hv, h1, h2, h3⟩
        refine ⟨g, cap, cur, hv, h1, (hF3.block g (Array.getElem?_eq_some_iff.1 h2).1 (fun e => ?_)).trans h2, h3⟩
        have h4 := HROW.out
        rw [← e, h2] at h4
        unfold rowO at h4
        injection h4 with h4
        injection h4 with _ h4 _
        exact absurd h4 (by decide)
      clear hrow hF3 HTR HF HOR HROW HG HG2 HNOT HX hcc
      go_wp2_with fail
      go_roundg (gk - 1)
      case rel => exact ⟨k + 1, by omega, by go_num, HT3.out, HF3.out, HO3.out⟩
      case measure => omega
    · have hkl : k = S.length := by omega
      have HT3 := Lib.hid (show Tab wr f m (lostT T ks) by
        have h1 := HTR.out
        rw [hkl, List.take_length, HALL.out] at h1
        exact h1)
      have HRD := Lib.hid (show ReadsK encQ 1 wr (.slice a0 S.length c0) (S.map fun p => (p.1, p.2.1, freeR p.2.2)) by
        have h1 := reads_ptrs HOR.out
        rcases h1 with ⟨e, h2⟩ | ⟨b, off, cap, h2, h3, h4⟩
        · exact .inl ⟨by rw [e]; rfl, by simpa using h2⟩
        · refine .inr ⟨b, off, cap, by simpa using h2, h3, fun i hi t u hu => ?_⟩
          have hi' : i < S.length := by simpa using hi
          rw [List.getElem_map] at hu
          exact h4 i hi' t u hu)
      have HM := Lib.hid (show ∀ p ∈ S.map (fun p => (p.1, p.2.1, freeR p.2.2)), wr.heap[p.2.1]? = some (rowO p.1 p.2.2) by
        intro p hp
        obtain ⟨q, hq, rfl⟩ := List.mem_map.1 hp
        have h1 : (q.1, q.2.1, freeR q.2.2) ∈ freeT T ((S.take k).map (·.1)) := by
          unfold freeT
          refine List.mem_map.2 ⟨q, HP.out q hq, ?_⟩
          rw [if_pos]
          rw [hkl, List.take_length, inB_iff]
          exact List.mem_map.2 ⟨q, hq, rfl⟩
        exact (HTR.out.row _ h1).1)
      have hwl : w.heap.size ≤ wr.heap.size := HF.out.size
      clear hkl HTR HOR
      go_wp2_with fail
      refine (names_any (S.map fun p => (p.1, p.2.1, freeR p.2.2)) _ wr (by simpa using HRD.out) HM.out (by simp; omega)).mono ?_
      rintro e w4 ⟨v4, rfl, ho, hB⟩
      have HO4 := Lib.hid (show w4.ownsRow w.heap.size 29 2 v4 S.length (S.flatMap (fun p => encM p.1)) by
        have h1 := owns_base ho hwl
        rw [List.length_map, List.length_map, List.map_map, List.flatMap_map] at h1
        exact h1)
      have HT4 := Lib.hid (HT3.out.below hB)
      have HF4 := Lib.hid (HF.out.then hB)
      clear ho hB
      go_wp2_with fail
      go_ret
      exact ⟨_, rfl, HO4.out, HT4.out, HF4.out⟩
end Go.Proofs.Ytpdnebimkfejoaa
