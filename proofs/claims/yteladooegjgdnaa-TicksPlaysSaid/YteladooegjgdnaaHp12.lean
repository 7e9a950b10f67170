/- Contracts: ticks.Timers.Stop, Next. -/
import Derived.Test.YteladooegjgdnaaHp11
namespace Go.Proofs.Yteladooegjgdnaa
open Go.RowKit Go.Sort Go.Lib

def stopL : List ByteArray → List Tm → List Tm
  | [], L => L
  | k :: ks, L => stopL ks (offT k L)
def stopN : List ByteArray → List Tm → Nat
  | [], _ => 0
  | k :: ks, L => (if hasT k L = true then 1 else 0) + stopN ks (offT k L)
theorem stopN_le : ∀ (ks : List ByteArray) (L : List Tm), stopN ks L ≤ ks.length
  | [], _ => Nat.le_refl _
  | k :: ks, L => by
    have := stopN_le ks (offT k L)
    unfold stopN
    split <;> simp <;> omega
theorem QL.keep {b kb : Nat} {rv rv' : Value} {w w' : World} (h : QL b rv w rv' w') (hb : kb ≠ b) (hr : rv.ownBlock ≠ some kb) (hk : kb < w.heap.size) (j : Nat) : w'.cell? ⟨kb, j, none⟩ = w.cell? ⟨kb, j, none⟩ :=
  h.fr.cell (p := ⟨kb, j, none⟩) hk (fun hs => hs.elim hb hr)
theorem Tms.lits {Z b : Nat} {rv : Value} {L : List Tm} {now : Int} {w : World} (h : Tms Z b rv L now w) : ∃ ra rc, rv = .slice ra L.length rc := by
  obtain ⟨l, h1, h2, _⟩ := h
  obtain ⟨ra, rc, e⟩ := own_slice h1.own
  exact ⟨ra, rc, by rw [← h2.perm.length_eq]; exact e⟩
set_option maxHeartbeats 12800000 in
set_option maxRecDepth 100000 in
theorem stop_any {Z b kb cap : Nat} {rv : Value} {L : List Tm} {now : Int} {w : World} (ks : List ByteArray) (h : Tms Z b rv L now w) (hks : ∀ j (hj : j < ks.length), w.cell? ⟨kb, j, none⟩ = some (.string ks[j])) (hb : kb ≠ b) (hr : rv.ownBlock ≠ some kb) (hm : ks.length ≤ 1000) :
    Calls Try.prog 17 #[TP b, .slice (some ⟨kb, 0, none⟩) ks.length cap] w fun e w' => e = .returned (.int .i64 (stopN ks L)) ∧ ∃ rv', Tms Z b rv' (stopL ks L) now w' ∧ QL b rv w rv' w' := by
  have HT := Lib.hid h
  clear h
  go_enter Try.func17, Try.ntmps17
  go_wp2_with fail
  go_loopg [4, 12] ks.length (fun gk t4 t12 wr => ∃ (j c : Nat) (rv' : Value) (L' : List Tm), gk + j = ks.length ∧ t12 = .int .i64 j ∧ t4 = .int .i64 c ∧ c ≤ j ∧ Hid (Tms Z b rv' L' now wr ∧ QL b rv w rv' wr ∧ stopL (ks.drop j) L' = stopL ks L ∧ c + stopN (ks.drop j) L' = stopN ks L))
  case atStart => exact ⟨0, 0, rv, L, by omega, rfl, rfl, by omega, HT.out, QL.refl _ _ _, rfl, by simp⟩
  case round =>
    clear HT
    obtain ⟨j, c, rv1, L1, hgj, rfl, rfl, hcj, HR⟩ := hrel
    by_cases hj : j < ks.length
    · have hkl : kb < w.heap.size := World.block_lt_of_cell? _ _ (hks j hj)
      have k0 : wr.cell? ⟨kb, j, none⟩ = some (.string ks[j]) := (HR.out.2.1.keep hb hr hkl j).trans (hks j hj)
      have hd : ks.drop j = ks[j] :: ks.drop (j + 1) := List.drop_eq_getElem_cons hj
      have HD := Lib.hid (show stopL (ks.drop (j + 1)) (offT ks[j] L1) = stopL ks L ∧ c + ((if hasT ks[j] L1 = true then 1 else 0) + stopN (ks.drop (j + 1)) (offT ks[j] L1)) = stopN ks L from by
        have h1 := HR.out.2.2
        rw [hd] at h1
        exact h1)
      clear hd
      obtain ⟨l, hq, ht, hll⟩ := HR.out.1
      have H0 := Lib.hid hq
      have HO := Lib.hid ht
      have HLN := Lib.hid (show l.length ≤ 1024 by rw [ht.perm.length_eq]; exact hll)
      have HLL := Lib.hid hll
      have HQL := Lib.hid HR.out.2.1
      clear hq ht hll HR
      generalize ks[j] = key at *
      have q1 : IntKind.i64.wrap ((c : Int) + 1) = ((c + 1 : Nat) : Int) := by rw [IntWalk.i64_in _ (by omega)]; omega
      go_wp2_with fail
      refine (find_any key H0.out (by have := HLN.out; omega)).mono ?_
      rintro e w2 ⟨⟨r, rfl, hF⟩, hB⟩
      have H2 := Lib.hid (H0.out.below hB)
      have HQ2 := Lib.hid (HQL.out.below hB)
      clear hB k0 H0 HQL
      rcases hF with ⟨rfl, hno⟩ | ⟨i, hi, rfl, hik⟩
      · have HNO := Lib.hid (find_none HO.out hno)
        clear hno
        go_wp2_with fail
        go_roundg (gk - 1)
        case rel => exact ⟨j + 1, c, rv1, L1, by omega, by go_num, rfl, by omega, ⟨l, H2.out, HO.out, HLL.out⟩, HQ2.out, by have := HD.out.1; rwa [off_self HNO.out] at this, by have := HD.out.2; rw [off_self HNO.out, hasT_not HNO.out, if_neg (by simp), Nat.zero_add] at this; exact this⟩
        case measure => omega
      · have HI := Lib.hid hi
        have HIK := Lib.hid hik
        obtain ⟨n, hn⟩ : ∃ n, l.length = n + 1 := ⟨l.length - 1, by omega⟩
        have HN := Lib.hid hn
        have i0 : (0 : Int) ≤ i := by omega
        clear hi hik hn
        go_wp2_with fail
        refine (hrem_any H2.out HN.out HI.out (by have := HN.out; have := HLN.out; omega)).mono ?_
        rintro e w4 ⟨rfl, rv4, h4, hL4⟩
        have H4 := Lib.hid h4
        have HL4 := Lib.hid hL4
        clear h4 hL4
        go_wp2_with fail
        go_roundg (gk - 1)
        case rel =>
          have hrem := HO.out.rem HN.out HI.out
          rw [HIK.out] at hrem
          exact ⟨j + 1, c + 1, rv4, offT key L1, by omega, by go_num, by first | rfl | (rw [q1]) | go_num, by omega, ⟨_, H4.out, hrem, Nat.le_trans (offT_le _ _) HLL.out⟩, HQ2.out.trans HL4.out, HD.out.1, by have := HD.out.2; rw [hasT_iff.2 (find_some HO.out HI.out HIK.out), if_pos rfl] at this; omega⟩
        case measure => omega
    · have hje : j = ks.length := by omega
      have HX := Lib.hid (show Tms Z b rv1 (stopL ks L) now wr ∧ QL b rv w rv1 wr ∧ c = stopN ks L from by
        have h1 := HR.out
        rw [List.drop_of_length_le (by omega)] at h1
        refine ⟨by rw [← h1.2.2.1]; exact h1.1, h1.2.1, ?_⟩
        have := h1.2.2.2
        simpa [stopN] using this)
      clear HR
      go_wp2_with fail
      go_ret
      exact ⟨by rw [HX.out.2.2]; rfl, _, HX.out.1, HX.out.2.1⟩
theorem next_end {wz : World} {tmps : Array Value} {a b v : Value} {r : Nat} {Q : Ending → World → Prop} (h2 : tmps.getD 2 undef = .pointer (some ⟨r, 0, none⟩)) (h3 : tmps.getD 3 undef = v)
    (c0 : wz.cell? ⟨r, 0, none⟩ = some a) (c1 : wz.cell? ⟨r, 1, none⟩ = some b) (hQ : Q (.returned (.tuple #[.agg #[a, b], v])) wz) :
    bodyPost Try.prog Try.f20 Q Exit.ret { tmps := tmps, defers := [] } wz := by
  refine bodyPost_ret (v := .tuple #[.agg #[a, b], v]) ?_ rfl hQ
  have h2' : tmps[2]?.getD undef = .pointer (some ⟨r, 0, none⟩) := by simpa using h2
  have h3' : tmps[3]?.getD undef = v := by simpa using h3
  simp [results, Try.results20, go_sem, h2', h3', c0, c1]
def nextV (L : List Tm) : Value := .tuple #[match L with | [] => .agg #[.string ⟨#[]⟩, .int .i64 0] | x :: _ => .agg #[.string x.k, .int .i64 x.a], .bool (!L.isEmpty)]
set_option maxHeartbeats 6400000 in
set_option maxRecDepth 100000 in
theorem next_any {Z b : Nat} {rv : Value} {L : List Tm} {now : Int} {w : World} (h : Tms Z b rv L now w) :
    Calls Try.prog 20 #[TP b] w fun e w' => e = .returned (nextV L) ∧ Below w.heap.size w w' := by
  obtain ⟨l, hq, ht, hll⟩ := h
  have hlen := ht.perm.length_eq
  obtain ⟨ra, rc, rfl⟩ := own_slice hq.own
  rw [hlen] at hq
  obtain ⟨x0, x1, x2⟩ := hq.cell
  have hbl := World.block_lt_of_cell? _ _ x0
  have HA := Lib.hid (alT w (.cells #[.string ⟨#[]⟩, .int .i64 0] TmT))
  have hal : ∀ o : Obj, (w.alloc o).cell? ⟨b, 0, none⟩ = some (.slice ra L.length rc) := fun o => ((alT w o).cell hbl).trans x0
  cases L with
  | nil =>
    clear hlen hq ht hll
    simp only [List.length_nil] at x0 hal
    go_enter Try.func20, Try.ntmps20
    go_wp2_with fail
    refine (rlen_any _ _ _ _).mono ?_
    rintro e w2 ⟨rfl, rfl⟩
    go_wp2_with fail
    exact next_end (r := w.heap.size) rfl rfl (by simp [go_sem]) (by simp [go_sem]) ⟨rfl, HA.out⟩
  | cons x L' =>
    have h0 : 0 < l.length := by rw [hlen]; simp
    obtain ⟨L2, hL2⟩ := ht.first h0
    injection hL2 with hx _
    have hol := hq.own
    have hlit := hol
    rw [← hlen] at hol
    obtain ⟨g, hg⟩ : ∃ g, ra = some ⟨g, 0, none⟩ := by
      obtain ⟨_, ⟨hv, h0'⟩ | ⟨g, c', cur, hv, _⟩⟩ := hol
      · omega
      · injection hv with e1 _ _
        exact ⟨g, e1⟩
    subst hg
    obtain ⟨c0, c1⟩ := tm_at hol rfl h0
    have hx0 : l[0] = x := by
      rw [hx]; unfold gT
      rw [List.getD_eq_getElem?_getD, List.getElem?_eq_getElem h0]; rfl
    rw [hx0] at c0 c1
    simp only [Nat.zero_mul, Nat.zero_add] at c0 c1
    obtain ⟨N, hN⟩ : ∃ N, (x :: L').length = N := ⟨_, rfl⟩
    rw [hN] at x0 hal
    have hNp : 0 < N := by rw [← hN]; simp
    have n0 : ((N : Int) == 0) = false := by rw [beq_eq_false_iff_ne]; omega
    have n1 : (0 : Int) < N := by omega
    have hgl := World.block_lt_of_cell? _ _ c0
    have hal0 : ∀ o : Obj, (w.alloc o).cell? ⟨g, 0, none⟩ = some (.string x.k) := fun o => ((alT w o).cell hgl).trans c0
    have hal1 : ∀ o : Obj, (w.alloc o).cell? ⟨g, 1, none⟩ = some (.int .i64 x.a) := fun o => ((alT w o).cell (p := ⟨g, 1, none⟩) hgl).trans c1
    clear hlen hq ht hll hx hol hlit hx0 hN h0
    go_enter Try.func20, Try.ntmps20
    go_wp2_with fail
    refine (rlen_any _ _ _ _).mono ?_
    rintro e w2 ⟨rfl, rfl⟩
    go_wp2_with fail
    have hB : Below w.heap.size w (w.alloc (.cells #[.string x.k, .int .i64 x.a] TmT)) := alT w _
    exact next_end (r := w.heap.size) rfl rfl (by simp [go_sem]) (by simp [go_sem]) ⟨rfl, by first | exact hB | (simp [go_sem]; exact hB)⟩
end Go.Proofs.Yteladooegjgdnaa
