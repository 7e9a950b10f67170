/- Contracts: Owner, Allows of the document's fences. -/
import Derived.Test.YtbelafkklblidaaRefE3
namespace Go.Proofs.Ytbelafkklblidaa
open Go.RowKit Go.Sort Go.Lib

def stepO (n : Nm) (b : Option Gr) (g : Gr) : Option Gr := if decide (g.1.1 = n.1) && underS n.2 g.1.2 && (b.all fun x => decide (x.1.2.size < g.1.2.size)) then some g else b
def ownR (l : List Gr) (n : Nm) : Option Gr := if mayS n.2 then l.foldl (stepO n) none else none
theorem fold_next {l : List Gr} {k : Nat} (hk : k < l.length) (n : Nm) : (l.take (k + 1)).foldl (stepO n) none = stepO n ((l.take k).foldl (stepO n) none) l[k] := by
  rw [List.take_succ_eq_append_getElem hk, List.foldl_append]; rfl
theorem stepO_eq {n : Nm} {o : Option Gr} {g : Gr} {t : Bool} (h : (decide (g.1.1 = n.1) && underS n.2 g.1.2 && (o.all fun x => decide (x.1.2.size < g.1.2.size))) = t) : stepO n o g = if t then some g else o := by
  unfold stepO; rw [h]
/-- The best one so far, by its place. -/
def BestAt (l : List Gr) (b : Int) (o : Option Gr) : Prop := (b = -1 ∧ o = none) ∨ ∃ j, ∃ h : j < l.length, b = (j : Int) ∧ o = some l[j]

/-- What Owner keeps. -/
structure Uq (R r : Nat) (v : Value) (l : List Gr) (last : Int) (n : Nm) (w wr : World) : Prop where
  fen : RFen wr R r v l last
  low : Below w.heap.size w wr
  size : w.heap.size + 2 ≤ wr.heap.size
  n1 : wr.cell? ⟨w.heap.size, 0, none⟩ = some (.int .u64 n.1)
  n2 : wr.cell? ⟨w.heap.size, 1, none⟩ = some (.string n.2)
  res : wr.heap[w.heap.size + 1]? = some (.cells #[.int .u64 0, .string ⟨#[]⟩, .int .u64 0] 43 (0, 0))
theorem Uq.below {R r : Nat} {v : Value} {l : List Gr} {last : Int} {n : Nm} {w wr w1 : World} (h : Uq R r v l last n w wr) (hB : Below wr.heap.size wr w1) : Uq R r v l last n w w1 :=
  ⟨h.fen.below hB, h.low.trans (hB.mono h.low.size), Nat.le_trans h.size hB.size, cell_keep hB h.n1, cell_keep hB h.n2, (hB.block _ (by have := h.size; omega)).trans h.res⟩
theorem rowner_end {w wz : World} {tmps : Array Value} {g : Option Gr} {a b c : Value} {isb : Bool} {r : Nat}
    (hr : wz.heap[r]? = some (.cells #[a, b, c] 43 (0, 0))) (h4 : tmps.getD 4 undef = .pointer (some ⟨r, 0, none⟩)) (h5 : tmps.getD 5 undef = .bool isb)
    (hg : grV g = .agg #[a, b, c]) (hi : g.isSome = isb) (hB : Below w.heap.size w wz) :
    bodyPost Try.prog Try.f18 (fun e w' => e = Ending.returned (.tuple #[grV g, .bool g.isSome]) ∧ Below w.heap.size w w') Exit.ret { tmps := tmps, defers := [] } wz := by
  have c0 : wz.cell? ⟨r, 0, none⟩ = some a := by simp [World.cell?, hr]
  have c1 : wz.cell? ⟨r, 1, none⟩ = some b := by simp [World.cell?, hr]
  have c2 : wz.cell? ⟨r, 2, none⟩ = some c := by simp [World.cell?, hr]
  refine bodyPost_ret (v := .tuple #[.agg #[a, b, c], .bool isb]) ?_ rfl ⟨by rw [hg, hi], hB⟩
  have h4' : tmps[4]?.getD undef = .pointer (some ⟨r, 0, none⟩) := by simpa using h4
  have h5' : tmps[5]?.getD undef = .bool isb := by simpa using h5
  simp [results, Try.results18, go_sem, h4', h5', c0, c1, c2]

theorem runder_q (s r : ByteArray) (w : World) (hs : s.size ≤ 9223372036854775807) (hr : r.size ≤ 9223372036854775807) :
    Calls Try.prog 23 #[.string s, .string r] w fun e w' => e = .returned (.bool (underS s r)) ∧ w' = w := (runder_any s r w hs hr).mono fun _ _ ⟨h1, h2⟩ => ⟨h1, h2.symm⟩

set_option maxHeartbeats 3200000 in
set_option maxRecDepth 100000 in
theorem rowner_any (R r : Nat) (v : Value) (l : List Gr) (last : Int) (n : Nm) (w : World) (h : RFen w R r v l last) (hl : l.length ≤ 10000) (hzl : ∀ p ∈ l, p.1.2.size ≤ 9223372036854775807) (hs : n.2.size ≤ 9223372036854775807) :
    Calls Try.prog 18 #[.pointer (some ⟨r, 0, none⟩), .agg #[.int .u64 n.1, .string n.2]] w fun e w' =>
      e = .returned (.tuple #[grV (ownR l n), .bool (ownR l n).isSome]) ∧ Below w.heap.size w w' := by
  have hA : ∀ (w : World) o, Below w.heap.size w (w.alloc o) := fun w o => (Below.refl _ _).alloc (Nat.le_refl _) o
  have HA : Hid (Below w.heap.size w ((w.alloc (nmO n)).alloc (.cells #[.int .u64 0, .string ⟨#[]⟩, .int .u64 0] 43))) := (hA w _).trans ((hA _ _).mono (by simp))
  have HF := Lib.hid (h.below HA.out)
  have m1 : ((w.alloc (nmO n)).alloc (.cells #[.int .u64 0, .string ⟨#[]⟩, .int .u64 0] 43)).cell? ⟨w.heap.size, 0, none⟩ = some (.int .u64 n.1) := cell_keep (hA _ _) (by simp [nmO])
  have m2 : ((w.alloc (nmO n)).alloc (.cells #[.int .u64 0, .string ⟨#[]⟩, .int .u64 0] 43)).cell? ⟨w.heap.size, 1, none⟩ = some (.string n.2) := cell_keep (hA _ _) (by simp [nmO])
  have HZL := Lib.hid hzl
  have hrw := h.lt
  clear h hA hzl
  obtain ⟨a, cap, rfl, hcap, hnil⟩ := HF.out.cap
  go_enter Try.func18, Try.ntmps18
  go_wp2_with fail
  change Code.wp _ _ _ _ ((w.alloc (nmO n)).alloc (.cells #[.int .u64 0, .string ⟨#[]⟩, .int .u64 0] 43))
  have HU : Hid (Uq R r (.slice a l.length cap) l last n w ((w.alloc (nmO n)).alloc (.cells #[.int .u64 0, .string ⟨#[]⟩, .int .u64 0] 43))) :=
    ⟨HF.out, HA.out, by simp, m1, m2, by have := heap_alloc_new (w.alloc (nmO n)) (.cells #[.int .u64 0, .string ⟨#[]⟩, .int .u64 0] 43); simpa using this⟩
  clear HF HA m1 m2
  generalize (w.alloc (nmO n)).alloc (.cells #[.int .u64 0, .string ⟨#[]⟩, .int .u64 0] 43) = wa at *
  go_loopg [6, 7] l.length (fun gk b i wr => ∃ (k : Nat) (bi : Int), gk + k = l.length ∧ i = .int .i64 k ∧ b = .int .i64 bi ∧ Hid (BestAt l bi ((l.take k).foldl (stepO n) none) ∧ (mayS n.2 = false → k = 0)) ∧ Uq R r (.slice a l.length cap) l last n w wr)
  case atStart => exact ⟨0, -1, by omega, rfl, rfl, Lib.hid ⟨.inl ⟨rfl, rfl⟩, fun _ => rfl⟩, HU.out⟩
  case round =>
    clear HU
    obtain ⟨k, bi, hk, rfl, rfl, hBM, hU⟩ := hrel
    have HU := Lib.hid hU
    clear hU
    have c0 := HU.out.fen.c0
    have m1 := HU.out.n1
    have m2 := HU.out.n2
    have hsw := HU.out.size
    by_cases hgo : k < l.length ∧ mayS n.2 = true
    · obtain ⟨hlt, hm⟩ := hgo
      obtain ⟨b, off, c, he, hb, hc⟩ := HU.out.fen.reads.at (by omega)
      injection he with he1 he2 he3
      subst he1
      have hcc := hc k hlt
      have hzg := HZL.out _ (List.getElem_mem hlt)
      have HNX := Lib.hid (fold_next hlt n)
      clear hnil he2 he3 hb
      generalize hg : l[k] = g at *
      have HG := Lib.hid hg
      have g0 : wr.cell? ⟨b, off + k * 3, none⟩ = some (.int .u64 g.1.1) := hcc 0 _ rfl
      have g1 : wr.cell? ⟨b, off + k * 3 + 1, none⟩ = some (.string g.1.2) := hcc 1 _ rfl
      have g2 : wr.cell? ⟨b, off + k * 3 + 2, none⟩ = some (.int .u64 g.2) := hcc 2 _ rfl
      have HM := Lib.hid hm
      have HC := Lib.hid hc
      clear hcc hg hm hc
      have hlt2 : (k : Int) < (l.length : Int) := by omega
      have hmay : ∀ w, Calls Try.prog 28 #[.string n.2] w fun e w' => e = .returned (.bool true) ∧ w = w' := fun w => by
        have := rmay_any n.2 w hs
        rwa [HM.out] at this
      go_wp2_with fail
      refine (hmay _).mono ?_
      rintro e w1 ⟨rfl, rfl⟩
      clear hmay
      have HU2 := Lib.hid (HU.out.below ((Below.refl _ _).alloc (Nat.le_refl _) (.cells #[.int .u64 g.1.1, .string g.1.2, .int .u64 g.2] 43)))
      obtain ⟨tst, htst⟩ : ∃ t : Bool, (decide (g.1.1 = n.1) && underS n.2 g.1.2 && (((l.take k).foldl (stepO n) none).all fun x => decide (x.1.2.size < g.1.2.size))) = t := ⟨_, rfl⟩
      have HTS := Lib.hid htst
      clear htst
      go_upto_region 6 with fail
      have k0 : (wr.alloc (.cells #[.int .u64 g.1.1, .string g.1.2, .int .u64 g.2] 43)).cell? ⟨wr.heap.size, 0, none⟩ = some (.int .u64 g.1.1) := by simp
      have k1 : (wr.alloc (.cells #[.int .u64 g.1.1, .string g.1.2, .int .u64 g.2] 43)).cell? ⟨wr.heap.size, 1, none⟩ = some (.string g.1.2) := by simp
      have hbest : ∀ j, (hj : j < l.length) → (wr.alloc (.cells #[.int .u64 g.1.1, .string g.1.2, .int .u64 g.2] 43)).cell? ⟨b, off + j * 3 + 1, none⟩ = some (.string l[j].1.2) := fun j hj =>
        cell_keep ((Below.refl _ _).alloc (Nat.le_refl _) _) (HC.out j hj 1 _ rfl)
      have HBE := Lib.hid hbest
      clear hbest HC
      replace c0 := HU2.out.fen.c0
      replace m1 := HU2.out.n1
      replace m2 := HU2.out.n2
      clear g0 g1 g2
      generalize wr.alloc (.cells #[.int .u64 g.1.1, .string g.1.2, .int .u64 g.2] 43) = wb at *
      go_cut [64] (fun t wx => t = .bool tst ∧ Drew wb wx)
      case first =>
        by_cases hj : g.1.1 = n.1
        · cases hu : underS n.2 g.1.2
          · have ht := Lib.hid (show tst = false by rw [← HTS.out, hu]; simp)
            have hru : ∀ w, Calls Try.prog 23 #[.string n.2, .string g.1.2] w fun e w' => e = .returned (.bool false) ∧ w' = w := fun w => by
              have := runder_q n.2 g.1.2 w hs hzg
              rwa [hu] at this
            have hjb : (g.1.1 == n.1) = true := by simp [hj]
            clear hu hj
            go_wp2_with fail
            go_quiet ((go_at_call 23; exact Calls.quiet_of_same (hru _)))
            go_wp2_with fail
            go_meet
            exact ⟨by rw [ht.out], ⟨_, rfl⟩⟩
          · have hru : ∀ w, Calls Try.prog 23 #[.string n.2, .string g.1.2] w fun e w' => e = .returned (.bool true) ∧ w' = w := fun w => by
              have := runder_q n.2 g.1.2 w hs hzg
              rwa [hu] at this
            have hjb : (g.1.1 == n.1) = true := by simp [hj]
            rcases hBM.out.1 with ⟨hb1, hb2⟩ | ⟨j, hjl, hb1, hb2⟩
            · subst hb1
              have ht := Lib.hid (show tst = true by rw [← HTS.out, hu, hb2]; simp [hj])
              clear hu hj hb2
              go_wp2_with fail
              go_quiet ((go_at_call 23; exact Calls.quiet_of_same (hru _)))
              go_wp2_with fail
              go_meet
              exact ⟨by rw [ht.out], ⟨_, rfl⟩⟩
            · subst hb1
              have ht := Lib.hid (show tst = decide (l[j].1.2.size < g.1.2.size) by rw [← HTS.out, hu, hb2]; simp [hj])
              have b1 := HBE.out j hjl
              have hzj := HZL.out _ (List.getElem_mem hjl)
              generalize l[j] = y at *
              have hj2 : (0 : Int) ≤ (j : Int) := by omega
              have hj3 : (j : Int) < (l.length : Int) := by omega
              clear hu hj hb2
              go_wp2_with fail
              go_quiet ((go_at_call 23; exact Calls.quiet_of_same (hru _)))
              go_wp2_with fail
              go_meet
              exact ⟨by rw [ht.out]; simp; intro h; omega, ⟨_, rfl⟩⟩
        · have ht := Lib.hid (show tst = false by rw [← HTS.out]; simp [hj])
          have hjb : (g.1.1 == n.1) = false := by simpa using hj
          clear hj
          go_wp2_with fail
          go_quiet (fail)
          go_wp2_with fail
          go_meet
          exact ⟨by rw [ht.out], ⟨_, rfl⟩⟩
      case rest =>
        obtain ⟨rfl, q, rfl⟩ := hcut
        have HU3 := Lib.hid (HU2.out.below (below_drewN (Below.refl _ _) q))
        clear HU HU2 c0 m1 m2 k0 k1 HBE
        have HNB : Hid (BestAt l (if tst then (k : Int) else bi) ((l.take (k + 1)).foldl (stepO n) none)) := by
          rw [HNX.out, stepO_eq HTS.out]
          cases tst
          · exact hBM.out.1
          · exact .inr ⟨k, hlt, by simp, by simp [HG.out]⟩
        clear HNX HTS HG hBM
        cases tst
        · go_wp2_with fail
          go_roundg (gk - 1)
          case rel => exact ⟨k + 1, bi, by omega, by go_num, rfl, Lib.hid ⟨HNB.out, fun h => by rw [HM.out] at h; cases h⟩, HU3.out⟩
          case measure => omega
        · go_wp2_with fail
          go_roundg (gk - 1)
          case rel => exact ⟨k + 1, k, by omega, by go_num, rfl, Lib.hid ⟨HNB.out, fun h => by rw [HM.out] at h; cases h⟩, HU3.out⟩
          case measure => omega
    · have hO : BestAt l bi (ownR l n) := by
        unfold ownR
        cases hm : mayS n.2
        · have := hBM.out.2 hm
          subst this
          simpa using hBM.out.1
        · have hkl : k = l.length := by
            have : ¬ k < l.length := fun h => hgo ⟨h, hm⟩
            omega
          subst hkl
          have := hBM.out.1
          rwa [List.take_length] at this
      have HM : Hid (k < l.length → mayS n.2 = false) := Lib.hid (fun h => by
        cases hm : mayS n.2
        · rfl
        · exact absurd ⟨h, hm⟩ hgo)
      clear hgo hBM
      go_upto_region 3 with fail
      go_cut [20] (fun t wx => t = .bool false ∧ wx = wr)
      case first =>
        by_cases hlt : k < l.length
        · have hlt2 : (k : Int) < (l.length : Int) := by omega
          have hmay : ∀ w, Calls Try.prog 28 #[.string n.2] w fun e w' => e = .returned (.bool false) ∧ w = w' := fun w => by
            have := rmay_any n.2 w hs
            rwa [HM.out hlt] at this
          go_wp2_with fail
          refine (hmay _).mono ?_
          rintro e w1 ⟨rfl, rfl⟩
          clear hmay
          go_wp2_with fail
          go_meet
          exact ⟨rfl, rfl⟩
        · have hlt2 : ¬ (k : Int) < (l.length : Int) := by omega
          go_wp2_with fail
          go_meet
          exact ⟨by first | (simp; done) | (simp; omega), rfl⟩
      case rest =>
        obtain ⟨rfl, rfl⟩ := hcut
        have hcr : ∀ o, wc.cell? ⟨w.heap.size + 1, o, none⟩ = #[Value.int .u64 0, .string ⟨#[]⟩, .int .u64 0][o]? := fun o => by simp [World.cell?, HU.out.res]
        have hzr : ∀ o, wc.frozen? ⟨w.heap.size + 1, o, none⟩ = false := fun o => by simp [World.frozen?, HU.out.res]
        have q0 := hcr 0; have q1 := hcr 1; have q2 := hcr 2
        have p0 := hzr 0; have p1 := hzr 1; have p2 := hzr 2
        simp only [List.getElem?_toArray, List.getElem?_cons_zero, List.getElem?_cons_succ] at q0 q1 q2
        clear hcr hzr
        rcases hO with ⟨hb1, hb2⟩ | ⟨j, hjl, hb1, hb2⟩
        · subst hb1
          have hf := Lib.hid hb2
          clear hb2
          go_wp2_with fail
          exact rowner_end (set3 HU.out.res _ _ _) rfl rfl (by rw [hf.out]; rfl) (by rw [hf.out]; rfl) (set3_below HU.out.low (by omega) _ _ _)
        · subst hb1
          have hf := Lib.hid hb2
          clear hb2
          obtain ⟨b, off, c, he, hb, hc⟩ := HU.out.fen.reads.at (by omega)
          injection he with he1 he2 he3
          subst he1
          have hcc := hc j hjl
          clear hc he2 he3 hb
          generalize l[j] = y at *
          have g0 : wc.cell? ⟨b, off + j * 3, none⟩ = some (.int .u64 y.1.1) := hcc 0 _ rfl
          have g1 : wc.cell? ⟨b, off + j * 3 + 1, none⟩ = some (.string y.1.2) := hcc 1 _ rfl
          have g2 : wc.cell? ⟨b, off + j * 3 + 2, none⟩ = some (.int .u64 y.2) := hcc 2 _ rfl
          have hj2 : (0 : Int) ≤ (j : Int) := by omega
          have hj3 : (j : Int) < (l.length : Int) := by omega
          clear hcc
          go_wp2_with fail
          exact rowner_end (set3 HU.out.res _ _ _) rfl rfl (by rw [hf.out]; rfl) (by rw [hf.out]; rfl) (set3_below HU.out.low (by omega) _ _ _)
end Go.Proofs.Ytbelafkklblidaa
