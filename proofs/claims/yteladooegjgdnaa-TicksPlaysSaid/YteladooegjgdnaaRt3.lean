/- The document's Timers: Stop, next, Next. -/
import Derived.Test.YteladooegjgdnaaRt2
namespace Go.Proofs.Yteladooegjgdnaa
open Go.RowKit Go.Sort Go.Lib

/-- How often a key is there. -/
def hasN (key : ByteArray) (L : List Tm) : Int := if hasT key L = true then 1 else 0
theorem hasN_not {key : ByteArray} {L : List Tm} (h : key ∉ L.map (·.k)) : hasN key L = 0 := by unfold hasN; rw [hasT_not h]; rfl
theorem hasN_in {key : ByteArray} {L : List Tm} (h : key ∈ L.map (·.k)) : hasN key L = 1 := by unfold hasN; rw [hasT_iff.2 h]; rfl
set_option maxHeartbeats 6400000 in
set_option maxRecDepth 100000 in
theorem rstop_any {Z r : Nat} {lv : Value} {L : List Tm} {clock : Int} {w : World} (key : ByteArray) (h : Rms Z r lv L clock w) :
    Calls Try.prog 18 #[TP r, .string key] w fun e w' => e = .returned (.int .i64 (hasN key L)) ∧ ∃ lv', Rms Z r lv' (offT key L) clock w' ∧ RL r lv w lv' w' := by
  obtain ⟨l, hq, hp, hs, hd, hll⟩ := h
  have H0 := Lib.hid hq
  have HP := Lib.hid hp
  have HS := Lib.hid (And.intro hs (And.intro hd hll))
  have hlen := hp.length_eq
  have HLN := Lib.hid (show l.length ≤ 1024 by omega)
  clear hq hp hs hd hlen hll
  go_enter Try.func18, Try.ntmps18
  go_wp2_with fail
  refine (rfind_any key H0.out (by have := HLN.out; omega)).mono ?_
  rintro e w2 ⟨⟨i, rfl, hF⟩, hB⟩
  have HB := Lib.hid hB
  have H2 := Lib.hid (H0.out.below hB)
  clear hB H0
  rcases hF with ⟨rfl, hno⟩ | ⟨j, hj, rfl, hjk⟩
  · have HNK := Lib.hid (show key ∉ L.map (·.k) from by
      intro hm
      obtain ⟨x, hx, e⟩ := List.mem_map.1 hm
      exact hno x (HP.out.symm.subset hx) e)
    clear hno
    go_wp2_with fail
    go_ret
    exact ⟨by rw [hasN_not HNK.out]; rfl, lv, ⟨l, H2.out, by rw [off_self HNK.out]; exact HP.out, by rw [off_self HNK.out]; exact HS.out⟩, RL.below HB.out⟩
  · have hin : key ∈ L.map (·.k) := List.mem_map.2 ⟨gT l j, HP.out.subset (gT_mem hj), hjk⟩
    have HIN := Lib.hid hin
    have HPO := Lib.hid (show (woP l j l.length).Perm (offT key L) from by
      have hp := (woP_some hj).trans HP.out
      have hn : ((gT l j :: woP l j l.length).map (·.k)).Nodup := (hp.map (·.k)).nodup_iff.2 HS.out.2.1
      have := hp.filter fun x => decide (x.k ≠ key)
      rwa [show (gT l j :: woP l j l.length).filter (fun x => decide (x.k ≠ key)) = woP l j l.length from offT_cons hjk hn] at this)
    have hj0 : ¬ (j : Int) < 0 := by omega
    clear hin hj hjk
    go_wp2_with fail
    refine (rwo_any _ H2.out (by have := HLN.out; omega)).mono ?_
    rintro e w3 ⟨rfl, lv3, hq3, hF3, hlo3⟩
    have H3 := Lib.hid (And.intro hq3 (And.intro hF3 hlo3))
    clear hq3 hF3 hlo3
    go_wp2_with fail
    go_ret
    exact ⟨by rw [hasN_in HIN.out]; rfl, lv3, ⟨_, H3.out.1, HPO.out, off_srt HS.out.1, off_nod HS.out.2.1, Nat.le_trans (offT_le _ _) HS.out.2.2⟩, RL.from HB.out ⟨H3.out.2.1, .inr H3.out.2.2⟩⟩
/-- Which one is due first. -/
def BestP (l : List Tm) (k : Nat) (b : Int) : Prop := (k = 0 ∧ b = -1) ∨ ∃ i : Nat, b = (i : Int) ∧ i < k ∧ ∀ j, j < k → leT (gT l i) (gT l j)
theorem less_split (x y : Tm) : lessT x y = (decide (x.a < y.a) || (decide (x.a = y.a) && Op.bytesLess x.k.toList y.k.toList)) := by
  unfold lessT cmpT orI cmpA cmpS
  by_cases h1 : x.a < y.a
  · simp [h1]
  · by_cases h2 : x.a = y.a
    · simp [h1, h2]
      by_cases h3 : Op.bytesLess x.k.toList y.k.toList = true
      · simp [h3]
      · simp [h3]; split <;> simp
    · simp [h1, h2]
      split <;> simp_all <;> omega
theorem BestP.step {l : List Tm} {k i : Nat} (hi : i < k) (h : ∀ j, j < k → leT (gT l i) (gT l j)) : BestP l (k + 1) (if lessT (gT l k) (gT l i) = true then (k : Int) else (i : Int)) := by
  by_cases hl : lessT (gT l k) (gT l i) = true
  · rw [if_pos hl]
    refine .inr ⟨k, rfl, by omega, fun j hj => ?_⟩
    by_cases e : j = k
    · subst e; exact leT_refl _
    · exact leTt (less_le hl) (h j (by omega))
  · rw [if_neg hl]
    refine .inr ⟨i, rfl, by omega, fun j hj => ?_⟩
    by_cases e : j = k
    · subst e; exact not_less hl
    · exact h j (by omega)
end Go.Proofs.Yteladooegjgdnaa
