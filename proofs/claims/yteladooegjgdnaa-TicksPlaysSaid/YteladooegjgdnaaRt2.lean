/- The document's Timers: Set, Stop. -/
import Derived.Test.YteladooegjgdnaaRt1
namespace Go.Proofs.Yteladooegjgdnaa
open Go.RowKit Go.Sort Go.Lib

/-- The document's timers hold L. -/
def Rms (Z r : Nat) (lv : Value) (L : List Tm) (clock : Int) (w : World) : Prop := ∃ l, Rq Z r lv l clock w ∧ l.Perm L ∧ Srt L ∧ (L.map (·.k)).Nodup ∧ L.length ≤ 1024
structure RL (r : Nat) (lv : Value) (w : World) (lv' : Value) (w' : World) : Prop where
  fr : Fr (fun i => i = r) w w'
  own : lv'.ownBlock = lv.ownBlock ∨ ∀ g, lv'.ownBlock = some g → w.heap.size ≤ g
theorem RL.below {r : Nat} {lv : Value} {w w' : World} (hB : Below w.heap.size w w') : RL r lv w lv w' := ⟨Fr.of_below hB, .inl rfl⟩
theorem RL.from {r : Nat} {lv lv' : Value} {w w2 w' : World} (hB : Below w.heap.size w w2) (h : RL r lv w2 lv' w') : RL r lv w lv' w' :=
  ⟨(Fr.of_below hB).trans h.fr, h.own.imp id (fun k g hg => Nat.le_trans hB.size (k g hg))⟩
/-- A timer is put behind the rest. -/
theorem radd {Z r n c g7 c7 : Nat} {a : Option Addr} {l : List Tm} {x : Tm} {clock : Int} {lv : Value} {w2 w3 w7 : World} (h3 : Rq Z r (.slice a n c) l clock w3) (hn : l.length = n) (hF3 : Fr (fun i => i = r) w2 w3) (hlo : ∀ g, (Value.slice a n c).ownBlock = some g → w2.heap.size ≤ g)
    (hF7 : Fr (fun i => (Value.slice a n c).ownBlock = some i) w3 w7) (ho : w7.ownsRow Z TmT 2 (.slice (some ⟨g7, 0, none⟩) (n + 1) c7) (n + 1) (l.flatMap encT ++ encT x)) (hat : (Value.slice a n c).ownBlock = some g7 ∨ w2.heap.size ≤ g7) :
    Rq Z r (.slice (some ⟨g7, 0, none⟩) (n + 1) c7) (l ++ [x]) clock (w7.setCell ⟨r, 1, none⟩ (.slice (some ⟨g7, 0, none⟩) (n + 1) c7)) ∧ RL r lv w2 (.slice (some ⟨g7, 0, none⟩) (n + 1) c7) (w7.setCell ⟨r, 1, none⟩ (.slice (some ⟨g7, 0, none⟩) (n + 1) c7)) := by
  have hb7 := h3.box.fr hF7 (own_not_box h3.own h3.box (by decide))
  have hF8 : Fr (fun i => i = r) w7 (w7.setCell ⟨r, 1, none⟩ (.slice (some ⟨g7, 0, none⟩) (n + 1) c7)) := (Fr.refl (fun i => i = r) w7).setCell (p := ⟨r, 1, none⟩) rfl _
  have ho8 := own_typed ho hF8 (typed_box hb7) (by decide)
  refine ⟨⟨Go.heap_setCell_same w7 r 1 _ _ _ hb7, by subst hn; simpa [List.flatMap_append] using ho8, h3.zr⟩, (hF3.join hF7 (fun i hi => .inr (hlo i hi))).trans hF8, .inr fun g hg => ?_⟩
  have e1 : g7 = g := by simpa [Value.ownBlock] using hg
  subst e1
  rcases hat with e | e
  · exact hlo g7 e
  · exact e
theorem Rms.below {Z r : Nat} {lv : Value} {L : List Tm} {clock : Int} {w w' : World} (h : Rms Z r lv L clock w) (hB : Below w.heap.size w w') : Rms Z r lv L clock w' := by
  obtain ⟨l, h1, h2⟩ := h
  exact ⟨l, h1.below hB, h2⟩
def RSetP (Z r : Nat) (lv : Value) (L : List Tm) (clock : Int) (key : ByteArray) (a : Int) (w : World) (e : Ending) (w' : World) : Prop :=
  e = .returned (.int .i64 (setE L clock key a)) ∧ ∃ lv', Rms Z r lv' (setL L clock key a) clock w' ∧ RL r lv w lv' w'
theorem RSetP.bad {Z r : Nat} {lv : Value} {L : List Tm} {clock a c : Int} {key : ByteArray} {w w' : World} (h : Rms Z r lv L clock w) (hB : Below w.heap.size w w') (hc : setE L clock key a = c) (h0 : c ≠ 0) : RSetP Z r lv L clock key a w (.returned (.int .i64 c)) w' :=
  ⟨by rw [hc], lv, by unfold setL; rw [hc, if_neg h0]; exact h.below hB, RL.below hB⟩
theorem RSetP.good {Z r : Nat} {lv lv' : Value} {l' L : List Tm} {clock a : Int} {key : ByteArray} {w w' : World} (hc : setE L clock key a = 0) (hs : Srt L) (hd : (L.map (·.k)).Nodup) (hn : (offT key L).length < 1024)
    (hq : Rq Z r lv' (l' ++ [⟨key, a⟩]) clock w') (hL : RL r lv w lv' w') (hp : l'.Perm (offT key L)) : RSetP Z r lv L clock key a w (.returned (.int .i64 0)) w' := by
  refine ⟨by rw [hc], lv', ?_, hL⟩
  unfold setL
  rw [if_pos hc]
  exact ⟨_, hq, (List.perm_append_comm.trans (hp.cons _)).trans (insT_perm _ _).symm, insT_srt _ _ (off_srt hs), ins_nod (off_nod hd) off_not, by rw [(insT_perm _ _).length_eq]; exact hn⟩
set_option maxHeartbeats 12800000 in
set_option maxRecDepth 100000 in
theorem rset_any {Z r : Nat} {lv : Value} {L : List Tm} {clock : Int} {w : World} (key : ByteArray) (a : Int) (h : Rms Z r lv L clock w) :
    Calls Try.prog 16 #[TP r, .string key, .int .i64 a] w fun e w' => RSetP Z r lv L clock key a w e w' := by
  have HT := Lib.hid h
  obtain ⟨l, hq, hp, hs, hd, hll⟩ := h
  have H0 := Lib.hid hq
  have HP := Lib.hid hp
  have HS := Lib.hid (And.intro hs hd)
  obtain ⟨x0, x1⟩ := hq.cell
  have hlen := hp.length_eq
  obtain ⟨la, lc, hlv⟩ := own_slice hq.own
  obtain ⟨N, hN⟩ : ∃ N, l.length = N := ⟨_, rfl⟩
  rw [hN] at hlv hlen
  rw [hlv] at x1
  have HN := Lib.hid hN
  have HLN := Lib.hid hlen
  clear hq hp hs hd hN hlen hlv
  go_enter Try.func16, Try.ntmps16
  by_cases h1 : 64 < key.size
  · have h11 : (64 : Int) < key.size := by omega
    have HE := Lib.hid (show setE L clock key a = 4 by unfold setE; rw [if_pos h1])
    clear h1
    go_wp2_with fail
    go_ret
    exact RSetP.bad HT.out (by first | exact Below.refl _ _ | exact (Below.refl _ _).drew) HE.out (by decide)
  have h11 : ¬ (64 : Int) < key.size := by omega
  by_cases h2 : a ≤ clock
  · have HE := Lib.hid (show setE L clock key a = 2 by unfold setE; rw [if_neg h1, if_pos h2])
    clear h1
    go_wp2_with fail
    go_ret
    exact RSetP.bad HT.out (by first | exact Below.refl _ _ | exact (Below.refl _ _).drew) HE.out (by decide)
  by_cases h3 : 17592186044416 < a
  · have HE := Lib.hid (show setE L clock key a = 2 by unfold setE; rw [if_neg h1, if_neg h2, if_pos h3])
    clear h1
    go_wp2_with fail
    go_ret
    exact RSetP.bad HT.out (by first | exact Below.refl _ _ | exact (Below.refl _ _).drew) HE.out (by decide)
  have HE := Lib.hid (show setE L clock key a = if hasT key L = true then 0 else if 1024 ≤ L.length then 6 else 0 by unfold setE; rw [if_neg h1, if_neg h2, if_neg h3])
  clear h1
  go_wp2_with fail
  refine (rfind_any key H0.out (by rw [HN.out, HLN.out]; omega)).mono ?_
  rintro e w2 ⟨⟨i, rfl, hF⟩, hB⟩
  have HB := Lib.hid hB
  have H2 := Lib.hid (H0.out.below hB)
  have y1 : w2.cell? ⟨r, 1, none⟩ = some (.slice la N lc) := (hB.cell (World.block_lt_of_cell? _ _ x1)).trans x1
  have hNn : N ≤ 1024 := by have := HLN.out; omega
  clear hB x0 x1 H0
  have hbig : (∃ c, c ≠ 0 ∧ setE L clock key a = c ∧ c = 6 ∧ i = -1 ∧ 1024 ≤ N) ∨ (setE L clock key a = 0 ∧ (woP l i l.length).Perm (offT key L) ∧ (offT key L).length < 1024 ∧ ((i = -1 ∧ ¬ 1024 ≤ N) ∨ 0 ≤ i)) := by
    rcases hF with ⟨rfl, hno⟩ | ⟨j, hj, rfl, hjk⟩
    · have hnk : key ∉ L.map (·.k) := by
        intro hm
        obtain ⟨x, hx, e⟩ := List.mem_map.1 hm
        exact hno x (HP.out.symm.subset hx) e
      have he2 : setE L clock key a = if 1024 ≤ N then 6 else 0 := by rw [HE.out, hasT_not hnk, if_neg (by simp), HLN.out]
      by_cases hfull : 1024 ≤ N
      · exact .inl ⟨6, by decide, by rw [he2, if_pos hfull], rfl, rfl, hfull⟩
      · refine .inr ⟨by rw [he2, if_neg hfull], ?_, ?_, .inl ⟨rfl, hfull⟩⟩
        · rw [woP_none, off_self hnk]; exact HP.out
        · have := offT_le key L; have := HLN.out; omega
    · have hin : key ∈ L.map (·.k) := List.mem_map.2 ⟨gT l j, HP.out.subset (gT_mem hj), hjk⟩
      refine .inr ⟨by rw [HE.out, hasT_iff.2 hin, if_pos rfl], ?_, Nat.lt_of_lt_of_le (offT_lt hin) hll, .inr (by omega)⟩
      have hp := (woP_some hj).trans HP.out
      have hn : ((gT l j :: woP l j l.length).map (·.k)).Nodup := (hp.map (·.k)).nodup_iff.2 HS.out.2
      have := hp.filter fun x => decide (x.k ≠ key)
      rwa [show (gT l j :: woP l j l.length).filter (fun x => decide (x.k ≠ key)) = woP l j l.length from offT_cons hjk hn] at this
  clear hF HE
  rcases hbig with ⟨c, hc0, hce, rfl, rfl, hfull⟩ | ⟨hce, hpo, hno, hcase⟩
  · have hf1 : (1024 : Int) ≤ N := by omega
    have HCE := Lib.hid hce
    clear hce
    go_wp2_with fail
    go_ret
    exact RSetP.bad HT.out HB.out HCE.out (by decide)
  · have HCE := Lib.hid (And.intro hce (And.intro hpo hno))
    have HFU := Lib.hid hcase
    clear hce hpo hno
    clear hcase
    have hzr : Z ≤ w2.heap.size := by
      have h1 : r < w2.heap.size := (Array.getElem?_eq_some_iff.1 H2.out.box).1
      have h2 := H2.out.zr
      omega
    have HZ := Lib.hid hzr
    have HL := Lib.hid hll
    clear hzr hll
    obtain ⟨wl, hwl⟩ : ∃ t, woP l i l.length = t := ⟨_, rfl⟩
    have hwn : wl.length ≤ 1024 := by rw [← hwl]; have := woP_len l i l.length; have := HN.out; omega
    rw [hwl] at HCE
    have HWL := Lib.hid hwl
    have HWN := Lib.hid hwn
    clear hwl hwn
    rcases HFU.out with ⟨rfl, hf⟩ | hi
    all_goals
      first
        | (have hf1 : ¬ (1024 : Int) ≤ N := by omega)
        | (have hf1 : ¬ i < 0 := by omega)
      clear HFU
      go_wp2_with fail
      refine (rwo_any _ H2.out (by rw [HN.out]; omega)).mono ?_
      rintro e w3 ⟨rfl, lv3, hq3, hF3, hlo3⟩
      rw [HWL.out] at hq3
      obtain ⟨a3, c3, rfl⟩ := own_slice hq3.own
      obtain ⟨n3, hn3⟩ : ∃ n, wl.length = n := ⟨_, rfl⟩
      rw [hn3] at hq3 hlo3
      have z1 := hq3.cell.2
      have g1 : ∀ W, w3.heap.size = w3.heap.size → Fr (fun i => (Value.slice a3 n3 c3).ownBlock = some i) w3 W → W.frozen? ⟨r, 1, none⟩ = false := fun W _ hF => (hq3.box.fr hF (own_not_box hq3.own hq3.box (by decide))).frozen 1
      obtain ⟨ig, hig, hg0, hg1, hg2⟩ := info_parts info_tm
      have hA3 : Below w3.heap.size w3 (w3.alloc (.cells #[.string key, .int .i64 a] TmT)) := alT w3 _
      have z1a : (w3.alloc (.cells #[.string key, .int .i64 a] TmT)).cell? ⟨r, 1, none⟩ = some (.slice a3 n3 c3) := (hq3.below hA3).cell.2
      have ho3 := hq3.own
      rw [hn3] at ho3
      have hn3' : n3 ≤ 1024 := by rw [← hn3]; exact HWN.out
      obtain ⟨g7, c7, w7, hap, hown7, hgrow, hat, _⟩ := run_append_lies (P := Try.prog) (w3.alloc (.cells #[.string key, .int .i64 a] TmT)) 33 33 Z TmT ig (.agg #[.string ⟨#[]⟩, .int .i64 0]) 2 24 Try.underlying33 hig hg0 hg1 hg2 rfl (by decide) (.slice a3 n3 c3) n3 (wl.flatMap encT) (own_below ho3 hA3) ⟨w3.heap.size, 0, none⟩ 1 1 (encT ⟨key, a⟩) rfl (one_tm w3 ⟨key, a⟩) (by intro v hv; simp [encT] at hv; rcases hv with rfl | rfl <;> rfl) (by decide) (by unfold maxLen; omega) (by omega) (by have := HZ.out; have := hF3.size; simp; omega) _ rfl
      have hF7 := grow_fr' hA3 hgrow
      have f7 := g1 w7 rfl hF7
      have z7 : w7.cell? ⟨r, 1, none⟩ = some (.slice a3 n3 c3) := (hq3.box.fr hF7 (own_not_box hq3.own hq3.box (by decide))).cell 1
      have HR := Lib.hid (radd (lv := lv) hq3 hn3 hF3 hlo3 hF7 hown7 (hat.imp id (fun e => by
        have h1 : (w3.alloc (.cells #[.string key, .int .i64 a] TmT)).heap.size = w3.heap.size + 1 := by simp
        have h2 := hF3.size
        omega)))
      obtain ⟨n7, hn7⟩ : ∃ n, n3 + 1 = n := ⟨_, rfl⟩
      rw [hn7] at hap HR
      clear hq3 hF3 hlo3 hig hg0 hg1 hg2 hA3 ho3 hown7 hgrow hat hF7 g1 hn3 hn7
      go_wp2_with (at_builtin; refine wpList_arunC rfl _ _ _ _ rfl rfl rfl hap ?_)
      go_ret
      exact RSetP.good HCE.out.1 HS.out.1 HS.out.2 HCE.out.2.2 HR.out.1 (HR.out.2.from HB.out) HCE.out.2.1
end Go.Proofs.Yteladooegjgdnaa
