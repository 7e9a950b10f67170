/- Contracts: Grant, Drop of the document's fences. -/
import Derived.Test.YtbelafkklblidaaRefE3
namespace Go.Proofs.Ytbelafkklblidaa
open Go.RowKit Go.Sort Go.Lib

def rgE (l : List Gr) (last : Int) (n : Nm) : Int :=
  if mayS n.2 = false then 2 else if maxE ≤ last then 9 else if ¬ idxG l n < l.length ∧ 1024 ≤ l.length then 6 else 0
def rgV (l : List Gr) (last : Int) (n : Nm) : Int := if rgE l last n = 0 then last + 1 else 0
def rgL (l : List Gr) (last : Int) (n : Nm) : List Gr := if rgE l last n = 0 then insG (takeR l n) (n, last + 1) else l
def rgN (l : List Gr) (last : Int) (n : Nm) : Int := if rgE l last n = 0 then last + 1 else last
theorem rg_no {l : List Gr} {last : Int} {n : Nm} {k : Int} (h : rgE l last n = k) (hk : k ≠ 0) : rgV l last n = 0 ∧ rgL l last n = l ∧ rgN l last n = last := by
  unfold rgV rgL rgN; rw [h]; simp [hk]
theorem rg_yes {l : List Gr} {last : Int} {n : Nm} (h : rgE l last n = 0) : rgV l last n = last + 1 ∧ rgL l last n = insG (takeR l n) (n, last + 1) ∧ rgN l last n = last + 1 := by
  unfold rgV rgL rgN; rw [h]; simp
/-- What Grant leaves. -/
def RG (R r : Nat) (l : List Gr) (last : Int) (n : Nm) (w w' : World) : Prop := ∃ v', RFen w' R r v' (rgL l last n) (rgN l last n) ∧ Fr (fun i => i = r) w w'
theorem RG.no {R r : Nat} {v : Value} {l : List Gr} {last : Int} {n : Nm} {w w' : World} {k : Int} (h : rgE l last n = k) (hk : k ≠ 0) (hF : RFen w' R r v l last) (hB : Below w.heap.size w w') : RG R r l last n w w' := by
  unfold RG; rw [(rg_no h hk).2.1, (rg_no h hk).2.2]; exact ⟨v, hF, .of_below hB⟩
theorem findR_neg (l : List Gr) (n : Nm) : (findR l n < 0) ↔ ¬ idxG l n < l.length := by
  unfold findR; split <;> omega
theorem RFen.setLast {w : World} {R r : Nat} {v : Value} {l : List Gr} {last : Int} (h : RFen w R r v l last) (x : Int) : RFen (w.setCell ⟨r, 1, none⟩ (.int .u64 x)) R r v l x := by
  refine ⟨?_, own_far h.own (fun i hi => Below.heap_setCell _ _ _ _ (fun e => h.ne (by rw [hi, e]))), h.ne, h.lo⟩
  simp [World.setCell, h.box, Array.getElem?_modify]

set_option maxHeartbeats 1600000 in
set_option maxRecDepth 100000 in
theorem rgrant_any (R r : Nat) (v : Value) (l : List Gr) (last : Int) (n : Nm) (w : World) (h : RFen w R r v l last) (h0 : 0 ≤ last) (hl10 : l.length ≤ 10000) (hzl : ∀ p ∈ l, p.1.2.size ≤ 9223372036854775807) (hs : n.2.size ≤ 9223372036854775807) :
    Calls Try.prog 12 #[.pointer (some ⟨r, 0, none⟩), .agg #[.int .u64 n.1, .string n.2]] w fun e w' =>
      e = .returned (.tuple #[.int .u64 (rgV l last n), .int .i64 (rgE l last n)]) ∧ RG R r l last n w w' := by
  have hA : Below w.heap.size w (w.alloc (nmO n)) := (Below.refl _ _).alloc (Nat.le_refl _) _
  have HF := Lib.hid (h.below hA)
  have hrw := h.lt
  have HA := Lib.hid hA
  have c1 := HF.out.c1
  have HZL := Lib.hid hzl
  clear h hA hzl
  have m1 : (w.alloc (nmO n)).cell? ⟨w.heap.size, 0, none⟩ = some (.int .u64 n.1) := by simp [nmO]
  have m2 : (w.alloc (nmO n)).cell? ⟨w.heap.size, 1, none⟩ = some (.string n.2) := by simp [nmO]
  go_enter Try.func12, Try.ntmps12
  go_wp2_with fail
  change Calls _ _ _ (w.alloc (nmO n)) _
  refine (rmay_any n.2 _ hs).mono ?_
  rintro e w1 ⟨rfl, rfl⟩
  cases hm : mayS n.2
  · have he : rgE l last n = 2 := by unfold rgE; rw [if_pos hm]
    have e1 := Lib.hid (rg_no he (by decide)).1
    have e2 := Lib.hid he
    have e3 := Lib.hid (RG.no he (by decide) HF.out HA.out)
    clear he hm
    go_wp2_with fail
    go_ret2
    exact ⟨ret_two (vi (k := .u64) e1.out.symm) (vi e2.out.symm), e3.out⟩
  · by_cases hla : 281474976710656 ≤ last
    · have he : rgE l last n = 9 := by unfold rgE; rw [hm, if_neg (by simp), if_pos (by unfold maxE; exact hla)]
      have e1 := Lib.hid (rg_no he (by decide)).1
      have e2 := Lib.hid he
      have e3 := Lib.hid (RG.no he (by decide) HF.out HA.out)
      clear he hm
      go_wp2_with fail
      go_ret2
      exact ⟨ret_two (vi (k := .u64) e1.out.symm) (vi e2.out.symm), e3.out⟩
    · have HM := Lib.hid hm
      have hla' : ¬ maxE ≤ last := by unfold maxE; exact hla
      have HLA := Lib.hid hla'
      clear hm hla'
      obtain ⟨full, hfull⟩ : ∃ full : Bool, decide (¬ idxG l n < l.length ∧ 1024 ≤ l.length) = full := ⟨_, rfl⟩
      have HFU := Lib.hid hfull
      clear hfull
      go_upto_region 5 with fail
      change Code.wp _ _ _ _ (w.alloc (nmO n))
      go_cut [26] (fun t wc => t = .bool full ∧ Below (w.alloc (nmO n)).heap.size (w.alloc (nmO n)) wc)
      case first =>
        go_wp2_with fail
        refine (rfind_any R r v l last n _ HF.out (by omega)).mono ?_
        rintro e w2 ⟨rfl, hB⟩
        have HF2 := Lib.hid (HF.out.below hB)
        have HB := Lib.hid hB
        have hfn := findR_neg l n
        clear hB HF m1 m2 c1
        obtain ⟨a, cap, rfl, _, _⟩ := HF2.out.cap
        have c0 := HF2.out.c0
        by_cases hi : idxG l n < l.length
        · have hx : decide (findR l n < 0) = false := by rw [decide_eq_false_iff_not, hfn]; exact fun h => h hi
          have hu := Lib.hid (show full = false by rw [← HFU.out, decide_eq_false_iff_not]; exact fun h => h.1 hi)
          clear hfn hi HFU
          go_wp2_with fail
          go_meet
          exact ⟨by rw [hu.out], HB.out⟩
        · have hx : findR l n < 0 := hfn.2 hi
          by_cases h7 : (1024 : Int) ≤ l.length
          · have hu := Lib.hid (show full = true by rw [← HFU.out, decide_eq_true_iff]; exact ⟨hi, by omega⟩)
            clear hfn hi HFU
            go_wp2_with fail
            go_meet
            exact ⟨by rw [hu.out], HB.out⟩
          · have hu := Lib.hid (show full = false by rw [← HFU.out, decide_eq_false_iff_not]; exact fun h => by omega)
            clear hfn hi HFU
            go_wp2_with fail
            go_meet
            exact ⟨by rw [hu.out]; simp; omega, HB.out⟩
      case rest =>
        obtain ⟨rfl, hB⟩ := hcut
        have HF2 := Lib.hid (HF.out.below hB)
        have n1 := cell_keep hB m1
        have n2 := cell_keep hB m2
        have HB2 := Lib.hid (HA.out.trans (hB.mono HA.out.size))
        clear HF hB m1 m2 c1 HA
        cases full
        · have he : rgE l last n = 0 := by unfold rgE; rw [HM.out, if_neg (by simp), if_neg (by have := HLA.out; omega), if_neg (by simpa using HFU.out)]
          have e1 := Lib.hid (rg_yes he).1
          have e2 := Lib.hid he
          have e3 := Lib.hid (rg_yes he).2
          clear he HFU
          have c1 := HF2.out.c1
          have z1 := HF2.out.z 1
          have hsl : w.heap.size < wc.heap.size := World.block_lt_of_cell? _ _ n1
          go_upto_region 8 with fail
          have HF5 := Lib.hid (HF2.out.setLast (last + 1))
          have hx : ∀ o v, wc.cell? ⟨w.heap.size, o, none⟩ = some v → (wc.setCell ⟨r, 1, none⟩ (.int .u64 (last + 1))).cell? ⟨w.heap.size, o, none⟩ = some v := fun o v hv =>
            (World.cell?_setCell_other _ _ _ _ (by intro e; simp only [Addr.mk.injEq] at e; omega)).trans hv
          replace n1 := hx 0 _ n1
          replace n2 := hx 1 _ n2
          have HK : Hid (Fr (fun i => i = r) w (wc.setCell ⟨r, 1, none⟩ (.int .u64 (last + 1)))) := Lib.hid ((Fr.of_below (S := fun i => i = r) HB2.out).setCell (p := ⟨r, 1, none⟩) rfl _)
          have hsz : (wc.setCell ⟨r, 1, none⟩ (.int .u64 (last + 1))).heap.size = wc.heap.size := by simp [World.setCell]
          clear hx c1 z1 HF2 HB2
          generalize wc.setCell ⟨r, 1, none⟩ (.int .u64 (last + 1)) = wq at *
          have d1 := HF5.out.c1
          have hzl := HZL.out
          have hsl2 : w.heap.size < wq.drew.heap.size := by simpa using (by omega : w.heap.size < wq.heap.size)
          have hsr : ¬ w.heap.size = r := by omega
          refine wp_region_held_drew (S := fun x => x.cell? ⟨w.heap.size, 0, none⟩ = some (.int .u64 n.1) ∧ x.cell? ⟨w.heap.size, 1, none⟩ = some (.string n.2) ∧ x.cell? ⟨r, 1, none⟩ = some (.int .u64 (last + 1))) (by kernel_rfl) (⟨n1, n2, HF5.out.c1⟩) (fun hHeld => ?_)
          refine wpAnyH_take (i := 0) (oi := _) (v := ?_) (by rw [List.getElem?_toArray]; exact rfl) (by kernel_rfl) (by kernel_rfl) (by kernel_rfl) (by exact fun _ _ _ h => h) (Or.inl ⟨by rfl, ?_⟩) hHeld ?_
          rotate_left
          · (intro w hSw; have q0 := hSw.1; have q1 := hSw.2.1; have q2 := hSw.2.2; clear hSw; go_simp; try with_reducible rfl)
          try simp only [Act.put, List.setIfInBounds_toArray, List.set_cons_zero, List.set_cons_succ]
          refine wpAnyH_take (i := 1) (oi := _) (v := ?_) (by rw [List.getElem?_toArray]; exact rfl) (by kernel_rfl) (by kernel_rfl) (by kernel_rfl) (by exact fun _ _ _ h => h) (Or.inl ⟨by rfl, ?_⟩) hHeld ?_
          rotate_left
          · (intro w hSw; have q0 := hSw.1; have q1 := hSw.2.1; have q2 := hSw.2.2; clear hSw; go_simp; try with_reducible rfl)
          try simp only [Act.put, List.setIfInBounds_toArray, List.set_cons_zero, List.set_cons_succ]
          refine wpAnyH_take (i := 2) (oi := _) (v := ?_) (by rw [List.getElem?_toArray]; exact rfl) (by kernel_rfl) (by kernel_rfl) (by kernel_rfl) (by exact fun _ _ _ h => h) (Or.inl ⟨by rfl, ?_⟩) hHeld ?_
          rotate_left
          · (intro w hSw; have q0 := hSw.1; have q1 := hSw.2.1; have q2 := hSw.2.2; clear hSw; go_simp; try with_reducible rfl)
          try simp only [Act.put, List.setIfInBounds_toArray, List.set_cons_zero, List.set_cons_succ]
          refine wpAnyH_take (i := 3) (oi := _) (v := ?_) (by rw [List.getElem?_toArray]; exact rfl) (by kernel_rfl) (by kernel_rfl) (by kernel_rfl) (by exact fun _ _ _ h => h) (Or.inl ⟨by rfl, ?_⟩) hHeld ?_
          rotate_left
          · (intro w hSw; have q0 := hSw.1; have q1 := hSw.2.1; have q2 := hSw.2.2; clear hSw; go_simp; try with_reducible rfl)
          try simp only [Act.put, List.setIfInBounds_toArray, List.set_cons_zero, List.set_cons_succ]
          refine wpAnyH_take (i := 4) (oi := _) (v := ?_) (by rw [List.getElem?_toArray]; exact rfl) (by kernel_rfl) (by kernel_rfl) (by kernel_rfl) (by exact fun _ _ _ h => h) (Or.inl ⟨by rfl, ?_⟩) hHeld ?_
          rotate_left
          · (intro w hSw; have q0 := hSw.1; have q1 := hSw.2.1; have q2 := hSw.2.2; clear hSw; go_simp; try with_reducible rfl)
          try simp only [Act.put, List.setIfInBounds_toArray, List.set_cons_zero, List.set_cons_succ]
          refine wpAnyH_take (i := 5) (oi := _) (v := ?_) (by rw [List.getElem?_toArray]; exact rfl) (by kernel_rfl) (by kernel_rfl) (by kernel_rfl) (by exact fun _ _ _ h => h) (Or.inl ⟨by rfl, ?_⟩) hHeld ?_
          rotate_left
          · (intro w hSw; have q0 := hSw.1; have q1 := hSw.2.1; have q2 := hSw.2.2; clear hSw; go_simp; try with_reducible rfl)
          try simp only [Act.put, List.setIfInBounds_toArray, List.set_cons_zero, List.set_cons_succ]
          refine wpAnyH_take (i := 6) (oi := _) (v := ?_) (by rw [List.getElem?_toArray]; exact rfl) (by kernel_rfl) (by kernel_rfl) (by kernel_rfl) (by exact fun _ _ _ h => h) (Or.inl ⟨by rfl, ?_⟩) hHeld ?_
          rotate_left
          · (intro w hSw; have q0 := hSw.1; have q1 := hSw.2.1; have q2 := hSw.2.2; clear hSw; go_simp; try with_reducible rfl)
          try simp only [Act.put, List.setIfInBounds_toArray, List.set_cons_zero, List.set_cons_succ]
          refine wpAnyH_ready (rs := [7]) (by kernel_rfl) (by simp) ?_
          refine AllReadyH.cons (o := _) (by rw [List.getElem?_toArray]; exact rfl) (fun K hK => ?_) ?_
          rotate_left
          · exact AllReadyH.nil
          go_simp
          refine (rput_any R r v l (last + 1) (n, last + 1) _ (HF5.out.below (Below.refl _ _).drew) hl10 hzl hs).mono ?_; rintro e w7 ⟨rfl, v7, hF7, hFr7⟩
          go_wp2_with fail
          refine hK.out _ _ (⟨(hFr7.cell (p := ⟨w.heap.size, 0, none⟩) hsl2 hsr).trans n1, (hFr7.cell (p := ⟨w.heap.size, 1, none⟩) hsl2 hsr).trans n2, hF7.c1⟩) (fun hHeld => ?_)
          clear hK K
          try simp only [Act.put, List.setIfInBounds_toArray, List.set_cons_zero, List.set_cons_succ]
          refine wpAnyH_done (by kernel_rfl) ?_ _
          have HG : Hid (RG R r l last n w w7) := ⟨v7, by rw [e3.out.1, e3.out.2]; exact hF7, HK.out.trans ((Fr.of_below (Below.refl wq.heap.size wq).drew).trans hFr7)⟩
          have c7 := hF7.c1
          clear hHeld hF7 hFr7 HF5 HK n1 n2 d1
          go_wp2_with fail
          go_ret2
          exact ⟨ret_two (vi (k := .u64) e1.out.symm) (vi e2.out.symm), HG.out⟩
        · have he : rgE l last n = 6 := by unfold rgE; rw [HM.out, if_neg (by simp), if_neg (by have := HLA.out; omega), if_pos (by simpa using HFU.out)]
          have e1 := Lib.hid (rg_no he (by decide)).1
          have e2 := Lib.hid he
          have e3 := Lib.hid (RG.no he (by decide) HF2.out HB2.out)
          clear he HFU
          go_wp2_with fail
          go_ret2
          exact ⟨ret_two (vi (k := .u64) e1.out.symm) (vi e2.out.symm), e3.out⟩
end Go.Proofs.Ytbelafkklblidaa
