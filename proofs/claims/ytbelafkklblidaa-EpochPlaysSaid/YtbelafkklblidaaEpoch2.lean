/- Contracts of package epoch: Grant, Last. -/
import Derived.Test.YtbelafkklblidaaEpoch1
import Derived.Test.YtbelafkklblidaaRef12b
import Derived.Deep.DeepCutAuto
namespace Go.Proofs.Ytbelafkklblidaa
open Go.RowKit

def maxE : Int := 281474976710656
/-- Which of Grant's four tests strikes: its error's number; 0: none. -/
def grantE (l : List (Nm × Int)) (last : Int) (n : Nm) : Int :=
  if mayS n.2 = false then 2 else if maxE ≤ last then 9 else if valU l n = 0 ∧ 1024 ≤ l.length then 6 else 0
def grantV (l : List (Nm × Int)) (last : Int) (n : Nm) : Int := if grantE l last n = 0 then last + 1 else 0
def grantL (l : List (Nm × Int)) (last : Int) (n : Nm) : List (Nm × Int) := if grantE l last n = 0 then putL l n (last + 1) else l
def grantN (l : List (Nm × Int)) (last : Int) (n : Nm) : Int := if grantE l last n = 0 then last + 1 else last

theorem grant_no {l : List (Nm × Int)} {last : Int} {n : Nm} {k : Int} (h : grantE l last n = k) (hk : k ≠ 0) : grantV l last n = 0 ∧ grantL l last n = l ∧ grantN l last n = last := by
  unfold grantV grantL grantN; rw [h]; simp [hk]
theorem grant_yes {l : List (Nm × Int)} {last : Int} {n : Nm} (h : grantE l last n = 0) : grantV l last n = last + 1 ∧ grantL l last n = putL l n (last + 1) ∧ grantN l last n = last + 1 := by
  unfold grantV grantL grantN; rw [h]; simp

/-- What Grant leaves. -/
def Granted (f m : Nat) (l : List (Nm × Int)) (last : Int) (n : Nm) (w w' : World) : Prop := Fen w' f m (grantL l last n) (grantN l last n) ∧ Fr (InF f m) w w'
theorem granted_no {f m : Nat} {l : List (Nm × Int)} {last : Int} {n : Nm} {w w' : World} {k : Int} (h : grantE l last n = k) (hk : k ≠ 0) (hF : Fen w' f m l last) (hB : Below w.heap.size w w') : Granted f m l last n w w' := by
  unfold Granted; rw [(grant_no h hk).2.1, (grant_no h hk).2.2]; exact ⟨hF, .of_below hB⟩

set_option maxHeartbeats 1600000 in
set_option maxRecDepth 100000 in
theorem grant_any (f m : Nat) (l : List (Nm × Int)) (last : Int) (n : Nm) (w : World) (h : Fen w f m l last) (hs : n.2.size ≤ 9223372036854775807) (h0 : 0 ≤ last) (hl : (l.length : Int) ≤ 9223372036854775807) :
    Calls Try.prog 11 #[.pointer (some ⟨f, 0, none⟩), .agg #[.int .u64 n.1, .string n.2]] w fun e w' =>
      e = .returned (.tuple #[.int .u64 (grantV l last n), .int .i64 (grantE l last n)]) ∧ Granted f m l last n w w' := by
  have hB1 : Below w.heap.size w (w.alloc (.cells #[.int .u64 n.1, .string n.2] 35)) := (Below.refl _ _).alloc (Nat.le_refl _) _
  have h1 := h.below hB1
  have c0 := h1.c0
  have hlt := h.lt
  have H1 := Lib.hid h1
  clear h h1
  have hmn := mapNil
  go_enter Try.func11, Try.ntmps11
  go_wp2_with fail
  refine (may_any n.2 _ hs).mono ?_
  rintro e w1 ⟨rfl, hB2⟩
  have hF := Lib.hid (H1.out.below hB2)
  have n1 : w1.cell? ⟨w.heap.size, 0, none⟩ = some (.int .u64 n.1) := (hB2.cell (p := ⟨w.heap.size, 0, none⟩) (by simp)).trans (by simp)
  have n2 : w1.cell? ⟨w.heap.size, 1, none⟩ = some (.string n.2) := (hB2.cell (p := ⟨w.heap.size, 1, none⟩) (by simp)).trans (by simp)
  have hsz : w.heap.size < w1.heap.size := by have := hB2.size; simp at this; omega
  have hB := hB1.trans (hB2.mono (by simp))
  clear hB1 hB2 c0
  cases hm : mayS n.2
  · have he : grantE l last n = 2 := by simp [grantE, hm]
    have e1 := Lib.hid (grant_no he (by decide)).1
    have e2 := Lib.hid he
    have e3 := Lib.hid (granted_no he (by decide) hF.out hB)
    clear he hm
    go_wp2_with fail
    go_ret2
    exact ⟨ret_two (vi (k := .u64) e1.out.symm) (vi e2.out.symm), e3.out⟩
  · have c0 := hF.out.c0
    have c1 := hF.out.c1
    have z1 := hF.out.z 1
    by_cases hla : 281474976710656 ≤ last
    · have he : grantE l last n = 9 := by simp [grantE, hm, maxE, hla]
      have e1 := Lib.hid (grant_no he (by decide)).1
      have e2 := Lib.hid he
      have e3 := Lib.hid (granted_no he (by decide) hF.out hB)
      clear he hm
      go_wp2_with fail
      go_ret2
      exact ⟨ret_two (vi (k := .u64) e1.out.symm) (vi e2.out.symm), e3.out⟩
    · have hmm := Lib.hid hm
      clear hm
      have hlk := fun q => (hF.out.drewN q).look n
      have hln := fun q ty => (hF.out.drewN q).map.len (P := Try.prog) (k := 35) Try.underlying59 ty
      obtain ⟨full, hfull⟩ : ∃ full : Bool, (decide (valU l n = 0) && decide (1024 ≤ l.length)) = full := ⟨_, rfl⟩
      have HFU := Lib.hid hfull
      clear hfull
      go_upto_region 7 with fail
      go_cut [27] (fun s wc => s = .bool full ∧ Drew w1 wc)
      case first =>
        by_cases hz : valU l n = 0
        · have hzb : (valU l n == 0) = true := by simp [hz]
          have hfu : decide (1024 ≤ (l.length : Int)) = full := by rw [← HFU.out]; simp [hz]; omega
          clear hz
          go_wp2_with fail
          go_quiet (fail)
          go_wp2_with fail
          go_meet
          exact ⟨by rw [← hfu], ⟨_, rfl⟩⟩
        · have hzb : (valU l n == 0) = false := by simpa using hz
          have hfu := Lib.hid (show full = false by rw [← HFU.out]; simp [hz])
          clear hz
          go_wp2_with fail
          go_quiet (fail)
          go_wp2_with fail
          go_meet
          exact ⟨by rw [hfu.out], ⟨_, rfl⟩⟩
      case rest =>
        obtain ⟨rfl, q, rfl⟩ := hcut
        cases full
        · have he : grantE l last n = 0 := by
            have := HFU.out; simp at this
            unfold grantE; rw [hmm.out, if_neg (by simp), if_neg (by unfold maxE; omega), if_neg (by intro h; have := this h.1; omega)]
          have e1 := Lib.hid (grant_yes he).1
          have e2 := Lib.hid he
          have e3 := Lib.hid (grant_yes he).2
          clear he hlk hln
          go_wp2_with fail
          have hF2 := Lib.hid ((hF.out.drewN q).setLast (last + 1))
          have hK : Fr (InF f m) w ((w1.drewN q).setCell ⟨f, 1, none⟩ (.int .u64 (last + 1))) := (Fr.of_below (below_drewN hB q)).setCell (p := ⟨f, 1, none⟩) (.inl rfl) _
          have hx : ∀ o v, w1.cell? ⟨w.heap.size, o, none⟩ = some v → ((w1.drewN q).setCell ⟨f, 1, none⟩ (.int .u64 (last + 1))).cell? ⟨w.heap.size, o, none⟩ = some v := fun o v hv =>
            (World.cell?_setCell_other _ _ _ _ (by intro e; simp only [Addr.mk.injEq] at e; omega)).trans hv
          replace n1 := hx 0 _ n1
          replace n2 := hx 1 _ n2
          clear hx
          generalize (w1.drewN q).setCell ⟨f, 1, none⟩ (.int .u64 (last + 1)) = wq at *
          replace c0 := hF2.out.c0
          replace c1 := hF2.out.c1
          have z1 := hF2.out.z 1
          clear hF hB hsz
          obtain ⟨w2, hrun, hM, hO⟩ := hF2.out.drew.map.update nameTy Try.underlying59 n (last + 1)
          unfold encN evU at hrun
          have hF3 := Lib.hid (hF2.out.drew.onMap hO hM)
          have hK3 := Lib.hid (hK.drew.only hO (.inr rfl))
          have d1 := hF3.out.c1
          clear hM hO hK
          go_region
          all_goals
            go_wp2_with fail
            go_ret2
            exact ⟨ret_two (vi (k := .u64) e1.out.symm) (vi e2.out.symm), by rw [e3.out.1, e3.out.2]; exact hF3.out, hK3.out⟩
        · have he : grantE l last n = 6 := by
            have := HFU.out; simp at this
            unfold grantE; rw [hmm.out, if_neg (by simp), if_neg (by unfold maxE; omega), if_pos ⟨this.1, this.2⟩]
          have e1 := Lib.hid (grant_no he (by decide)).1
          have e2 := Lib.hid he
          have e3 := Lib.hid (granted_no he (by decide) (hF.out.drewN q) (below_drewN hB q))
          clear he
          go_wp2_with fail
          go_ret2
          exact ⟨ret_two (vi (k := .u64) e1.out.symm) (vi e2.out.symm), e3.out⟩
end Go.Proofs.Ytbelafkklblidaa
