/- Drop. -/
import Derived.Test.YtenebamecmblaaaRnd4
namespace Go.Proofs.Ytenebamecmblaaa
open Go.RowKit Go.Sort Go.Lib

def encU1 (x : Int) : List Value := [.int .u64 x]
def dropA (A : AB) : List Int → AB
  | [] => A
  | n :: l => dropA (U.delL A n) l
def dropN (A : AB) : List Int → Nat
  | [] => 0
  | n :: l => (if (U.getL A n).isSome then 1 else 0) + dropN (U.delL A n) l
theorem delL_absR (L : Rd) (n : Int) : absR (U.delL L n) = U.delL (absR L) n := by
  unfold absR U.delL
  rw [List.filter_map]; rfl
theorem delL_none {V : Type} {L : List (Int × V)} {n : Int} (h : U.getL L n = none) : U.delL L n = L := by
  unfold U.delL
  rw [List.filter_eq_self]
  intro p hp
  simpa using U.getL_none_iffV.1 h p hp
theorem dropN_le (A : AB) : ∀ l : List Int, dropN A l ≤ l.length
  | [] => Nat.le_refl _
  | n :: l => by unfold dropN; have := dropN_le (U.delL A n) l; rw [List.length_cons]; split <;> omega
set_option maxHeartbeats 3200000 in
set_option maxRecDepth 100000 in
theorem drop_rnd (r m : Nat) (L : Rd) (l : List Int) (v : Value) (w : World) (h : Rds w r m L) (hv : ReadsK encU1 1 w v l) (hs : ∀ a n c, v = .slice (some a) n c → ¬ RS m L a.block) (hl : l.length ≤ 1000000) :
    Calls Try.prog 9 #[.pointer (some ⟨r, 0, none⟩), v] w fun e w' => e = .returned (.int .i64 (dropN (absR L) l : Nat)) ∧ Nxt r m L w (dropA (absR L) l) w' := by
  obtain ⟨a, c, rfl⟩ := hv.slice
  have H := Lib.hid h
  have HV := Lib.hid hv
  have HS := Lib.hid hs
  obtain ⟨DA, hDA⟩ : ∃ DA, dropA (absR L) l = DA := ⟨_, rfl⟩
  obtain ⟨DN, hDN⟩ : ∃ DN, dropN (absR L) l = DN := ⟨_, rfl⟩
  have HDA := Lib.hid hDA
  have HDN := Lib.hid hDN
  rw [hDA, hDN]
  clear h hv hs hDA hDN
  go_enter Try.func9, Try.ntmps9
  go_wp2_with fail
  go_loopg [4, 9] l.length (fun gk cnt i wr => ∃ (k : Nat) (L' : Rd) (c : Nat), gk + k = l.length ∧ cnt = .int .i64 c ∧ i = .int .i64 k ∧ Rds wr r m L' ∧ Mv m L w L' wr ∧ dropA (absR L') (l.drop k) = DA ∧ c + dropN (absR L') (l.drop k) = DN ∧ c ≤ k)
  case atStart => exact ⟨0, L, 0, by omega, rfl, rfl, H.out, .below m L (Below.refl _ _), HDA.out, by rw [List.drop_zero, Nat.zero_add]; exact HDN.out, Nat.le_refl _⟩
  case round =>
    obtain ⟨k, L', cn, hk, rfl, rfl, h', hM, hA, hN, hck⟩ := hrel
    have H' := Lib.hid h'
    have HM := Lib.hid hM
    have HA := Lib.hid hA
    have HN := Lib.hid hN
    clear h' hM hA hN
    by_cases hlt : k < l.length
    · obtain ⟨b, off, cc, he, hb, hc⟩ := (HV.out.fr HM.out.fr HS.out).at (by omega)
      injection he with he1 he2 he3
      subst he1
      have k1 : wr.cell? ⟨b, off + k, none⟩ = some (.int .u64 l[k]) := by have h := hc k hlt 0 _ rfl; rw [Nat.mul_one, Nat.add_zero] at h; exact h
      clear hc hb he2 he3
      have HDR : Hid (l.drop k = l[k] :: l.drop (k + 1)) := List.drop_eq_getElem_cons hlt
      obtain ⟨n, hn⟩ : ∃ n, l[k] = n := ⟨_, rfl⟩
      rw [hn] at k1 HDR
      clear hn
      go_wp2_with fail
      refine (of_rnd r m L' n _ H'.out).mono ?_
      rintro e w2 ⟨rfl, hw2⟩
      subst hw2
      clear k1
      unfold ptrR
      cases hg : U.getL L' n with
      | none =>
        simp only [Option.map_none]
        have HG := Lib.hid hg
        clear hg
        go_wp2_with fail
        go_roundg (gk - 1)
        case rel => exact ⟨k + 1, L', cn, by omega, rfl, by go_num, H'.out, HM.out, by
          have := HA.out; rw [HDR.out] at this; unfold dropA at this; rwa [delL_none (by rw [getL_absR, HG.out]; rfl)] at this, by
          have := HN.out; rw [HDR.out] at this; unfold dropN at this; rw [delL_none (by rw [getL_absR, HG.out]; rfl), getL_absR, HG.out] at this; simpa using this, by omega⟩
        case measure => omega
      | some x =>
        simp only [Option.map_some]
        have HG := Lib.hid hg
        clear hg
        have c0 := H'.out.c0
        obtain ⟨w9, hrun, hM9, hO9, _⟩ := H'.out.map.delete (P := Try.prog) U.nameTy Try.underlying60 n 0
        unfold U.encN at hrun
        have HL9 := Lib.hid (H'.out.less n hO9 hM9)
        clear hM9 hO9
        go_wp2_with fail
        go_roundg (gk - 1)
        case rel => exact ⟨k + 1, U.delL L' n, cn + 1, by omega, by go_num, by go_num, HL9.out.1, HM.out.trans HL9.out.2, by
          have := HA.out; rw [HDR.out] at this; unfold dropA at this; rwa [delL_absR], by
          have := HN.out; rw [HDR.out] at this; unfold dropN at this; rw [getL_absR, HG.out, Option.map_some, Option.isSome_some, if_pos rfl] at this; rw [delL_absR]; omega, by omega⟩
        case measure => omega
    · have hd : l.drop k = [] := List.drop_eq_nil_of_le (by omega)
      have hA2 := HA.out
      have hN2 := HN.out
      rw [hd] at hA2 hN2
      have HE := Lib.hid (show cn = DN from hN2)
      have HX := Lib.hid (show absR L' = DA from hA2)
      clear hA2 hN2 hd
      go_wp2_with fail
      go_ret
      exact ⟨ret_intE (by rw [HE.out]), L', HX.out, H'.out, HM.out⟩
end Go.Proofs.Ytenebamecmblaaa
