/- The document's example holds. -/
import Derived.Test.YtbelafkklblidaaEpoch11
namespace Go.Proofs.Ytbelafkklblidaa
open Go.RowKit Go.Sort Go.Lib

/-- Fences of the call's own. -/
structure Wk (w0 : World) (f m : Nat) (l : List Gr) (last : Int) (w : World) : Prop where
  hf : w0.heap.size ≤ f
  hm : w0.heap.size ≤ m
  fen : Fen w f m l last
  low : Below w0.heap.size w0 w
theorem Wk.below {w0 w w' : World} {f m : Nat} {l : List Gr} {last : Int} (h : Wk w0 f m l last w) (hB : Below w.heap.size w w') : Wk w0 f m l last w' :=
  ⟨h.hf, h.hm, h.fen.below hB, h.low.trans (hB.mono h.low.size)⟩
theorem Wk.fr {w0 w w' : World} {f m : Nat} {l l' : List Gr} {last last' : Int} (h : Wk w0 f m l last w) (hF : Fen w' f m l' last') (hB : Fr (InF f m) w w') : Wk w0 f m l' last' w' :=
  ⟨h.hf, h.hm, hF, h.low.trans (hB.below (fun i hi => by rcases hi with rfl | rfl; exact h.hf; exact h.hm) h.low.size)⟩
theorem Wk.granted {w0 w w' : World} {f m : Nat} {l : List Gr} {last : Int} {n : Nm} (h : Wk w0 f m l last w) (hG : Granted f m l last n w w') : Wk w0 f m (grantL l last n) (grantN l last n) w' :=
  h.fr hG.1 hG.2

set_option maxHeartbeats 400000 in
theorem at_any (p : ByteArray) (w : World) : Calls Try.prog 24 #[.string p] w fun e w' => e = .returned (.agg #[.int .u64 1, .string p]) ∧ Below w.heap.size w w' := by
  go_enter Try.func24, Try.ntmps24
  go_wp2_with fail
  refine bodyPost_ret (v := .agg #[.int .u64 1, .string p]) ?_ rfl ⟨rfl, (Below.refl _ _).alloc (Nat.le_refl _) _⟩
  simp [results, Try.results24, go_sem]

def k1 : List Gr := [((1, ⟨#[]⟩), 5)]
def k2 : List Gr := [((1, ⟨#[]⟩), 5), ((1, ⟨#[1]⟩), 6)]
def k3 : List Gr := [((1, ⟨#[]⟩), 5), ((1, ⟨#[1]⟩), 7)]

theorem wgrant {w0 w : World} {f m : Nat} {l l' : List Gr} {last last' : Int} (h : Wk w0 f m l last w) (p : ByteArray) (hs : p.size ≤ 9223372036854775807) (h0 : 0 ≤ last) (hl : (l.length : Int) ≤ 9223372036854775807)
    (he : grantE l last (1, p) = 0) (h1 : grantV l last (1, p) = last') (h2 : grantL l last (1, p) = l') (h3 : grantN l last (1, p) = last') :
    Calls Try.prog 11 #[.pointer (some ⟨f, 0, none⟩), .agg #[.int .u64 1, .string p]] w fun e w' => e = .returned (.tuple #[.int .u64 last', .int .i64 0]) ∧ Wk w0 f m l' last' w' := by
  refine (grant_any f m l last (1, p) w h.fen hs h0 hl).mono ?_
  rintro e w' ⟨rfl, hG⟩
  have := h.granted hG
  rw [h2, h3] at this
  exact ⟨ret_two (vi h1) (vi he), this⟩
theorem wallows {w0 w : World} {f m : Nat} {l : List Gr} {last : Int} (h : Wk w0 f m l last w) (p : ByteArray) (x r : Int) (hs : p.size ≤ 9223372036854775807) (hr : allowE l (1, p) x = r) :
    Calls Try.prog 19 #[.pointer (some ⟨f, 0, none⟩), .agg #[.int .u64 1, .string p], .int .u64 x] w fun e w' => e = .returned (.int .i64 r) ∧ Wk w0 f m l last w' := by
  refine (allows_any f m l last (1, p) x w h.fen hs).mono ?_
  rintro e w' ⟨rfl, hB⟩
  exact ⟨ret_int hr, h.below hB⟩
theorem wlast {w0 w : World} {f m : Nat} {l : List Gr} {last : Int} (h : Wk w0 f m l last w) :
    Calls Try.prog 21 #[.pointer (some ⟨f, 0, none⟩)] w fun e w' => e = .returned (.int .u64 last) ∧ Wk w0 f m l last w' := by
  refine (last_call f m l last w h.fen).mono ?_
  rintro e w' ⟨rfl, rfl⟩
  exact ⟨rfl, h⟩
theorem wrows {w0 w : World} {f m : Nat} {l : List Gr} {last : Int} {n : Nat} (h : Wk w0 f m l last w) (hl : l.length ≤ 1000000) (hn : l.length = n) :
    Calls Try.prog 22 #[.pointer (some ⟨f, 0, none⟩)] w fun e w' => ∃ a cap, e = .returned (.slice a n cap) ∧ Wk w0 f m l last w' := by
  refine (rows_any f m l last w h.fen hl).mono ?_
  rintro e w' ⟨v, rfl, ho, hB⟩
  have hll : (sortG l).length = n := (sortG_perm l).length_eq.trans hn
  obtain ⟨_, ⟨hv, hz⟩ | ⟨g, cap, cur, hv, _⟩⟩ := ho
  · exact ⟨none, 0, by rw [hv, ← hll, hz], h.below hB⟩
  · exact ⟨_, _, by rw [hv, hll], h.below hB⟩

theorem g1 : grantE [] 4 (1, ⟨#[]⟩) = 0 ∧ grantV [] 4 (1, ⟨#[]⟩) = 5 ∧ grantL [] 4 (1, ⟨#[]⟩) = k1 ∧ grantN [] 4 (1, ⟨#[]⟩) = 5 := by decide +kernel
theorem g2 : grantE k1 5 (1, ⟨#[1]⟩) = 0 ∧ grantV k1 5 (1, ⟨#[1]⟩) = 6 ∧ grantL k1 5 (1, ⟨#[1]⟩) = k2 ∧ grantN k1 5 (1, ⟨#[1]⟩) = 6 := by decide +kernel
theorem g3 : grantE k2 6 (1, ⟨#[1]⟩) = 0 ∧ grantV k2 6 (1, ⟨#[1]⟩) = 7 ∧ grantL k2 6 (1, ⟨#[1]⟩) = k3 ∧ grantN k2 6 (1, ⟨#[1]⟩) = 7 := by decide +kernel
theorem a1 : allowE k2 (1, ⟨#[1, 1]⟩) 6 = 0 := by decide +kernel
theorem a2 : allowE k2 (1, ⟨#[2]⟩) 6 = 220 := by decide +kernel
theorem a3 : allowE k3 (1, ⟨#[1, 1]⟩) 6 = 220 := by decide +kernel
theorem a4 : allowE k3 (1, ⟨#[1, 1]⟩) 7 = 0 := by decide +kernel

set_option maxHeartbeats 1600000 in
set_option maxRecDepth 100000 in
theorem works_any (w : World) : Calls Try.prog 8 #[] w fun e w' => e = .returned (.bool true) ∧ Below w.heap.size w w' := by
  go_enter Try.func8, Try.ntmps8
  go_wp2_with fail
  refine (new_empty 4 _ (by decide)).mono ?_
  rintro e w1 ⟨f, m, rfl, hf, hm, hF, hB⟩
  have HW : Hid (Wk w f m [] 4 w1) := ⟨hf, hm, hF, hB⟩
  clear hf hm hF hB
  go_wp2_with fail
  refine (at_any _ _).mono ?_; rintro e w2 ⟨rfl, hB⟩; replace HW := Lib.hid (HW.out.below hB); clear hB
  go_wp2_with fail
  refine (wgrant HW.out ⟨#[]⟩ (by decide) (by decide) (by decide) g1.1 g1.2.1 g1.2.2.1 g1.2.2.2).mono ?_
  clear HW; rintro e w3 ⟨rfl, HW⟩; replace HW := Lib.hid HW
  go_wp2_with fail
  refine (at_any _ _).mono ?_; rintro e w4 ⟨rfl, hB⟩; replace HW := Lib.hid (HW.out.below hB); clear hB
  go_wp2_with fail
  refine (wgrant HW.out ⟨#[1]⟩ (by decide) (by decide) (by decide) g2.1 g2.2.1 g2.2.2.1 g2.2.2.2).mono ?_
  clear HW; rintro e w5 ⟨rfl, HW⟩; replace HW := Lib.hid HW
  go_wp2_with fail
  refine (at_any _ _).mono ?_; rintro e w6 ⟨rfl, hB⟩; replace HW := Lib.hid (HW.out.below hB); clear hB
  go_wp2_with fail
  refine (wallows HW.out ⟨#[1, 1]⟩ 6 0 (by decide) a1).mono ?_
  clear HW; rintro e w7 ⟨rfl, HW⟩; replace HW := Lib.hid HW
  go_wp2_with fail
  refine (at_any _ _).mono ?_; rintro e w8 ⟨rfl, hB⟩; replace HW := Lib.hid (HW.out.below hB); clear hB
  go_wp2_with fail
  refine (wallows HW.out ⟨#[2]⟩ 6 220 (by decide) a2).mono ?_
  clear HW; rintro e w9 ⟨rfl, HW⟩; replace HW := Lib.hid HW
  go_wp2_with fail
  refine (at_any _ _).mono ?_; rintro e w10 ⟨rfl, hB⟩; replace HW := Lib.hid (HW.out.below hB); clear hB
  go_wp2_with fail
  refine (wgrant HW.out ⟨#[1]⟩ (by decide) (by decide) (by decide) g3.1 g3.2.1 g3.2.2.1 g3.2.2.2).mono ?_
  clear HW; rintro e w11 ⟨rfl, HW⟩; replace HW := Lib.hid HW
  go_wp2_with fail
  refine (at_any _ _).mono ?_; rintro e w12 ⟨rfl, hB⟩; replace HW := Lib.hid (HW.out.below hB); clear hB
  go_wp2_with fail
  refine (wallows HW.out ⟨#[1, 1]⟩ 6 220 (by decide) a3).mono ?_
  clear HW; rintro e w13 ⟨rfl, HW⟩; replace HW := Lib.hid HW
  go_wp2_with fail
  refine (at_any _ _).mono ?_; rintro e w14 ⟨rfl, hB⟩; replace HW := Lib.hid (HW.out.below hB); clear hB
  go_wp2_with fail
  refine (wallows HW.out ⟨#[1, 1]⟩ 7 0 (by decide) a4).mono ?_
  clear HW; rintro e w15 ⟨rfl, HW⟩; replace HW := Lib.hid HW
  go_wp2_with fail
  refine (wlast HW.out).mono ?_
  clear HW; rintro e w16 ⟨rfl, HW⟩; replace HW := Lib.hid HW
  go_wp2_with fail
  refine (wrows (n := 2) HW.out (by decide) rfl).mono ?_
  clear HW; rintro e w17 ⟨a, cap, rfl, HW⟩; replace HW := Lib.hid HW
  go_wp2_with fail
  go_ret
  exact ⟨ret_bool rfl, HW.out.low⟩
end Go.Proofs.Ytbelafkklblidaa
