/- The document's example holds. -/
import Derived.Test.YtibfcoaiodmimaaWant3
import Derived.Test.YtibfcoaiodmimaaReads
namespace Go.Proofs.Ytibfcoaiodmimaa
open Go.RowKit Go.Sort Go.Lib Go.Shelf

/-- A ledger of the call's own. -/
structure Wk (w0 : World) (f m : Nat) (most : Int) (l : List (Nm × Ent)) (w : World) : Prop where
  hf : w0.heap.size ≤ f
  hm : w0.heap.size ≤ m
  led : Led w f m most l
  low : Below w0.heap.size w0 w
theorem Wk.below {w0 w w' : World} {f m : Nat} {most : Int} {l : List (Nm × Ent)} (h : Wk w0 f m most l w) (hB : Below w.heap.size w w') : Wk w0 f m most l w' :=
  ⟨h.hf, h.hm, h.led.below hB, h.low.trans (hB.mono h.low.size)⟩
theorem Wk.cmd {w0 w w' : World} {f m : Nat} {most : Int} {l : List (Nm × Ent)} {x : Ent} (h : Wk w0 f m most l w) (hC : Cmd f m most l x w w') : Wk w0 f m most (cmL l most x) w' :=
  ⟨h.hf, h.hm, hC.1, h.low.trans (hC.2.below (fun i hi => by rcases hi with rfl | rfl; exact h.hf; exact h.hm) h.low.size)⟩
theorem ret_be {b c : Bool} {x y : Int} (h : b = c) (h' : x = y) : Ending.returned (.tuple #[.bool b, .int .i64 x]) = Ending.returned (.tuple #[.bool c, .int .i64 y]) := by rw [h, h']
theorem wcommit {w0 w : World} {f m : Nat} {most : Int} {l l' : List (Nm × Ent)} {b : Bool} {c : Int} (h : Wk w0 f m most l w) (x : Ent) (hs : x.1.2.size ≤ 9223372036854775807) (hl : (l.length : Int) ≤ 9223372036854775807) (ha : cmA l most x = (b, c)) (hl' : cmL l most x = l') :
    Calls Try.prog 9 #[.pointer (some ⟨f, 0, none⟩), .agg #[.int .u64 x.1.1, .string x.1.2, .int .i64 x.2.1, .int .i64 x.2.2.1, .int .i64 x.2.2.2]] w fun e w' =>
      e = .returned (.tuple #[.bool b, .int .i64 c]) ∧ Wk w0 f m most l' w' ∧ Fr (InF f m) w w' := by
  refine (commit_led f m most l x w h.led hs hl).mono ?_
  rintro e w' ⟨rfl, hC⟩
  have := h.cmd hC
  rw [hl'] at this
  exact ⟨ret_be (by rw [ha]) (by rw [ha]), this, hC.2⟩
theorem own_at {α : Type} {w : World} {B : Nat} {E : TypeId} {k : Nat} {enc : α → List Value} {v : Value} {l : List α} (h : w.ownsRow B E k v l.length (l.flatMap enc)) : ∃ a c, v = .slice a l.length c := by
  obtain ⟨_, ⟨hv, hz⟩ | ⟨g, cap, cur, hv, _⟩⟩ := h
  · exact ⟨none, 0, by rw [hv, hz]⟩
  · exact ⟨_, _, hv⟩
def x1 : Ent := ((1, ⟨#[]⟩), (2, (0, 0)))
def x2 : Ent := ((1, ⟨#[2]⟩), (0, (0, 0)))
def x3 : Ent := ((1, ⟨#[2]⟩), (0, (1, 0)))
def x4 : Ent := ((1, ⟨#[1]⟩), (0, (0, 0)))
def k1 : List (Nm × Ent) := [(x1.1, x1)]
def k2 : List (Nm × Ent) := [(x1.1, x1), (x2.1, x2)]
def k3 : List (Nm × Ent) := [(x1.1, x1), (x2.1, x2), (x4.1, x4)]
theorem s1 : cmA [] 9 x1 = (true, 0) ∧ cmL [] 9 x1 = k1 := by decide +kernel
theorem s2 : cmA k1 9 x2 = (true, 0) ∧ cmL k1 9 x2 = k2 := by decide +kernel
theorem s3 : cmA k2 9 x2 = (false, 0) ∧ cmL k2 9 x2 = k2 := by decide +kernel
theorem s4 : cmA k2 9 x3 = (false, 240) ∧ cmL k2 9 x3 = k2 := by decide +kernel
theorem s5 : cmA k2 9 x4 = (true, 0) ∧ cmL k2 9 x4 = k3 := by decide +kernel
theorem good_snoc {l : List (Nm × Ent)} {x : Ent} (h : GoodL l) (hx : badX x = false) : GoodL (l ++ [(x.1, x)]) := by
  intro p hp
  rcases List.mem_append.1 hp with hp | hp
  · exact h p hp
  · rw [List.mem_singleton] at hp; rw [hp]; exact hx
theorem gk2 : GoodL k2 := good_snoc (l := k1) (good_snoc (l := []) (by intro p hp; cases hp) (by decide +kernel)) (by decide +kernel)
theorem gk3 : GoodL k3 := good_snoc (l := k2) gk2 (by decide +kernel)
theorem m1 : wantR (1, ⟨#[]⟩) k2 = [⟨#[1]⟩] ∧ (wantP k2 1 13 ⟨#[]⟩).length ≤ 1000000 := by decide +kernel
theorem m2 : wholeR (1, ⟨#[]⟩) k3 = true ∧ (wantP k3 1 13 ⟨#[]⟩).length ≤ 1000000 := by decide +kernel
theorem undR_len {root : Nm} {l : List (Nm × Ent)} (h : mayS root.2 = true) : (undR root l).length = (undA root l).length := by
  unfold undR; rw [if_pos h]; exact (sortE_perm _).length_eq
theorem m3 : (undR (1, ⟨#[]⟩) k3).length = 3 := (undR_len (by decide +kernel)).trans (by decide +kernel)

set_option maxHeartbeats 3200000 in
set_option maxRecDepth 100000 in
theorem works_any (w : World) : Calls Try.prog 7 #[] w fun e w' => e = .returned (.bool true) ∧ Below w.heap.size w w' := by
  go_enter Try.func7, Try.ntmps7
  go_wp2_with fail
  refine (new_led 9 _ (by decide) (by decide)).mono ?_
  rintro e w1 ⟨f, m, rfl, hf, hm, hF, hB⟩
  have HW : Hid (Wk w f m 9 [] w1) := ⟨hf, hm, hF, hB⟩
  clear hf hm hF hB
  go_wp2_with fail
  refine (at_any _ _).mono ?_; rintro e w2 ⟨rfl, hB⟩; replace HW := Lib.hid (HW.out.below hB); clear hB
  go_wp2_with fail
  refine (wcommit HW.out x1 (by decide) (by decide) s1.1 s1.2).mono ?_
  clear HW; rintro e w3 ⟨rfl, HW, -⟩; replace HW := Lib.hid HW
  go_wp2_with fail
  refine (at_any _ _).mono ?_; rintro e w4 ⟨rfl, hB⟩; replace HW := Lib.hid (HW.out.below hB); clear hB
  go_wp2_with fail
  refine (wcommit HW.out x2 (by decide) (by decide) s2.1 s2.2).mono ?_
  clear HW; rintro e w5 ⟨rfl, HW, -⟩; replace HW := Lib.hid HW
  go_wp2_with fail
  refine (at_any _ _).mono ?_; rintro e w6 ⟨rfl, hB⟩; replace HW := Lib.hid (HW.out.below hB); clear hB
  go_wp2_with fail
  refine (wants_led f m 9 k2 (1, ⟨#[]⟩) _ HW.out.led gk2 m1.2 (by decide)).mono ?_
  rintro e w7 ⟨v, rfl, ho, hB⟩
  rw [m1.1] at ho
  have HR := own_readsV ho
  have hlow := ho.lt
  obtain ⟨g, off, cap, hv, hgl, hc⟩ := HR.at (by decide)
  have hcg := hc 0 (by decide) 0 _ rfl
  simp only [Nat.zero_mul, Nat.add_zero] at hcg
  have hgn : Hid (¬ InF f m g) := by
    have hg := (hlow g (by rw [hv]; rfl)).1
    have := HW.out.led.lt
    rintro (rfl | rfl) <;> omega
  subst hv
  have HG : Hid (g < w7.heap.size ∧ w7.cell? ⟨g, off, none⟩ = some (.string ⟨#[1]⟩)) := ⟨hgl, hcg⟩
  replace HW := Lib.hid (HW.out.below hB)
  clear hB ho hlow HR hc hcg hgl
  have gB : ∀ (a b : World), Below a.heap.size a b → (g < a.heap.size ∧ a.cell? ⟨g, off, none⟩ = some (.string ⟨#[1]⟩)) → (g < b.heap.size ∧ b.cell? ⟨g, off, none⟩ = some (.string ⟨#[1]⟩)) := fun a b h k => ⟨Nat.lt_of_lt_of_le k.1 h.size, cell_keep h k.2⟩
  have gF : ∀ (a b : World), Fr (InF f m) a b → (g < a.heap.size ∧ a.cell? ⟨g, off, none⟩ = some (.string ⟨#[1]⟩)) → (g < b.heap.size ∧ b.cell? ⟨g, off, none⟩ = some (.string ⟨#[1]⟩)) := fun a b h k => ⟨Nat.lt_of_lt_of_le k.1 h.size, (h.cell (p := ⟨g, off, none⟩) k.1 hgn.out).trans k.2⟩
  have GB := Lib.hid gB; have GF := Lib.hid gF
  clear gB gF
  go_wp2_with fail
  refine (at_any _ _).mono ?_; rintro e w8 ⟨rfl, hB⟩; replace HW := Lib.hid (HW.out.below hB); replace HG := Lib.hid (GB.out _ _ hB HG.out); clear hB
  go_wp2_with fail
  refine (wcommit HW.out x2 (by decide) (by decide) s3.1 s3.2).mono ?_
  clear HW; rintro e w9 ⟨rfl, HW, hF⟩; replace HW := Lib.hid HW; replace HG := Lib.hid (GF.out _ _ hF HG.out); clear hF
  go_wp2_with fail
  refine (at_any _ _).mono ?_; rintro e w10 ⟨rfl, hB⟩; replace HW := Lib.hid (HW.out.below hB); replace HG := Lib.hid (GB.out _ _ hB HG.out); clear hB
  go_wp2_with fail
  refine (wcommit HW.out x3 (by decide) (by decide) s4.1 s4.2).mono ?_
  clear HW; rintro e w11 ⟨rfl, HW, hF⟩; replace HW := Lib.hid HW; replace HG := Lib.hid (GF.out _ _ hF HG.out); clear hF
  go_wp2_with fail
  refine (at_any _ _).mono ?_; rintro e w12 ⟨rfl, hB⟩; replace HW := Lib.hid (HW.out.below hB); replace HG := Lib.hid (GB.out _ _ hB HG.out); clear hB
  go_wp2_with fail
  refine (wcommit HW.out x4 (by decide) (by decide) s5.1 s5.2).mono ?_
  clear HW; rintro e w13 ⟨rfl, HW, hF⟩; replace HW := Lib.hid HW; replace HG := Lib.hid (GF.out _ _ hF HG.out); clear hF
  have hcg := HG.out.2
  go_wp2_with fail
  refine (at_any _ _).mono ?_; rintro e w14 ⟨rfl, hB⟩; replace HW := Lib.hid (HW.out.below hB); clear hB hcg
  go_wp2_with fail
  refine (whole_led f m 9 k3 (1, ⟨#[]⟩) _ HW.out.led gk3 m2.2 (by decide)).mono ?_
  rintro e w15 ⟨rfl, hB⟩; replace HW := Lib.hid (HW.out.below hB); clear hB
  rw [m2.1]
  go_wp2_with fail
  refine (len_led f m 9 k3 _ HW.out.led).mono ?_
  rintro e w16 ⟨rfl, rfl⟩
  have hk3 : k3.length = 3 := rfl
  rw [hk3]
  go_wp2_with fail
  refine (at_any _ _).mono ?_; rintro e w17 ⟨rfl, hB⟩; replace HW := Lib.hid (HW.out.below hB); clear hB
  go_wp2_with fail
  refine (under_led f m 9 k3 (1, ⟨#[]⟩) _ HW.out.led (by decide) (by decide) (by decide)).mono ?_
  rintro e w18 ⟨v, rfl, ho, hB⟩; replace HW := Lib.hid (HW.out.below hB); clear hB
  obtain ⟨a, c, rfl⟩ := own_at ho
  rw [m3]
  clear ho
  go_wp2_with fail
  go_ret
  exact ⟨ret_boolE rfl, HW.out.low⟩
end Go.Proofs.Ytibfcoaiodmimaa
