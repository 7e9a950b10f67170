/- Contracts: code.has and what it calls. -/
import Derived.Test.YtdhbjejejeljoaaGreatEv2
import Derived.Test.YtdhbjejejeljoaaGreatOwnFr
import Derived.Deep.LoopGhost
namespace Go.Proofs.YtdhbjejejeljoaaGreat
open Go.RowKit

structure Pt where
  d : Bool
  a : Bool
  b : Bool
  n : Bool
def evPt (p : Pt) : Value := .agg #[.bool p.d, .bool p.a, .bool p.b, .bool p.n]
def encU8 (x : Int) : List Value := [.int .u8 x]
theorem reads_lit8 {w : World} {b cap : Nat} {l : List Int} {cur : Array Value} {E : TypeId} {fz : Nat × Nat} (h : w.heap[b]? = some (.cells cur E fz)) (hc : cur.toList = l.map (Value.int .u8)) : ReadsK encU8 1 w (.slice (some ⟨b, 0, none⟩) l.length cap) l := by
  refine .inr ⟨b, 0, cap, rfl, (Array.getElem?_eq_some_iff.1 h).1, fun i hi t u hu => ?_⟩
  have ht : t = 0 := by
    have := (List.getElem?_eq_some_iff.1 hu).1
    simp [encU8] at this; omega
  subst ht
  simp only [encU8, List.getElem?_cons_zero, Option.some.injEq] at hu
  subst hu
  have h1 : cur[i]? = some (.int .u8 l[i]) := by rw [← Array.getElem?_toList, hc]; simp [hi]
  simp [World.cell?, h, h1]
def putAll (L : List (Int × Pt)) (p : Pt) (ks : List Int) : List (Int × Pt) := ks.foldl (fun L k => B.putL L k p) L
theorem putAll_snoc (L : List (Int × Pt)) (p : Pt) (ks : List Int) (k : Nat) (h : k < ks.length) : putAll L p (ks.take (k + 1)) = B.putL (putAll L p (ks.take k)) ks[k] p := by
  unfold putAll
  rw [List.take_succ_eq_append_getElem h, List.foldl_append]; rfl
/-- The map, behind some of its entries. -/
structure OfW (w : World) (m : Nat) (s : Nat) (p : Pt) (L : List (Int × Pt)) (wr : World) : Prop where
  fr : Fr (fun i => i = m) w wr
  map : B.MapL evPt wr m L
  box : wr.heap[s]? = some (.cells #[.bool p.d, .bool p.a, .bool p.b, .bool p.n] 164 (0, 0))
set_option maxHeartbeats 800000 in
theorem of_any (p : Pt) (m : Nat) (v : Value) (ks : List Int) (L : List (Int × Pt)) (w : World) (hv : ReadsK encU8 1 w v ks) (hm : ks.length ≤ 1000) (hM : B.MapL evPt w m L) (hvm : ∀ a n c, v = .slice (some a) n c → a.block ≠ m) :
    Calls Tryz.prog 103 #[.agg #[.bool p.d, .bool p.a, .bool p.b, .bool p.n], .map (some m), v] w fun e w' => e = .returned (.tuple #[]) ∧ B.MapL evPt w' m (putAll L p ks) ∧ Fr (fun i => i = m) w w' := by
  obtain ⟨a, cap, rfl⟩ := hv.slice
  have hA : Below w.heap.size w (w.alloc (.cells #[.bool p.d, .bool p.a, .bool p.b, .bool p.n] 164)) := (Below.refl _ _).alloc (Nat.le_refl _) _
  have hb := heap_alloc_new w (.cells #[.bool p.d, .bool p.a, .bool p.b, .bool p.n] 164)
  have HW := Lib.hid (show OfW w m w.heap.size p (putAll L p (ks.take 0)) (w.alloc (.cells #[.bool p.d, .bool p.a, .bool p.b, .bool p.n] 164)) from ⟨.of_below hA, hM.block (hA.block _ hM.lt), hb⟩)
  have HV := Lib.hid hv
  have HVM := Lib.hid hvm
  have hml : m < w.heap.size := hM.lt
  clear hv hA hb hM hvm
  go_enter Tryz.func103, Tryz.ntmps103
  go_wp2
  go_loopg [10] ks.length (fun gk i wr => ∃ k : Nat, gk + k = ks.length ∧ i = .int .i64 k ∧ Hid (OfW w m w.heap.size p (putAll L p (ks.take k)) wr))
  case atStart => exact ⟨0, by omega, rfl, HW⟩
  case round =>
    clear HW
    obtain ⟨k, hk, rfl, HR⟩ := hrel
    by_cases hlt : k < ks.length
    · obtain ⟨b, off, c, he, hb, hc⟩ := HV.out.at (by omega)
      injection he with he1 he2 he3
      subst he1
      have hbm := HVM.out ⟨b, off, none⟩ _ _ rfl
      have hcell : wr.cell? ⟨b, off + k, none⟩ = some (.int .u8 ks[k]) := by
        have h := hc k hlt 0 _ rfl
        rw [HR.out.fr.cell (p := ⟨b, off + k, none⟩) hb hbm]; simpa using h
      clear hc he2 he3 hbm
      have hx := HR.out.box
      have c0 : wr.cell? ⟨w.heap.size, 0, none⟩ = some (.bool p.d) := by simp [World.cell?, hx]
      have c1 : wr.cell? ⟨w.heap.size, 1, none⟩ = some (.bool p.a) := by simp [World.cell?, hx]
      have c2 : wr.cell? ⟨w.heap.size, 2, none⟩ = some (.bool p.b) := by simp [World.cell?, hx]
      have c3 : wr.cell? ⟨w.heap.size, 3, none⟩ = some (.bool p.n) := by simp [World.cell?, hx]
      obtain ⟨w9, hrun, hM9, hO9⟩ := HR.out.map.update (P := Tryz.prog) B.nameTy Tryz.underlying166 ks[k] p
      unfold B.encN evPt at hrun
      have HR9 := Lib.hid (show OfW w m w.heap.size p (putAll L p (ks.take (k + 1))) w9 from ⟨HR.out.fr.only hO9 rfl, by rw [putAll_snoc L p ks k hlt]; exact hM9, (hO9.2.2.2.2.1 _ (by omega)).trans hx⟩)
      clear hx hM9 hO9 HR
      go_wp2_with fail
      go_roundg (gk - 1)
      case rel => exact ⟨k + 1, by omega, by go_num, HR9⟩
      case measure => omega
    · have hkl : ks.take k = ks := List.take_of_length_le (by omega)
      rw [hkl] at HR
      clear hkl
      go_wp2_with fail
      go_end0
      exact ⟨rfl, HR.out.map, HR.out.fr⟩
def hasL : List (Int × Pt) := [(1, ⟨true, false, false, true⟩), (2, ⟨true, true, false, false⟩), (3, ⟨true, true, true, false⟩), (4, ⟨true, true, true, false⟩), (5, ⟨true, true, true, false⟩), (6, ⟨true, true, true, false⟩), (7, ⟨true, true, true, false⟩), (8, ⟨true, true, true, false⟩), (9, ⟨true, true, true, false⟩),
  (10, ⟨false, false, false, true⟩), (11, ⟨false, true, false, true⟩), (12, ⟨true, true, false, true⟩), (13, ⟨false, false, false, false⟩), (14, ⟨false, true, false, false⟩)]
theorem of_next {p : Pt} {m : Nat} {ks : List Int} {L : List (Int × Pt)} {w0 w : World} {cur : Array Value} (hw : Below w0.heap.size w0 w) (hml : w0.heap.size ≤ m) (hM : B.MapL evPt w m L) (hc : cur.toList = ks.map (Value.int .u8)) (hl : ks.length ≤ 1000) {n q : Nat} (hn : n = ks.length) (hq : w.heap.size = q) :
    Calls Tryz.prog 103 #[.agg #[.bool p.d, .bool p.a, .bool p.b, .bool p.n], .map (some m), .slice (some ⟨q, 0, none⟩) n n] (w.alloc (.cells cur 5)) fun e w' => e = .returned (.tuple #[]) ∧ B.MapL evPt w' m (putAll L p ks) ∧ Below w0.heap.size w0 w' := by
  subst hn
  subst hq
  have hb := heap_alloc_new w (.cells cur 5)
  have hA : Below w.heap.size w (w.alloc (.cells cur 5)) := (Below.refl _ _).alloc (Nat.le_refl _) _
  refine (of_any p m _ ks L _ (reads_lit8 hb hc) hl (hM.block (hA.block _ hM.lt)) (fun a n c h => ?_)).mono ?_
  · injection h with h _ _
    injection h with h
    subst h
    have := hM.lt
    show w.heap.size ≠ m
    omega
  · rintro e w' ⟨rfl, h1, h2⟩
    refine ⟨rfl, h1, ?_⟩
    have h3 := hw.trans (hA.mono hw.size)
    exact h3.trans (h2.below (fun i hi => by rw [hi]; exact hml) h3.size)
set_option maxHeartbeats 3200000 in
theorem has_any (w : World) : Calls Tryz.prog 94 #[] w fun e w' => ∃ m, e = .returned (.map (some m)) ∧ B.MapL evPt w' m hasL ∧ Below w.heap.size w w' := by
  have hmk := @Go.RowKit.run_makeMap Tryz.prog
  have HM := Lib.hid (B.MapL.made evPt w)
  have HB := Lib.hid (show Below w.heap.size w (w.alloc (.map #[] 0)) from (Below.refl _ _).alloc (Nat.le_refl _) _)
  have hm : w.heap.size ≤ w.heap.size := Nat.le_refl _
  go_enter Tryz.func94, Tryz.ntmps94
  go_wp2_with fail
  clear hmk
  refine (of_next (ks := [1]) (p := ⟨true, false, false, true⟩) HB.out hm HM.out rfl (by decide) rfl (by simp)).mono ?_
  rintro e w1 ⟨rfl, hM, hB⟩
  clear HM HB
  have HM := Lib.hid hM
  have HB := Lib.hid hB
  clear hM hB
  go_wp2_with fail
  refine (of_next (ks := [2]) (p := ⟨true, true, false, false⟩) HB.out hm HM.out rfl (by decide) rfl rfl).mono ?_
  rintro e w2 ⟨rfl, hM, hB⟩
  clear HM HB
  have HM := Lib.hid hM
  have HB := Lib.hid hB
  clear hM hB
  go_wp2_with fail
  refine (of_next (ks := [3, 4, 5, 6, 7, 8, 9]) (p := ⟨true, true, true, false⟩) HB.out hm HM.out rfl (by decide) rfl rfl).mono ?_
  rintro e w3 ⟨rfl, hM, hB⟩
  clear HM HB
  have HM := Lib.hid hM
  have HB := Lib.hid hB
  clear hM hB
  go_wp2_with fail
  refine (of_next (ks := [10]) (p := ⟨false, false, false, true⟩) HB.out hm HM.out rfl (by decide) rfl rfl).mono ?_
  rintro e w4 ⟨rfl, hM, hB⟩
  clear HM HB
  have HM := Lib.hid hM
  have HB := Lib.hid hB
  clear hM hB
  go_wp2_with fail
  refine (of_next (ks := [11]) (p := ⟨false, true, false, true⟩) HB.out hm HM.out rfl (by decide) rfl rfl).mono ?_
  rintro e w5 ⟨rfl, hM, hB⟩
  clear HM HB
  have HM := Lib.hid hM
  have HB := Lib.hid hB
  clear hM hB
  go_wp2_with fail
  refine (of_next (ks := [12]) (p := ⟨true, true, false, true⟩) HB.out hm HM.out rfl (by decide) rfl rfl).mono ?_
  rintro e w6 ⟨rfl, hM, hB⟩
  clear HM HB
  have HM := Lib.hid hM
  have HB := Lib.hid hB
  clear hM hB
  go_wp2_with fail
  refine (of_next (ks := [13]) (p := ⟨false, false, false, false⟩) HB.out hm HM.out rfl (by decide) rfl rfl).mono ?_
  rintro e w7 ⟨rfl, hM, hB⟩
  clear HM HB
  have HM := Lib.hid hM
  have HB := Lib.hid hB
  clear hM hB
  go_wp2_with fail
  refine (of_next (ks := [14]) (p := ⟨false, true, false, false⟩) HB.out hm HM.out rfl (by decide) rfl rfl).mono ?_
  rintro e w8 ⟨rfl, hM, hB⟩
  clear HM HB
  have HM := Lib.hid hM
  have HB := Lib.hid hB
  clear hM hB
  go_wp2_with fail
  go_ret
  exact ⟨_, rfl, HM.out, HB.out⟩
theorem hasL_get (k : Int) : B.getL hasL k = if 1 ≤ k ∧ k ≤ 14 then some ⟨hasD k, hasA k, hasB k, hasN k⟩ else none := by
  by_cases h : 1 ≤ k ∧ k ≤ 14
  · rw [if_pos h]
    obtain ⟨h1, h2⟩ := h
    have : k = 1 ∨ k = 2 ∨ k = 3 ∨ k = 4 ∨ k = 5 ∨ k = 6 ∨ k = 7 ∨ k = 8 ∨ k = 9 ∨ k = 10 ∨ k = 11 ∨ k = 12 ∨ k = 13 ∨ k = 14 := by omega
    rcases this with rfl | rfl | rfl | rfl | rfl | rfl | rfl | rfl | rfl | rfl | rfl | rfl | rfl | rfl <;> rfl
  · rw [if_neg h]
    apply B.getL_noneV
    intro p hp e
    subst e
    simp only [hasL, List.mem_cons, List.not_mem_nil, or_false] at hp
    rcases hp with rfl | rfl | rfl | rfl | rfl | rfl | rfl | rfl | rfl | rfl | rfl | rfl | rfl | rfl <;> exact h ⟨by decide, by decide⟩
end Go.Proofs.YtdhbjejejeljoaaGreat
