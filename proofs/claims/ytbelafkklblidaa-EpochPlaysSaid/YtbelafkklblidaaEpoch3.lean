/- Contracts of package epoch: Owner, Allows, Last. -/
import Derived.Test.YtbelafkklblidaaEpoch2
import Derived.Laws.ResultCell
namespace Go.Proofs.Ytbelafkklblidaa
open Go.RowKit

def cutP (p : ByteArray) (k : Nat) : ByteArray := ⟨(p.data.toList.take k).toArray⟩
theorem cutP_all (p : ByteArray) : cutP p p.size = p := by
  unfold cutP
  rw [List.take_of_length_le (by simp)]
theorem cutP_size (p : ByteArray) (k : Nat) (h : k ≤ p.size) : (cutP p k).size = k := by
  have : (cutP p k).data.toList.length = (cutP p k).size := by simp
  rw [← this]; unfold cutP; simp; omega
theorem cutP_may {p : ByteArray} (h : mayS p = true) (k : Nat) : mayS (cutP p k) = true := by
  unfold mayS at *; unfold cutP; exact mayL_take h k
theorem cutP_par {p : ByteArray} (h : mayS p = true) {k : Nat} (hk : k + 1 ≤ p.size) : parB (cutP p (k + 1)) = true ∧ parS (cutP p (k + 1)) = cutP p k := by
  have hs := cutP_size p (k + 1) hk
  have hb : parB (cutP p (k + 1)) = true := by
    refine parB_yes ?_ (cutP_may h _)
    rw [Lib.toList_data]
    cases e : (cutP p (k + 1)).data.toList with
    | nil => have h2 : (cutP p (k + 1)).data.toList.length = (cutP p (k + 1)).size := by simp
             rw [e, hs] at h2; simp at h2
    | cons _ _ => rfl
  refine ⟨hb, ?_⟩
  rw [← parS_yes hb, hs, Lib.extract_eq]
  unfold cutP; simp [List.take_take, show min k (k + 1) = k by omega]
theorem cutP_zero (p : ByteArray) : parB (cutP p 0) = false := by
  refine parB_no1 ?_
  rw [Lib.toList_data]; simp [cutP]

/-- Who owns a name, from its first k bytes up. -/
def ownAt (l : List (Nm × Int)) (n : Nm) : Nat → Option (Nm × Int)
  | 0 => if 0 < valU l (n.1, cutP n.2 0) then some ((n.1, cutP n.2 0), valU l (n.1, cutP n.2 0)) else none
  | k + 1 => if 0 < valU l (n.1, cutP n.2 (k + 1)) then some ((n.1, cutP n.2 (k + 1)), valU l (n.1, cutP n.2 (k + 1))) else ownAt l n k
def ownG (l : List (Nm × Int)) (n : Nm) : Option (Nm × Int) := if mayS n.2 then ownAt l n n.2.size else none
theorem ownAt_hit {l : List (Nm × Int)} {n : Nm} {k : Nat} (h : 0 < valU l (n.1, cutP n.2 k)) : ownAt l n k = some ((n.1, cutP n.2 k), valU l (n.1, cutP n.2 k)) := by
  cases k <;> simp [ownAt, h]
theorem ownAt_miss {l : List (Nm × Int)} {n : Nm} {k : Nat} (h : ¬ 0 < valU l (n.1, cutP n.2 (k + 1))) : ownAt l n (k + 1) = ownAt l n k := by simp [ownAt, h]
theorem ownAt_none {l : List (Nm × Int)} {n : Nm} (h : ¬ 0 < valU l (n.1, cutP n.2 0)) : ownAt l n 0 = none := by simp [ownAt, h]
def grV (g : Option (Nm × Int)) : Value := match g with
  | some (r, e) => .agg #[.int .u64 r.1, .string r.2, .int .u64 e]
  | none => .agg #[.int .u64 0, .string ⟨#[]⟩, .int .u64 0]

/-- What the walk up keeps: the fences, the name that was handed in, the result's block. -/
structure Up1 (f m : Nat) (l : List (Nm × Int)) (last : Int) (n : Nm) (w wr : World) : Prop where
  fen : Fen wr f m l last
  low : Below w.heap.size w wr
  size : w.heap.size + 2 ≤ wr.heap.size
  n1 : wr.cell? ⟨w.heap.size, 0, none⟩ = some (.int .u64 n.1)
  n2 : wr.cell? ⟨w.heap.size, 1, none⟩ = some (.string n.2)
  res : wr.heap[w.heap.size + 1]? = some (.cells #[.int .u64 0, .string ⟨#[]⟩, .int .u64 0] 43 (0, 0))
theorem Up1.below {f m : Nat} {l : List (Nm × Int)} {last : Int} {n : Nm} {w wr w1 : World} (h : Up1 f m l last n w wr) (hB : Below wr.heap.size wr w1) : Up1 f m l last n w w1 :=
  ⟨h.fen.below hB, h.low.trans (hB.mono h.low.size), Nat.le_trans h.size hB.size, (hB.cell (p := ⟨w.heap.size, 0, none⟩) (by have := h.size; simp; omega)).trans h.n1,
    (hB.cell (p := ⟨w.heap.size, 1, none⟩) (by have := h.size; simp; omega)).trans h.n2, (hB.block _ (by have := h.size; omega)).trans h.res⟩

theorem set3 {w1 : World} {r : Nat} {x y z : Value} {T : TypeId} (h : w1.heap[r]? = some (.cells #[x, y, z] T (0, 0))) (a b c : Value) :
    (((w1.setCell ⟨r, 0, none⟩ a).setCell ⟨r, 1, none⟩ b).setCell ⟨r, 2, none⟩ c).heap[r]? = some (.cells #[a, b, c] T (0, 0)) := by
  simp [World.setCell, h, Array.getElem?_modify]
theorem set3_below {B : Nat} {w w1 : World} {r : Nat} (h : Below B w w1) (hr : B ≤ r) (a b c : Value) :
    Below B w (((w1.setCell ⟨r, 0, none⟩ a).setCell ⟨r, 1, none⟩ b).setCell ⟨r, 2, none⟩ c) :=
  ((h.setCell (p := ⟨r, 0, none⟩) hr _).setCell (p := ⟨r, 1, none⟩) hr _).setCell (p := ⟨r, 2, none⟩) hr _
/-- How Owner ends: its result's block holds a grant. -/
theorem owner_end {w wz : World} {tmps : Array Value} {g : Option (Nm × Int)} {a b c : Value} {isb : Bool} {r : Nat}
    (hr : wz.heap[r]? = some (.cells #[a, b, c] 43 (0, 0))) (h4 : tmps.getD 4 undef = .pointer (some ⟨r, 0, none⟩)) (h5 : tmps.getD 5 undef = .bool isb)
    (hg : grV g = .agg #[a, b, c]) (hi : g.isSome = isb) (hB : Below w.heap.size w wz) :
    bodyPost Try.prog Try.f17 (fun e w' => e = Ending.returned (.tuple #[grV g, .bool g.isSome]) ∧ Below w.heap.size w w') Exit.ret { tmps := tmps, defers := [] } wz := by
  have c0 : wz.cell? ⟨r, 0, none⟩ = some a := by simp [World.cell?, hr]
  have c1 : wz.cell? ⟨r, 1, none⟩ = some b := by simp [World.cell?, hr]
  have c2 : wz.cell? ⟨r, 2, none⟩ = some c := by simp [World.cell?, hr]
  refine bodyPost_ret (v := .tuple #[.agg #[a, b, c], .bool isb]) ?_ rfl ⟨by rw [hg, hi], hB⟩
  have h4' : tmps[4]?.getD undef = .pointer (some ⟨r, 0, none⟩) := by simpa using h4
  have h5' : tmps[5]?.getD undef = .bool isb := by simpa using h5
  simp [results, Try.results17, go_sem, h4', h5', c0, c1, c2]

set_option maxHeartbeats 1600000 in
set_option maxRecDepth 100000 in
theorem owner_any (f m : Nat) (l : List (Nm × Int)) (last : Int) (n : Nm) (w : World) (h : Fen w f m l last) (hs : n.2.size ≤ 9223372036854775807) :
    Calls Try.prog 17 #[.pointer (some ⟨f, 0, none⟩), .agg #[.int .u64 n.1, .string n.2]] w fun e w' =>
      e = .returned (.tuple #[grV (ownG l n), .bool (ownG l n).isSome]) ∧ Below w.heap.size w w' := by
  have hB0 : Below w.heap.size w ((w.alloc (.cells #[.int .u64 n.1, .string n.2] 35)).alloc (.cells #[.int .u64 0, .string ⟨#[]⟩, .int .u64 0] 43)) :=
    ((Below.refl _ _).alloc (Nat.le_refl _) _).alloc (by simp) _
  have hU0 : Up1 f m l last n w ((w.alloc (.cells #[.int .u64 n.1, .string n.2] 35)).alloc (.cells #[.int .u64 0, .string ⟨#[]⟩, .int .u64 0] 43)) := by
    refine ⟨h.below hB0, hB0, by simp, by simp, by simp, ?_⟩
    have e := heap_alloc_new (w.alloc (.cells #[.int .u64 n.1, .string n.2] 35)) (.cells #[.int .u64 0, .string ⟨#[]⟩, .int .u64 0] 43)
    rw [show (w.alloc (.cells #[.int .u64 n.1, .string n.2] 35)).heap.size = w.heap.size + 1 from by simp] at e
    exact e
  clear h hB0
  have hmn := mapNil
  go_enter Try.func17, Try.ntmps17
  go_wp2_with fail
  refine (may_any n.2 _ hs).mono ?_
  rintro e w1 ⟨rfl, hB⟩
  have HU := Lib.hid (hU0.below hB)
  clear hU0 hB
  have n1 := HU.out.n1
  have n2 := HU.out.n2
  have hsz := HU.out.size
  have hcr : ∀ o, w1.cell? ⟨w.heap.size + 1, o, none⟩ = #[Value.int .u64 0, .string ⟨#[]⟩, .int .u64 0][o]? := fun o => by simp [World.cell?, HU.out.res]
  have hzr : ∀ o, w1.frozen? ⟨w.heap.size + 1, o, none⟩ = false := fun o => by simp [World.frozen?, HU.out.res]
  have q0 := hcr 0; have q1 := hcr 1; have q2 := hcr 2
  have p0 := hzr 0; have p1 := hzr 1; have p2 := hzr 2
  simp only [List.getElem?_toArray, List.getElem?_cons_zero, List.getElem?_cons_succ] at q0 q1 q2
  clear hcr hzr
  cases hm : mayS n.2
  · have hf := Lib.hid (show ownG l n = none by simp [ownG, hm])
    clear hm
    go_wp2_with fail
    exact owner_end (set3 HU.out.res _ _ _) rfl rfl (by rw [hf.out]; rfl) (by rw [hf.out]; rfl) (set3_below HU.out.low (by omega) _ _ _)
  · have hown := Lib.hid (show ownG l n = ownAt l n n.2.size by simp [ownG, hm])
    have HM := Lib.hid hm
    clear hm q0 q1 q2 p0 p1 p2
    go_wp2_with fail
    go_loopw [6, 7] (fun u i wr => Up1 f m l last n w wr ∧ ((∃ k : Nat, k ≤ n.2.size ∧ u = .string (cutP n.2 k) ∧ i = .bool true ∧ Hid (ownG l n = ownAt l n k)) ∨ ((∃ s, u = .string s) ∧ i = .bool false ∧ Hid (ownG l n = none)))) (fun u i _ => match i with | .bool true => (strOf u).size + 1 | _ => 0)
    case atStart => exact ⟨HU.out, .inl ⟨n.2.size, Nat.le_refl _, by rw [cutP_all], rfl, hown⟩⟩
    case round =>
      obtain ⟨hU, ⟨k, hk, rfl, rfl, hK⟩ | ⟨⟨s, rfl⟩, rfl, hK⟩⟩ := hrel
      · clear n1 n2 hsz
        have n1 := hU.n1
        have n2 := hU.n2
        have hsz := hU.size
        have HU := Lib.hid (hU.below ((Below.refl wr.heap.size wr).alloc (Nat.le_refl _) (.cells #[.int .u64 n.1, .string (cutP n.2 k)] 35)))
        have hlk := fun q => (HU.out.fen.drewN q).look (n.1, cutP n.2 k)
        have c0 := HU.out.fen.c0
        clear hU
        by_cases hv : 0 < valU l (n.1, cutP n.2 k)
        · have hf := Lib.hid (hK.out.trans (ownAt_hit hv))
          go_wp2_with fail
          go_quiet (fail)
          have hR : ∀ o, ((wr.alloc (.cells #[.int .u64 n.1, .string (cutP n.2 k)] 35)).drewN nq).cell? ⟨w.heap.size + 1, o, none⟩ = #[Value.int .u64 0, .string ⟨#[]⟩, .int .u64 0][o]? := fun o => by simp only [World.cell?]; rw [show ((wr.alloc (.cells #[.int .u64 n.1, .string (cutP n.2 k)] 35)).drewN nq).heap[w.heap.size + 1]? = _ from HU.out.res]; rfl
          have hZ : ∀ o, ((wr.alloc (.cells #[.int .u64 n.1, .string (cutP n.2 k)] 35)).drewN nq).frozen? ⟨w.heap.size + 1, o, none⟩ = false := fun o => by simp only [World.frozen?]; rw [show ((wr.alloc (.cells #[.int .u64 n.1, .string (cutP n.2 k)] 35)).drewN nq).heap[w.heap.size + 1]? = _ from HU.out.res]; simp
          have HB := Lib.hid (below_drewN HU.out.low nq)
          have HR := Lib.hid (show ((wr.alloc (.cells #[.int .u64 n.1, .string (cutP n.2 k)] 35)).drewN nq).heap[w.heap.size + 1]? = _ from HU.out.res)
          have x0 : ((wr.alloc (.cells #[.int .u64 n.1, .string (cutP n.2 k)] 35)).drewN nq).cell? ⟨wr.heap.size, 0, none⟩ = some (.int .u64 n.1) := by simp
          have x1 : ((wr.alloc (.cells #[.int .u64 n.1, .string (cutP n.2 k)] 35)).drewN nq).cell? ⟨wr.heap.size, 1, none⟩ = some (.string (cutP n.2 k)) := by simp
          have q0 := hR 0; have q1 := hR 1; have q2 := hR 2
          have p0 := hZ 0; have p1 := hZ 1; have p2 := hZ 2
          simp only [List.getElem?_toArray, List.getElem?_cons_zero, List.getElem?_cons_succ] at q0 q1 q2
          clear hR hZ hlk c0 HU n1 n2
          generalize (wr.alloc (.cells #[.int .u64 n.1, .string (cutP n.2 k)] 35)).drewN nq = wq at *
          have hv' : decide (0 < valU l (n.1, cutP n.2 k)) = true := by simpa using hv
          go_wp2_with fail
          exact owner_end (set3 HR.out _ _ _) rfl rfl (by rw [hf.out]; rfl) (by rw [hf.out]; rfl) (set3_below HB.out (by omega) _ _ _)
        · have hv' : decide (0 < valU l (n.1, cutP n.2 k)) = false := by simpa using hv
          have HV := Lib.hid hv
          have hzk : (cutP n.2 k).size ≤ 9223372036854775807 := by rw [cutP_size _ _ hk]; omega
          clear hv
          go_wp2_with fail
          go_quiet (fail)
          go_wp2_with fail
          refine (parent_any (cutP n.2 k) _ hzk).mono ?_
          rintro e w3 ⟨rfl, hB3⟩
          have HU3 := Lib.hid ((HU.out.below (below_drewN (Below.refl _ _) nq)).below hB3)
          clear hB3 hlk c0 n1 n2 HU
          cases k with
          | zero =>
            rw [cutP_zero]
            have hf := Lib.hid (hK.out.trans (ownAt_none (by have := HV.out; omega)))
            go_wp2_with fail
            go_roundw
            case rel => exact ⟨HU3.out, .inr ⟨⟨_, rfl⟩, rfl, hf⟩⟩
            case measure => simp
          | succ k =>
            have hp := cutP_par HM.out (k := k) hk
            rw [hp.1, hp.2]
            have hf := Lib.hid (hK.out.trans (ownAt_miss (by have := HV.out; omega)))
            have hzz := cutP_size n.2 (k + 1) hk
            have hz2 := cutP_size n.2 k (by omega)
            clear hp
            go_wp2_with fail
            go_roundw
            case rel => exact ⟨HU3.out, .inl ⟨k, by omega, rfl, rfl, hf⟩⟩
            case measure => simp only [strOf]; omega
      · have HU := Lib.hid hU
        have hsz := HU.out.size
        have hcr : ∀ o, wr.cell? ⟨w.heap.size + 1, o, none⟩ = #[Value.int .u64 0, .string ⟨#[]⟩, .int .u64 0][o]? := fun o => by simp [World.cell?, HU.out.res]
        have hzr : ∀ o, wr.frozen? ⟨w.heap.size + 1, o, none⟩ = false := fun o => by simp [World.frozen?, HU.out.res]
        have q0 := hcr 0; have q1 := hcr 1; have q2 := hcr 2
        have p0 := hzr 0; have p1 := hzr 1; have p2 := hzr 2
        simp only [List.getElem?_toArray, List.getElem?_cons_zero, List.getElem?_cons_succ] at q0 q1 q2
        clear hcr hzr hU
        go_wp2_with fail
        exact owner_end (set3 HU.out.res _ _ _) rfl rfl (by rw [hK.out]; rfl) (by rw [hK.out]; rfl) (set3_below HU.out.low (by omega) _ _ _)
end Go.Proofs.Ytbelafkklblidaa
