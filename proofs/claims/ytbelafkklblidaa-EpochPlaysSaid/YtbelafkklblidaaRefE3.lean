/- Contracts: Compare of names, put of the document's fences. -/
import Derived.Test.YtbelafkklblidaaRefE2
import Derived.Deep.RegionHeld3
namespace Go.Proofs.Ytbelafkklblidaa
open Go.RowKit Go.Sort Go.Lib

def cmpN (a b : Nm) : Int := if a.1 = b.1 then cmpS a.2 b.2 else if a.1 < b.1 then -1 else 1
set_option maxHeartbeats 400000 in
set_option maxRecDepth 100000 in
theorem rcompareN_any (a b : Nm) (w : World) (ha : a.2.size ≤ 9223372036854775807) (hb : b.2.size ≤ 9223372036854775807) :
    Calls Try.prog 41 #[.agg #[.int .u64 a.1, .string a.2], .agg #[.int .u64 b.1, .string b.2]] w fun e w' => e = .returned (.int .i64 (cmpN a b)) ∧ Below w.heap.size w w' := by
  have hA : ∀ (w : World) o, Below w.heap.size w (w.alloc o) := fun w o => (Below.refl _ _).alloc (Nat.le_refl _) o
  have HA : Hid (Below w.heap.size w ((w.alloc (nmO a)).alloc (nmO b))) := (hA w _).trans ((hA _ _).mono (by simp))
  clear hA
  go_enter Try.func41, Try.ntmps41
  by_cases h1 : a.1 = b.1
  · have hc := Lib.hid (show cmpN a b = cmpS a.2 b.2 by unfold cmpN; rw [if_pos h1])
    go_wp2_with fail
    refine (rcompare_any a.2 b.2 _ ha hb).mono ?_
    rintro e w1 ⟨rfl, q, rfl⟩
    clear h1
    go_wp2_with fail
    go_ret
    exact ⟨ret_int hc.out.symm, below_drewN (((Below.refl _ _).alloc (Nat.le_refl _) _).alloc (by simp) _) q⟩
  · by_cases h2 : a.1 < b.1
    · have hc := Lib.hid (show cmpN a b = -1 by unfold cmpN; rw [if_neg h1, if_pos h2])
      go_wp2_with fail
      go_ret
      exact ⟨ret_int hc.out.symm, HA.out⟩
    · have hc := Lib.hid (show cmpN a b = 1 by unfold cmpN; rw [if_neg h1, if_neg h2])
      go_wp2_with fail
      go_ret
      exact ⟨ret_int hc.out.symm, HA.out⟩

def belowG (g : Gr) (p : Gr) : Bool := decide (cmpN p.1 g.1 < 0)
def insG (l : List Gr) (g : Gr) : List Gr := l.takeWhile (belowG g) ++ g :: l.dropWhile (belowG g)
theorem takeWhile_at {p : Gr → Bool} : ∀ {l : List Gr} {k : Nat} (_ : k ≤ l.length) (_ : ∀ j, (hj : j < l.length) → j < k → p l[j] = true) (_ : ∀ (hk : k < l.length), p l[k] = false), l.takeWhile p = l.take k ∧ l.dropWhile p = l.drop k
  | [], k, hk, _, _ => by simp at hk; subst hk; simp
  | a :: l, 0, _, _, h2 => by
    have := h2 (by simp)
    simp only [List.getElem_cons_zero] at this
    simp [List.takeWhile_cons, List.dropWhile_cons, this]
  | a :: l, k + 1, hk, h1, h2 => by
    have h0 := h1 0 (by simp) (by omega)
    simp only [List.getElem_cons_zero] at h0
    obtain ⟨i1, i2⟩ := takeWhile_at (l := l) (k := k) (by simpa using hk) (fun j hj hjk => by have := h1 (j + 1) (by simpa using hj) (by omega); simpa using this) (fun hk' => by have := h2 (by simpa using hk'); simpa using this)
    simp [List.takeWhile_cons, List.dropWhile_cons, h0, i1, i2]

/-- What the test of put's loop holds. -/
structure Sp (r : Nat) (v : Value) (wq : World) (b o s : Nat) (p g : Nm) (x : World) : Prop where
  low : Below wq.heap.size wq x
  c0 : x.cell? ⟨r, 0, none⟩ = some v
  g0 : x.cell? ⟨s, 0, none⟩ = some (.int .u64 g.1)
  g1 : x.cell? ⟨s, 1, none⟩ = some (.string g.2)
  b0 : x.cell? ⟨b, o, none⟩ = some (.int .u64 p.1)
  b1 : x.cell? ⟨b, o + 1, none⟩ = some (.string p.2)
theorem Sp.next {r : Nat} {v : Value} {wq x y : World} {b o s : Nat} {p g : Nm} (h : Sp r v wq b o s p g x) (hB : Below x.heap.size x y) : Sp r v wq b o s p g y :=
  ⟨h.low.trans (hB.mono h.low.size), cell_keep hB h.c0, cell_keep hB h.g0, cell_keep hB h.g1, cell_keep hB h.b0, cell_keep hB h.b1⟩
theorem reads_single (g : Gr) (w : World) {E : TypeId} : ReadsK encG 3 (w.alloc (.cells #[.int .u64 g.1.1, .string g.1.2, .int .u64 g.2] E (0, 0))) (.slice (some ⟨w.heap.size, 0, none⟩) 1 1) [g] := by
  refine .inr ⟨w.heap.size, 0, 1, rfl, by simp, fun i hi t u hu => ?_⟩
  simp at hi; subst hi
  have := grant_cells (w := w) g w.heap.size (E := E) rfl t u hu
  rw [show (0 : Nat) + (0 * 3 + t) = t by omega]
  rw [← this]
  by_cases h0 : t = 0
  · subst h0; rfl
  · simp [Addr.add, h0]
/-- While put looks for the place. -/
structure Pt (w : World) (R r : Nat) (v : Value) (l : List Gr) (last : Int) (g : Gr) (wr : World) : Prop where
  fen : RFen wr R r v l last
  fr : Fr (fun i => i = r) w wr
  low : Below w.heap.size w wr ∨ True
  g0 : wr.cell? ⟨w.heap.size, 0, none⟩ = some (.int .u64 g.1.1)
  g1 : wr.cell? ⟨w.heap.size, 1, none⟩ = some (.string g.1.2)
  g2 : wr.cell? ⟨w.heap.size, 2, none⟩ = some (.int .u64 g.2)
theorem Pt.below {w wr w' : World} {R r : Nat} {v : Value} {l : List Gr} {last : Int} {g : Gr} (h : Pt w R r v l last g wr) (hB : Below wr.heap.size wr w') : Pt w R r v l last g w' :=
  ⟨h.fen.below hB, h.fr.then hB, .inr trivial, cell_keep hB h.g0, cell_keep hB h.g1, cell_keep hB h.g2⟩

set_option maxHeartbeats 1600000 in
set_option maxRecDepth 100000 in
theorem rput_any (R r : Nat) (v : Value) (l : List Gr) (last : Int) (g : Gr) (w : World) (h : RFen w R r v l last) (hl : l.length ≤ 10000) (hzl : ∀ p ∈ l, p.1.2.size ≤ 9223372036854775807) (hzg : g.1.2.size ≤ 9223372036854775807) :
    Calls Try.prog 30 #[.pointer (some ⟨r, 0, none⟩), .agg #[.int .u64 g.1.1, .string g.1.2, .int .u64 g.2]] w fun e w' =>
      e = .returned (.tuple #[]) ∧ ∃ v', RFen w' R r v' (insG (takeR l g.1) g) last ∧ Fr (fun i => i = r) w w' := by
  have hA : Below w.heap.size w (w.alloc (.cells #[.int .u64 g.1.1, .string g.1.2, .int .u64 g.2] 43)) := (Below.refl _ _).alloc (Nat.le_refl _) _
  have HF := Lib.hid (h.below hA)
  have hrw := h.lt
  have hRr := h.lo
  have HA := Lib.hid hA
  clear h hA
  go_enter Try.func30, Try.ntmps30
  go_wp2_with fail
  refine (rtake_any R r v l last g.1 _ HF.out (by omega)).mono ?_
  rintro e w1 ⟨rfl, v1, hF1, hFr⟩
  have hT : Hid (Pt w R r v1 (takeR l g.1) last g w1) := by
    have hc : ∀ o x, (w.alloc (.cells #[.int .u64 g.1.1, .string g.1.2, .int .u64 g.2] 43)).cell? ⟨w.heap.size, o, none⟩ = some x → w1.cell? ⟨w.heap.size, o, none⟩ = some x := fun o x hx =>
      (hFr.cell (p := ⟨w.heap.size, o, none⟩) (by simp) (by simp; omega)).trans hx
    exact ⟨hF1, (Fr.of_below HA.out).trans hFr, .inr trivial, hc 0 _ (by simp), hc 1 _ (by simp), hc 2 _ (by simp)⟩
  have hll : (takeR l g.1).length ≤ 10000 := by
    unfold takeR; split
    · simp; omega
    · exact hl
  have hz1 : ∀ p ∈ takeR l g.1, p.1.2.size ≤ 9223372036854775807 := fun p hp => by
    unfold takeR at hp; split at hp
    · rw [List.mem_append] at hp
      rcases hp with hp | hp
      · exact hzl p (List.mem_of_mem_take hp)
      · exact hzl p (List.mem_of_mem_drop hp)
    · exact hzl p hp
  clear HF HA hF1 hFr hzl hl
  obtain ⟨l1, hL1⟩ : ∃ l1, takeR l g.1 = l1 := ⟨_, rfl⟩
  rw [hL1] at hT hll hz1
  have HL1 := Lib.hid hL1
  clear hL1
  obtain ⟨a, cap, rfl, hcap, hnil⟩ := hT.out.fen.cap
  have HZ := Lib.hid hz1
  clear hz1
  go_wp2_with fail
  go_loopg [4] l1.length (fun gk i wr => ∃ k : Nat, gk + k = l1.length ∧ i = .int .i64 k ∧ Hid (∀ j, (hj : j < l1.length) → j < k → belowG g l1[j] = true) ∧ Pt w R r (.slice a l1.length cap) l1 last g wr)
  case atStart => exact ⟨0, by omega, rfl, Lib.hid (fun j _ hj => absurd hj (by omega)), hT.out⟩
  case round =>
    clear hT
    obtain ⟨k, hk, rfl, hn, hT⟩ := hrel
    have HT := Lib.hid hT
    have HN := Lib.hid hn.out
    clear hT hn
    obtain ⟨tst, htst⟩ : ∃ t : Bool, (if hh : k < l1.length then belowG g l1[k] else false) = t := ⟨_, rfl⟩
    have HTS := Lib.hid htst
    clear htst
    go_upto_region 3 with fail
    go_cut [30] (fun t wx => t = .bool tst ∧ Below wr.heap.size wr wx)
    case first =>
      have c0 := HT.out.fen.c0
      by_cases hlt : k < l1.length
      · obtain ⟨b0, off, c, he, hb, hc⟩ := HT.out.fen.reads.at (by omega)
        injection he with he1 he2 he3
        subst he1
        have hcc := hc k hlt
        have hzp := HZ.out _ (List.getElem_mem hlt)
        have hts := HTS.out
        rw [dif_pos hlt] at hts
        generalize l1[k] = p at *
        have HS : Hid (Sp r (.slice (some ⟨b0, off, none⟩) l1.length cap) wr b0 (off + k * 3) w.heap.size p.1 g.1 wr) := ⟨Below.refl _ _, c0, HT.out.g0, HT.out.g1, hcc 0 _ rfl, hcc 1 _ rfl⟩
        obtain ⟨v1, hv1⟩ : ∃ v1, v1 = Value.slice (some ⟨b0, off, none⟩) l1.length cap := ⟨_, rfl⟩
        rw [← hv1] at HS
        have HTS2 := Lib.hid hts
        clear hcc hc he2 he3 hb c0 hts HTS hnil
        subst hv1
        have hlt2 : (k : Int) < (l1.length : Int) := by omega
        go_wp2_with fail
        refine wp_region_held_drew (S := Sp r (.slice (some ⟨b0, off, none⟩) l1.length cap) wr b0 (off + k * 3) w.heap.size p.1 g.1) (by kernel_rfl) (HS.out.next (Below.refl _ _).drew) (fun hHeld => ?_)
        refine wpAnyH_take (i := 0) (oi := _) (v := ?_) (by rw [List.getElem?_toArray]; exact rfl) (by kernel_rfl) (by kernel_rfl) (by kernel_rfl) (by exact fun _ _ _ h => h) (Or.inl ⟨by rfl, ?_⟩) hHeld ?_
        rotate_left
        · (intro w hSw; have q0 := hSw.c0; have q1 := hSw.g0; have q2 := hSw.g1; have q3 := hSw.b0; have q4 := hSw.b1; clear hSw; go_simp; try with_reducible rfl)
        try simp only [Act.put, List.setIfInBounds_toArray, List.set_cons_zero, List.set_cons_succ]
        refine wpAnyH_take (i := 1) (oi := _) (v := ?_) (by rw [List.getElem?_toArray]; exact rfl) (by kernel_rfl) (by kernel_rfl) (by kernel_rfl) (by exact fun _ _ _ h => h) (Or.inl ⟨by rfl, ?_⟩) hHeld ?_
        rotate_left
        · (intro w hSw; have q0 := hSw.c0; have q1 := hSw.g0; have q2 := hSw.g1; have q3 := hSw.b0; have q4 := hSw.b1; clear hSw; go_simp; try with_reducible rfl)
        try simp only [Act.put, List.setIfInBounds_toArray, List.set_cons_zero, List.set_cons_succ]
        refine wpAnyH_take (i := 2) (oi := _) (v := ?_) (by rw [List.getElem?_toArray]; exact rfl) (by kernel_rfl) (by kernel_rfl) (by kernel_rfl) (by exact fun _ _ _ h => h) (Or.inl ⟨by rfl, ?_⟩) hHeld ?_
        rotate_left
        · (intro w hSw; have q0 := hSw.c0; have q1 := hSw.g0; have q2 := hSw.g1; have q3 := hSw.b0; have q4 := hSw.b1; clear hSw; go_simp; try with_reducible rfl)
        try simp only [Act.put, List.setIfInBounds_toArray, List.set_cons_zero, List.set_cons_succ]
        refine wpAnyH_take (i := 3) (oi := _) (v := ?_) (by rw [List.getElem?_toArray]; exact rfl) (by kernel_rfl) (by kernel_rfl) (by kernel_rfl) (by exact fun _ _ _ h => h) (Or.inl ⟨by rfl, ?_⟩) hHeld ?_
        rotate_left
        · (intro w hSw; have q0 := hSw.c0; have q1 := hSw.g0; have q2 := hSw.g1; have q3 := hSw.b0; have q4 := hSw.b1; clear hSw; go_simp; try with_reducible rfl)
        try simp only [Act.put, List.setIfInBounds_toArray, List.set_cons_zero, List.set_cons_succ]
        refine wpAnyH_take (i := 4) (oi := _) (v := ?_) (by rw [List.getElem?_toArray]; exact rfl) (by kernel_rfl) (by kernel_rfl) (by kernel_rfl) (by exact fun _ _ _ h => h) (Or.inl ⟨by rfl, ?_⟩) hHeld ?_
        rotate_left
        · (intro w hSw; have q0 := hSw.c0; have q1 := hSw.g0; have q2 := hSw.g1; have q3 := hSw.b0; have q4 := hSw.b1; clear hSw; go_simp; try with_reducible rfl)
        try simp only [Act.put, List.setIfInBounds_toArray, List.set_cons_zero, List.set_cons_succ]
        refine wpAnyH_take (i := 5) (oi := _) (v := ?_) (by rw [List.getElem?_toArray]; exact rfl) (by kernel_rfl) (by kernel_rfl) (by kernel_rfl) (by exact fun _ _ _ h => h) (Or.inl ⟨by rfl, ?_⟩) hHeld ?_
        rotate_left
        · (intro w hSw; have q0 := hSw.c0; have q1 := hSw.g0; have q2 := hSw.g1; have q3 := hSw.b0; have q4 := hSw.b1; clear hSw; go_simp; try with_reducible rfl)
        try simp only [Act.put, List.setIfInBounds_toArray, List.set_cons_zero, List.set_cons_succ]
        refine wpAnyH_take (i := 6) (oi := _) (v := ?_) (by rw [List.getElem?_toArray]; exact rfl) (by kernel_rfl) (by kernel_rfl) (by kernel_rfl) (by exact fun _ _ _ h => h) (Or.inl ⟨by rfl, ?_⟩) hHeld ?_
        rotate_left
        · (intro w hSw; have q0 := hSw.c0; have q1 := hSw.g0; have q2 := hSw.g1; have q3 := hSw.b0; have q4 := hSw.b1; clear hSw; go_simp; try with_reducible rfl)
        try simp only [Act.put, List.setIfInBounds_toArray, List.set_cons_zero, List.set_cons_succ]
        refine wpAnyH_take (i := 7) (oi := _) (v := ?_) (by rw [List.getElem?_toArray]; exact rfl) (by kernel_rfl) (by kernel_rfl) (by kernel_rfl) (by exact fun _ _ _ h => h) (Or.inl ⟨by rfl, ?_⟩) hHeld ?_
        rotate_left
        · (intro w hSw; have q0 := hSw.c0; have q1 := hSw.g0; have q2 := hSw.g1; have q3 := hSw.b0; have q4 := hSw.b1; clear hSw; go_simp; try with_reducible rfl)
        try simp only [Act.put, List.setIfInBounds_toArray, List.set_cons_zero, List.set_cons_succ]
        refine wpAnyH_take (i := 8) (oi := _) (v := ?_) (by rw [List.getElem?_toArray]; exact rfl) (by kernel_rfl) (by kernel_rfl) (by kernel_rfl) (by exact fun _ _ _ h => h) (Or.inl ⟨by rfl, ?_⟩) hHeld ?_
        rotate_left
        · (intro w hSw; have q0 := hSw.c0; have q1 := hSw.g0; have q2 := hSw.g1; have q3 := hSw.b0; have q4 := hSw.b1; clear hSw; go_simp; try with_reducible rfl)
        try simp only [Act.put, List.setIfInBounds_toArray, List.set_cons_zero, List.set_cons_succ]
        refine wpAnyH_take (i := 9) (oi := _) (v := ?_) (by rw [List.getElem?_toArray]; exact rfl) (by kernel_rfl) (by kernel_rfl) (by kernel_rfl) (by exact fun _ _ _ h => h) (Or.inl ⟨by rfl, ?_⟩) hHeld ?_
        rotate_left
        · (intro w hSw; have q0 := hSw.c0; have q1 := hSw.g0; have q2 := hSw.g1; have q3 := hSw.b0; have q4 := hSw.b1; clear hSw; go_simp; try with_reducible rfl)
        try simp only [Act.put, List.setIfInBounds_toArray, List.set_cons_zero, List.set_cons_succ]
        refine wpAnyH_take (i := 10) (oi := _) (v := ?_) (by rw [List.getElem?_toArray]; exact rfl) (by kernel_rfl) (by kernel_rfl) (by kernel_rfl) (by exact fun _ _ _ h => h) (Or.inl ⟨by rfl, ?_⟩) hHeld ?_
        rotate_left
        · (intro w hSw; have q0 := hSw.c0; have q1 := hSw.g0; have q2 := hSw.g1; have q3 := hSw.b0; have q4 := hSw.b1; clear hSw; go_simp; try with_reducible rfl)
        try simp only [Act.put, List.setIfInBounds_toArray, List.set_cons_zero, List.set_cons_succ]
        refine wpAnyH_take (i := 11) (oi := _) (v := ?_) (by rw [List.getElem?_toArray]; exact rfl) (by kernel_rfl) (by kernel_rfl) (by kernel_rfl) (by exact fun _ _ _ h => h) (Or.inl ⟨by rfl, ?_⟩) hHeld ?_
        rotate_left
        · (intro w hSw; have q0 := hSw.c0; have q1 := hSw.g0; have q2 := hSw.g1; have q3 := hSw.b0; have q4 := hSw.b1; clear hSw; go_simp; try with_reducible rfl)
        try simp only [Act.put, List.setIfInBounds_toArray, List.set_cons_zero, List.set_cons_succ]
        refine wpAnyH_take (i := 12) (oi := _) (v := ?_) (by rw [List.getElem?_toArray]; exact rfl) (by kernel_rfl) (by kernel_rfl) (by kernel_rfl) (by exact fun _ _ _ h => h) (Or.inl ⟨by rfl, ?_⟩) hHeld ?_
        rotate_left
        · (intro w hSw; have q0 := hSw.c0; have q1 := hSw.g0; have q2 := hSw.g1; have q3 := hSw.b0; have q4 := hSw.b1; clear hSw; go_simp; try with_reducible rfl)
        try simp only [Act.put, List.setIfInBounds_toArray, List.set_cons_zero, List.set_cons_succ]
        refine wpAnyH_take (i := 13) (oi := _) (v := ?_) (by rw [List.getElem?_toArray]; exact rfl) (by kernel_rfl) (by kernel_rfl) (by kernel_rfl) (by exact fun _ _ _ h => h) (Or.inl ⟨by rfl, ?_⟩) hHeld ?_
        rotate_left
        · (intro w hSw; have q0 := hSw.c0; have q1 := hSw.g0; have q2 := hSw.g1; have q3 := hSw.b0; have q4 := hSw.b1; clear hSw; go_simp; try with_reducible rfl)
        try simp only [Act.put, List.setIfInBounds_toArray, List.set_cons_zero, List.set_cons_succ]
        refine wpAnyH_take (i := 14) (oi := _) (v := ?_) (by rw [List.getElem?_toArray]; exact rfl) (by kernel_rfl) (by kernel_rfl) (by kernel_rfl) (by exact fun _ _ _ h => h) (Or.inl ⟨by rfl, ?_⟩) hHeld ?_
        rotate_left
        · (intro w hSw; have q0 := hSw.c0; have q1 := hSw.g0; have q2 := hSw.g1; have q3 := hSw.b0; have q4 := hSw.b1; clear hSw; go_simp; try with_reducible rfl)
        try simp only [Act.put, List.setIfInBounds_toArray, List.set_cons_zero, List.set_cons_succ]
        refine wpAnyH_take (i := 15) (oi := _) (v := ?_) (by rw [List.getElem?_toArray]; exact rfl) (by kernel_rfl) (by kernel_rfl) (by kernel_rfl) (by exact fun _ _ _ h => h) (Or.inl ⟨by rfl, ?_⟩) hHeld ?_
        rotate_left
        · (intro w hSw; have q0 := hSw.c0; have q1 := hSw.g0; have q2 := hSw.g1; have q3 := hSw.b0; have q4 := hSw.b1; clear hSw; go_simp; try with_reducible rfl)
        try simp only [Act.put, List.setIfInBounds_toArray, List.set_cons_zero, List.set_cons_succ]
        refine wpAnyH_take (i := 16) (oi := _) (v := ?_) (by rw [List.getElem?_toArray]; exact rfl) (by kernel_rfl) (by kernel_rfl) (by kernel_rfl) (by exact fun _ _ _ h => h) (Or.inl ⟨by rfl, ?_⟩) hHeld ?_
        rotate_left
        · (intro w hSw; have q0 := hSw.c0; have q1 := hSw.g0; have q2 := hSw.g1; have q3 := hSw.b0; have q4 := hSw.b1; clear hSw; go_simp; try with_reducible rfl)
        try simp only [Act.put, List.setIfInBounds_toArray, List.set_cons_zero, List.set_cons_succ]
        refine wpAnyH_take (i := 17) (oi := _) (v := ?_) (by rw [List.getElem?_toArray]; exact rfl) (by kernel_rfl) (by kernel_rfl) (by kernel_rfl) (by exact fun _ _ _ h => h) (Or.inl ⟨by rfl, ?_⟩) hHeld ?_
        rotate_left
        · (intro w hSw; have q0 := hSw.c0; have q1 := hSw.g0; have q2 := hSw.g1; have q3 := hSw.b0; have q4 := hSw.b1; clear hSw; go_simp; try with_reducible rfl)
        try simp only [Act.put, List.setIfInBounds_toArray, List.set_cons_zero, List.set_cons_succ]
        refine wpAnyH_ready (rs := [18]) (by kernel_rfl) (by simp) ?_
        refine AllReadyH.cons (o := _) (by rw [List.getElem?_toArray]; exact rfl) (fun K hK => ?_) ?_
        rotate_left
        · exact AllReadyH.nil
        go_simp
        refine (rcompareN_any p.1 g.1 _ hzp hzg).mono ?_; rintro e w7 ⟨rfl, hB7⟩
        go_wp2_with fail
        refine hK.out _ _ (hHeld.next hB7) (fun hHeld => ?_)
        clear hK K
        try simp only [Act.put, List.setIfInBounds_toArray, List.set_cons_zero, List.set_cons_succ]
        refine wpAnyH_take (i := 19) (oi := _) (v := ?_) (by rw [List.getElem?_toArray]; exact rfl) (by kernel_rfl) (by kernel_rfl) (by kernel_rfl) (by exact fun _ _ _ h => h) (Or.inl ⟨by rfl, ?_⟩) hHeld ?_
        rotate_left
        · (intro w hSw; have q0 := hSw.c0; have q1 := hSw.g0; have q2 := hSw.g1; have q3 := hSw.b0; have q4 := hSw.b1; clear hSw; go_simp; try with_reducible rfl)
        try simp only [Act.put, List.setIfInBounds_toArray, List.set_cons_zero, List.set_cons_succ]
        refine wpAnyH_take (i := 20) (oi := _) (v := ?_) (by rw [List.getElem?_toArray]; exact rfl) (by kernel_rfl) (by kernel_rfl) (by kernel_rfl) (by exact fun _ _ _ h => h) (Or.inl ⟨by rfl, ?_⟩) hHeld ?_
        rotate_left
        · (intro w hSw; have q0 := hSw.c0; have q1 := hSw.g0; have q2 := hSw.g1; have q3 := hSw.b0; have q4 := hSw.b1; clear hSw; go_simp; try with_reducible rfl)
        try simp only [Act.put, List.setIfInBounds_toArray, List.set_cons_zero, List.set_cons_succ]
        refine wpAnyH_done (by kernel_rfl) ?_ _
        have HL := Lib.hid hHeld.low
        clear hHeld HS
        go_wp2_with fail
        go_meet
        exact ⟨by rw [← HTS2.out]; simp [belowG], HL.out⟩
      · have hts := HTS.out
        rw [dif_neg hlt] at hts
        have HTS2 := Lib.hid hts
        clear hts HTS
        have hlt2 : decide ((k : Int) < (l1.length : Int)) = false := by simp; omega
        go_wp2_with fail
        go_quiet (fail)
        go_wp2_with fail
        go_meet
        exact ⟨by rw [HTS2.out], below_drewN (Below.refl _ _) _⟩
    case rest =>
      obtain ⟨rfl, hB⟩ := hcut
      have HT2 := Lib.hid (HT.out.below hB)
      clear HT hB
      cases tst
      · have hkl : k ≤ l1.length := by omega
        have hE := takeWhile_at (p := belowG g) hkl HN.out (fun hk' => by have := HTS.out; rwa [dif_pos hk'] at this)
        have E1 := Lib.hid (show insG l1 g = l1.take k ++ [g] ++ l1.drop k by unfold insG; rw [hE.1, hE.2]; simp)
        have hrc := HT2.out.fen.lt
        clear hE HTS HN
        cases a with
        | none =>
          have hc0 := hnil rfl
          subst hc0
          have hk0 : k = 0 := by omega
          have hl0 : l1 = [] := List.eq_nil_of_length_eq_zero (by omega)
          subst hk0
          subst hl0
          have hT2 := HT2.out
          have g0 := hT2.g0
          have g1 := hT2.g1
          have g2 := hT2.g2
          have c0 := hT2.fen.c0
          clear hT2
          go_wp2_with (at_builtin; refine wpList_app rfl _ _ rfl (B := wc.heap.size) (xs := []) (ys := [g]) rfl rfl (World.ownsRow_nil _ _ _ _) (reads_single g wc) (by simp) (by simp) ?_)
          intro v3 w3 hown2 hg2
          have HB3 := Lib.hid (((Below.refl wc.heap.size wc).alloc (Nat.le_refl _) (.cells #[.int .u64 g.1.1, .string g.1.2, .int .u64 g.2] 43)).trans (app_below (World.ownsRow_nil _ wc.heap.size _ _) (by simp) hg2))
          have HO2 : Hid (w3.ownsRow wc.heap.size GT 3 v3 ([] ++ [g]).length (([] ++ [g]).flatMap encG)) := Lib.hid (by simpa using hown2)
          have hT3 := HT2.out.below HB3.out
          have hs3 := HB3.out.size
          have c0 := hT3.fen.c0
          clear g0 g1 g2 hT3
          obtain ⟨a4, m4, cap4, rfl⟩ := own_form hown2
          clear hown2 hg2
          go_wp2_with (at_builtin; refine wpList_app rfl _ _ rfl (B := wc.heap.size) (xs := [] ++ [g]) (ys := []) rfl rfl HO2.out (.inl ⟨rfl, _, _, rfl⟩) (by simp) hs3 ?_)
          intro v4 w4 hown3 hg3
          have hB4 := HB3.out.trans (app_below HO2.out hs3 hg3)
          have hT4 := HT2.out.below hB4
          have hO3 : w4.ownsRow wc.heap.size GT 3 v4 (insG [] g).length ((insG [] g).flatMap encG) := by rw [E1.out]; simpa using hown3
          obtain ⟨a5, m5, cap5, rfl⟩ := own_form hown3
          have HS := Lib.hid (RFen.store hT4.fen.box hO3 (show R ≤ wc.heap.size by omega) hrc hRr)
          have HFR := Lib.hid (hT4.fr.setCell (p := ⟨r, 0, none⟩) rfl (.slice a5 m5 cap5))
          have c4 := hT4.fen.c0
          have z4 := hT4.fen.z 0
          clear HO2 HB3 HT2 hown3 hg3 hB4 hT4 hO3 c0 hs3
          go_wp2_with fail
          go_end0
          exact ⟨rfl, _, by rw [HL1.out]; exact HS.out, HFR.out⟩
        | some ad =>
          obtain ⟨b, off, spot⟩ := ad
          have hsp : spot = none := by
            obtain ⟨_, ⟨h, _⟩ | ⟨_, _, _, h, _⟩⟩ := HT2.out.fen.own
            · cases h
            · injection h with h; injection h with h; injection h
          subst hsp
          clear hnil
          by_cases hc : cap = k
          · subst hc
            have c0 := HT2.out.fen.c0
            have HR := Lib.hid HT2.out.fen.reads
            go_wp2_with (at_builtin; refine wpList_app rfl _ _ rfl (B := wc.heap.size) (xs := []) rfl rfl (World.ownsRow_nil _ _ _ _) (HR.out.take cap hkl _) (by simp; omega) (Nat.le_refl _) ?_)
            intro v2 w2 hown1 hg1
            have HB2 := Lib.hid (app_below (World.ownsRow_nil wc wc.heap.size _ _) (Nat.le_refl _) hg1)
            have HO1 : Hid (w2.ownsRow wc.heap.size GT 3 v2 (l1.take cap).length ((l1.take cap).flatMap encG)) := Lib.hid (by rw [List.length_take, Nat.min_eq_left hkl]; simpa [show l1.length - cap = 0 by omega] using hown1)
            have hT2 := HT2.out.below HB2.out
            have hs2 := HB2.out.size
            have g0 := hT2.g0
            have g1 := hT2.g1
            have g2 := hT2.g2
            clear hown1 hg1 c0 hT2
            go_wp2_with (at_builtin; refine wpList_app rfl _ _ rfl (B := wc.heap.size) (xs := l1.take cap) (ys := [g]) rfl rfl (own_below HO1.out ((Below.refl _ _).alloc (Nat.le_refl _) _)) (reads_single g w2) (by simp; omega) (by simp; omega) ?_)
            intro v3 w3 hown2 hg2
            have HB3 := Lib.hid (HB2.out.trans (((Below.refl w2.heap.size w2).alloc (Nat.le_refl _) (.cells #[.int .u64 g.1.1, .string g.1.2, .int .u64 g.2] 43)).mono hs2 |>.trans (app_below (own_below HO1.out ((Below.refl _ _).alloc (Nat.le_refl _) (.cells #[.int .u64 g.1.1, .string g.1.2, .int .u64 g.2] 43))) (by simp; omega) hg2)))
            have HO2 : Hid (w3.ownsRow wc.heap.size GT 3 v3 (l1.take cap ++ [g]).length ((l1.take cap ++ [g]).flatMap encG)) := Lib.hid (by rw [List.length_append, List.length_take, Nat.min_eq_left hkl]; simpa [show l1.length - cap = 0 by omega] using hown2)
            have hT3 := HT2.out.below HB3.out
            have hs3 := HB3.out.size
            have c0 := hT3.fen.c0
            have HR3 := Lib.hid hT3.fen.reads
            clear hown2 hg2 g0 g1 g2 hT3 HO1 HB2 hs2
            go_wp2_with (at_builtin; refine wpList_app rfl _ _ rfl (B := wc.heap.size) (xs := l1.take cap ++ [g]) (ys := l1.drop cap) rfl rfl HO2.out (.inl ⟨List.drop_eq_nil_of_le (by omega), _, _, rfl⟩) (by simp; omega) hs3 ?_)
            intro v4 w4 hown3 hg3
            have hB4 := HB3.out.trans (app_below HO2.out hs3 hg3)
            have hT4 := HT2.out.below hB4
            have hO3 : w4.ownsRow wc.heap.size GT 3 v4 (insG l1 g).length ((insG l1 g).flatMap encG) := by rw [E1.out, List.length_append, List.length_append, List.length_take, Nat.min_eq_left hkl, List.length_drop]; first | simpa [show l1.length - cap = 0 by omega] using hown3 | (rw [show k + [g].length + (l1.length - k) = k + (l1.length - k + 1) by simp; omega]; simpa using hown3)
            obtain ⟨a4, m4, cap4, rfl⟩ := own_form hown3
            have HS := Lib.hid (RFen.store hT4.fen.box hO3 (show R ≤ wc.heap.size by omega) hrc hRr)
            have HFR := Lib.hid (hT4.fr.setCell (p := ⟨r, 0, none⟩) rfl (.slice a4 m4 cap4))
            have c4 := hT4.fen.c0
            have z4 := hT4.fen.z 0
            clear HO2 HB3 HR HR3 HT2 hown3 hg3 hB4 hT4 hO3 c0 hs3
            go_wp2_with fail
            go_end0
            exact ⟨rfl, _, by rw [HL1.out]; exact HS.out, HFR.out⟩
          · have hc' : ¬ k = cap := fun e => hc e.symm
            have c0 := HT2.out.fen.c0
            have HR := Lib.hid HT2.out.fen.reads
            go_wp2_with (at_builtin; refine wpList_app rfl _ _ rfl (B := wc.heap.size) (xs := []) rfl rfl (World.ownsRow_nil _ _ _ _) (HR.out.take k hkl _) (by simp; omega) (Nat.le_refl _) ?_)
            intro v2 w2 hown1 hg1
            have HB2 := Lib.hid (app_below (World.ownsRow_nil wc wc.heap.size _ _) (Nat.le_refl _) hg1)
            have HO1 : Hid (w2.ownsRow wc.heap.size GT 3 v2 (l1.take k).length ((l1.take k).flatMap encG)) := Lib.hid (by rw [List.length_take, Nat.min_eq_left hkl]; simpa using hown1)
            have hT2 := HT2.out.below HB2.out
            have hs2 := HB2.out.size
            have g0 := hT2.g0
            have g1 := hT2.g1
            have g2 := hT2.g2
            clear hown1 hg1 c0 hT2
            go_wp2_with (at_builtin; refine wpList_app rfl _ _ rfl (B := wc.heap.size) (xs := l1.take k) (ys := [g]) rfl rfl (own_below HO1.out ((Below.refl _ _).alloc (Nat.le_refl _) _)) (reads_single g w2) (by simp; omega) (by simp; omega) ?_)
            intro v3 w3 hown2 hg2
            have HB3 := Lib.hid (HB2.out.trans (((Below.refl w2.heap.size w2).alloc (Nat.le_refl _) (.cells #[.int .u64 g.1.1, .string g.1.2, .int .u64 g.2] 43)).mono hs2 |>.trans (app_below (own_below HO1.out ((Below.refl _ _).alloc (Nat.le_refl _) (.cells #[.int .u64 g.1.1, .string g.1.2, .int .u64 g.2] 43))) (by simp; omega) hg2)))
            have HO2 : Hid (w3.ownsRow wc.heap.size GT 3 v3 (l1.take k ++ [g]).length ((l1.take k ++ [g]).flatMap encG)) := Lib.hid (by rw [List.length_append, List.length_take, Nat.min_eq_left hkl]; simpa using hown2)
            have hT3 := HT2.out.below HB3.out
            have hs3 := HB3.out.size
            have c0 := hT3.fen.c0
            have HR3 := Lib.hid hT3.fen.reads
            clear hown2 hg2 g0 g1 g2 hT3 HO1 HB2 hs2
            go_wp2_with (at_builtin; refine wpList_app rfl _ _ rfl (B := wc.heap.size) (xs := l1.take k ++ [g]) (ys := l1.drop k) rfl rfl HO2.out (HR3.out.drop k hkl _) (by simp; omega) hs3 ?_)
            intro v4 w4 hown3 hg3
            have hB4 := HB3.out.trans (app_below HO2.out hs3 hg3)
            have hT4 := HT2.out.below hB4
            have hO3 : w4.ownsRow wc.heap.size GT 3 v4 (insG l1 g).length ((insG l1 g).flatMap encG) := by rw [E1.out, List.length_append, List.length_append, List.length_take, Nat.min_eq_left hkl, List.length_drop]; first | simpa using hown3 | (rw [show k + [g].length + (l1.length - k) = k + (l1.length - k + 1) by simp; omega]; simpa using hown3)
            obtain ⟨a4, m4, cap4, rfl⟩ := own_form hown3
            have HS := Lib.hid (RFen.store hT4.fen.box hO3 (show R ≤ wc.heap.size by omega) hrc hRr)
            have HFR := Lib.hid (hT4.fr.setCell (p := ⟨r, 0, none⟩) rfl (.slice a4 m4 cap4))
            have c4 := hT4.fen.c0
            have z4 := hT4.fen.z 0
            clear HO2 HB3 HR HR3 HT2 hown3 hg3 hB4 hT4 hO3 c0 hs3
            go_wp2_with fail
            go_end0
            exact ⟨rfl, _, by rw [HL1.out]; exact HS.out, HFR.out⟩
      · have hlt : k < l1.length := by
          have := HTS.out; split at this
          · assumption
          · cases this
        have hn2 : Hid (∀ j, (hj : j < l1.length) → j < k + 1 → belowG g l1[j] = true) := Lib.hid (fun j hj hjk => by
          by_cases e : j = k
          · subst e; have := HTS.out; rwa [dif_pos hlt] at this
          · exact HN.out j hj (by omega))
        clear HTS HN
        go_wp2_with fail
        go_roundg (gk - 1)
        case rel => exact ⟨k + 1, by omega, by go_num, hn2, HT2.out⟩
        case measure => omega
end Go.Proofs.Ytbelafkklblidaa
