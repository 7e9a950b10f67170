/- How a task, a result, a list of steps and a list of bytes that came in read. -/
import Derived.Test.YtdhbjejejeljoaaGreatOwnFr
import Derived.ProofKit
import Derived.Lib.SmallJoins
import Derived.Deep.Slices
import Derived.Test.YtdhbjejejeljoaaGreatEv8
import Derived.Test.YtdhbjejejeljoaaGreatVmP1
namespace Go.Proofs.YtdhbjejejeljoaaGreat
open Go.ChangeShapes Go.WideShapes Go.ChangeAt Go.RowKit Go.Deep

theorem open_K {P : Program} {α H : Type} {encV : TypeId × Value → H} {W : World} {base : Nat} {v : Value} {d : DataW H} {p : List MemPlace} {t e : TypeId} {enc : α → List Value} {k : Nat} {Q : α → Prop} (ht : P.underlying t = some (.slice e)) (hC : P.cellsOf e = k) (hk : ∀ x, (enc x).length = k) (h0 : 0 < k)
    (hel : ∀ n cs x, DataW.trod encV P W 0 (fun _ => true) true n e cs = some x → ∃ y, cs = enc y ∧ Q y)
    (hv : Value.okWide P W .any base t v) (h : DataW.Trod encV P W 0 (fun _ => true) true t v d p) : ∃ l, ReadsK enc k W v l ∧ l.length ≤ maxLen ∧ ∀ x ∈ l, Q x := by
  obtain ⟨a0, len, cap, rfl⟩ := okWide_slice ht hv
  obtain ⟨fuel, hf⟩ := h
  rcases open_slice ht hf with ⟨hcs, _⟩ | ⟨a, len', cap', m, n, D, Pl, hcs, hb, hl, hm, hmm, hx, hi⟩
  · simp [Value.cells] at hcs
    obtain ⟨rfl, rfl, rfl⟩ := hcs
    exact ⟨[], .inl ⟨rfl, _, _, rfl⟩, Nat.zero_le _, by simp⟩
  · simp [Value.cells] at hcs
    obtain ⟨rfl, rfl, rfl⟩ := hcs
    have hlm : len ≤ m := by rw [hmm]; split <;> omega
    have hall : ∀ i : Fin len, ∃ y : α, Q y ∧ ∀ j u, (enc y)[j]? = some u → W.cell? (a.add (i.1 * k + j)) = some u := by
      intro i
      obtain ⟨cs', hc, ht'⟩ := hi i.1 (by omega)
      rw [hC] at hc
      obtain ⟨y, rfl, hq⟩ := hel _ _ _ ht'
      obtain ⟨_, hcl, hat⟩ := World.cells?_some hc
      refine ⟨y, hq, fun j u hu => ?_⟩
      have hj : j < k := by have := (List.getElem?_eq_some_iff.1 hu).1; rw [hk] at this; exact this
      rw [← Go.Deep.add_add, hat j hj, hu]
    obtain ⟨f, hf2⟩ := Classical.axiomOfChoice hall
    by_cases h1 : len = 0
    · subst h1
      exact ⟨[], .inl ⟨rfl, _, _, rfl⟩, Nat.zero_le _, by simp⟩
    · obtain ⟨b, off, spot⟩ := a
      have hne : (enc (f ⟨0, by omega⟩))[0]? = some ((enc (f ⟨0, by omega⟩))[0]'(by rw [hk]; exact h0)) := List.getElem?_eq_getElem _
      have c0 := (hf2 ⟨0, by omega⟩).2 0 _ hne
      have hsp : spot = none := by
        simp only [Addr.add, Nat.zero_mul, Nat.zero_add, if_true, World.cell?] at c0
        split at c0
        · cases spot with
          | none => rfl
          | some s => simp at c0
        · cases c0
      subst hsp
      have hbb : b < W.heap.size := by
        simp only [Addr.add, Nat.zero_mul, Nat.zero_add, if_true, World.cell?] at c0
        split at c0
        · rename_i hh; exact (Array.getElem?_eq_some_iff.1 hh).1
        · cases c0
      refine ⟨List.ofFn f, .inr ⟨b, off, cap, by rw [List.length_ofFn], hbb, fun i hi2 t u hu => ?_⟩, by rw [List.length_ofFn]; exact Nat.le_trans hl hm, fun x hx2 => ?_⟩
      · rw [List.getElem_ofFn] at hu
        have cj := (hf2 ⟨i, by simpa using hi2⟩).2 t u hu
        have e2 : (⟨b, off, none⟩ : Addr).add (i * k + t) = ⟨b, off + (i * k + t), none⟩ := by
          by_cases hj0 : i * k + t = 0
          · rw [hj0]; rfl
          · unfold Addr.add; rw [if_neg hj0]
        rw [e2] at cj; exact cj
      · obtain ⟨i, hi2⟩ := List.mem_ofFn.1 hx2
        rw [← hi2]; exact (hf2 i).1
end Go.Proofs.YtdhbjejejeljoaaGreat
namespace Go.Proofs.YtdhbjejejeljoaaGreat
open Go.ChangeShapes Go.WideShapes Go.ChangeAt Go.RowKit Go.Joins Go.Deep

/-- A slice of structs that came in, held in a cell. -/
theorem open_Kt {P : Program} {α H : Type} {encV : TypeId × Value → H} {W : World} {v : Value} {x : DataW H × List MemPlace} {t e : TypeId} {enc : α → List Value} {k fuel : Nat} {Q : α → Prop} (ht : P.underlying t = some (.slice e)) (hC : P.cellsOf e = k) (hk : ∀ x, (enc x).length = k) (h0 : 0 < k)
    (hel : ∀ n cs x, DataW.trod encV P W 0 (fun _ => true) true n e cs = some x → ∃ y, cs = enc y ∧ Q y)
    (hf : DataW.trod encV P W 0 (fun _ => true) true fuel t [v] = some x) : ∃ l, ReadsK enc k W v l ∧ l.length ≤ maxLen ∧ ∀ x ∈ l, Q x := by
  rcases open_slice ht hf with ⟨hcs, _⟩ | ⟨a, len, cap, m, n, D, Pl, hcs, hb, hl, hm, hmm, hx, hi⟩
  · injection hcs with hcs
    subst hcs
    exact ⟨[], .inl ⟨rfl, _, _, rfl⟩, Nat.zero_le _, by simp⟩
  · injection hcs with hcs
    subst hcs
    have hlm : len ≤ m := by rw [hmm]; split <;> omega
    have hall : ∀ i : Fin len, ∃ y : α, Q y ∧ ∀ j u, (enc y)[j]? = some u → W.cell? (a.add (i.1 * k + j)) = some u := by
      intro i
      obtain ⟨cs', hc, ht'⟩ := hi i.1 (by omega)
      rw [hC] at hc
      obtain ⟨y, rfl, hq⟩ := hel _ _ _ ht'
      obtain ⟨_, hcl, hat⟩ := World.cells?_some hc
      refine ⟨y, hq, fun j u hu => ?_⟩
      have hj : j < k := by have := (List.getElem?_eq_some_iff.1 hu).1; rw [hk] at this; exact this
      rw [← Go.Deep.add_add, hat j hj, hu]
    obtain ⟨f, hf2⟩ := Classical.axiomOfChoice hall
    by_cases h1 : len = 0
    · subst h1
      exact ⟨[], .inl ⟨rfl, _, _, rfl⟩, Nat.zero_le _, by simp⟩
    · obtain ⟨b, off, spot⟩ := a
      have hne : (enc (f ⟨0, by omega⟩))[0]? = some ((enc (f ⟨0, by omega⟩))[0]'(by rw [hk]; exact h0)) := List.getElem?_eq_getElem _
      have c0 := (hf2 ⟨0, by omega⟩).2 0 _ hne
      have hsp : spot = none := by
        simp only [Addr.add, Nat.zero_mul, Nat.zero_add, if_true, World.cell?] at c0
        split at c0
        · cases spot with
          | none => rfl
          | some s => simp at c0
        · cases c0
      subst hsp
      have hbb : b < W.heap.size := by
        simp only [Addr.add, Nat.zero_mul, Nat.zero_add, if_true, World.cell?] at c0
        split at c0
        · rename_i hh; exact (Array.getElem?_eq_some_iff.1 hh).1
        · cases c0
      refine ⟨List.ofFn f, .inr ⟨b, off, cap, by rw [List.length_ofFn], hbb, fun i hi2 t u hu => ?_⟩, by rw [List.length_ofFn]; exact Nat.le_trans hl hm, fun x hx2 => ?_⟩
      · rw [List.getElem_ofFn] at hu
        have cj := (hf2 ⟨i, by simpa using hi2⟩).2 t u hu
        have e2 : (⟨b, off, none⟩ : Addr).add (i * k + t) = ⟨b, off + (i * k + t), none⟩ := by
          by_cases hj0 : i * k + t = 0
          · rw [hj0]; rfl
          · unfold Addr.add; rw [if_neg hj0]
        rw [e2] at cj; exact cj
      · obtain ⟨i, hi2⟩ := List.mem_ofFn.1 hx2
        rw [← hi2]; exact (hf2 i).1
end Go.Proofs.YtdhbjejejeljoaaGreat
namespace Go.Proofs.YtdhbjejejeljoaaGreat
open Go.RowKit Go.Sort Go.Lib

/-- A program that came in. -/
structure ProgIn (w : World) (v : Value) (p : List Fnc) : Prop where
  fns : ReadsK encF 3 w v p
  ops : ∀ f ∈ p, ReadsK encO 5 w (.slice f.oa f.ops.length f.oc) f.ops
  len : p.length ≤ maxLen
theorem ProgIn.below {w w' : World} {v : Value} {p : List Fnc} (h : ProgIn w v p) (hB : Below w.heap.size w w') : ProgIn w' v p := ⟨h.fns.below hB, fun f hf => (h.ops f hf).below hB, h.len⟩
def heavyP (p : List Fnc) : Bool := decide (60 < p.length) || p.any fun f => decide (200 < f.ops.length)
theorem heavyP_no {p : List Fnc} (h : heavyP p = false) : p.length ≤ 60 ∧ ∀ f ∈ p, f.ops.length ≤ 200 := by
  unfold heavyP at h
  simp only [Bool.or_eq_false_iff, decide_eq_false_iff_not, List.any_eq_false, decide_eq_true_eq] at h
  exact ⟨by omega, fun f hf => by have := h.2 f hf; omega⟩
theorem ProgIn.at {w : World} {v : Value} {p : List Fnc} (h : ProgIn w v p) (hh : heavyP p = false) : ProgAt w v p := by
  obtain ⟨h1, h2⟩ := heavyP_no hh
  exact ⟨h.fns, fun f hf => ⟨h.ops f hf, by have := h2 f hf; omega⟩, by omega⟩
set_option maxHeartbeats 1600000 in
set_option maxRecDepth 100000 in
theorem heavy_any (v : Value) (p : List Fnc) (w : World) (hv : ProgIn w v p) :
    Calls Tryz.prog 12 #[.agg #[v]] w fun e w' => e = .returned (.bool (heavyP p)) ∧ Below w.heap.size w w' := by
  obtain ⟨a, cap, rfl⟩ := hv.fns.slice
  have hA : Below w.heap.size w (w.alloc (.cells #[.slice a p.length cap] 24)) := (Below.refl _ _).alloc (Nat.le_refl _) _
  have hb : BoxAt (w.alloc (.cells #[.slice a p.length cap] 24)) w.heap.size #[.slice a p.length cap] 24 := heap_alloc_new _ _
  have HV := Lib.hid (hv.below hA)
  have HA := Lib.hid hA
  have c0 := hb.cell 0
  simp only [List.getElem?_toArray, List.getElem?_cons_zero] at c0
  clear hv hA hb
  go_enter Tryz.func12, Tryz.ntmps12
  go_upto_region 1 with fail
  generalize w.alloc (.cells #[.slice a p.length cap] 24) = w1 at *
  by_cases h60 : 60 < p.length
  · have h1 : (60 : Int) < p.length := by omega
    have HE := Lib.hid (show heavyP p = true by unfold heavyP; simp [h60])
    go_wp2_with fail
    go_ret
    exact ⟨ret_bool HE.out.symm, HA.out⟩
  have h1 : ¬ (60 : Int) < p.length := by omega
  have h1d : decide ((60 : Int) < p.length) = false := by simpa using h1
  have hp60 : p.length ≤ 60 := by omega
  have H60 := Lib.hid h60
  clear h60
  go_wp2_with fail
  go_loopg [3] p.length (fun gk i wr => ∃ k : Nat, gk + k = p.length ∧ i = .int .i64 k ∧ Hid (wr = w1 ∧ ∀ j, (hj : j < p.length) → j < k → p[j].ops.length ≤ 200))
  case atStart => exact ⟨0, by omega, rfl, rfl, fun j _ hj => absurd hj (by omega)⟩
  case round =>
    obtain ⟨k, hk, rfl, HB⟩ := hrel
    obtain rfl := HB.out.1
    by_cases hlt : k < p.length
    · obtain ⟨b, off, c, he, hb, hc⟩ := HV.out.fns.at (by omega)
      injection he with he1 he2 he3
      subst he1
      obtain ⟨f0, f1, f2⟩ := fn_at hc hlt
      have HK := Lib.hid (show ∀ j, (hj : j < p.length) → j < k → p[j].ops.length ≤ 200 from HB.out.2)
      have HM := Lib.hid (List.getElem_mem hlt)
      have HJ := Lib.hid (show ∀ j, (hj : j < p.length) → j < k + 1 → p[k].ops.length ≤ 200 → p[j].ops.length ≤ 200 from fun j hj hjk h => by
        by_cases e : j = k
        · subst e; exact h
        · exact HB.out.2 j hj (by omega))
      have q1 : (k : Int) < p.length := by omega
      have q0 : (0 : Int) ≤ k := by omega
      clear hc hb he2 he3 f0 f1 HB
      generalize p[k] = f at *
      by_cases h200 : 200 < f.ops.length
      · have h2 : (200 : Int) < f.ops.length := by omega
        have HE := Lib.hid (show heavyP p = true by
          unfold heavyP
          rw [Bool.or_eq_true]
          exact .inr (List.any_eq_true.2 ⟨f, HM.out, by simpa using h200⟩))
        go_wp2_with fail
        go_ret
        exact ⟨ret_bool HE.out.symm, HA.out⟩
      · have h2 : ¬ (200 : Int) < f.ops.length := by omega
        have h2d : decide ((200 : Int) < f.ops.length) = false := by simpa using h2
        have HL := Lib.hid (show f.ops.length ≤ 200 by omega)
        clear h200
        go_wp2_with fail
        go_roundg (gk - 1)
        case rel => exact ⟨k + 1, by omega, by go_num, rfl, fun j hj hjk => HJ.out j hj hjk HL.out⟩
        case measure => omega
    · have HE := Lib.hid (show heavyP p = false by
        unfold heavyP
        rw [Bool.or_eq_false_iff]
        refine ⟨by simp; omega, List.any_eq_false.2 fun f hf => ?_⟩
        obtain ⟨j, hj, rfl⟩ := List.getElem_of_mem hf
        have := HB.out.2 j hj (by omega)
        simpa using this)
      clear HB
      go_wp2_with fail
      go_ret
      exact ⟨ret_bool HE.out.symm, HA.out⟩
/-- More than a statement runs. -/
def heavy13 (p : List Fnc) (n : Nat) (fuel : Int) : Bool := heavyP p || decide (100 < n) || decide (3000 < fuel)
set_option maxHeartbeats 1600000 in
set_option maxRecDepth 100000 in
theorem heavy13_any (v : Value) (p : List Fnc) (a : Option Addr) (n cap : Nat) (fuel : Int) (w : World) (hv : ProgIn w v p) :
    Calls Tryz.prog 4 #[.agg #[v], .slice a n cap, .int .i64 fuel] w fun e w' => e = .returned (.bool (heavy13 p n fuel)) ∧ Below w.heap.size w w' := by
  obtain ⟨pa, pcap, rfl⟩ := hv.fns.slice
  have hA : Below w.heap.size w (w.alloc (.cells #[.slice pa p.length pcap] 24)) := (Below.refl _ _).alloc (Nat.le_refl _) _
  have HV := Lib.hid (hv.below hA)
  have HA := Lib.hid hA
  clear hv hA
  go_enter Tryz.func4, Tryz.ntmps4
  go_wp2_with fail
  refine (heavy_any _ p _ HV.out).mono ?_
  rintro e w2 ⟨rfl, hB⟩
  have HB := Lib.hid (HA.out.trans (hB.mono HA.out.size))
  obtain ⟨hh, hhe⟩ : ∃ h, heavyP p = h := ⟨_, rfl⟩
  rw [hhe]
  have HH := Lib.hid hhe
  clear hB hhe HA HV
  cases hh
  · by_cases h1 : 100 < n
    · have h1i : (100 : Int) < n := by omega
      have HE := Lib.hid (show heavy13 p n fuel = true by unfold heavy13; rw [HH.out]; simp [h1])
      go_wp2_with fail
      go_ret
      exact ⟨ret_bool HE.out.symm, HB.out⟩
    · have h1i : ¬ (100 : Int) < n := by omega
      have h1d : decide ((100 : Int) < n) = false := by simpa using h1i
      have HE := Lib.hid (show heavy13 p n fuel = decide (3000 < fuel) by unfold heavy13; rw [HH.out]; simp [h1])
      clear h1
      go_wp2_with fail
      go_ret
      exact ⟨ret_bool HE.out.symm, HB.out⟩
  · have HE := Lib.hid (show heavy13 p n fuel = true by unfold heavy13; rw [HH.out]; simp)
    go_wp2_with fail
    go_ret
    exact ⟨ret_bool HE.out.symm, HB.out⟩
theorem heavy13_no {p : List Fnc} {n : Nat} {fuel : Int} (h : heavy13 p n fuel = false) : heavyP p = false ∧ n ≤ 100 ∧ fuel ≤ 3000 := by
  unfold heavy13 at h
  simp only [Bool.or_eq_false_iff, decide_eq_false_iff_not] at h
  exact ⟨h.1.1, by omega, by omega⟩
end Go.Proofs.YtdhbjejejeljoaaGreat
namespace Go.Proofs.YtdhbjejejeljoaaGreat
open Go.ChangeShapes Go.WideShapes Go.ChangeAt Go.RowKit Go.Joins Go.Deep

theorem op_fields : ∃ f0 f1 f2 f3 f4 : Field, Tryz.prog.underlying 93 = some (.struct #[f0, f1, f2, f3, f4]) ∧ (f0.type = 5 ∧ f0.offset = 0) ∧ (f1.type = 3 ∧ f1.offset = 1) ∧ (f2.type = 3 ∧ f2.offset = 2) ∧ (f3.type = 3 ∧ f3.offset = 3) ∧ f4.type = 2 ∧ f4.offset = 4 :=
  ⟨_, _, _, _, _, Tryz.underlying93, ⟨rfl, rfl⟩, ⟨rfl, rfl⟩, ⟨rfl, rfl⟩, ⟨rfl, rfl⟩, rfl, rfl⟩
theorem func_fields : ∃ f0 f1 f2 : Field, Tryz.prog.underlying 77 = some (.struct #[f0, f1, f2]) ∧ (f0.type = 3 ∧ f0.offset = 0) ∧ (f1.type = 3 ∧ f1.offset = 1) ∧ f2.type = 75 ∧ f2.offset = 2 :=
  ⟨_, _, _, Tryz.underlying77, ⟨rfl, rfl⟩, ⟨rfl, rfl⟩, rfl, rfl⟩
theorem prog_fields : ∃ f0 : Field, Tryz.prog.underlying 24 = some (.struct #[f0]) ∧ f0.type = 22 ∧ f0.offset = 0 :=
  ⟨_, Tryz.underlying24, rfl, rfl⟩
section
variable {H : Type} {enc : TypeId × Value → H} {W : World}
theorem trod_struct5 {P : Program} {t : TypeId} {f0 f1 f2 f3 f4 : Field} {fuel : Nat} {cs : List Value} {x : DataW H × List MemPlace} (ht : P.underlying t = some (.struct #[f0, f1, f2, f3, f4])) (h : DataW.trod enc P W 0 (fun _ => true) true fuel t cs = some x) :
    ∃ y0 y1 y2 y3 y4 n, cs.length = P.cellsOf t ∧ DataW.trod enc P W 0 (fun _ => true) true n f0.type ((cs.drop f0.offset).take (P.cellsOf f0.type)) = some y0 ∧
      DataW.trod enc P W 0 (fun _ => true) true n f1.type ((cs.drop f1.offset).take (P.cellsOf f1.type)) = some y1 ∧ DataW.trod enc P W 0 (fun _ => true) true n f2.type ((cs.drop f2.offset).take (P.cellsOf f2.type)) = some y2 ∧
      DataW.trod enc P W 0 (fun _ => true) true n f3.type ((cs.drop f3.offset).take (P.cellsOf f3.type)) = some y3 ∧ DataW.trod enc P W 0 (fun _ => true) true n f4.type ((cs.drop f4.offset).take (P.cellsOf f4.type)) = some y4 := by
  obtain ⟨xs, n, _, rfl, hl, hlen, hf⟩ := DataW.trod_struct ht h
  match xs, hlen with
  | [y0, y1, y2, y3, y4], _ => exact ⟨y0, y1, y2, y3, y4, n, hl, by simpa using hf 0 f0 rfl, by simpa using hf 1 f1 rfl, by simpa using hf 2 f2 rfl, by simpa using hf 3 f3 rfl, by simpa using hf 4 f4 rfl⟩
theorem trod_struct3' {P : Program} {t : TypeId} {f0 f1 f2 : Field} {fuel : Nat} {cs : List Value} {x : DataW H × List MemPlace} (ht : P.underlying t = some (.struct #[f0, f1, f2])) (h : DataW.trod enc P W 0 (fun _ => true) true fuel t cs = some x) :
    ∃ y0 y1 y2 n, cs.length = P.cellsOf t ∧ DataW.trod enc P W 0 (fun _ => true) true n f0.type ((cs.drop f0.offset).take (P.cellsOf f0.type)) = some y0 ∧
      DataW.trod enc P W 0 (fun _ => true) true n f1.type ((cs.drop f1.offset).take (P.cellsOf f1.type)) = some y1 ∧ DataW.trod enc P W 0 (fun _ => true) true n f2.type ((cs.drop f2.offset).take (P.cellsOf f2.type)) = some y2 := by
  obtain ⟨xs, n, _, rfl, hl, hlen, hf⟩ := DataW.trod_struct ht h
  match xs, hlen with
  | [y0, y1, y2], _ => exact ⟨y0, y1, y2, n, hl, by simpa using hf 0 f0 rfl, by simpa using hf 1 f1 rfl, by simpa using hf 2 f2 rfl⟩
set_option maxRecDepth 20000 in
theorem op_read {n : Nat} {cs : List Value} {x : DataW H × List MemPlace} (h : DataW.trod enc Tryz.prog W 0 (fun _ => true) true n 93 cs = some x) : ∃ o : Opr, cs = encO o ∧ True := by
  obtain ⟨f0, f1, f2, f3, f4, hu, ⟨t0, o0⟩, ⟨t1, o1⟩, ⟨t2, o2⟩, ⟨t3, o3⟩, t4, o4⟩ := op_fields
  obtain ⟨y0, y1, y2, y3, y4, n', hl, h0, h1, h2, h3, h4⟩ := trod_struct5 hu h
  rw [show Tryz.prog.cellsOf 93 = 5 by kernel_rfl] at hl
  match cs, hl with
  | [a0, a1, a2, a3, a4], _ =>
    rw [t0, o0, show Tryz.prog.cellsOf 5 = 1 by kernel_rfl] at h0
    rw [t1, o1, show Tryz.prog.cellsOf 3 = 1 by kernel_rfl] at h1
    rw [t2, o2, show Tryz.prog.cellsOf 3 = 1 by kernel_rfl] at h2
    rw [t3, o3, show Tryz.prog.cellsOf 3 = 1 by kernel_rfl] at h3
    rw [t4, o4, show Tryz.prog.cellsOf 2 = 1 by kernel_rfl] at h4
    simp only [List.drop_succ_cons, List.drop_zero, List.take_succ_cons, List.take_zero] at h0 h1 h2 h3 h4
    obtain ⟨j0, e0, _⟩ := DataW.trod_int Tryz.underlying5 h0
    obtain ⟨j1, e1, _⟩ := DataW.trod_int Tryz.underlying3 h1
    obtain ⟨j2, e2, _⟩ := DataW.trod_int Tryz.underlying3 h2
    obtain ⟨j3, e3, _⟩ := DataW.trod_int Tryz.underlying3 h3
    obtain ⟨j4, e4, _⟩ := DataW.trod_int Tryz.underlying2 h4
    simp only [List.cons.injEq, and_true] at e0 e1 e2 e3 e4
    exact ⟨⟨j0, j1, j2, j3, j4⟩, by rw [e0, e1, e2, e3, e4]; rfl, trivial⟩
set_option maxRecDepth 20000 in
theorem func_read {n : Nat} {cs : List Value} {x : DataW H × List MemPlace} (h : DataW.trod enc Tryz.prog W 0 (fun _ => true) true n 77 cs = some x) : ∃ f : Fnc, cs = encF f ∧ ReadsK encO 5 W (.slice f.oa f.ops.length f.oc) f.ops := by
  obtain ⟨f0, f1, f2, hu, ⟨t0, o0⟩, ⟨t1, o1⟩, t2, o2⟩ := func_fields
  obtain ⟨y0, y1, y2, n', hl, h0, h1, h2⟩ := trod_struct3' hu h
  rw [show Tryz.prog.cellsOf 77 = 3 by kernel_rfl] at hl
  match cs, hl with
  | [a0, a1, a2], _ =>
    rw [t0, o0, show Tryz.prog.cellsOf 3 = 1 by kernel_rfl] at h0
    rw [t1, o1, show Tryz.prog.cellsOf 3 = 1 by kernel_rfl] at h1
    rw [t2, o2, show Tryz.prog.cellsOf 75 = 1 by kernel_rfl] at h2
    simp only [List.drop_succ_cons, List.drop_zero, List.take_succ_cons, List.take_zero] at h0 h1 h2
    obtain ⟨j0, e0, _⟩ := DataW.trod_int Tryz.underlying3 h0
    obtain ⟨j1, e1, _⟩ := DataW.trod_int Tryz.underlying3 h1
    simp only [List.cons.injEq, and_true] at e0 e1
    obtain ⟨l, hr, _, _⟩ := open_Kt (enc := encO) (k := 5) (Q := fun _ => True) Tryz.underlying75 (by kernel_rfl) (fun _ => rfl) (by decide) (fun _ _ _ h => op_read h) h2
    obtain ⟨oa, oc, rfl⟩ := hr.slice
    exact ⟨⟨j0, j1, l, oa, oc⟩, by rw [e0, e1]; rfl, hr⟩
variable {base : Nat} {v : Value} {d : DataW H} {p : List MemPlace}
set_option maxRecDepth 20000 in
theorem open_prog (hv : Value.okWide Tryz.prog W .any base 24 v) (h : DataW.Trod enc Tryz.prog W 0 (fun _ => true) true 24 v d p) : ∃ u l, v = .agg #[u] ∧ ProgIn W u l := by
  obtain ⟨f0, hu, t0, o0⟩ := prog_fields
  obtain ⟨cs, rfl, hsz⟩ := okWide_struct hu hv
  rw [show Tryz.prog.cellsOf 24 = 1 by kernel_rfl] at hsz
  obtain ⟨u, rfl⟩ : ∃ u, cs = #[u] := by
    obtain ⟨l⟩ := cs
    match l, hsz with
    | [u], _ => exact ⟨u, rfl⟩
  obtain ⟨fuel, hf⟩ := h
  obtain ⟨y0, n, _, _, h0⟩ := trod_struct1 hu hf
  rw [t0, o0, show Tryz.prog.cellsOf 22 = 1 by kernel_rfl] at h0
  have h1 : DataW.trod enc Tryz.prog W 0 (fun _ => true) true n 22 [u] = some y0 := by simpa [Value.cells] using h0
  obtain ⟨l, hr, hl, hq⟩ := open_Kt (enc := encF) (k := 3) (Q := fun f : Fnc => ReadsK encO 5 W (.slice f.oa f.ops.length f.oc) f.ops) Tryz.underlying22 (by kernel_rfl) (fun _ => rfl) (by decide) (fun _ _ _ h => func_read h) h1
  exact ⟨u, l, rfl, hr, hq, hl⟩
set_option maxRecDepth 100000 in
theorem open_nums (hv : Value.okWide Tryz.prog W .any base 25 v) (h : DataW.Trod enc Tryz.prog W 0 (fun _ => true) true 25 v d p) : ∃ l, ReadsK encN1 1 W v l ∧ l.length ≤ maxLen := by
  obtain ⟨l, h1, h2, _⟩ := open_K (enc := encN1) (k := 1) (Q := fun _ => True) Tryz.underlying25 (by kernel_rfl) (fun _ => rfl) (by decide)
    (fun _ _ _ h => by
      obtain ⟨j, e0, _⟩ := DataW.trod_int Tryz.underlying2 h
      exact ⟨j, e0, trivial⟩) hv h
  exact ⟨l, h1, h2⟩
end
end Go.Proofs.YtdhbjejejeljoaaGreat
namespace Go.Proofs.YtdhbjejejeljoaaGreat
open Go.ChangeShapes Go.WideShapes Go.ChangeAt Go.RowKit Go.Joins Go.Deep

theorem res_fields : ∃ f0 f1 : Field, Tryz.prog.underlying 41 = some (.struct #[f0, f1]) ∧ (f0.type = 2 ∧ f0.offset = 0) ∧ f1.offset = 1 ∧ Tryz.prog.underlying f1.type = some (.int .i64) ∧ Tryz.prog.cellsOf f1.type = 1 ∧ oneCellFields Tryz.prog #[f0, f1] = true :=
  ⟨_, _, Tryz.underlying41, ⟨rfl, rfl⟩, rfl, by kernel_rfl, by kernel_rfl, by kernel_rfl⟩
theorem task_fields : ∃ f0 f1 f2 f3 : Field, Tryz.prog.underlying 34 = some (.struct #[f0, f1, f2, f3]) ∧ (f0.type = 9 ∧ f0.offset = 0) ∧ (f1.type = 3 ∧ f1.offset = 1) ∧ (f2.type = 25 ∧ f2.offset = 2) ∧ f3.type = 3 ∧ f3.offset = 3 :=
  ⟨_, _, _, _, Tryz.underlying34, ⟨rfl, rfl⟩, ⟨rfl, rfl⟩, ⟨rfl, rfl⟩, rfl, rfl⟩
section
variable {H : Type} {enc : TypeId × Value → H} {W : World}
theorem trod_struct4' {P : Program} {t : TypeId} {f0 f1 f2 f3 : Field} {fuel : Nat} {cs : List Value} {x : DataW H × List MemPlace} (ht : P.underlying t = some (.struct #[f0, f1, f2, f3])) (h : DataW.trod enc P W 0 (fun _ => true) true fuel t cs = some x) :
    ∃ y0 y1 y2 y3 n, cs.length = P.cellsOf t ∧ DataW.trod enc P W 0 (fun _ => true) true n f0.type ((cs.drop f0.offset).take (P.cellsOf f0.type)) = some y0 ∧
      DataW.trod enc P W 0 (fun _ => true) true n f1.type ((cs.drop f1.offset).take (P.cellsOf f1.type)) = some y1 ∧ DataW.trod enc P W 0 (fun _ => true) true n f2.type ((cs.drop f2.offset).take (P.cellsOf f2.type)) = some y2 ∧
      DataW.trod enc P W 0 (fun _ => true) true n f3.type ((cs.drop f3.offset).take (P.cellsOf f3.type)) = some y3 := by
  obtain ⟨xs, n, _, rfl, hl, hlen, hf⟩ := DataW.trod_struct ht h
  match xs, hlen with
  | [y0, y1, y2, y3], _ => exact ⟨y0, y1, y2, y3, n, hl, by simpa using hf 0 f0 rfl, by simpa using hf 1 f1 rfl, by simpa using hf 2 f2 rfl, by simpa using hf 3 f3 rfl⟩
theorem trod_struct2' {P : Program} {t : TypeId} {f0 f1 : Field} {fuel : Nat} {cs : List Value} {x : DataW H × List MemPlace} (ht : P.underlying t = some (.struct #[f0, f1])) (h : DataW.trod enc P W 0 (fun _ => true) true fuel t cs = some x) :
    ∃ y0 y1 n, cs.length = P.cellsOf t ∧ DataW.trod enc P W 0 (fun _ => true) true n f0.type ((cs.drop f0.offset).take (P.cellsOf f0.type)) = some y0 ∧
      DataW.trod enc P W 0 (fun _ => true) true n f1.type ((cs.drop f1.offset).take (P.cellsOf f1.type)) = some y1 := by
  obtain ⟨xs, n, _, rfl, hl, hlen, hf⟩ := DataW.trod_struct ht h
  match xs, hlen with
  | [y0, y1], _ => exact ⟨y0, y1, n, hl, by simpa using hf 0 f0 rfl, by simpa using hf 1 f1 rfl⟩
set_option maxRecDepth 20000 in
theorem res_read {n : Nat} {cs : List Value} {x : DataW H × List MemPlace} (h : DataW.trod enc Tryz.prog W 0 (fun _ => true) true n 41 cs = some x) : ∃ a b, cs = [.int .i64 a, .int .i64 b] := by
  obtain ⟨f0, f1, hu, ⟨t0, o0⟩, o1, u1, c1, _⟩ := res_fields
  obtain ⟨y0, y1, n', hl, h0, h1⟩ := trod_struct2' hu h
  rw [show Tryz.prog.cellsOf 41 = 2 by kernel_rfl] at hl
  match cs, hl with
  | [a0, a1], _ =>
    rw [t0, o0, show Tryz.prog.cellsOf 2 = 1 by kernel_rfl] at h0
    rw [o1, c1] at h1
    simp only [List.drop_succ_cons, List.drop_zero, List.take_succ_cons, List.take_zero] at h0 h1
    obtain ⟨j0, e0, _⟩ := DataW.trod_int Tryz.underlying2 h0
    obtain ⟨j1, e1, _⟩ := DataW.trod_int u1 h1
    simp only [List.cons.injEq, and_true] at e0 e1
    exact ⟨j0, j1, by rw [e0, e1]⟩
variable {base : Nat} {v : Value} {d : DataW H} {p : List MemPlace}
set_option maxRecDepth 20000 in
theorem open_res (hv : Value.okWide Tryz.prog W .any base 41 v) (h : DataW.Trod enc Tryz.prog W 0 (fun _ => true) true 41 v d p) : ∃ a b, v = .agg #[.int .i64 a, .int .i64 b] := by
  obtain ⟨f0, f1, hu, _, _, _, _, ho⟩ := res_fields
  have hC : Tryz.prog.cellsOf 41 = 2 := by kernel_rfl
  obtain ⟨cs, rfl, hsz⟩ := okWide_struct hu hv
  obtain ⟨fuel, hf⟩ := h
  obtain ⟨a, b, he⟩ := res_read (cs := Value.cells (.agg cs) |>.toList) (by simpa using hf)
  refine ⟨a, b, ?_⟩
  have h2 : cs.toList = [.int .i64 a, .int .i64 b] := by simpa [Value.cells] using he
  have h3 : cs = #[.int .i64 a, .int .i64 b] := Array.toList_inj.1 (by simpa using h2)
  rw [h3]
/-- A task that came in. -/
def TaskIn (W : World) (v : Value) (t : Tk) : Prop := ∃ av, v = .agg #[.string t.p, .int .i64 t.fn, av, .int .i64 t.fuel] ∧ ReadsK encN1 1 W av t.args ∧ t.args.length ≤ maxLen ∧ t.p.size ≤ maxLen
set_option maxRecDepth 20000 in
theorem open_task (hv : Value.okWide Tryz.prog W .any base 34 v) (h : DataW.Trod enc Tryz.prog W 0 (fun _ => true) true 34 v d p) : ∃ t, TaskIn W v t := by
  obtain ⟨f0, f1, f2, f3, hu, ⟨t0, o0⟩, ⟨t1, o1⟩, ⟨t2, o2⟩, t3, o3⟩ := task_fields
  obtain ⟨cs, rfl, hsz⟩ := okWide_struct hu hv
  rw [show Tryz.prog.cellsOf 34 = 4 by kernel_rfl] at hsz
  obtain ⟨a0, a1, a2, a3, rfl⟩ : ∃ a0 a1 a2 a3, cs = #[a0, a1, a2, a3] := by
    obtain ⟨l⟩ := cs
    match l, hsz with
    | [a0, a1, a2, a3], _ => exact ⟨a0, a1, a2, a3, rfl⟩
  obtain ⟨fuel, hf⟩ := h
  obtain ⟨y0, y1, y2, y3, n, _, h0, h1, h2, h3⟩ := trod_struct4' hu hf
  rw [t0, o0, show Tryz.prog.cellsOf 9 = 1 by kernel_rfl] at h0
  rw [t1, o1, show Tryz.prog.cellsOf 3 = 1 by kernel_rfl] at h1
  rw [t2, o2, show Tryz.prog.cellsOf 25 = 1 by kernel_rfl] at h2
  rw [t3, o3, show Tryz.prog.cellsOf 3 = 1 by kernel_rfl] at h3
  simp only [Value.cells, List.drop_succ_cons, List.drop_zero, List.take_succ_cons, List.take_zero] at h0 h1 h2 h3
  obtain ⟨s, e0, _, hs⟩ := DataW.trod_string Tryz.underlying9 h0
  obtain ⟨j1, e1, _⟩ := DataW.trod_int Tryz.underlying3 h1
  obtain ⟨j3, e3, _⟩ := DataW.trod_int Tryz.underlying3 h3
  obtain ⟨l, hr, hl, _⟩ := open_Kt (enc := encN1) (k := 1) (Q := fun _ => True) Tryz.underlying25 (by kernel_rfl) (fun _ => rfl) (by decide)
    (fun _ _ _ h => by
      obtain ⟨j, e, _⟩ := DataW.trod_int Tryz.underlying2 h
      exact ⟨j, e, trivial⟩) h2
  simp only [List.cons.injEq, and_true] at e0 e1 e3
  exact ⟨⟨s, j1, l, j3⟩, a2, by rw [e0, e1, e3], hr, hl, hs⟩
set_option maxRecDepth 20000 in
theorem open_bytes (hv : Value.okWide Tryz.prog W .any base 132 v) (h : DataW.Trod enc Tryz.prog W 0 (fun _ => true) true 132 v d p) : ∃ l : List Int, ReadsK (fun x => [Value.int .u8 x]) 1 W v l ∧ l.length ≤ maxLen ∧ ∀ x ∈ l, 0 ≤ x ∧ x ≤ 255 := by
  obtain ⟨l, h1, h2, h3⟩ := open_K (enc := fun x : Int => [Value.int .u8 x]) (k := 1) (Q := fun x : Int => 0 ≤ x ∧ x ≤ 255) Tryz.underlying132 (by kernel_rfl) (fun _ => rfl) (by decide)
    (fun _ _ _ h => by
      obtain ⟨j, e0, _, hw⟩ := DataW.trod_int Tryz.underlying5 h
      refine ⟨j, e0, ?_⟩
      have h1 : IntKind.u8.min = 0 := rfl
      have h2 : IntKind.u8.max = 255 := rfl
      simp [Lit.wf] at hw
      omega) hv h
  exact ⟨l, h1, h2, h3⟩
end
end Go.Proofs.YtdhbjejejeljoaaGreat
