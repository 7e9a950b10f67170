/- Contracts: check.fault.must, check.fault.right. (Printed by gen/genev6.py.) -/
import Derived.Test.YtdhbjejejeljoaaGreatEv5
namespace Go.Proofs.YtdhbjejejeljoaaGreat
open Go.RowKit

abbrev FaultT : TypeId := 107
abbrev faC (e fn op : Int) : Array Value := #[.int .i64 e, .int .i64 fn, .int .i64 op]
def mustE (e : Int) (is : Bool) (x : Int) : Int := if (e == 0) = true ∧ is = false then x else e
theorem box_set3 {w : World} {q : Nat} {a b c : Value} {T : TypeId} (h : BoxAt w q #[a, b, c] T) (x : Value) : BoxAt (w.setCell ⟨q, 0, none⟩ x) q #[x, b, c] T := Go.heap_setCell_same w q 0 _ _ x h
set_option maxHeartbeats 1600000 in
theorem must_any {q : Nat} {e fn op e' : Int} {is : Bool} {x : Int} {w : World} (h : BoxAt w q (faC e fn op) FaultT) (he : mustE e is x = e') :
    Calls Tryz.prog 61 #[.pointer (some ⟨q, 0, none⟩), .bool is, .int .i64 x] w fun r w' => r = .returned (.tuple #[]) ∧ BoxAt w' q (faC e' fn op) FaultT ∧ Fr (fun i => i = q) w w' := by
  have c0 := h.cell 0
  have f0 := h.frozen 0
  simp only [faC, List.getElem?_toArray, List.getElem?_cons_zero] at c0
  have H := Lib.hid h
  clear h
  unfold mustE at he
  by_cases h0 : (e == 0) = true
  · cases is
    · rw [if_pos ⟨h0, rfl⟩] at he
      have HE := Lib.hid he
      clear he
      go_enter Tryz.func61, Tryz.ntmps61
      go_wp2_with fail
      go_end0
      exact ⟨rfl, HE.out ▸ box_set3 H.out _, (Fr.refl (fun i => i = q) _).setCell (p := ⟨q, 0, none⟩) rfl _⟩
    · rw [if_neg (by simp)] at he
      have HE := Lib.hid he
      clear he
      go_enter Tryz.func61, Tryz.ntmps61
      go_wp2_with fail
      go_end0
      exact ⟨rfl, HE.out ▸ H.out, Fr.refl _ _⟩
  · have h1 : (e == 0) = false := by simpa using h0
    rw [if_neg (by simp [h1])] at he
    have HE := Lib.hid he
    clear he h0
    go_enter Tryz.func61, Tryz.ntmps61
    go_wp2_with fail
    go_end0
    exact ⟨rfl, HE.out ▸ H.out, Fr.refl _ _⟩
theorem below_of {b : Bool} (r : Int) (v : Value) (l : List Int) (w : World) (hv : ReadsK encN1 1 w v l) (hm : l.length ≤ 1000) (h : l.all (fun x => decide (x < r)) = b) :
    Calls Tryz.prog 78 #[.int .i64 r, v] w fun e w' => e = .returned (.bool b) ∧ Below w.heap.size w w' := h ▸ below_any r v l w hv (by omega)
/-- The world of a look at an op: three boxes from block s on, the fault in block q. -/
structure RtW (w0 : World) (s q : Nat) (pv : Value) (p : List Fnc) (f : Fnc) (o : Opr) (e fn op : Int) (wr : World) : Prop where
  lt : q < s ∧ w0.heap.size ≤ s
  fr : Fr (fun i => i = q) w0 wr
  bp : BoxAt wr s #[pv] 24
  bf : BoxAt wr (s + 1) (fnC f) FnT
  bo : BoxAt wr (s + 1 + 1) (opC o) OpT
  fa : BoxAt wr q (faC e fn op) FaultT
  pr : ProgAt wr pv p
section
variable {w0 wr wr' : World} {s q : Nat} {pv : Value} {p : List Fnc} {f : Fnc} {o : Opr} {e fn op : Int}
theorem RtW.below (h : RtW w0 s q pv p f o e fn op wr) (hB : Below wr.heap.size wr wr') : RtW w0 s q pv p f o e fn op wr' :=
  ⟨h.lt, h.fr.then hB, h.bp.below hB, h.bf.below hB, h.bo.below hB, h.fa.below hB, h.pr.below hB⟩
theorem BoxAt.fr {w w' : World} {s : Nat} {cur : Array Value} {E : TypeId} {S : Nat → Prop} (h : BoxAt w s cur E) (hF : Fr S w w') (hs : ¬ S s) : BoxAt w' s cur E := (hF.block s (Array.getElem?_eq_some_iff.1 h).1 hs).trans h
theorem reads_fr {α : Type} {enc : α → List Value} {k : Nat} {w w' : World} {v : Value} {l : List α} {S : Nat → Prop} (h : ReadsK enc k w v l) (hF : Fr S w w') (hs : ∀ a n c, v = .slice (some a) n c → l ≠ [] → ¬ S a.block) : ReadsK enc k w' v l := by
  rcases h with h | ⟨b, off, cap, hv, hb, hc⟩
  · exact .inl h
  · by_cases hl : l = []
    · subst hl; exact .inl ⟨rfl, _, _, hv⟩
    · exact .inr ⟨b, off, cap, hv, Nat.lt_of_lt_of_le hb hF.size, fun i hi t u hu => (hF.cell (p := ⟨b, off + (i * k + t), none⟩) hb (hs ⟨b, off, none⟩ _ _ hv hl)).trans (hc i hi t u hu)⟩
end

/-- The blocks of a program lie below B. -/
def ProgLow (B : Nat) (v : Value) (p : List Fnc) : Prop := (∀ a n c, v = .slice (some a) n c → p ≠ [] → a.block < B) ∧ ∀ f ∈ p, ∀ a, f.oa = some a → f.ops ≠ [] → a.block < B
theorem ProgAt.fr {w w' : World} {v : Value} {p : List Fnc} {S : Nat → Prop} {B : Nat} (h : ProgAt w v p) (hl : ProgLow B v p) (hF : Fr S w w') (hs : ∀ i, S i → B ≤ i) : ProgAt w' v p :=
  ⟨reads_fr h.fns hF (fun a n c e hp hb => by have := hl.1 a n c e hp; have := hs _ hb; omega),
    fun f hf => ⟨reads_fr (h.ops f hf).1 hF (fun a n c e hp hb => by
      injection e with e _ _
      have := hl.2 f hf a e hp; have := hs _ hb; omega), (h.ops f hf).2⟩, h.len⟩
theorem ProgAt.low {w : World} {v : Value} {p : List Fnc} (h : ProgAt w v p) : ProgLow w.heap.size v p := by
  refine ⟨fun a n c e hp => ?_, fun f hf a e hp => ?_⟩
  · rcases h.fns with ⟨rfl, _⟩ | ⟨b, off, cap, hv, hb, _⟩
    · exact absurd rfl hp
    · rw [hv] at e; injection e with e _ _; injection e with e; subst e; exact hb
  · rcases (h.ops f hf).1 with ⟨h0, _⟩ | ⟨b, off, cap, hv, hb, _⟩
    · exact absurd h0 hp
    · injection hv with hv _ _; rw [hv] at e; injection e with e; subst e; exact hb
theorem RtW.must {w0 wr wr' : World} {s q : Nat} {pv : Value} {p : List Fnc} {f : Fnc} {o : Opr} {e fn op e' : Int} (h : RtW w0 s q pv p f o e fn op wr) {B : Nat} (hl : ProgLow B pv p) (hq : B ≤ q) (hA : BoxAt wr' q (faC e' fn op) FaultT) (hF : Fr (fun i => i = q) wr wr') : RtW w0 s q pv p f o e' fn op wr' := by
  have := h.lt.1
  exact ⟨h.lt, h.fr.trans hF, h.bp.fr hF (by omega), h.bf.fr hF (by omega), h.bo.fr hF (by omega), hA, h.pr.fr hl hF (fun i hi => by omega)⟩

theorem opE_fork {p : List Fnc} {f : Fnc} {o : Opr} (h : o.k = 12) : opE p f o = if f.regs ≤ o.d then 111 else if o.n < 0 ∨ (p.length : Int) ≤ o.n then 112 else if 0 < (fnAt p o.n).args ∧ f.regs < o.a + (fnAt p o.n).args then 111 else 0 := by
  unfold opE hasD hasA hasB
  simp [h]
theorem opE_go {p : List Fnc} {f : Fnc} {o : Opr} (h : o.k = 10) : opE p f o = if o.n < 0 ∨ (f.ops.length : Int) ≤ o.n then 112 else 0 := by
  unfold opE hasD hasA hasB
  simp [h]
theorem opE_if {p : List Fnc} {f : Fnc} {o : Opr} (h : o.k = 11) : opE p f o = if f.regs ≤ o.a then 111 else if o.n < 0 ∨ (f.ops.length : Int) ≤ o.n then 112 else 0 := by
  unfold opE hasD hasA hasB
  simp [h]
theorem opE_set {p : List Fnc} {f : Fnc} {o : Opr} (h : o.k = 1) : opE p f o = if f.regs ≤ o.d then 111 else 0 := by
  unfold opE hasD hasA hasB
  simp [h]
theorem opE_copy {p : List Fnc} {f : Fnc} {o : Opr} (h : o.k = 2) : opE p f o = if f.regs ≤ o.d ∨ f.regs ≤ o.a then 111 else 0 := by
  unfold opE hasD hasA hasB
  simp [h]
theorem opE_ret {p : List Fnc} {f : Fnc} {o : Opr} (h : o.k = 14) : opE p f o = if f.regs ≤ o.a then 111 else 0 := by
  unfold opE hasD hasA hasB
  simp [h]
theorem opE_join {p : List Fnc} {f : Fnc} {o : Opr} (h : o.k = 13) : opE p f o = 0 := by
  unfold opE hasD hasA hasB
  simp [h]
theorem opE_calc {p : List Fnc} {f : Fnc} {o : Opr} (h1 : 3 ≤ o.k) (h2 : o.k ≤ 9) : opE p f o = if f.regs ≤ o.d ∨ f.regs ≤ o.a ∨ f.regs ≤ o.b then 111 else 0 := by
  have e1 : hasD o.k = true := by unfold hasD; simp; omega
  have e2 : hasA o.k = true := by unfold hasA; simp; omega
  have e3 : hasB o.k = true := by unfold hasB; simp; omega
  have n1 : ¬ o.k = 10 := by omega
  have n2 : ¬ o.k = 11 := by omega
  have n3 : ¬ o.k = 12 := by omega
  unfold opE
  simp [e1, e2, e3, n1, n2, n3, or_assoc]
def RightP (w0 : World) (q : Nat) (fn op : Int) (p : List Fnc) (f : Fnc) (o : Opr) (e : Ending) (w' : World) : Prop := e = .returned (.tuple #[]) ∧ BoxAt w' q (faC (opE p f o) fn op) FaultT ∧ Fr (fun i => i = q) w0 w'
theorem rt_start {q : Nat} {fn op : Int} {pv : Value} {p : List Fnc} {f : Fnc} {o : Opr} {w : World} (hq : BoxAt w q (faC 0 fn op) FaultT) (hp : ProgAt w pv p) :
    RtW w w.heap.size q pv p f o 0 fn op (((w.alloc (.cells #[pv] 24)).alloc (.cells (fnC f) FnT)).alloc (.cells (opC o) OpT)) := by
  have h1 : Below w.heap.size w (w.alloc (.cells #[pv] 24)) := (Below.refl _ _).alloc (Nat.le_refl _) _
  have h2 : Below (w.alloc (.cells #[pv] 24)).heap.size _ ((w.alloc (.cells #[pv] 24)).alloc (.cells (fnC f) FnT)) := (Below.refl _ _).alloc (Nat.le_refl _) _
  have h3 : Below ((w.alloc (.cells #[pv] 24)).alloc (.cells (fnC f) FnT)).heap.size _ (((w.alloc (.cells #[pv] 24)).alloc (.cells (fnC f) FnT)).alloc (.cells (opC o) OpT)) := (Below.refl _ _).alloc (Nat.le_refl _) _
  have b1 : BoxAt (w.alloc (.cells #[pv] 24)) w.heap.size #[pv] 24 := heap_alloc_new _ _
  have b2 : BoxAt ((w.alloc (.cells #[pv] 24)).alloc (.cells (fnC f) FnT)) (w.heap.size + 1) (fnC f) FnT := by
    have := heap_alloc_new (w.alloc (.cells #[pv] 24)) (.cells (fnC f) FnT)
    rwa [show (w.alloc (.cells #[pv] 24)).heap.size = w.heap.size + 1 by simp] at this
  have b3 : BoxAt (((w.alloc (.cells #[pv] 24)).alloc (.cells (fnC f) FnT)).alloc (.cells (opC o) OpT)) (w.heap.size + 1 + 1) (opC o) OpT := by
    have := heap_alloc_new ((w.alloc (.cells #[pv] 24)).alloc (.cells (fnC f) FnT)) (.cells (opC o) OpT)
    rwa [show ((w.alloc (.cells #[pv] 24)).alloc (.cells (fnC f) FnT)).heap.size = w.heap.size + 1 + 1 by simp] at this
  have h12 := gthen h1 h2
  have h123 := gthen h12 h3
  exact ⟨⟨(Array.getElem?_eq_some_iff.1 hq).1, Nat.le_refl _⟩, .of_below h123, (b1.below h2).below h3, b2.below h3, b3, hq.below h123, hp.below h123⟩

set_option maxHeartbeats 3200000 in
set_option maxRecDepth 100000 in
theorem right_set {q : Nat} {fn op : Int} {pv : Value} {p : List Fnc} {f : Fnc} {o : Opr} {w : World} {B : Nat} (hq : BoxAt w q (faC 0 fn op) FaultT) (hp : ProgAt w pv p) (hl : ProgLow B pv p) (hB0 : B ≤ q) (hk : o.k = 1) :
    Calls Tryz.prog 62 #[.pointer (some ⟨q, 0, none⟩), .agg #[pv], .agg #[.int .i64 f.args, .int .i64 f.regs, .slice f.oa f.ops.length f.oc], .agg #[.int .u8 o.k, .int .i64 o.d, .int .i64 o.a, .int .i64 o.b, .int .i64 o.n]] w (RightP w q fn op p f o) := by
  obtain ⟨pa, pc, rfl⟩ := hp.fns.slice
  have hqlt := (Array.getElem?_eq_some_iff.1 hq).1
  have H0 := Lib.hid (rt_start hq hp (f := f) (o := o))
  have HL := Lib.hid hl
  clear hp hl hq
  have HK := Lib.hid (show opE p f o = _ from opE_set hk)
  have k12 : (o.k == 12) = false := by simp [hk]
  have k10 : (o.k == 10) = false := by simp [hk]
  have k11 : (o.k == 11) = false := by simp [hk]
  have k1 : (o.k == 1) = true := by simp [hk]
  clear hk
  go_enter Tryz.func62, Tryz.ntmps62
  go_upto_region 1 with fail
  simp only [fnC, opC] at H0
  generalize ((w.alloc (.cells #[.slice pa p.length pc] 24)).alloc (.cells #[.int .i64 f.args, .int .i64 f.regs, .slice f.oa f.ops.length f.oc] FnT)).alloc (.cells #[.int .u8 o.k, .int .i64 o.d, .int .i64 o.a, .int .i64 o.b, .int .i64 o.n] OpT) = w1 at *
  generalize w.heap.size = s at *
  by_cases hc : o.d < f.regs
  · have bp0 := H0.out.bp.cell 0
    have bf0 := H0.out.bf.cell 0; have bf1 := H0.out.bf.cell 1; have bf2 := H0.out.bf.cell 2
    have bo0 := H0.out.bo.cell 0; have bo1 := H0.out.bo.cell 1; have bo2 := H0.out.bo.cell 2; have bo3 := H0.out.bo.cell 3; have bo4 := H0.out.bo.cell 4
    have fa0 := H0.out.fa.cell 0
    simp only [faC, List.getElem?_toArray, List.getElem?_cons_zero, List.getElem?_cons_succ] at bp0 bf0 bf1 bf2 bo0 bo1 bo2 bo3 bo4 fa0
    have HV := Lib.hid (show ReadsK encN1 1 (w1.alloc (.cells #[.int .i64 o.d] 3)) (.slice (some ⟨w1.heap.size, 0, none⟩) 1 1) [o.d] from reads_lit (heap_alloc_new _ _) rfl)
    have HA := Lib.hid (H0.out.below (show Below w1.heap.size w1 (w1.alloc (.cells #[.int .i64 o.d] 3)) from (Below.refl _ _).alloc (Nat.le_refl _) _))
    go_wp2_with fail
    refine (below_of (b := true) f.regs _ _ _ HV.out (by simp) (by simp; omega)).mono ?_
    rintro e w1b ⟨rfl, hB⟩
    have H1 := Lib.hid (HA.out.below hB)
    clear hB HA HV bp0 bf0 bf1 bf2 bo0 bo1 bo2 bo3 bo4 fa0
    go_wp2_with fail
    refine (must_any (e' := 0) H1.out.fa (by rfl)).mono ?_
    rintro e w1bm ⟨rfl, hFA, hFR⟩
    have H2 := Lib.hid (H1.out.must HL.out hB0 hFA hFR)
    clear hFA hFR
    go_wp2_with fail
    go_end0
    exact ⟨rfl, (show opE p f o = _ by rw [HK.out, if_neg (by omega)]) ▸ H2.out.fa, H2.out.fr⟩
  · have bp0 := H0.out.bp.cell 0
    have bf0 := H0.out.bf.cell 0; have bf1 := H0.out.bf.cell 1; have bf2 := H0.out.bf.cell 2
    have bo0 := H0.out.bo.cell 0; have bo1 := H0.out.bo.cell 1; have bo2 := H0.out.bo.cell 2; have bo3 := H0.out.bo.cell 3; have bo4 := H0.out.bo.cell 4
    have fa0 := H0.out.fa.cell 0
    simp only [faC, List.getElem?_toArray, List.getElem?_cons_zero, List.getElem?_cons_succ] at bp0 bf0 bf1 bf2 bo0 bo1 bo2 bo3 bo4 fa0
    have HV := Lib.hid (show ReadsK encN1 1 (w1.alloc (.cells #[.int .i64 o.d] 3)) (.slice (some ⟨w1.heap.size, 0, none⟩) 1 1) [o.d] from reads_lit (heap_alloc_new _ _) rfl)
    have HA := Lib.hid (H0.out.below (show Below w1.heap.size w1 (w1.alloc (.cells #[.int .i64 o.d] 3)) from (Below.refl _ _).alloc (Nat.le_refl _) _))
    go_wp2_with fail
    refine (below_of (b := false) f.regs _ _ _ HV.out (by simp) (by simp; omega)).mono ?_
    rintro e w1b ⟨rfl, hB⟩
    have H1 := Lib.hid (HA.out.below hB)
    clear hB HA HV bp0 bf0 bf1 bf2 bo0 bo1 bo2 bo3 bo4 fa0
    go_wp2_with fail
    refine (must_any (e' := 111) H1.out.fa (by rfl)).mono ?_
    rintro e w1bm ⟨rfl, hFA, hFR⟩
    have H2 := Lib.hid (H1.out.must HL.out hB0 hFA hFR)
    clear hFA hFR
    go_wp2_with fail
    go_end0
    exact ⟨rfl, (show opE p f o = _ by rw [HK.out, if_pos (by omega)]) ▸ H2.out.fa, H2.out.fr⟩

set_option maxHeartbeats 3200000 in
set_option maxRecDepth 100000 in
theorem right_copy {q : Nat} {fn op : Int} {pv : Value} {p : List Fnc} {f : Fnc} {o : Opr} {w : World} {B : Nat} (hq : BoxAt w q (faC 0 fn op) FaultT) (hp : ProgAt w pv p) (hl : ProgLow B pv p) (hB0 : B ≤ q) (hk : o.k = 2) :
    Calls Tryz.prog 62 #[.pointer (some ⟨q, 0, none⟩), .agg #[pv], .agg #[.int .i64 f.args, .int .i64 f.regs, .slice f.oa f.ops.length f.oc], .agg #[.int .u8 o.k, .int .i64 o.d, .int .i64 o.a, .int .i64 o.b, .int .i64 o.n]] w (RightP w q fn op p f o) := by
  obtain ⟨pa, pc, rfl⟩ := hp.fns.slice
  have hqlt := (Array.getElem?_eq_some_iff.1 hq).1
  have H0 := Lib.hid (rt_start hq hp (f := f) (o := o))
  have HL := Lib.hid hl
  clear hp hl hq
  have HK := Lib.hid (show opE p f o = _ from opE_copy hk)
  have k12 : (o.k == 12) = false := by simp [hk]
  have k10 : (o.k == 10) = false := by simp [hk]
  have k11 : (o.k == 11) = false := by simp [hk]
  have k1 : (o.k == 1) = false := by simp [hk]
  have k2 : (o.k == 2) = true := by simp [hk]
  clear hk
  go_enter Tryz.func62, Tryz.ntmps62
  go_upto_region 1 with fail
  simp only [fnC, opC] at H0
  generalize ((w.alloc (.cells #[.slice pa p.length pc] 24)).alloc (.cells #[.int .i64 f.args, .int .i64 f.regs, .slice f.oa f.ops.length f.oc] FnT)).alloc (.cells #[.int .u8 o.k, .int .i64 o.d, .int .i64 o.a, .int .i64 o.b, .int .i64 o.n] OpT) = w1 at *
  generalize w.heap.size = s at *
  by_cases hc : o.d < f.regs ∧ o.a < f.regs
  · have bp0 := H0.out.bp.cell 0
    have bf0 := H0.out.bf.cell 0; have bf1 := H0.out.bf.cell 1; have bf2 := H0.out.bf.cell 2
    have bo0 := H0.out.bo.cell 0; have bo1 := H0.out.bo.cell 1; have bo2 := H0.out.bo.cell 2; have bo3 := H0.out.bo.cell 3; have bo4 := H0.out.bo.cell 4
    have fa0 := H0.out.fa.cell 0
    simp only [faC, List.getElem?_toArray, List.getElem?_cons_zero, List.getElem?_cons_succ] at bp0 bf0 bf1 bf2 bo0 bo1 bo2 bo3 bo4 fa0
    have HV := Lib.hid (show ReadsK encN1 1 (w1.alloc (.cells #[.int .i64 o.d, .int .i64 o.a] 3)) (.slice (some ⟨w1.heap.size, 0, none⟩) 2 2) [o.d, o.a] from reads_lit (heap_alloc_new _ _) rfl)
    have HA := Lib.hid (H0.out.below (show Below w1.heap.size w1 (w1.alloc (.cells #[.int .i64 o.d, .int .i64 o.a] 3)) from (Below.refl _ _).alloc (Nat.le_refl _) _))
    go_wp2_with fail
    refine (below_of (b := true) f.regs _ _ _ HV.out (by simp) (by simp; omega)).mono ?_
    rintro e w1b ⟨rfl, hB⟩
    have H1 := Lib.hid (HA.out.below hB)
    clear hB HA HV bp0 bf0 bf1 bf2 bo0 bo1 bo2 bo3 bo4 fa0
    go_wp2_with fail
    refine (must_any (e' := 0) H1.out.fa (by rfl)).mono ?_
    rintro e w1bm ⟨rfl, hFA, hFR⟩
    have H2 := Lib.hid (H1.out.must HL.out hB0 hFA hFR)
    clear hFA hFR
    go_wp2_with fail
    go_end0
    exact ⟨rfl, (show opE p f o = _ by rw [HK.out, if_neg (by omega)]) ▸ H2.out.fa, H2.out.fr⟩
  · have bp0 := H0.out.bp.cell 0
    have bf0 := H0.out.bf.cell 0; have bf1 := H0.out.bf.cell 1; have bf2 := H0.out.bf.cell 2
    have bo0 := H0.out.bo.cell 0; have bo1 := H0.out.bo.cell 1; have bo2 := H0.out.bo.cell 2; have bo3 := H0.out.bo.cell 3; have bo4 := H0.out.bo.cell 4
    have fa0 := H0.out.fa.cell 0
    simp only [faC, List.getElem?_toArray, List.getElem?_cons_zero, List.getElem?_cons_succ] at bp0 bf0 bf1 bf2 bo0 bo1 bo2 bo3 bo4 fa0
    have HV := Lib.hid (show ReadsK encN1 1 (w1.alloc (.cells #[.int .i64 o.d, .int .i64 o.a] 3)) (.slice (some ⟨w1.heap.size, 0, none⟩) 2 2) [o.d, o.a] from reads_lit (heap_alloc_new _ _) rfl)
    have HA := Lib.hid (H0.out.below (show Below w1.heap.size w1 (w1.alloc (.cells #[.int .i64 o.d, .int .i64 o.a] 3)) from (Below.refl _ _).alloc (Nat.le_refl _) _))
    go_wp2_with fail
    refine (below_of (b := false) f.regs _ _ _ HV.out (by simp) (by simp; omega)).mono ?_
    rintro e w1b ⟨rfl, hB⟩
    have H1 := Lib.hid (HA.out.below hB)
    clear hB HA HV bp0 bf0 bf1 bf2 bo0 bo1 bo2 bo3 bo4 fa0
    go_wp2_with fail
    refine (must_any (e' := 111) H1.out.fa (by rfl)).mono ?_
    rintro e w1bm ⟨rfl, hFA, hFR⟩
    have H2 := Lib.hid (H1.out.must HL.out hB0 hFA hFR)
    clear hFA hFR
    go_wp2_with fail
    go_end0
    exact ⟨rfl, (show opE p f o = _ by rw [HK.out, if_pos (by omega)]) ▸ H2.out.fa, H2.out.fr⟩

set_option maxHeartbeats 3200000 in
set_option maxRecDepth 100000 in
theorem right_ret {q : Nat} {fn op : Int} {pv : Value} {p : List Fnc} {f : Fnc} {o : Opr} {w : World} {B : Nat} (hq : BoxAt w q (faC 0 fn op) FaultT) (hp : ProgAt w pv p) (hl : ProgLow B pv p) (hB0 : B ≤ q) (hk : o.k = 14) :
    Calls Tryz.prog 62 #[.pointer (some ⟨q, 0, none⟩), .agg #[pv], .agg #[.int .i64 f.args, .int .i64 f.regs, .slice f.oa f.ops.length f.oc], .agg #[.int .u8 o.k, .int .i64 o.d, .int .i64 o.a, .int .i64 o.b, .int .i64 o.n]] w (RightP w q fn op p f o) := by
  obtain ⟨pa, pc, rfl⟩ := hp.fns.slice
  have hqlt := (Array.getElem?_eq_some_iff.1 hq).1
  have H0 := Lib.hid (rt_start hq hp (f := f) (o := o))
  have HL := Lib.hid hl
  clear hp hl hq
  have HK := Lib.hid (show opE p f o = _ from opE_ret hk)
  have k12 : (o.k == 12) = false := by simp [hk]
  have k10 : (o.k == 10) = false := by simp [hk]
  have k11 : (o.k == 11) = false := by simp [hk]
  have k1 : (o.k == 1) = false := by simp [hk]
  have k2 : (o.k == 2) = false := by simp [hk]
  have k14 : (o.k == 14) = true := by simp [hk]
  clear hk
  go_enter Tryz.func62, Tryz.ntmps62
  go_upto_region 1 with fail
  simp only [fnC, opC] at H0
  generalize ((w.alloc (.cells #[.slice pa p.length pc] 24)).alloc (.cells #[.int .i64 f.args, .int .i64 f.regs, .slice f.oa f.ops.length f.oc] FnT)).alloc (.cells #[.int .u8 o.k, .int .i64 o.d, .int .i64 o.a, .int .i64 o.b, .int .i64 o.n] OpT) = w1 at *
  generalize w.heap.size = s at *
  by_cases hc : o.a < f.regs
  · have bp0 := H0.out.bp.cell 0
    have bf0 := H0.out.bf.cell 0; have bf1 := H0.out.bf.cell 1; have bf2 := H0.out.bf.cell 2
    have bo0 := H0.out.bo.cell 0; have bo1 := H0.out.bo.cell 1; have bo2 := H0.out.bo.cell 2; have bo3 := H0.out.bo.cell 3; have bo4 := H0.out.bo.cell 4
    have fa0 := H0.out.fa.cell 0
    simp only [faC, List.getElem?_toArray, List.getElem?_cons_zero, List.getElem?_cons_succ] at bp0 bf0 bf1 bf2 bo0 bo1 bo2 bo3 bo4 fa0
    have HV := Lib.hid (show ReadsK encN1 1 (w1.alloc (.cells #[.int .i64 o.a] 3)) (.slice (some ⟨w1.heap.size, 0, none⟩) 1 1) [o.a] from reads_lit (heap_alloc_new _ _) rfl)
    have HA := Lib.hid (H0.out.below (show Below w1.heap.size w1 (w1.alloc (.cells #[.int .i64 o.a] 3)) from (Below.refl _ _).alloc (Nat.le_refl _) _))
    go_wp2_with fail
    refine (below_of (b := true) f.regs _ _ _ HV.out (by simp) (by simp; omega)).mono ?_
    rintro e w1b ⟨rfl, hB⟩
    have H1 := Lib.hid (HA.out.below hB)
    clear hB HA HV bp0 bf0 bf1 bf2 bo0 bo1 bo2 bo3 bo4 fa0
    go_wp2_with fail
    refine (must_any (e' := 0) H1.out.fa (by rfl)).mono ?_
    rintro e w1bm ⟨rfl, hFA, hFR⟩
    have H2 := Lib.hid (H1.out.must HL.out hB0 hFA hFR)
    clear hFA hFR
    go_wp2_with fail
    go_end0
    exact ⟨rfl, (show opE p f o = _ by rw [HK.out, if_neg (by omega)]) ▸ H2.out.fa, H2.out.fr⟩
  · have bp0 := H0.out.bp.cell 0
    have bf0 := H0.out.bf.cell 0; have bf1 := H0.out.bf.cell 1; have bf2 := H0.out.bf.cell 2
    have bo0 := H0.out.bo.cell 0; have bo1 := H0.out.bo.cell 1; have bo2 := H0.out.bo.cell 2; have bo3 := H0.out.bo.cell 3; have bo4 := H0.out.bo.cell 4
    have fa0 := H0.out.fa.cell 0
    simp only [faC, List.getElem?_toArray, List.getElem?_cons_zero, List.getElem?_cons_succ] at bp0 bf0 bf1 bf2 bo0 bo1 bo2 bo3 bo4 fa0
    have HV := Lib.hid (show ReadsK encN1 1 (w1.alloc (.cells #[.int .i64 o.a] 3)) (.slice (some ⟨w1.heap.size, 0, none⟩) 1 1) [o.a] from reads_lit (heap_alloc_new _ _) rfl)
    have HA := Lib.hid (H0.out.below (show Below w1.heap.size w1 (w1.alloc (.cells #[.int .i64 o.a] 3)) from (Below.refl _ _).alloc (Nat.le_refl _) _))
    go_wp2_with fail
    refine (below_of (b := false) f.regs _ _ _ HV.out (by simp) (by simp; omega)).mono ?_
    rintro e w1b ⟨rfl, hB⟩
    have H1 := Lib.hid (HA.out.below hB)
    clear hB HA HV bp0 bf0 bf1 bf2 bo0 bo1 bo2 bo3 bo4 fa0
    go_wp2_with fail
    refine (must_any (e' := 111) H1.out.fa (by rfl)).mono ?_
    rintro e w1bm ⟨rfl, hFA, hFR⟩
    have H2 := Lib.hid (H1.out.must HL.out hB0 hFA hFR)
    clear hFA hFR
    go_wp2_with fail
    go_end0
    exact ⟨rfl, (show opE p f o = _ by rw [HK.out, if_pos (by omega)]) ▸ H2.out.fa, H2.out.fr⟩

set_option maxHeartbeats 3200000 in
set_option maxRecDepth 100000 in
theorem right_join {q : Nat} {fn op : Int} {pv : Value} {p : List Fnc} {f : Fnc} {o : Opr} {w : World} {B : Nat} (hq : BoxAt w q (faC 0 fn op) FaultT) (hp : ProgAt w pv p) (hl : ProgLow B pv p) (_hB0 : B ≤ q) (hk : o.k = 13) :
    Calls Tryz.prog 62 #[.pointer (some ⟨q, 0, none⟩), .agg #[pv], .agg #[.int .i64 f.args, .int .i64 f.regs, .slice f.oa f.ops.length f.oc], .agg #[.int .u8 o.k, .int .i64 o.d, .int .i64 o.a, .int .i64 o.b, .int .i64 o.n]] w (RightP w q fn op p f o) := by
  obtain ⟨pa, pc, rfl⟩ := hp.fns.slice
  have hqlt := (Array.getElem?_eq_some_iff.1 hq).1
  have H0 := Lib.hid (rt_start hq hp (f := f) (o := o))
  have HL := Lib.hid hl
  clear hp hl hq
  have HK := Lib.hid (show opE p f o = _ from opE_join hk)
  have k12 : (o.k == 12) = false := by simp [hk]
  have k10 : (o.k == 10) = false := by simp [hk]
  have k11 : (o.k == 11) = false := by simp [hk]
  have k1 : (o.k == 1) = false := by simp [hk]
  have k2 : (o.k == 2) = false := by simp [hk]
  have k14 : (o.k == 14) = false := by simp [hk]
  have k13 : (o.k == 13) = true := by simp [hk]
  clear hk
  go_enter Tryz.func62, Tryz.ntmps62
  go_upto_region 1 with fail
  simp only [fnC, opC] at H0
  generalize ((w.alloc (.cells #[.slice pa p.length pc] 24)).alloc (.cells #[.int .i64 f.args, .int .i64 f.regs, .slice f.oa f.ops.length f.oc] FnT)).alloc (.cells #[.int .u8 o.k, .int .i64 o.d, .int .i64 o.a, .int .i64 o.b, .int .i64 o.n] OpT) = w1 at *
  generalize w.heap.size = s at *
  have bp0 := H0.out.bp.cell 0
  have bf0 := H0.out.bf.cell 0; have bf1 := H0.out.bf.cell 1; have bf2 := H0.out.bf.cell 2
  have bo0 := H0.out.bo.cell 0; have bo1 := H0.out.bo.cell 1; have bo2 := H0.out.bo.cell 2; have bo3 := H0.out.bo.cell 3; have bo4 := H0.out.bo.cell 4
  have fa0 := H0.out.fa.cell 0
  simp only [faC, List.getElem?_toArray, List.getElem?_cons_zero, List.getElem?_cons_succ] at bp0 bf0 bf1 bf2 bo0 bo1 bo2 bo3 bo4 fa0
  go_wp2_with fail
  go_end0
  exact ⟨rfl, (show opE p f o = _ by exact HK.out) ▸ H0.out.fa, H0.out.fr⟩

set_option maxHeartbeats 3200000 in
set_option maxRecDepth 100000 in
theorem right_calc {q : Nat} {fn op : Int} {pv : Value} {p : List Fnc} {f : Fnc} {o : Opr} {w : World} {B : Nat} (hq : BoxAt w q (faC 0 fn op) FaultT) (hp : ProgAt w pv p) (hl : ProgLow B pv p) (hB0 : B ≤ q) (hk1 : 3 ≤ o.k) (hk2 : o.k ≤ 9) :
    Calls Tryz.prog 62 #[.pointer (some ⟨q, 0, none⟩), .agg #[pv], .agg #[.int .i64 f.args, .int .i64 f.regs, .slice f.oa f.ops.length f.oc], .agg #[.int .u8 o.k, .int .i64 o.d, .int .i64 o.a, .int .i64 o.b, .int .i64 o.n]] w (RightP w q fn op p f o) := by
  obtain ⟨pa, pc, rfl⟩ := hp.fns.slice
  have hqlt := (Array.getElem?_eq_some_iff.1 hq).1
  have H0 := Lib.hid (rt_start hq hp (f := f) (o := o))
  have HL := Lib.hid hl
  clear hp hl hq
  have HK := Lib.hid (show opE p f o = _ from opE_calc hk1 hk2)
  have k12 : (o.k == 12) = false := by simp; omega
  have k10 : (o.k == 10) = false := by simp; omega
  have k11 : (o.k == 11) = false := by simp; omega
  have k1 : (o.k == 1) = false := by simp; omega
  have k2 : (o.k == 2) = false := by simp; omega
  have k14 : (o.k == 14) = false := by simp; omega
  have k13 : (o.k == 13) = false := by simp; omega
  clear hk1 hk2
  go_enter Tryz.func62, Tryz.ntmps62
  go_upto_region 1 with fail
  simp only [fnC, opC] at H0
  generalize ((w.alloc (.cells #[.slice pa p.length pc] 24)).alloc (.cells #[.int .i64 f.args, .int .i64 f.regs, .slice f.oa f.ops.length f.oc] FnT)).alloc (.cells #[.int .u8 o.k, .int .i64 o.d, .int .i64 o.a, .int .i64 o.b, .int .i64 o.n] OpT) = w1 at *
  generalize w.heap.size = s at *
  by_cases hc : o.d < f.regs ∧ o.a < f.regs ∧ o.b < f.regs
  · have bp0 := H0.out.bp.cell 0
    have bf0 := H0.out.bf.cell 0; have bf1 := H0.out.bf.cell 1; have bf2 := H0.out.bf.cell 2
    have bo0 := H0.out.bo.cell 0; have bo1 := H0.out.bo.cell 1; have bo2 := H0.out.bo.cell 2; have bo3 := H0.out.bo.cell 3; have bo4 := H0.out.bo.cell 4
    have fa0 := H0.out.fa.cell 0
    simp only [faC, List.getElem?_toArray, List.getElem?_cons_zero, List.getElem?_cons_succ] at bp0 bf0 bf1 bf2 bo0 bo1 bo2 bo3 bo4 fa0
    have HV := Lib.hid (show ReadsK encN1 1 (w1.alloc (.cells #[.int .i64 o.d, .int .i64 o.a, .int .i64 o.b] 3)) (.slice (some ⟨w1.heap.size, 0, none⟩) 3 3) [o.d, o.a, o.b] from reads_lit (heap_alloc_new _ _) rfl)
    have HA := Lib.hid (H0.out.below (show Below w1.heap.size w1 (w1.alloc (.cells #[.int .i64 o.d, .int .i64 o.a, .int .i64 o.b] 3)) from (Below.refl _ _).alloc (Nat.le_refl _) _))
    go_wp2_with fail
    refine (below_of (b := true) f.regs _ _ _ HV.out (by simp) (by simp; omega)).mono ?_
    rintro e w1b ⟨rfl, hB⟩
    have H1 := Lib.hid (HA.out.below hB)
    clear hB HA HV bp0 bf0 bf1 bf2 bo0 bo1 bo2 bo3 bo4 fa0
    go_wp2_with fail
    refine (must_any (e' := 0) H1.out.fa (by rfl)).mono ?_
    rintro e w1bm ⟨rfl, hFA, hFR⟩
    have H2 := Lib.hid (H1.out.must HL.out hB0 hFA hFR)
    clear hFA hFR
    go_wp2_with fail
    go_end0
    exact ⟨rfl, (show opE p f o = _ by rw [HK.out, if_neg (by omega)]) ▸ H2.out.fa, H2.out.fr⟩
  · have bp0 := H0.out.bp.cell 0
    have bf0 := H0.out.bf.cell 0; have bf1 := H0.out.bf.cell 1; have bf2 := H0.out.bf.cell 2
    have bo0 := H0.out.bo.cell 0; have bo1 := H0.out.bo.cell 1; have bo2 := H0.out.bo.cell 2; have bo3 := H0.out.bo.cell 3; have bo4 := H0.out.bo.cell 4
    have fa0 := H0.out.fa.cell 0
    simp only [faC, List.getElem?_toArray, List.getElem?_cons_zero, List.getElem?_cons_succ] at bp0 bf0 bf1 bf2 bo0 bo1 bo2 bo3 bo4 fa0
    have HV := Lib.hid (show ReadsK encN1 1 (w1.alloc (.cells #[.int .i64 o.d, .int .i64 o.a, .int .i64 o.b] 3)) (.slice (some ⟨w1.heap.size, 0, none⟩) 3 3) [o.d, o.a, o.b] from reads_lit (heap_alloc_new _ _) rfl)
    have HA := Lib.hid (H0.out.below (show Below w1.heap.size w1 (w1.alloc (.cells #[.int .i64 o.d, .int .i64 o.a, .int .i64 o.b] 3)) from (Below.refl _ _).alloc (Nat.le_refl _) _))
    go_wp2_with fail
    refine (below_of (b := false) f.regs _ _ _ HV.out (by simp) (by simp; omega)).mono ?_
    rintro e w1b ⟨rfl, hB⟩
    have H1 := Lib.hid (HA.out.below hB)
    clear hB HA HV bp0 bf0 bf1 bf2 bo0 bo1 bo2 bo3 bo4 fa0
    go_wp2_with fail
    refine (must_any (e' := 111) H1.out.fa (by rfl)).mono ?_
    rintro e w1bm ⟨rfl, hFA, hFR⟩
    have H2 := Lib.hid (H1.out.must HL.out hB0 hFA hFR)
    clear hFA hFR
    go_wp2_with fail
    go_end0
    exact ⟨rfl, (show opE p f o = _ by rw [HK.out, if_pos (by omega)]) ▸ H2.out.fa, H2.out.fr⟩

set_option maxHeartbeats 3200000 in
set_option maxRecDepth 100000 in
theorem right_go {q : Nat} {fn op : Int} {pv : Value} {p : List Fnc} {f : Fnc} {o : Opr} {w : World} {B : Nat} (hq : BoxAt w q (faC 0 fn op) FaultT) (hp : ProgAt w pv p) (hl : ProgLow B pv p) (hB0 : B ≤ q) (hk : o.k = 10) :
    Calls Tryz.prog 62 #[.pointer (some ⟨q, 0, none⟩), .agg #[pv], .agg #[.int .i64 f.args, .int .i64 f.regs, .slice f.oa f.ops.length f.oc], .agg #[.int .u8 o.k, .int .i64 o.d, .int .i64 o.a, .int .i64 o.b, .int .i64 o.n]] w (RightP w q fn op p f o) := by
  obtain ⟨pa, pc, rfl⟩ := hp.fns.slice
  have hqlt := (Array.getElem?_eq_some_iff.1 hq).1
  have H0 := Lib.hid (rt_start hq hp (f := f) (o := o))
  have HL := Lib.hid hl
  clear hp hl hq
  have HK := Lib.hid (show opE p f o = _ from opE_go hk)
  have k12 : (o.k == 12) = false := by simp [hk]
  have k10 : (o.k == 10) = true := by simp [hk]
  clear hk
  go_enter Tryz.func62, Tryz.ntmps62
  go_upto_region 1 with fail
  simp only [fnC, opC] at H0
  generalize ((w.alloc (.cells #[.slice pa p.length pc] 24)).alloc (.cells #[.int .i64 f.args, .int .i64 f.regs, .slice f.oa f.ops.length f.oc] FnT)).alloc (.cells #[.int .u8 o.k, .int .i64 o.d, .int .i64 o.a, .int .i64 o.b, .int .i64 o.n] OpT) = w1 at *
  generalize w.heap.size = s at *
  by_cases hn0 : o.n < 0
  · skip
    have n1 : ¬ 0 ≤ o.n := by omega
    have n2 : decide (0 ≤ o.n) = false := by simp; omega
    have bp0 := H0.out.bp.cell 0
    have bf0 := H0.out.bf.cell 0; have bf1 := H0.out.bf.cell 1; have bf2 := H0.out.bf.cell 2
    have bo0 := H0.out.bo.cell 0; have bo1 := H0.out.bo.cell 1; have bo2 := H0.out.bo.cell 2; have bo3 := H0.out.bo.cell 3; have bo4 := H0.out.bo.cell 4
    have fa0 := H0.out.fa.cell 0
    simp only [faC, List.getElem?_toArray, List.getElem?_cons_zero, List.getElem?_cons_succ] at bp0 bf0 bf1 bf2 bo0 bo1 bo2 bo3 bo4 fa0
    go_wp2_with fail
    refine (must_any (e' := 112) H0.out.fa (by rfl)).mono ?_
    rintro e w1m ⟨rfl, hFA, hFR⟩
    have H9 := Lib.hid (H0.out.must HL.out hB0 hFA hFR)
    clear hFA hFR
    clear bp0 bf0 bf1 bf2 bo0 bo1 bo2 bo3 bo4 fa0
    go_wp2_with fail
    go_end0
    exact ⟨rfl, (show opE p f o = _ by rw [HK.out, if_pos (by omega)]) ▸ H9.out.fa, H9.out.fr⟩
  by_cases hn1 : o.n < (f.ops.length : Int)
  · skip
    have n1 : 0 ≤ o.n := by omega
    have n2 : decide (o.n < (f.ops.length : Int)) = true := by simp; omega
    have n3 : decide (0 ≤ o.n) = true := by simp; omega
    have bp0 := H0.out.bp.cell 0
    have bf0 := H0.out.bf.cell 0; have bf1 := H0.out.bf.cell 1; have bf2 := H0.out.bf.cell 2
    have bo0 := H0.out.bo.cell 0; have bo1 := H0.out.bo.cell 1; have bo2 := H0.out.bo.cell 2; have bo3 := H0.out.bo.cell 3; have bo4 := H0.out.bo.cell 4
    have fa0 := H0.out.fa.cell 0
    simp only [faC, List.getElem?_toArray, List.getElem?_cons_zero, List.getElem?_cons_succ] at bp0 bf0 bf1 bf2 bo0 bo1 bo2 bo3 bo4 fa0
    go_wp2_with fail
    refine (must_any (e' := 0) H0.out.fa (by rfl)).mono ?_
    rintro e w1m ⟨rfl, hFA, hFR⟩
    have H9 := Lib.hid (H0.out.must HL.out hB0 hFA hFR)
    clear hFA hFR
    clear bp0 bf0 bf1 bf2 bo0 bo1 bo2 bo3 bo4 fa0
    go_wp2_with fail
    go_end0
    exact ⟨rfl, (show opE p f o = _ by rw [HK.out, if_neg (by omega)]) ▸ H9.out.fa, H9.out.fr⟩
  · skip
    have n1 : 0 ≤ o.n := by omega
    have n2 : decide (o.n < (f.ops.length : Int)) = false := by simp; omega
    have n3 : decide (0 ≤ o.n) = true := by simp; omega
    have bp0 := H0.out.bp.cell 0
    have bf0 := H0.out.bf.cell 0; have bf1 := H0.out.bf.cell 1; have bf2 := H0.out.bf.cell 2
    have bo0 := H0.out.bo.cell 0; have bo1 := H0.out.bo.cell 1; have bo2 := H0.out.bo.cell 2; have bo3 := H0.out.bo.cell 3; have bo4 := H0.out.bo.cell 4
    have fa0 := H0.out.fa.cell 0
    simp only [faC, List.getElem?_toArray, List.getElem?_cons_zero, List.getElem?_cons_succ] at bp0 bf0 bf1 bf2 bo0 bo1 bo2 bo3 bo4 fa0
    go_wp2_with fail
    refine (must_any (e' := 112) H0.out.fa (by rfl)).mono ?_
    rintro e w1m ⟨rfl, hFA, hFR⟩
    have H9 := Lib.hid (H0.out.must HL.out hB0 hFA hFR)
    clear hFA hFR
    clear bp0 bf0 bf1 bf2 bo0 bo1 bo2 bo3 bo4 fa0
    go_wp2_with fail
    go_end0
    exact ⟨rfl, (show opE p f o = _ by rw [HK.out, if_pos (by omega)]) ▸ H9.out.fa, H9.out.fr⟩

set_option maxHeartbeats 3200000 in
set_option maxRecDepth 100000 in
theorem right_if {q : Nat} {fn op : Int} {pv : Value} {p : List Fnc} {f : Fnc} {o : Opr} {w : World} {B : Nat} (hq : BoxAt w q (faC 0 fn op) FaultT) (hp : ProgAt w pv p) (hl : ProgLow B pv p) (hB0 : B ≤ q) (hk : o.k = 11) :
    Calls Tryz.prog 62 #[.pointer (some ⟨q, 0, none⟩), .agg #[pv], .agg #[.int .i64 f.args, .int .i64 f.regs, .slice f.oa f.ops.length f.oc], .agg #[.int .u8 o.k, .int .i64 o.d, .int .i64 o.a, .int .i64 o.b, .int .i64 o.n]] w (RightP w q fn op p f o) := by
  obtain ⟨pa, pc, rfl⟩ := hp.fns.slice
  have hqlt := (Array.getElem?_eq_some_iff.1 hq).1
  have H0 := Lib.hid (rt_start hq hp (f := f) (o := o))
  have HL := Lib.hid hl
  clear hp hl hq
  have HK := Lib.hid (show opE p f o = _ from opE_if hk)
  have k12 : (o.k == 12) = false := by simp [hk]
  have k10 : (o.k == 10) = false := by simp [hk]
  have k11 : (o.k == 11) = true := by simp [hk]
  clear hk
  go_enter Tryz.func62, Tryz.ntmps62
  go_upto_region 1 with fail
  simp only [fnC, opC] at H0
  generalize ((w.alloc (.cells #[.slice pa p.length pc] 24)).alloc (.cells #[.int .i64 f.args, .int .i64 f.regs, .slice f.oa f.ops.length f.oc] FnT)).alloc (.cells #[.int .u8 o.k, .int .i64 o.d, .int .i64 o.a, .int .i64 o.b, .int .i64 o.n] OpT) = w1 at *
  generalize w.heap.size = s at *
  by_cases hc : o.a < f.regs
  · have bp0 := H0.out.bp.cell 0
    have bf0 := H0.out.bf.cell 0; have bf1 := H0.out.bf.cell 1; have bf2 := H0.out.bf.cell 2
    have bo0 := H0.out.bo.cell 0; have bo1 := H0.out.bo.cell 1; have bo2 := H0.out.bo.cell 2; have bo3 := H0.out.bo.cell 3; have bo4 := H0.out.bo.cell 4
    have fa0 := H0.out.fa.cell 0
    simp only [faC, List.getElem?_toArray, List.getElem?_cons_zero, List.getElem?_cons_succ] at bp0 bf0 bf1 bf2 bo0 bo1 bo2 bo3 bo4 fa0
    have HV := Lib.hid (show ReadsK encN1 1 (w1.alloc (.cells #[.int .i64 o.a] 3)) (.slice (some ⟨w1.heap.size, 0, none⟩) 1 1) [o.a] from reads_lit (heap_alloc_new _ _) rfl)
    have HA := Lib.hid (H0.out.below (show Below w1.heap.size w1 (w1.alloc (.cells #[.int .i64 o.a] 3)) from (Below.refl _ _).alloc (Nat.le_refl _) _))
    go_wp2_with fail
    refine (below_of (b := true) f.regs _ _ _ HV.out (by simp) (by simp; omega)).mono ?_
    rintro e w1b ⟨rfl, hB⟩
    have H1 := Lib.hid (HA.out.below hB)
    clear hB HA HV bp0 bf0 bf1 bf2 bo0 bo1 bo2 bo3 bo4 fa0
    go_wp2_with fail
    refine (must_any (e' := 0) H1.out.fa (by rfl)).mono ?_
    rintro e w1bm ⟨rfl, hFA, hFR⟩
    have H2 := Lib.hid (H1.out.must HL.out hB0 hFA hFR)
    clear hFA hFR
    by_cases hn0 : o.n < 0
    · skip
      have n1 : ¬ 0 ≤ o.n := by omega
      have n2 : decide (0 ≤ o.n) = false := by simp; omega
      have bp0 := H2.out.bp.cell 0
      have bf0 := H2.out.bf.cell 0; have bf1 := H2.out.bf.cell 1; have bf2 := H2.out.bf.cell 2
      have bo0 := H2.out.bo.cell 0; have bo1 := H2.out.bo.cell 1; have bo2 := H2.out.bo.cell 2; have bo3 := H2.out.bo.cell 3; have bo4 := H2.out.bo.cell 4
      have fa0 := H2.out.fa.cell 0
      simp only [faC, List.getElem?_toArray, List.getElem?_cons_zero, List.getElem?_cons_succ] at bp0 bf0 bf1 bf2 bo0 bo1 bo2 bo3 bo4 fa0
      go_wp2_with fail
      refine (must_any (e' := 112) H2.out.fa (by rfl)).mono ?_
      rintro e w1bmm ⟨rfl, hFA, hFR⟩
      have H9 := Lib.hid (H2.out.must HL.out hB0 hFA hFR)
      clear hFA hFR
      clear bp0 bf0 bf1 bf2 bo0 bo1 bo2 bo3 bo4 fa0
      go_wp2_with fail
      go_end0
      exact ⟨rfl, (show opE p f o = _ by rw [HK.out, if_neg (by omega), if_pos (by omega)]) ▸ H9.out.fa, H9.out.fr⟩
    by_cases hn1 : o.n < (f.ops.length : Int)
    · skip
      have n1 : 0 ≤ o.n := by omega
      have n2 : decide (o.n < (f.ops.length : Int)) = true := by simp; omega
      have n3 : decide (0 ≤ o.n) = true := by simp; omega
      have bp0 := H2.out.bp.cell 0
      have bf0 := H2.out.bf.cell 0; have bf1 := H2.out.bf.cell 1; have bf2 := H2.out.bf.cell 2
      have bo0 := H2.out.bo.cell 0; have bo1 := H2.out.bo.cell 1; have bo2 := H2.out.bo.cell 2; have bo3 := H2.out.bo.cell 3; have bo4 := H2.out.bo.cell 4
      have fa0 := H2.out.fa.cell 0
      simp only [faC, List.getElem?_toArray, List.getElem?_cons_zero, List.getElem?_cons_succ] at bp0 bf0 bf1 bf2 bo0 bo1 bo2 bo3 bo4 fa0
      go_wp2_with fail
      refine (must_any (e' := 0) H2.out.fa (by rfl)).mono ?_
      rintro e w1bmm ⟨rfl, hFA, hFR⟩
      have H9 := Lib.hid (H2.out.must HL.out hB0 hFA hFR)
      clear hFA hFR
      clear bp0 bf0 bf1 bf2 bo0 bo1 bo2 bo3 bo4 fa0
      go_wp2_with fail
      go_end0
      exact ⟨rfl, (show opE p f o = _ by rw [HK.out, if_neg (by omega), if_neg (by omega)]) ▸ H9.out.fa, H9.out.fr⟩
    · skip
      have n1 : 0 ≤ o.n := by omega
      have n2 : decide (o.n < (f.ops.length : Int)) = false := by simp; omega
      have n3 : decide (0 ≤ o.n) = true := by simp; omega
      have bp0 := H2.out.bp.cell 0
      have bf0 := H2.out.bf.cell 0; have bf1 := H2.out.bf.cell 1; have bf2 := H2.out.bf.cell 2
      have bo0 := H2.out.bo.cell 0; have bo1 := H2.out.bo.cell 1; have bo2 := H2.out.bo.cell 2; have bo3 := H2.out.bo.cell 3; have bo4 := H2.out.bo.cell 4
      have fa0 := H2.out.fa.cell 0
      simp only [faC, List.getElem?_toArray, List.getElem?_cons_zero, List.getElem?_cons_succ] at bp0 bf0 bf1 bf2 bo0 bo1 bo2 bo3 bo4 fa0
      go_wp2_with fail
      refine (must_any (e' := 112) H2.out.fa (by rfl)).mono ?_
      rintro e w1bmm ⟨rfl, hFA, hFR⟩
      have H9 := Lib.hid (H2.out.must HL.out hB0 hFA hFR)
      clear hFA hFR
      clear bp0 bf0 bf1 bf2 bo0 bo1 bo2 bo3 bo4 fa0
      go_wp2_with fail
      go_end0
      exact ⟨rfl, (show opE p f o = _ by rw [HK.out, if_neg (by omega), if_pos (by omega)]) ▸ H9.out.fa, H9.out.fr⟩
  · have bp0 := H0.out.bp.cell 0
    have bf0 := H0.out.bf.cell 0; have bf1 := H0.out.bf.cell 1; have bf2 := H0.out.bf.cell 2
    have bo0 := H0.out.bo.cell 0; have bo1 := H0.out.bo.cell 1; have bo2 := H0.out.bo.cell 2; have bo3 := H0.out.bo.cell 3; have bo4 := H0.out.bo.cell 4
    have fa0 := H0.out.fa.cell 0
    simp only [faC, List.getElem?_toArray, List.getElem?_cons_zero, List.getElem?_cons_succ] at bp0 bf0 bf1 bf2 bo0 bo1 bo2 bo3 bo4 fa0
    have HV := Lib.hid (show ReadsK encN1 1 (w1.alloc (.cells #[.int .i64 o.a] 3)) (.slice (some ⟨w1.heap.size, 0, none⟩) 1 1) [o.a] from reads_lit (heap_alloc_new _ _) rfl)
    have HA := Lib.hid (H0.out.below (show Below w1.heap.size w1 (w1.alloc (.cells #[.int .i64 o.a] 3)) from (Below.refl _ _).alloc (Nat.le_refl _) _))
    go_wp2_with fail
    refine (below_of (b := false) f.regs _ _ _ HV.out (by simp) (by simp; omega)).mono ?_
    rintro e w1b ⟨rfl, hB⟩
    have H1 := Lib.hid (HA.out.below hB)
    clear hB HA HV bp0 bf0 bf1 bf2 bo0 bo1 bo2 bo3 bo4 fa0
    go_wp2_with fail
    refine (must_any (e' := 111) H1.out.fa (by rfl)).mono ?_
    rintro e w1bm ⟨rfl, hFA, hFR⟩
    have H2 := Lib.hid (H1.out.must HL.out hB0 hFA hFR)
    clear hFA hFR
    by_cases hn0 : o.n < 0
    · skip
      have n1 : ¬ 0 ≤ o.n := by omega
      have n2 : decide (0 ≤ o.n) = false := by simp; omega
      have bp0 := H2.out.bp.cell 0
      have bf0 := H2.out.bf.cell 0; have bf1 := H2.out.bf.cell 1; have bf2 := H2.out.bf.cell 2
      have bo0 := H2.out.bo.cell 0; have bo1 := H2.out.bo.cell 1; have bo2 := H2.out.bo.cell 2; have bo3 := H2.out.bo.cell 3; have bo4 := H2.out.bo.cell 4
      have fa0 := H2.out.fa.cell 0
      simp only [faC, List.getElem?_toArray, List.getElem?_cons_zero, List.getElem?_cons_succ] at bp0 bf0 bf1 bf2 bo0 bo1 bo2 bo3 bo4 fa0
      go_wp2_with fail
      refine (must_any (e' := 111) H2.out.fa (by rfl)).mono ?_
      rintro e w1bmm ⟨rfl, hFA, hFR⟩
      have H9 := Lib.hid (H2.out.must HL.out hB0 hFA hFR)
      clear hFA hFR
      clear bp0 bf0 bf1 bf2 bo0 bo1 bo2 bo3 bo4 fa0
      go_wp2_with fail
      go_end0
      exact ⟨rfl, (show opE p f o = _ by rw [HK.out, if_pos (by omega)]) ▸ H9.out.fa, H9.out.fr⟩
    by_cases hn1 : o.n < (f.ops.length : Int)
    · skip
      have n1 : 0 ≤ o.n := by omega
      have n2 : decide (o.n < (f.ops.length : Int)) = true := by simp; omega
      have n3 : decide (0 ≤ o.n) = true := by simp; omega
      have bp0 := H2.out.bp.cell 0
      have bf0 := H2.out.bf.cell 0; have bf1 := H2.out.bf.cell 1; have bf2 := H2.out.bf.cell 2
      have bo0 := H2.out.bo.cell 0; have bo1 := H2.out.bo.cell 1; have bo2 := H2.out.bo.cell 2; have bo3 := H2.out.bo.cell 3; have bo4 := H2.out.bo.cell 4
      have fa0 := H2.out.fa.cell 0
      simp only [faC, List.getElem?_toArray, List.getElem?_cons_zero, List.getElem?_cons_succ] at bp0 bf0 bf1 bf2 bo0 bo1 bo2 bo3 bo4 fa0
      go_wp2_with fail
      refine (must_any (e' := 111) H2.out.fa (by rfl)).mono ?_
      rintro e w1bmm ⟨rfl, hFA, hFR⟩
      have H9 := Lib.hid (H2.out.must HL.out hB0 hFA hFR)
      clear hFA hFR
      clear bp0 bf0 bf1 bf2 bo0 bo1 bo2 bo3 bo4 fa0
      go_wp2_with fail
      go_end0
      exact ⟨rfl, (show opE p f o = _ by rw [HK.out, if_pos (by omega)]) ▸ H9.out.fa, H9.out.fr⟩
    · skip
      have n1 : 0 ≤ o.n := by omega
      have n2 : decide (o.n < (f.ops.length : Int)) = false := by simp; omega
      have n3 : decide (0 ≤ o.n) = true := by simp; omega
      have bp0 := H2.out.bp.cell 0
      have bf0 := H2.out.bf.cell 0; have bf1 := H2.out.bf.cell 1; have bf2 := H2.out.bf.cell 2
      have bo0 := H2.out.bo.cell 0; have bo1 := H2.out.bo.cell 1; have bo2 := H2.out.bo.cell 2; have bo3 := H2.out.bo.cell 3; have bo4 := H2.out.bo.cell 4
      have fa0 := H2.out.fa.cell 0
      simp only [faC, List.getElem?_toArray, List.getElem?_cons_zero, List.getElem?_cons_succ] at bp0 bf0 bf1 bf2 bo0 bo1 bo2 bo3 bo4 fa0
      go_wp2_with fail
      refine (must_any (e' := 111) H2.out.fa (by rfl)).mono ?_
      rintro e w1bmm ⟨rfl, hFA, hFR⟩
      have H9 := Lib.hid (H2.out.must HL.out hB0 hFA hFR)
      clear hFA hFR
      clear bp0 bf0 bf1 bf2 bo0 bo1 bo2 bo3 bo4 fa0
      go_wp2_with fail
      go_end0
      exact ⟨rfl, (show opE p f o = _ by rw [HK.out, if_pos (by omega)]) ▸ H9.out.fa, H9.out.fr⟩

set_option maxHeartbeats 3200000 in
set_option maxRecDepth 100000 in
theorem right_fork {q : Nat} {fn op : Int} {pv : Value} {p : List Fnc} {f : Fnc} {o : Opr} {w : World} {B : Nat} (hq : BoxAt w q (faC 0 fn op) FaultT) (hp : ProgAt w pv p) (hl : ProgLow B pv p) (hB0 : B ≤ q) (hk : o.k = 12) (ha0 : 0 ≤ o.a) (ha1 : o.a ≤ 16) (hargs : ∀ f ∈ p, 0 ≤ f.args ∧ f.args ≤ 16) :
    Calls Tryz.prog 62 #[.pointer (some ⟨q, 0, none⟩), .agg #[pv], .agg #[.int .i64 f.args, .int .i64 f.regs, .slice f.oa f.ops.length f.oc], .agg #[.int .u8 o.k, .int .i64 o.d, .int .i64 o.a, .int .i64 o.b, .int .i64 o.n]] w (RightP w q fn op p f o) := by
  obtain ⟨pa, pc, rfl⟩ := hp.fns.slice
  have hqlt := (Array.getElem?_eq_some_iff.1 hq).1
  have H0 := Lib.hid (rt_start hq hp (f := f) (o := o))
  have HL := Lib.hid hl
  clear hp hl hq
  have HK := Lib.hid (show opE p f o = _ from opE_fork hk)
  have k12 : (o.k == 12) = true := by simp [hk]
  clear hk
  go_enter Tryz.func62, Tryz.ntmps62
  go_upto_region 1 with fail
  simp only [fnC, opC] at H0
  generalize ((w.alloc (.cells #[.slice pa p.length pc] 24)).alloc (.cells #[.int .i64 f.args, .int .i64 f.regs, .slice f.oa f.ops.length f.oc] FnT)).alloc (.cells #[.int .u8 o.k, .int .i64 o.d, .int .i64 o.a, .int .i64 o.b, .int .i64 o.n] OpT) = w1 at *
  generalize w.heap.size = s at *
  by_cases hc : o.d < f.regs
  · have bp0 := H0.out.bp.cell 0
    have bf0 := H0.out.bf.cell 0; have bf1 := H0.out.bf.cell 1; have bf2 := H0.out.bf.cell 2
    have bo0 := H0.out.bo.cell 0; have bo1 := H0.out.bo.cell 1; have bo2 := H0.out.bo.cell 2; have bo3 := H0.out.bo.cell 3; have bo4 := H0.out.bo.cell 4
    have fa0 := H0.out.fa.cell 0
    simp only [faC, List.getElem?_toArray, List.getElem?_cons_zero, List.getElem?_cons_succ] at bp0 bf0 bf1 bf2 bo0 bo1 bo2 bo3 bo4 fa0
    have HV := Lib.hid (show ReadsK encN1 1 (w1.alloc (.cells #[.int .i64 o.d] 3)) (.slice (some ⟨w1.heap.size, 0, none⟩) 1 1) [o.d] from reads_lit (heap_alloc_new _ _) rfl)
    have HA := Lib.hid (H0.out.below (show Below w1.heap.size w1 (w1.alloc (.cells #[.int .i64 o.d] 3)) from (Below.refl _ _).alloc (Nat.le_refl _) _))
    go_wp2_with fail
    refine (below_of (b := true) f.regs _ _ _ HV.out (by simp) (by simp; omega)).mono ?_
    rintro e w1b ⟨rfl, hB⟩
    have H1 := Lib.hid (HA.out.below hB)
    clear hB HA HV bp0 bf0 bf1 bf2 bo0 bo1 bo2 bo3 bo4 fa0
    go_wp2_with fail
    refine (must_any (e' := 0) H1.out.fa (by rfl)).mono ?_
    rintro e w1bm ⟨rfl, hFA, hFR⟩
    have H2 := Lib.hid (H1.out.must HL.out hB0 hFA hFR)
    clear hFA hFR
    by_cases hn0 : o.n < 0
    · skip
      have n1 : ¬ 0 ≤ o.n := by omega
      have n2 : decide (0 ≤ o.n) = false := by simp; omega
      have bp0 := H2.out.bp.cell 0
      have bf0 := H2.out.bf.cell 0; have bf1 := H2.out.bf.cell 1; have bf2 := H2.out.bf.cell 2
      have bo0 := H2.out.bo.cell 0; have bo1 := H2.out.bo.cell 1; have bo2 := H2.out.bo.cell 2; have bo3 := H2.out.bo.cell 3; have bo4 := H2.out.bo.cell 4
      have fa0 := H2.out.fa.cell 0
      simp only [faC, List.getElem?_toArray, List.getElem?_cons_zero, List.getElem?_cons_succ] at bp0 bf0 bf1 bf2 bo0 bo1 bo2 bo3 bo4 fa0
      go_wp2_with fail
      refine (must_any (e' := 112) H2.out.fa (by rfl)).mono ?_
      rintro e w1bmm ⟨rfl, hFA, hFR⟩
      have H9 := Lib.hid (H2.out.must HL.out hB0 hFA hFR)
      clear hFA hFR
      clear bp0 bf0 bf1 bf2 bo0 bo1 bo2 bo3 bo4 fa0
      have bp0 := H9.out.bp.cell 0
      have bf0 := H9.out.bf.cell 0; have bf1 := H9.out.bf.cell 1; have bf2 := H9.out.bf.cell 2
      have bo0 := H9.out.bo.cell 0; have bo1 := H9.out.bo.cell 1; have bo2 := H9.out.bo.cell 2; have bo3 := H9.out.bo.cell 3; have bo4 := H9.out.bo.cell 4
      have fa0 := H9.out.fa.cell 0
      simp only [faC, List.getElem?_toArray, List.getElem?_cons_zero, List.getElem?_cons_succ] at bp0 bf0 bf1 bf2 bo0 bo1 bo2 bo3 bo4 fa0
      go_wp2_with fail
      go_end0
      exact ⟨rfl, (show opE p f o = _ by rw [HK.out, if_neg (by omega), if_pos (by omega)]) ▸ H9.out.fa, H9.out.fr⟩
    by_cases hn1 : o.n < (p.length : Int)
    · skip
      have n1 : 0 ≤ o.n := by omega
      have n2 : decide (o.n < (p.length : Int)) = true := by simp; omega
      have n3 : decide (0 ≤ o.n) = true := by simp; omega
      have bp0 := H2.out.bp.cell 0
      have bf0 := H2.out.bf.cell 0; have bf1 := H2.out.bf.cell 1; have bf2 := H2.out.bf.cell 2
      have bo0 := H2.out.bo.cell 0; have bo1 := H2.out.bo.cell 1; have bo2 := H2.out.bo.cell 2; have bo3 := H2.out.bo.cell 3; have bo4 := H2.out.bo.cell 4
      have fa0 := H2.out.fa.cell 0
      simp only [faC, List.getElem?_toArray, List.getElem?_cons_zero, List.getElem?_cons_succ] at bp0 bf0 bf1 bf2 bo0 bo1 bo2 bo3 bo4 fa0
      go_wp2_with fail
      refine (must_any (e' := 0) H2.out.fa (by rfl)).mono ?_
      rintro e w1bmm ⟨rfl, hFA, hFR⟩
      have H9 := Lib.hid (H2.out.must HL.out hB0 hFA hFR)
      clear hFA hFR
      clear bp0 bf0 bf1 bf2 bo0 bo1 bo2 bo3 bo4 fa0
      obtain ⟨j, hj⟩ : ∃ j : Nat, o.n = j := ⟨o.n.toNat, by omega⟩
      have hjl : j < p.length := by omega
      obtain ⟨b, off, c, he, hb, hc⟩ := H9.out.pr.fns.at (by omega)
      injection he with he1 he2 he3
      subst he1
      have g0 := (fn_at hc hjl).1
      have hm := hargs _ (List.getElem_mem hjl)
      have HK2 := Lib.hid (show opE p f o = if 0 < p[j].args ∧ f.regs < o.a + p[j].args then 111 else 0 by
        rw [HK.out, if_neg (by omega), if_neg (by omega)]
        have e1 : fnAt p o.n = p[j] := by
          unfold fnAt
          rw [hj, List.getD_eq_getElem?_getD, Int.toNat_natCast, List.getElem?_eq_getElem hjl]; rfl
        rw [e1])
      have bp0 := H9.out.bp.cell 0
      have bf0 := H9.out.bf.cell 0; have bf1 := H9.out.bf.cell 1; have bf2 := H9.out.bf.cell 2
      have bo0 := H9.out.bo.cell 0; have bo1 := H9.out.bo.cell 1; have bo2 := H9.out.bo.cell 2; have bo3 := H9.out.bo.cell 3; have bo4 := H9.out.bo.cell 4
      have fa0 := H9.out.fa.cell 0
      simp only [faC, List.getElem?_toArray, List.getElem?_cons_zero, List.getElem?_cons_succ] at bp0 bf0 bf1 bf2 bo0 bo1 bo2 bo3 bo4 fa0
      rw [hj] at bo4
      clear hc hb he2 he3 hn0 hn1 n1 n2 n3 hj HK
      generalize p[j].args = m at *
      by_cases hm0 : m = 0
      · have m1 : (m == 0) = true := by simp [hm0]
        have HM := Lib.hid hm0
        clear hm0
        go_wp2_with fail
        refine (must_any (e' := 0) H9.out.fa (by rfl)).mono ?_
        rintro e w1bmmm ⟨rfl, hFA, hFR⟩
        have H8 := Lib.hid (H9.out.must HL.out hB0 hFA hFR)
        clear hFA hFR
        go_wp2_with fail
        go_end0
        exact ⟨rfl, (show opE p f o = _ by rw [HK2.out, if_neg (by have := HM.out; omega)]) ▸ H8.out.fa, H8.out.fr⟩
      have m1 : (m == 0) = false := by simp [hm0]
      by_cases hm1 : o.a + m ≤ f.regs
      · skip
        go_wp2_with fail
        refine (must_any (e' := 0) H9.out.fa (by simp [mustE])).mono ?_
        rintro e w1bmmm ⟨rfl, hFA, hFR⟩
        have H8 := Lib.hid (H9.out.must HL.out hB0 hFA hFR)
        clear hFA hFR
        go_wp2_with fail
        go_end0
        exact ⟨rfl, (show opE p f o = _ by rw [HK2.out, if_neg (by omega)]) ▸ H8.out.fa, H8.out.fr⟩
      · skip
        go_wp2_with fail
        refine (must_any (e' := 111) H9.out.fa (by simp [hm1, mustE])).mono ?_
        rintro e w1bmmm ⟨rfl, hFA, hFR⟩
        have H8 := Lib.hid (H9.out.must HL.out hB0 hFA hFR)
        clear hFA hFR
        go_wp2_with fail
        go_end0
        exact ⟨rfl, (show opE p f o = _ by rw [HK2.out, if_pos (by omega)]) ▸ H8.out.fa, H8.out.fr⟩
    · skip
      have n1 : 0 ≤ o.n := by omega
      have n2 : decide (o.n < (p.length : Int)) = false := by simp; omega
      have n3 : decide (0 ≤ o.n) = true := by simp; omega
      have bp0 := H2.out.bp.cell 0
      have bf0 := H2.out.bf.cell 0; have bf1 := H2.out.bf.cell 1; have bf2 := H2.out.bf.cell 2
      have bo0 := H2.out.bo.cell 0; have bo1 := H2.out.bo.cell 1; have bo2 := H2.out.bo.cell 2; have bo3 := H2.out.bo.cell 3; have bo4 := H2.out.bo.cell 4
      have fa0 := H2.out.fa.cell 0
      simp only [faC, List.getElem?_toArray, List.getElem?_cons_zero, List.getElem?_cons_succ] at bp0 bf0 bf1 bf2 bo0 bo1 bo2 bo3 bo4 fa0
      go_wp2_with fail
      refine (must_any (e' := 112) H2.out.fa (by rfl)).mono ?_
      rintro e w1bmm ⟨rfl, hFA, hFR⟩
      have H9 := Lib.hid (H2.out.must HL.out hB0 hFA hFR)
      clear hFA hFR
      clear bp0 bf0 bf1 bf2 bo0 bo1 bo2 bo3 bo4 fa0
      have bp0 := H9.out.bp.cell 0
      have bf0 := H9.out.bf.cell 0; have bf1 := H9.out.bf.cell 1; have bf2 := H9.out.bf.cell 2
      have bo0 := H9.out.bo.cell 0; have bo1 := H9.out.bo.cell 1; have bo2 := H9.out.bo.cell 2; have bo3 := H9.out.bo.cell 3; have bo4 := H9.out.bo.cell 4
      have fa0 := H9.out.fa.cell 0
      simp only [faC, List.getElem?_toArray, List.getElem?_cons_zero, List.getElem?_cons_succ] at bp0 bf0 bf1 bf2 bo0 bo1 bo2 bo3 bo4 fa0
      go_wp2_with fail
      go_end0
      exact ⟨rfl, (show opE p f o = _ by rw [HK.out, if_neg (by omega), if_pos (by omega)]) ▸ H9.out.fa, H9.out.fr⟩
  · have bp0 := H0.out.bp.cell 0
    have bf0 := H0.out.bf.cell 0; have bf1 := H0.out.bf.cell 1; have bf2 := H0.out.bf.cell 2
    have bo0 := H0.out.bo.cell 0; have bo1 := H0.out.bo.cell 1; have bo2 := H0.out.bo.cell 2; have bo3 := H0.out.bo.cell 3; have bo4 := H0.out.bo.cell 4
    have fa0 := H0.out.fa.cell 0
    simp only [faC, List.getElem?_toArray, List.getElem?_cons_zero, List.getElem?_cons_succ] at bp0 bf0 bf1 bf2 bo0 bo1 bo2 bo3 bo4 fa0
    have HV := Lib.hid (show ReadsK encN1 1 (w1.alloc (.cells #[.int .i64 o.d] 3)) (.slice (some ⟨w1.heap.size, 0, none⟩) 1 1) [o.d] from reads_lit (heap_alloc_new _ _) rfl)
    have HA := Lib.hid (H0.out.below (show Below w1.heap.size w1 (w1.alloc (.cells #[.int .i64 o.d] 3)) from (Below.refl _ _).alloc (Nat.le_refl _) _))
    go_wp2_with fail
    refine (below_of (b := false) f.regs _ _ _ HV.out (by simp) (by simp; omega)).mono ?_
    rintro e w1b ⟨rfl, hB⟩
    have H1 := Lib.hid (HA.out.below hB)
    clear hB HA HV bp0 bf0 bf1 bf2 bo0 bo1 bo2 bo3 bo4 fa0
    go_wp2_with fail
    refine (must_any (e' := 111) H1.out.fa (by rfl)).mono ?_
    rintro e w1bm ⟨rfl, hFA, hFR⟩
    have H2 := Lib.hid (H1.out.must HL.out hB0 hFA hFR)
    clear hFA hFR
    by_cases hn0 : o.n < 0
    · skip
      have n1 : ¬ 0 ≤ o.n := by omega
      have n2 : decide (0 ≤ o.n) = false := by simp; omega
      have bp0 := H2.out.bp.cell 0
      have bf0 := H2.out.bf.cell 0; have bf1 := H2.out.bf.cell 1; have bf2 := H2.out.bf.cell 2
      have bo0 := H2.out.bo.cell 0; have bo1 := H2.out.bo.cell 1; have bo2 := H2.out.bo.cell 2; have bo3 := H2.out.bo.cell 3; have bo4 := H2.out.bo.cell 4
      have fa0 := H2.out.fa.cell 0
      simp only [faC, List.getElem?_toArray, List.getElem?_cons_zero, List.getElem?_cons_succ] at bp0 bf0 bf1 bf2 bo0 bo1 bo2 bo3 bo4 fa0
      go_wp2_with fail
      refine (must_any (e' := 111) H2.out.fa (by rfl)).mono ?_
      rintro e w1bmm ⟨rfl, hFA, hFR⟩
      have H9 := Lib.hid (H2.out.must HL.out hB0 hFA hFR)
      clear hFA hFR
      clear bp0 bf0 bf1 bf2 bo0 bo1 bo2 bo3 bo4 fa0
      have bp0 := H9.out.bp.cell 0
      have bf0 := H9.out.bf.cell 0; have bf1 := H9.out.bf.cell 1; have bf2 := H9.out.bf.cell 2
      have bo0 := H9.out.bo.cell 0; have bo1 := H9.out.bo.cell 1; have bo2 := H9.out.bo.cell 2; have bo3 := H9.out.bo.cell 3; have bo4 := H9.out.bo.cell 4
      have fa0 := H9.out.fa.cell 0
      simp only [faC, List.getElem?_toArray, List.getElem?_cons_zero, List.getElem?_cons_succ] at bp0 bf0 bf1 bf2 bo0 bo1 bo2 bo3 bo4 fa0
      go_wp2_with fail
      go_end0
      exact ⟨rfl, (show opE p f o = _ by rw [HK.out, if_pos (by omega)]) ▸ H9.out.fa, H9.out.fr⟩
    by_cases hn1 : o.n < (p.length : Int)
    · skip
      have n1 : 0 ≤ o.n := by omega
      have n2 : decide (o.n < (p.length : Int)) = true := by simp; omega
      have n3 : decide (0 ≤ o.n) = true := by simp; omega
      have bp0 := H2.out.bp.cell 0
      have bf0 := H2.out.bf.cell 0; have bf1 := H2.out.bf.cell 1; have bf2 := H2.out.bf.cell 2
      have bo0 := H2.out.bo.cell 0; have bo1 := H2.out.bo.cell 1; have bo2 := H2.out.bo.cell 2; have bo3 := H2.out.bo.cell 3; have bo4 := H2.out.bo.cell 4
      have fa0 := H2.out.fa.cell 0
      simp only [faC, List.getElem?_toArray, List.getElem?_cons_zero, List.getElem?_cons_succ] at bp0 bf0 bf1 bf2 bo0 bo1 bo2 bo3 bo4 fa0
      go_wp2_with fail
      refine (must_any (e' := 111) H2.out.fa (by rfl)).mono ?_
      rintro e w1bmm ⟨rfl, hFA, hFR⟩
      have H9 := Lib.hid (H2.out.must HL.out hB0 hFA hFR)
      clear hFA hFR
      clear bp0 bf0 bf1 bf2 bo0 bo1 bo2 bo3 bo4 fa0
      have bp0 := H9.out.bp.cell 0
      have bf0 := H9.out.bf.cell 0; have bf1 := H9.out.bf.cell 1; have bf2 := H9.out.bf.cell 2
      have bo0 := H9.out.bo.cell 0; have bo1 := H9.out.bo.cell 1; have bo2 := H9.out.bo.cell 2; have bo3 := H9.out.bo.cell 3; have bo4 := H9.out.bo.cell 4
      have fa0 := H9.out.fa.cell 0
      simp only [faC, List.getElem?_toArray, List.getElem?_cons_zero, List.getElem?_cons_succ] at bp0 bf0 bf1 bf2 bo0 bo1 bo2 bo3 bo4 fa0
      go_wp2_with fail
      go_end0
      exact ⟨rfl, (show opE p f o = _ by rw [HK.out, if_pos (by omega)]) ▸ H9.out.fa, H9.out.fr⟩
    · skip
      have n1 : 0 ≤ o.n := by omega
      have n2 : decide (o.n < (p.length : Int)) = false := by simp; omega
      have n3 : decide (0 ≤ o.n) = true := by simp; omega
      have bp0 := H2.out.bp.cell 0
      have bf0 := H2.out.bf.cell 0; have bf1 := H2.out.bf.cell 1; have bf2 := H2.out.bf.cell 2
      have bo0 := H2.out.bo.cell 0; have bo1 := H2.out.bo.cell 1; have bo2 := H2.out.bo.cell 2; have bo3 := H2.out.bo.cell 3; have bo4 := H2.out.bo.cell 4
      have fa0 := H2.out.fa.cell 0
      simp only [faC, List.getElem?_toArray, List.getElem?_cons_zero, List.getElem?_cons_succ] at bp0 bf0 bf1 bf2 bo0 bo1 bo2 bo3 bo4 fa0
      go_wp2_with fail
      refine (must_any (e' := 111) H2.out.fa (by rfl)).mono ?_
      rintro e w1bmm ⟨rfl, hFA, hFR⟩
      have H9 := Lib.hid (H2.out.must HL.out hB0 hFA hFR)
      clear hFA hFR
      clear bp0 bf0 bf1 bf2 bo0 bo1 bo2 bo3 bo4 fa0
      have bp0 := H9.out.bp.cell 0
      have bf0 := H9.out.bf.cell 0; have bf1 := H9.out.bf.cell 1; have bf2 := H9.out.bf.cell 2
      have bo0 := H9.out.bo.cell 0; have bo1 := H9.out.bo.cell 1; have bo2 := H9.out.bo.cell 2; have bo3 := H9.out.bo.cell 3; have bo4 := H9.out.bo.cell 4
      have fa0 := H9.out.fa.cell 0
      simp only [faC, List.getElem?_toArray, List.getElem?_cons_zero, List.getElem?_cons_succ] at bp0 bf0 bf1 bf2 bo0 bo1 bo2 bo3 bo4 fa0
      go_wp2_with fail
      go_end0
      exact ⟨rfl, (show opE p f o = _ by rw [HK.out, if_pos (by omega)]) ▸ H9.out.fa, H9.out.fr⟩

theorem right_any {q : Nat} {fn op : Int} {pv : Value} {p : List Fnc} {f : Fnc} {o : Opr} {w : World} {B : Nat} (hq : BoxAt w q (faC 0 fn op) FaultT) (hp : ProgAt w pv p) (hl : ProgLow B pv p) (hB0 : B ≤ q) (hm : mayP p = true) (ho : formedP o = true) :
    Calls Tryz.prog 62 #[.pointer (some ⟨q, 0, none⟩), .agg #[pv], .agg #[.int .i64 f.args, .int .i64 f.regs, .slice f.oa f.ops.length f.oc], .agg #[.int .u8 o.k, .int .i64 o.d, .int .i64 o.a, .int .i64 o.b, .int .i64 o.n]] w (RightP w q fn op p f o) := by
  have hargs : ∀ f ∈ p, 0 ≤ f.args ∧ f.args ≤ 16 := fun g hg => by
    unfold mayP at hm
    simp only [Bool.and_eq_true, List.all_eq_true] at hm
    have := hm.2 g hg
    unfold mayF regP at this
    simp only [Bool.and_eq_true, decide_eq_true_eq] at this
    exact this.1.1.1
  unfold formedP regP at ho
  simp only [Bool.and_eq_true, Bool.or_eq_true, decide_eq_true_eq] at ho
  obtain ⟨⟨⟨⟨⟨⟨h1, h2⟩, ⟨_, ha⟩, _⟩, _⟩, _⟩, _⟩, _⟩ := ho
  by_cases k12 : o.k = 12
  · exact right_fork hq hp hl hB0 k12 ha.1 ha.2 hargs
  by_cases k10 : o.k = 10
  · exact right_go hq hp hl hB0 k10
  by_cases k11 : o.k = 11
  · exact right_if hq hp hl hB0 k11
  by_cases k1 : o.k = 1
  · exact right_set hq hp hl hB0 k1
  by_cases k2 : o.k = 2
  · exact right_copy hq hp hl hB0 k2
  by_cases k14 : o.k = 14
  · exact right_ret hq hp hl hB0 k14
  by_cases k13 : o.k = 13
  · exact right_join hq hp hl hB0 k13
  · exact right_calc hq hp hl hB0 (by omega) (by omega)
end Go.Proofs.YtdhbjejejeljoaaGreat
