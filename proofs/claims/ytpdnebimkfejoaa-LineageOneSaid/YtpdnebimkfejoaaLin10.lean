/- names; all. -/
import Derived.Test.YtpdnebimkfejoaaLin9
namespace Go.Proofs.Ytpdnebimkfejoaa
open Go.RowKit Go.Sort Go.Lib

def encM (n : Nm) : List Value := [.int .u64 n.1, .string n.2]
def encQ (p : Nm × Nat × Rw) : List Value := [evP p.2.1]
abbrev Rl := Nm × Rw
instance : Inhabited Rl := ⟨((0, ⟨#[]⟩), ⟨0, none, 0, [], 0, 0, 0, 0⟩)⟩
def encT (p : Rl) : List Value := [.int .u64 p.1.1, .string p.1.2, .string p.1.2, .int .i64 p.2.fn, .slice p.2.aa p.2.args.length p.2.ac, .int .i64 p.2.fuel, .int .u8 p.2.st, .int .i64 p.2.wk, .int .u64 p.2.ep]
theorem encT_len (p : Rl) : (encT p).length = 9 := rfl
/-- A root, but where its arguments lie. -/
def core (r : Rw) : Rw := { r with aa := none, ac := 0 }
def coreP (p : Rl) : Rl := (p.1, core p.2)
def rowsT (T : Tb) : List Rl := T.map fun p => (p.1, core p.2.2)
def ArgsB (B : Nat) (w : World) (r : Rw) : Prop := w.ownsRow B 2 1 (.slice r.aa r.args.length r.ac) r.args.length (r.args.flatMap encI)
theorem ArgsB.far {B : Nat} {w w' : World} {r : Rw} (h : ArgsB B w r) (hb : ∀ (i : Nat) (cur : Array Value), w.heap[i]? = some (Obj.cells cur 2 (0, 0)) → w'.heap[i]? = w.heap[i]?) : ArgsB B w' r := by
  obtain ⟨h0, h1 | ⟨g, cap, cur, hv, h1, h2, h3⟩⟩ := h
  · exact ⟨h0, .inl h1⟩
  · exact ⟨h0, .inr ⟨g, cap, cur, hv, h1, (hb g cur h2).trans h2, h3⟩⟩
theorem ArgsB.base {B B' : Nat} {w : World} {r : Rw} (h : ArgsB B w r) (hb : B' ≤ B) : ArgsB B' w r := owns_base h hb
theorem info_name : (Try.prog.info? 29).map (fun i => (i.zero, i.size, i.bytes)) = some (some (.agg #[.int .u64 0, .string ⟨#[]⟩]), 2, 24) := by kernel_rfl
theorem info_root : (Try.prog.info? 42).map (fun i => (i.zero, i.size, i.bytes)) = some (some (.agg #[.int .u64 0, .string ⟨#[]⟩, .string ⟨#[]⟩, .int .i64 0, .slice none 0 0, .int .i64 0, .int .u8 0, .int .i64 0, .int .u64 0]), 9, 104) := by kernel_rfl
/-- A list of names that the call made. -/
def NamesR (l : List Nm) (w : World) (e : Ending) (w' : World) : Prop := ∃ v, e = .returned v ∧ w'.ownsRow w.heap.size 29 2 v l.length (l.flatMap encM) ∧ Below w.heap.size w w'
theorem reads_ptrs {w : World} {B : Nat} {v : Value} {l : Tb} (h : w.ownsRow B 69 1 v l.length (ptrs l)) : ReadsK encQ 1 w v l := own_readsV (enc := fun p : Nm × Nat × Rw => evP p.2.1) h
set_option maxHeartbeats 3200000 in
set_option maxRecDepth 100000 in
theorem names_any (l : Tb) (v : Value) (w : World) (hv : ReadsK encQ 1 w v l) (hr : ∀ p ∈ l, w.heap[p.2.1]? = some (rowO p.1 p.2.2)) (hl : l.length ≤ 1000000) :
    Calls Try.prog 44 #[v] w (NamesR (l.map (·.1)) w) := by
  obtain ⟨ig, hig, hg0, hg1, hg2⟩ := info_parts info_name
  obtain ⟨va, vc, rfl⟩ := hv.slice
  have HV := Lib.hid hv
  have HR := Lib.hid hr
  clear hv hr
  go_enter Try.func44, Try.ntmps44
  go_wp2_with fail
  go_loopg [2, 7] l.length (fun gk x i wr => ∃ (u : Value) (k : Nat), u = x ∧ gk + k = l.length ∧ i = .int .i64 k ∧ wr.ownsRow w.heap.size 29 2 u k ((l.take k).flatMap (fun p => encM p.1)) ∧ Below w.heap.size w wr)
  case atStart => exact ⟨_, 0, rfl, by omega, rfl, World.ownsRow_nil _ _ _ _, Below.refl _ _⟩
  case round =>
    obtain ⟨u, k, rfl, hk, rfl, hO, hB⟩ := hrel
    have HO := Lib.hid hO
    have HB := Lib.hid hB
    clear hO hB
    by_cases hlt : k < l.length
    · have hrow := HR.out _ (List.getElem_mem hlt)
      have hrow2 := (HB.out.block _ (Array.getElem?_eq_some_iff.1 hrow).1).trans hrow
      obtain ⟨b, off, c, he, hb, hc⟩ := HV.out.at (by omega)
      injection he with he1 he2 he3
      subst he1
      have hcc : wr.cell? ⟨b, off + k, none⟩ = some (evP l[k].2.1) := by have h := hc k hlt 0 _ rfl; rw [Nat.mul_one, Nat.add_zero] at h; exact cell_low HB.out hb h
      have HX := Lib.hid (show (l.take (k + 1)).flatMap (fun p => encM p.1) = (l.take k).flatMap (fun p => encM p.1) ++ encM l[k].1 by rw [List.take_succ_eq_append_getElem hlt, List.flatMap_append]; simp)
      generalize l[k] = p at *
      have q0 : wr.cell? ⟨p.2.1, 0, none⟩ = some (.int .u64 p.1.1) := row_cells hrow2 0
      have q1 : wr.cell? ⟨p.2.1, 1, none⟩ = some (.string p.1.2) := row_cells hrow2 1
      unfold evP at hcc
      clear hc hb he2 he3 hrow hrow2
      go_wp2_with (at_builtin; refine wpList_append_own _ rfl _ _ 45 rfl w.heap.size 29 ig (.agg #[.int .u64 0, .string ⟨#[]⟩]) 2 24 Try.underlying45 hig hg0 hg1 hg2 rfl (by decide) _ _ _ rfl (HO.out.alloc _) ⟨wr.heap.size, 0, none⟩ 1 1 (encM p.1) rfl rfl ?c1 ?c2 ?c3 ?c4 ?c5 ?_)
      case c1 =>
        intro j u hj
        match j with
        | 0 => simp [encM] at hj; subst hj; simp [go_sem, Addr.add]
        | 1 => simp [encM] at hj; subst hj; simp [go_sem, Addr.add]
        | j + 2 => simp [encM] at hj
      case c2 => intro u hu; simp [encM] at hu; rcases hu with rfl | rfl <;> rfl
      case c3 => unfold maxLen; omega
      case c4 => omega
      case c5 => have := HB.out.size; simp; omega
      intro v' w4 hown' hgrow _
      have HO2 := Lib.hid hown'
      have HB2 : Hid (Below w.heap.size w w4) := ((HB.out.alloc HB.out.size _).grown hgrow (by have := HB.out.size; simp; omega) (fun b hb => (HO.out.lt b hb).1))
      clear hown' hgrow q0 q1 hcc
      go_wp2_with fail
      go_roundg (gk - 1)
      case rel => exact ⟨_, k + 1, rfl, by omega, by go_num, by rw [HX.out]; exact HO2.out, HB2.out⟩
      case measure => omega
    · have hkl : k = l.length := by omega
      have HN := Lib.hid (show wr.ownsRow w.heap.size 29 2 u (l.map (·.1)).length ((l.map (·.1)).flatMap encM) by
        have h1 := HO.out
        rw [hkl, List.take_length] at h1
        rw [List.length_map, List.flatMap_map]; exact h1)
      clear hkl
      go_wp2_with fail
      go_ret
      exact ⟨_, rfl, HN.out, HB.out⟩
/-- A list of roots that the call made. -/
def RowsR (l : List Rl) (w : World) (e : Ending) (w' : World) : Prop :=
  ∃ (v : Value) (S : List Rl), e = .returned v ∧ w'.ownsRow w.heap.size 42 9 v S.length (S.flatMap encT) ∧ S.map coreP = l ∧ (∀ p ∈ S, ArgsB w.heap.size w' p.2) ∧ Below w.heap.size w w'
set_option maxHeartbeats 3200000 in
set_option maxRecDepth 100000 in
theorem all_any (l : Tb) (v : Value) (w : World) (hv : ReadsK encQ 1 w v l) (hr : ∀ p ∈ l, w.heap[p.2.1]? = some (rowO p.1 p.2.2) ∧ Args w p.2.2) (hl : l.length ≤ 1000000) (hargs : ∀ p ∈ l, p.2.2.args.length ≤ 1000000) :
    Calls Try.prog 41 #[v] w (RowsR (rowsT l) w) := by
  obtain ⟨ig, hig, hg0, hg1, hg2⟩ := info_parts info_root
  obtain ⟨va, vc, rfl⟩ := hv.slice
  have HV := Lib.hid hv
  have HR := Lib.hid hr
  clear hv hr
  go_enter Try.func41, Try.ntmps41
  go_wp2_with fail
  go_loopg [2, 7] l.length (fun gk x i wr => ∃ (u : Value) (S : List Rl), u = x ∧ gk + S.length = l.length ∧ i = .int .i64 S.length ∧ wr.ownsRow w.heap.size 42 9 u S.length (S.flatMap encT) ∧ Hid (S.map coreP = rowsT (l.take S.length) ∧ ∀ p ∈ S, ArgsB w.heap.size wr p.2) ∧ Below w.heap.size w wr)
  case atStart => exact ⟨_, [], rfl, by simp, rfl, World.ownsRow_nil _ _ _ _, ⟨by simp [rowsT], by simp⟩, Below.refl _ _⟩
  case round =>
    obtain ⟨u, S, rfl, hk, rfl, hO, HS, hB⟩ := hrel
    have HO := Lib.hid hO
    have HB := Lib.hid hB
    clear hO hB
    obtain ⟨k, hkS⟩ : ∃ k, S.length = k := ⟨_, rfl⟩
    have HKS := Lib.hid hkS
    rw [hkS] at hk HO HS ⊢
    clear hkS
    by_cases hlt : k < l.length
    · have hrow := HR.out _ (List.getElem_mem hlt)
      have hal := hargs _ (List.getElem_mem hlt)
      have hrow2 := (HB.out.block _ (Array.getElem?_eq_some_iff.1 hrow.1).1).trans hrow.1
      have harg2 := Args.far hrow.2 (fun i cur hi => HB.out.block i (Array.getElem?_eq_some_iff.1 hi).1)
      obtain ⟨b, off, c, he, hb, hc⟩ := HV.out.at (by omega)
      injection he with he1 he2 he3
      subst he1
      have hcc : wr.cell? ⟨b, off + k, none⟩ = some (evP l[k].2.1) := by have h := hc k hlt 0 _ rfl; rw [Nat.mul_one, Nat.add_zero] at h; exact cell_low HB.out hb h
      have HX := Lib.hid (show rowsT (l.take (k + 1)) = rowsT (l.take k) ++ [(l[k].1, core l[k].2.2)] by unfold rowsT; rw [List.take_succ_eq_append_getElem hlt, List.map_append]; rfl)
      generalize l[k] = p at *
      obtain ⟨n, bb, r⟩ := p
      simp only at hrow2 harg2 hal hcc HX
      unfold evP at hcc
      have HH := Lib.hid (show wr.heap[bb]? = some (rowO n r) ∧ Args wr r from ⟨hrow2, harg2⟩)
      clear hc hb he2 he3 hrow hrow2 harg2
      go_wp2_with fail
      refine (told_any bb n r wr HH.out.1 HH.out.2 hal).mono ?_
      rintro e w3 ⟨aa, ac, rfl, ho, hB⟩
      have HB3 := Lib.hid (HB.out.trans (hB.mono HB.out.size))
      have HO3 := Lib.hid (own_low HO.out hB)
      have HA3 : Hid (∀ p ∈ S, ArgsB w.heap.size w3 p.2) := fun p hp => (HS.out.2 p hp).far (fun i cur hi => hB.block i (Array.getElem?_eq_some_iff.1 hi).1)
      have HAR : Hid (ArgsB w.heap.size w3 { r with aa := aa, ac := ac }) := owns_base ho HB.out.size
      have HC := Lib.hid HS.out.1
      unfold rowV
      clear ho hB HS HH HO hcc HB
      go_wp2_with (at_builtin; refine wpList_append_own _ rfl _ _ 39 rfl w.heap.size 42 ig (.agg #[.int .u64 0, .string ⟨#[]⟩, .string ⟨#[]⟩, .int .i64 0, .slice none 0 0, .int .i64 0, .int .u8 0, .int .i64 0, .int .u64 0]) 9 104 Try.underlying39 hig hg0 hg1 hg2 rfl (by decide) _ _ _ rfl (HO3.out.alloc _) ⟨w3.heap.size, 0, none⟩ 1 1 (encT (n, { r with aa := aa, ac := ac })) rfl rfl ?c1 ?c2 ?c3 ?c4 ?c5 ?_)
      case c1 =>
        intro j u hj
        match j with
        | 0 => simp [encT] at hj; subst hj; simp [go_sem, Addr.add]
        | 1 => simp [encT] at hj; subst hj; simp [go_sem, Addr.add]
        | 2 => simp [encT] at hj; subst hj; simp [go_sem, Addr.add]
        | 3 => simp [encT] at hj; subst hj; simp [go_sem, Addr.add]
        | 4 => simp [encT] at hj; subst hj; simp [go_sem, Addr.add]
        | 5 => simp [encT] at hj; subst hj; simp [go_sem, Addr.add]
        | 6 => simp [encT] at hj; subst hj; simp [go_sem, Addr.add]
        | 7 => simp [encT] at hj; subst hj; simp [go_sem, Addr.add]
        | 8 => simp [encT] at hj; subst hj; simp [go_sem, Addr.add]
        | j + 9 => simp [encT] at hj
      case c2 => intro u hu; simp [encT] at hu; rcases hu with rfl | rfl | rfl | rfl | rfl | rfl | rfl | rfl | rfl <;> rfl
      case c3 => unfold maxLen; omega
      case c4 => omega
      case c5 => have := HB3.out.size; simp; omega
      intro v' w4 hown' hgrow _
      have HO2 := Lib.hid hown'
      have HB2 : Hid (Below w.heap.size w w4) := ((HB3.out.alloc HB3.out.size _).grown hgrow (by have := HB3.out.size; simp; omega) (fun b hb => (HO3.out.lt b hb).1))
      have hty : ∀ (i : Nat) (cur : Array Value), w3.heap[i]? = some (Obj.cells cur 2 (0, 0)) → w4.heap[i]? = w3.heap[i]? := fun i cur hi => by
        have hlt := (Array.getElem?_eq_some_iff.1 hi).1
        rw [hgrow.block i (by simp; omega) (fun e => ?_), Lib.alloc_old w3 _ i hlt]
        obtain ⟨_, ⟨h0, _⟩ | ⟨g, cap, cur', h0, _, h2, _⟩⟩ := HO3.out
        · rw [h0] at e; cases e
        · rw [h0] at e
          injection e with e
          change i = g at e
          subst e
          rw [h2] at hi
          injection hi with hi
          injection hi with _ hi _
          exact absurd hi (by decide)
      have HS2 : Hid ((S ++ [(n, { r with aa := aa, ac := ac })]).map coreP = rowsT (l.take (k + 1)) ∧ ∀ p ∈ S ++ [(n, { r with aa := aa, ac := ac })], ArgsB w.heap.size w4 p.2) := by
        refine ⟨by rw [List.map_append, HC.out, HX.out]; rfl, fun q hq => ?_⟩
        rcases List.mem_append.1 hq with hq | hq
        · exact (HA3.out q hq).far hty
        · rw [List.mem_singleton] at hq
          subst hq
          exact HAR.out.far hty
      clear hown' hgrow hty HA3 HAR HC HO3 HB3
      go_wp2_with fail
      go_roundg (gk - 1)
      case rel =>
        have e1 : (S ++ [(n, { r with aa := aa, ac := ac })]).length = k + 1 := by rw [List.length_append, HKS.out]; rfl
        refine ⟨_, S ++ [(n, { r with aa := aa, ac := ac })], rfl, by rw [e1]; omega, ?_, ?_, ?_, HB2.out⟩
        · rw [e1]; go_num
        · rw [e1, List.flatMap_append]; simpa using HO2.out
        · rw [e1]; exact HS2
      case measure => omega
    · have hkl : k = l.length := by omega
      have HN := Lib.hid (show wr.ownsRow w.heap.size 42 9 u S.length (S.flatMap encT) ∧ S.map coreP = rowsT l by
        refine ⟨by rw [HKS.out]; exact HO.out, ?_⟩
        rw [HS.out.1, hkl, List.take_length])
      clear hkl
      go_wp2_with fail
      go_ret
      exact ⟨_, S, rfl, HN.out.1, HN.out.2, HS.out.2, HB.out⟩
end Go.Proofs.Ytpdnebimkfejoaa
