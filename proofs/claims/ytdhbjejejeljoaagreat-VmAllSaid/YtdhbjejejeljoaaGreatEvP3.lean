/- EvalParts, plainly. -/
import Derived.Test.YtdhbjejejeljoaaGreatEv14
import Derived.Test.YtdhbjejejeljoaaGreatPlain12
import Derived.Test.YtdhbjejejeljoaaGreatEv16
namespace Go.Proofs.YtdhbjejejeljoaaGreat
open Go.RowKit

theorem opS_kids {p : List Fnc} {D : Tk → Rs × List Dn} {t : Tk} {s : St} {o : Opr} :
    ((opS p D t s o).2.2.done = s.done ∧ (opS p D t s o).2.2.kids = s.kids) ∨ (o.k = 12 ∧ kidB t.p (s.kids + 1) = true ∧ s.kids < 16 ∧ (opS p D t s o).2.2.done = s.done ++ (D (kidT p t { s with pc := s.pc + 1 } o)).2 ∧ (opS p D t s o).2.2.kids = s.kids + 1) := by
  have hj : ∀ s1 : St, (joinS s1).2.done = s1.done ∧ (joinS s1).2.kids = s1.kids := by
    intro s1
    unfold joinS
    split <;> exact ⟨rfl, rfl⟩
  unfold opS
  simp only []
  by_cases k1 : o.k = 1
  · rw [if_pos k1]; exact .inl ⟨rfl, rfl⟩
  rw [if_neg k1]
  by_cases k10 : o.k = 10
  · rw [if_pos k10]; exact .inl ⟨rfl, rfl⟩
  rw [if_neg k10]
  by_cases k11 : o.k = 11
  · rw [if_pos k11]; left; simp only []; split <;> exact ⟨rfl, rfl⟩
  rw [if_neg k11]
  by_cases k12 : o.k = 12
  · rw [if_pos k12]
    unfold forkS
    by_cases h16 : 16 ≤ s.kids
    · simp only []; rw [if_pos h16]; exact .inl ⟨rfl, rfl⟩
    · simp only []; rw [if_neg h16]
      by_cases hb : kidB t.p (s.kids + 1) = false
      · rw [if_pos hb]; exact .inl ⟨rfl, rfl⟩
      · rw [if_neg hb]
        exact .inr ⟨k12, by simpa using hb, by omega, rfl, rfl⟩
  rw [if_neg k12]
  by_cases k13 : o.k = 13
  · rw [if_pos k13]; exact .inl (hj _)
  rw [if_neg k13]
  by_cases k14 : o.k = 14
  · rw [if_pos k14]; exact .inl (hj _)
  rw [if_neg k14]
  left
  cases calcP o.k (rg s.regs o.a) (rg s.regs o.b) <;> exact ⟨rfl, rfl⟩
/-- What was done by now is what the children did, in their order. -/
def KidsOk (p : List Fnc) (D : Tk → Rs × List Dn) (t : Tk) (n : Int) (L : List Dn) : Prop :=
  ∃ ks : List Tk, (ks.length : Int) = n ∧ L = (ks.map fun k => (D k).2).flatten ∧ ∀ (i : Nat) (h : i < ks.length), i < 16 ∧ kidB t.p (i + 1) = true ∧ ks[i].p = kidS t.p (i + 1) ∧ TkOk p ks[i] ∧ ks[i].fuel < t.fuel
theorem KidsOk.push {p : List Fnc} {D : Tk → Rs × List Dn} {t : Tk} {n : Int} {L : List Dn} {k : Tk} (h : KidsOk p D t n L) (hn : n < 16) (hb : kidB t.p (n + 1) = true) (hp : k.p = kidS t.p (n + 1)) (hk : TkOk p k) (hf : k.fuel < t.fuel) : KidsOk p D t (n + 1) (L ++ (D k).2) := by
  obtain ⟨ks, h1, h2, h3⟩ := h
  refine ⟨ks ++ [k], by simp; omega, by simp [h2], fun i hi => ?_⟩
  by_cases he : i < ks.length
  · rw [List.getElem_append_left he]; exact h3 i he
  · have he2 : i = ks.length := by simp at hi; omega
    subst he2
    rw [List.getElem_append_right (Nat.le_refl _)]
    simp only [Nat.sub_self, List.getElem_singleton]
    rw [h1]
    exact ⟨by omega, hb, hp, hk, hf⟩
theorem run_kids {p : List Fnc} {D : Tk → Rs × List Dn} {t : Tk} (hp : WfP p) (ht : TkOk p t) (hD : DOk p D t.fuel) : ∀ (n : Nat) (s : St), InvS p t s → AtOk p t s → s.left < n → KidsOk p D t s.kids s.done → KidsOk p D t (runP p D t n s).1.kids (runP p D t n s).1.done
  | 0, s, hi, _, h, hk => by have := hi.l0; omega
  | n + 1, s, hi, ha, h, hk => by
    have key : ∀ s' : St, (s.left ≠ 0 → s' = (opS p D t { s with left := s.left - 1 } (opAt p t s)).2.2) → s.left ≠ 0 → KidsOk p D t s'.kids s'.done := by
      intro s' he h0
      rw [he h0]
      have ho := opAt_ok hp ht hi ha
      obtain ⟨h1, h2⟩ := hi.pay h0
      rcases opS_kids (p := p) (D := D) (t := t) (s := { s with left := s.left - 1 }) (o := opAt p t s) with ⟨e1, e2⟩ | ⟨k12, hb, h16, e1, e2⟩
      · rw [e1, e2]; exact hk
      · rw [e1, e2]
        have h63 : s.pc ≤ 63 := by have := (hp.fn ht.f0 ht.f1).o1; unfold AtOk at ha; omega
        have hpc := hi.pc0
        have hi1 : InvS p t { s with left := s.left - 1, pc := s.pc + 1 } := ⟨h1.rl, by simp only []; omega, by simp only []; omega, h1.l0, h1.k0, h1.k1, h1.il, h1.ik, h1.ir, h1.cnt⟩
        obtain ⟨g1, g2⟩ := kid_ok hp ht hi1 (by simp only []; omega) ho k12 hb
        exact hk.push h16 hb rfl g1 g2
    unfold runP
    cases hs : stepP p D t s with
    | stop s' r =>
      simp only []
      unfold stepP at hs
      split at hs
      · injection hs with hs _; subst hs; exact hk
      · rename_i h0
        refine key s' (fun _ => ?_) h0
        simp only [] at hs
        split at hs
        · injection hs with hs _; exact hs.symm
        split at hs
        · injection hs with hs _; exact hs.symm
        · cases hs
    | go s' =>
      obtain ⟨h1, h2, h3⟩ := step_go hp ht hD hi ha hs
      refine run_kids hp ht hD n s' h1 h2 (by omega) ?_
      unfold stepP at hs
      split at hs
      · cases hs
      · rename_i h0
        refine key s' (fun _ => ?_) h0
        simp only [] at hs
        split at hs
        · cases hs
        split at hs
        · cases hs
        · injection hs with hs; exact hs.symm
theorem doP_kids {p : List Fnc} (hp : WfP p) {n : Nat} {t : Tk} (ht : TkOk p t) (hf : t.fuel < (n + 1 : Nat)) :
    ∃ (k : Int) (L : List Dn), (doP p (n + 1) t).2 = ⟨t, (doP p (n + 1) t).1, k⟩ :: L ∧ KidsOk p (doP p n) t k L := by
  have h0 := ht.u0
  have ih : DOk p (doP p n) t.fuel := fun k' h1 h2 => doP_ok hp n k' h1 (by omega)
  exact ⟨_, _, rfl, run_kids hp ht ih (t.fuel.toNat + 1) (beginS p t) (beginS_inv hp ht) (begin_at hp ht) (by unfold beginS; simp only []; omega) ⟨[], rfl, rfl, fun i h => by simp at h⟩⟩
theorem doP_tk {p : List Fnc} (hp : WfP p) : ∀ (n : Nat) (t : Tk), TkOk p t → t.fuel < n → ∀ d ∈ (doP p n t).2, TkOk p d.t
  | 0, t, ht, hf => by have := ht.u0; omega
  | n + 1, t, ht, hf => by
    obtain ⟨k, L, e, ks, _, hL, hk⟩ := doP_kids hp ht hf
    rw [e]
    intro d hd
    rcases List.mem_cons.1 hd with rfl | hd
    · exact ht
    · rw [hL] at hd
      obtain ⟨l, hl, hd⟩ := List.mem_flatten.1 hd
      obtain ⟨c, hc, rfl⟩ := List.mem_map.1 hl
      obtain ⟨i, hi, rfl⟩ := List.getElem_of_mem hc
      obtain ⟨_, _, _, h4, h5⟩ := hk i hi
      exact doP_tk hp n _ h4 (by omega) d hd
theorem TkOk.len {p : List Fnc} (hp : WfP p) {t : Tk} (h : TkOk p t) : t.args.length ≤ 16 := by
  have h1 := h.args
  have h2 := (hp.fn h.f0 h.f1).r1
  have h3 := (hp.fn h.f0 h.f1).r2
  omega
end Go.Proofs.YtdhbjejejeljoaaGreat
namespace Go.Proofs.YtdhbjejejeljoaaGreat
open Go.RowKit

/-- A path's numbers. -/
def pl (s : ByteArray) : List UInt8 := s.data.toList
theorem pl_len (s : ByteArray) : (pl s).length = s.size := by simp [pl]
theorem pl_kid {a : ByteArray} {n : Int} (h : kidB a n = true) : pl (kidS a n) = pl a ++ [UInt8.ofNat n.toNat] := by
  unfold pl kidS; rw [if_pos h]; simp
theorem kidB_parts {a : ByteArray} {n : Int} (h : kidB a n = true) : mayS a = true ∧ 1 ≤ n ∧ n ≤ 16 ∧ a.size < 12 := by
  unfold kidB at h; simp at h
  have := mayS_le h.1.1.1
  refine ⟨h.1.1.1, h.1.1.2, h.1.2, ?_⟩
  have := h.2; omega
theorem kidB_may {a : ByteArray} {n : Int} (h : kidB a n = true) : mayS (kidS a n) = true := by
  obtain ⟨h1, h2, h3, h4⟩ := kidB_parts h
  unfold mayS at *
  have e := pl_kid h
  unfold pl at e
  rw [e]
  unfold mayL at *
  simp only [Bool.and_eq_true, decide_eq_true_eq, Bool.not_eq_true', List.any_eq_false, List.length_append, List.length_cons, List.length_nil] at *
  have hl : a.data.toList.length = a.size := by simp
  refine ⟨by omega, fun x hx => ?_⟩
  rw [List.mem_append] at hx
  rcases hx with hx | hx
  · exact h1.2 x hx
  · rw [List.mem_singleton] at hx; subst hx
    unfold odd8 oddB
    have e2 : (((UInt8.ofNat n.toNat).toNat : Nat) : Int) = n := by simp; omega
    rw [e2]; simp; omega
theorem cmpL_pre : ∀ (a b : List UInt8), b ≠ [] → cmpL a (a ++ b) = -1
  | [], [], h => absurd rfl h
  | [], _ :: _, _ => by simp [cmpL]
  | a :: x, b, h => by simp [cmpL, cmpL_pre x b h, u8_irrefl]
theorem cmpL_app : ∀ (a x y : List UInt8), cmpL (a ++ x) (a ++ y) = cmpL x y
  | [], _, _ => rfl
  | a :: l, x, y => by simp [cmpL, cmpL_app l x y, u8_irrefl]
theorem cmpL_fork {P x y : List UInt8} {a b : UInt8} (h : a < b) : cmpL (P ++ [a] ++ x) (P ++ [b] ++ y) = -1 := by
  rw [List.append_assoc, List.append_assoc, cmpL_app]
  simp [cmpL, h]
theorem byte_lt {i j : Nat} (h : i < j) (hj : j < 17) : UInt8.ofNat i < UInt8.ofNat j := by
  rw [UInt8.lt_iff_toNat_lt]
  simp; omega
/-- A tree below a path. -/
def Below13 (t : Tk) (L : List Dn) : Prop := ∀ d ∈ L, pl t.p <+: pl d.t.p
def Ord13 (L : List Dn) : Prop := L.Pairwise fun a b => cmpL (pl a.t.p) (pl b.t.p) = -1
theorem flat_split {α : Type} : ∀ (Cs : List (List α)) (A B : List α) (d : α), Cs.flatten = A ++ d :: B → ∃ (i : Nat) (hi : i < Cs.length) (A' B' : List α), Cs[i] = A' ++ d :: B' ∧ B = B' ++ (Cs.drop (i + 1)).flatten
  | [], A, B, d, h => by simp at h
  | c :: Cs, A, B, d, h => by
    rw [List.flatten_cons] at h
    by_cases hl : A.length < c.length
    · have h1 : A ++ d :: B = c ++ Cs.flatten := h.symm
      have h2 : c = A ++ (c.drop A.length) := by
        have := congrArg (List.take A.length) h1
        rw [List.take_left', List.take_append_of_le_length (by omega)] at this
        · conv => lhs; rw [← List.take_append_drop A.length c]
          rw [← this]
        · rfl
      obtain ⟨x, B', hx⟩ : ∃ x B', c.drop A.length = x :: B' := by
        cases hc : c.drop A.length with
        | nil => have := congrArg List.length hc; simp at this; omega
        | cons x B' => exact ⟨x, B', rfl⟩
      rw [hx] at h2
      rw [h2, List.append_assoc, List.cons_append] at h1
      have h3 := List.append_cancel_left h1
      injection h3 with h4 h5
      subst h4
      exact ⟨0, by simp, A, B', h2, by simpa using h5⟩
    · have h1 : c ++ Cs.flatten = A ++ d :: B := h
      have h2 : A = c ++ A.drop c.length := by
        have := congrArg (List.take c.length) h1
        rw [List.take_left', List.take_append_of_le_length (by omega)] at this
        · conv => lhs; rw [← List.take_append_drop c.length A]
          rw [← this]
        · rfl
      rw [h2, List.append_assoc] at h1
      have h3 := List.append_cancel_left h1
      obtain ⟨i, hi, A', B', h4, h5⟩ := flat_split Cs _ B d h3
      exact ⟨i + 1, by simp; omega, A', B', by simpa using h4, by simpa using h5⟩
theorem tree_below {p : List Fnc} (hp : WfP p) : ∀ (n : Nat) (t : Tk), TkOk p t → t.fuel < n → Below13 t (doP p n t).2
  | 0, t, ht, hf => by have := ht.u0; omega
  | n + 1, t, ht, hf => by
    obtain ⟨k, L, e, ks, _, hL, hk⟩ := doP_kids hp ht hf
    rw [e]
    intro d hd
    rcases List.mem_cons.1 hd with rfl | hd
    · exact List.prefix_refl _
    · rw [hL] at hd
      obtain ⟨l, hl, hd⟩ := List.mem_flatten.1 hd
      obtain ⟨c, hc, rfl⟩ := List.mem_map.1 hl
      obtain ⟨i, hi, rfl⟩ := List.getElem_of_mem hc
      obtain ⟨_, h2, h3, h4, h5⟩ := hk i hi
      have h6 := tree_below hp n _ h4 (by omega) d hd
      rw [h3, pl_kid h2] at h6
      exact List.IsPrefix.trans (List.prefix_append _ _) h6
theorem kids_prefix {p : List Fnc} (hp : WfP p) {n : Nat} {t : Tk} (hf : t.fuel < (n + 1 : Nat)) {ks : List Tk} (hk : ∀ (i : Nat) (h : i < ks.length), i < 16 ∧ kidB t.p (i + 1) = true ∧ ks[i].p = kidS t.p (i + 1) ∧ TkOk p ks[i] ∧ ks[i].fuel < t.fuel) {i : Nat} (hi : i < ks.length) {d : Dn} (hd : d ∈ (doP p n ks[i]).2) :
    ∃ x, pl d.t.p = pl t.p ++ [UInt8.ofNat (i + 1)] ++ x := by
  obtain ⟨_, h2, h3, h4, h5⟩ := hk i hi
  obtain ⟨x, hx⟩ := tree_below hp n _ h4 (by omega) d hd
  rw [h3, pl_kid h2] at hx
  exact ⟨x, by rw [← hx]; rfl⟩
theorem tree_ord {p : List Fnc} (hp : WfP p) : ∀ (n : Nat) (t : Tk), TkOk p t → t.fuel < n → Ord13 (doP p n t).2
  | 0, t, ht, hf => by have := ht.u0; omega
  | n + 1, t, ht, hf => by
    obtain ⟨k, L, e, ks, _, hL, hk⟩ := doP_kids hp ht hf
    rw [e]
    unfold Ord13
    rw [List.pairwise_cons]
    have hmem : ∀ d ∈ L, ∃ (i : Nat) (hi : i < ks.length), d ∈ (doP p n ks[i]).2 := fun d hd => by
      rw [hL] at hd
      obtain ⟨l, hl, hd⟩ := List.mem_flatten.1 hd
      obtain ⟨c, hc, rfl⟩ := List.mem_map.1 hl
      obtain ⟨i, hi, rfl⟩ := List.getElem_of_mem hc
      exact ⟨i, hi, hd⟩
    refine ⟨fun d hd => ?_, ?_⟩
    · obtain ⟨i, hi, hd⟩ := hmem d hd
      obtain ⟨x, hx⟩ := kids_prefix hp hf hk hi hd
      rw [hx, List.append_assoc]
      exact cmpL_pre _ _ (by simp)
    · rw [hL, List.pairwise_flatten]
      refine ⟨fun l hl => ?_, ?_⟩
      · obtain ⟨c, hc, rfl⟩ := List.mem_map.1 hl
        obtain ⟨i, hi, rfl⟩ := List.getElem_of_mem hc
        obtain ⟨_, h2, h3, h4, h5⟩ := hk i hi
        exact tree_ord hp n _ h4 (by omega)
      · rw [List.pairwise_iff_getElem]
        intro i j hi hj hij a ha b hb
        rw [List.getElem_map] at ha hb
        have hi' : i < ks.length := by simpa using hi
        have hj' : j < ks.length := by simpa using hj
        obtain ⟨x, hx⟩ := kids_prefix hp hf hk hi' ha
        obtain ⟨y, hy⟩ := kids_prefix hp hf hk hj' hb
        rw [hx, hy]
        exact cmpL_fork (byte_lt (by omega) (by have := (hk j hj').1; omega))
/-- Of a tree from a task on: its own tree, then what is not under it. -/
theorem tree_sub {p : List Fnc} (hp : WfP p) : ∀ (n : Nat) (t : Tk), TkOk p t → t.fuel < n → ∀ (A B : List Dn) (d : Dn), (doP p n t).2 = A ++ d :: B → ∃ (m : Nat) (R : List Dn), TkOk p d.t ∧ d.t.fuel < m ∧ d :: B = (doP p m d.t).2 ++ R ∧ ∀ e ∈ R, ¬ pl d.t.p <+: pl e.t.p
  | 0, t, ht, hf => by have := ht.u0; omega
  | n + 1, t, ht, hf => by
    intro A B d h
    obtain ⟨k, L, e, ks, hkl, hL, hk⟩ := doP_kids hp ht hf
    cases A with
    | nil =>
      rw [List.nil_append] at h
      have hd : d.t = t := by
        rw [e] at h
        injection h with h1 _
        rw [← h1]
      exact ⟨n + 1, [], by rw [hd]; exact ht, by rw [hd]; exact hf, by rw [hd, h]; simp, by simp⟩
    | cons a A =>
      rw [e, List.cons_append] at h
      injection h with _ h
      rw [hL] at h
      obtain ⟨i, hi, A', B', h4, h5⟩ := flat_split _ A B d h
      have hi' : i < ks.length := by simpa using hi
      rw [List.getElem_map] at h4
      obtain ⟨h6, h7, h8, h9, h10⟩ := hk i hi'
      obtain ⟨m, R, g1, g2, g3, g4⟩ := tree_sub hp n _ h9 (by omega) A' B' d h4
      refine ⟨m, R ++ ((ks.map fun k => (doP p n k).2).drop (i + 1)).flatten, g1, g2, by rw [h5, ← List.append_assoc, ← g3]; rfl, fun x hx => ?_⟩
      rcases List.mem_append.1 hx with hx | hx
      · exact g4 x hx
      · obtain ⟨l, hl, hx⟩ := List.mem_flatten.1 hx
        obtain ⟨j, hj, rfl⟩ := List.getElem_of_mem hl
        rw [List.getElem_drop, List.getElem_map] at hx
        have hj' : i + 1 + j < ks.length := by simp at hj; omega
        obtain ⟨y, hy⟩ := kids_prefix hp hf hk hj' hx
        have hdm : d ∈ (doP p n ks[i]).2 := by rw [h4]; simp
        obtain ⟨z, hz⟩ := kids_prefix hp hf hk hi' hdm
        rw [hy, hz]
        intro hpre
        have h11 : pl t.p ++ [UInt8.ofNat (i + 1)] <+: pl t.p ++ [UInt8.ofNat (i + 1 + j + 1)] ++ y := List.IsPrefix.trans (List.prefix_append _ _) hpre
        rw [List.append_assoc, List.prefix_append_right_inj] at h11
        simp only [List.cons_append, List.nil_append, List.cons_prefix_cons] at h11
        have h12 := congrArg UInt8.toNat h11.1
        have h13 := (hk _ hj').1
        simp at h12
        omega
end Go.Proofs.YtdhbjejejeljoaaGreat
namespace Go.Proofs.YtdhbjejejeljoaaGreat
open Go.RowKit

/-- Fuel enough: the depth makes no difference. -/
theorem opS_congr {p : List Fnc} {D D' : Tk → Rs × List Dn} {t : Tk} {s : St} {o : Opr} (h : o.k = 12 → kidB t.p (s.kids + 1) = true → D (kidT p t { s with pc := s.pc + 1 } o) = D' (kidT p t { s with pc := s.pc + 1 } o)) : opS p D t s o = opS p D' t s o := by
  unfold opS
  simp only []
  by_cases k1 : o.k = 1
  · rw [if_pos k1, if_pos k1]
  rw [if_neg k1, if_neg k1]
  by_cases k10 : o.k = 10
  · rw [if_pos k10, if_pos k10]
  rw [if_neg k10, if_neg k10]
  by_cases k11 : o.k = 11
  · rw [if_pos k11, if_pos k11]
  rw [if_neg k11, if_neg k11]
  by_cases k12 : o.k = 12
  · rw [if_pos k12, if_pos k12]
    unfold forkS
    simp only []
    by_cases hb : kidB t.p (s.kids + 1) = true
    · rw [h k12 hb]
    · have hb' : kidB t.p (s.kids + 1) = false := by simpa using hb
      rw [if_pos hb', if_pos hb']
  rw [if_neg k12, if_neg k12]
theorem runP_congr {p : List Fnc} {D D' : Tk → Rs × List Dn} {t : Tk} (hp : WfP p) (ht : TkOk p t) (hD : DOk p D t.fuel) (h : ∀ k, TkOk p k → k.fuel < t.fuel → D k = D' k) : ∀ (n : Nat) (s : St), InvS p t s → AtOk p t s → runP p D t n s = runP p D' t n s
  | 0, _, _, _ => rfl
  | n + 1, s, hi, ha => by
    have he : stepP p D t s = stepP p D' t s := by
      unfold stepP
      by_cases h0 : s.left = 0
      · rw [if_pos h0, if_pos h0]
      rw [if_neg h0, if_neg h0]
      have ho := opAt_ok hp ht hi ha
      obtain ⟨h1, h2⟩ := hi.pay h0
      have h63 : s.pc ≤ 63 := by have := (hp.fn ht.f0 ht.f1).o1; unfold AtOk at ha; omega
      have hpc := hi.pc0
      have hi1 : InvS p t { s with left := s.left - 1, pc := s.pc + 1 } := ⟨h1.rl, by simp only []; omega, by simp only []; omega, h1.l0, h1.k0, h1.k1, h1.il, h1.ik, h1.ir, h1.cnt⟩
      rw [opS_congr (D := D) (D' := D') (fun k12 hb => by
        obtain ⟨g1, g2⟩ := kid_ok hp ht hi1 (by simp only []; omega) ho k12 hb
        exact h _ g1 g2)]
    unfold runP
    rw [← he]
    cases hs : stepP p D t s with
    | stop s' r => rfl
    | go s' =>
      obtain ⟨h1, h2, _⟩ := step_go hp ht hD hi ha hs
      exact runP_congr hp ht hD h n s' h1 h2
theorem doP_deep {p : List Fnc} (hp : WfP p) : ∀ (n m : Nat) (t : Tk), TkOk p t → t.fuel < n → t.fuel < m → doP p n t = doP p m t
  | 0, _, t, ht, h, _ => by have := ht.u0; omega
  | _ + 1, 0, t, ht, _, h => by have := ht.u0; omega
  | n + 1, m + 1, t, ht, hn, hm => by
    have h0 := ht.u0
    have hD : DOk p (doP p n) t.fuel := fun k' h1 h2 => doP_ok hp n k' h1 (by omega)
    have h := runP_congr hp ht hD (D' := doP p m) (fun k hk hf => doP_deep hp n m k hk (by omega) (by omega)) (t.fuel.toNat + 1) (beginS p t) (beginS_inv hp ht) (begin_at hp ht)
    unfold doP
    rw [h]

/-- Two lists, pair by pair. -/
inductive All2 {α β : Type} (R : α → β → Prop) : List α → List β → Prop
  | nil : All2 R [] []
  | cons {a : α} {b : β} {l : List α} {m : List β} : R a b → All2 R l m → All2 R (a :: l) (b :: m)
/-- An op of the program that begins with another function. -/
def shO (o : Opr) : Opr := if o.k = 12 then { o with n := o.n + 1 } else o
structure SimF (f g : Fnc) : Prop where
  args : g.args = f.args
  regs : g.regs = f.regs
  ops : g.ops = f.ops.map shO
/-- It begins with a function of another one, whose functions follow. -/
structure Bg (p q : List Fnc) (fn : Int) : Prop where
  len : q.length = p.length + 1
  fn0 : 0 ≤ fn
  fn1 : fn < p.length
  head : SimF (fnAt p fn) (fnAt q 0)
  rest : ∀ i : Int, 0 ≤ i → i < p.length → SimF (fnAt p i) (fnAt q (i + 1))
theorem shO_k (o : Opr) : (shO o).k = o.k ∧ (shO o).d = o.d ∧ (shO o).a = o.a ∧ (shO o).b = o.b := by
  unfold shO; split <;> exact ⟨rfl, rfl, rfl, rfl⟩
theorem shO_n {o : Opr} (h : o.k = 12) : (shO o).n = o.n + 1 := by unfold shO; rw [if_pos h]
theorem shO_id {o : Opr} (h : o.k ≠ 12) : shO o = o := by unfold shO; rw [if_neg h]
structure SimT (pre : List UInt8) (fn : Int) (t t' : Tk) : Prop where
  path : pl t.p = pre ++ pl t'.p
  args : t'.args = t.args
  fuel : t'.fuel = t.fuel
  fns : t'.fn = t.fn + 1 ∨ (t'.fn = 0 ∧ t.fn = fn)
structure SimD (pre : List UInt8) (d d' : Dn) : Prop where
  path : pl d.t.p = pre ++ pl d'.t.p
  fuel : d'.t.fuel = d.t.fuel
  r : d'.r = d.r
  kids : d'.kids = d.kids
theorem Bg.fnc {p q : List Fnc} {fn : Int} {pre : List UInt8} {t t' : Tk} (h : Bg p q fn) (ht : TkOk p t) (hs : SimT pre fn t t') : SimF (fnAt p t.fn) (fnAt q t'.fn) := by
  rcases hs.fns with e | ⟨e1, e2⟩
  · rw [e]; exact h.rest t.fn ht.f0 ht.f1
  · rw [e1, e2]; exact h.head
theorem mayS_of {s : ByteArray} {l : List UInt8} {s' : ByteArray} (h : mayS s = true) (he : pl s = l ++ pl s') : mayS s' = true := by
  unfold mayS at *
  unfold pl at he
  rw [he] at h
  unfold mayL at *
  simp only [Bool.and_eq_true, decide_eq_true_eq, Bool.not_eq_true', List.any_eq_false, List.length_append] at *
  exact ⟨by omega, fun x hx => h.2 x (List.mem_append_right _ hx)⟩
theorem kidB_mk {s : ByteArray} {n : Int} (h : mayS s = true) (h1 : 1 ≤ n) (h2 : n ≤ 16) (h3 : s.size < 12) : kidB s n = true := by
  unfold kidB
  simp only [Bool.and_eq_true, decide_eq_true_eq, Bool.not_eq_true', decide_eq_false_iff_not]
  exact ⟨⟨⟨h, h1⟩, h2⟩, by omega⟩
/-- States that differ in what was done alone. -/
def SimS (pre : List UInt8) (s s' : St) : Prop := s' = { s with done := s'.done } ∧ All2 (SimD pre) s.done s'.done
theorem SimS.pay {pre : List UInt8} {s s' : St} (h : SimS pre s s') : SimS pre { s with left := s.left - 1 } { s' with left := s'.left - 1 } := by
  obtain ⟨h1, h2⟩ := h
  obtain ⟨X, hX⟩ : ∃ X, s'.done = X := ⟨_, rfl⟩
  rw [hX] at h1 h2
  subst h1
  exact ⟨rfl, h2⟩
theorem joinS_sim {pre : List UInt8} {s s' : St} (h : SimS pre s s') : (joinS s').1 = (joinS s).1 ∧ SimS pre (joinS s).2 (joinS s').2 := by
  obtain ⟨h1, h2⟩ := h
  obtain ⟨X, hX⟩ : ∃ X, s'.done = X := ⟨_, rfl⟩
  rw [hX] at h1 h2
  subst h1
  unfold joinS
  by_cases hz : firstE (s.waits.map (·.e)) ≠ 0
  · simp only []
    rw [if_pos hz, if_pos hz]
    exact ⟨rfl, rfl, h2⟩
  · simp only []
    rw [if_neg hz, if_neg hz]
    exact ⟨rfl, rfl, h2⟩
/-- An op, plain or a join, in both. -/
theorem opS_sim {p q : List Fnc} {D D' : Tk → Rs × List Dn} {t t' : Tk} {pre : List UInt8} {s s' : St} {o : Opr} (h : SimS pre s s') (hk : o.k ≠ 12) : (opS q D' t' s' o).1 = (opS p D t s o).1 ∧ (opS q D' t' s' o).2.1 = (opS p D t s o).2.1 ∧ SimS pre (opS p D t s o).2.2 (opS q D' t' s' o).2.2 := by
  obtain ⟨h1, h2⟩ := h
  obtain ⟨X, hX⟩ : ∃ X, s'.done = X := ⟨_, rfl⟩
  rw [hX] at h1 h2
  subst h1
  have hj := joinS_sim (s := { s with pc := s.pc + 1 }) (s' := { s with pc := s.pc + 1, done := X }) (pre := pre) ⟨rfl, h2⟩
  unfold opS
  simp only []
  by_cases k1 : o.k = 1
  · rw [if_pos k1, if_pos k1]; exact ⟨rfl, rfl, rfl, h2⟩
  rw [if_neg k1, if_neg k1]
  by_cases k10 : o.k = 10
  · rw [if_pos k10, if_pos k10]; exact ⟨rfl, rfl, rfl, h2⟩
  rw [if_neg k10, if_neg k10]
  by_cases k11 : o.k = 11
  · rw [if_pos k11, if_pos k11]
    by_cases hr : rg s.regs o.a = 0
    · simp only []; rw [if_pos hr, if_pos hr]; exact ⟨by trivial, by trivial, rfl, h2⟩
    · simp only []; rw [if_neg hr, if_neg hr]; exact ⟨by trivial, by trivial, rfl, h2⟩
  rw [if_neg k11, if_neg k11, if_neg hk, if_neg hk]
  by_cases k13 : o.k = 13
  · rw [if_pos k13, if_pos k13]; exact ⟨rfl, hj.1, hj.2⟩
  rw [if_neg k13, if_neg k13]
  by_cases k14 : o.k = 14
  · rw [if_pos k14, if_pos k14]; exact ⟨rfl, hj.1, hj.2⟩
  rw [if_neg k14, if_neg k14]
  cases calcP o.k (rg s.regs o.a) (rg s.regs o.b) with
  | none => exact ⟨rfl, rfl, rfl, h2⟩
  | some x => exact ⟨rfl, rfl, rfl, h2⟩
theorem run_grow {p : List Fnc} {D : Tk → Rs × List Dn} {t : Tk} : ∀ (n : Nat) (s : St), ∃ X, (runP p D t n s).1.done = s.done ++ X
  | 0, s => ⟨[], by unfold runP; simp⟩
  | n + 1, s => by
    have hop : ∀ s1 : St, ∃ X, (opS p D t s1 (opAt p t s)).2.2.done = s1.done ++ X := fun s1 => by
      rcases opS_kids (p := p) (D := D) (t := t) (s := s1) (o := opAt p t s) with ⟨e, _⟩ | ⟨_, _, _, e, _⟩
      · exact ⟨[], by rw [e]; simp⟩
      · exact ⟨_, e⟩
    obtain ⟨X, hX⟩ := hop { s with left := s.left - 1 }
    unfold runP
    cases hs : stepP p D t s with
    | stop s' r =>
      simp only []
      unfold stepP at hs
      split at hs
      · injection hs with hs _; subst hs; exact ⟨[], by simp⟩
      · simp only [] at hs
        split at hs
        · injection hs with hs _; subst hs; exact ⟨X, hX⟩
        split at hs
        · injection hs with hs _; subst hs; exact ⟨X, hX⟩
        · cases hs
    | go s' =>
      simp only []
      obtain ⟨Y, hY⟩ := run_grow (p := p) (D := D) (t := t) n s'
      unfold stepP at hs
      split at hs
      · cases hs
      · simp only [] at hs
        split at hs
        · cases hs
        split at hs
        · cases hs
        · injection hs with hs; subst hs; exact ⟨X ++ Y, by rw [hY, hX, List.append_assoc]⟩
theorem forall2_app {α β : Type} {R : α → β → Prop} : ∀ {a : List α} {b : List β} {c : List α} {d : List β}, All2 R a b → All2 R c d → All2 R (a ++ c) (b ++ d)
  | [], [], _, _, _, h => h
  | _ :: _, _ :: _, _, _, .cons h1 h2, h => .cons h1 (forall2_app h2 h)
theorem opAt_sim {p q : List Fnc} {fn : Int} {pre : List UInt8} {t t' : Tk} {s s' : St} (hb : Bg p q fn) (hp : WfP p) (ht : TkOk p t) (hst : SimT pre fn t t') (hi : InvS p t s) (ha : AtOk p t s) (h : SimS pre s s') : opAt q t' s' = shO (opAt p t s) := by
  have hf := hb.fnc ht hst
  have hpc : s'.pc = s.pc := by rw [h.1]
  have h0 := hi.pc0
  unfold AtOk at ha
  unfold opAt
  rw [hpc, hf.ops, List.getD_eq_getElem?_getD, List.getD_eq_getElem?_getD, List.getElem?_map, List.getElem?_eq_getElem (by omega)]
  rfl
theorem run_sim {p q : List Fnc} {fn : Int} {pre : List UInt8} {D D' : Tk → Rs × List Dn} {t t' : Tk} (hb : Bg p q fn) (hp : WfP p) (ht : TkOk p t) (hst : SimT pre fn t t') (hm : mayS t.p = true) (hz : t.p.size < 12) (hD : DOk p D t.fuel)
    (hsim : ∀ k k', TkOk p k → k.fuel < t.fuel → mayS k.p = true → SimT pre fn k k' → (∀ d ∈ (D k).2, d.t.p.size < 12) → (D' k').1 = (D k).1 ∧ All2 (SimD pre) (D k).2 (D' k').2) :
    ∀ (n : Nat) (s s' : St), InvS p t s → AtOk p t s → s.left < n → SimS pre s s' → (∀ d ∈ (runP p D t n s).1.done, d.t.p.size < 12) → (runP q D' t' n s').2 = (runP p D t n s).2 ∧ SimS pre (runP p D t n s).1 (runP q D' t' n s').1
  | 0, s, s', hi, _, h, _, _ => by have := hi.l0; omega
  | n + 1, s, s', hi, ha, h, hs, hall => by
    have ho := opAt_ok hp ht hi ha
    have hoq := opAt_sim hb hp ht hst hi ha hs
    have hl : s'.left = s.left := by rw [hs.1]
    have hm' : mayS t'.p = true := mayS_of hm hst.path
    have hz' : t'.p.size < 12 := by
      have h1 := congrArg List.length hst.path
      rw [List.length_append, pl_len, pl_len] at h1
      omega
    by_cases h0 : s.left = 0
    · have e1 : ∀ (P : List Fnc) (DD : Tk → Rs × List Dn) (T : Tk) (S : St), S.left = 0 → stepP P DD T S = .stop S ⟨0, 130⟩ := fun P DD T S h => by unfold stepP; rw [if_pos h]
      unfold runP
      rw [e1 p D t s h0, e1 q D' t' s' (by rw [hl]; exact h0)]
      exact ⟨rfl, hs⟩
    obtain ⟨h1, h2⟩ := hi.pay h0
    have h63 : s.pc ≤ 63 := by have := (hp.fn ht.f0 ht.f1).o1; unfold AtOk at ha; omega
    have hpc := hi.pc0
    have hi1 : InvS p t { s with left := s.left - 1, pc := s.pc + 1 } := ⟨h1.rl, by simp only []; omega, by simp only []; omega, h1.l0, h1.k0, h1.k1, h1.il, h1.ik, h1.ir, h1.cnt⟩
    have hs1 : SimS pre { s with left := s.left - 1 } { s' with left := s'.left - 1 } := SimS.pay hs
    -- what the op leaves in both
    have key : (∀ d ∈ (opS p D t { s with left := s.left - 1 } (opAt p t s)).2.2.done, d.t.p.size < 12) → (opS q D' t' { s' with left := s'.left - 1 } (opAt q t' s')).1 = (opS p D t { s with left := s.left - 1 } (opAt p t s)).1 ∧ (opS q D' t' { s' with left := s'.left - 1 } (opAt q t' s')).2.1 = (opS p D t { s with left := s.left - 1 } (opAt p t s)).2.1 ∧ SimS pre (opS p D t { s with left := s.left - 1 } (opAt p t s)).2.2 (opS q D' t' { s' with left := s'.left - 1 } (opAt q t' s')).2.2 := by
      intro hall1
      rw [hoq]
      by_cases k12 : (opAt p t s).k = 12
      · generalize opAt p t s = o at *
        have k12' : (shO o).k = 12 := by rw [(shO_k o).1]; exact k12
        rw [opS_fork k12] at hall1 ⊢
        rw [opS_fork k12']
        obtain ⟨hs2, hs3⟩ := hs
        obtain ⟨X, hX⟩ : ∃ X, s'.done = X := ⟨_, rfl⟩
        rw [hX] at hs2 hs3
        subst hs2
        simp only [] at hall1 ⊢
        unfold forkS at hall1 ⊢
        simp only [] at hall1 ⊢
        by_cases h16 : 16 ≤ s.kids
        · rw [if_pos h16, if_pos h16]; exact ⟨trivial, rfl, rfl, hs3⟩
        have hk0 := hi.k0
        have hb1 : kidB t.p (s.kids + 1) = true := kidB_mk hm (by omega) (by omega) hz
        have hb2 : kidB t'.p (s.kids + 1) = true := kidB_mk hm' (by omega) (by omega) hz'
        have nb1 : ¬ kidB t.p (s.kids + 1) = false := by rw [hb1]; decide
        have nb2 : ¬ kidB t'.p (s.kids + 1) = false := by rw [hb2]; decide
        rw [if_neg h16, if_neg nb1] at hall1
        rw [if_neg h16, if_neg h16, if_neg nb1, if_neg nb2]
        obtain ⟨g1, g2⟩ := kid_ok hp ht hi1 (by simp only []; omega) ho k12 hb1
        obtain ⟨n0, n1, _⟩ := ho.fk k12
        have hsk : SimT pre fn (kidT p t { s with left := s.left - 1, pc := s.pc + 1 } o) (kidT q t' { s with left := s.left - 1, pc := s.pc + 1, done := X } (shO o)) := by
          refine ⟨?_, ?_, ?_, .inl ?_⟩
          · show pl (kidS t.p (s.kids + 1)) = pre ++ pl (kidS t'.p (s.kids + 1))
            rw [pl_kid hb1, pl_kid hb2, hst.path, List.append_assoc]
          · show (s.regs.drop (shO o).a.toNat).take (fnAt q (shO o).n).args.toNat = (s.regs.drop o.a.toNat).take (fnAt p o.n).args.toNat
            rw [(shO_k o).2.2.1, shO_n k12, (hb.rest o.n n0 n1).args]
          · rfl
          · show (shO o).n = o.n + 1
            exact shO_n k12
        have hmk : mayS (kidT p t { s with left := s.left - 1, pc := s.pc + 1 } o).p = true := kidB_may hb1
        obtain ⟨r1, r2⟩ := hsim _ _ g1 g2 hmk hsk (fun d hd => hall1 d (List.mem_append_right _ hd))
        refine ⟨trivial, rfl, ?_, forall2_app hs3 r2⟩
        simp only []
        rw [r1, (shO_k o).2.1]
      · rw [shO_id k12]
        exact opS_sim hs1 k12
    obtain ⟨X, hX⟩ := run_grow (p := p) (D := D) (t := t) (n + 1) s
    unfold runP at hall ⊢
    have hsp : ∀ (P : List Fnc) (DD : Tk → Rs × List Dn) (T : Tk) (S : St), S.left ≠ 0 → stepP P DD T S = (if (opS P DD T { S with left := S.left - 1 } (opAt P T S)).2.1 ≠ 0 then .stop (opS P DD T { S with left := S.left - 1 } (opAt P T S)).2.2 ⟨0, (opS P DD T { S with left := S.left - 1 } (opAt P T S)).2.1⟩ else if (opS P DD T { S with left := S.left - 1 } (opAt P T S)).1 then .stop (opS P DD T { S with left := S.left - 1 } (opAt P T S)).2.2 ⟨rg (opS P DD T { S with left := S.left - 1 } (opAt P T S)).2.2.regs (opAt P T S).a, 0⟩ else .go (opS P DD T { S with left := S.left - 1 } (opAt P T S)).2.2) := fun P DD T S h => by unfold stepP; rw [if_neg h]
    have e1 := hsp p D t s h0
    have e2 := hsp q D' t' s' (by rw [hl]; exact h0)
    have hst1 : ∀ s2 : St, stepP p D t s = .go s2 → InvS p t s2 ∧ AtOk p t s2 ∧ s2.left < s.left := fun s2 h => step_go hp ht hD hi ha h
    rw [e1] at hall ⊢
    rw [e2]
    rw [e1] at hst1
    have hoa : (opAt q t' s').a = (opAt p t s).a := by rw [hoq]; exact (shO_k _).2.2.1
    rw [hoa]
    generalize opS p D t { s with left := s.left - 1 } (opAt p t s) = x at *
    generalize opS q D' t' { s' with left := s'.left - 1 } (opAt q t' s') = x' at *
    obtain ⟨x1, x2, x3⟩ := x
    obtain ⟨y1, y2, y3⟩ := x'
    simp only [] at *
    by_cases hx2 : x2 ≠ 0
    · rw [if_pos hx2] at hall ⊢
      obtain ⟨j1, j2, j3⟩ := key hall
      rw [j2, if_pos hx2]
      exact ⟨rfl, j3⟩
    · rw [if_neg hx2] at hall hst1 ⊢
      by_cases hx1 : x1 = true
      · rw [if_pos hx1] at hall ⊢
        obtain ⟨j1, j2, j3⟩ := key hall
        rw [j2, if_neg hx2, j1, if_pos hx1]
        refine ⟨?_, j3⟩
        simp only []
        rw [j3.1]
      · rw [if_neg hx1] at hall hst1 ⊢
        obtain ⟨g1, g2, g3⟩ := hst1 _ rfl
        obtain ⟨Y, hY⟩ := run_grow (p := p) (D := D) (t := t) n x3
        obtain ⟨j1, j2, j3⟩ := key (fun d hd => hall d (by simp only []; rw [hY]; exact List.mem_append_left _ hd))
        rw [j2, if_neg hx2, j1, if_neg hx1]
        exact run_sim hb hp ht hst hm hz hD hsim n x3 y3 g1 g2 (by omega) j3 hall
theorem do_sim {p q : List Fnc} {fn : Int} {pre : List UInt8} (hb : Bg p q fn) (hp : WfP p) : ∀ (n : Nat) (t t' : Tk), TkOk p t → t.fuel < n → mayS t.p = true → SimT pre fn t t' → (∀ d ∈ (doP p n t).2, d.t.p.size < 12) → (doP q n t').1 = (doP p n t).1 ∧ All2 (SimD pre) (doP p n t).2 (doP q n t').2
  | 0, t, _, ht, hf, _, _, _ => by have := ht.u0; omega
  | n + 1, t, t', ht, hf, hm, hst, hall => by
    have h0 := ht.u0
    have hD : DOk p (doP p n) t.fuel := fun k' h1 h2 => doP_ok hp n k' h1 (by omega)
    have hz : t.p.size < 12 := hall _ (by unfold doP; exact List.mem_cons_self)
    have hf1 := hb.fnc ht hst
    have hbs : SimS pre (beginS p t) (beginS q t') := by
      refine ⟨?_, ?_⟩
      · unfold beginS
        rw [hf1.regs, hst.args, hst.fuel]
      · unfold beginS; exact .nil
    obtain ⟨r1, r2⟩ := run_sim hb hp ht hst hm hz hD (D' := doP q n) (fun k k' hk hkf hmk hsk hal => do_sim hb hp n k k' hk (by omega) hmk hsk hal) (t.fuel.toNat + 1) (beginS p t) (beginS q t') (beginS_inv hp ht) (begin_at hp ht) (by unfold beginS; simp only []; omega) hbs (fun d hd => hall d (by unfold doP; exact List.mem_cons_of_mem _ hd))
    unfold doP
    rw [hst.fuel]
    refine ⟨r1, .cons ⟨hst.path, hst.fuel, r1, ?_⟩ r2.2⟩
    simp only []
    rw [r2.1]
end Go.Proofs.YtdhbjejejeljoaaGreat
namespace Go.Proofs.YtdhbjejejeljoaaGreat
open Go.RowKit

theorem firstE_allz : ∀ {l : List Int}, (∀ e ∈ l, e = 0) → firstE l = 0
  | [], _ => rfl
  | x :: l, h => by
    unfold firstE
    rw [if_pos (h x List.mem_cons_self)]
    exact firstE_allz fun e he => h e (List.mem_cons_of_mem _ he)
theorem formed_sh {o : Opr} (h : formedP o = true) : formedP (shO o) = true := by
  by_cases hk : o.k = 12
  · unfold shO
    rw [if_pos hk]
    unfold formedP at *
    simp only [hk] at *
    simp only [Bool.and_eq_true, Bool.or_eq_true] at h ⊢
    refine ⟨h.1, .inl (by unfold hasN; simp)⟩
  · rw [shO_id hk]; exact h
theorem opE_sh {p q : List Fnc} {fn : Int} {f g : Fnc} {o : Opr} (hb : Bg p q fn) (hs : SimF f g) (h : opE p f o = 0) : opE q g (shO o) = 0 := by
  by_cases hk : o.k = 12
  · unfold opE at h ⊢
    obtain ⟨e1, e2, e3, e4⟩ := shO_k o
    rw [e1, e2, e3, e4, shO_n hk, hs.regs]
    split at h
    · cases h
    rename_i g1
    rw [if_neg g1, if_neg (by simp [hk]), if_neg (by simp [hk])]
    rw [if_neg (by simp [hk]), if_neg (by simp [hk])] at h
    split at h
    · cases h
    rename_i g2
    simp only [Bool.or_eq_true, decide_eq_true_eq, not_or, Int.not_lt, Int.not_le] at g2
    rw [(hb.rest o.n g2.1 g2.2).args]
    rw [if_neg (by simp [hb.len]; omega)]
    exact h
  · rw [shO_id hk]
    unfold opE at h ⊢
    rw [hs.regs, hs.ops, List.length_map]
    split at h
    · cases h
    rename_i g1
    split at h
    · cases h
    rename_i g2
    rw [if_neg g1, if_neg g2, if_pos hk]
theorem funE_sh {p q : List Fnc} {fn : Int} {f g : Fnc} (hb : Bg p q fn) (hs : SimF f g) (h : funE p f = 0) : funE q g = 0 := by
  unfold funE at h ⊢
  rw [hs.args, hs.regs]
  split at h
  · cases h
  rename_i g1
  rw [if_neg g1]
  split at h
  · rename_i g2; exact absurd h g2
  rename_i g2
  have h2 : firstE (g.ops.map (opE q g)) = 0 := firstE_allz fun e he => by
    obtain ⟨o', ho', rfl⟩ := List.mem_map.1 he
    rw [hs.ops] at ho'
    obtain ⟨o, ho, rfl⟩ := List.mem_map.1 ho'
    exact opE_sh hb hs (firstE_zero (by simpa using g2) _ (List.mem_map.2 ⟨o, ho, rfl⟩))
  rw [if_neg (fun hh => hh h2)]
  have h3 : endsP g = endsP f := by
    unfold endsP
    rw [hs.ops, List.getLast?_map]
    cases f.ops.getLast? with
    | none => rfl
    | some o => simp [(shO_k o).1]
  rw [h3]; exact h
theorem Bg.of {p q : List Fnc} {fn : Int} (hb : Bg p q fn) : ∀ g ∈ q, ∃ f ∈ p, SimF f g := by
  intro g hg
  obtain ⟨i, hi, rfl⟩ := List.getElem_of_mem hg
  have hqi : fnAt q (i : Int) = q[i] := by
    unfold fnAt
    rw [Int.toNat_natCast, List.getD_eq_getElem?_getD, List.getElem?_eq_getElem hi]; rfl
  have hpm : ∀ j : Int, 0 ≤ j → j < p.length → fnAt p j ∈ p := fun j h0 h1 => by
    obtain ⟨h2, h3⟩ := fnAt_get h0 h1
    rw [h3]; exact List.getElem_mem h2
  cases i with
  | zero =>
    have := hb.head
    exact ⟨fnAt p fn, hpm _ hb.fn0 hb.fn1, by have h1 := hb.head; rw [show (0 : Int) = ((0 : Nat) : Int) from rfl, hqi] at h1; exact h1⟩
  | succ j =>
    have hj : (j : Int) < p.length := by have := hb.len; omega
    exact ⟨fnAt p j, hpm _ (by omega) hj, by have h1 := hb.rest j (by omega) hj; rw [show (j : Int) + 1 = ((j + 1 : Nat) : Int) from rfl, hqi] at h1; exact h1⟩
theorem prog_sh {p q : List Fnc} {fn : Int} (hb : Bg p q fn) (h : progE p = 0) (hl : p.length < 16) : progE q = 0 := by
  unfold progE at h ⊢
  split at h
  · cases h
  rename_i g1
  split at h
  · cases h
  rename_i g2
  have hm : mayP p = true := by simpa using g1
  unfold mayP at hm
  simp only [Bool.and_eq_true, decide_eq_true_eq, List.all_eq_true] at hm
  have hq : mayP q = true := by
    unfold mayP
    simp only [Bool.and_eq_true, decide_eq_true_eq, List.all_eq_true]
    refine ⟨by have := hb.len; omega, fun g hg => ?_⟩
    obtain ⟨f, hf, hs⟩ := hb.of g hg
    have h1 := hm.2 f hf
    unfold mayF at h1 ⊢
    simp only [Bool.and_eq_true, decide_eq_true_eq, List.all_eq_true] at h1 ⊢
    rw [hs.args, hs.regs, hs.ops, List.length_map]
    refine ⟨h1.1, fun o ho => ?_⟩
    obtain ⟨o', ho', rfl⟩ := List.mem_map.1 ho
    exact formed_sh (h1.2 o' ho')
  rw [if_neg (by simp [hq]), if_neg (by have := hb.len; omega)]
  refine firstE_allz fun e he => ?_
  obtain ⟨g, hg, rfl⟩ := List.mem_map.1 he
  obtain ⟨f, hf, hs⟩ := hb.of g hg
  exact funE_sh hb hs (firstE_zero h _ (List.mem_map.2 ⟨f, hf, rfl⟩))
theorem root_parts {p : List Fnc} {n : Nat} {fuel : Int} (h : rootE p n fuel = 0) : progE p = 0 ∧ (n : Int) = (fnAt p 0).args ∧ 0 ≤ fuel ∧ fuel ≤ 65536 := by
  unfold rootE at h
  split at h
  · rename_i h1; exact absurd h h1
  rename_i h1
  split at h
  · rename_i h2
    have h3 : inputE p n = 0 := by simpa using h1
    unfold inputE at h3
    split at h3
    · rename_i h4; exact absurd h3 h4
    rename_i h4
    split at h3
    · rename_i h5; exact ⟨by simpa using h4, h5, h2.1, h2.2⟩
    · cases h3
  · cases h
theorem root_mk {p : List Fnc} {n : Nat} {fuel : Int} (h1 : progE p = 0) (h2 : (n : Int) = (fnAt p 0).args) (h3 : 0 ≤ fuel) (h4 : fuel ≤ 65536) : rootE p n fuel = 0 := by
  have : inputE p n = 0 := by unfold inputE; rw [if_neg (fun h => h h1), if_pos h2]
  unfold rootE
  rw [if_neg (fun h => h this), if_pos ⟨h3, h4⟩]
theorem tree_full {p : List Fnc} {l : List Int} {fuel : Int} (h : rootE p l.length fuel = 0) : treeE p l fuel (fuel + 1) = 0 ∧ treeL p l fuel (fuel + 1) = (doP p (fuel.toNat + 1) (rootT l fuel)).2 := by
  obtain ⟨hp, ht⟩ := rootT_ok h
  have h0 : (0 : Int) ≤ fuel := ht.u0
  have h1 := doP_ok hp (fuel.toNat + 1) (rootT l fuel) ht (by show fuel < _; omega)
  have h2 : ((doP p (fuel.toNat + 1) (rootT l fuel)).2.length : Int) ≤ fuel + 1 := h1
  have h3 : treeE p l fuel (fuel + 1) = 0 := by
    unfold treeE
    rw [if_neg (fun hh => hh h), if_neg (by omega)]
  exact ⟨h3, by unfold treeL; rw [if_pos h3]⟩
theorem tree_may {p : List Fnc} (hp : WfP p) : ∀ (n : Nat) (t : Tk), TkOk p t → t.fuel < n → mayS t.p = true → ∀ d ∈ (doP p n t).2, mayS d.t.p = true
  | 0, t, ht, hf, _ => by have := ht.u0; omega
  | n + 1, t, ht, hf, hm => by
    obtain ⟨k, L, e, ks, _, hL, hk⟩ := doP_kids hp ht hf
    rw [e]
    intro d hd
    rcases List.mem_cons.1 hd with rfl | hd
    · exact hm
    · rw [hL] at hd
      obtain ⟨l, hl, hd⟩ := List.mem_flatten.1 hd
      obtain ⟨c, hc, rfl⟩ := List.mem_map.1 hl
      obtain ⟨i, hi, rfl⟩ := List.getElem_of_mem hc
      obtain ⟨_, h2, h3, h4, h5⟩ := hk i hi
      exact tree_may hp n _ h4 (by omega) (by rw [h3]; exact kidB_may h2) d hd
theorem All2.length {α β : Type} {R : α → β → Prop} : ∀ {a : List α} {b : List β}, All2 R a b → a.length = b.length
  | _, _, .nil => rfl
  | _, _, .cons _ h => by simp [h.length]
theorem All2.get {α β : Type} {R : α → β → Prop} : ∀ {a : List α} {b : List β}, All2 R a b → ∀ (i : Nat) (h : i < a.length) (h' : i < b.length), R a[i] b[i]
  | _, _, .nil, i, h, _ => by simp at h
  | _, _, .cons h0 h1, 0, _, _ => h0
  | _, _, .cons h0 h1, i + 1, h, h' => by simpa using h1.get i (by simpa using h) (by simpa using h')
/-- What a part of a tree is, against the tree of the program that begins with its function. -/
theorem parts_law {p q : List Fnc} {l : List Int} {fuel : Int} (h0 : rootE p l.length fuel = 0) (hlen : p.length < 16) (hdeep : ∀ d ∈ (doP p (fuel.toNat + 1) (rootT l fuel)).2, d.t.p.size < 12) (k : Nat) (hk : k < (doP p (fuel.toNat + 1) (rootT l fuel)).2.length)
    (d : Dn) (hd : (doP p (fuel.toNat + 1) (rootT l fuel)).2[k] = d) (hb : Bg p q d.t.fn) :
    treeE q d.t.args d.t.fuel (d.t.fuel + 1) = 0 ∧ 0 < (treeL q d.t.args d.t.fuel (d.t.fuel + 1)).length ∧ k + (treeL q d.t.args d.t.fuel (d.t.fuel + 1)).length ≤ (doP p (fuel.toNat + 1) (rootT l fuel)).2.length ∧
    (∀ (i : Nat) (h : i < (treeL q d.t.args d.t.fuel (d.t.fuel + 1)).length) (h' : k + i < (doP p (fuel.toNat + 1) (rootT l fuel)).2.length), SimD (pl d.t.p) (doP p (fuel.toNat + 1) (rootT l fuel)).2[k + i] (treeL q d.t.args d.t.fuel (d.t.fuel + 1))[i]) ∧
    (∀ h : k + (treeL q d.t.args d.t.fuel (d.t.fuel + 1)).length < (doP p (fuel.toNat + 1) (rootT l fuel)).2.length, underS (doP p (fuel.toNat + 1) (rootT l fuel)).2[k + (treeL q d.t.args d.t.fuel (d.t.fuel + 1)).length].t.p d.t.p = false) := by
  obtain ⟨hp, ht⟩ := rootT_ok h0
  have hf0 : (0 : Int) ≤ fuel := ht.u0
  have hf : (rootT l fuel).fuel < (fuel.toNat + 1 : Nat) := by show fuel < _; omega
  have hmay := tree_may hp _ _ ht hf (by rfl : mayS (rootT l fuel).p = true)
  have hsub := tree_sub hp _ _ ht hf
  generalize (doP p (fuel.toNat + 1) (rootT l fuel)).2 = L at *
  have hsplit : L = L.take k ++ d :: L.drop (k + 1) := by
    rw [← hd, List.getElem_cons_drop, List.take_append_drop]
  obtain ⟨m, R, hdt, hdf, hR, hnot⟩ := hsub (L.take k) (L.drop (k + 1)) d hsplit
  have hdr : L.drop k = (doP p m d.t).2 ++ R := by
    rw [← hR, ← hd, List.getElem_cons_drop]
  have hdm : d ∈ L := by rw [← hd]; exact List.getElem_mem hk
  obtain ⟨hpE, _, _, _⟩ := root_parts h0
  have hqE := prog_sh hb hpE hlen
  have hr : rootE q d.t.args.length d.t.fuel = 0 := root_mk hqE (by rw [hb.head.args]; exact hdt.args) hdt.u0 hdt.u1
  obtain ⟨t1, t2⟩ := tree_full hr
  have hall : ∀ e ∈ (doP p m d.t).2, e.t.p.size < 12 := fun e he => hdeep e (List.mem_of_mem_drop (i := k) (by rw [hdr]; exact List.mem_append_left _ he))
  have hu0 := hdt.u0
  have hmm : d.t.fuel < ((d.t.fuel.toNat + 1 : Nat) : Int) := by omega
  have hall2 : ∀ e ∈ (doP p (d.t.fuel.toNat + 1) d.t).2, e.t.p.size < 12 := by rw [← doP_deep hp m _ d.t hdt hdf hmm]; exact hall
  obtain ⟨s1, s2⟩ := do_sim (pre := pl d.t.p) hb hp (d.t.fuel.toNat + 1) d.t (rootT d.t.args d.t.fuel) hdt hmm (hmay d hdm) ⟨by show pl d.t.p = pl d.t.p ++ []; simp, rfl, rfl, .inr ⟨rfl, rfl⟩⟩ hall2
  rw [← doP_deep hp m _ d.t hdt hdf hmm] at s2
  rw [t2]
  have hl2 := s2.length
  have hLk : L.length = k + (L.drop k).length := by rw [List.length_drop]; omega
  rw [hdr, List.length_append, hl2] at hLk
  have hget : ∀ (j : Nat) (h : j < ((doP p m d.t).2 ++ R).length) (h' : k + j < L.length), L[k + j] = ((doP p m d.t).2 ++ R)[j] := fun j h h' => by
    have h3 : (L.drop k)[j]'(by rw [hdr]; exact h) = L[k + j] := List.getElem_drop
    rw [← h3]
    simp only [hdr]
  refine ⟨t1, ?_, by omega, fun i h h' => ?_, fun h => ?_⟩
  · rw [← hl2]
    cases m with
    | zero => omega
    | succ m => unfold doP; simp
  · rw [hget i (by rw [List.length_append]; omega) h', List.getElem_append_left (by omega)]
    exact s2.get i (by omega) h
  · rw [hget _ (by rw [List.length_append]; omega) h, List.getElem_append_right (by omega)]
    have hx : R[(doP q (d.t.fuel.toNat + 1) (rootT d.t.args d.t.fuel)).2.length - (doP p m d.t).2.length]'(by omega) ∈ R := List.getElem_mem _
    have h4 := hnot _ hx
    generalize (R[(doP q (d.t.fuel.toNat + 1) (rootT d.t.args d.t.fuel)).2.length - (doP p m d.t).2.length]'(by omega)) = e at *
    unfold underS
    have h5 : prefS e.t.p d.t.p = false := by
      cases hc : prefS e.t.p d.t.p
      · rfl
      · exact absurd ((prefS_iff _ _).1 hc) h4
    rw [h5, Bool.and_false]
end Go.Proofs.YtdhbjejejeljoaaGreat
