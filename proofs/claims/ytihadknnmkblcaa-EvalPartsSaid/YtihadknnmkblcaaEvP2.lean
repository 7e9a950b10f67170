/- What a task comes to hangs on what it is begun as alone. -/
import Derived.Test.YtihadknnmkblcaaEvP1
namespace Go.Proofs.Ytihadknnmkblcaa
open Go.RowKit

/-- Fuel enough: the depth makes no difference. -/
theorem opS_congr {p : List Fnc} {D D' : Tk → Rs × List Dn} {t : Tk} {s : St} {o : Opr} (h : o.k = 12 → kidB t.p (s.kids + 1) = true → D (kidT p t { s with pc := s.pc + 1 } o) = D' (kidT p t { s with pc := s.pc + 1 } o)) : opS p D t s o = opS p D' t s o := by
  unfold opS
  simp only []
  by_cases k1 : o.k = 1
  · rw [if_pos k1, if_pos k1]
  rw [if_neg k1, if_neg k1]
  by_cases k10 : o.k = 10
  · rw [if_pos k10, if_pos k10]
  rw [if_neg k10, if_neg k10]
  by_cases k11 : o.k = 11
  · rw [if_pos k11, if_pos k11]
  rw [if_neg k11, if_neg k11]
  by_cases k12 : o.k = 12
  · rw [if_pos k12, if_pos k12]
    unfold forkS
    simp only []
    by_cases hb : kidB t.p (s.kids + 1) = true
    · rw [h k12 hb]
    · have hb' : kidB t.p (s.kids + 1) = false := by simpa using hb
      rw [if_pos hb', if_pos hb']
  rw [if_neg k12, if_neg k12]
theorem runP_congr {p : List Fnc} {D D' : Tk → Rs × List Dn} {t : Tk} (hp : WfP p) (ht : TkOk p t) (hD : DOk p D t.fuel) (h : ∀ k, TkOk p k → k.fuel < t.fuel → D k = D' k) : ∀ (n : Nat) (s : St), InvS p t s → AtOk p t s → runP p D t n s = runP p D' t n s
  | 0, _, _, _ => rfl
  | n + 1, s, hi, ha => by
    have he : stepP p D t s = stepP p D' t s := by
      unfold stepP
      by_cases h0 : s.left = 0
      · rw [if_pos h0, if_pos h0]
      rw [if_neg h0, if_neg h0]
      have ho := opAt_ok hp ht hi ha
      obtain ⟨h1, h2⟩ := hi.pay h0
      have h63 : s.pc ≤ 63 := by have := (hp.fn ht.f0 ht.f1).o1; unfold AtOk at ha; omega
      have hpc := hi.pc0
      have hi1 : InvS p t { s with left := s.left - 1, pc := s.pc + 1 } := ⟨h1.rl, by simp only []; omega, by simp only []; omega, h1.l0, h1.k0, h1.k1, h1.il, h1.ik, h1.ir, h1.cnt⟩
      rw [opS_congr (D := D) (D' := D') (fun k12 hb => by
        obtain ⟨g1, g2⟩ := kid_ok hp ht hi1 (by simp only []; omega) ho k12 hb
        exact h _ g1 g2)]
    unfold runP
    rw [← he]
    cases hs : stepP p D t s with
    | stop s' r => rfl
    | go s' =>
      obtain ⟨h1, h2, _⟩ := step_go hp ht hD hi ha hs
      exact runP_congr hp ht hD h n s' h1 h2
theorem doP_deep {p : List Fnc} (hp : WfP p) : ∀ (n m : Nat) (t : Tk), TkOk p t → t.fuel < n → t.fuel < m → doP p n t = doP p m t
  | 0, _, t, ht, h, _ => by have := ht.u0; omega
  | _ + 1, 0, t, ht, _, h => by have := ht.u0; omega
  | n + 1, m + 1, t, ht, hn, hm => by
    have h0 := ht.u0
    have hD : DOk p (doP p n) t.fuel := fun k' h1 h2 => doP_ok hp n k' h1 (by omega)
    have h := runP_congr hp ht hD (D' := doP p m) (fun k hk hf => doP_deep hp n m k hk (by omega) (by omega)) (t.fuel.toNat + 1) (beginS p t) (beginS_inv hp ht) (begin_at hp ht)
    unfold doP
    rw [h]

/-- Two lists, pair by pair. -/
inductive All2 {α β : Type} (R : α → β → Prop) : List α → List β → Prop
  | nil : All2 R [] []
  | cons {a : α} {b : β} {l : List α} {m : List β} : R a b → All2 R l m → All2 R (a :: l) (b :: m)
/-- An op of the program that begins with another function. -/
def shO (o : Opr) : Opr := if o.k = 12 then { o with n := o.n + 1 } else o
structure SimF (f g : Fnc) : Prop where
  args : g.args = f.args
  regs : g.regs = f.regs
  ops : g.ops = f.ops.map shO
/-- It begins with a function of another one, whose functions follow. -/
structure Bg (p q : List Fnc) (fn : Int) : Prop where
  len : q.length = p.length + 1
  fn0 : 0 ≤ fn
  fn1 : fn < p.length
  head : SimF (fnAt p fn) (fnAt q 0)
  rest : ∀ i : Int, 0 ≤ i → i < p.length → SimF (fnAt p i) (fnAt q (i + 1))
theorem shO_k (o : Opr) : (shO o).k = o.k ∧ (shO o).d = o.d ∧ (shO o).a = o.a ∧ (shO o).b = o.b := by
  unfold shO; split <;> exact ⟨rfl, rfl, rfl, rfl⟩
theorem shO_n {o : Opr} (h : o.k = 12) : (shO o).n = o.n + 1 := by unfold shO; rw [if_pos h]
theorem shO_id {o : Opr} (h : o.k ≠ 12) : shO o = o := by unfold shO; rw [if_neg h]
structure SimT (pre : List UInt8) (fn : Int) (t t' : Tk) : Prop where
  path : pl t.p = pre ++ pl t'.p
  args : t'.args = t.args
  fuel : t'.fuel = t.fuel
  fns : t'.fn = t.fn + 1 ∨ (t'.fn = 0 ∧ t.fn = fn)
structure SimD (pre : List UInt8) (d d' : Dn) : Prop where
  path : pl d.t.p = pre ++ pl d'.t.p
  fuel : d'.t.fuel = d.t.fuel
  r : d'.r = d.r
  kids : d'.kids = d.kids
theorem Bg.fnc {p q : List Fnc} {fn : Int} {pre : List UInt8} {t t' : Tk} (h : Bg p q fn) (ht : TkOk p t) (hs : SimT pre fn t t') : SimF (fnAt p t.fn) (fnAt q t'.fn) := by
  rcases hs.fns with e | ⟨e1, e2⟩
  · rw [e]; exact h.rest t.fn ht.f0 ht.f1
  · rw [e1, e2]; exact h.head
theorem mayS_of {s : ByteArray} {l : List UInt8} {s' : ByteArray} (h : mayS s = true) (he : pl s = l ++ pl s') : mayS s' = true := by
  unfold mayS at *
  unfold pl at he
  rw [he] at h
  unfold mayL at *
  simp only [Bool.and_eq_true, decide_eq_true_eq, Bool.not_eq_true', List.any_eq_false, List.length_append] at *
  exact ⟨by omega, fun x hx => h.2 x (List.mem_append_right _ hx)⟩
theorem kidB_mk {s : ByteArray} {n : Int} (h : mayS s = true) (h1 : 1 ≤ n) (h2 : n ≤ 16) (h3 : s.size < 12) : kidB s n = true := by
  unfold kidB
  simp only [Bool.and_eq_true, decide_eq_true_eq, Bool.not_eq_true', decide_eq_false_iff_not]
  exact ⟨⟨⟨h, h1⟩, h2⟩, by omega⟩
/-- States that differ in what was done alone. -/
def SimS (pre : List UInt8) (s s' : St) : Prop := s' = { s with done := s'.done } ∧ All2 (SimD pre) s.done s'.done
theorem SimS.pay {pre : List UInt8} {s s' : St} (h : SimS pre s s') : SimS pre { s with left := s.left - 1 } { s' with left := s'.left - 1 } := by
  obtain ⟨h1, h2⟩ := h
  obtain ⟨X, hX⟩ : ∃ X, s'.done = X := ⟨_, rfl⟩
  rw [hX] at h1 h2
  subst h1
  exact ⟨rfl, h2⟩
theorem joinS_sim {pre : List UInt8} {s s' : St} (h : SimS pre s s') : (joinS s').1 = (joinS s).1 ∧ SimS pre (joinS s).2 (joinS s').2 := by
  obtain ⟨h1, h2⟩ := h
  obtain ⟨X, hX⟩ : ∃ X, s'.done = X := ⟨_, rfl⟩
  rw [hX] at h1 h2
  subst h1
  unfold joinS
  by_cases hz : firstE (s.waits.map (·.e)) ≠ 0
  · simp only []
    rw [if_pos hz, if_pos hz]
    exact ⟨rfl, rfl, h2⟩
  · simp only []
    rw [if_neg hz, if_neg hz]
    exact ⟨rfl, rfl, h2⟩
/-- An op, plain or a join, in both. -/
theorem opS_sim {p q : List Fnc} {D D' : Tk → Rs × List Dn} {t t' : Tk} {pre : List UInt8} {s s' : St} {o : Opr} (h : SimS pre s s') (hk : o.k ≠ 12) : (opS q D' t' s' o).1 = (opS p D t s o).1 ∧ (opS q D' t' s' o).2.1 = (opS p D t s o).2.1 ∧ SimS pre (opS p D t s o).2.2 (opS q D' t' s' o).2.2 := by
  obtain ⟨h1, h2⟩ := h
  obtain ⟨X, hX⟩ : ∃ X, s'.done = X := ⟨_, rfl⟩
  rw [hX] at h1 h2
  subst h1
  have hj := joinS_sim (s := { s with pc := s.pc + 1 }) (s' := { s with pc := s.pc + 1, done := X }) (pre := pre) ⟨rfl, h2⟩
  unfold opS
  simp only []
  by_cases k1 : o.k = 1
  · rw [if_pos k1, if_pos k1]; exact ⟨rfl, rfl, rfl, h2⟩
  rw [if_neg k1, if_neg k1]
  by_cases k10 : o.k = 10
  · rw [if_pos k10, if_pos k10]; exact ⟨rfl, rfl, rfl, h2⟩
  rw [if_neg k10, if_neg k10]
  by_cases k11 : o.k = 11
  · rw [if_pos k11, if_pos k11]
    by_cases hr : rg s.regs o.a = 0
    · simp only []; rw [if_pos hr, if_pos hr]; exact ⟨by trivial, by trivial, rfl, h2⟩
    · simp only []; rw [if_neg hr, if_neg hr]; exact ⟨by trivial, by trivial, rfl, h2⟩
  rw [if_neg k11, if_neg k11, if_neg hk, if_neg hk]
  by_cases k13 : o.k = 13
  · rw [if_pos k13, if_pos k13]; exact ⟨rfl, hj.1, hj.2⟩
  rw [if_neg k13, if_neg k13]
  by_cases k14 : o.k = 14
  · rw [if_pos k14, if_pos k14]; exact ⟨rfl, hj.1, hj.2⟩
  rw [if_neg k14, if_neg k14]
  cases calcP o.k (rg s.regs o.a) (rg s.regs o.b) with
  | none => exact ⟨rfl, rfl, rfl, h2⟩
  | some x => exact ⟨rfl, rfl, rfl, h2⟩
theorem run_grow {p : List Fnc} {D : Tk → Rs × List Dn} {t : Tk} : ∀ (n : Nat) (s : St), ∃ X, (runP p D t n s).1.done = s.done ++ X
  | 0, s => ⟨[], by unfold runP; simp⟩
  | n + 1, s => by
    have hop : ∀ s1 : St, ∃ X, (opS p D t s1 (opAt p t s)).2.2.done = s1.done ++ X := fun s1 => by
      rcases opS_kids (p := p) (D := D) (t := t) (s := s1) (o := opAt p t s) with ⟨e, _⟩ | ⟨_, _, _, e, _⟩
      · exact ⟨[], by rw [e]; simp⟩
      · exact ⟨_, e⟩
    obtain ⟨X, hX⟩ := hop { s with left := s.left - 1 }
    unfold runP
    cases hs : stepP p D t s with
    | stop s' r =>
      simp only []
      unfold stepP at hs
      split at hs
      · injection hs with hs _; subst hs; exact ⟨[], by simp⟩
      · simp only [] at hs
        split at hs
        · injection hs with hs _; subst hs; exact ⟨X, hX⟩
        split at hs
        · injection hs with hs _; subst hs; exact ⟨X, hX⟩
        · cases hs
    | go s' =>
      simp only []
      obtain ⟨Y, hY⟩ := run_grow (p := p) (D := D) (t := t) n s'
      unfold stepP at hs
      split at hs
      · cases hs
      · simp only [] at hs
        split at hs
        · cases hs
        split at hs
        · cases hs
        · injection hs with hs; subst hs; exact ⟨X ++ Y, by rw [hY, hX, List.append_assoc]⟩
theorem forall2_app {α β : Type} {R : α → β → Prop} : ∀ {a : List α} {b : List β} {c : List α} {d : List β}, All2 R a b → All2 R c d → All2 R (a ++ c) (b ++ d)
  | [], [], _, _, _, h => h
  | _ :: _, _ :: _, _, _, .cons h1 h2, h => .cons h1 (forall2_app h2 h)
theorem opAt_sim {p q : List Fnc} {fn : Int} {pre : List UInt8} {t t' : Tk} {s s' : St} (hb : Bg p q fn) (hp : WfP p) (ht : TkOk p t) (hst : SimT pre fn t t') (hi : InvS p t s) (ha : AtOk p t s) (h : SimS pre s s') : opAt q t' s' = shO (opAt p t s) := by
  have hf := hb.fnc ht hst
  have hpc : s'.pc = s.pc := by rw [h.1]
  have h0 := hi.pc0
  unfold AtOk at ha
  unfold opAt
  rw [hpc, hf.ops, List.getD_eq_getElem?_getD, List.getD_eq_getElem?_getD, List.getElem?_map, List.getElem?_eq_getElem (by omega)]
  rfl
theorem run_sim {p q : List Fnc} {fn : Int} {pre : List UInt8} {D D' : Tk → Rs × List Dn} {t t' : Tk} (hb : Bg p q fn) (hp : WfP p) (ht : TkOk p t) (hst : SimT pre fn t t') (hm : mayS t.p = true) (hz : t.p.size < 12) (hD : DOk p D t.fuel)
    (hsim : ∀ k k', TkOk p k → k.fuel < t.fuel → mayS k.p = true → SimT pre fn k k' → (∀ d ∈ (D k).2, d.t.p.size < 12) → (D' k').1 = (D k).1 ∧ All2 (SimD pre) (D k).2 (D' k').2) :
    ∀ (n : Nat) (s s' : St), InvS p t s → AtOk p t s → s.left < n → SimS pre s s' → (∀ d ∈ (runP p D t n s).1.done, d.t.p.size < 12) → (runP q D' t' n s').2 = (runP p D t n s).2 ∧ SimS pre (runP p D t n s).1 (runP q D' t' n s').1
  | 0, s, s', hi, _, h, _, _ => by have := hi.l0; omega
  | n + 1, s, s', hi, ha, h, hs, hall => by
    have ho := opAt_ok hp ht hi ha
    have hoq := opAt_sim hb hp ht hst hi ha hs
    have hl : s'.left = s.left := by rw [hs.1]
    have hm' : mayS t'.p = true := mayS_of hm hst.path
    have hz' : t'.p.size < 12 := by
      have h1 := congrArg List.length hst.path
      rw [List.length_append, pl_len, pl_len] at h1
      omega
    by_cases h0 : s.left = 0
    · have e1 : ∀ (P : List Fnc) (DD : Tk → Rs × List Dn) (T : Tk) (S : St), S.left = 0 → stepP P DD T S = .stop S ⟨0, 130⟩ := fun P DD T S h => by unfold stepP; rw [if_pos h]
      unfold runP
      rw [e1 p D t s h0, e1 q D' t' s' (by rw [hl]; exact h0)]
      exact ⟨rfl, hs⟩
    obtain ⟨h1, h2⟩ := hi.pay h0
    have h63 : s.pc ≤ 63 := by have := (hp.fn ht.f0 ht.f1).o1; unfold AtOk at ha; omega
    have hpc := hi.pc0
    have hi1 : InvS p t { s with left := s.left - 1, pc := s.pc + 1 } := ⟨h1.rl, by simp only []; omega, by simp only []; omega, h1.l0, h1.k0, h1.k1, h1.il, h1.ik, h1.ir, h1.cnt⟩
    have hs1 : SimS pre { s with left := s.left - 1 } { s' with left := s'.left - 1 } := SimS.pay hs
    -- what the op leaves in both
    have key : (∀ d ∈ (opS p D t { s with left := s.left - 1 } (opAt p t s)).2.2.done, d.t.p.size < 12) → (opS q D' t' { s' with left := s'.left - 1 } (opAt q t' s')).1 = (opS p D t { s with left := s.left - 1 } (opAt p t s)).1 ∧ (opS q D' t' { s' with left := s'.left - 1 } (opAt q t' s')).2.1 = (opS p D t { s with left := s.left - 1 } (opAt p t s)).2.1 ∧ SimS pre (opS p D t { s with left := s.left - 1 } (opAt p t s)).2.2 (opS q D' t' { s' with left := s'.left - 1 } (opAt q t' s')).2.2 := by
      intro hall1
      rw [hoq]
      by_cases k12 : (opAt p t s).k = 12
      · generalize opAt p t s = o at *
        have k12' : (shO o).k = 12 := by rw [(shO_k o).1]; exact k12
        rw [opS_fork k12] at hall1 ⊢
        rw [opS_fork k12']
        obtain ⟨hs2, hs3⟩ := hs
        obtain ⟨X, hX⟩ : ∃ X, s'.done = X := ⟨_, rfl⟩
        rw [hX] at hs2 hs3
        subst hs2
        simp only [] at hall1 ⊢
        unfold forkS at hall1 ⊢
        simp only [] at hall1 ⊢
        by_cases h16 : 16 ≤ s.kids
        · rw [if_pos h16, if_pos h16]; exact ⟨trivial, rfl, rfl, hs3⟩
        have hk0 := hi.k0
        have hb1 : kidB t.p (s.kids + 1) = true := kidB_mk hm (by omega) (by omega) hz
        have hb2 : kidB t'.p (s.kids + 1) = true := kidB_mk hm' (by omega) (by omega) hz'
        have nb1 : ¬ kidB t.p (s.kids + 1) = false := by rw [hb1]; decide
        have nb2 : ¬ kidB t'.p (s.kids + 1) = false := by rw [hb2]; decide
        rw [if_neg h16, if_neg nb1] at hall1
        rw [if_neg h16, if_neg h16, if_neg nb1, if_neg nb2]
        obtain ⟨g1, g2⟩ := kid_ok hp ht hi1 (by simp only []; omega) ho k12 hb1
        obtain ⟨n0, n1, _⟩ := ho.fk k12
        have hsk : SimT pre fn (kidT p t { s with left := s.left - 1, pc := s.pc + 1 } o) (kidT q t' { s with left := s.left - 1, pc := s.pc + 1, done := X } (shO o)) := by
          refine ⟨?_, ?_, ?_, .inl ?_⟩
          · show pl (kidS t.p (s.kids + 1)) = pre ++ pl (kidS t'.p (s.kids + 1))
            rw [pl_kid hb1, pl_kid hb2, hst.path, List.append_assoc]
          · show (s.regs.drop (shO o).a.toNat).take (fnAt q (shO o).n).args.toNat = (s.regs.drop o.a.toNat).take (fnAt p o.n).args.toNat
            rw [(shO_k o).2.2.1, shO_n k12, (hb.rest o.n n0 n1).args]
          · rfl
          · show (shO o).n = o.n + 1
            exact shO_n k12
        have hmk : mayS (kidT p t { s with left := s.left - 1, pc := s.pc + 1 } o).p = true := kidB_may hb1
        obtain ⟨r1, r2⟩ := hsim _ _ g1 g2 hmk hsk (fun d hd => hall1 d (List.mem_append_right _ hd))
        refine ⟨trivial, rfl, ?_, forall2_app hs3 r2⟩
        simp only []
        rw [r1, (shO_k o).2.1]
      · rw [shO_id k12]
        exact opS_sim hs1 k12
    obtain ⟨X, hX⟩ := run_grow (p := p) (D := D) (t := t) (n + 1) s
    unfold runP at hall ⊢
    have hsp : ∀ (P : List Fnc) (DD : Tk → Rs × List Dn) (T : Tk) (S : St), S.left ≠ 0 → stepP P DD T S = (if (opS P DD T { S with left := S.left - 1 } (opAt P T S)).2.1 ≠ 0 then .stop (opS P DD T { S with left := S.left - 1 } (opAt P T S)).2.2 ⟨0, (opS P DD T { S with left := S.left - 1 } (opAt P T S)).2.1⟩ else if (opS P DD T { S with left := S.left - 1 } (opAt P T S)).1 then .stop (opS P DD T { S with left := S.left - 1 } (opAt P T S)).2.2 ⟨rg (opS P DD T { S with left := S.left - 1 } (opAt P T S)).2.2.regs (opAt P T S).a, 0⟩ else .go (opS P DD T { S with left := S.left - 1 } (opAt P T S)).2.2) := fun P DD T S h => by unfold stepP; rw [if_neg h]
    have e1 := hsp p D t s h0
    have e2 := hsp q D' t' s' (by rw [hl]; exact h0)
    have hst1 : ∀ s2 : St, stepP p D t s = .go s2 → InvS p t s2 ∧ AtOk p t s2 ∧ s2.left < s.left := fun s2 h => step_go hp ht hD hi ha h
    rw [e1] at hall ⊢
    rw [e2]
    rw [e1] at hst1
    have hoa : (opAt q t' s').a = (opAt p t s).a := by rw [hoq]; exact (shO_k _).2.2.1
    rw [hoa]
    generalize opS p D t { s with left := s.left - 1 } (opAt p t s) = x at *
    generalize opS q D' t' { s' with left := s'.left - 1 } (opAt q t' s') = x' at *
    obtain ⟨x1, x2, x3⟩ := x
    obtain ⟨y1, y2, y3⟩ := x'
    simp only [] at *
    by_cases hx2 : x2 ≠ 0
    · rw [if_pos hx2] at hall ⊢
      obtain ⟨j1, j2, j3⟩ := key hall
      rw [j2, if_pos hx2]
      exact ⟨rfl, j3⟩
    · rw [if_neg hx2] at hall hst1 ⊢
      by_cases hx1 : x1 = true
      · rw [if_pos hx1] at hall ⊢
        obtain ⟨j1, j2, j3⟩ := key hall
        rw [j2, if_neg hx2, j1, if_pos hx1]
        refine ⟨?_, j3⟩
        simp only []
        rw [j3.1]
      · rw [if_neg hx1] at hall hst1 ⊢
        obtain ⟨g1, g2, g3⟩ := hst1 _ rfl
        obtain ⟨Y, hY⟩ := run_grow (p := p) (D := D) (t := t) n x3
        obtain ⟨j1, j2, j3⟩ := key (fun d hd => hall d (by simp only []; rw [hY]; exact List.mem_append_left _ hd))
        rw [j2, if_neg hx2, j1, if_neg hx1]
        exact run_sim hb hp ht hst hm hz hD hsim n x3 y3 g1 g2 (by omega) j3 hall
theorem do_sim {p q : List Fnc} {fn : Int} {pre : List UInt8} (hb : Bg p q fn) (hp : WfP p) : ∀ (n : Nat) (t t' : Tk), TkOk p t → t.fuel < n → mayS t.p = true → SimT pre fn t t' → (∀ d ∈ (doP p n t).2, d.t.p.size < 12) → (doP q n t').1 = (doP p n t).1 ∧ All2 (SimD pre) (doP p n t).2 (doP q n t').2
  | 0, t, _, ht, hf, _, _, _ => by have := ht.u0; omega
  | n + 1, t, t', ht, hf, hm, hst, hall => by
    have h0 := ht.u0
    have hD : DOk p (doP p n) t.fuel := fun k' h1 h2 => doP_ok hp n k' h1 (by omega)
    have hz : t.p.size < 12 := hall _ (by unfold doP; exact List.mem_cons_self)
    have hf1 := hb.fnc ht hst
    have hbs : SimS pre (beginS p t) (beginS q t') := by
      refine ⟨?_, ?_⟩
      · unfold beginS
        rw [hf1.regs, hst.args, hst.fuel]
      · unfold beginS; exact .nil
    obtain ⟨r1, r2⟩ := run_sim hb hp ht hst hm hz hD (D' := doP q n) (fun k k' hk hkf hmk hsk hal => do_sim hb hp n k k' hk (by omega) hmk hsk hal) (t.fuel.toNat + 1) (beginS p t) (beginS q t') (beginS_inv hp ht) (begin_at hp ht) (by unfold beginS; simp only []; omega) hbs (fun d hd => hall d (by unfold doP; exact List.mem_cons_of_mem _ hd))
    unfold doP
    rw [hst.fuel]
    refine ⟨r1, .cons ⟨hst.path, hst.fuel, r1, ?_⟩ r2.2⟩
    simp only []
    rw [r2.1]
end Go.Proofs.Ytihadknnmkblcaa
