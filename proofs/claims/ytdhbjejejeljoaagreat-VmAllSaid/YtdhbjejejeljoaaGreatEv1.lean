/- What a program comes to: what holds of each state. -/
import Derived.Test.YtdhbjejejeljoaaGreatBranch2
namespace Go.Proofs.YtdhbjejejeljoaaGreat
open Go.RowKit

structure Opr where
  k : Int
  d : Int
  a : Int
  b : Int
  n : Int
deriving Inhabited
structure Fnc where
  args : Int
  regs : Int
  ops : List Opr
  oa : Option Addr
  oc : Nat
instance : Inhabited Fnc := ⟨⟨0, 0, [], none, 0⟩⟩
def encO (o : Opr) : List Value := [.int .u8 o.k, .int .i64 o.d, .int .i64 o.a, .int .i64 o.b, .int .i64 o.n]
def encF (f : Fnc) : List Value := [.int .i64 f.args, .int .i64 f.regs, .slice f.oa f.ops.length f.oc]

/- Which programs have their form. -/
def hasD (k : Int) : Bool := (decide (1 ≤ k) && decide (k ≤ 9)) || decide (k = 12)
def hasA (k : Int) : Bool := (decide (2 ≤ k) && decide (k ≤ 9)) || decide (k = 11) || decide (k = 12) || decide (k = 14)
def hasB (k : Int) : Bool := decide (3 ≤ k) && decide (k ≤ 9)
def hasN (k : Int) : Bool := decide (k = 1) || decide (k = 10) || decide (k = 11) || decide (k = 12)
def regP (x : Int) : Bool := decide (0 ≤ x) && decide (x ≤ 16)
def formedP (o : Opr) : Bool := decide (1 ≤ o.k) && decide (o.k ≤ 14) && (regP o.d && regP o.a && regP o.b) && (hasD o.k || decide (o.d = 0)) && (hasA o.k || decide (o.a = 0)) && (hasB o.k || decide (o.b = 0)) && (hasN o.k || decide (o.n = 0))
def mayF (f : Fnc) : Bool := regP f.args && regP f.regs && decide (f.ops.length ≤ 64) && f.ops.all formedP
def mayP (p : List Fnc) : Bool := decide (p.length ≤ 16) && p.all mayF

/- Which can be run. -/
def fnAt (p : List Fnc) (i : Int) : Fnc := p.getD i.toNat default
def opE (p : List Fnc) (f : Fnc) (o : Opr) : Int :=
  if (hasD o.k && decide (f.regs ≤ o.d)) || (hasA o.k && !decide (o.k = 12) && decide (f.regs ≤ o.a)) || (hasB o.k && decide (f.regs ≤ o.b)) then 111
  else if (decide (o.k = 10) || decide (o.k = 11)) && (decide (o.n < 0) || decide ((f.ops.length : Int) ≤ o.n)) then 112
  else if o.k ≠ 12 then 0
  else if decide (o.n < 0) || decide ((p.length : Int) ≤ o.n) then 112
  else if decide (0 < (fnAt p o.n).args) && decide (f.regs < o.a + (fnAt p o.n).args) then 111
  else 0
def firstE : List Int → Int
  | [] => 0
  | e :: l => if e = 0 then firstE l else e
def endsP (f : Fnc) : Bool := match f.ops.getLast? with
  | none => false
  | some o => decide (o.k = 10) || decide (o.k = 14)
def funE (p : List Fnc) (f : Fnc) : Int :=
  if f.regs < f.args then 110
  else if firstE (f.ops.map (opE p f)) ≠ 0 then firstE (f.ops.map (opE p f))
  else if endsP f then 0 else 113
def progE (p : List Fnc) : Int :=
  if !mayP p then 8 else if p.length = 0 then 110 else firstE (p.map (funE p))
def inputE (p : List Fnc) (n : Nat) : Int :=
  if progE p ≠ 0 then progE p else if (n : Int) = (fnAt p 0).args then 0 else 114

/- What it comes to. -/
structure Tk where
  p : ByteArray
  fn : Int
  args : List Int
  fuel : Int
structure Rs where
  v : Int
  e : Int
deriving DecidableEq
structure Dn where
  t : Tk
  r : Rs
  kids : Int
structure St where
  regs : List Int
  pc : Int
  left : Int
  kids : Int
  into : List Int
  waits : List Rs
  done : List Dn

def calcP (k a b : Int) : Option Int :=
  if k = 2 then some a
  else if k = 3 then some (wrap64 (a + b))
  else if k = 4 then some (wrap64 (a - b))
  else if k = 5 then some (wrap64 (a * b))
  else if k = 6 then (if b = 0 then none else some (wrap64 (a.tdiv b)))
  else if k = 7 then (if b = 0 then none else some (a.tmod b))
  else if k = 8 then some (if a < b then 1 else 0)
  else some (if a = b then 1 else 0)
def rg (l : List Int) (i : Int) : Int := l.getD i.toNat 0
def setAll : List Int → List Int → List Rs → List Int
  | r, d :: ds, x :: xs => setAll (r.set d.toNat x.v) ds xs
  | r, _, _ => r
def joinS (s : St) : Int × St :=
  if firstE (s.waits.map (·.e)) ≠ 0 then (firstE (s.waits.map (·.e)), s)
  else (0, { s with regs := setAll s.regs s.into s.waits, into := [], waits := [] })
def kidT (p : List Fnc) (t : Tk) (s : St) (o : Opr) : Tk :=
  ⟨kidS t.p (s.kids + 1), o.n, (s.regs.drop o.a.toNat).take (fnAt p o.n).args.toNat, s.left / 2⟩
def forkS (p : List Fnc) (D : Tk → Rs × List Dn) (t : Tk) (s : St) (o : Opr) : Int × St :=
  if 16 ≤ s.kids then (132, s)
  else if kidB t.p (s.kids + 1) = false then (133, s)
  else (0, { s with left := s.left - s.left / 2, kids := s.kids + 1, into := s.into ++ [o.d], waits := s.waits ++ [(D (kidT p t s o)).1], done := s.done ++ (D (kidT p t s o)).2 })
def opS (p : List Fnc) (D : Tk → Rs × List Dn) (t : Tk) (s0 : St) (o : Opr) : Bool × Int × St :=
  let s : St := { s0 with pc := s0.pc + 1 }
  if o.k = 1 then (false, 0, { s with regs := s.regs.set o.d.toNat o.n })
  else if o.k = 10 then (false, 0, { s with pc := o.n })
  else if o.k = 11 then (false, 0, if rg s.regs o.a = 0 then s else { s with pc := o.n })
  else if o.k = 12 then (false, forkS p D t s o)
  else if o.k = 13 then (false, joinS s)
  else if o.k = 14 then (true, joinS s)
  else match calcP o.k (rg s.regs o.a) (rg s.regs o.b) with
    | none => (true, 131, s)
    | some x => (false, 0, { s with regs := s.regs.set o.d.toNat x })
inductive Out
  | go (s : St)
  | stop (s : St) (r : Rs)
def opAt (p : List Fnc) (t : Tk) (s : St) : Opr := (fnAt p t.fn).ops.getD s.pc.toNat default
def stepP (p : List Fnc) (D : Tk → Rs × List Dn) (t : Tk) (s : St) : Out :=
  if s.left = 0 then .stop s ⟨0, 130⟩
  else
    let x := opS p D t { s with left := s.left - 1 } (opAt p t s)
    if x.2.1 ≠ 0 then .stop x.2.2 ⟨0, x.2.1⟩
    else if x.1 then .stop x.2.2 ⟨rg x.2.2.regs (opAt p t s).a, 0⟩
    else .go x.2.2
def runP (p : List Fnc) (D : Tk → Rs × List Dn) (t : Tk) : Nat → St → St × Rs
  | 0, s => (s, ⟨0, 0⟩)
  | n + 1, s => match stepP p D t s with
    | .stop s' r => (s', r)
    | .go s' => runP p D t n s'
def beginS (p : List Fnc) (t : Tk) : St :=
  { regs := t.args ++ List.replicate ((fnAt p t.fn).regs.toNat - t.args.length) 0, pc := 0, left := t.fuel, kids := 0, into := [], waits := [], done := [] }
def doP (p : List Fnc) : Nat → Tk → Rs × List Dn
  | 0, _ => (⟨0, 0⟩, [])
  | n + 1, t =>
    ((runP p (doP p n) t (t.fuel.toNat + 1) (beginS p t)).2,
      ⟨t, (runP p (doP p n) t (t.fuel.toNat + 1) (beginS p t)).2, (runP p (doP p n) t (t.fuel.toNat + 1) (beginS p t)).1.kids⟩ :: (runP p (doP p n) t (t.fuel.toNat + 1) (beginS p t)).1.done)
end Go.Proofs.YtdhbjejejeljoaaGreat
namespace Go.Proofs.YtdhbjejejeljoaaGreat
open Go.RowKit

/-- An op of a function that can be run. -/
structure OpOk (p : List Fnc) (f : Fnc) (o : Opr) : Prop where
  k1 : 1 ≤ o.k
  k2 : o.k ≤ 14
  d0 : 0 ≤ o.d
  a0 : 0 ≤ o.a
  b0 : 0 ≤ o.b
  a16 : o.a ≤ 16
  d : o.k ≤ 9 ∨ o.k = 12 → o.d < f.regs
  a : (2 ≤ o.k ∧ o.k ≤ 9) ∨ o.k = 11 ∨ o.k = 14 → o.a < f.regs
  b : 3 ≤ o.k ∧ o.k ≤ 9 → o.b < f.regs
  b2 : o.k = 2 → o.b = 0
  n : o.k = 10 ∨ o.k = 11 → 0 ≤ o.n ∧ o.n < f.ops.length
  fk : o.k = 12 → 0 ≤ o.n ∧ o.n < p.length ∧ (0 < (fnAt p o.n).args → o.a + (fnAt p o.n).args ≤ f.regs)
structure FnOk (p : List Fnc) (f : Fnc) : Prop where
  r0 : 0 ≤ f.args
  r1 : f.args ≤ f.regs
  r2 : f.regs ≤ 16
  o0 : 0 < f.ops.length
  o1 : f.ops.length ≤ 64
  op : ∀ o ∈ f.ops, OpOk p f o
  ends : ∀ i (h : i < f.ops.length), f.ops[i].k ≠ 10 → f.ops[i].k ≠ 14 → i + 1 < f.ops.length
def WfP (p : List Fnc) : Prop := p.length ≤ 16 ∧ ∀ f ∈ p, FnOk p f

theorem firstE_zero : ∀ {l : List Int}, firstE l = 0 → ∀ e ∈ l, e = 0
  | [], _, e, h => by cases h
  | x :: l, hz, e, h => by
    unfold firstE at hz
    split at hz
    · rename_i hx
      rcases List.mem_cons.1 h with rfl | h
      · exact hx
      · exact firstE_zero hz e h
    · rename_i hx; exact absurd hz hx
theorem opE_ok {p : List Fnc} {f : Fnc} {o : Opr} (hf : formedP o = true) (h : opE p f o = 0) : OpOk p f o := by
  unfold formedP regP at hf
  simp only [Bool.and_eq_true, Bool.or_eq_true, decide_eq_true_eq] at hf
  obtain ⟨⟨⟨⟨⟨⟨h1, h2⟩, ⟨hd, ha⟩, hb⟩, _⟩, _⟩, hb2⟩, _⟩ := hf
  unfold opE at h
  simp only [Bool.and_eq_true, Bool.or_eq_true, decide_eq_true_eq, Bool.not_eq_true', decide_eq_false_iff_not] at h
  split at h
  · cases h
  rename_i g1
  split at h
  · cases h
  rename_i g2
  refine ⟨h1, h2, hd.1, ha.1, hb.1, ha.2, fun e => ?_, fun e => ?_, fun e => ?_, fun e => ?_, fun e => ?_, fun e => ?_⟩
  · have : hasD o.k = true := by unfold hasD; simp; omega
    exact Int.not_le.1 fun g => g1 (.inl (.inl ⟨this, g⟩))
  · have : hasA o.k = true := by unfold hasA; simp; omega
    exact Int.not_le.1 fun g => g1 (.inl (.inr ⟨⟨this, by omega⟩, g⟩))
  · have : hasB o.k = true := by unfold hasB; simp; omega
    exact Int.not_le.1 fun g => g1 (.inr ⟨this, g⟩)
  · have : hasB o.k = false := by unfold hasB; simp; omega
    rcases hb2 with g | g
    · rw [this] at g; cases g
    · exact g
  · omega
  · rw [if_neg (by omega)] at h
    split at h
    · cases h
    rename_i g3
    split at h
    · cases h
    rename_i g4
    refine ⟨by omega, by omega, fun g => ?_⟩
    omega
theorem getLast_at {α : Type} {l : List α} {o : α} (h : l.getLast? = some o) : ∃ h : l.length - 1 < l.length, l[l.length - 1] = o := by
  rw [List.getLast?_eq_getElem?] at h
  obtain ⟨h1, h2⟩ := List.getElem?_eq_some_iff.1 h
  exact ⟨h1, h2⟩
theorem funE_ok {p : List Fnc} {f : Fnc} (hf : mayF f = true) (h : funE p f = 0) : FnOk p f := by
  unfold mayF regP at hf
  simp only [Bool.and_eq_true, decide_eq_true_eq, List.all_eq_true] at hf
  obtain ⟨⟨⟨h1, h2⟩, h3⟩, h4⟩ := hf
  unfold funE at h
  split at h
  · cases h
  rename_i g1
  split at h
  · rename_i g2; exact absurd h g2
  rename_i g2
  split at h
  · rename_i g3
    unfold endsP at g3
    split at g3
    · cases g3
    rename_i o ho
    obtain ⟨hl, hlast⟩ := getLast_at ho
    refine ⟨h1.1, by omega, h2.2, by omega, h3, fun o hm => opE_ok (h4 o hm) (firstE_zero (by simpa using g2) _ (List.mem_map.2 ⟨o, hm, rfl⟩)), fun i hi e1 e2 => ?_⟩
    simp only [Bool.or_eq_true, decide_eq_true_eq] at g3
    by_cases he : i = f.ops.length - 1
    · subst he; rw [hlast] at e1 e2; omega
    · omega
  · cases h
theorem progE_ok {p : List Fnc} (h : progE p = 0) : WfP p ∧ 0 < p.length := by
  unfold progE at h
  split at h
  · cases h
  rename_i g1
  split at h
  · cases h
  rename_i g2
  have g : mayP p = true := by simpa using g1
  unfold mayP at g
  simp only [Bool.and_eq_true, decide_eq_true_eq, List.all_eq_true] at g
  exact ⟨⟨g.1, fun f hf => funE_ok (g.2 f hf) (firstE_zero h _ (List.mem_map.2 ⟨f, hf, rfl⟩))⟩, by omega⟩

/-- A task that can be begun. -/
structure TkOk (p : List Fnc) (t : Tk) : Prop where
  f0 : 0 ≤ t.fn
  f1 : t.fn < p.length
  args : (t.args.length : Int) = (fnAt p t.fn).args
  u0 : 0 ≤ t.fuel
  u1 : t.fuel ≤ 65536
  sz : t.p.size ≤ 100
theorem fnAt_get {p : List Fnc} {i : Int} (h0 : 0 ≤ i) (h1 : i < p.length) : ∃ h : i.toNat < p.length, fnAt p i = p[i.toNat] := by
  refine ⟨by omega, ?_⟩
  unfold fnAt
  rw [List.getD_eq_getElem?_getD, List.getElem?_eq_getElem (by omega)]; rfl
theorem WfP.fn {p : List Fnc} (h : WfP p) {i : Int} (h0 : 0 ≤ i) (h1 : i < p.length) : FnOk p (fnAt p i) := by
  obtain ⟨hi, e⟩ := fnAt_get h0 h1
  rw [e]; exact h.2 _ (List.getElem_mem hi)

/-- What holds of each state (but of where it stands). -/
structure InvS (p : List Fnc) (t : Tk) (s : St) : Prop where
  rl : (s.regs.length : Int) = (fnAt p t.fn).regs
  pc0 : 0 ≤ s.pc
  pc1 : s.pc ≤ 64
  l0 : 0 ≤ s.left
  k0 : 0 ≤ s.kids
  k1 : s.kids ≤ 16
  il : s.into.length = s.waits.length
  ik : s.into.length ≤ s.kids
  ir : ∀ d ∈ s.into, 0 ≤ d ∧ d < (fnAt p t.fn).regs
  cnt : s.done.length + s.left ≤ t.fuel
def DOk (p : List Fnc) (D : Tk → Rs × List Dn) (n : Int) : Prop := ∀ k, TkOk p k → k.fuel < n → ((D k).2.length : Int) ≤ k.fuel + 1
theorem setAll_length : ∀ (r ds : List Int) (xs : List Rs), (setAll r ds xs).length = r.length
  | r, [], _ => by unfold setAll; rfl
  | r, _ :: _, [] => by unfold setAll; rfl
  | r, d :: ds, x :: xs => by unfold setAll; rw [setAll_length]; simp
theorem beginS_inv {p : List Fnc} {t : Tk} (hp : WfP p) (ht : TkOk p t) : InvS p t (beginS p t) := by
  have hf := hp.fn ht.f0 ht.f1
  have h1 := ht.args
  have h2 := hf.r1
  have h3 := hf.r0
  unfold beginS
  refine ⟨?_, by simp, by simp, ht.u0, by simp, by simp, rfl, by simp, by simp, by simp⟩
  simp; omega
theorem kidS_size {s : ByteArray} {n : Int} (h : kidB s n = true) : (kidS s n).size ≤ 100 := by
  have h1 : mayS s = true := by unfold kidB at h; simp only [Bool.and_eq_true] at h; exact h.1.1.1
  have h2 := mayS_le h1
  unfold kidS; rw [if_pos h]
  show (s.data ++ #[_]).size ≤ 100
  rw [Array.size_append]
  have h3 : s.data.size ≤ 12 := h2
  simp; omega
theorem kid_ok {p : List Fnc} {t : Tk} {s : St} {o : Opr} (hp : WfP p) (ht : TkOk p t) (hi : InvS p t s) (hl : s.left < t.fuel) (ho : OpOk p (fnAt p t.fn) o) (hk : o.k = 12) (hb : kidB t.p (s.kids + 1) = true) : TkOk p (kidT p t s o) ∧ (kidT p t s o).fuel < t.fuel := by
  obtain ⟨h1, h2, h3⟩ := ho.fk hk
  have hf := hp.fn h1 h2
  have hf2 := hp.fn ht.f0 ht.f1
  have hr := hi.rl
  have h4 := hf.r0
  have hl0 := hi.l0
  have hu := ht.u1
  have ha := ho.a0
  refine ⟨⟨h1, h2, ?_, ?_, ?_, kidS_size hb⟩, ?_⟩
  · simp only [kidT, List.length_take, List.length_drop]
    by_cases h5 : 0 < (fnAt p o.n).args
    · have := h3 h5; omega
    · omega
  · simp only [kidT]; omega
  · simp only [kidT]; omega
  · simp only [kidT]; omega
theorem joinS_inv {p : List Fnc} {t : Tk} {s : St} (hi : InvS p t s) : InvS p t (joinS s).2 ∧ (joinS s).2.left = s.left ∧ (joinS s).2.pc = s.pc := by
  unfold joinS
  split
  · exact ⟨hi, rfl, rfl⟩
  · exact ⟨⟨by simp only [setAll_length]; exact hi.rl, hi.pc0, hi.pc1, hi.l0, hi.k0, hi.k1, rfl, hi.k0, by simp, hi.cnt⟩, rfl, rfl⟩
theorem forkS_inv {p : List Fnc} {D : Tk → Rs × List Dn} {t : Tk} {s : St} {o : Opr} (hp : WfP p) (ht : TkOk p t) (hD : DOk p D t.fuel) (hi : InvS p t s) (hc : s.done.length + s.left < t.fuel) (ho : OpOk p (fnAt p t.fn) o) (hk : o.k = 12) :
    InvS p t (forkS p D t s o).2 ∧ (forkS p D t s o).2.left ≤ s.left ∧ (forkS p D t s o).2.pc = s.pc := by
  unfold forkS
  have hl0 := hi.l0
  split
  · exact ⟨hi, Int.le_refl _, rfl⟩
  split
  · exact ⟨hi, Int.le_refl _, rfl⟩
  rename_i h1 h2
  obtain ⟨hk1, hk2⟩ := kid_ok hp ht hi (by omega) ho hk (by simpa using h2)
  have hd := hD _ hk1 hk2
  have hdd : 0 ≤ o.d ∧ o.d < (fnAt p t.fn).regs := ⟨ho.d0, ho.d (.inr hk)⟩
  have hk0 := hi.k0
  have hil := hi.il
  have hik := hi.ik
  refine ⟨⟨hi.rl, hi.pc0, hi.pc1, by simp only []; omega, by simp only []; omega, by simp only []; omega, by simp [hil], by simp; omega, ?_, ?_⟩, by simp only []; omega, rfl⟩
  · intro d hm
    rcases List.mem_append.1 hm with hm | hm
    · exact hi.ir d hm
    · simp only [List.mem_singleton] at hm; subst hm; exact hdd
  · simp only [List.length_append, kidT] at hd ⊢
    push_cast
    omega
theorem opS_inv {p : List Fnc} {D : Tk → Rs × List Dn} {t : Tk} {s : St} {o : Opr} (hp : WfP p) (ht : TkOk p t) (hD : DOk p D t.fuel) (hi : InvS p t s) (hpc : s.pc ≤ 63) (hc : s.done.length + s.left < t.fuel) (ho : OpOk p (fnAt p t.fn) o) :
    InvS p t (opS p D t s o).2.2 ∧ (opS p D t s o).2.2.left ≤ s.left ∧ ((opS p D t s o).2.2.pc = s.pc + 1 ∨ ((o.k = 10 ∨ o.k = 11) ∧ (opS p D t s o).2.2.pc = o.n)) := by
  have hi1 : InvS p t { s with pc := s.pc + 1 } := ⟨hi.rl, by have := hi.pc0; simp only []; omega, by simp only []; omega, hi.l0, hi.k0, hi.k1, hi.il, hi.ik, hi.ir, hi.cnt⟩
  have hn : o.k = 10 ∨ o.k = 11 → InvS p t { s with pc := o.n } := fun e => by
    obtain ⟨h1, h2⟩ := ho.n e
    have h3 := (hp.fn ht.f0 ht.f1).o1
    exact ⟨hi.rl, h1, by simp only []; omega, hi.l0, hi.k0, hi.k1, hi.il, hi.ik, hi.ir, hi.cnt⟩
  have hset : ∀ v, InvS p t { s with pc := s.pc + 1, regs := s.regs.set o.d.toNat v } := fun v => ⟨by simp only [List.length_set]; exact hi.rl, hi1.pc0, hi1.pc1, hi.l0, hi.k0, hi.k1, hi.il, hi.ik, hi.ir, hi.cnt⟩
  unfold opS
  simp only []
  by_cases k1 : o.k = 1
  · rw [if_pos k1]; exact ⟨hset _, by simp, .inl rfl⟩
  rw [if_neg k1]
  by_cases k10 : o.k = 10
  · rw [if_pos k10]; exact ⟨hn (.inl k10), by simp, .inr ⟨.inl k10, rfl⟩⟩
  rw [if_neg k10]
  by_cases k11 : o.k = 11
  · rw [if_pos k11]
    split
    · exact ⟨hi1, by simp, .inl rfl⟩
    · exact ⟨hn (.inr k11), by simp, .inr ⟨.inr k11, rfl⟩⟩
  rw [if_neg k11]
  by_cases k12 : o.k = 12
  · rw [if_pos k12]
    obtain ⟨h1, h2, h3⟩ := forkS_inv hp ht hD hi1 hc ho k12
    exact ⟨h1, h2, .inl h3⟩
  rw [if_neg k12]
  obtain ⟨j1, j2, j3⟩ := joinS_inv hi1
  by_cases k13 : o.k = 13
  · rw [if_pos k13]; exact ⟨j1, by rw [j2]; simp, .inl j3⟩
  rw [if_neg k13]
  by_cases k14 : o.k = 14
  · rw [if_pos k14]; exact ⟨j1, by rw [j2]; simp, .inl j3⟩
  rw [if_neg k14]
  cases calcP o.k (rg s.regs o.a) (rg s.regs o.b) with
  | none => exact ⟨hi1, by simp, .inl rfl⟩
  | some x => exact ⟨hset _, by simp, .inl rfl⟩
/-- Where it stands is in the function. -/
def AtOk (p : List Fnc) (t : Tk) (s : St) : Prop := s.pc < (fnAt p t.fn).ops.length
theorem opAt_ok {p : List Fnc} {t : Tk} {s : St} (hp : WfP p) (ht : TkOk p t) (hi : InvS p t s) (ha : AtOk p t s) : OpOk p (fnAt p t.fn) (opAt p t s) := by
  have h0 := hi.pc0
  unfold AtOk at ha
  unfold opAt
  rw [List.getD_eq_getElem?_getD, List.getElem?_eq_getElem (by omega)]
  exact (hp.fn ht.f0 ht.f1).op _ (List.getElem_mem _)
theorem InvS.pay {p : List Fnc} {t : Tk} {s : St} (hi : InvS p t s) (hl : s.left ≠ 0) : InvS p t { s with left := s.left - 1 } ∧ s.done.length + (s.left - 1) < t.fuel := by
  have h0 := hi.l0
  have hc := hi.cnt
  exact ⟨⟨hi.rl, hi.pc0, hi.pc1, by simp only []; omega, hi.k0, hi.k1, hi.il, hi.ik, hi.ir, by simp only []; omega⟩, by omega⟩
theorem step_go {p : List Fnc} {D : Tk → Rs × List Dn} {t : Tk} {s s' : St} (hp : WfP p) (ht : TkOk p t) (hD : DOk p D t.fuel) (hi : InvS p t s) (ha : AtOk p t s) (h : stepP p D t s = .go s') : InvS p t s' ∧ AtOk p t s' ∧ s'.left < s.left := by
  unfold stepP at h
  split at h
  · cases h
  rename_i hl
  obtain ⟨h1, h2⟩ := hi.pay hl
  have ho := opAt_ok hp ht hi ha
  have hl0 := hi.l0
  have h63 : s.pc ≤ 63 := by have := (hp.fn ht.f0 ht.f1).o1; unfold AtOk at ha; omega
  obtain ⟨g1, g2, g3⟩ := opS_inv hp ht hD h1 h63 h2 ho
  simp only [] at h
  split at h
  · cases h
  split at h
  · cases h
  rename_i he hd
  injection h with h
  subst h
  refine ⟨g1, ?_, by simp only [] at g2; omega⟩
  unfold AtOk
  rcases g3 with g3 | ⟨g3, g4⟩
  · have hne : (opAt p t s).k ≠ 14 := by
      intro e
      unfold opS at hd
      simp [e] at hd
    by_cases h10 : (opAt p t s).k = 10
    · have : (opS p D t { s with left := s.left - 1 } (opAt p t s)).2.2.pc = (opAt p t s).n := by unfold opS; simp [h10]
      rw [this]; exact (ho.n (.inl h10)).2
    · have hp0 := hi.pc0
      have he := (hp.fn ht.f0 ht.f1).ends s.pc.toNat (by unfold AtOk at ha; omega)
      have e9 : opAt p t s = (fnAt p t.fn).ops[s.pc.toNat]'(by unfold AtOk at ha; omega) := by
        unfold opAt
        rw [List.getD_eq_getElem?_getD, List.getElem?_eq_getElem (by unfold AtOk at ha; omega)]; rfl
      rw [e9] at hne h10
      have := he h10 hne
      rw [g3]; simp only []; omega
  · rw [g4]; exact (ho.n g3).2
theorem step_stop {p : List Fnc} {D : Tk → Rs × List Dn} {t : Tk} {s s' : St} {r : Rs} (hp : WfP p) (ht : TkOk p t) (hD : DOk p D t.fuel) (hi : InvS p t s) (ha : AtOk p t s) (h : stepP p D t s = .stop s' r) : InvS p t s' := by
  unfold stepP at h
  split at h
  · injection h with h _; subst h; exact hi
  rename_i hl
  obtain ⟨h1, h2⟩ := hi.pay hl
  have ho := opAt_ok hp ht hi ha
  have h63 : s.pc ≤ 63 := by have := (hp.fn ht.f0 ht.f1).o1; unfold AtOk at ha; omega
  obtain ⟨g1, g2, g3⟩ := opS_inv hp ht hD h1 h63 h2 ho
  simp only [] at h
  split at h
  · injection h with h _; subst h; exact g1
  split at h
  · injection h with h _; subst h; exact g1
  · cases h
theorem run_inv {p : List Fnc} {D : Tk → Rs × List Dn} {t : Tk} (hp : WfP p) (ht : TkOk p t) (hD : DOk p D t.fuel) : ∀ (n : Nat) (s : St), InvS p t s → AtOk p t s → s.left < n → InvS p t (runP p D t n s).1
  | 0, s, hi, _, h => by have := hi.l0; omega
  | n + 1, s, hi, ha, h => by
    unfold runP
    cases hs : stepP p D t s with
    | stop s' r => exact step_stop hp ht hD hi ha hs
    | go s' =>
      obtain ⟨h1, h2, h3⟩ := step_go hp ht hD hi ha hs
      exact run_inv hp ht hD n s' h1 h2 (by omega)
theorem begin_at {p : List Fnc} {t : Tk} (hp : WfP p) (ht : TkOk p t) : AtOk p t (beginS p t) := by
  have := (hp.fn ht.f0 ht.f1).o0
  unfold AtOk beginS
  simp only []; omega
theorem doP_ok {p : List Fnc} (hp : WfP p) : ∀ (n : Nat), DOk p (doP p n) n
  | 0, k, hk, h => by have := hk.u0; omega
  | n + 1, k, hk, h => by
    have h0 := hk.u0
    have ih : DOk p (doP p n) k.fuel := fun k' h1 h2 => doP_ok hp n k' h1 (by omega)
    have := run_inv hp hk ih (k.fuel.toNat + 1) (beginS p k) (beginS_inv hp hk) (begin_at hp hk) (by unfold beginS; simp only []; omega)
    have hc := this.cnt
    have hl := this.l0
    unfold doP
    simp only [List.length_cons]
    push_cast
    omega
end Go.Proofs.YtdhbjejejeljoaaGreat
