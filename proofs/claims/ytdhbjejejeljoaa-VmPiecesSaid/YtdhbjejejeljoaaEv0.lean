/- What a program comes to, plainly. -/
import Derived.Test.YtdhbjejejeljoaaBranch2
namespace Go.Proofs.Ytdhbjejejeljoaa
open Go.RowKit

structure Opr where
  k : Int
  d : Int
  a : Int
  b : Int
  n : Int
deriving Inhabited
structure Fnc where
  args : Int
  regs : Int
  ops : List Opr
  oa : Option Addr
  oc : Nat
instance : Inhabited Fnc := ⟨⟨0, 0, [], none, 0⟩⟩
def encO (o : Opr) : List Value := [.int .u8 o.k, .int .i64 o.d, .int .i64 o.a, .int .i64 o.b, .int .i64 o.n]
def encF (f : Fnc) : List Value := [.int .i64 f.args, .int .i64 f.regs, .slice f.oa f.ops.length f.oc]

/- Which programs have their form. -/
def hasD (k : Int) : Bool := (decide (1 ≤ k) && decide (k ≤ 9)) || decide (k = 12)
def hasA (k : Int) : Bool := (decide (2 ≤ k) && decide (k ≤ 9)) || decide (k = 11) || decide (k = 12) || decide (k = 14)
def hasB (k : Int) : Bool := decide (3 ≤ k) && decide (k ≤ 9)
def hasN (k : Int) : Bool := decide (k = 1) || decide (k = 10) || decide (k = 11) || decide (k = 12)
def regP (x : Int) : Bool := decide (0 ≤ x) && decide (x ≤ 16)
def formedP (o : Opr) : Bool := decide (1 ≤ o.k) && decide (o.k ≤ 14) && (regP o.d && regP o.a && regP o.b) && (hasD o.k || decide (o.d = 0)) && (hasA o.k || decide (o.a = 0)) && (hasB o.k || decide (o.b = 0)) && (hasN o.k || decide (o.n = 0))
def mayF (f : Fnc) : Bool := regP f.args && regP f.regs && decide (f.ops.length ≤ 64) && f.ops.all formedP
def mayP (p : List Fnc) : Bool := decide (p.length ≤ 16) && p.all mayF

/- Which can be run. -/
def fnAt (p : List Fnc) (i : Int) : Fnc := p.getD i.toNat default
def opE (p : List Fnc) (f : Fnc) (o : Opr) : Int :=
  if (hasD o.k && decide (f.regs ≤ o.d)) || (hasA o.k && !decide (o.k = 12) && decide (f.regs ≤ o.a)) || (hasB o.k && decide (f.regs ≤ o.b)) then 111
  else if (decide (o.k = 10) || decide (o.k = 11)) && (decide (o.n < 0) || decide ((f.ops.length : Int) ≤ o.n)) then 112
  else if o.k ≠ 12 then 0
  else if decide (o.n < 0) || decide ((p.length : Int) ≤ o.n) then 112
  else if decide (0 < (fnAt p o.n).args) && decide (f.regs < o.a + (fnAt p o.n).args) then 111
  else 0
def firstE : List Int → Int
  | [] => 0
  | e :: l => if e = 0 then firstE l else e
def endsP (f : Fnc) : Bool := match f.ops.getLast? with
  | none => false
  | some o => decide (o.k = 10) || decide (o.k = 14)
def funE (p : List Fnc) (f : Fnc) : Int :=
  if f.regs < f.args then 110
  else if firstE (f.ops.map (opE p f)) ≠ 0 then firstE (f.ops.map (opE p f))
  else if endsP f then 0 else 113
def progE (p : List Fnc) : Int :=
  if !mayP p then 8 else if p.length = 0 then 110 else firstE (p.map (funE p))
def inputE (p : List Fnc) (n : Nat) : Int :=
  if progE p ≠ 0 then progE p else if (n : Int) = (fnAt p 0).args then 0 else 114

/- What it comes to. -/
structure Tk where
  p : ByteArray
  fn : Int
  args : List Int
  fuel : Int
structure Rs where
  v : Int
  e : Int
deriving DecidableEq
structure Dn where
  t : Tk
  r : Rs
  kids : Int
structure St where
  regs : List Int
  pc : Int
  left : Int
  kids : Int
  into : List Int
  waits : List Rs
  done : List Dn

def calcP (k a b : Int) : Option Int :=
  if k = 2 then some a
  else if k = 3 then some (wrap64 (a + b))
  else if k = 4 then some (wrap64 (a - b))
  else if k = 5 then some (wrap64 (a * b))
  else if k = 6 then (if b = 0 then none else some (wrap64 (a.tdiv b)))
  else if k = 7 then (if b = 0 then none else some (a.tmod b))
  else if k = 8 then some (if a < b then 1 else 0)
  else some (if a = b then 1 else 0)
def rg (l : List Int) (i : Int) : Int := l.getD i.toNat 0
def setAll : List Int → List Int → List Rs → List Int
  | r, d :: ds, x :: xs => setAll (r.set d.toNat x.v) ds xs
  | r, _, _ => r
def joinS (s : St) : Int × St :=
  if firstE (s.waits.map (·.e)) ≠ 0 then (firstE (s.waits.map (·.e)), s)
  else (0, { s with regs := setAll s.regs s.into s.waits, into := [], waits := [] })
def kidT (p : List Fnc) (t : Tk) (s : St) (o : Opr) : Tk :=
  ⟨kidS t.p (s.kids + 1), o.n, (s.regs.drop o.a.toNat).take (fnAt p o.n).args.toNat, s.left / 2⟩
def forkS (p : List Fnc) (D : Tk → Rs × List Dn) (t : Tk) (s : St) (o : Opr) : Int × St :=
  if 16 ≤ s.kids then (132, s)
  else if kidB t.p (s.kids + 1) = false then (133, s)
  else (0, { s with left := s.left - s.left / 2, kids := s.kids + 1, into := s.into ++ [o.d], waits := s.waits ++ [(D (kidT p t s o)).1], done := s.done ++ (D (kidT p t s o)).2 })
def opS (p : List Fnc) (D : Tk → Rs × List Dn) (t : Tk) (s0 : St) (o : Opr) : Bool × Int × St :=
  let s : St := { s0 with pc := s0.pc + 1 }
  if o.k = 1 then (false, 0, { s with regs := s.regs.set o.d.toNat o.n })
  else if o.k = 10 then (false, 0, { s with pc := o.n })
  else if o.k = 11 then (false, 0, if rg s.regs o.a = 0 then s else { s with pc := o.n })
  else if o.k = 12 then (false, forkS p D t s o)
  else if o.k = 13 then (false, joinS s)
  else if o.k = 14 then (true, joinS s)
  else match calcP o.k (rg s.regs o.a) (rg s.regs o.b) with
    | none => (true, 131, s)
    | some x => (false, 0, { s with regs := s.regs.set o.d.toNat x })
inductive Out
  | go (s : St)
  | stop (s : St) (r : Rs)
def opAt (p : List Fnc) (t : Tk) (s : St) : Opr := (fnAt p t.fn).ops.getD s.pc.toNat default
def stepP (p : List Fnc) (D : Tk → Rs × List Dn) (t : Tk) (s : St) : Out :=
  if s.left = 0 then .stop s ⟨0, 130⟩
  else
    let x := opS p D t { s with left := s.left - 1 } (opAt p t s)
    if x.2.1 ≠ 0 then .stop x.2.2 ⟨0, x.2.1⟩
    else if x.1 then .stop x.2.2 ⟨rg x.2.2.regs (opAt p t s).a, 0⟩
    else .go x.2.2
def runP (p : List Fnc) (D : Tk → Rs × List Dn) (t : Tk) : Nat → St → St × Rs
  | 0, s => (s, ⟨0, 0⟩)
  | n + 1, s => match stepP p D t s with
    | .stop s' r => (s', r)
    | .go s' => runP p D t n s'
def beginS (p : List Fnc) (t : Tk) : St :=
  { regs := t.args ++ List.replicate ((fnAt p t.fn).regs.toNat - t.args.length) 0, pc := 0, left := t.fuel, kids := 0, into := [], waits := [], done := [] }
def doP (p : List Fnc) : Nat → Tk → Rs × List Dn
  | 0, _ => (⟨0, 0⟩, [])
  | n + 1, t =>
    ((runP p (doP p n) t (t.fuel.toNat + 1) (beginS p t)).2,
      ⟨t, (runP p (doP p n) t (t.fuel.toNat + 1) (beginS p t)).2, (runP p (doP p n) t (t.fuel.toNat + 1) (beginS p t)).1.kids⟩ :: (runP p (doP p n) t (t.fuel.toNat + 1) (beginS p t)).1.done)
end Go.Proofs.Ytdhbjejejeljoaa
