/- Run, whatever the number: package vm's, and the document's. -/
import Derived.Test.YtdhbjejejeljoaaFd10
import Derived.Test.YtdhbjejejeljoaaVmP1
namespace Go.Proofs.Ytdhbjejejeljoaa
open Go.RowKit Go.Sort Go.Lib

theorem progLow_mono {B Z : Nat} {v : Value} {p : List Fnc} (h : ProgLow B v p) (hz : B ≤ Z) : ProgLow Z v p :=
  ⟨fun a n c e hp => Nat.lt_of_lt_of_le (h.1 a n c e hp) hz, fun f hf a e hp => Nat.lt_of_lt_of_le (h.2 f hf a e hp) hz⟩
/-- Something else turns, all of it behind the frame. -/
theorem Frm.farD {B x r Z : Nat} {kv : Value} {p : List Fnc} {t : Tk} {s : Vs} {w w' : World} {S : Nat → Prop} {Es : List TypeId} (h : Frm B x r kv p t s w) (hF : Fr S w w') (hT : Typed S w Es) (hlo : ∀ i, S i → Z ≤ i) (hx : x < Z ∧ r < Z) (e1 : OpT ∉ Es) (e2 : FnT ∉ Es) (e3 : ChT ∉ Es) (hres : ResT ∉ Es ∨ s.result = none) : Frm B x r kv p t s w' := by
  obtain ⟨pv, p', av, wv, rv, h1, h2⟩ := h
  have hv := h1.vm
  refine ⟨pv, p', av, wv, rv, ⟨⟨hv.box.fr hF (fun e => by have := hlo x e; omega), hv.regs.fr hF (fun e => by have := hlo r e; omega), own_typed hv.kids hF hT e3, hv.wt.typed hF hT e1, ?_⟩, h1.pr.typed hF hT e2 e1, h1.same, own_fr h1.args hF (fun i hi hs => by have := h1.al i hi; have := hlo i hs; omega), h1.sep, h1.bx, h1.bk, h1.al⟩, h2⟩
  rcases hres with h | h
  · exact hv.rs.typed hF hT h
  · have h0 := hv.rs
    rw [h] at h0 ⊢
    exact h0
/-- Package vm's frame turns, the document's one behind it stays. -/
theorem Fd.farV {B x r1 Z b q r : Nat} {kv pv av gv cv iv : Value} {p : List Fnc} {t : Tk} {s1 s : Vs} {w w' : World} (h : Fd Z b q r pv t av gv cv iv s w) (hv : Frm B x r1 kv p t s1 w) (hF : Fr (VmS x r1 kv) w w') (hx : x < Z ∧ r1 < Z) : Fd Z b q r pv t av gv cv iv s w' := by
  have hT := hv.typed
  obtain ⟨_, _, _, _, _, g1, _⟩ := hv
  obtain ⟨wo, hbx, hw⟩ := h.box
  obtain ⟨f, hr, hf⟩ := h.run
  have hrg := hr.regs.fr hF (by
    have hz := hr.zq
    rintro ((e | e) | e)
    · omega
    · omega
    · exact own_not_box g1.vm.kids hr.regs (by decide) e)
  exact ⟨⟨wo, box_typed hbx hF hT (by decide), hw⟩, ⟨f, ⟨box_typed hr.box hF hT (by decide), hrg, own_typed hr.into hF hT (by decide), own_typed hr.done hF hT (by decide), (fun d hd => nomatch hd), (fun d hd => nomatch hd), hr.dn, Below.refl _ _, hr.zq, hr.ik, hr.ifr⟩, hf⟩, own_typed h.gvn hF hT (by decide), own_typed h.cam hF hT (by decide), h.zb, h.dn, h.lf⟩
/-- Numbers that were told stay, while a frame older than they runs. -/
theorem Fd.nums {Z b q r n Z' : Nat} {pv av gv cv iv v : Value} {t : Tk} {s : Vs} {xs : List Value} {w w' : World} (h : Fd Z b q r pv t av gv cv iv s w) (hF : Fr (FdS b q r gv cv iv) w w') (ho : w.ownsRow Z' I64T 1 v n xs) (hr : r < Z') : w'.ownsRow Z' I64T 1 v n xs := by
  obtain ⟨wo, hbx, _⟩ := h.box
  obtain ⟨f, hru, _⟩ := h.run
  refine own_fr ho hF (fun i hi hs => ?_)
  rcases hs with e | e | e | e | e | e
  · exact own_not_box ho hbx (by decide) (by rw [hi, e])
  · exact own_not_box ho hru.box (by decide) (by rw [hi, e])
  · have := (ho.lt i hi).1; omega
  · exact own_not_own ho h.gvn (by decide) hi e
  · exact own_not_own ho h.cam (by decide) hi e
  · exact own_not_own ho hru.into (by decide) hi e
theorem Fd.typedM {Z b q r : Nat} {pv av gv cv iv : Value} {t : Tk} {s : Vs} {w : World} (h : Fd Z b q r pv t av gv cv iv s w) : Typed (SmS b q r iv) w [DFrT, RunT, I64T, IntT] := by
  obtain ⟨wo, hb, _⟩ := h.box
  obtain ⟨f, hr, _⟩ := h.run
  exact (typed_box hb).or ((typed_box hr.box).or ((typed_box hr.regs).or (typed_own hr.into)))
theorem Fd.rlt {Z b q r : Nat} {pv av gv cv iv : Value} {t : Tk} {s : Vs} {w : World} (h : Fd Z b q r pv t av gv cv iv s w) : r < w.heap.size := by
  obtain ⟨f, hr, _⟩ := h.run
  exact (Array.getElem?_eq_some_iff.1 hr.regs).1
/-- Both. -/
structure TwD (B x r1 : Nat) (kv : Value) (Z b q r : Nat) (pv av gv cv iv : Value) (p : List Fnc) (t : Tk) (s1 s2 : Vs) (w0 w : World) : Prop where
  f : Frm B x r1 kv p t s1 w
  d : Fd Z b q r pv t av gv cv iv s2 w
  lt : x < Z ∧ r1 < Z
  low : Below w0.heap.size w0 w
  le : w0.heap.size ≤ B ∧ w0.heap.size ≤ Z
section
variable {B x r1 Z b q r : Nat} {kv kv' pv av gv cv iv gv' cv' iv' : Value} {p : List Fnc} {t : Tk} {s1 s2 s' : Vs} {w0 w w' : World}
theorem TwD.below (h : TwD B x r1 kv Z b q r pv av gv cv iv p t s1 s2 w0 w) (hB : Below w.heap.size w w') : TwD B x r1 kv Z b q r pv av gv cv iv p t s1 s2 w0 w' := ⟨h.f.below hB, h.d.below hB, h.lt, gthen h.low hB, h.le⟩
theorem TwD.runf (h : TwD B x r1 kv Z b q r pv av gv cv iv p t s1 s2 w0 w) (hf : Frm B x r1 kv' p t s' w') (hl : VmL x r1 kv w kv' w') : TwD B x r1 kv' Z b q r pv av gv cv iv p t s' s2 w0 w' :=
  ⟨hf, h.d.farV h.f hl.fr h.lt, h.lt, h.low.trans (hl.fr.below (fun i hi => Nat.le_trans h.le.1 (h.f.low i hi)) h.low.size), h.le⟩
theorem TwD.lowD (h : TwD B x r1 kv Z b q r pv av gv cv iv p t s1 s2 w0 w) {S : Nat → Prop} (hF : Fr S w w') (hS : ∀ i, S i → FdS b q r gv cv iv i) : Below w0.heap.size w0 w' :=
  h.low.trans (hF.below (fun i hi => Nat.le_trans h.le.2 (h.d.lo i (hS i hi))) h.low.size)
theorem TwD.rund (h : TwD B x r1 kv Z b q r pv av gv cv iv p t s1 s2 w0 w) (hd : Fd Z b q r pv t av gv' cv' iv' s' w') (hl : FdL b q r gv cv iv w gv' cv' iv' w') {K : Prop} (hs : K → Fr (SmS b q r iv) w w') (hk : K ∨ s1.result = none) : TwD B x r1 kv Z b q r pv av gv' cv' iv' p t s1 s' w0 w' := by
  refine ⟨?_, hd, h.lt, h.lowD hl.fr (fun _ h => h), h.le⟩
  rcases hk with hk | hk
  · exact h.f.farD (hs hk) h.d.typedM (fun i hi => h.d.lo i (SmS.up i hi)) h.lt (by decide) (by decide) (by decide) (.inl (by decide))
  · exact h.f.farD hl.fr h.d.typedS h.d.lo h.lt (by decide) (by decide) (by decide) (.inr hk)
theorem TwD.gived (h : TwD B x r1 kv Z b q r pv av gv cv iv p t s1 s2 w0 w) (hd : Fd Z b q r pv t av gv cv iv s' w') (hF : Fr (fun i => gv.ownBlock = some i ∨ cv.ownBlock = some i) w w') (hs : s2.result ≠ none → Below w.heap.size w w') (he : s1.result = s2.result) : TwD B x r1 kv Z b q r pv av gv cv iv p t s1 s' w0 w' := by
  have hup : ∀ i, (gv.ownBlock = some i ∨ cv.ownBlock = some i) → FdS b q r gv cv iv i := fun i hi => by
    rcases hi with e | e
    · exact .inr (.inr (.inr (.inl e)))
    · exact .inr (.inr (.inr (.inr (.inl e))))
  refine ⟨?_, hd, h.lt, h.lowD hF hup, h.le⟩
  by_cases h0 : s2.result = none
  · exact h.f.farD hF ((typed_own h.d.gvn).or (typed_own h.d.cam)) (fun i hi => h.d.lo i (hup i hi)) h.lt (by decide) (by decide) (by decide) (.inr (he.trans h0))
  · exact h.f.below (hs h0)
theorem TwD.boxf (h : TwD B x r1 kv Z b q r pv av gv cv iv p t s1 s2 w0 w) (hl : VmL x r1 kv w kv' w') {c : Nat} {cur : Array Value} {E : TypeId} (hb : BoxAt w c cur E) (hE : E ∉ [FrameT, I64T, ChT]) : BoxAt w' c cur E := box_typed hb hl.fr h.f.typed hE
theorem TwD.boxd (h : TwD B x r1 kv Z b q r pv av gv cv iv p t s1 s2 w0 w) (hF : Fr (FdS b q r gv cv iv) w w') {c : Nat} {cur : Array Value} {E : TypeId} (hb : BoxAt w c cur E) (hE : E ∉ [DFrT, RunT, I64T, BoolT, ResT, IntT]) : BoxAt w' c cur E := box_typed hb hF h.d.typedS hE
/-- A fresh box beside. -/
theorem TwD.prog (h : TwD B x r1 kv Z b q r pv av gv cv iv p t s1 s2 w0 w) (hp : ProgAt w0 pv p) : ProgAt w pv p ∧ ProgLow Z pv p := ⟨hp.below h.low, progLow_mono hp.low h.le.2⟩
end
theorem giveV_res {s : Vs} (c : Int) (z : Rs) : (giveV s c z).2.result = s.result := by
  unfold giveV
  split
  · rfl
  · split
    · rfl
    · split
      · rfl
      · rfl
end Go.Proofs.Ytdhbjejejeljoaa
namespace Go.Proofs.Ytdhbjejejeljoaa
open Go.RowKit Go.Sort Go.Lib

/-- What Run answers, its error, and what it leaves. -/
def runI (p : List Fnc) (t : Tk) (n : Int) (s : Vs) : Sp × Int × Vs :=
  if n < 1 then (⟨0, noTk, ⟨0, 0⟩⟩, 2, s) else ((runV p t n.toNat s).1, 0, (runV p t n.toNat s).2)
theorem runI_facts {p : List Fnc} {t : Tk} {n ee : Int} {s s' : Vs} {y : Sp} (hR : runI p t n s = (y, ee, s')) (hwf : WfP p) (htk : TkOk p t) (hi : InvV p t s) (ha : AtV p t s) : (y.k = 2 → s'.result = none) ∧ y.kid.args.length ≤ 16 := by
  unfold runI at hR
  by_cases h : n < 1
  · rw [if_pos h] at hR
    injection hR with h1 h2
    subst h1
    exact ⟨fun h => absurd h (by decide), Nat.zero_le _⟩
  · rw [if_neg h] at hR
    injection hR with h1 h2
    injection h2 with h2 h3
    subst h1; subst h3
    exact ⟨fun hk => (runV_told _ hk).1, runV_args hwf htk _ hi ha⟩
section
variable {B x r : Nat} {kv : Value} {p : List Fnc} {t : Tk} {s s' : Vs} {w : World} {y : Sp} {ee : Int}
theorem frm_runI (n : Int) (hn : n ≤ 3000) (h : Frm B x r kv p t s w) (hR : runI p t n s = (y, ee, s')) : Calls Try.prog 10 #[.pointer (some ⟨x, 0, none⟩), .int .i64 n] w fun e w' =>
    ∃ va vc kv', e = .returned (.tuple #[.agg #[.int .u8 y.k, .string y.kid.p, .int .i64 y.kid.fn, .slice va y.kid.args.length vc, .int .i64 y.kid.fuel, .int .i64 y.r.v, .int .i64 y.r.e], .int .i64 ee]) ∧ w'.ownsRow w.heap.size I64T 1 (.slice va y.kid.args.length vc) y.kid.args.length (y.kid.args.flatMap encN1) ∧ Frm B x r kv' p t s' w' ∧ VmL x r kv w kv' w' := by
  unfold runI at hR
  by_cases hl : n < 1
  · rw [if_pos hl] at hR
    injection hR with h1 h2
    injection h2 with h2 h3
    subst h1; subst h2; subst h3
    refine (frm_low n hl h).mono ?_
    rintro e w' ⟨rfl, hB⟩
    exact ⟨none, 0, kv, rfl, World.ownsRow_nil _ _ _ _, h.below hB, ⟨.of_below hB, .inl rfl⟩⟩
  · rw [if_neg hl] at hR
    injection hR with h1 h2
    injection h2 with h2 h3
    subst h2
    obtain ⟨m, rfl⟩ : ∃ m : Nat, n = m := ⟨n.toNat, by omega⟩
    rw [Int.toNat_natCast] at h1 h3
    exact frm_run m (by omega) (by omega) h (R := (y, s')) (Prod.ext h1 h3)
end
theorem drun_I {Z b q r : Nat} {pv : Value} {t : Tk} {av gv cv iv : Value} {s s' : Vs} {w : World} {p : List Fnc} {y : Sp} {ee : Int} (n : Int) (hn : n ≤ 3000) (h : Fd Z b q r pv t av gv cv iv s w) (hpr : ProgAt w pv p) (hlo : ProgLow Z pv p) (hwf : WfP p) (htk : TkOk p t) (hi : InvV p t s) (ha : AtV p t s) (hR : runI p t n s = (y, ee, s')) :
    Calls Try.prog 11 #[.pointer (some ⟨b, 0, none⟩), .int .i64 n] w fun e w' =>
      ∃ va vc gv' cv' iv', e = .returned (.tuple #[.agg #[.int .u8 y.k, .string y.kid.p, .int .i64 y.kid.fn, .slice va y.kid.args.length vc, .int .i64 y.kid.fuel, .int .i64 y.r.v, .int .i64 y.r.e], .int .i64 ee]) ∧ w'.ownsRow w.heap.size I64T 1 (.slice va y.kid.args.length vc) y.kid.args.length (y.kid.args.flatMap encN1) ∧ Fd Z b q r pv t av gv' cv' iv' s' w' ∧ FdL b q r gv cv iv w gv' cv' iv' w' ∧ (y.k ≠ 2 → Fr (SmS b q r iv) w w') := by
  unfold runI at hR
  by_cases hl : n < 1
  · rw [if_pos hl] at hR
    injection hR with h1 h2
    injection h2 with h2 h3
    subst h1; subst h2; subst h3
    refine (drun_low n hl h).mono ?_
    rintro e w' ⟨rfl, hB⟩
    exact ⟨none, 0, gv, cv, iv, rfl, World.ownsRow_nil _ _ _ _, h.below hB, FdL.stay (.of_below hB), fun _ => .of_below hB⟩
  · rw [if_neg hl] at hR
    injection hR with h1 h2
    injection h2 with h2 h3
    subst h2
    obtain ⟨m, rfl⟩ : ∃ m : Nat, n = m := ⟨n.toNat, by omega⟩
    rw [Int.toNat_natCast] at h1 h3
    refine (drun_any m (by omega) (by omega) h hpr hlo hwf htk hi ha).mono ?_
    rintro e w' ⟨v, gv', cv', iv', rfl, ho, hd, hl, hs⟩
    rw [h1] at ho hs ⊢
    rw [h3] at hd
    obtain ⟨va, vc, rfl⟩ := own_slice ho
    exact ⟨va, vc, gv', cv', iv', rfl, ho, hd, hl, hs⟩
end Go.Proofs.Ytdhbjejejeljoaa
