/- The document's example: its steps. -/
import Derived.Test.YthbkbmkcgpdedaaJoin10
namespace Go.Proofs.Ythbkbmkcgpdedaa
open Go.RowKit Go.Sort Go.Lib

/-- A block of another type than rows. -/
def Box (r : Nat) (c : Array Value) (E : TypeId) (w : World) : Prop := w.heap[r]? = some (.cells c E (0, 0))
structure Wj (w0 : World) (f m : Nat) (most : Int) (T : Tb) (w : World) : Prop where
  hf : w0.heap.size ≤ f
  hm : w0.heap.size ≤ m
  hr : ∀ p ∈ T, w0.heap.size ≤ p.2.1
  tab : Tab w f m most T
  low : Below w0.heap.size w0 w
/-- Boxes stay. -/
def Kept (w w' : World) : Prop := ∀ r c E, E ≠ 85 → Box r c E w → Box r c E w'
theorem Kept.refl (w : World) : Kept w w := fun _ _ _ _ h => h
theorem Kept.trans {a b c : World} (h : Kept a b) (k : Kept b c) : Kept a c := fun r x E hE hb => k r x E hE (h r x E hE hb)
theorem Kept.below {w w' : World} (h : Below w.heap.size w w') : Kept w w' := fun r _ _ _ hb => (h.block r (Array.getElem?_eq_some_iff.1 hb).1).trans hb
theorem Tab.kept {w w' : World} {f m : Nat} {most : Int} {T : Tb} {S : Nat → Prop} (h : Tab w f m most T) (hF : Fr S w w') (hS : ∀ i, S i → i < w.heap.size → i = m ∨ InRows T i) : Kept w w' := by
  intro r c E hE hb
  have hl := (Array.getElem?_eq_some_iff.1 hb).1
  refine (hF.block r hl ?_).trans hb
  intro hs
  rcases hS r hs hl with rfl | ⟨p, hp, rfl⟩
  · exact h.notMap hb rfl
  · have h1 := (h.row p hp).1
    unfold Box at hb
    rw [hb] at h1
    unfold rowO at h1
    injection h1 with h1
    injection h1 with _ h1 _
    exact hE h1
theorem Box.cell {r : Nat} {c : Array Value} {E : TypeId} {w : World} (h : Box r c E w) (o : Nat) : w.cell? ⟨r, o, none⟩ = c[o]? := by unfold Box at h; simp [World.cell?, h]
theorem Wj.below {w0 w w' : World} {f m : Nat} {most : Int} {T : Tb} (h : Wj w0 f m most T w) (hB : Below w.heap.size w w') : Wj w0 f m most T w' :=
  ⟨h.hf, h.hm, h.hr, h.tab.below hB, h.low.trans (hB.mono h.low.size)⟩
theorem Wj.fr {w0 w w' : World} {f m : Nat} {most : Int} {T T' : Tb} {S : Nat → Prop} (h : Wj w0 f m most T w) (hT : Tab w' f m most T') (hF : Fr S w w') (hS : ∀ i, S i → i = m ∨ InRows T i) (hr' : ∀ p ∈ T', w0.heap.size ≤ p.2.1) : Wj w0 f m most T' w' ∧ Kept w w' :=
  ⟨⟨h.hf, h.hm, hr', hT, h.low.trans (hF.below (fun i hi => by rcases hS i hi with rfl | ⟨p, hp, rfl⟩; exact h.hm; exact h.hr p hp) h.low.size)⟩, h.tab.kept hF (fun i hi _ => hS i hi)⟩

abbrev nR : Nm := (1, ⟨#[]⟩)
abbrev nK : Nm := (1, ⟨#[1]⟩)
def rw0 (aa : Option Addr) (ac : Nat) (st op val : Int) (fk : Bool) : Rw := ⟨0, aa, ac, [1], 9, st, op, val, 0, fk⟩
def tb1 (b : Nat) (aa : Option Addr) (ac : Nat) (st op val : Int) : Tb := [(nR, b, rw0 aa ac st op val false)]
def tb2 (b : Nat) (aa : Option Addr) (ac : Nat) (st op val : Int) (b2 : Nat) (aa2 : Option Addr) (ac2 : Nat) (st2 op2 val2 : Int) : Tb := [(nR, b, rw0 aa ac st op val false), (nK, b2, rw0 aa2 ac2 st2 op2 val2 true)]
section
variable {w0 w : World} {f m : Nat} {b b2 : Nat} {aa aa2 : Option Addr} {ac ac2 : Nat} {st op val st2 op2 val2 : Int}
theorem get1 : getL (tb1 b aa ac st op val) nR = some (b, rw0 aa ac st op val false) := rfl
theorem get2R : getL (tb2 b aa ac st op val b2 aa2 ac2 st2 op2 val2) nR = some (b, rw0 aa ac st op val false) := rfl
theorem nKR : (nK = nR) = False := by simp
theorem nRK : (nR = nK) = False := by simp
theorem get2K : getL (tb2 b aa ac st op val b2 aa2 ac2 st2 op2 val2) nK = some (b2, rw0 aa2 ac2 st2 op2 val2 true) := by
  unfold getL tb2
  rw [List.find?_cons_of_neg (by simp), List.find?_cons_of_pos (by simp)]; rfl
theorem upd1 (st' op' val' : Int) : updT (tb1 b aa ac st op val) nR (rw0 aa ac st' op' val' false) = tb1 b aa ac st' op' val' := by simp [updT, tb1]
theorem upd2R (st' op' val' : Int) : updT (tb2 b aa ac st op val b2 aa2 ac2 st2 op2 val2) nR (rw0 aa ac st' op' val' false) = tb2 b aa ac st' op' val' b2 aa2 ac2 st2 op2 val2 := by simp [updT, tb2]
theorem upd2K (st' op' val' : Int) : updT (tb2 b aa ac st op val b2 aa2 ac2 st2 op2 val2) nK (rw0 aa2 ac2 st' op' val' true) = tb2 b aa ac st op val b2 aa2 ac2 st' op' val' := by simp [updT, tb2]
theorem wj_new (w : World) : Calls Try.prog 8 #[.int .i64 3] w fun e w' => ∃ f m, e = .returned (.tuple #[.pointer (some ⟨f, 0, none⟩), .int .i64 0]) ∧ Wj w f m 3 [] w' := by
  refine (new_tab 3 w (by decide) (by decide)).mono ?_
  rintro e w' ⟨f, m, rfl, hf, hm, hT, hB⟩
  exact ⟨f, m, rfl, hf, hm, (by intro p hp; cases hp), hT, hB⟩
theorem wj_put {c : Nat} {a : Option Addr} (h : Wj w0 f m 3 [] w) (hv : ReadsK encI 1 w (.slice a 1 c) [1]) :
    Calls Try.prog 9 #[.pointer (some ⟨f, 0, none⟩), .int .u64 1, .agg #[.string ⟨#[]⟩, .int .i64 0, .slice a 1 c, .int .i64 9]] w fun e w' => e = .returned (.int .i64 0) ∧ ∃ b aa ac, Wj w0 f m 3 (tb1 b aa ac 1 0 0) w' ∧ Kept w w' := by
  refine (put_tab f m 3 [] 1 ⟨#[]⟩ 0 9 _ [1] w h.tab hv (by decide) (by decide) (by decide)).mono ?_
  have h0 : putE [] 3 (1, ⟨#[]⟩) = 0 := by decide +kernel
  rintro e w' ⟨rfl, hh⟩
  rw [h0] at hh ⊢
  rcases hh with ⟨h1, _⟩ | ⟨_, b, aa, ac, hb, hT, hF⟩
  · exact absurd rfl h1
  · refine ⟨rfl, b, aa, ac, h.fr hT hF (fun i hi => .inl hi) ?_⟩
    intro p hp
    cases List.mem_singleton.1 hp
    exact Nat.le_trans h.low.size hb
theorem wj_fork {c : Nat} {a : Option Addr} (h : Wj w0 f m 3 (tb1 b aa ac 2 0 0) w) (hv : ReadsK encI 1 w (.slice a 1 c) [1]) :
    Calls Try.prog 12 #[.pointer (some ⟨f, 0, none⟩), .agg #[.int .u64 1, .string ⟨#[]⟩], .agg #[.string ⟨#[1]⟩, .int .i64 0, .slice a 1 c, .int .i64 9]] w fun e w' => e = .returned (.int .i64 0) ∧ ∃ b2 aa2 ac2, Wj w0 f m 3 (tb2 b aa ac 2 1 0 b2 aa2 ac2 1 0 0) w' ∧ Kept w w' := by
  refine (fork_tab f m 3 (tb1 b aa ac 2 0 0) nR ⟨#[1]⟩ 0 9 _ [1] w h.tab hv (by decide) (by simp [tb1]) (by decide) (by simp [tb1, rw0])).mono ?_
  have h0 : forkE (tb1 b aa ac 2 0 0) 3 nR ⟨#[1]⟩ = 0 := by kernel_rfl
  rintro e w' ⟨rfl, hh⟩
  rw [h0] at hh ⊢
  rcases hh with ⟨h1, _⟩ | ⟨_, b', r, b2, aa2, ac2, hg, _, hb, hT, hF⟩
  · exact absurd rfl h1
  · rw [get1] at hg
    cases hg
    have hT' : Tab w' f m 3 (tb2 b aa ac 2 1 0 b2 aa2 ac2 1 0 0) := by
      have := upd2R (b := b) (aa := aa) (ac := ac) (st := 2) (op := 0) (val := 0) (b2 := b2) (aa2 := aa2) (ac2 := ac2) (st2 := 1) (op2 := 0) (val2 := 0) 2 1 0
      rw [← this]; exact hT
    refine ⟨rfl, b2, aa2, ac2, h.fr hT' hF (fun i hi => ?_) ?_⟩
    · rcases hi with rfl | rfl
      · exact .inl rfl
      · exact .inr ⟨_, getL_mem' get1, rfl⟩
    · intro p hp
      simp [tb2] at hp
      rcases hp with rfl | rfl
      · exact h.hr (nR, b, rw0 aa ac 2 0 0 false) (getL_mem' get1)
      · exact Nat.le_trans h.low.size hb
/-- Begin, where the row's state lets it be. -/
theorem wj_begin {T T' : Tb} {n : Nm} {aa : Option Addr} {ac : Nat} {b : Nat} {st op val : Int} {fk : Bool} (h : Wj w0 f m 3 T w) (hg : getL T n = some (b, rw0 aa ac st op val fk)) (hst : st = 1 ∨ st = 4) (hT : updT T n (rw0 aa ac 2 op val fk) = T') (ha : ∀ p ∈ T, p.2.2.args.length ≤ 1000000) :
    Calls Try.prog 14 #[.pointer (some ⟨f, 0, none⟩), .agg #[.int .u64 n.1, .string n.2]] w fun e w' => (∃ a c, e = .returned (.tuple #[.agg #[.string n.2, .int .i64 0, .slice a 1 c, .int .i64 9], .int .i64 0])) ∧ Wj w0 f m 3 T' w' ∧ Kept w w' := by
  refine (begin_tab f m 3 T n w h.tab ha).mono ?_
  have hm : (rw0 aa ac st op val fk).st ∈ [(1 : Int), 4] := by rcases hst with rfl | rfl <;> simp [rw0]
  rintro e w' (⟨h1, _⟩ | ⟨b', r, a, c, hg', _, rfl, _, hT', hF⟩)
  · exact absurd (by unfold ofV; rw [hg]; simp only []; rw [if_pos hm]) h1
  · rw [hg] at hg'
    cases hg'
    refine ⟨⟨a, c, rfl⟩, h.fr (T' := T') (by rw [← hT]; exact hT') hF (fun i hi => .inr (inRows hg hi)) ?_⟩
    intro p hp
    rw [← hT] at hp
    unfold updT at hp
    obtain ⟨q, hq, rfl⟩ := List.mem_map.1 hp
    have := h.hr q hq
    split <;> exact this
theorem wj_wait {T : Tb} {n : Nm} {aa : Option Addr} {ac : Nat} {b : Nat} {op val : Int} {fk : Bool} (h : Wj w0 f m 3 T w) (hg : getL T n = some (b, rw0 aa ac 2 op val fk)) :
    Calls Try.prog 17 #[.pointer (some ⟨f, 0, none⟩), .agg #[.int .u64 n.1, .string n.2]] w fun e w' => e = .returned (.tuple #[.bool (!decide (op = 0)), .int .i64 0]) ∧ Wj w0 f m 3 (if op = 0 then T else updT T n (rw0 aa ac 3 op val fk)) w' ∧ Kept w w' := by
  refine (wait_tab f m 3 T n w h.tab).mono ?_
  have hm : (rw0 aa ac 2 op val fk).st ∈ [(2 : Int)] := by simp [rw0]
  have key : waitV T n = (!decide (op = 0), 0) := by
    unfold waitV; rw [hg]; simp only []; rw [if_pos hm]
    by_cases h0 : op = 0
    · rw [if_pos (by exact h0), decide_eq_true h0]; rfl
    · rw [if_neg (by exact h0), decide_eq_false h0]; rfl
  have key2 : waitT T n = if op = 0 then T else updT T n (rw0 aa ac 3 op val fk) := by
    unfold waitT; rw [key, hg]
    by_cases h0 : op = 0
    · rw [if_pos h0, decide_eq_true h0]; rfl
    · rw [if_neg h0, decide_eq_false h0]; rfl
  rintro e w' ⟨rfl, hT, hF⟩
  rw [key, key2] at *
  refine ⟨rfl, h.fr hT hF (fun i hi => .inr hi) ?_⟩
  intro p hp
  split at hp
  · exact h.hr p hp
  · unfold updT at hp
    obtain ⟨q, hq, rfl⟩ := List.mem_map.1 hp
    have := h.hr q hq
    split <;> exact this
theorem parK : parS ⟨#[1]⟩ = ⟨#[]⟩ := by decide +kernel
theorem wj_over_kid (h : Wj w0 f m 3 (tb2 b aa ac 3 1 0 b2 aa2 ac2 2 0 0) w) :
    Calls Try.prog 23 #[.pointer (some ⟨f, 0, none⟩), .agg #[.int .u64 1, .string ⟨#[1]⟩], .agg #[.int .i64 5, .int .i64 0]] w fun e w' => e = .returned (.tuple #[.agg #[.int .u64 1, .string ⟨#[]⟩], .bool true, .int .i64 0]) ∧ Wj w0 f m 3 (tb2 b aa ac 4 0 0 b2 aa2 ac2 6 0 5) w' ∧ Kept w w' := by
  refine (over_tab f m 3 _ nK 5 0 b2 (rw0 aa2 ac2 2 0 0 true) w h.tab get2K (by simp [rw0]) (by decide) (fun _ => ⟨by rw [parK]; simp, b, rw0 aa ac 3 1 0 false, by rw [parK]; exact get2R, by simp [rw0], by simp [rw0]⟩)).mono ?_
  have key : overU (updT (tb2 b aa ac 3 1 0 b2 aa2 ac2 2 0 0) nK (overR1 (rw0 aa2 ac2 2 0 0 true) 5 0)) nK (rw0 aa2 ac2 2 0 0 true) = (true, tb2 b aa ac 4 0 0 b2 aa2 ac2 6 0 5) := by
    have e1 : overR1 (rw0 aa2 ac2 2 0 0 true) 5 0 = rw0 aa2 ac2 6 0 5 true := rfl
    rw [e1, upd2K]
    unfold overU
    rw [if_pos (by rfl), parK, get2R]
    simp only []
    rw [if_neg (by simp [rw0])]
    have e2 : ({ rw0 aa ac 3 1 0 false with op := (rw0 aa ac 3 1 0 false).op - 1 } : Rw) = rw0 aa ac 3 0 0 false := rfl
    have e3 : ({ rw0 aa ac 3 1 0 false with st := 4, op := (rw0 aa ac 3 1 0 false).op - 1 } : Rw) = rw0 aa ac 4 0 0 false := rfl
    rw [e2, e3, upd2R, upd2R]
  rintro e w' ⟨rfl, hT, hF⟩
  rw [key] at *
  refine ⟨by rw [parK]; rfl, h.fr hT hF (fun i hi => .inr hi) ?_⟩
  intro p hp
  simp [tb2] at hp
  rcases hp with rfl | rfl
  · exact h.hr (nR, b, rw0 aa ac 3 1 0 false) (getL_mem' get2R)
  · exact h.hr (nK, b2, rw0 aa2 ac2 2 0 0 true) (getL_mem' get2K)
theorem wj_over_root (h : Wj w0 f m 3 (tb2 b aa ac 2 0 0 b2 aa2 ac2 6 0 5) w) :
    Calls Try.prog 23 #[.pointer (some ⟨f, 0, none⟩), .agg #[.int .u64 1, .string ⟨#[]⟩], .agg #[.int .i64 6, .int .i64 0]] w fun e w' => e = .returned (.tuple #[.agg #[.int .u64 0, .string ⟨#[]⟩], .bool false, .int .i64 0]) ∧ Wj w0 f m 3 (tb2 b aa ac 6 0 6 b2 aa2 ac2 6 0 5) w' ∧ Kept w w' := by
  refine (over_tab f m 3 _ nR 6 0 b (rw0 aa ac 2 0 0 false) w h.tab get2R (by simp [rw0]) (by decide) (fun h => by cases h)).mono ?_
  have key : overU (updT (tb2 b aa ac 2 0 0 b2 aa2 ac2 6 0 5) nR (overR1 (rw0 aa ac 2 0 0 false) 6 0)) nR (rw0 aa ac 2 0 0 false) = (false, tb2 b aa ac 6 0 6 b2 aa2 ac2 6 0 5) := by
    have e1 : overR1 (rw0 aa ac 2 0 0 false) 6 0 = rw0 aa ac 6 0 6 false := rfl
    rw [e1, upd2R]
    rfl
  rintro e w' ⟨rfl, hT, hF⟩
  rw [key] at *
  refine ⟨rfl, h.fr hT hF (fun i hi => .inr hi) ?_⟩
  intro p hp
  simp [tb2] at hp
  rcases hp with rfl | rfl
  · exact h.hr (nR, b, rw0 aa ac 2 0 0 false) (getL_mem' get2R)
  · exact h.hr (nK, b2, rw0 aa2 ac2 6 0 5 true) (getL_mem' get2K)
end
end Go.Proofs.Ythbkbmkcgpdedaa
