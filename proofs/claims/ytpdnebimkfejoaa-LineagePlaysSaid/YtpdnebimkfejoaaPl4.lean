/- Both trees: what their roots have in common. -/
import Derived.Test.YtpdnebimkfejoaaDt7
import Derived.Test.YtpdnebimkfejoaaLpLaw
import Derived.Deep.LoopGhost
import Derived.Deep.DeepCutAuto
namespace Go.Proofs.Ytpdnebimkfejoaa
open Go.RowKit Go.Sort Go.Lib

/-- Roots' numbers that lie ahead of Z stay, however the rest turns. -/
theorem ArgsZ.keep2 {Z : Nat} {w0 w w' : World} {r : Rw} (h : ArgsZ Z w r) (h0 : Below Z w0 w) (h1 : Below Z w0 w') (hz : Z ≤ w0.heap.size) : ArgsZ Z w' r := by
  refine ⟨?_, h.2⟩
  rcases h.1 with e | ⟨b, off, cap, hv, hb, hc⟩
  · exact .inl e
  · injection hv with e1 e2 e3
    by_cases hne : r.args = []
    · exact .inl ⟨hne, _, _, by rw [hne]; rfl⟩
    have hz2 := h.2 _ e1 hne
    refine .inr ⟨b, off, cap, by rw [e1, e3], Nat.lt_of_lt_of_le hz2 (Nat.le_trans hz h1.size), fun i hi t u hu => ?_⟩
    rw [h1.cell (p := ⟨b, off + (i * 1 + t), none⟩) hz2, ← h0.cell (p := ⟨b, off + (i * 1 + t), none⟩) hz2]
    exact hc i hi t u hu
section
variable {w0 w w' : World} {f m r : Nat} {lv lv' : Value} {A A' : Al} {l l' : Al}
/-- Blocks of these types turn: the table stays. -/
theorem Tab.typed {T : Tb} {S : Nat → Prop} (h : Tab w f m T) (hF : Fr S w w') (hT : Typed S w [TrT, RootT]) : Tab w' f m T := by
  have far : ∀ (i : Nat) (c : Array Value) (E : TypeId) (fr : Nat × Nat), w.heap[i]? = some (.cells c E fr) → E ∉ [TrT, RootT] → w'.heap[i]? = w.heap[i]? := fun i c E fr hi hE =>
    hF.block i (Array.getElem?_eq_some_iff.1 hi).1 (fun hs => by
      obtain ⟨E', c', f', hE', hb⟩ := hT i hs (Array.getElem?_eq_some_iff.1 hi).1
      rw [hi] at hb
      injection hb with hb
      injection hb with _ hb _
      exact hE (hb ▸ hE'))
  refine ⟨(far _ _ _ _ h.box (by decide)).trans h.box, h.map.block (hF.block m h.lt.2.1 fun hs => ?_), fun p hp => ?_, h.nd⟩
  · obtain ⟨E', c', f', _, hb⟩ := hT m hs h.lt.2.1
    obtain ⟨es, c, h2⟩ := h.mapAt
    rw [h2] at hb; cases hb
  · have hr := h.row p hp
    exact ⟨(far _ _ _ _ hr.1 (by decide)).trans hr.1, Args.far hr.2 (fun i cur hi => far i _ _ _ hi (by decide))⟩
/-- Both, and what they say of each other. -/
structure Pl (w0 : World) (f m r : Nat) (lv : Value) (A l : Al) (w : World) : Prop where
  t : Lt w0 f m A w
  d : Dt w0.heap.size r lv l w
  s : Sd A l
theorem Pl.below (h : Pl w0 f m r lv A l w) (hB : Below w.heap.size w w') : Pl w0 f m r lv A l w' := ⟨h.t.below hB, h.d.below hB, h.s⟩
/-- The tree turns: its rows. -/
theorem Pl.left (h : Pl w0 f m r lv A l w) (ht : Lt w0 f m A' w') (hk : Kept w w') : Lt w0 f m A' w' ∧ Dt w0.heap.size r lv l w' :=
  ⟨ht, ⟨hk _ _ _ (by decide) h.d.box, own_kept h.d.own (by decide) hk, h.d.zr, fun p hp => (h.d.args p hp).keep2 h.t.low ht.low (Nat.le_refl _)⟩⟩
/-- The document's tree turns. -/
theorem lt_right (ht : Lt w0 f m A w) (hd : Dt w0.heap.size r lv l w) (hL : DL r lv w lv' w') : Lt w0 f m A w' := by
  obtain ⟨T, hT, h⟩ := ht
  have hty : Typed (fun i => i = r ∨ lv.ownBlock = some i) w [TrT, RootT] := (typed_box hd.box).or (typed_own hd.own)
  refine ⟨T, hT, h.hf, h.hm, h.hr, h.tab.typed hL.fr hty, h.low.trans (hL.fr.below (fun i hi => ?_) h.low.size), h.ok, h.sz⟩
  rcases hi with e | e
  · subst e; exact hd.zr
  · exact (hd.own.lt i e).1
/-- A box of another type stays while the document's tree turns. -/
theorem box_right {s : Nat} {c : Array Value} {E : TypeId} (hb : Box s c E w) (hd : Dt w0.heap.size r lv l w) (hL : DL r lv w lv' w') (hE : E ∉ [TrT, RootT]) : Box s c E w' := by
  have hty : Typed (fun i => i = r ∨ lv.ownBlock = some i) w [TrT, RootT] := (typed_box hd.box).or (typed_own hd.own)
  exact box_typed (show BoxAt w s c E from hb) hL.fr hty hE
theorem own_right {Z n k : Nat} {v : Value} {xs : List Value} {E : TypeId} (ho : w.ownsRow Z E k v n xs) (hd : Dt w0.heap.size r lv l w) (hL : DL r lv w lv' w') (hE : E ∉ [TrT, RootT]) : w'.ownsRow Z E k v n xs := by
  have hty : Typed (fun i => i = r ∨ lv.ownBlock = some i) w [TrT, RootT] := (typed_box hd.box).or (typed_own hd.own)
  exact own_typed ho hL.fr hty hE
theorem Pl.len (h : Pl w0 f m r lv A l w) : l.length ≤ 1024 := by rw [h.s.len]; exact h.t.len
theorem Pl.may (h : Pl w0 f m r lv A l w) : ∀ p ∈ l, mayS p.1.2 = true := h.s.may (fun p hp => (h.t.ok p hp).1)
/-- What each op answers, at both. -/
theorem Pl.hold (h : Pl w0 f m r lv A l w) {w1 : World} {n : Nm} {k e : Int} (ht : Lt w0 f m (holdA A n k e) w1) (hk : Kept w w1) {w2 : World} (hd : Dt w0.heap.size r lv (holdA l n k e) w2) (hL : DL r lv w1 lv w2) : Pl w0 f m r lv (holdA A n k e) (holdA l n k e) w2 :=
  ⟨lt_right ht (h.left ht hk).2 hL, hd, (h.s.hold n k e).1⟩
theorem Pl.over (h : Pl w0 f m r lv A l w) {w1 : World} {n : Nm} (ht : Lt w0 f m (overA A n) w1) (hk : Kept w w1) {w2 : World} (hd : Dt w0.heap.size r lv (overA l n) w2) (hL : DL r lv w1 lv w2) : Pl w0 f m r lv (overA A n) (overA l n) w2 :=
  ⟨lt_right ht (h.left ht hk).2 hL, hd, (h.s.over n).1⟩
theorem Pl.lost (h : Pl w0 f m r lv A l w) {w1 : World} {ks : List Int} (ht : Lt w0 f m (lostA A ks) w1) (hk : Kept w w1) {w2 : World} (hd : Dt w0.heap.size r lv (lostA l ks) w2) (hL : DL r lv w1 lv w2) : Pl w0 f m r lv (lostA A ks) (lostA l ks) w2 :=
  ⟨lt_right ht (h.left ht hk).2 hL, hd, h.s.lost ks⟩
theorem drop_pick (A : Al) (job : Int) : dropA A [job] = pickA A (fun n _ => !decide (n.1 = job)) := by
  unfold dropA pickA
  apply List.filter_congr
  intro p _
  simp [badJ]
theorem Pl.drop (h : Pl w0 f m r lv A l w) {w1 : World} {job : Int} (ht : Lt w0 f m (dropA A [job]) w1) (hk : Kept w w1) {w2 : World} (hd : Dt w0.heap.size r lv' (dropD l job) w2) (hL : DL r lv w1 lv' w2) : Pl w0 f m r lv' (dropA A [job]) (dropD l job) w2 := by
  refine ⟨lt_right ht (h.left ht hk).2 hL, hd, ?_⟩
  rw [drop_pick]
  exact h.s.pickS (P := fun n _ => !decide (n.1 = job)) (fun _ _ => rfl)
theorem Sd.dropLen (h : Sd A l) (job : Int) : (dropD l job).length = (dropA A [job]).length := by
  have h1 := (h.pickS (P := fun n _ => !decide (n.1 = job)) (fun _ _ => rfl)).len
  rw [← drop_pick] at h1
  exact h1
/-- The lists of names and roots that both tell. -/
theorem Sd.names (h : Sd A l) {P : Nm → Rw → Bool} (hP : ∀ n r, P n (core r) = P n r) : (sortV (pickA A P)).map (·.1) = (l.filter fun p => P p.1 p.2).map (·.1) := by
  rw [← h.pick hP, core_keys]
theorem Sd.lostNames (h : Sd A l) (ks : List Int) : (sortV (pickA A (fun _ r => lostB ks r))).map (·.1) = lostN l ks := h.names (P := fun _ r => lostB ks r) (fun _ _ => rfl)
theorem Sd.waitNames (h : Sd A l) : (sortV (pickA A (fun _ r => decide (r.st = 1)))).map (·.1) = waitsD l := h.names (P := fun _ r => decide (r.st = 1)) (fun _ _ => rfl)
theorem Sd.withinRoots (h : Sd A l) (n : Nm) : sortV (pickA A (fun a _ => withinA A n a)) = (withinD l l n).map coreP := by
  have e : (fun (a : Nm) (_ : Rw) => withinA A n a) = fun a _ => withinA l n a := by
    funext a _
    unfold withinA
    rw [h.has]
  rw [e]
  exact (h.pick (P := fun a _ => withinA l n a) (fun _ _ => rfl)).symm
/-- What is told of one root. -/
theorem Sd.of (h : Sd A l) (n : Nm) : ofA A n = (getL l n).map fun r => (n, core r) := by
  unfold ofA
  rw [h.get]
  cases getL l n <;> rfl
theorem Sd.above (h : Sd A l) (n : Nm) : aboveA A n = (upN (hasA l) n).bind fun u => (getL l u).map fun r => (u, core r) := by
  unfold aboveA
  rw [h.has]
  cases upN (hasA l) n with
  | none => rfl
  | some u =>
    simp only [Option.bind_some]
    rw [h.get]
    cases getL l u <;> rfl
end
end Go.Proofs.Ytpdnebimkfejoaa
namespace Go.Proofs.Ytpdnebimkfejoaa
open Go.RowKit Go.Sort Go.Lib

section
variable {w0 w w' : World} {f m r : Nat} {lv lv' : Value} {A A' : Al} {l l' : Al}
/-- The tree turns: the document's tree stays. -/
theorem dt_left (ht : Lt w0 f m A w) (ht' : Lt w0 f m A' w') (hd : Dt w0.heap.size r lv l w) (hk : Kept w w') : Dt w0.heap.size r lv l w' :=
  ⟨hk _ _ _ (by decide) hd.box, own_kept hd.own (by decide) hk, hd.zr, fun p hp => (hd.args p hp).keep2 ht.low ht'.low (Nat.le_refl _)⟩
/-- A script's own numbers lie ahead. -/
theorem argsZ_of {W ws : World} {ta : Option Addr} {tc : Nat} {args : List Int} (fn fuel : Int) (h : ReadsK encI 1 W (.slice ta args.length tc) args) (hB : Below W.heap.size W ws) : ArgsZ W.heap.size ws ⟨fn, ta, tc, args, fuel, 1, 0, 0⟩ := by
  refine ⟨h.below hB, fun a ha hne => ?_⟩
  rcases h with ⟨e, _⟩ | ⟨b, off, cap, hv, hb, _⟩
  · exact absurd e hne
  · injection hv with e1 _ _
    have e2 : some a = some ⟨b, off, none⟩ := by rw [← e1]; exact ha.symm
    injection e2 with e2
    rw [e2]; exact hb
theorem AddDP.both {Z : Nat} {n : Nm} {c : Rw} {e : Ending} (hs : Sd A l) (h : AddDP Z r lv l n c w e w') : e = .returned (.int .i64 (addEA A n)) ∧ ∃ lv' l', Sd (addA A n (core c)) l' ∧ Dt Z r lv' l' w' ∧ DL r lv w lv' w' := by
  obtain ⟨he, h⟩ := h
  rw [hs.addE] at he h
  refine ⟨he, ?_⟩
  unfold addA
  rcases h with ⟨h0, hd, hl⟩ | ⟨h0, lv', k, hk, hd, hl⟩
  · rw [if_neg h0]; exact ⟨_, _, hs, hd, hl⟩
  · rw [if_pos h0]; exact ⟨_, _, hs.add h0 hk, hd, hl⟩
theorem HoldDP.both {Z : Nat} {n : Nm} {k ep : Int} {e : Ending} (hs : Sd A l) (h : HoldDP Z r lv l n k ep w e w') : e = .returned (.int .i64 (holdEA A n k ep)) ∧ ∃ lv' l', Sd (holdA A n k ep) l' ∧ Dt Z r lv' l' w' ∧ DL r lv w lv' w' := by
  obtain ⟨he, hd, hl⟩ := h
  rw [(hs.hold n k ep).2] at he
  exact ⟨he, _, _, (hs.hold n k ep).1, hd, hl⟩
theorem OverDP.both {Z : Nat} {n : Nm} {e : Ending} (hs : Sd A l) (h : OverDP Z r lv l n w e w') : e = .returned (.int .i64 (overEA A n)) ∧ ∃ lv' l', Sd (overA A n) l' ∧ Dt Z r lv' l' w' ∧ DL r lv w lv' w' := by
  obtain ⟨he, hd, hl⟩ := h
  rw [(hs.over n).2] at he
  exact ⟨he, _, _, (hs.over n).1, hd, hl⟩
theorem DropDP.both {Z : Nat} {job : Int} {e : Ending} (hs : Sd A l) (h : DropDP Z r lv l job w e w') : e = .returned (.int .i64 ((A.length : Int) - (dropA A [job]).length)) ∧ ∃ lv' l', Sd (dropA A [job]) l' ∧ Dt Z r lv' l' w' ∧ DL r lv w lv' w' := by
  obtain ⟨he, lv', hd, hl⟩ := h
  rw [hs.len, hs.dropLen] at he
  refine ⟨he, _, _, ?_, hd, hl⟩
  rw [drop_pick]
  exact hs.pickS (P := fun n _ => !decide (n.1 = job)) (fun _ _ => rfl)
/-- The names that both tell. -/
def lostV (A : Al) (ks : List Int) : List Nm := (sortV (pickA A (fun _ r => lostB ks r))).map (·.1)
theorem LostDP.both {Z : Nat} {ks : List Int} {e : Ending} (hs : Sd A l) (h : LostDP Z r lv l ks w e w') : ∃ v, e = .returned v ∧ w'.ownsRow w.heap.size NmT 2 v (lostV A ks).length ((lostV A ks).flatMap encM) ∧ ∃ lv' l', Sd (lostA A ks) l' ∧ Dt Z r lv' l' w' ∧ DL r lv w lv' w' := by
  obtain ⟨v, he, ho, hd, hl⟩ := h
  rw [← hs.lostNames] at ho
  exact ⟨v, he, ho, _, _, hs.lost ks, hd, hl⟩
end
end Go.Proofs.Ytpdnebimkfejoaa
namespace Go.Proofs.Ytpdnebimkfejoaa
open Go.RowKit

def sl (ts : Array Value) (i : Nat) : Value := ts.getD i undef
theorem frame_of {n : Nat} {ts : Array Value} (h : ts.size = n) : ts = ((List.range n).map (sl ts)).toArray := by
  apply Array.ext
  · simp [h]
  · intro i h1 h2
    simp [sl, Array.getD, h1]
set_option maxRecDepth 100000 in
theorem frame_lit218 {ts : Array Value} (h : ts.size = 218) : ts = #[sl ts 0, sl ts 1, sl ts 2, sl ts 3, sl ts 4, sl ts 5, sl ts 6, sl ts 7, sl ts 8, sl ts 9, sl ts 10, sl ts 11, sl ts 12, sl ts 13, sl ts 14, sl ts 15, sl ts 16, sl ts 17, sl ts 18, sl ts 19, sl ts 20, sl ts 21, sl ts 22, sl ts 23, sl ts 24, sl ts 25, sl ts 26, sl ts 27, sl ts 28, sl ts 29, sl ts 30, sl ts 31, sl ts 32, sl ts 33, sl ts 34, sl ts 35, sl ts 36, sl ts 37, sl ts 38, sl ts 39, sl ts 40, sl ts 41, sl ts 42, sl ts 43, sl ts 44, sl ts 45, sl ts 46, sl ts 47, sl ts 48, sl ts 49, sl ts 50, sl ts 51, sl ts 52, sl ts 53, sl ts 54, sl ts 55, sl ts 56, sl ts 57, sl ts 58, sl ts 59, sl ts 60, sl ts 61, sl ts 62, sl ts 63, sl ts 64, sl ts 65, sl ts 66, sl ts 67, sl ts 68, sl ts 69, sl ts 70, sl ts 71, sl ts 72, sl ts 73, sl ts 74, sl ts 75, sl ts 76, sl ts 77, sl ts 78, sl ts 79, sl ts 80, sl ts 81, sl ts 82, sl ts 83, sl ts 84, sl ts 85, sl ts 86, sl ts 87, sl ts 88, sl ts 89, sl ts 90, sl ts 91, sl ts 92, sl ts 93, sl ts 94, sl ts 95, sl ts 96, sl ts 97, sl ts 98, sl ts 99, sl ts 100, sl ts 101, sl ts 102, sl ts 103, sl ts 104, sl ts 105, sl ts 106, sl ts 107, sl ts 108, sl ts 109, sl ts 110, sl ts 111, sl ts 112, sl ts 113, sl ts 114, sl ts 115, sl ts 116, sl ts 117, sl ts 118, sl ts 119, sl ts 120, sl ts 121, sl ts 122, sl ts 123, sl ts 124, sl ts 125, sl ts 126, sl ts 127, sl ts 128, sl ts 129, sl ts 130, sl ts 131, sl ts 132, sl ts 133, sl ts 134, sl ts 135, sl ts 136, sl ts 137, sl ts 138, sl ts 139, sl ts 140, sl ts 141, sl ts 142, sl ts 143, sl ts 144, sl ts 145, sl ts 146, sl ts 147, sl ts 148, sl ts 149, sl ts 150, sl ts 151, sl ts 152, sl ts 153, sl ts 154, sl ts 155, sl ts 156, sl ts 157, sl ts 158, sl ts 159, sl ts 160, sl ts 161, sl ts 162, sl ts 163, sl ts 164, sl ts 165, sl ts 166, sl ts 167, sl ts 168, sl ts 169, sl ts 170, sl ts 171, sl ts 172, sl ts 173, sl ts 174, sl ts 175, sl ts 176, sl ts 177, sl ts 178, sl ts 179, sl ts 180, sl ts 181, sl ts 182, sl ts 183, sl ts 184, sl ts 185, sl ts 186, sl ts 187, sl ts 188, sl ts 189, sl ts 190, sl ts 191, sl ts 192, sl ts 193, sl ts 194, sl ts 195, sl ts 196, sl ts 197, sl ts 198, sl ts 199, sl ts 200, sl ts 201, sl ts 202, sl ts 203, sl ts 204, sl ts 205, sl ts 206, sl ts 207, sl ts 208, sl ts 209, sl ts 210, sl ts 211, sl ts 212, sl ts 213, sl ts 214, sl ts 215, sl ts 216, sl ts 217] := (frame_of h).trans rfl
end Go.Proofs.Ytpdnebimkfejoaa
namespace Go.Proofs.Ytpdnebimkfejoaa
open Go.RowKit Go.Sort Go.Lib

abbrev stepC (x : Stp) (ta : Option Addr) (tc : Nat) : Array Value := #[.int .i64 x.op, .int .u64 x.n.1, .string x.n.2, .string x.t.p, .int .i64 x.t.fn, .slice ta x.t.args.length tc, .int .i64 x.t.fuel, .int .i64 x.wk, .int .i64 x.vk, .int .u64 x.ep]
abbrev StepT : TypeId := 34
theorem step_cells {w : World} {s : Nat} {x : Stp} {ta : Option Addr} {tc : Nat} (h : Box s (stepC x ta tc) StepT w) :
    w.cell? ⟨s, 0, none⟩ = some (.int .i64 x.op) ∧ w.cell? ⟨s, 1, none⟩ = some (.int .u64 x.n.1) ∧ w.cell? ⟨s, 2, none⟩ = some (.string x.n.2) ∧ w.cell? ⟨s, 3, none⟩ = some (.string x.t.p) ∧ w.cell? ⟨s, 4, none⟩ = some (.int .i64 x.t.fn) ∧ w.cell? ⟨s, 5, none⟩ = some (.slice ta x.t.args.length tc) ∧ w.cell? ⟨s, 6, none⟩ = some (.int .i64 x.t.fuel) ∧ w.cell? ⟨s, 7, none⟩ = some (.int .i64 x.wk) ∧ w.cell? ⟨s, 8, none⟩ = some (.int .i64 x.vk) ∧ w.cell? ⟨s, 9, none⟩ = some (.int .u64 x.ep) :=
  ⟨h.cell 0, h.cell 1, h.cell 2, h.cell 3, h.cell 4, h.cell 5, h.cell 6, h.cell 7, h.cell 8, h.cell 9⟩
theorem step_keep {w w' : World} {s : Nat} {x : Stp} {ta : Option Addr} {tc : Nat} (h : Box s (stepC x ta tc) StepT w) (hk : Kept w w') : Box s (stepC x ta tc) StepT w' := hk _ _ _ (by decide) h
theorem reads_u1 (w : World) (a : Int) (T : TypeId) : ReadsK encU64 1 (w.alloc (.cells #[.int .u64 a] T)) (.slice (some ⟨w.heap.size, 0, none⟩) 1 1) [a] := by
  refine .inr ⟨w.heap.size, 0, 1, rfl, by simp, fun i hi t u hu => ?_⟩
  have : i = 0 := by simpa using hi
  subst this
  match t with
  | 0 => simp [encU64] at hu; subst hu; simp
  | t + 1 => simp [encU64] at hu
abbrev zC : Array Value := #[.int .u64 0, .string ⟨#[]⟩, .string ⟨#[]⟩, .int .i64 0, .slice none 0 0, .int .i64 0, .int .u8 0, .int .i64 0, .int .u64 0]
theorem reads_i2 {w : World} {n : Nat} {a b : Int} (h : BoxAt w n #[.int .i64 a, .int .i64 b] IntT) : ReadsK encI 1 w (.slice (some ⟨n, 0, none⟩) 2 2) [a, b] := by
  refine .inr ⟨n, 0, 2, rfl, (Array.getElem?_eq_some_iff.1 h).1, fun i hi t u hu => ?_⟩
  have hi2 : i < 2 := hi
  match t with
  | t + 1 => simp [encI] at hu
  | 0 =>
    match i, hi2 with
    | 0, _ => simp [encI] at hu; subst hu; exact h.cell 0
    | 1, _ => simp [encI] at hu; subst hu; exact h.cell 1
theorem alloc2_drew (w : World) (o p : Obj) : (w.drew.alloc o).alloc p = ((w.alloc o).alloc p).drew := rfl
theorem alloc1_size (w : World) (o : Obj) : (w.drew.alloc o).heap.size = w.heap.size + 1 := by simp
theorem lostV_len (A : Al) (ks : List Int) : (lostV A ks).length ≤ A.length := by
  unfold lostV pickA
  rw [List.length_map, (sortV_perm _).length_eq]
  exact List.length_filter_le _ _
section
variable {A l : Al} {n : Nm}
theorem getL_at (hn : (l.map (·.1)).Nodup) {j : Nat} (hj : j < l.length) : getL l l[j].1 = some l[j].2 := (getL_memV hn _ _).2 (List.getElem_mem hj)
theorem Sd.find (h : Sd A l) {i : Int} {q : Rl} (hF : FindN l n i) (hq : coreP q = (ofA A n).getD zeroRl) : ((ofA A n).isSome = false ∧ i = -1) ∨ ((ofA A n).isSome = true ∧ ∃ (j : Nat) (hj : j < l.length), i = (j : Int) ∧ coreP q = coreP l[j]) := by
  rw [h.of] at hq ⊢
  rcases hF with ⟨rfl, hno⟩ | ⟨j, hj, rfl, rfl⟩
  · rw [getL_noneV hno]
    exact .inl ⟨rfl, rfl⟩
  · rw [getL_at h.keys hj] at hq ⊢
    exact .inr ⟨rfl, j, hj, rfl, hq⟩
theorem Sd.abv (h : Sd A l) {i : Int} {q : Rl} (hF : AbvN l n i) (hq : coreP q = (aboveA A n).getD zeroRl) : ((aboveA A n).isSome = false ∧ i = -1 ∧ coreP q = coreP zeroRl) ∨ ((aboveA A n).isSome = true ∧ ∃ (j : Nat) (hj : j < l.length), i = (j : Int) ∧ coreP q = coreP l[j]) := by
  rw [h.above] at hq ⊢
  rcases hF with ⟨rfl, hno⟩ | ⟨j, hj, rfl, hup⟩
  · rw [hno] at hq ⊢
    exact .inl ⟨rfl, rfl, hq⟩
  · rw [hup, Option.bind_some, getL_at h.keys hj] at hq ⊢
    exact .inr ⟨rfl, j, hj, rfl, hq⟩
end
end Go.Proofs.Ytpdnebimkfejoaa
namespace Go.Proofs.Ytpdnebimkfejoaa
open Go.RowKit Go.Sort Go.Lib

theorem encT_cells {w : World} {b : Nat} {q : Rl} (h : BoxAt w b (encT q).toArray RootT) :
    w.cell? ⟨b, 0, none⟩ = some (.int .u64 q.1.1) ∧ w.cell? ⟨b, 1, none⟩ = some (.string q.1.2) ∧ w.cell? ⟨b, 2, none⟩ = some (.string q.1.2) ∧ w.cell? ⟨b, 3, none⟩ = some (.int .i64 q.2.fn) ∧ w.cell? ⟨b, 4, none⟩ = some (.slice q.2.aa q.2.args.length q.2.ac) ∧ w.cell? ⟨b, 5, none⟩ = some (.int .i64 q.2.fuel) ∧ w.cell? ⟨b, 6, none⟩ = some (.int .u8 q.2.st) ∧ w.cell? ⟨b, 7, none⟩ = some (.int .i64 q.2.wk) ∧ w.cell? ⟨b, 8, none⟩ = some (.int .u64 q.2.ep) :=
  ⟨h.cell 0, h.cell 1, h.cell 2, h.cell 3, h.cell 4, h.cell 5, h.cell 6, h.cell 7, h.cell 8⟩
section
variable {w0 w w' : World} {f m r : Nat} {lv : Value} {A l : Al}
theorem Pl.small (h : Pl w0 f m r lv A l w) : ∀ p ∈ l, p.2.args.length ≤ 8192 := fun p hp => by
  have h1 := h.t.ok (coreP p) (h.s.perm.subset (List.mem_map.2 ⟨p, hp, rfl⟩))
  exact h1.2
theorem Pl.args (h : Pl w0 f m r lv A l w) : ∀ p ∈ l, ArgsR w p.2 := fun p hp => (h.d.args p hp).1
/-- A list that reads as some of the rows. -/
theorem Pl.like (h : Pl w0 f m r lv A l w) {S M : Al} (hm : ∀ q ∈ M, q ∈ l) (hl : M.length ≤ l.length) (hs : S.map coreP = M.map coreP) : S.length ≤ 1000000 ∧ ∀ p ∈ S, p.2.args.length ≤ 1000000 := by
  have h1 := h.len
  have e := congrArg List.length hs
  simp at e
  refine ⟨by omega, fun p hp => ?_⟩
  have h2 : coreP p ∈ M.map coreP := by rw [← hs]; exact List.mem_map.2 ⟨p, hp, rfl⟩
  obtain ⟨q, hq, he⟩ := List.mem_map.1 h2
  have h3 := h.small q (hm q hq)
  have h4 : q.2.args = p.2.args := (congrArg (fun z : Rl => z.2.args) he : (coreP q).2.args = (coreP p).2.args)
  rw [h4] at h3
  omega
theorem like_args {q p : Rl} (he : coreP q = coreP p) (h : p.2.args.length ≤ 8192) : q.2.args.length ≤ 1000000 := by
  have h4 : q.2.args = p.2.args := (congrArg (fun z : Rl => z.2.args) he : (coreP q).2.args = (coreP p).2.args)
  rw [h4]; omega
/-- What the document's list holds at a place. -/
theorem Pl.row (h : Pl w0 f m r lv A l w) {j : Nat} (hj : j < l.length) : ∃ g cap, lv = .slice (some ⟨g, 0, none⟩) l.length cap ∧ w.cell? ⟨r, 0, none⟩ = some (.slice (some ⟨g, 0, none⟩) l.length cap) ∧
    (w.cell? ⟨g, j * 9, none⟩ = some (.int .u64 l[j].1.1) ∧ w.cell? ⟨g, j * 9 + 1, none⟩ = some (.string l[j].1.2) ∧ w.cell? ⟨g, j * 9 + 2, none⟩ = some (.string l[j].1.2) ∧ w.cell? ⟨g, j * 9 + 3, none⟩ = some (.int .i64 l[j].2.fn) ∧ w.cell? ⟨g, j * 9 + 4, none⟩ = some (.slice l[j].2.aa l[j].2.args.length l[j].2.ac) ∧ w.cell? ⟨g, j * 9 + 5, none⟩ = some (.int .i64 l[j].2.fuel) ∧ w.cell? ⟨g, j * 9 + 6, none⟩ = some (.int .u8 l[j].2.st) ∧ w.cell? ⟨g, j * 9 + 7, none⟩ = some (.int .i64 l[j].2.wk) ∧ w.cell? ⟨g, j * 9 + 8, none⟩ = some (.int .u64 l[j].2.ep)) := by
  obtain ⟨g, cap, e, hc⟩ := h.d.at hj
  refine ⟨g, cap, e, ?_, hc 0 _ rfl, hc 1 _ rfl, hc 2 _ rfl, hc 3 _ rfl, hc 4 _ rfl, hc 5 _ rfl, hc 6 _ rfl, hc 7 _ rfl, hc 8 _ rfl⟩
  rw [← e]
  exact h.d.cell
theorem waits_small {l : Al} (h : l.length ≤ 1024) : (waitsD l).length ≤ 1000000 := by
  unfold waitsD
  rw [List.length_map]
  exact Nat.le_trans (List.length_filter_le _ _) (by omega)
theorem zeroRl_args {w w' : World} (_h : Below w.heap.size w w') : ArgsR w' zeroRl.2 := .inl ⟨rfl, none, 0, rfl⟩
theorem Sd.rows (h : Sd A l) : sortV A = l.map coreP := h.eq.symm
end
end Go.Proofs.Ytpdnebimkfejoaa
