/- The world of a task that is done: what lies where, and what leaves it. -/
import Derived.Test.YtdhbjejejeljoaaGreatEv8
import Derived.Test.YtdhbjejejeljoaaGreatOwnFr
namespace Go.Proofs.YtdhbjejejeljoaaGreat
open Go.RowKit Go.Sort Go.Lib

def evC (n : Nat) : Value := .func (.func n) #[] #[]
def calL : List (Int × Nat) := [(2, 33), (3, 34), (4, 35), (5, 36), (6, 37), (7, 38), (8, 39), (9, 41)]
theorem below_only {w w1 w2 : World} {m : Nat} (h : Below w.heap.size w w1) (ho : OnlyAt w1 w2 m) (hm : w.heap.size ≤ m) : Below w.heap.size w w2 :=
  ⟨ho.1.trans h.os, ho.2.1.trans h.tape, ho.2.2.1.trans h.output, by rw [ho.2.2.2.1]; exact h.size, fun k hk => (ho.2.2.2.2.1 k (by omega)).trans (h.block k hk)⟩
set_option maxHeartbeats 1600000 in
theorem calcs_any (w : World) : Calls Tryz.prog 20 #[] w fun e w' => ∃ m, e = .returned (.map (some m)) ∧ B.MapL evC w' m calL ∧ Below w.heap.size w w' ∧ w.heap.size ≤ m := by
  have hmk := @Go.RowKit.run_makeMap Tryz.prog
  have hM := B.MapL.made evC w
  have hB : Below w.heap.size w (w.alloc (.map #[] 0)) := (Below.refl _ _).alloc (Nat.le_refl _) _
  have hm : w.heap.size ≤ w.heap.size := Nat.le_refl _
  obtain ⟨w0, hr0, hM0, hO0⟩ := hM.update (P := Tryz.prog) B.nameTy Tryz.underlying65 2 33
  have hB0 : Below w.heap.size w w0 := below_only hB hO0 hm
  obtain ⟨w1, hr1, hM1, hO1⟩ := hM0.update (P := Tryz.prog) B.nameTy Tryz.underlying65 3 34
  have hB1 : Below w.heap.size w w1 := below_only hB0 hO1 hm
  obtain ⟨w2, hr2, hM2, hO2⟩ := hM1.update (P := Tryz.prog) B.nameTy Tryz.underlying65 4 35
  have hB2 : Below w.heap.size w w2 := below_only hB1 hO2 hm
  obtain ⟨w3, hr3, hM3, hO3⟩ := hM2.update (P := Tryz.prog) B.nameTy Tryz.underlying65 5 36
  have hB3 : Below w.heap.size w w3 := below_only hB2 hO3 hm
  obtain ⟨w4, hr4, hM4, hO4⟩ := hM3.update (P := Tryz.prog) B.nameTy Tryz.underlying65 6 37
  have hB4 : Below w.heap.size w w4 := below_only hB3 hO4 hm
  obtain ⟨w5, hr5, hM5, hO5⟩ := hM4.update (P := Tryz.prog) B.nameTy Tryz.underlying65 7 38
  have hB5 : Below w.heap.size w w5 := below_only hB4 hO5 hm
  obtain ⟨w6, hr6, hM6, hO6⟩ := hM5.update (P := Tryz.prog) B.nameTy Tryz.underlying65 8 39
  have hB6 : Below w.heap.size w w6 := below_only hB5 hO6 hm
  obtain ⟨w7, hr7, hM7, hO7⟩ := hM6.update (P := Tryz.prog) B.nameTy Tryz.underlying65 9 41
  have hB7 : Below w.heap.size w w7 := below_only hB6 hO7 hm
  have HM := Lib.hid (show B.MapL evC w7 w.heap.size calL from hM7)
  have HB := Lib.hid hB7
  unfold B.encN evC at hr0 hr1 hr2 hr3 hr4 hr5 hr6 hr7
  clear hM hM0 hM1 hM2 hM3 hM4 hM5 hM6 hM7 hB hB0 hB1 hB2 hB3 hB4 hB5 hB6 hB7 hO0 hO1 hO2 hO3 hO4 hO5 hO6 hO7
  go_enter Tryz.func20, Tryz.ntmps20
  go_wp2_with fail
  go_ret
  exact ⟨_, rfl, HM.out, HB.out, hm⟩

theorem calL_get {k : Int} (h1 : 2 ≤ k) (h2 : k ≤ 9) : ∃ F, B.getL calL k = some F ∧ (k = 2 ∧ F = 33 ∨ k = 3 ∧ F = 34 ∨ k = 4 ∧ F = 35 ∨ k = 5 ∧ F = 36 ∨ k = 6 ∧ F = 37 ∨ k = 7 ∧ F = 38 ∨ k = 8 ∧ F = 39 ∨ k = 9 ∧ F = 41) := by
  have : k = 2 ∨ k = 3 ∨ k = 4 ∨ k = 5 ∨ k = 6 ∨ k = 7 ∨ k = 8 ∨ k = 9 := by omega
  rcases this with rfl | rfl | rfl | rfl | rfl | rfl | rfl | rfl <;> exact ⟨_, rfl, by simp⟩
theorem truth_any {x : Int} (b : Bool) (w : World) (h : (if b = true then 1 else 0) = x) : Calls Tryz.prog 40 #[.bool b] w fun e w' => e = .returned (.int .i64 x) ∧ w = w' := by
  cases b
  · go_enter Tryz.func40, Tryz.ntmps40
    go_wp2
    go_ret
    exact ⟨ret_int (by simpa using h), rfl⟩
  · go_enter Tryz.func40, Tryz.ntmps40
    go_wp2
    go_ret
    exact ⟨ret_int (by simpa using h), rfl⟩

theorem calc2_any {x : Int} (a b : Int) (w : World) (h : (a) = x) : Calls Tryz.prog 33 #[.int .i64 a, .int .i64 b] w fun e w' => e = .returned (.int .i64 x) ∧ w = w' := by
  have H := Lib.hid h
  clear h
  go_enter Tryz.func33, Tryz.ntmps33
  go_wp2
  go_ret
  exact ⟨ret_int (by rw [← H.out]), rfl⟩

theorem calc3_any {x : Int} (a b : Int) (w : World) (h : (wrap64 (a + b)) = x) : Calls Tryz.prog 34 #[.int .i64 a, .int .i64 b] w fun e w' => e = .returned (.int .i64 x) ∧ w = w' := by
  have H := Lib.hid h
  clear h
  go_enter Tryz.func34, Tryz.ntmps34
  go_wp2
  go_ret
  exact ⟨ret_int (by rw [← H.out]), rfl⟩

theorem calc4_any {x : Int} (a b : Int) (w : World) (h : (wrap64 (a - b)) = x) : Calls Tryz.prog 35 #[.int .i64 a, .int .i64 b] w fun e w' => e = .returned (.int .i64 x) ∧ w = w' := by
  have H := Lib.hid h
  clear h
  go_enter Tryz.func35, Tryz.ntmps35
  go_wp2
  go_ret
  exact ⟨ret_int (by rw [← H.out]), rfl⟩

theorem calc5_any {x : Int} (a b : Int) (w : World) (h : (wrap64 (a * b)) = x) : Calls Tryz.prog 36 #[.int .i64 a, .int .i64 b] w fun e w' => e = .returned (.int .i64 x) ∧ w = w' := by
  have H := Lib.hid h
  clear h
  go_enter Tryz.func36, Tryz.ntmps36
  go_wp2
  go_ret
  exact ⟨ret_int (by rw [← H.out]), rfl⟩

theorem calc6_any {x : Int} (a b : Int) (w : World) (h0 : b ≠ 0) (h : (wrap64 (a.tdiv b)) = x) : Calls Tryz.prog 37 #[.int .i64 a, .int .i64 b] w fun e w' => e = .returned (.int .i64 x) ∧ w = w' := by
  have H := Lib.hid h
  clear h
  have hb : (b == 0) = false := by simpa using h0
  go_enter Tryz.func37, Tryz.ntmps37
  go_wp2
  go_ret
  exact ⟨ret_int (by rw [← H.out]), rfl⟩

theorem calc7_any {x : Int} (a b : Int) (w : World) (h0 : b ≠ 0) (h : (a.tmod b) = x) : Calls Tryz.prog 38 #[.int .i64 a, .int .i64 b] w fun e w' => e = .returned (.int .i64 x) ∧ w = w' := by
  have H := Lib.hid h
  clear h
  have hb : (b == 0) = false := by simpa using h0
  go_enter Tryz.func38, Tryz.ntmps38
  go_wp2
  go_ret
  exact ⟨ret_int (by rw [← H.out]), rfl⟩

theorem calc8_any {x : Int} (a b : Int) (w : World) (h : (if a < b then 1 else 0) = x) : Calls Tryz.prog 39 #[.int .i64 a, .int .i64 b] w fun e w' => e = .returned (.int .i64 x) ∧ w = w' := by
  have H := Lib.hid h
  clear h
  have HT := Lib.hid (show (if (decide (a < b)) = true then 1 else 0) = x by rw [← H.out]; simp)
  go_enter Tryz.func39, Tryz.ntmps39
  go_wp2_with (go_at_call 40; refine (truth_any _ _ HT.out).mono ?_; rintro e w' ⟨rfl, rfl⟩)
  go_ret
  exact ⟨rfl, rfl⟩

theorem calc9_any {x : Int} (a b : Int) (w : World) (h : (if a = b then 1 else 0) = x) : Calls Tryz.prog 41 #[.int .i64 a, .int .i64 b] w fun e w' => e = .returned (.int .i64 x) ∧ w = w' := by
  have H := Lib.hid h
  clear h
  have HT := Lib.hid (show (if ((a == b)) = true then 1 else 0) = x by rw [← H.out]; simp)
  go_enter Tryz.func41, Tryz.ntmps41
  go_wp2_with (go_at_call 40; refine (truth_any _ _ HT.out).mono ?_; rintro e w' ⟨rfl, rfl⟩)
  go_ret
  exact ⟨rfl, rfl⟩

theorem calc_any {k a b x : Int} {F : Nat} (w : World) (hF : B.getL calL k = some F) (h1 : 2 ≤ k) (h2 : k ≤ 9) (h : calcP k a b = some x) : Calls Tryz.prog F #[.int .i64 a, .int .i64 b] w fun e w' => e = .returned (.int .i64 x) ∧ w = w' := by
  obtain ⟨F', hF', hk⟩ := calL_get h1 h2
  rw [hF] at hF'
  injection hF' with hF'
  subst hF'
  unfold calcP at h
  rcases hk with ⟨rfl, rfl⟩ | ⟨rfl, rfl⟩ | ⟨rfl, rfl⟩ | ⟨rfl, rfl⟩ | ⟨rfl, rfl⟩ | ⟨rfl, rfl⟩ | ⟨rfl, rfl⟩ | ⟨rfl, rfl⟩
  · exact calc2_any a b w (by simpa using h)
  · exact calc3_any a b w (by simpa using h)
  · exact calc4_any a b w (by simpa using h)
  · exact calc5_any a b w (by simpa using h)
  · by_cases h0 : b = 0
    · simp [h0] at h
    · exact calc6_any a b w h0 (by simpa [h0] using h)
  · by_cases h0 : b = 0
    · simp [h0] at h
    · exact calc7_any a b w h0 (by simpa [h0] using h)
  · exact calc8_any a b w (by simpa using h)
  · exact calc9_any a b w (by simpa using h)
end Go.Proofs.YtdhbjejejeljoaaGreat
namespace Go.Proofs.YtdhbjejejeljoaaGreat
open Go.RowKit Go.Sort Go.Lib

abbrev WorldT : TypeId := 68
abbrev TxT : TypeId := 104
abbrev DoneT : TypeId := 90
abbrev ResT : TypeId := 41
abbrev IntT : TypeId := 3
abbrev I64T : TypeId := 2
/-- A task that was done, and where its arguments lie. -/
abbrev DnA := Dn × Option Addr × Nat
instance : Inhabited DnA := ⟨⟨⟨⟨#[]⟩, 0, [], 0⟩, ⟨0, 0⟩, 0⟩, none, 0⟩
def encDn (d : DnA) : List Value := [.string d.1.t.p, .int .i64 d.1.t.fn, .slice d.2.1 d.1.t.args.length d.2.2, .int .i64 d.1.t.fuel, .int .i64 d.1.r.v, .int .i64 d.1.r.e, .int .i64 d.1.kids]
def encRs (r : Rs) : List Value := [.int .i64 r.v, .int .i64 r.e]
theorem encDn_len (d : DnA) : (encDn d).length = 7 := rfl
theorem encRs_len (d : Rs) : (encRs d).length = 2 := rfl
def argV (d : DnA) : Value := .slice d.2.1 d.1.t.args.length d.2.2
def ArgsAt (Z : Nat) (w : World) (d : DnA) : Prop := w.ownsRow Z I64T 1 (argV d) d.1.t.args.length (d.1.t.args.flatMap encN1)

/-- The blocks of S are of these types. -/
def Typed (S : Nat → Prop) (w : World) (Es : List TypeId) : Prop := ∀ i, S i → i < w.heap.size → ∃ E cur fz, E ∈ Es ∧ w.heap[i]? = some (.cells cur E fz)
section
variable {w w' : World} {S : Nat → Prop} {Es : List TypeId}
theorem own_typed {Z k n : Nat} {E : TypeId} {v : Value} {xs : List Value} (h : w.ownsRow Z E k v n xs) (hF : Fr S w w') (hT : Typed S w Es) (hE : E ∉ Es) : w'.ownsRow Z E k v n xs := by
  refine ⟨h.1, h.2.imp id ?_⟩
  rintro ⟨g, cap, cur, hv, h1, h2, h3⟩
  have hg := (Array.getElem?_eq_some_iff.1 h2).1
  refine ⟨g, cap, cur, hv, h1, (hF.block g hg fun hs => ?_).trans h2, h3⟩
  obtain ⟨E', cur', fz', hE', hb⟩ := hT g hs hg
  rw [h2] at hb
  injection hb with hb
  injection hb with _ hb _
  exact hE (hb ▸ hE')
theorem box_typed {s : Nat} {cur : Array Value} {E : TypeId} (h : BoxAt w s cur E) (hF : Fr S w w') (hT : Typed S w Es) (hE : E ∉ Es) : BoxAt w' s cur E := by
  refine h.fr hF fun hs => ?_
  obtain ⟨E', cur', fz', hE', hb⟩ := hT s hs (Array.getElem?_eq_some_iff.1 h).1
  unfold BoxAt at h
  rw [h] at hb
  injection hb with hb
  injection hb with _ hb _
  exact hE (hb ▸ hE')
theorem map_typed {V : Type} {ev : V → Value} {m : Nat} {L : List (Int × V)} (h : B.MapL ev w m L) (hF : Fr S w w') (hT : Typed S w Es) : B.MapL ev w' m L := by
  refine h.block (hF.block m h.lt fun hs => ?_)
  obtain ⟨E', cur', fz', hE', hb⟩ := hT m hs h.lt
  obtain ⟨es, c, hm, _⟩ := h
  rw [hm] at hb; cases hb
theorem typed_box {s : Nat} {cur : Array Value} {E : TypeId} (h : BoxAt w s cur E) : Typed (fun i => i = s) w [E] := fun _i hi _ => ⟨E, cur, _, List.mem_singleton.2 rfl, hi ▸ h⟩
theorem typed_own {Z k n : Nat} {E : TypeId} {v : Value} {xs : List Value} (h : w.ownsRow Z E k v n xs) : Typed (fun i => v.ownBlock = some i) w [E] := by
  intro i hi _
  obtain ⟨_, ⟨rfl, _⟩ | ⟨g, cap, cur, rfl, _, h2, _⟩⟩ := h
  · cases hi
  · injection hi with hi; subst hi; exact ⟨E, cur, _, List.mem_singleton.2 rfl, h2⟩
theorem Typed.or {T : Nat → Prop} {Fs : List TypeId} (h : Typed S w Es) (k : Typed T w Fs) : Typed (fun i => S i ∨ T i) w (Es ++ Fs) := by
  rintro i (hi | hi) hl
  · obtain ⟨E, c, f, h1, h2⟩ := h i hi hl; exact ⟨E, c, f, List.mem_append_left _ h1, h2⟩
  · obtain ⟨E, c, f, h1, h2⟩ := k i hi hl; exact ⟨E, c, f, List.mem_append_right _ h1, h2⟩
end
/-- Later worlds, whose turned blocks are of the call's own. -/
theorem Fr.join {S T : Nat → Prop} {a b c : World} (h : Fr S a b) (k : Fr T b c) (hT : ∀ i, T i → S i ∨ a.heap.size ≤ i) : Fr S a c :=
  ⟨k.os.trans h.os, k.tape.trans h.tape, k.output.trans h.output, Nat.le_trans h.size k.size, fun i hi hs => (k.block i (Nat.lt_of_lt_of_le hi h.size) fun ht => by
    rcases hT i ht with h1 | h1
    · exact hs h1
    · omega).trans (h.block i hi hs)⟩

/-- The world of tasks: the struct in block W, the ops' map in block m, the tasks that were done. -/
structure Gl (Z W m : Nat) (pv dv : Value) (l : List DnA) (w : World) : Prop where
  box : BoxAt w W #[pv, .map (some m), dv] WorldT
  own : w.ownsRow Z DoneT 7 dv l.length (l.flatMap encDn)
  cal : B.MapL evC w m calL
  args : ∀ d ∈ l, ArgsAt Z w d
  lo : Z ≤ W
section
variable {Z W m : Nat} {pv dv : Value} {l : List DnA} {w w' : World}
theorem Gl.typed {S : Nat → Prop} {Es : List TypeId} (h : Gl Z W m pv dv l w) (hF : Fr S w w') (hT : Typed S w Es) (h1 : WorldT ∉ Es) (h2 : DoneT ∉ Es) (h3 : I64T ∉ Es) : Gl Z W m pv dv l w' :=
  ⟨box_typed h.box hF hT h1, own_typed h.own hF hT h2, map_typed h.cal hF hT, fun d hd => own_typed (h.args d hd) hF hT h3, h.lo⟩
theorem Gl.below (h : Gl Z W m pv dv l w) (hB : Below w.heap.size w w') : Gl Z W m pv dv l w' :=
  h.typed (S := fun _ => False) (Es := []) (.of_below hB) (fun _ h => absurd h id) (by simp) (by simp) (by simp)
theorem Gl.regs {r : Nat} {cur : Array Value} (h : Gl Z W m pv dv l w) (hr : BoxAt w r cur I64T) (hs : ∀ d ∈ l, (argV d).ownBlock ≠ some r) (hF : Fr (fun i => i = r) w w') : Gl Z W m pv dv l w' :=
  ⟨box_typed h.box hF (typed_box hr) (by decide), own_typed h.own hF (typed_box hr) (by decide), map_typed h.cal hF (typed_box hr), fun d hd => own_far (h.args d hd) (fun i hi => hF.block i ((h.args d hd).lt i hi).2 (fun e => hs d hd (by rw [hi, e]))), h.lo⟩
end
abbrev txC (t : Tk) (av : Value) (W r : Nat) (s : St) (iv wv : Value) : Array Value :=
  #[.string t.p, .int .i64 t.fn, av, .int .i64 s.left, .pointer (some ⟨W, 0, none⟩), .slice (some ⟨r, 0, none⟩) s.regs.length s.regs.length, .int .i64 s.pc, .int .i64 s.kids, iv, wv]
/-- A task that runs: its struct in block x, its registers in block r. -/
structure Tx (Z x r W : Nat) (t : Tk) (av iv wv : Value) (s : St) (w : World) : Prop where
  box : BoxAt w x (txC t av W r s iv wv) TxT
  regs : BoxAt w r (s.regs.map (Value.int .i64)).toArray I64T
  into : w.ownsRow Z IntT 1 iv s.into.length (s.into.flatMap encN1)
  waits : w.ownsRow Z ResT 2 wv s.waits.length (s.waits.flatMap encRs)
/-- Boxes of other types stay. -/
def KT : List TypeId := [WorldT, DoneT, TxT, I64T, IntT, ResT, 34]
def Kp (w w' : World) : Prop := ∀ (i : Nat) (cur : Array Value) (E : TypeId) (fz : Nat × Nat), E ∉ KT → w.heap[i]? = some (Obj.cells cur E fz) → w'.heap[i]? = some (Obj.cells cur E fz)
theorem Kp.refl (w : World) : Kp w w := fun _ _ _ _ _ h => h
theorem Kp.trans {a b c : World} (h : Kp a b) (k : Kp b c) : Kp a c := fun i cur E fz hE hb => k i cur E fz hE (h i cur E fz hE hb)
theorem Kp.below {w w' : World} (hB : Below w.heap.size w w') : Kp w w' := fun i _cur _E _fz _ hb => (hB.block i (Array.getElem?_eq_some_iff.1 hb).1).trans hb
theorem Kp.typed {w w' : World} {S : Nat → Prop} {Es : List TypeId} (hF : Fr S w w') (hT : Typed S w Es) (hE : ∀ E ∈ Es, E ∈ KT) : Kp w w' := fun i cur E fz hK hb => by
  have hl := (Array.getElem?_eq_some_iff.1 hb).1
  refine (hF.block i hl fun hs => ?_).trans hb
  obtain ⟨E', cur', fz', h1, h2⟩ := hT i hs hl
  rw [hb] at h2
  injection h2 with h2
  injection h2 with _ h2 _
  exact hK (h2 ▸ hE E' h1)
theorem BoxAt.kp {w w' : World} {s : Nat} {cur : Array Value} {E : TypeId} (h : BoxAt w s cur E) (hk : Kp w w') (hE : E ∉ KT) : BoxAt w' s cur E := hk _ _ _ _ hE h
/-- All of it, within a call. -/
structure Rn (wk w0 : World) (Z W m : Nat) (pv dv0 : Value) (l0 : List DnA) (x r : Nat) (t : Tk) (aa : Option Addr) (ac : Nat) (dv iv wv : Value) (nd : List DnA) (s : St) (wr : World) : Prop where
  gl : Gl Z W m pv dv (l0 ++ (⟨t, ⟨0, 0⟩, 0⟩, aa, ac) :: nd) wr
  tx : Tx w0.heap.size x r W t (.slice aa t.args.length ac) iv wv s wr
  fr : Fr (fun i => (i = W ∨ dv0.ownBlock = some i) ∨ (i = x ∨ i = r)) w0 wr
  st : ∀ i, dv.ownBlock = some i → (i = W ∨ dv0.ownBlock = some i) ∨ w0.heap.size ≤ i
  lo : Z ≤ w0.heap.size ∧ x < w0.heap.size ∧ r < w0.heap.size ∧ W < w0.heap.size
  zx : Z ≤ x ∧ Z ≤ r
  sep : ∀ d ∈ l0 ++ (⟨t, ⟨0, 0⟩, 0⟩, aa, ac) :: nd, (argV d).ownBlock ≠ some r
  dn : nd.map (·.1) = s.done
  da : ∀ d ∈ nd, ArgsAt w0.heap.size wr d
  kp : Kp wk wr
section
variable {wk w0 : World} {Z W m : Nat} {pv dv0 : Value} {l0 : List DnA} {x r : Nat} {t : Tk} {aa : Option Addr} {ac : Nat} {dv iv wv : Value} {nd : List DnA} {s : St} {wr w' : World}
theorem Rn.typed {S : Nat → Prop} {Es : List TypeId} (h : Rn wk w0 Z W m pv dv0 l0 x r t aa ac dv iv wv nd s wr) (hF : Fr S wr w') (hT : Typed S wr Es) (hlo : ∀ i, S i → (i = x ∨ i = r) ∨ w0.heap.size ≤ i) (h1 : WorldT ∉ Es) (h2 : DoneT ∉ Es) (h3 : I64T ∉ Es) :
    Gl Z W m pv dv (l0 ++ (⟨t, ⟨0, 0⟩, 0⟩, aa, ac) :: nd) w' ∧ Fr (fun i => (i = W ∨ dv0.ownBlock = some i) ∨ (i = x ∨ i = r)) w0 w' ∧ ∀ d ∈ nd, ArgsAt w0.heap.size w' d :=
  ⟨h.gl.typed hF hT h1 h2 h3, h.fr.join hF (fun i hi => (hlo i hi).imp .inr id), fun d hd => own_typed (h.da d hd) hF hT h3⟩
theorem Rn.below (h : Rn wk w0 Z W m pv dv0 l0 x r t aa ac dv iv wv nd s wr) (hB : Below wr.heap.size wr w') : Rn wk w0 Z W m pv dv0 l0 x r t aa ac dv iv wv nd s w' :=
  ⟨h.gl.below hB, ⟨h.tx.box.below hB, h.tx.regs.below hB, own_below h.tx.into hB, own_below h.tx.waits hB⟩, h.fr.then hB, h.st, h.lo, h.zx, h.sep, h.dn, fun d hd => own_below (h.da d hd) hB, h.kp.trans (.below hB)⟩
theorem Rn.other {S : Nat → Prop} {Es : List TypeId} (h : Rn wk w0 Z W m pv dv0 l0 x r t aa ac dv iv wv nd s wr) (hF : Fr S wr w') (hT : Typed S wr Es) (hlo : ∀ i, S i → (i = x ∨ i = r) ∨ w0.heap.size ≤ i) (h1 : WorldT ∉ Es) (h2 : DoneT ∉ Es) (h3 : I64T ∉ Es) (h4 : TxT ∉ Es) (h5 : IntT ∉ Es) (h6 : ResT ∉ Es) (h7 : ∀ E ∈ Es, E ∈ KT) :
    Rn wk w0 Z W m pv dv0 l0 x r t aa ac dv iv wv nd s w' := by
  obtain ⟨g1, g2, g3⟩ := h.typed hF hT hlo h1 h2 h3
  exact ⟨g1, ⟨box_typed h.tx.box hF hT h4, box_typed h.tx.regs hF hT h3, own_typed h.tx.into hF hT h5, own_typed h.tx.waits hF hT h6⟩, g2, h.st, h.lo, h.zx, h.sep, h.dn, g3, h.kp.trans (.typed hF hT h7)⟩
/-- The struct turns (not its slices). -/
theorem Rn.boxX {s' : St} (h : Rn wk w0 Z W m pv dv0 l0 x r t aa ac dv iv wv nd s wr) (hF : Fr (fun i => i = x) wr w') (hb : BoxAt w' x (txC t (.slice aa t.args.length ac) W r s' iv wv) TxT)
    (e1 : s'.regs = s.regs) (e2 : s'.into = s.into) (e3 : s'.waits = s.waits) (e4 : s'.done = s.done) : Rn wk w0 Z W m pv dv0 l0 x r t aa ac dv iv wv nd s' w' := by
  have hT := typed_box h.tx.box
  obtain ⟨g1, g2, g3⟩ := h.typed hF hT (fun i hi => .inl (.inl hi)) (by decide) (by decide) (by decide)
  exact ⟨g1, ⟨hb, e1 ▸ box_typed h.tx.regs hF hT (by decide), e2 ▸ own_typed h.tx.into hF hT (by decide), e3 ▸ own_typed h.tx.waits hF hT (by decide)⟩, g2, h.st, h.lo, h.zx, h.sep, e4 ▸ h.dn, g3, h.kp.trans (.typed hF hT (by decide))⟩
/-- A register turns. -/
theorem Rn.regs {rs : List Int} (h : Rn wk w0 Z W m pv dv0 l0 x r t aa ac dv iv wv nd s wr) (hF : Fr (fun i => i = r) wr w') (hb : BoxAt w' r (rs.map (Value.int .i64)).toArray I64T) (hl : rs.length = s.regs.length) :
    Rn wk w0 Z W m pv dv0 l0 x r t aa ac dv iv wv nd { s with regs := rs } w' := by
  have hT := typed_box h.tx.regs
  have hx := box_typed h.tx.box hF hT (by decide)
  refine ⟨h.gl.regs h.tx.regs h.sep hF, ⟨?_, hb, own_typed h.tx.into hF hT (by decide), own_typed h.tx.waits hF hT (by decide)⟩, h.fr.join hF (fun i hi => .inl (.inr (.inr hi))), h.st, h.lo, h.zx, h.sep, h.dn, fun d hd => ?_, h.kp.trans (.typed hF hT (by decide))⟩
  · unfold txC at hx ⊢
    rw [hl]; exact hx
  · exact own_far (h.da d hd) (fun i hi => hF.block i ((h.da d hd).lt i hi).2 (fun e => h.sep d (by simp [hd]) (by rw [hi, e])))
/-- The registers that wait grow: the slice first, then the struct. -/
theorem Rn.pushI {iv' : Value} {a : Int} {w1 : World} (h : Rn wk w0 Z W m pv dv0 l0 x r t aa ac dv iv wv nd s wr) (hF : Fr (fun i => iv.ownBlock = some i) wr w1) (ho : w1.ownsRow w0.heap.size IntT 1 iv' (s.into.length + 1) (s.into.flatMap encN1 ++ encN1 a)) :
    Rn wk w0 Z W m pv dv0 l0 x r t aa ac dv iv' wv nd { s with into := s.into ++ [a] } (w1.setCell ⟨x, 8, none⟩ iv') := by
  have hT := typed_own h.tx.into
  obtain ⟨g1, g2, g3⟩ := h.typed hF hT (fun i hi => .inr (h.tx.into.lt i hi).1) (by decide) (by decide) (by decide)
  have hx := box_typed h.tx.box hF hT (by decide)
  have hb : BoxAt (w1.setCell ⟨x, 8, none⟩ iv') x (txC t (.slice aa t.args.length ac) W r { s with into := s.into ++ [a] } iv' wv) TxT := Go.heap_setCell_same w1 x 8 _ _ iv' hx
  have hF2 : Fr (fun i => i = x) w1 (w1.setCell ⟨x, 8, none⟩ iv') := (Fr.refl (fun i => i = x) w1).setCell (p := ⟨x, 8, none⟩) rfl iv'
  have hT2 := typed_box hx
  exact ⟨g1.typed hF2 hT2 (by decide) (by decide) (by decide), ⟨hb, box_typed (box_typed h.tx.regs hF hT (by decide)) hF2 hT2 (by decide), by
      have := own_typed ho hF2 hT2 (by decide)
      simpa [List.flatMap_append] using this, own_typed (own_typed h.tx.waits hF hT (by decide)) hF2 hT2 (by decide)⟩,
    g2.join hF2 (fun i hi => .inl (.inr (.inl hi))), h.st, h.lo, h.zx, h.sep, h.dn, fun d hd => own_typed (g3 d hd) hF2 hT2 (by decide), (h.kp.trans (.typed hF hT (by decide))).trans (.typed hF2 hT2 (by decide))⟩
theorem Rn.pushW {wv' : Value} {a : Rs} {w1 : World} (h : Rn wk w0 Z W m pv dv0 l0 x r t aa ac dv iv wv nd s wr) (hF : Fr (fun i => wv.ownBlock = some i) wr w1) (ho : w1.ownsRow w0.heap.size ResT 2 wv' (s.waits.length + 1) (s.waits.flatMap encRs ++ encRs a)) :
    Rn wk w0 Z W m pv dv0 l0 x r t aa ac dv iv wv' nd { s with waits := s.waits ++ [a] } (w1.setCell ⟨x, 9, none⟩ wv') := by
  have hT := typed_own h.tx.waits
  obtain ⟨g1, g2, g3⟩ := h.typed hF hT (fun i hi => .inr (h.tx.waits.lt i hi).1) (by decide) (by decide) (by decide)
  have hx := box_typed h.tx.box hF hT (by decide)
  have hb : BoxAt (w1.setCell ⟨x, 9, none⟩ wv') x (txC t (.slice aa t.args.length ac) W r { s with waits := s.waits ++ [a] } iv wv') TxT := Go.heap_setCell_same w1 x 9 _ _ wv' hx
  have hF2 : Fr (fun i => i = x) w1 (w1.setCell ⟨x, 9, none⟩ wv') := (Fr.refl (fun i => i = x) w1).setCell (p := ⟨x, 9, none⟩) rfl wv'
  have hT2 := typed_box hx
  exact ⟨g1.typed hF2 hT2 (by decide) (by decide) (by decide), ⟨hb, box_typed (box_typed h.tx.regs hF hT (by decide)) hF2 hT2 (by decide), own_typed (own_typed h.tx.into hF hT (by decide)) hF2 hT2 (by decide), by
      have := own_typed ho hF2 hT2 (by decide)
      simpa [List.flatMap_append] using this⟩,
    g2.join hF2 (fun i hi => .inl (.inr (.inl hi))), h.st, h.lo, h.zx, h.sep, h.dn, fun d hd => own_typed (g3 d hd) hF2 hT2 (by decide), (h.kp.trans (.typed hF hT (by decide))).trans (.typed hF2 hT2 (by decide))⟩
/-- Behind a join no child waits. -/
theorem Rn.clear (h : Rn wk w0 Z W m pv dv0 l0 x r t aa ac dv iv wv nd s wr) :
    Rn wk w0 Z W m pv dv0 l0 x r t aa ac dv (.slice none 0 0) (.slice none 0 0) nd { s with into := [], waits := [] } ((wr.setCell ⟨x, 8, none⟩ (.slice none 0 0)).setCell ⟨x, 9, none⟩ (.slice none 0 0)) := by
  have h1 : Rn wk w0 Z W m pv dv0 l0 x r t aa ac dv (.slice none 0 0) wv nd { s with into := [] } (wr.setCell ⟨x, 8, none⟩ (.slice none 0 0)) := by
    have hT := typed_box h.tx.box
    have hF : Fr (fun i => i = x) wr (wr.setCell ⟨x, 8, none⟩ (.slice none 0 0)) := (Fr.refl (fun i => i = x) wr).setCell (p := ⟨x, 8, none⟩) rfl _
    obtain ⟨g1, g2, g3⟩ := h.typed hF hT (fun i hi => .inl (.inl hi)) (by decide) (by decide) (by decide)
    exact ⟨g1, ⟨Go.heap_setCell_same wr x 8 _ _ _ h.tx.box, box_typed h.tx.regs hF hT (by decide), World.ownsRow_nil _ _ _ _, own_typed h.tx.waits hF hT (by decide)⟩, g2, h.st, h.lo, h.zx, h.sep, h.dn, g3, h.kp.trans (.typed hF hT (by decide))⟩
  have hT := typed_box h1.tx.box
  have hF : Fr (fun i => i = x) (wr.setCell ⟨x, 8, none⟩ (.slice none 0 0)) ((wr.setCell ⟨x, 8, none⟩ (.slice none 0 0)).setCell ⟨x, 9, none⟩ (.slice none 0 0)) := (Fr.refl (fun i => i = x) _).setCell (p := ⟨x, 9, none⟩) rfl _
  obtain ⟨g1, g2, g3⟩ := h1.typed hF hT (fun i hi => .inl (.inl hi)) (by decide) (by decide) (by decide)
  exact ⟨g1, ⟨Go.heap_setCell_same _ x 9 _ _ _ h1.tx.box, box_typed h1.tx.regs hF hT (by decide), World.ownsRow_nil _ _ _ _, World.ownsRow_nil _ _ _ _⟩, g2, h.st, h.lo, h.zx, h.sep, h.dn, g3, h1.kp.trans (.typed hF hT (by decide))⟩
/-- A child was done. -/
theorem Rn.child {dv' : Value} {nd' : List DnA} {k : DnA} (h : Rn wk w0 Z W m pv dv0 l0 x r t aa ac dv iv wv nd s wr) (hg : Gl Z W m pv dv' ((l0 ++ (⟨t, ⟨0, 0⟩, 0⟩, aa, ac) :: nd) ++ k :: nd') w') (hF : Fr (fun i => i = W ∨ dv.ownBlock = some i) wr w')
    (hs : ∀ i, dv'.ownBlock = some i → (i = W ∨ dv.ownBlock = some i) ∨ wr.heap.size ≤ i) (ha : ∀ d ∈ nd', ArgsAt wr.heap.size w' d) (hk : ArgsAt w0.heap.size w' k) (hkr : (argV k).ownBlock ≠ some r) :
    Rn wk w0 Z W m pv dv0 l0 x r t aa ac dv' iv wv (nd ++ k :: nd') { s with done := s.done ++ (k :: nd').map (·.1) } w' := by
  have hT : Typed (fun i => i = W ∨ dv.ownBlock = some i) wr [WorldT, DoneT] := (typed_box h.gl.box).or (typed_own h.gl.own)
  have hsz := h.fr.size
  have e : l0 ++ (⟨t, ⟨0, 0⟩, 0⟩, aa, ac) :: (nd ++ k :: nd') = (l0 ++ (⟨t, ⟨0, 0⟩, 0⟩, aa, ac) :: nd) ++ k :: nd' := by simp
  refine ⟨e ▸ hg, ⟨box_typed h.tx.box hF hT (by decide), box_typed h.tx.regs hF hT (by decide), own_typed h.tx.into hF hT (by decide), own_typed h.tx.waits hF hT (by decide)⟩, h.fr.join hF (fun i hi => ?_), fun i hi => ?_, h.lo, h.zx, fun d hd => ?_, ?_, fun d hd => ?_, h.kp.trans (.typed hF hT (by decide))⟩
  · rcases hi with hi | hi
    · exact .inl (.inl (.inl hi))
    · exact (h.st i hi).imp .inl id
  · rcases hs i hi with (h1 | h1) | h1
    · exact .inl (.inl h1)
    · exact h.st i h1
    · exact .inr (by omega)
  · rw [e] at hd
    rcases List.mem_append.1 hd with hd | hd
    · exact h.sep d hd
    · rcases List.mem_cons.1 hd with rfl | hd
      · exact hkr
      · intro e2
        have h1 := ((ha d hd).lt r e2).1
        have h2 := (Array.getElem?_eq_some_iff.1 h.tx.regs).1
        omega
  · rw [List.map_append, h.dn]
  · rcases List.mem_append.1 hd with hd | hd
    · exact own_typed (h.da d hd) hF hT (by decide)
    · rcases List.mem_cons.1 hd with rfl | hd
      · exact hk
      · exact owns_base (ha d hd) hsz
theorem Rn.rekeep (h : Rn wk w0 Z W m pv dv0 l0 x r t aa ac dv iv wv nd s wr) : Rn wr w0 Z W m pv dv0 l0 x r t aa ac dv iv wv nd s wr := { h with kp := Kp.refl _ }
theorem Rn.prog {p : List Fnc} (h : Rn wk w0 Z W m pv dv0 l0 x r t aa ac dv iv wv nd s wr) (hp : ProgAt w0 pv p) (hl : ProgLow Z pv p) (hd : ∀ i, dv0.ownBlock = some i → Z ≤ i) : ProgAt wr pv p :=
  hp.fr hl h.fr (fun i hi => by
    rcases hi with (hi | hi) | hi | hi
    · have := h.gl.lo; omega
    · exact hd i hi
    · have := h.zx; omega
    · have := h.zx; omega)
end
end Go.Proofs.YtdhbjejejeljoaaGreat
