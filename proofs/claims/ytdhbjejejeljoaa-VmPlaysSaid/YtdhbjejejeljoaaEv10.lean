/- The world of a task that is done: what lies where, and what leaves it. -/
import Derived.Test.YtdhbjejejeljoaaEv8
import Derived.Test.YtdhbjejejeljoaaOwnFr
namespace Go.Proofs.Ytdhbjejejeljoaa
open Go.RowKit Go.Sort Go.Lib

def evC (n : Nat) : Value := .func (.func n) #[] #[]
theorem below_only {w w1 w2 : World} {m : Nat} (h : Below w.heap.size w w1) (ho : OnlyAt w1 w2 m) (hm : w.heap.size ≤ m) : Below w.heap.size w w2 :=
  ⟨ho.1.trans h.os, ho.2.1.trans h.tape, ho.2.2.1.trans h.output, by rw [ho.2.2.2.1]; exact h.size, fun k hk => (ho.2.2.2.2.1 k (by omega)).trans (h.block k hk)⟩
end Go.Proofs.Ytdhbjejejeljoaa
namespace Go.Proofs.Ytdhbjejejeljoaa
open Go.RowKit Go.Sort Go.Lib

abbrev DoneT : TypeId := 169
abbrev ResT : TypeId := 39
abbrev IntT : TypeId := 3
abbrev I64T : TypeId := 2
/-- A task that was done, and where its arguments lie. -/
abbrev DnA := Dn × Option Addr × Nat
instance : Inhabited DnA := ⟨⟨⟨⟨#[]⟩, 0, [], 0⟩, ⟨0, 0⟩, 0⟩, none, 0⟩
def encDn (d : DnA) : List Value := [.string d.1.t.p, .int .i64 d.1.t.fn, .slice d.2.1 d.1.t.args.length d.2.2, .int .i64 d.1.t.fuel, .int .i64 d.1.r.v, .int .i64 d.1.r.e, .int .i64 d.1.kids]
def encRs (r : Rs) : List Value := [.int .i64 r.v, .int .i64 r.e]
theorem encDn_len (d : DnA) : (encDn d).length = 7 := rfl
theorem encRs_len (d : Rs) : (encRs d).length = 2 := rfl
def argV (d : DnA) : Value := .slice d.2.1 d.1.t.args.length d.2.2
def ArgsAt (Z : Nat) (w : World) (d : DnA) : Prop := w.ownsRow Z I64T 1 (argV d) d.1.t.args.length (d.1.t.args.flatMap encN1)

/-- The blocks of S are of these types. -/
def Typed (S : Nat → Prop) (w : World) (Es : List TypeId) : Prop := ∀ i, S i → i < w.heap.size → ∃ E cur fz, E ∈ Es ∧ w.heap[i]? = some (.cells cur E fz)
section
variable {w w' : World} {S : Nat → Prop} {Es : List TypeId}
theorem own_typed {Z k n : Nat} {E : TypeId} {v : Value} {xs : List Value} (h : w.ownsRow Z E k v n xs) (hF : Fr S w w') (hT : Typed S w Es) (hE : E ∉ Es) : w'.ownsRow Z E k v n xs := by
  refine ⟨h.1, h.2.imp id ?_⟩
  rintro ⟨g, cap, cur, hv, h1, h2, h3⟩
  have hg := (Array.getElem?_eq_some_iff.1 h2).1
  refine ⟨g, cap, cur, hv, h1, (hF.block g hg fun hs => ?_).trans h2, h3⟩
  obtain ⟨E', cur', fz', hE', hb⟩ := hT g hs hg
  rw [h2] at hb
  injection hb with hb
  injection hb with _ hb _
  exact hE (hb ▸ hE')
theorem box_typed {s : Nat} {cur : Array Value} {E : TypeId} (h : BoxAt w s cur E) (hF : Fr S w w') (hT : Typed S w Es) (hE : E ∉ Es) : BoxAt w' s cur E := by
  refine h.fr hF fun hs => ?_
  obtain ⟨E', cur', fz', hE', hb⟩ := hT s hs (Array.getElem?_eq_some_iff.1 h).1
  unfold BoxAt at h
  rw [h] at hb
  injection hb with hb
  injection hb with _ hb _
  exact hE (hb ▸ hE')
theorem map_typed {V : Type} {ev : V → Value} {m : Nat} {L : List (Int × V)} (h : B.MapL ev w m L) (hF : Fr S w w') (hT : Typed S w Es) : B.MapL ev w' m L := by
  refine h.block (hF.block m h.lt fun hs => ?_)
  obtain ⟨E', cur', fz', hE', hb⟩ := hT m hs h.lt
  obtain ⟨es, c, hm, _⟩ := h
  rw [hm] at hb; cases hb
theorem typed_box {s : Nat} {cur : Array Value} {E : TypeId} (h : BoxAt w s cur E) : Typed (fun i => i = s) w [E] := fun _i hi _ => ⟨E, cur, _, List.mem_singleton.2 rfl, hi ▸ h⟩
theorem typed_own {Z k n : Nat} {E : TypeId} {v : Value} {xs : List Value} (h : w.ownsRow Z E k v n xs) : Typed (fun i => v.ownBlock = some i) w [E] := by
  intro i hi _
  obtain ⟨_, ⟨rfl, _⟩ | ⟨g, cap, cur, rfl, _, h2, _⟩⟩ := h
  · cases hi
  · injection hi with hi; subst hi; exact ⟨E, cur, _, List.mem_singleton.2 rfl, h2⟩
theorem Typed.or {T : Nat → Prop} {Fs : List TypeId} (h : Typed S w Es) (k : Typed T w Fs) : Typed (fun i => S i ∨ T i) w (Es ++ Fs) := by
  rintro i (hi | hi) hl
  · obtain ⟨E, c, f, h1, h2⟩ := h i hi hl; exact ⟨E, c, f, List.mem_append_left _ h1, h2⟩
  · obtain ⟨E, c, f, h1, h2⟩ := k i hi hl; exact ⟨E, c, f, List.mem_append_right _ h1, h2⟩
end
/-- Later worlds, whose turned blocks are of the call's own. -/
theorem Fr.join {S T : Nat → Prop} {a b c : World} (h : Fr S a b) (k : Fr T b c) (hT : ∀ i, T i → S i ∨ a.heap.size ≤ i) : Fr S a c :=
  ⟨k.os.trans h.os, k.tape.trans h.tape, k.output.trans h.output, Nat.le_trans h.size k.size, fun i hi hs => (k.block i (Nat.lt_of_lt_of_le hi h.size) fun ht => by
    rcases hT i ht with h1 | h1
    · exact hs h1
    · omega).trans (h.block i hi hs)⟩

section
variable {Z W m : Nat} {pv dv : Value} {l : List DnA} {w w' : World}
end
abbrev txC (t : Tk) (av : Value) (W r : Nat) (s : St) (iv wv : Value) : Array Value :=
  #[.string t.p, .int .i64 t.fn, av, .int .i64 s.left, .pointer (some ⟨W, 0, none⟩), .slice (some ⟨r, 0, none⟩) s.regs.length s.regs.length, .int .i64 s.pc, .int .i64 s.kids, iv, wv]
section
variable {wk w0 : World} {Z W m : Nat} {pv dv0 : Value} {l0 : List DnA} {x r : Nat} {t : Tk} {aa : Option Addr} {ac : Nat} {dv iv wv : Value} {nd : List DnA} {s : St} {wr w' : World}
end
end Go.Proofs.Ytdhbjejejeljoaa
