/- What a call leaves alone: all blocks but some. -/
import Derived.Test.YtbelafkklblidaaMap
namespace Go.Proofs.Ytbelafkklblidaa
open Go.RowKit

/-- Of the blocks of w none has turned but those in S. -/
structure Fr (S : Nat → Prop) (w w' : World) : Prop where
  os : w'.os = w.os
  tape : w'.tape = w.tape
  output : w'.output = w.output
  size : w.heap.size ≤ w'.heap.size
  block : ∀ k, k < w.heap.size → ¬ S k → w'.heap[k]? = w.heap[k]?

theorem Fr.refl (S : Nat → Prop) (w : World) : Fr S w w := ⟨rfl, rfl, rfl, Nat.le_refl _, fun _ _ _ => rfl⟩
theorem Fr.trans {S : Nat → Prop} {a b c : World} (h : Fr S a b) (k : Fr S b c) : Fr S a c :=
  ⟨k.os.trans h.os, k.tape.trans h.tape, k.output.trans h.output, Nat.le_trans h.size k.size, fun i hi hs => (k.block i (Nat.lt_of_lt_of_le hi h.size) hs).trans (h.block i hi hs)⟩
theorem Fr.mono {S T : Nat → Prop} {w w' : World} (h : Fr S w w') (hS : ∀ i, S i → T i) : Fr T w w' :=
  ⟨h.os, h.tape, h.output, h.size, fun i hi hs => h.block i hi (fun e => hs (hS i e))⟩
theorem Fr.of_below {S : Nat → Prop} {w w' : World} (h : Below w.heap.size w w') : Fr S w w' := ⟨h.os, h.tape, h.output, h.size, fun i hi _ => h.block i hi⟩
theorem Fr.then {S : Nat → Prop} {a b c : World} (h : Fr S a b) (k : Below b.heap.size b c) : Fr S a c := h.trans (.of_below k)
theorem Fr.alloc {S : Nat → Prop} {a w : World} (h : Fr S a w) (o : Obj) : Fr S a (w.alloc o) := h.then ((Below.refl _ _).alloc (Nat.le_refl _) o)
theorem Fr.drewN {S : Nat → Prop} {a w : World} (h : Fr S a w) (n : Nat) : Fr S a (w.drewN n) := h.then (below_drewN (Below.refl _ _) n)
theorem Fr.drew {S : Nat → Prop} {a w : World} (h : Fr S a w) : Fr S a w.drew := h.then ((Below.refl _ _).drew)
theorem Fr.setCell {S : Nat → Prop} {a w : World} (h : Fr S a w) {p : Addr} (hp : S p.block) (v : Value) : Fr S a (w.setCell p v) :=
  h.trans ⟨rfl, rfl, rfl, by simp [World.setCell], fun k _ hk => Below.heap_setCell _ _ _ _ (fun e => hk (e ▸ hp))⟩
/-- .. a cell of a block that is new. -/
theorem Fr.setNew {S : Nat → Prop} {a w : World} (h : Fr S a w) {p : Addr} (hp : a.heap.size ≤ p.block) (v : Value) : Fr S a (w.setCell p v) :=
  ⟨h.os, h.tape, h.output, by simpa [World.setCell] using h.size, fun k hk hs => by rw [Below.heap_setCell _ _ _ _ (by omega)]; exact h.block k hk hs⟩
theorem Fr.only {S : Nat → Prop} {a w w' : World} {b : Nat} (h : Fr S a w) (ho : OnlyAt w w' b) (hb : S b) : Fr S a w' :=
  h.trans ⟨ho.1, ho.2.1, ho.2.2.1, by rw [ho.2.2.2.1]; exact Nat.le_refl _, fun k _ hk => ho.2.2.2.2.1 k (fun e => hk (e ▸ hb))⟩
theorem Fr.onlyNew {S : Nat → Prop} {a w w' : World} {b : Nat} (h : Fr S a w) (ho : OnlyAt w w' b) (hb : a.heap.size ≤ b) : Fr S a w' :=
  ⟨ho.1.trans h.os, ho.2.1.trans h.tape, ho.2.2.1.trans h.output, by rw [ho.2.2.2.1]; exact h.size, fun k hk hs => by rw [ho.2.2.2.2.1 k (by omega)]; exact h.block k hk hs⟩
theorem Fr.below {S : Nat → Prop} {B : Nat} {w w' : World} (h : Fr S w w') (hS : ∀ i, S i → B ≤ i) (hB : B ≤ w.heap.size) : Below B w w' :=
  ⟨h.os, h.tape, h.output, h.size, fun k hk => h.block k (by omega) (fun e => by have := hS k e; omega)⟩
theorem Fr.cell {S : Nat → Prop} {w w' : World} (h : Fr S w w') {p : Addr} (hp : p.block < w.heap.size) (hs : ¬ S p.block) : w'.cell? p = w.cell? p := World.cell?_of_block (h.block p.block hp hs)

/-- The fences: the struct in block f, its map in block m: these grants, the last epoch. -/
def evU (x : Int) : Value := .int .u64 x
structure Fen (w : World) (f m : Nat) (l : List (Nm × Int)) (last : Int) : Prop where
  box : w.heap[f]? = some (.cells #[.map (some m), .int .u64 last] 61 (0, 0))
  map : MapL evU w m l

theorem Fen.c0 {w : World} {f m : Nat} {l : List (Nm × Int)} {last : Int} (h : Fen w f m l last) : w.cell? ⟨f, 0, none⟩ = some (.map (some m)) := by simp [World.cell?, h.box]
theorem Fen.c1 {w : World} {f m : Nat} {l : List (Nm × Int)} {last : Int} (h : Fen w f m l last) : w.cell? ⟨f, 1, none⟩ = some (.int .u64 last) := by simp [World.cell?, h.box]
theorem Fen.z {w : World} {f m : Nat} {l : List (Nm × Int)} {last : Int} (h : Fen w f m l last) (o : Nat) : w.frozen? ⟨f, o, none⟩ = false := by simp [World.frozen?, h.box]
theorem Fen.lt {w : World} {f m : Nat} {l : List (Nm × Int)} {last : Int} (h : Fen w f m l last) : f < w.heap.size ∧ m < w.heap.size ∧ f ≠ m := by
  refine ⟨(Array.getElem?_eq_some_iff.1 h.box).1, h.map.lt, fun e => ?_⟩
  obtain ⟨es, c, hb, _⟩ := h.map
  have := h.box; rw [e, hb] at this; cases this
theorem Fen.below {w w' : World} {f m : Nat} {l : List (Nm × Int)} {last : Int} (h : Fen w f m l last) (hB : Below w.heap.size w w') : Fen w' f m l last :=
  ⟨(hB.block f h.lt.1).trans h.box, h.map.block (hB.block m h.lt.2.1)⟩
theorem Fen.fr {w w' : World} {f m : Nat} {l : List (Nm × Int)} {last : Int} {S : Nat → Prop} (h : Fen w f m l last) (hF : Fr S w w') (h1 : ¬ S f) (h2 : ¬ S m) : Fen w' f m l last :=
  ⟨(hF.block f h.lt.1 h1).trans h.box, h.map.block (hF.block m h.lt.2.1 h2)⟩
theorem Fen.setLast {w : World} {f m : Nat} {l : List (Nm × Int)} {last : Int} (h : Fen w f m l last) (x : Int) : Fen (w.setCell ⟨f, 1, none⟩ (.int .u64 x)) f m l x := by
  refine ⟨?_, h.map.block (Below.heap_setCell _ _ _ _ (fun e => h.lt.2.2 e.symm))⟩
  simp [World.setCell, h.box, Array.getElem?_modify]
theorem Fen.onMap {w w' : World} {f m : Nat} {l l' : List (Nm × Int)} {last : Int} (h : Fen w f m l last) (ho : OnlyAt w w' m) (hm : MapL evU w' m l') : Fen w' f m l' last :=
  ⟨(ho.2.2.2.2.1 f h.lt.2.2).trans h.box, hm⟩
theorem Fen.drewN {w : World} {f m : Nat} {l : List (Nm × Int)} {last : Int} (h : Fen w f m l last) (n : Nat) : Fen (w.drewN n) f m l last := ⟨h.box, h.map⟩
theorem Fen.drew {w : World} {f m : Nat} {l : List (Nm × Int)} {last : Int} (h : Fen w f m l last) : Fen w.drew f m l last := ⟨h.box, h.map⟩
def InF (f m : Nat) : Nat → Prop := fun i => i = f ∨ i = m
end Go.Proofs.Ytbelafkklblidaa
