/- Contracts: check.Input, eval.Root. -/
import Derived.Test.YtdhbjejejeljoaaEv7
import Derived.OwnWalk
import Derived.Sort.OwnSorted
import Derived.Lib.SliceRun
import Derived.Laws.AppendOwn
namespace Go.Proofs.Ytdhbjejejeljoaa
open Go.RowKit Go.Sort Go.Lib

theorem owns_base {w : World} {B B' : Nat} {E : TypeId} {size : Nat} {v : Value} {n : Nat} {xs : List Value} (h : w.ownsRow B E size v n xs) (hb : B' ≤ B) : w.ownsRow B' E size v n xs := by
  obtain ⟨h0, h | ⟨g, cap, cur, hv, h1, h2⟩⟩ := h
  · exact ⟨h0, .inl h⟩
  · exact ⟨h0, .inr ⟨g, cap, cur, hv, Nat.le_trans hb h1, h2⟩⟩
theorem info_i64 : (Try.prog.info? 2).map (fun i => (i.zero, i.size, i.bytes)) = some (some (.int .i64 0), 1, 8) := by kernel_rfl

set_option maxHeartbeats 800000 in
set_option maxRecDepth 100000 in
theorem clone_any (v : Value) (l : List Int) (w : World) (h : ReadsK encN1 1 w v l) (hl : l.length ≤ 1000000) :
    Calls Try.prog 26 #[v] w fun e w' => ∃ aa ac, e = .returned (.slice aa l.length ac) ∧ w'.ownsRow w.heap.size 2 1 (.slice aa l.length ac) l.length (l.flatMap encN1) ∧ Below w.heap.size w w' := by
  obtain ⟨ig, hig, hg0, hg1, hg2⟩ := info_parts info_i64
  have q36 : ∀ (w : World) (a : Option Addr) (n c n' c' : Nat), (binOp .eql 25 (.slice a n c) (.slice none n' c')).run Try.prog w = .ok (.bool a.isNone) w := fun w a n c n' c' => Lib.run_eql_slice_nil w _ _ a n c n' c' Try.underlying25
  have main : ∀ (ad : Addr) (cap : Nat), v = .slice (some ad) l.length cap → (∀ j u, (l.flatMap encN1)[j]? = some u → w.cell? (ad.add j) = some u) →
      Calls Try.prog 26 #[v] w fun e w' => ∃ aa ac, e = .returned (.slice aa l.length ac) ∧ w'.ownsRow w.heap.size 2 1 (.slice aa l.length ac) l.length (l.flatMap encN1) ∧ Below w.heap.size w w' := by
    rintro ad cap rfl hc
    have HC := Lib.hid hc
    clear hc h
    go_enter Try.func26, Try.ntmps26
    go_wp2_with (at_builtin; refine wpList_append_own _ rfl _ _ 25 rfl w.heap.size 2 ig (.int .i64 0) 1 8 Try.underlying25 hig hg0 hg1 hg2 rfl (by decide) _ _ _ rfl (World.ownsRow_made w #[] 0 (Nat.le_refl _) (Nat.zero_le _) (by simp)) ad l.length cap (l.flatMap encN1) rfl ?qc1 ?qc2 ?qc3 ?qc4 ?qc5 ?qc6 ?_)
    case qc1 => rw [flat_len (k := 1) (fun _ => rfl)]
    case qc2 => exact fun j u hj => Lib.cell?_alloc_some _ (HC.out j u hj)
    case qc3 =>
      intro u hu
      obtain ⟨x, _, hx⟩ := List.mem_flatMap.1 hu
      simp [encN1] at hx
      rw [hx]; rfl
    case qc4 => unfold maxLen; omega
    case qc5 => omega
    case qc6 => simp
    intro v' w1 hown hgrow hnil
    have hB : Below w.heap.size w w1 := ((Below.refl _ w).alloc (Nat.le_refl _) _).grown hgrow (by simp) (by intro k hk; simp [Value.ownBlock] at hk; omega)
    have HO := Lib.hid hown
    have HB := Lib.hid hB
    obtain ⟨a, c, rfl⟩ := (own_readsK (enc := encN1) (k := 1) (fun _ => rfl) (by decide) hown).slice
    clear hown hB hgrow hnil
    go_wp2_with fail
    go_ret
    exact ⟨a, c, rfl, HO.out, HB.out⟩
  rcases h with ⟨rfl, a, cap, rfl⟩ | ⟨b, off, cap, rfl, hb, hc⟩
  · cases a with
    | none =>
      clear main
      go_enter Try.func26, Try.ntmps26
      go_wp2_with fail
      go_ret
      exact ⟨none, 0, rfl, World.ownsRow_nil _ _ _ _, Below.refl _ _⟩
    | some ad => exact main ad cap rfl (by simp)
  · refine main ⟨b, off, none⟩ cap rfl fun j u hj => ?_
    have hjl : j < l.length := by have := (List.getElem?_eq_some_iff.1 hj).1; rwa [flat_len (k := 1) (fun _ => rfl), Nat.mul_one] at this
    have h2 := hc j hjl 0 (.int .i64 l[j]) rfl
    rw [Nat.mul_one, Nat.add_zero] at h2
    have h3 : (l.flatMap encN1)[j]? = some (.int .i64 l[j]) := by
      have : l.flatMap encN1 = l.map (fun x => Value.int .i64 x) := by rw [List.map_eq_flatMap]; rfl
      rw [this, List.getElem?_map, List.getElem?_eq_getElem hjl]; rfl
    rw [h3] at hj
    injection hj with hj
    subst hj
    rw [Addr.add_lit]
    exact h2

abbrev TaskT : TypeId := 27
abbrev taC (p : ByteArray) (fn : Int) (v : Value) (fuel : Int) : Array Value := #[.string p, .int .i64 fn, v, .int .i64 fuel]
def rootE (p : List Fnc) (n : Nat) (fuel : Int) : Int := if inputE p n ≠ 0 then inputE p n else if 0 ≤ fuel ∧ fuel ≤ 65536 then 0 else 2
def noTask : Value := .agg #[.string ⟨#[]⟩, .int .i64 0, .slice none 0 0, .int .i64 0]
/-- What Root answers. -/
def RootP (B : Nat) (w0 : World) (l : List Int) (fuel err : Int) (e : Ending) (w' : World) : Prop :=
  Below w0.heap.size w0 w' ∧ if err = 0 then ∃ aa ac, e = .returned (.tuple #[.agg #[.string ⟨#[]⟩, .int .i64 0, .slice aa l.length ac, .int .i64 fuel], .int .i64 0]) ∧ w'.ownsRow B 2 1 (.slice aa l.length ac) l.length (l.flatMap encN1)
    else e = .returned (.tuple #[noTask, .int .i64 err])
theorem set4_box {w : World} {q : Nat} {a b c d : Value} {T : TypeId} (h : BoxAt w q #[a, b, c, d] T) (x y z u : Value) : BoxAt ((((w.setCell ⟨q, 0, none⟩ x).setCell ⟨q, 1, none⟩ y).setCell ⟨q, 2, none⟩ z).setCell ⟨q, 3, none⟩ u) q #[x, y, z, u] T := set4 h x y z u
theorem set4_below {B : Nat} {w w1 : World} {r : Nat} (h : Below B w w1) (hr : B ≤ r) (a b c d : Value) :
    Below B w ((((w1.setCell ⟨r, 0, none⟩ a).setCell ⟨r, 1, none⟩ b).setCell ⟨r, 2, none⟩ c).setCell ⟨r, 3, none⟩ d) :=
  (((h.setCell hr _).setCell hr _).setCell hr _).setCell hr _
theorem own_sets {w1 : World} {E : TypeId} {v : Value} {n k : Nat} {xs : List Value} {B r : Nat} (h : w1.ownsRow B E k v n xs) (hr : r < B) {a : Addr} (ha : a.block = r) (u : Value) : (w1.setCell a u).ownsRow B E k v n xs := by
  refine ⟨h.1, h.2.imp id ?_⟩
  rintro ⟨g, cap, cur, hv, h1, h2, h3⟩
  exact ⟨g, cap, cur, hv, h1, (Go.heap_setCell_other w1 a g u (by omega)).trans h2, h3⟩
theorem own_sets4 {w1 : World} {E : TypeId} {v : Value} {n k : Nat} {xs : List Value} {B r : Nat} (h : w1.ownsRow B E k v n xs) (hr : r < B) (a b c d : Value) : ((((w1.setCell ⟨r, 0, none⟩ a).setCell ⟨r, 1, none⟩ b).setCell ⟨r, 2, none⟩ c).setCell ⟨r, 3, none⟩ d).ownsRow B E k v n xs :=
  own_sets (own_sets (own_sets (own_sets h hr (a := ⟨r, 0, none⟩) rfl a) hr (a := ⟨r, 1, none⟩) rfl b) hr (a := ⟨r, 2, none⟩) rfl c) hr (a := ⟨r, 3, none⟩) rfl d
end Go.Proofs.Ytdhbjejejeljoaa
