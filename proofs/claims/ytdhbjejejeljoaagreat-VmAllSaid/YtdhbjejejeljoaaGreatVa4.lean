/- The forest of a program's root: what it is begun as, and what it comes to. -/
import Derived.Test.YtdhbjejejeljoaaGreatVa3
import Derived.Test.YtdhbjejejeljoaaGreatEvP3
import Derived.Test.YtdhbjejejeljoaaGreatOpen14
namespace Go.Proofs.YtdhbjejejeljoaaGreat
open Go.RowKit Go.Sort Go.Lib

theorem tree_sorted {L : List Nw} {D : List Dn} (hp : D.Perm ((ndsN L).map dnN)) (ho : Ord13 D) : (sortS (L.map fun m => m.nd.t.p)).flatMap (pickN (ndsN L)) = D := by
  have h1 : sortS (L.map fun m => m.nd.t.p) = D.map (·.t.p) := by
    refine sortS_unique ?_ ?_
    · have h2 := hp.map (·.t.p)
      rw [List.map_map] at h2
      unfold ndsN at h2
      rw [List.map_map] at h2
      exact h2
    · rw [List.pairwise_map]
      refine List.Pairwise.imp ?_ ho
      intro a b hab
      rw [leS_iff, cmpS_eq]
      unfold pl at hab
      omega
  rw [h1]
  exact pick_all hp ho
theorem treeE_small {p : List Fnc} {l : List Int} {fuel : Int} (hf : fuel ≤ 400) : treeE p l fuel 65536 = rootE p l.length fuel := by
  unfold treeE
  by_cases h : rootE p l.length fuel = 0
  · rw [if_neg (fun e => e h)]
    obtain ⟨hp, ht⟩ := rootT_ok h
    have h0 : (0 : Int) ≤ fuel := ht.u0
    have h1 := doP_ok hp (fuel.toNat + 1) (rootT l fuel) ht (by show fuel < _; omega)
    have h2 : ((doP p (fuel.toNat + 1) (rootT l fuel)).2.length : Int) ≤ fuel + 1 := h1
    rw [if_neg (by omega), h]
  · rw [if_pos h]
theorem treeL_small {p : List Fnc} {l : List Int} {fuel : Int} (hf : fuel ≤ 400) (h : rootE p l.length fuel = 0) : treeL p l fuel 65536 = (dW p (rootT l fuel)).2 := by
  unfold treeL
  rw [if_pos (by rw [treeE_small hf, h])]
  rfl
theorem dW_ord {p : List Fnc} {t : Tk} (hp : WfP p) (ht : TkOk p t) : Ord13 (dW p t).2 := tree_ord hp _ t ht (by have := ht.u0; omega)
theorem TreeAt.reads {B : Nat} {w : World} {v : Value} {D : List Dn} (h : TreeAt B w v D) : TreeR w v D := by
  obtain ⟨l, h1, h2, h3⟩ := h
  exact ⟨l, h1, own_readsK (enc := encDn) (k := 7) encDn_len (by decide) h2, fun d hd => own_readsK (enc := encN1) (k := 1) (fun _ => rfl) (by decide) (h3 d hd)⟩
theorem dW_args {p : List Fnc} {t : Tk} (hp : WfP p) (ht : TkOk p t) (hf : t.fuel ≤ 400) : (dW p t).2.length ≤ 1000000 ∧ ∀ d ∈ (dW p t).2, d.t.args.length ≤ 1000000 := by
  have h0 := ht.u0
  refine ⟨?_, fun d hd => ?_⟩
  · have h1 := doP_ok hp (t.fuel.toNat + 1) t ht (by omega)
    have h2 : ((dW p t).2.length : Int) ≤ t.fuel + 1 := h1
    omega
  · have := (doP_tk hp (t.fuel.toNat + 1) t ht (by omega) d hd).len hp
    omega
theorem newE_root {p : List Fnc} {l : List Int} {fuel : Int} (h : rootE p l.length fuel = 0) : newE p (rootT l fuel) = 0 :=
  newE_kid (root_parts h).1 (rootT_ok h).2 (by kernel_rfl)
/-- The forest, between turns. -/
structure Fst (Z : Nat) (p : List Fnc) (t0 : Tk) (L : List Nw) (av : Value) (w0 w : World) : Prop where
  fw : Fw Z p L av w
  says : Says L
  fo : Fo p t0 none (ndsN L)
  ph : phi (ndsN L) ≤ 2 * t0.fuel + 1
  low : Below Z w0 w
theorem Fst.len {Z : Nat} {p : List Fnc} {t0 : Tk} {L : List Nw} {av : Value} {w0 w : World} (h : Fst Z p t0 L av w0 w) (hf : t0.fuel ≤ 400) : 0 < L.length ∧ L.length ≤ 401 := by
  have h1 := fo_len h.fo
  rw [nds_len] at h1
  obtain ⟨n, e, _⟩ := h.fo.root
  have h2 := (List.getElem?_eq_some_iff.1 e).1
  rw [nds_len] at h2
  exact ⟨h2, by omega⟩
theorem Fst.below {Z : Nat} {p : List Fnc} {t0 : Tk} {L : List Nw} {av : Value} {w0 w w' : World} (h : Fst Z p t0 L av w0 w) (hz : Z ≤ w.heap.size) (hB : Below w.heap.size w w') : Fst Z p t0 L av w0 w' :=
  ⟨h.fw.below hB, h.says, h.fo, h.ph, h.low.trans (hB.mono hz)⟩
theorem Fst.turn {Z k n : Nat} {p : List Fnc} {t0 : Tk} {L L' : List Nw} {av av' : Value} {w0 w w' : World} (h : Fst Z p t0 L av w0 w) (hwf : WfP p) (hk : k < L.length) (hn : 1 ≤ n) (e1 : ndsN L' = turnL p (ndsN L) k n) (e2 : Fw Z p L' av' w') (e3 : Says L') (e4 : Below Z w w') : Fst Z p t0 L' av' w0 w' := by
  have ht := turn_ok (n := n) h.fo hwf (nds_at (List.getElem?_eq_getElem hk)) hn
  rw [← e1] at ht
  exact ⟨e2, e3, ht.fo, Int.le_trans ht.ph h.ph, h.low.trans e4⟩
/-- The first one. -/
theorem fst_one {p : List Fnc} {t0 : Tk} {B x r : Nat} {aa : Option Addr} {ac : Nat} {w0 w : World} (hp : WfP p) (ht : TkOk p t0) (hf : Frm B x r (.slice none 0 0) p t0 (newV p t0) w) (ha : w.ownsRow w0.heap.size I64T 1 (.slice aa t0.args.length ac) t0.args.length (t0.args.flatMap encN1)) (hb : ∀ b, (Value.slice aa t0.args.length ac).ownBlock = some b → b < B) (hB : w0.heap.size ≤ B) (hlow : Below w0.heap.size w0 w) :
    Fst w0.heap.size p t0 [⟨⟨t0, newV p t0, [], none⟩, B, x, r, w0.heap.size, .slice none 0 0, aa, ac, none⟩] (.slice (some ⟨w.heap.size, 0, none⟩) 1 1) w0 (w.alloc (.cells #[.pointer (some ⟨x, 0, none⟩), .string t0.p, .int .i64 t0.fn, .slice aa t0.args.length ac, .int .i64 t0.fuel, .bool false, .int .i64 0, .int .i64 0, .int .i64 (-1)] NodeT)) := by
  have hA := alV w (.cells #[.pointer (some ⟨x, 0, none⟩), .string t0.p, .int .i64 t0.fn, .slice aa t0.args.length ac, .int .i64 t0.fuel, .bool false, .int .i64 0, .int .i64 0, .int .i64 (-1)] NodeT)
  have one : ∀ (i : Nat) (m : Nw), ([⟨⟨t0, newV p t0, [], none⟩, B, x, r, w0.heap.size, .slice none 0 0, aa, ac, none⟩] : List Nw)[i]? = some m → i = 0 ∧ m = ⟨⟨t0, newV p t0, [], none⟩, B, x, r, w0.heap.size, .slice none 0 0, aa, ac, none⟩ := by
    intro i m hm
    have h1 := (List.getElem?_eq_some_iff.1 hm).1
    simp at h1
    subst h1
    simp at hm
    exact ⟨rfl, hm.symm⟩
  refine ⟨⟨?_, fun i m hm => ?_, fun i m hm => ?_, fun i j a b hij ha' hb' => ?_, fun i j a b hij ha' hb' => ?_⟩, fun i m hm => ?_, fo_one hp ht, ?_, hlow.trans (hA.mono hlow.size)⟩
  · exact ⟨by simp [encNd], .inr ⟨w.heap.size, 1, _, rfl, hlow.size, heap_alloc_new w _, Nat.le_refl _, by unfold maxLen; omega, rfl, by simp [encNd, parI]⟩⟩
  · obtain ⟨_, rfl⟩ := one i m hm
    exact hf.below hA
  · obtain ⟨_, rfl⟩ := one i m hm
    exact ⟨own_below ha hA, hb, Nat.le_refl _, hB⟩
  · have := (one i a ha').1; have := (one j b hb').1; omega
  · have := (one i a ha').1; have := (one j b hb').1; omega
  · obtain ⟨_, rfl⟩ := one i m hm
    rfl
  · rw [show ndsN [⟨⟨t0, newV p t0, [], none⟩, B, x, r, w0.heap.size, .slice none 0 0, aa, ac, none⟩] = [⟨t0, newV p t0, [], none⟩] from rfl, phi_one]
    exact Int.le_refl _
end Go.Proofs.YtdhbjejejeljoaaGreat
