/- A forest of frames in memory. -/
import Derived.Test.YtdhbjejejeljoaaGreatVaL7
import Derived.Test.YtdhbjejejeljoaaGreatVmP1
import Derived.Test.YtdhbjejejeljoaaGreatEv15
import Derived.Test.YtdhbjejejeljoaaGreatOwnFr
namespace Go.Proofs.YtdhbjejejeljoaaGreat
open Go.RowKit Go.Sort Go.Lib

abbrev NodeT : TypeId := 43
/-- A task of a forest, and where its things lie; what its own struct says that it came to. -/
structure Nw where
  nd : Nd
  B : Nat
  x : Nat
  r : Nat
  M : Nat
  kv : Value
  aa : Option Addr
  ac : Nat
  dn : Option Rs
def parI : Option Nat → Int
  | none => -1
  | some q => q
def argN (m : Nw) : Value := .slice m.aa m.nd.t.args.length m.ac
def encNd (m : Nw) : List Value := [.pointer (some ⟨m.x, 0, none⟩), .string m.nd.t.p, .int .i64 m.nd.t.fn, .slice m.aa m.nd.t.args.length m.ac, .int .i64 m.nd.t.fuel, .bool m.dn.isSome, .int .i64 (m.dn.getD ⟨0, 0⟩).v, .int .i64 (m.dn.getD ⟨0, 0⟩).e, .int .i64 (parI m.nd.par)]
theorem encNd_len (m : Nw) : (encNd m).length = 9 := rfl
/-- Another thing is written: no box of a frame's types. -/
theorem Frm.other {B x r : Nat} {kv : Value} {p : List Fnc} {t : Tk} {s : Vs} {w w' : World} {S : Nat → Prop} {Es : List TypeId} (h : Frm B x r kv p t s w) (hF : Fr S w w') (hT : Typed S w Es) (e1 : FrameT ∉ Es) (e2 : I64T ∉ Es) (e3 : ChT ∉ Es) (e4 : OpT ∉ Es) (e5 : ResT ∉ Es) (e6 : FnT ∉ Es) : Frm B x r kv p t s w' := by
  obtain ⟨pv, p', av, wv, rv, h1, h2⟩ := h
  have hv := h1.vm
  exact ⟨pv, p', av, wv, rv, ⟨⟨box_typed hv.box hF hT e1, box_typed hv.regs hF hT e2, own_typed hv.kids hF hT e3, hv.wt.typed hF hT e4, hv.rs.typed hF hT e5⟩, h1.pr.typed hF hT e6 e4, h1.same, own_typed h1.args hF hT e2, h1.sep, h1.bx, h1.bk, h1.al⟩, h2⟩
/-- The forest: all of it from block Z on. -/
structure Fw (Z : Nat) (p : List Fnc) (L : List Nw) (av : Value) (w : World) : Prop where
  own : w.ownsRow Z NodeT 9 av L.length (L.flatMap encNd)
  frm : ∀ (i : Nat) (m : Nw), L[i]? = some m → Frm m.B m.x m.r m.kv p m.nd.t m.nd.s w
  arg : ∀ (i : Nat) (m : Nw), L[i]? = some m → w.ownsRow m.M I64T 1 (argN m) m.nd.t.args.length (m.nd.t.args.flatMap encN1) ∧ (∀ b, (argN m).ownBlock = some b → b < m.B) ∧ Z ≤ m.M ∧ m.M ≤ m.B
  ord : ∀ (i j : Nat) (a b : Nw), i < j → L[i]? = some a → L[j]? = some b → a.x < b.M ∧ a.r < b.M
  ap : ∀ (i j : Nat) (a b : Nw), i ≠ j → L[i]? = some a → L[j]? = some b → Apart a.kv b.kv
section
variable {Z : Nat} {p : List Fnc} {L : List Nw} {av : Value} {w w' : World} {k : Nat} {m : Nw}
theorem Fw.below (h : Fw Z p L av w) (hB : Below w.heap.size w w') : Fw Z p L av w' :=
  ⟨own_below h.own hB, fun i m hm => (h.frm i m hm).below hB, fun i m hm => ⟨own_below (h.arg i m hm).1 hB, (h.arg i m hm).2⟩, h.ord, h.ap⟩
theorem setm_get {x : Nw} (hk : L[k]? = some m) {i : Nat} {n : Nw} (h : (L.set k x)[i]? = some n) : (i = k ∧ n = x) ∨ (i ≠ k ∧ L[i]? = some n) := by
  rw [List.getElem?_set] at h
  by_cases e : k = i
  · rw [if_pos e, if_pos (List.getElem?_eq_some_iff.1 hk).1] at h
    cases h
    exact .inl ⟨e.symm, rfl⟩
  · rw [if_neg e] at h
    exact .inr ⟨fun h => e h.symm, h⟩
theorem setm_self {x : Nw} (hk : L[k]? = some m) : (L.set k x)[k]? = some x := by
  rw [List.getElem?_set, if_pos rfl, if_pos (List.getElem?_eq_some_iff.1 hk).1]
theorem setm_ne {x : Nw} {i : Nat} (h : i ≠ k) : (L.set k x)[i]? = L[i]? := by
  rw [List.getElem?_set, if_neg (fun e => h e.symm)]
/-- A box of another type stays, while a frame of these runs. -/
theorem Fw.box {kv' : Value} {c : Nat} {cur : Array Value} {E : TypeId} (h : Fw Z p L av w) (hk : L[k]? = some m) (hl : VmL m.x m.r m.kv w kv' w') (hb : BoxAt w c cur E) (hE : E ∉ [FrameT, I64T, ChT]) : BoxAt w' c cur E := box_typed hb hl.fr (h.frm k m hk).typed hE
theorem Fw.lowS (h : Fw Z p L av w) (hk : L[k]? = some m) : ∀ i, VmS m.x m.r m.kv i → Z ≤ i := fun i hi =>
  Nat.le_trans (Nat.le_trans (h.arg k m hk).2.2.1 (h.arg k m hk).2.2.2) ((h.frm k m hk).low i hi)
theorem enc_set {L : List Nw} : ∀ {k : Nat} {m x : Nw}, L[k]? = some m → encNd x = encNd m → (L.set k x).flatMap encNd = L.flatMap encNd := by
  induction L with
  | nil => intro k m x h; simp at h
  | cons a L ih =>
    intro k m x h e
    cases k with
    | zero => simp at h; subst h; simp [e]
    | succ k => simp at h; simp [ih h e]
/-- One of the frames has run. -/
theorem Fw.run {kv' : Value} {s' : Vs} (ks' : List Nat) (h : Fw Z p L av w) (hk : L[k]? = some m) (hf : Frm m.B m.x m.r kv' p m.nd.t s' w') (hl : VmL m.x m.r m.kv w kv' w') : Fw Z p (L.set k { m with nd := { m.nd with s := s', ks := ks' }, kv := kv' }) av w' := by
  have hT := (h.frm k m hk).typed
  have hlt := (h.frm k m hk).lt
  have hfr := h.frm k m hk
  refine ⟨?_, ?_, ?_, ?_, ?_⟩
  · rw [List.length_set, enc_set (x := { m with nd := { m.nd with s := s', ks := ks' }, kv := kv' }) hk rfl]
    exact own_typed h.own hl.fr hT (by decide)
  · intro i n hn
    rcases setm_get hk hn with ⟨_, rfl⟩ | ⟨e, hn⟩
    · exact hf
    · have hap := h.ap i k n m e hn hk
      have hni := (h.frm i n hn).lt
      have hnM := (h.arg i n hn).2.2.2
      have hmM := (h.arg k m hk).2.2.2
      rcases Nat.lt_or_gt_of_ne e with e2 | e2
      · obtain ⟨f1, f2⟩ := h.ord i k n m e2 hn hk
        exact (h.frm i n hn).far hfr hl.fr (by omega) (by omega) (.inr (by omega)) hap
      · obtain ⟨f1, f2⟩ := h.ord k i m n e2 hk hn
        exact (h.frm i n hn).far hfr hl.fr (by omega) (by omega) (.inl (by omega)) hap
  · intro i n hn
    obtain ⟨pv, p', av0, wv, rv, h1, _⟩ := hfr
    have key : ∀ n0 : Nw, L[i]? = some n0 → w'.ownsRow n0.M I64T 1 (argN n0) n0.nd.t.args.length (n0.nd.t.args.flatMap encN1) := by
      intro n0 hn0
      obtain ⟨g1, g2, g3, g4⟩ := h.arg i n0 hn0
      refine own_fr g1 hl.fr (fun b hb hs => ?_)
      rcases hs with (e | e) | e
      · exact own_not_box g1 h1.vm.box (by decide) (by rw [hb, e])
      · have hb1 := (g1.lt b hb).1
        have hb2 := g2 b hb
        have hni := (h.frm i n0 hn0).lt
        by_cases ei : i = k
        · subst ei
          rw [hk] at hn0; cases hn0
          omega
        · rcases Nat.lt_or_gt_of_ne ei with e2 | e2
          · obtain ⟨f1, f2⟩ := h.ord i k n0 m e2 hn0 hk
            have := (h.arg k m hk).2.2.2
            omega
          · obtain ⟨f1, f2⟩ := h.ord k i m n0 e2 hk hn0
            omega
      · exact own_not_own g1 h1.vm.kids (by decide) hb e
    rcases setm_get hk hn with ⟨rfl, rfl⟩ | ⟨e, hn⟩
    · exact ⟨key m hk, (h.arg _ m hk).2⟩
    · exact ⟨key n hn, (h.arg i n hn).2⟩
  · intro i j a b hij ha hb
    have k1 : ∀ (i : Nat) (n : Nw), (L.set k { m with nd := { m.nd with s := s', ks := ks' }, kv := kv' })[i]? = some n → ∃ n0 : Nw, L[i]? = some n0 ∧ n.x = n0.x ∧ n.r = n0.r ∧ n.M = n0.M := by
      intro i n hn
      rcases setm_get hk hn with ⟨rfl, rfl⟩ | ⟨_, hn⟩
      · exact ⟨m, hk, rfl, rfl, rfl⟩
      · exact ⟨n, hn, rfl, rfl, rfl⟩
    obtain ⟨a0, a1, a2, a3, _⟩ := k1 i a ha
    obtain ⟨b0, b1, _, _, b4⟩ := k1 j b hb
    rw [a2, a3, b4]
    exact h.ord i j a0 b0 hij a1 b1
  · intro i j a b hij ha hb
    have far : ∀ (i : Nat) (n : Nw), i ≠ k → L[i]? = some n → Apart kv' n.kv := by
      intro i n hi hn c hc hu
      rcases hl.own with e | e
      · exact h.ap k i m n (fun e => hi e.symm) hk hn c (by rw [← e]; exact hc) hu
      · have h1 := e c hc
        have h2 := (h.frm i n hn).lt.2.2.2.2 c hu
        omega
    rcases setm_get hk ha with ⟨e1, ea⟩ | ⟨e1, ha2⟩
    · rcases setm_get hk hb with ⟨e2, _⟩ | ⟨e2, hb2⟩
      · exact absurd (e1.trans e2.symm) hij
      · rw [ea]; exact far j b e2 hb2
    · rcases setm_get hk hb with ⟨_, eb⟩ | ⟨_, hb2⟩
      · rw [eb]; exact (far i a e1 ha2).symm
      · exact h.ap i j a b hij ha2 hb2
/-- The structs are written: another list of the same frames. -/
theorem Fw.wrote {L' : List Nw} {av' : Value} (h : Fw Z p L av w) (hF : Fr (fun i => av.ownBlock = some i) w w') (ho : w'.ownsRow Z NodeT 9 av' L'.length (L'.flatMap encNd)) (hL : ∀ (i : Nat) (n : Nw), L'[i]? = some n → ∃ n0 : Nw, L[i]? = some n0 ∧ n = { n0 with dn := n.dn }) : Fw Z p L' av' w' := by
  have hT := typed_own h.own
  refine ⟨ho, fun i n hn => ?_, fun i n hn => ?_, fun i j a b hij ha hb => ?_, fun i j a b hij ha hb => ?_⟩
  · obtain ⟨n0, h0, e⟩ := hL i n hn
    rw [e]
    exact (h.frm i n0 h0).other hF hT (by decide) (by decide) (by decide) (by decide) (by decide) (by decide)
  · obtain ⟨n0, h0, e⟩ := hL i n hn
    rw [e]
    exact ⟨own_typed (h.arg i n0 h0).1 hF hT (by decide), (h.arg i n0 h0).2⟩
  · obtain ⟨a0, a1, a2⟩ := hL i a ha
    obtain ⟨b0, b1, b2⟩ := hL j b hb
    rw [a2, b2]
    exact h.ord i j a0 b0 hij a1 b1
  · obtain ⟨a0, a1, a2⟩ := hL i a ha
    obtain ⟨b0, b1, b2⟩ := hL j b hb
    rw [a2, b2]
    exact h.ap i j a0 b0 hij a1 b1
/-- A frame more. -/
theorem Fw.push {av' : Value} {n : Nw} (h : Fw Z p L av w) (hF : Fr (fun i => av.ownBlock = some i) w w') (ho : w'.ownsRow Z NodeT 9 av' (L.length + 1) (L.flatMap encNd ++ encNd n)) (hf : Frm n.B n.x n.r n.kv p n.nd.t n.nd.s w) (hkv : n.kv.ownBlock = none) (ha : w.ownsRow n.M I64T 1 (argN n) n.nd.t.args.length (n.nd.t.args.flatMap encN1)) (hb : ∀ b, (argN n).ownBlock = some b → b < n.B) (hM : n.M ≤ n.B) (hZ : Z ≤ n.M) (hlt : ∀ (i : Nat) (m : Nw), L[i]? = some m → m.x < n.M ∧ m.r < n.M) : Fw Z p (L ++ [n]) av' w' := by
  have hT := typed_own h.own
  have key : ∀ (i : Nat) (a : Nw), (L ++ [n])[i]? = some a → (i < L.length ∧ L[i]? = some a) ∨ (i = L.length ∧ a = n) := by
    intro i a ha
    by_cases hi : i < L.length
    · rw [List.getElem?_append_left hi] at ha
      exact .inl ⟨hi, ha⟩
    · have h1 := (List.getElem?_eq_some_iff.1 ha).1
      simp at h1
      have h2 : i = L.length := by omega
      subst h2
      rw [List.getElem?_append_right (Nat.le_refl _), Nat.sub_self] at ha
      cases ha
      exact .inr ⟨rfl, rfl⟩
  refine ⟨by simpa [List.flatMap_append] using ho, fun i a ha' => ?_, fun i a ha' => ?_, fun i j a b hij ha' hb' => ?_, fun i j a b hij ha' hb' => ?_⟩
  · rcases key i a ha' with ⟨_, h0⟩ | ⟨_, rfl⟩
    · exact (h.frm i a h0).other hF hT (by decide) (by decide) (by decide) (by decide) (by decide) (by decide)
    · exact hf.other hF hT (by decide) (by decide) (by decide) (by decide) (by decide) (by decide)
  · rcases key i a ha' with ⟨_, h0⟩ | ⟨_, rfl⟩
    · exact ⟨own_typed (h.arg i a h0).1 hF hT (by decide), (h.arg i a h0).2⟩
    · exact ⟨own_typed ha hF hT (by decide), hb, hZ, hM⟩
  · rcases key j b hb' with ⟨hj, h1⟩ | ⟨hj, rfl⟩
    · rcases key i a ha' with ⟨_, h0⟩ | ⟨hi, _⟩
      · exact h.ord i j a b hij h0 h1
      · omega
    · rcases key i a ha' with ⟨_, h0⟩ | ⟨hi, _⟩
      · exact hlt i a h0
      · omega
  · rcases key j b hb' with ⟨hj, h1⟩ | ⟨hj, rfl⟩
    · rcases key i a ha' with ⟨_, h0⟩ | ⟨hi, rfl⟩
      · exact h.ap i j a b hij h0 h1
      · intro c hc _
        rw [hkv] at hc; cases hc
    · rcases key i a ha' with ⟨_, h0⟩ | ⟨hi, _⟩
      · intro c _ hc
        rw [hkv] at hc; cases hc
      · omega
/-- What the structs read. -/
theorem row_cells {g cap n : Nat} (ho : w.ownsRow Z NodeT 9 (.slice (some ⟨g, 0, none⟩) n cap) n (L.flatMap encNd)) (hn : n = L.length) (hk : L[k]? = some m) :
    w.cell? ⟨g, k * 9, none⟩ = some (.pointer (some ⟨m.x, 0, none⟩)) ∧ w.cell? ⟨g, k * 9 + 1, none⟩ = some (.string m.nd.t.p) ∧ w.cell? ⟨g, k * 9 + 2, none⟩ = some (.int .i64 m.nd.t.fn) ∧ w.cell? ⟨g, k * 9 + 3, none⟩ = some (.slice m.aa m.nd.t.args.length m.ac) ∧ w.cell? ⟨g, k * 9 + 4, none⟩ = some (.int .i64 m.nd.t.fuel) ∧
    w.cell? ⟨g, k * 9 + 5, none⟩ = some (.bool m.dn.isSome) ∧ w.cell? ⟨g, k * 9 + 6, none⟩ = some (.int .i64 (m.dn.getD ⟨0, 0⟩).v) ∧ w.cell? ⟨g, k * 9 + 7, none⟩ = some (.int .i64 (m.dn.getD ⟨0, 0⟩).e) ∧ w.cell? ⟨g, k * 9 + 8, none⟩ = some (.int .i64 (parI m.nd.par)) := by
  subst hn
  obtain ⟨hkl, hke⟩ := List.getElem?_eq_some_iff.1 hk
  obtain ⟨b, off, cap', he, _, hc⟩ := (own_readsK (enc := encNd) (k := 9) (fun _ => rfl) (by decide) ho).at (by omega)
  injection he with he _ _
  injection he with he
  injection he with e1 e2 _
  subst e1; subst e2
  have key : ∀ j u, (encNd m)[j]? = some u → w.cell? ⟨g, 0 + (k * 9 + j), none⟩ = some u := fun j u hu => hc k hkl j u (by rw [hke]; exact hu)
  simp only [Nat.zero_add] at key
  exact ⟨key 0 _ rfl, key 1 _ rfl, key 2 _ rfl, key 3 _ rfl, key 4 _ rfl, key 5 _ rfl, key 6 _ rfl, key 7 _ rfl, key 8 _ rfl⟩
theorem flat_setNd : ∀ (L : List Nw) (i : Nat) (m : Nw), L[i]? = some m → ∀ z : Rs, (((L.flatMap encNd).set (i * 9 + 5) (.bool true)).set (i * 9 + 6) (.int .i64 z.v)).set (i * 9 + 7) (.int .i64 z.e) = (L.set i { m with dn := some z }).flatMap encNd
  | [], _, _, h, _ => by simp at h
  | a :: L, 0, m, h, z => by
    simp at h; subst h
    simp [encNd]
  | a :: L, i + 1, m, h, z => by
    simp at h
    rw [List.flatMap_cons, List.set_cons_succ, List.flatMap_cons, List.set_append_right _ _ (by simp [encNd]; omega)]
    rw [show (i + 1) * 9 + 5 - (encNd a).length = i * 9 + 5 by simp [encNd]; omega]
    rw [List.set_append_right _ _ (by simp [encNd]; omega)]
    rw [show (i + 1) * 9 + 6 - (encNd a).length = i * 9 + 6 by simp [encNd]; omega]
    rw [List.set_append_right _ _ (by simp [encNd]; omega)]
    rw [show (i + 1) * 9 + 7 - (encNd a).length = i * 9 + 7 by simp [encNd]; omega, flat_setNd L i m h z]
/-- One's own struct is told what it came to. -/
theorem Fw.tell {g cap : Nat} (h : Fw Z p L (.slice (some ⟨g, 0, none⟩) L.length cap) w) (hk : L[k]? = some m) (z : Rs) :
    Fw Z p (L.set k { m with dn := some z }) (.slice (some ⟨g, 0, none⟩) L.length cap) (((w.setCell ⟨g, k * 9 + 5, none⟩ (.bool true)).setCell ⟨g, k * 9 + 6, none⟩ (.int .i64 z.v)).setCell ⟨g, k * 9 + 7, none⟩ (.int .i64 z.e)) ∧
      Fr (fun i => i = g) w (((w.setCell ⟨g, k * 9 + 5, none⟩ (.bool true)).setCell ⟨g, k * 9 + 6, none⟩ (.int .i64 z.v)).setCell ⟨g, k * 9 + 7, none⟩ (.int .i64 z.e)) := by
  have hF : Fr (fun i => i = g) w (((w.setCell ⟨g, k * 9 + 5, none⟩ (.bool true)).setCell ⟨g, k * 9 + 6, none⟩ (.int .i64 z.v)).setCell ⟨g, k * 9 + 7, none⟩ (.int .i64 z.e)) := (((Fr.refl (fun i => i = g) w).setCell (p := ⟨g, k * 9 + 5, none⟩) rfl _).setCell (p := ⟨g, k * 9 + 6, none⟩) rfl _).setCell (p := ⟨g, k * 9 + 7, none⟩) rfl _
  have ho := own_set (own_set (own_set h.own (j := k * 9 + 5) (v := .bool true)) (j := k * 9 + 6) (v := .int .i64 z.v)) (j := k * 9 + 7) (v := .int .i64 z.e)
  rw [flat_setNd L k m hk z] at ho
  refine ⟨h.wrote (hF.mono fun i hi => by subst hi; rfl) (by rw [List.length_set]; exact ho) (fun i n hn => ?_), hF⟩
  rcases setm_get hk hn with ⟨rfl, rfl⟩ | ⟨_, hn⟩
  · exact ⟨m, hk, rfl⟩
  · exact ⟨n, hn, rfl⟩
end
end Go.Proofs.YtdhbjejejeljoaaGreat
