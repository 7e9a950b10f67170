/- The caller's own map; Drop and the map that is made anew; the rows. -/
import Derived.Test.YthbkbmkcgpdedaaCmpR17
namespace Go.Proofs.Ythbkbmkcgpdedaa
open Go.RowKit Go.Sort Go.Lib

def OnlyB (b : Nat) (w w' : World) : Prop := w'.os = w.os ∧ w'.tape = w.tape ∧ w'.output = w.output ∧ w'.heap.size = w.heap.size ∧ ∀ i, i ≠ b → w'.heap[i]? = w.heap[i]?
theorem OnlyAt.b {b : Nat} {w w' : World} (h : OnlyAt w w' b) : OnlyB b w w' := ⟨h.1, h.2.1, h.2.2.1, h.2.2.2.1, h.2.2.2.2.1⟩
theorem OnlyB.below {B b : Nat} {w w2 : World} (h : OnlyB b w w2) (hb : B ≤ b) : Below B w w2 := ⟨h.1, h.2.1, h.2.2.1, by rw [h.2.2.2.1]; exact Nat.le_refl _, fun k hk => h.2.2.2.2 k (by omega)⟩
section
variable {w0 w w' : World} {f m km : Nat} {T T' : Tb} {K : List (Nm × Nm)}
theorem Tab.cellsKept {most : Int} (h : Tab w f m most T) (k : ∀ (i : Nat) c t fr, w.heap[i]? = some (Obj.cells c t fr) → w'.heap[i]? = w.heap[i]?) (hm : w'.heap[m]? = w.heap[m]?) : Tab w' f m most T :=
  ⟨(k _ _ _ _ h.box).trans h.box, h.map.block hm, fun p hp => ⟨(k _ _ _ _ (h.row p hp).1).trans (h.row p hp).1, (h.row p hp).2.far (fun i _cur hi => k i _ _ _ hi)⟩, h.nd⟩
theorem onlyB_cells {b : Nat} (hO : OnlyB b w w') (hb : ∀ c t fr, w.heap[b]? ≠ some (Obj.cells c t fr)) (i : Nat) (c : Array Value) (t : TypeId) (fr : Nat × Nat) (hi : w.heap[i]? = some (Obj.cells c t fr)) : w'.heap[i]? = w.heap[i]? :=
  hO.2.2.2.2 i (fun e => hb _ _ _ (e ▸ hi))
theorem Wj.only {most : Int} {b : Nat} (h : Wj w0 f m most T w) (hO : OnlyB b w w') (hb : ∀ c t fr, w.heap[b]? ≠ some (Obj.cells c t fr)) (hbm : b ≠ m) (hB : w0.heap.size ≤ b) : Wj w0 f m most T w' ∧ Kept w w' :=
  ⟨⟨h.hf, h.hm, h.hr, h.tab.cellsKept (onlyB_cells hO hb) (hO.2.2.2.2 m (fun e => hbm e.symm)), h.low.trans (hO.below hB)⟩, fun r _c _E _ hx => (onlyB_cells hO hb r _ _ _ hx).trans hx⟩
theorem Jw.only {b : Nat} (h : Jw w0 f m km T K w) (hO : OnlyB b w w') (hb : ∀ c t fr, w.heap[b]? ≠ some (Obj.cells c t fr)) (hbm : b ≠ m) (hbk : b ≠ km) (hB : w0.heap.size ≤ b) : Jw w0 f m km T K w' ∧ Kept w w' :=
  ⟨⟨(h.wj.only hO hb hbm hB).1, h.ok, h.sz, h.kmp.block (hO.2.2.2.2 km (fun e => hbk e.symm)), h.kb, h.ne⟩, (h.wj.only hO hb hbm hB).2⟩
theorem Jw.putK {K' : List (Nm × Nm)} (h : Jw w0 f m km T K w) (hO : OnlyAt w w' km) (hM : MapL encN w' km K') : Jw w0 f m km T K' w' ∧ Kept w w' :=
  ⟨⟨(h.wj.only hO.b (fun _ _ _ => no_cellsK h.kmp) h.ne h.kb).1, h.ok, h.sz, hM, h.kb, h.ne⟩, (h.wj.only hO.b (fun _ _ _ => no_cellsK h.kmp) h.ne h.kb).2⟩
theorem Jw.swap {km2 : Nat} {K2 : List (Nm × Nm)} (h : Jw w0 f m km T K w) (hM : MapL encN w km2 K2) (hb : w0.heap.size ≤ km2) (hn : km2 ≠ m) : Jw w0 f m km2 T K2 w := ⟨h.wj, h.ok, h.sz, hM, hb, hn⟩
theorem jw_start {e : Ending} {w1 : World} (h : MadeT 200 w e w1) : ∃ f m, e = .returned (.tuple #[.pointer (some ⟨f, 0, none⟩), .int .i64 0]) ∧ Jw w f m w1.heap.size [] [] (w1.alloc (.map #[] 0)) ∧ KOk [] [] := by
  obtain ⟨f, m, he, hf, hm, hT, hB⟩ := h
  have hA : Below w1.heap.size w1 (w1.alloc (.map #[] 0)) := (Below.refl _ _).alloc (Nat.le_refl _) _
  refine ⟨f, m, he, ⟨⟨hf, hm, by simp, hT.below hA, gthen hB hA⟩, Ok.nil, by simp, MapL.made encN w1, hB.size, ?_⟩, fun n => rfl⟩
  have := hT.lt.2.1
  omega
theorem reads_name (w : World) (n : Nm) (E : TypeId) : ReadsK encM 2 (w.alloc (.cells #[.int .u64 n.1, .string n.2] E)) (.slice (some ⟨w.heap.size, 0, none⟩) 1 1) [n] := by
  refine .inr ⟨w.heap.size, 0, 1, rfl, by simp, fun i hi t u hu => ?_⟩
  have hi0 : i = 0 := by simpa using hi
  subst hi0
  have ht : t < 2 := by have := (List.getElem?_eq_some_iff.1 hu).1; simpa [encM] using this
  match t, ht with
  | 0, _ => simp [encM] at hu; subst hu; simp
  | 1, _ => simp [encM] at hu; subst hu; simp
theorem dropT_len_le (T : Tb) (n : Nm) : (dropT T n).length ≤ T.length := by
  unfold dropT
  split
  · exact Nat.le_trans (List.length_filter_le _ _) (Nat.le_of_eq (dropT1_len T n))
  · exact Nat.le_refl _
theorem dropT_base {B : Nat} (h : ∀ p ∈ T, B ≤ p.2.1) (n : Nm) : ∀ p ∈ dropT T n, B ≤ p.2.1 := by
  intro p hp
  obtain ⟨q, hq, e⟩ := dropT_rows (root := n) (i := p.2.1) ⟨p, hp, rfl⟩
  rw [← e]; exact h q hq
theorem drop_w (h : Jw w0 f m km T K w) (n : Nm) (v : Value) (hv : ReadsK encM 2 w v [n]) (hbx : ∀ (a : Addr) (k c : Nat), v = Value.slice (some a) k c → ∃ cs t fr, w.heap[a.block]? = some (Obj.cells cs t fr) ∧ t ≠ 85) (hz : n.2.size ≤ 9223372036854775807) :
    Calls Try.prog 25 #[.pointer (some ⟨f, 0, none⟩), v] w fun e w' => ∃ c : Value, e = .returned c ∧ Jw w0 f m km (dropT T n) K w' ∧ Kept w w' := by
  refine (drop_tab (fun T => Ok T ∧ T.length ≤ 200) (fun T hT => ⟨fun n b r hg hf hs => ?_, fun p hp => hT.1.sizes hp⟩) (fun T root hT => ⟨hT.1.drop root, Nat.le_trans (dropT_len_le T root) hT.2⟩) f m 200 T [n] v w h.wj.tab hv ⟨h.ok, h.sz⟩ (by have := h.sz; omega) (by simp) (by intro a ha; rw [List.mem_singleton] at ha; subst ha; exact hz) hbx).mono ?_
  · obtain ⟨_, pb, q, h2, h3, h4⟩ := hT.1.pars hg hf hs
    have := hT.2
    exact ⟨pb, q, h2, h3, Int.le_trans h4 (by omega)⟩
  · rintro e w1 ⟨he, hT, hI, hF⟩
    have e1 : dropsT T [n] = dropT T n := rfl
    rw [e1] at hT hI
    obtain ⟨h1, h2⟩ := h.fr hT hF (fun i hi => hi) (dropT_base h.hr n) hI.1 hI.2
    exact ⟨_, he, h1, h2⟩
theorem IterL.no_cells {V : Type} {ev : V → Value} {r m : Nat} {l : List (Nm × V)} {done : List Nm} (h : IterL ev w r m l done) {c : Array Value} {t : TypeId} {fr : Nat × Nat} : w.heap[r]? ≠ some (Obj.cells c t fr) := by
  obtain ⟨es, c', s, sn, la, _, _, _, _, _, _, _, h2, _⟩ := h
  rw [h2]; intro e; cases e
/-- While the map is made anew: what is done, and what the new one holds. -/
structure Dl (w0 : World) (f m km km2 ir : Nat) (T : Tb) (K K2 : List (Nm × Nm)) (n : Nm) (done d2 : List Nm) (w : World) : Prop where
  jw : Jw w0 f m km T K w
  it : IterL encN w ir km K done
  m2 : MapL encN w km2 K2
  b2 : w0.heap.size ≤ km2
  bi : w0.heap.size ≤ ir
  n2 : km2 ≠ m
  n3 : km2 ≠ km
  n4 : ir ≠ m
  n5 : ir ≠ km2
  k2 : ∀ a, getL K2 a = if inB d2 a && !badN n a then getL K a else none
  nd : done.Nodup
  sub : ∀ a ∈ done, a ∈ K.map (·.1)
end
section
variable {w0 w w' : World} {f m km km2 ir : Nat} {T T' : Tb} {K K2 : List (Nm × Nm)} {n : Nm} {done d2 : List Nm}
theorem Dl.below (h : Dl w0 f m km km2 ir T K K2 n done d2 w) (hB : Below w.heap.size w w') : Dl w0 f m km km2 ir T K K2 n done d2 w' :=
  ⟨h.jw.below hB, h.it.block (hB.block _ h.it.lt.2.1) (hB.block _ h.it.lt.1), h.m2.block (hB.block _ h.m2.lt), h.b2, h.bi, h.n2, h.n3, h.n4, h.n5, h.k2, h.nd, h.sub⟩
theorem Dl.len (h : Dl w0 f m km km2 ir T K K2 n done d2 w) : done.length ≤ K.length := by
  have := List.Nodup.length_le_of_subset h.nd (l₂ := K.map (·.1)) (fun a ha => h.sub a ha)
  simpa using this
theorem Dl.step (h : Dl w0 f m km km2 ir T K K2 n done d2 w) {p : Nm × Nm} (hp : p ∈ K) (hnot : p.1 ∉ done) (hI : IterL encN w' ir km K (done ++ [p.1])) (hO : OnlyB ir w w') : Dl w0 f m km km2 ir T K K2 n (done ++ [p.1]) d2 w' ∧ Kept w w' := by
  obtain ⟨h1, h2⟩ := h.jw.only hO (fun _ _ _ => h.it.no_cells) h.n4 (fun e => h.it.lt.2.2 e) h.bi
  refine ⟨⟨h1, hI, h.m2.block (hO.2.2.2.2 km2 (fun e => h.n5 e.symm)), h.b2, h.bi, h.n2, h.n3, h.n4, h.n5, h.k2, ?_, ?_⟩, h2⟩
  · rw [List.nodup_append]
    exact ⟨h.nd, by simp, by intro a ha b hb; rw [List.mem_singleton] at hb; subst hb; exact fun e => hnot (e ▸ ha)⟩
  · intro a ha
    rcases List.mem_append.1 ha with ha | ha
    · exact h.sub a ha
    · rw [List.mem_singleton] at ha; subst ha; exact List.mem_map.2 ⟨p, hp, rfl⟩
theorem Dl.skip (h : Dl w0 f m km km2 ir T K K2 n done d2 w) {a : Nm} (hb : badN n a = true) : Dl w0 f m km km2 ir T K K2 n done (d2 ++ [a]) w := by
  refine ⟨h.jw, h.it, h.m2, h.b2, h.bi, h.n2, h.n3, h.n4, h.n5, fun c => ?_, h.nd, h.sub⟩
  rw [h.k2 c, inB_snoc]
  by_cases e : a = c
  · subst e; simp [hb]
  · simp [e]
theorem Dl.put (h : Dl w0 f m km km2 ir T K K2 n done d2 w) {p : Nm × Nm} (hp : p ∈ K) (hb : badN n p.1 = false) (hM : MapL encN w' km2 (putL K2 p.1 p.2)) (hO : OnlyAt w w' km2) : Dl w0 f m km km2 ir T K (putL K2 p.1 p.2) n done (d2 ++ [p.1]) w' ∧ Kept w w' := by
  obtain ⟨h1, h2⟩ := h.jw.only hO.b (fun _ _ _ => no_cellsK h.m2) h.n2 h.n3 h.b2
  refine ⟨⟨h1, h.it.block (hO.b.2.2.2.2 km (fun e => h.n3 e.symm)) (hO.b.2.2.2.2 ir h.n5), hM, h.b2, h.bi, h.n2, h.n3, h.n4, h.n5, fun c => ?_, h.nd, h.sub⟩, h2⟩
  rw [getL_putV, h.k2 c, inB_snoc]
  obtain ⟨es, cl, _, _, hnd, _⟩ := h.jw.kmp
  by_cases e : c = p.1
  · subst e
    rw [if_pos rfl]
    simp only [decide_true, Bool.or_true, hb, Bool.not_false, Bool.and_self, if_true]
    exact ((getL_memV hnd _ _).2 hp).symm
  · rw [if_neg e]
    simp [show ¬ p.1 = c from fun x => e x.symm]
theorem Dl.fin {T0 : Tb} (h : Dl w0 f m km km2 ir (dropT T0 n) K K2 n done done w) (h0 : Ok T0) (hK : KOk T0 K) (hall : ∀ p ∈ K, p.1 ∈ done) : Jw w0 f m km2 (dropT T0 n) K2 w ∧ KOk (dropT T0 n) K2 := by
  refine ⟨h.jw.swap h.m2 h.b2 h.n2, fun a => ?_⟩
  rw [h.k2 a, kidK_drop h0 n a, ← hK a]
  cases hb : badN n a
  · simp only [Bool.not_false, Bool.and_true, Bool.false_eq_true, if_false]
    cases hi : inB done a
    · simp only [Bool.false_eq_true, if_false]
      refine (getL_none_iffV.2 fun p hp e => ?_).symm
      have := (inB_iff done a).2 (e ▸ hall p hp)
      rw [hi] at this; cases this
    · simp
  · simp
theorem bad_not {k n : Nm} : badN n k = false ↔ k.1 ≠ n.1 ∨ mayS n.2 = false ∨ underS k.2 n.2 = false := by
  unfold badN
  constructor
  · intro h
    by_cases e : k.1 = n.1
    · simp [e] at h; exact .inr (.inr h)
    · exact .inl e
  · rintro (h | h | h)
    · simp [h]
    · have : underS k.2 n.2 = false := by
        cases hu : underS k.2 n.2
        · rfl
        · rw [((under_iff _ _).1 hu).2.1] at h; cases h
      simp [this]
    · simp [h]
theorem rows_w (h : Jw w0 f m km T K w) (hk : KOk T K) :
    Calls Try.prog 31 #[.pointer (some ⟨f, 0, none⟩)] w fun e w' => ∃ (v : Value) (S : List Rl), e = .returned v ∧ w'.ownsRow w.heap.size 58 10 v S.length (S.flatMap encT) ∧ (∀ p ∈ S, p.2.op = (S.countP (openF K p.1) : Int)) ∧ (∀ a, (ha : a + 1 < S.length) → cmpN S[a].1 S[a + 1].1 < 0) ∧ (∀ p ∈ S, p.1.2.size ≤ 9223372036854775807) ∧ S.length ≤ 200 ∧ Jw w0 f m km T K w' ∧ Kept w w' := by
  refine (rows_tab f m 200 T w h.wj.tab (by have := h.sz; omega) h.args).mono ?_
  rintro e w1 ⟨v, S, he, ho, hS, _, hB⟩
  refine ⟨v, S, he, ho, fun p hp => rows_open h.ok hk hS hp, fun a ha => rows_order h.ok hS ha, fun p hp => ?_, by rw [rows_len hS]; exact h.sz, h.below hB, .below hB⟩
  obtain ⟨q, hq, e, _⟩ := row_of hS hp
  rw [← e]; exact h.ok.sizes hq
theorem keys_size (h : Ok T) (hk : KOk T K) (hm : MapL encN w km K) {p : Nm × Nm} (hp : p ∈ K) : p.1.2.size ≤ 9223372036854775807 := by
  obtain ⟨es, cl, _, _, hnd, _⟩ := hm
  have h1 := (getL_memV hnd p.1 p.2).2 hp
  rw [hk p.1] at h1
  unfold kidK at h1
  cases hg : getL T p.1 with
  | none => rw [hg] at h1; cases h1
  | some q => exact h.sizes (getT_mem (b := q.1) (r := q.2) hg)
end
end Go.Proofs.Ythbkbmkcgpdedaa
