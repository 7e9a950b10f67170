/- JoinPlays: what is told of one row; answers in one form. -/
import Derived.Test.YthbkbmkcgpdedaaJd10
import Derived.Test.YthbkbmkcgpdedaaJpLaw
import Derived.Test.YthbkbmkcgpdedaaJoin12
import Derived.Deep.LoopGhost
import Derived.Deep.DeepCutAuto
import Derived.Test.YthbkbmkcgpdedaaStep17
import Derived.Test.YthbkbmkcgpdedaaOwn17
namespace Go.Proofs.Ythbkbmkcgpdedaa
open Go.RowKit Go.Sort Go.Lib

structure Vj (w0 : World) (f m : Nat) (mo : Int) (T : Tb) (w : World) : Prop where
  wj : Wj w0 f m mo T w
  ok : Ok T
  sz : T.length ≤ 4096
  mo : mo ≤ 4096
theorem addE_zeroM {T : Tb} {mo : Int} {n : Nm} (h : addE T mo n = 0) : getL T n = none ∧ (T.length : Int) < mo := by
  unfold addE at h
  split at h
  · simp at h
  · rename_i h1
    split at h
    · simp at h
    · refine ⟨by simpa using h1, by omega⟩
/-- A row's state is set, if it is one of some. -/
def stT (T : Tb) (n : Nm) (L : List Int) (tz : Int) : Tb := match getL T n with
  | none => T
  | some (_, r) => if r.st ∈ L then updT T n { r with st := tz } else T
/-- The task that is told. -/
def tkT (T : Tb) (n : Nm) (L : List Int) : ByteArray × Int × Int × List Int := match getL T n with
  | none => (⟨#[]⟩, 0, 0, [])
  | some (_, r) => if r.st ∈ L then (n.2, r.fn, r.fuel, r.args) else (⟨#[]⟩, 0, 0, [])
def PutT (T : Tb) (mo : Int) (n : Nm) (c : Rw) (T' : Tb) : Prop := (putE T mo n ≠ 0 ∧ T' = T) ∨ (putE T mo n = 0 ∧ getL T n = none ∧ ∃ b c', core c' = core c ∧ T' = T ++ [(n, b, c')])
def ForkT (T : Tb) (mo : Int) (pn : Nm) (p : ByteArray) (c : Rw) (T' : Tb) : Prop := (forkE T mo pn p ≠ 0 ∧ T' = T) ∨ (forkE T mo pn p = 0 ∧ getL T (pn.1, p) = none ∧ ((pn.1, p) : Nm) ≠ pn ∧ ∃ b q b2 c', getL T pn = some (b, q) ∧ core c' = core c ∧ T' = updT T pn { q with op := q.op + 1 } ++ [((pn.1, p), b2, c')])
def OverT (T : Tb) (n : Nm) (val err : Int) (e : Ending) (T' : Tb) : Prop :=
  ((ofV T n [2, 5]).2 ≠ 0 ∧ e = .returned (.tuple #[.agg #[.int .u64 0, .string ⟨#[]⟩], .bool false, .int .i64 (ofV T n [2, 5]).2]) ∧ T' = T) ∨
  (∃ b r, getL T n = some (b, r) ∧ r.st ∈ [(2 : Int), 5] ∧ (r.fk = true → ∃ pb q, getL T (n.1, parS n.2) = some (pb, q) ∧ 1 ≤ q.op ∧ (n.1, parS n.2) ≠ n) ∧ e = .returned (.tuple #[nmV (overU (updT T n (overR1 r val err)) n r).1 (n.1, parS n.2), .bool (overU (updT T n (overR1 r val err)) n r).1, .int .i64 0]) ∧ T' = (overU (updT T n (overR1 r val err)) n r).2)
section
variable {w0 w w' : World} {f m : Nat} {mo : Int} {T T' : Tb}
theorem Vj.below (h : Vj w0 f m mo T w) (hB : Below w.heap.size w w') : Vj w0 f m mo T w' := ⟨h.wj.below hB, h.ok, h.sz, h.mo⟩
theorem Vj.stay (h : Vj w0 f m mo T w) (hB : Below w.heap.size w w') : Vj w0 f m mo T w' ∧ Kept w w' := ⟨h.below hB, .below hB⟩
theorem Vj.fr {S : Nat → Prop} (h : Vj w0 f m mo T w) (hT : Tab w' f m mo T') (hF : Fr S w w') (hS : ∀ i, S i → i = m ∨ InRows T i) (hr' : ∀ p ∈ T', w0.heap.size ≤ p.2.1) (ho : Ok T') (hs : T'.length ≤ 4096) : Vj w0 f m mo T' w' ∧ Kept w w' := by
  obtain ⟨h1, h2⟩ := h.wj.fr hT hF hS hr'
  exact ⟨⟨h1, ho, hs, h.mo⟩, h2⟩
theorem Vj.args (h : Vj w0 f m mo T w) : ∀ p ∈ T, p.2.2.args.length ≤ 1000000 := fun p hp => Nat.le_trans (h.ok.args p hp) (by decide)
theorem Vj.hr (h : Vj w0 f m mo T w) : ∀ p ∈ T, w0.heap.size ≤ p.2.1 := h.wj.hr
theorem put_v (h : Vj w0 f m mo T w) (job : Int) (p : ByteArray) (fn fuel : Int) (v : Value) (l : List Int) (hv : ReadsK encI 1 w v l) (hl : l.length ≤ 8192) (hp : p.size ≤ 9223372036854775807) :
    Calls Try.prog 9 #[.pointer (some ⟨f, 0, none⟩), .int .u64 job, .agg #[.string p, .int .i64 fn, v, .int .i64 fuel]] w fun e w' => e = .returned (.int .i64 (putE T mo (job, p))) ∧ ∃ T', PutT T mo (job, p) ⟨fn, none, 0, l, fuel, 1, 0, 0, 0, false⟩ T' ∧ Vj w0 f m mo T' w' ∧ Kept w w' := by
  refine (put_tab f m mo T job p fn fuel v l w h.wj.tab hv (by omega) (by have := h.sz; omega) hp).mono ?_
  rintro e w1 ⟨he, ⟨h0, hT, hB⟩ | ⟨h0, b, aa, ac, hb, hT, hF⟩⟩
  · obtain ⟨h1, h2⟩ := h.stay hB
    exact ⟨he, T, .inl ⟨h0, rfl⟩, h1, h2⟩
  · have h00 := h0
    unfold putE at h0
    split at h0
    · rename_i hm
      obtain ⟨hn, hl2⟩ := addE_zeroM h0
      have hn' := getL_none_iffV.1 hn
      obtain ⟨h1, h2⟩ := h.fr hT hF (fun i hi => .inl hi) (fun p hp => by
        rcases List.mem_append.1 hp with hp | hp
        · exact h.hr p hp
        · rw [List.mem_singleton] at hp; subst hp; exact Nat.le_trans h.wj.low.size hb) (h.ok.put hn' hm rfl rfl (by exact hl)) (by rw [List.length_append]; have := h.mo; simp; omega)
      exact ⟨he, _, .inr ⟨h00, hn, b, ⟨fn, aa, ac, l, fuel, 1, 0, 0, 0, false⟩, rfl, rfl⟩, h1, h2⟩
    · simp at h0
theorem fork_v (h : Vj w0 f m mo T w) (pn : Nm) (p : ByteArray) (fn fuel : Int) (v : Value) (l : List Int) (hv : ReadsK encI 1 w v l) (hl : l.length ≤ 8192) (hp : p.size ≤ 9223372036854775807) :
    Calls Try.prog 12 #[.pointer (some ⟨f, 0, none⟩), .agg #[.int .u64 pn.1, .string pn.2], .agg #[.string p, .int .i64 fn, v, .int .i64 fuel]] w fun e w' => e = .returned (.int .i64 (forkE T mo pn p)) ∧ ∃ T', ForkT T mo pn p ⟨fn, none, 0, l, fuel, 1, 0, 0, 0, true⟩ T' ∧ Vj w0 f m mo T' w' ∧ Kept w w' := by
  refine (fork_tab f m mo T pn p fn fuel v l w h.wj.tab hv (by omega) (by have := h.sz; omega) hp (fun q hq => by
    obtain ⟨h1, h2⟩ := h.ok.bound (getT h.ok.nd hq)
    have := h.sz
    exact ⟨h1, Int.le_trans h2 (by omega)⟩)).mono ?_
  rintro e w1 ⟨he, ⟨h0, hT, hB⟩ | ⟨h0, b, r, b2, aa, ac, hg, hst, hb2, hT, hF⟩⟩
  · obtain ⟨h1, h2⟩ := h.stay hB
    exact ⟨he, T, .inl ⟨h0, rfl⟩, h1, h2⟩
  · have h0' := h0
    unfold forkE at h0
    rw [if_neg (by rw [show (ofV T pn [2]).2 = 0 by unfold ofV; rw [hg]; simp only []; rw [if_pos hst]]; simp)] at h0
    split at h0
    · rename_i hm
      simp only [Bool.and_eq_true, decide_eq_true_eq] at hm
      obtain ⟨⟨hm, hpb⟩, hps⟩ := hm
      obtain ⟨hn, hl2⟩ := addE_zeroM h0
      have hn' := getL_none_iffV.1 hn
      have hne : ((pn.1, p) : Nm) ≠ pn := fun e => hn' _ (getT_mem hg) e.symm
      have hpar : par ((pn.1, p) : Nm) = pn := by unfold par; exact Prod.ext rfl hps
      rw [updT_app hne] at hT
      have hok := h.ok.fork (r := ⟨fn, aa, ac, l, fuel, 1, 0, 0, 0, true⟩) (b := b2) hg hn' hm hpb hpar rfl (show (1 : Int) ≠ 6 by decide) rfl hl
      obtain ⟨h1, h2⟩ := h.fr hT hF (fun i hi => by
        rcases hi with hi | hi
        · exact .inl hi
        · exact .inr (inRows hg hi)) (fun p hp => by
        rcases List.mem_append.1 hp with hp | hp
        · exact updT_rows h.hr p hp
        · rw [List.mem_singleton] at hp; subst hp; exact Nat.le_trans h.wj.low.size hb2) hok (by rw [List.length_append, updT_len]; have := h.mo; simp; omega)
      exact ⟨he, _, .inr ⟨h0', hn, hne, b, r, b2, ⟨fn, aa, ac, l, fuel, 1, 0, 0, 0, true⟩, hg, rfl, rfl⟩, h1, h2⟩
    · simp at h0
theorem tk_bad {n : Nm} {L : List Int} (h : (ofV T n L).2 ≠ 0) : tkT T n L = (⟨#[]⟩, 0, 0, []) ∧ ∀ tz, stT T n L tz = T := by
  unfold ofV tkT stT at *
  cases hg : getL T n with
  | none => exact ⟨rfl, fun _ => rfl⟩
  | some q =>
    rw [hg] at h
    simp only at h ⊢
    by_cases hs : q.2.st ∈ L
    · rw [if_pos hs] at h; exact absurd rfl h
    · simp only [if_neg hs]; exact ⟨trivial, fun _ => trivial⟩
theorem tk_good {n : Nm} {L : List Int} {b : Nat} {r : Rw} (hg : getL T n = some (b, r)) (hs : r.st ∈ L) : (ofV T n L).2 = 0 ∧ tkT T n L = (n.2, r.fn, r.fuel, r.args) ∧ ∀ tz, stT T n L tz = updT T n { r with st := tz } := by
  unfold ofV tkT stT
  rw [hg]
  simp only [if_pos hs]
  exact ⟨trivial, trivial, fun _ => trivial⟩
def TaskV (T : Tb) (n : Nm) (L : List Int) (w : World) (e : Ending) (w' : World) : Prop := ∃ va vc, e = .returned (.tuple #[.agg #[.string (tkT T n L).1, .int .i64 (tkT T n L).2.1, .slice va (tkT T n L).2.2.2.length vc, .int .i64 (tkT T n L).2.2.1], .int .i64 (ofV T n L).2]) ∧ w'.ownsRow w.heap.size 2 1 (.slice va (tkT T n L).2.2.2.length vc) (tkT T n L).2.2.2.length ((tkT T n L).2.2.2.flatMap encI)
theorem begin_v (h : Vj w0 f m mo T w) (n : Nm) :
    Calls Try.prog 14 #[.pointer (some ⟨f, 0, none⟩), .agg #[.int .u64 n.1, .string n.2]] w fun e w' => TaskV T n [1, 4] w e w' ∧ Vj w0 f m mo (stT T n [1, 4] 2) w' ∧ Kept w w' := by
  refine (begin_tab f m mo T n w h.wj.tab h.args).mono ?_
  rintro e w1 (⟨h0, he, hT, hB⟩ | ⟨b, r, aa, ac, hg, hst, he, ho, hT, hF⟩)
  · obtain ⟨h1, h2⟩ := h.stay hB
    obtain ⟨t1, t2⟩ := tk_bad h0
    exact ⟨⟨none, 0, by rw [t1]; exact he, by rw [t1]; exact World.ownsRow_nil _ _ _ _⟩, by rw [t2]; exact h1, h2⟩
  · have hst6 : r.st ≠ 6 := fun e => by rw [e] at hst; revert hst; decide
    obtain ⟨h1, h2⟩ := h.fr hT hF (fun i hi => .inr (inRows hg hi)) (updT_rows h.hr) (h.ok.same hg rfl ⟨fun e => absurd (show (2 : Int) = 6 from e) (by decide), fun e => absurd e hst6⟩ rfl rfl) (by rw [updT_len]; exact h.sz)
    obtain ⟨t0, t1, t2⟩ := tk_good hg hst
    exact ⟨⟨aa, ac, by rw [t1, t0]; exact he, by rw [t1]; exact ho⟩, by rw [t2]; exact h1, h2⟩
theorem leave_v (h : Vj w0 f m mo T w) (n : Nm) :
    Calls Try.prog 19 #[.pointer (some ⟨f, 0, none⟩), .agg #[.int .u64 n.1, .string n.2]] w fun e w' => TaskV T n [1] w e w' ∧ Vj w0 f m mo (stT T n [1] 5) w' ∧ Kept w w' := by
  refine (leave_tab f m mo T n w h.wj.tab h.args).mono ?_
  rintro e w1 (⟨h0, he, hT, hB⟩ | ⟨b, r, aa, ac, hg, hst, he, ho, hT, hF⟩)
  · obtain ⟨h1, h2⟩ := h.stay hB
    obtain ⟨t1, t2⟩ := tk_bad h0
    exact ⟨⟨none, 0, by rw [t1]; exact he, by rw [t1]; exact World.ownsRow_nil _ _ _ _⟩, by rw [t2]; exact h1, h2⟩
  · have hst6 : r.st ≠ 6 := fun e => by rw [e] at hst; revert hst; decide
    obtain ⟨h1, h2⟩ := h.fr hT hF (fun i hi => .inr (inRows hg hi)) (updT_rows h.hr) (h.ok.same hg rfl ⟨fun e => absurd (show (5 : Int) = 6 from e) (by decide), fun e => absurd e hst6⟩ rfl rfl) (by rw [updT_len]; exact h.sz)
    obtain ⟨t0, t1, t2⟩ := tk_good hg hst
    exact ⟨⟨aa, ac, by rw [t1, t0]; exact he, by rw [t1]; exact ho⟩, by rw [t2]; exact h1, h2⟩
theorem back_v (h : Vj w0 f m mo T w) (n : Nm) :
    Calls Try.prog 21 #[.pointer (some ⟨f, 0, none⟩), .agg #[.int .u64 n.1, .string n.2]] w fun e w' => e = .returned (.int .i64 (ofV T n [5]).2) ∧ Vj w0 f m mo (stT T n [5] 1) w' ∧ Kept w w' := by
  refine (back_tab f m mo T n w h.wj.tab).mono ?_
  rintro e w1 ⟨he, hT, hF⟩
  have e0 : backT T n = stT T n [5] 1 := rfl
  rw [e0] at hT
  refine ⟨he, ?_⟩
  by_cases hc : (ofV T n [5]).2 = 0
  · rcases ofV_cases T n [5] with ⟨hb, _⟩ | ⟨b, r, hg, hs, _⟩
    · exact absurd hc hb
    · rw [(tk_good hg hs).2.2] at hT ⊢
      have hst : r.st = 5 := by simpa using hs
      exact h.fr hT hF (fun i hi => .inr hi) (updT_rows h.hr) (h.ok.same hg rfl ⟨fun e => absurd (show (1 : Int) = 6 from e) (by decide), fun e => by rw [hst] at e; exact absurd e (by decide)⟩ rfl rfl) (by rw [updT_len]; exact h.sz)
  · rw [(tk_bad hc).2] at hT ⊢
    exact h.fr hT hF (fun i hi => .inr hi) h.hr h.ok h.sz
theorem wait_v (h : Vj w0 f m mo T w) (n : Nm) :
    Calls Try.prog 17 #[.pointer (some ⟨f, 0, none⟩), .agg #[.int .u64 n.1, .string n.2]] w fun e w' => e = .returned (.tuple #[.bool (waitV T n).1, .int .i64 (waitV T n).2]) ∧ Vj w0 f m mo (waitT T n) w' ∧ Kept w w' := by
  refine (wait_tab f m mo T n w h.wj.tab).mono ?_
  rintro e w1 ⟨he, hT, hF⟩
  refine ⟨he, ?_⟩
  by_cases hb : ∃ b r, getL T n = some (b, r) ∧ r.st = 2 ∧ r.op ≠ 0
  · obtain ⟨b, r, hg, hst, ho⟩ := hb
    have key : waitV T n = (true, 0) := by unfold waitV; rw [hg]; simp only []; rw [if_pos (by simp [hst]), if_neg ho]
    have e2 : waitT T n = updT T n { r with st := 3 } := by unfold waitT; rw [key, hg]; rfl
    rw [e2] at hT ⊢
    exact h.fr hT hF (fun i hi => .inr hi) (updT_rows h.hr) (h.ok.same hg rfl ⟨fun e => absurd (show (3 : Int) = 6 from e) (by decide), fun e => by rw [hst] at e; exact absurd e (by decide)⟩ rfl rfl) (by rw [updT_len]; exact h.sz)
  · have key : (waitV T n).1 = false := by
      unfold waitV
      cases hg : getL T n with
      | none => rfl
      | some br =>
        simp only []
        by_cases hs : br.2.st ∈ [(2 : Int)]
        · rw [if_pos hs]
          by_cases ho : br.2.op = 0
          · rw [if_pos ho]
          · exact absurd ⟨br.1, br.2, hg, by simpa using hs, ho⟩ hb
        · rw [if_neg hs]
    have e2 : waitT T n = T := by unfold waitT; rw [key]; cases getL T n <;> rfl
    rw [e2] at hT ⊢
    exact h.fr hT hF (fun i hi => .inr hi) h.hr h.ok h.sz
theorem over_v (h : Vj w0 f m mo T w) (n : Nm) (val err : Int) :
    Calls Try.prog 23 #[.pointer (some ⟨f, 0, none⟩), .agg #[.int .u64 n.1, .string n.2], .agg #[.int .i64 val, .int .i64 err]] w fun e w' => ∃ T', OverT T n val err e T' ∧ Vj w0 f m mo T' w' ∧ Kept w w' := by
  rcases ofV_cases T n [2, 5] with ⟨hc, _⟩ | ⟨b, r, hg, hst, _⟩
  · refine (over_bad f m mo T n val err w h.wj.tab hc).mono ?_
    rintro e w1 ⟨he, hT, hB⟩
    obtain ⟨h1, h2⟩ := h.stay hB
    exact ⟨T, .inl ⟨hc, he, rfl⟩, h1, h2⟩
  · have hst6 : r.st ≠ 6 := fun e => by rw [e] at hst; revert hst; decide
    refine (over_tab f m mo T n val err b r w h.wj.tab hg hst (h.ok.sizes (getT_mem hg)) (fun hf => by
      obtain ⟨h1, pb, q, h2, h3, h4⟩ := h.ok.pars hg hf hst6
      have := h.sz
      exact ⟨h1, pb, q, h2, h3, Int.le_trans h4 (by omega)⟩)).mono ?_
    rintro e w1 ⟨he, hT, hF⟩
    obtain ⟨h1, h2⟩ := h.fr hT hF (fun i hi => .inr hi) (overU_rows (updT_rows h.hr)) (h.ok.over hg hst6 val err) (by rw [overU_len, updT_len]; exact h.sz)
    refine ⟨_, .inr ⟨b, r, hg, hst, fun hf => ?_, he, rfl⟩, h1, h2⟩
    obtain ⟨h3, pb, q, h4, h5, _⟩ := h.ok.pars hg hf hst6
    exact ⟨pb, q, h4, h5, fun e => h3 (congrArg Prod.snd e)⟩
theorem drop_v (h : Vj w0 f m mo T w) (a b : Nm) (v : Value) (hv : ReadsK encM 2 w v [a, b]) (hbx : ∀ (a : Addr) (k c : Nat), v = Value.slice (some a) k c → ∃ cs t fr, w.heap[a.block]? = some (Obj.cells cs t fr) ∧ t ≠ 85) (hz : a.2.size ≤ 9223372036854775807) (hz2 : b.2.size ≤ 9223372036854775807) :
    Calls Try.prog 25 #[.pointer (some ⟨f, 0, none⟩), v] w fun e w' => e = .returned (.int .i64 ((T.length : Int) - (dropT (dropT T a) b).length)) ∧ Vj w0 f m mo (dropT (dropT T a) b) w' ∧ Kept w w' := by
  refine (drop_tab (fun T => Ok T ∧ T.length ≤ 4096) (fun T hT => ⟨fun n b r hg hf hs => ?_, fun p hp => hT.1.sizes hp⟩) (fun T root hT => ⟨hT.1.drop root, Nat.le_trans (dropT_len_le T root) hT.2⟩) f m mo T [a, b] v w h.wj.tab hv ⟨h.ok, h.sz⟩ (by have := h.sz; omega) (by simp) (by intro c hc; simp at hc; rcases hc with rfl | rfl; exact hz; exact hz2) hbx).mono ?_
  · obtain ⟨_, pb, q, h2, h3, h4⟩ := hT.1.pars hg hf hs
    have := hT.2
    exact ⟨pb, q, h2, h3, Int.le_trans h4 (by omega)⟩
  · rintro e w1 ⟨he, hT, hI, hF⟩
    have e1 : dropsT T [a, b] = dropT (dropT T a) b := rfl
    rw [e1] at hT hI he
    obtain ⟨h1, h2⟩ := h.fr hT hF (fun i hi => hi) (dropT_base (dropT_base h.hr a) b) hI.1 hI.2
    exact ⟨he, h1, h2⟩
end
end Go.Proofs.Ythbkbmkcgpdedaa
namespace Go.Proofs.Ythbkbmkcgpdedaa
open Go.RowKit Go.Sort Go.Lib

section
variable {Z r : Nat} {mo : Int} {lv lv' : Value} {T T' : Tb} {l l' : List Rl} {w w' : World}
theorem Sd.putE (h : Sd T l) (mo : Int) (n : Nm) : dputE l mo n = putE T mo n := by unfold dputE Go.Proofs.Ythbkbmkcgpdedaa.putE; rw [h.fresh]
theorem Sd.forkE (h : Sd T l) (mo : Int) (pn : Nm) (p : ByteArray) : dforkE l mo pn p = forkE T mo pn p := by unfold dforkE Go.Proofs.Ythbkbmkcgpdedaa.forkE; rw [h.ofEq, h.fresh]
theorem PutDP.both {n : Nm} {c c0 : Rw} {e : Ending} (hc : core c = core c0) (hs : Sd T l) (hT : PutT T mo n c0 T') (h : PutDP Z r mo lv l n c w e w') : e = .returned (.int .i64 (putE T mo n)) ∧ ∃ lv' l', Sd T' l' ∧ Dt Z r mo lv' l' w' ∧ DL r lv w lv' w' := by
  obtain ⟨he, h⟩ := h
  rw [hs.putE] at he h
  refine ⟨he, ?_⟩
  rcases hT with ⟨h0, rfl⟩ | ⟨h0, hn, b, c', hc', rfl⟩
  · rcases h with ⟨_, hd, hl⟩ | ⟨h1, _⟩
    · exact ⟨_, _, hs, hd, hl⟩
    · exact absurd h1 h0
  · rcases h with ⟨h1, _⟩ | ⟨_, lv', k, hk, hd, hl⟩
    · exact absurd h0 h1
    · exact ⟨_, _, hs.add (hc.trans hc'.symm) hn hk, hd, hl⟩
theorem ForkDP.both {pn : Nm} {p : ByteArray} {c c0 : Rw} {e : Ending} (hc : core c = core c0) (hs : Sd T l) (hT : ForkT T mo pn p c0 T') (h : ForkDP Z r mo lv l pn p c w e w') : e = .returned (.int .i64 (forkE T mo pn p)) ∧ ∃ lv' l', Sd T' l' ∧ Dt Z r mo lv' l' w' ∧ DL r lv w lv' w' := by
  obtain ⟨he, h⟩ := h
  rw [hs.forkE] at he h
  refine ⟨he, ?_⟩
  rcases hT with ⟨h0, rfl⟩ | ⟨h0, hn, hne, b, q, b2, c', hg, hc', rfl⟩
  · rcases h with ⟨_, hd, hl⟩ | ⟨h1, _⟩
    · exact ⟨_, _, hs, hd, hl⟩
    · exact absurd h1 h0
  · rcases h with ⟨h1, _⟩ | ⟨_, q2, lv', k, hg2, hk, hd, hl⟩
    · exact absurd h0 h1
    · obtain ⟨q3, hg3, hq⟩ := hs.here hg
      rw [hg2] at hg3
      injection hg3 with hg3
      subst hg3
      have e5 : core { q2 with op := q2.op + 1 } = core { q with op := q.op + 1 } := by
        have := congrArg (fun z : Rw => { z with op := z.op + 1 }) hq
        exact this
      have hs1 := hs.upd pn e5
      have hn1 : getL (updT T pn { q with op := q.op + 1 }) (pn.1, p) = none := by rw [getL_upd_ne hne]; exact hn
      exact ⟨_, _, hs1.add (hc.trans hc'.symm) hn1 hk, hd, hl⟩
theorem Sd.tk (h : Sd T l) {n : Nm} {L : List Int} (h0 : (ofV T n L).2 = 0) : ∃ b r c, getL T n = some (b, r) ∧ r.st ∈ L ∧ getL l n = some c ∧ core c = core r := by
  rcases ofV_cases T n L with ⟨hb, _⟩ | ⟨b, r, hg, hs, _⟩
  · exact absurd h0 hb
  · obtain ⟨c, hc, he⟩ := h.here hg
    exact ⟨b, r, c, hg, hs, hc, he⟩
/-- What of answers hangs on the members alone. -/
theorem ofE_congr {l : List Rl} {n : Nm} {L M : List Int} (h : ∀ x, x ∈ L ↔ x ∈ M) : ofE l n L = ofE l n M := by
  unfold ofE
  cases getL l n with
  | none => rfl
  | some r => simp only [h]
theorem stL_congr {l : List Rl} {n : Nm} {L M : List Int} (h : ∀ x, x ∈ L ↔ x ∈ M) (tz : Int) : stL l n L tz = stL l n M tz := by
  unfold stL
  cases getL l n with
  | none => rfl
  | some r => simp only [h]
theorem Sd.st (h : Sd T l) (n : Nm) (L : List Int) (tz : Int) : Sd (stT T n L tz) (stL l n L tz) := by
  unfold stT stL
  cases hg : getL T n with
  | none => rw [h.gone hg]; exact h
  | some q =>
    obtain ⟨c, hc, he⟩ := h.here (b := q.1) (r := q.2) hg
    rw [hc]
    have e1 : c.st = q.2.st := (congrArg Rw.st he : (core c).st = (core q.2).st)
    simp only [e1]
    split
    · refine h.upd n ?_
      have := congrArg (fun z : Rw => { z with st := tz }) he
      exact this
    · exact h
/-- A task that the document's table tells: as the table's. -/
theorem StateP.both {n : Nm} {a b tz : Int} {L : List Int} {e : Ending} (hL : ∀ x, x ∈ [a, b] ↔ x ∈ L) (hs : Sd T l) (h : StateP Z r mo lv l n a b tz w e w') :
    (∃ va vc, e = .returned (.tuple #[.agg #[.string (tkT T n L).1, .int .i64 (tkT T n L).2.1, .slice va (tkT T n L).2.2.2.length vc, .int .i64 (tkT T n L).2.2.1], .int .i64 (ofV T n L).2]) ∧ ReadsK encI 1 w' (.slice va (tkT T n L).2.2.2.length vc) (tkT T n L).2.2.2) ∧ ∃ lv' l', Sd (stT T n L tz) l' ∧ Dt Z r mo lv' l' w' ∧ DL r lv w lv' w' := by
  rcases h with ⟨h0, he, hd, hl⟩ | ⟨h0, c, hg, hst, he, hd, hl⟩
  · rw [ofE_congr hL, hs.ofEq] at h0 he
    obtain ⟨t1, t2⟩ := tk_bad h0
    refine ⟨⟨none, 0, by rw [t1]; exact he, by rw [t1]; exact .inl ⟨rfl, none, 0, rfl⟩⟩, lv, l, by rw [t2]; exact hs, hd, hl⟩
  · rw [ofE_congr hL, hs.ofEq] at h0
    obtain ⟨b', r', c', hg', hs', hc', hce⟩ := hs.tk h0
    rw [hg] at hc'
    injection hc' with hc'
    subst hc'
    obtain ⟨t0, t1, t2⟩ := tk_good hg' hs'
    have e1 : c.fn = r'.fn := (congrArg Rw.fn hce : (core c).fn = (core r').fn)
    have e2 : c.fuel = r'.fuel := (congrArg Rw.fuel hce : (core c).fuel = (core r').fuel)
    have e3 : c.args = r'.args := (congrArg Rw.args hce : (core c).args = (core r').args)
    refine ⟨⟨c.aa, c.ac, ?_, ?_⟩, lv, _, ?_, hd, hl⟩
    · rw [t1, t0, ← e1, ← e2, ← e3]; exact he
    · rw [t1, ← e3]
      have hm : (n, { c with st := tz }) ∈ updA l n { c with st := tz } := by
        unfold updA
        exact List.mem_map.2 ⟨(n, c), getL_mem' hg, by simp⟩
      exact (hd.args _ hm).1
    · rw [t2]
      refine hs.upd n ?_
      have := congrArg (fun z : Rw => { z with st := tz }) hce
      exact this
theorem Sd.wait (h : Sd T l) (n : Nm) : dwaitV l n = waitV T n ∧ Sd (waitT T n) (dwaitL l n) := by
  have e : dwaitV l n = waitV T n := by
    unfold dwaitV waitV
    cases hg : getL T n with
    | none => rw [h.gone hg]
    | some q =>
      obtain ⟨c, hc, he⟩ := h.here (b := q.1) (r := q.2) hg
      rw [hc]
      have e1 : c.st = q.2.st := (congrArg Rw.st he : (core c).st = (core q.2).st)
      have e2 : c.op = q.2.op := (congrArg Rw.op he : (core c).op = (core q.2).op)
      simp only [e1, e2]
  refine ⟨e, ?_⟩
  unfold waitT dwaitL
  cases hg : getL T n with
  | none => rw [h.gone hg]; exact h
  | some q =>
    obtain ⟨c, hc, he⟩ := h.here (b := q.1) (r := q.2) hg
    rw [hc]
    simp only [e]
    split
    · refine h.upd n ?_
      have := congrArg (fun z : Rw => { z with st := 3 }) he
      exact this
    · exact h
theorem updT_updT (T : Tb) (n : Nm) (a b : Rw) : updT (updT T n a) n b = updT T n b := by
  unfold updT
  rw [List.map_map]
  apply List.map_congr_left
  intro p _
  simp only [Function.comp]
  by_cases e : p.1 = n <;> simp [e]
theorem OverDP.both {n : Nm} {val err : Int} {e e1 : Ending} (hs : Sd T l) (hT : OverT T n val err e T') (h : OverDP Z r mo lv l n val err w e1 w') : e1 = e ∧ (∃ (a : Int) (p : ByteArray) (b : Bool) (q : Int), e = .returned (.tuple #[.agg #[.int .u64 a, .string p], .bool b, .int .i64 q])) ∧ ∃ lv' l', Sd T' l' ∧ Dt Z r mo lv' l' w' ∧ DL r lv w lv' w' := by
  have hnv : ∀ (b : Bool) (n : Nm) (q : Int), ∃ (a : Int) (p : ByteArray) (b' : Bool) (q' : Int), Ending.returned (.tuple #[nmV b n, .bool b, .int .i64 q]) = .returned (.tuple #[.agg #[.int .u64 a, .string p], .bool b', .int .i64 q']) := fun b n q => by
    cases b
    · exact ⟨_, _, _, _, rfl⟩
    · exact ⟨_, _, _, _, rfl⟩
  rcases hT with ⟨h0, he, rfl⟩ | ⟨b, r', hg, hst, hpar, he, rfl⟩
  · rcases h with ⟨h1, he1, hd, hl⟩ | ⟨c, hg, hst, _⟩
    · rw [hs.ofEq] at he1
      exact ⟨by rw [he1, he], ⟨_, _, _, _, he⟩, lv, l, hs, hd, hl⟩
    · have := hs.ofEq n [2, 5]
      unfold ofE at this
      rw [hg] at this
      simp only [] at this
      rw [if_pos hst] at this
      exact absurd this.symm h0
  · obtain ⟨c', hc', hce⟩ := hs.here hg
    rcases h with ⟨h1, _⟩ | ⟨c, hgc, hstc, he1, hd, hl⟩
    · exfalso
      apply h1
      unfold ofE
      rw [hc']
      simp only []
      rw [if_pos]
      rw [show c'.st = r'.st from (congrArg Rw.st hce : (core c').st = (core r').st)]
      exact hst
    · rw [hgc] at hc'
      injection hc' with hc'
      subst hc'
      have e5 : core { c with st := 6, val := val, err := err } = core (overR1 r' val err) := by
        have := congrArg (fun z : Rw => { z with st := 6, val := val, err := err }) hce
        exact this
      have hs1 := hs.upd n e5
      have hfk : c.fk = r'.fk := (congrArg Rw.fk hce : (core c).fk = (core r').fk)
      have key : (doverU (updA l n { c with st := 6, val := val, err := err }) n c.fk).1 = (overU (updT T n (overR1 r' val err)) n r').1 ∧ Sd (overU (updT T n (overR1 r' val err)) n r').2 (doverU (updA l n { c with st := 6, val := val, err := err }) n c.fk).2 := by
        generalize updA l n { c with st := 6, val := val, err := err } = l1 at hs1 ⊢
        unfold doverU overU
        rw [hfk]
        by_cases hf : r'.fk = true
        · obtain ⟨pb, q, hpg, hq1, hpn⟩ := hpar hf
          have hg1 : getL (updT T n (overR1 r' val err)) (n.1, parS n.2) = some (pb, q) := (getL_upd_ne hpn).trans hpg
          obtain ⟨q', hq', hqe⟩ := hs1.here hg1
          have o1 : q'.op = q.op := (congrArg Rw.op hqe : (core q').op = (core q).op)
          have o2 : q'.st = q.st := (congrArg Rw.st hqe : (core q').st = (core q).st)
          rw [if_pos hf, if_pos hf, hg1, hq']
          simp only [o1, o2]
          by_cases hw : 0 < q.op - 1 ∨ q.st ≠ 3
          · rw [if_pos hw, if_neg (by omega)]
            refine ⟨rfl, hs1.upd _ ?_⟩
            have := congrArg (fun z : Rw => { z with op := q.op - 1, st := q.st }) hqe
            exact this
          · rw [if_neg hw, if_pos (by omega), updT_updT]
            refine ⟨rfl, hs1.upd _ ?_⟩
            have := congrArg (fun z : Rw => { z with op := q.op - 1, st := 4 }) hqe
            exact this
        · rw [if_neg hf, if_neg hf]
          exact ⟨rfl, hs1⟩
      refine ⟨by rw [he1, he, key.1], ?_, lv, _, key.2, hd, hl⟩
      obtain ⟨a, p, b', q', h9⟩ := hnv (overU (updT T n (overR1 r' val err)) n r').1 (n.1, parS n.2) 0
      exact ⟨a, p, b', q', he.trans h9⟩
theorem decL_upd {l : List Rl} {n : Nm} {q : Rw} (hn : (l.map (·.1)).Nodup) (hg : getL l n = some q) : decL l n = updA l n { q with op := q.op - 1 } := by
  unfold decL updA
  apply List.map_congr_left
  intro p hp
  unfold decR
  by_cases e : p.1 = n
  · rw [if_pos e, if_pos e]
    have := (getL_memV hn p.1 p.2).2 hp
    rw [e, hg] at this
    injection this with this
    rw [this]
  · rw [if_neg e, if_neg e]
theorem dec_filter (l : List Rl) (root n : Nm) : decL (dropF l root) n = dropF (decL l n) root := by
  unfold decL dropF
  rw [List.filter_map]
  congr 1
  apply List.filter_congr
  intro p _
  have : (decR n p).1 = p.1 := by unfold decR; split <;> rfl
  simp only [Function.comp, this]
theorem Sd.drop (h : Sd T l) (ho : Ok T) (root : Nm) : Sd (dropT T root) (ddropL l root) := by
  cases hm : mayS root.2
  · rw [dropT_no hm]
    unfold ddropL
    rw [if_neg (by rw [hm]; decide)]
    exact h
  · rw [dropT_yes hm]
    unfold ddropL
    rw [if_pos hm]
    cases hg : getL T root with
    | none =>
      rw [h.gone hg, dropT1_same (fun b r e => by rw [hg] at e; cases e)]
      exact h.filter (fun n => !badN root n)
    | some q =>
      obtain ⟨c, hc, he⟩ := h.here (b := q.1) (r := q.2) hg
      rw [hc]
      have o1 : c.fk = q.2.fk := (congrArg Rw.fk he : (core c).fk = (core q.2).fk)
      have o2 : c.st = q.2.st := (congrArg Rw.st he : (core c).st = (core q.2).st)
      simp only [o1, o2]
      by_cases hk : q.2.fk = true ∧ q.2.st ≠ 6
      · obtain ⟨_, pb, pq, hpg, _, _⟩ := ho.pars (b := q.1) (r := q.2) hg hk.1 hk.2
        have hpg : getL T (root.1, parS root.2) = some (pb, pq) := hpg
        obtain ⟨pc, hpc, hpe⟩ := h.here hpg
        rw [if_pos ⟨hk.1, hk.2, by rw [hpc]; rfl⟩, dropT1_dec (b := q.1) hg hk.1 hk.2 hpg, dec_filter, decL_upd h.keys hpc]
        refine Sd.filter (h.upd (root.1, parS root.2) ?_) (fun n => !badN root n)
        have := congrArg (fun z : Rw => { z with op := z.op - 1 }) hpe
        exact this
      · rw [if_neg (fun e => hk ⟨e.1, e.2.1⟩), dropT1_same (fun b r e hkk => by
          rw [hg] at e
          injection e with e
          rw [e] at hk
          exact hk hkk)]
        exact h.filter (fun n => !badN root n)
end
end Go.Proofs.Ythbkbmkcgpdedaa
namespace Go.Proofs.Ythbkbmkcgpdedaa
open Go.RowKit

def sl (ts : Array Value) (i : Nat) : Value := ts.getD i undef
theorem frame_of {n : Nat} {ts : Array Value} (h : ts.size = n) : ts = ((List.range n).map (sl ts)).toArray := by
  apply Array.ext
  · simp [h]
  · intro i h1 h2
    simp [sl, Array.getD, h1]
set_option maxRecDepth 100000 in
theorem frame_lit337 {ts : Array Value} (h : ts.size = 337) : ts = #[sl ts 0, sl ts 1, sl ts 2, sl ts 3, sl ts 4, sl ts 5, sl ts 6, sl ts 7, sl ts 8, sl ts 9, sl ts 10, sl ts 11, sl ts 12, sl ts 13, sl ts 14, sl ts 15, sl ts 16, sl ts 17, sl ts 18, sl ts 19, sl ts 20, sl ts 21, sl ts 22, sl ts 23, sl ts 24, sl ts 25, sl ts 26, sl ts 27, sl ts 28, sl ts 29, sl ts 30, sl ts 31, sl ts 32, sl ts 33, sl ts 34, sl ts 35, sl ts 36, sl ts 37, sl ts 38, sl ts 39, sl ts 40, sl ts 41, sl ts 42, sl ts 43, sl ts 44, sl ts 45, sl ts 46, sl ts 47, sl ts 48, sl ts 49, sl ts 50, sl ts 51, sl ts 52, sl ts 53, sl ts 54, sl ts 55, sl ts 56, sl ts 57, sl ts 58, sl ts 59, sl ts 60, sl ts 61, sl ts 62, sl ts 63, sl ts 64, sl ts 65, sl ts 66, sl ts 67, sl ts 68, sl ts 69, sl ts 70, sl ts 71, sl ts 72, sl ts 73, sl ts 74, sl ts 75, sl ts 76, sl ts 77, sl ts 78, sl ts 79, sl ts 80, sl ts 81, sl ts 82, sl ts 83, sl ts 84, sl ts 85, sl ts 86, sl ts 87, sl ts 88, sl ts 89, sl ts 90, sl ts 91, sl ts 92, sl ts 93, sl ts 94, sl ts 95, sl ts 96, sl ts 97, sl ts 98, sl ts 99, sl ts 100, sl ts 101, sl ts 102, sl ts 103, sl ts 104, sl ts 105, sl ts 106, sl ts 107, sl ts 108, sl ts 109, sl ts 110, sl ts 111, sl ts 112, sl ts 113, sl ts 114, sl ts 115, sl ts 116, sl ts 117, sl ts 118, sl ts 119, sl ts 120, sl ts 121, sl ts 122, sl ts 123, sl ts 124, sl ts 125, sl ts 126, sl ts 127, sl ts 128, sl ts 129, sl ts 130, sl ts 131, sl ts 132, sl ts 133, sl ts 134, sl ts 135, sl ts 136, sl ts 137, sl ts 138, sl ts 139, sl ts 140, sl ts 141, sl ts 142, sl ts 143, sl ts 144, sl ts 145, sl ts 146, sl ts 147, sl ts 148, sl ts 149, sl ts 150, sl ts 151, sl ts 152, sl ts 153, sl ts 154, sl ts 155, sl ts 156, sl ts 157, sl ts 158, sl ts 159, sl ts 160, sl ts 161, sl ts 162, sl ts 163, sl ts 164, sl ts 165, sl ts 166, sl ts 167, sl ts 168, sl ts 169, sl ts 170, sl ts 171, sl ts 172, sl ts 173, sl ts 174, sl ts 175, sl ts 176, sl ts 177, sl ts 178, sl ts 179, sl ts 180, sl ts 181, sl ts 182, sl ts 183, sl ts 184, sl ts 185, sl ts 186, sl ts 187, sl ts 188, sl ts 189, sl ts 190, sl ts 191, sl ts 192, sl ts 193, sl ts 194, sl ts 195, sl ts 196, sl ts 197, sl ts 198, sl ts 199, sl ts 200, sl ts 201, sl ts 202, sl ts 203, sl ts 204, sl ts 205, sl ts 206, sl ts 207, sl ts 208, sl ts 209, sl ts 210, sl ts 211, sl ts 212, sl ts 213, sl ts 214, sl ts 215, sl ts 216, sl ts 217, sl ts 218, sl ts 219, sl ts 220, sl ts 221, sl ts 222, sl ts 223, sl ts 224, sl ts 225, sl ts 226, sl ts 227, sl ts 228, sl ts 229, sl ts 230, sl ts 231, sl ts 232, sl ts 233, sl ts 234, sl ts 235, sl ts 236, sl ts 237, sl ts 238, sl ts 239, sl ts 240, sl ts 241, sl ts 242, sl ts 243, sl ts 244, sl ts 245, sl ts 246, sl ts 247, sl ts 248, sl ts 249, sl ts 250, sl ts 251, sl ts 252, sl ts 253, sl ts 254, sl ts 255, sl ts 256, sl ts 257, sl ts 258, sl ts 259, sl ts 260, sl ts 261, sl ts 262, sl ts 263, sl ts 264, sl ts 265, sl ts 266, sl ts 267, sl ts 268, sl ts 269, sl ts 270, sl ts 271, sl ts 272, sl ts 273, sl ts 274, sl ts 275, sl ts 276, sl ts 277, sl ts 278, sl ts 279, sl ts 280, sl ts 281, sl ts 282, sl ts 283, sl ts 284, sl ts 285, sl ts 286, sl ts 287, sl ts 288, sl ts 289, sl ts 290, sl ts 291, sl ts 292, sl ts 293, sl ts 294, sl ts 295, sl ts 296, sl ts 297, sl ts 298, sl ts 299, sl ts 300, sl ts 301, sl ts 302, sl ts 303, sl ts 304, sl ts 305, sl ts 306, sl ts 307, sl ts 308, sl ts 309, sl ts 310, sl ts 311, sl ts 312, sl ts 313, sl ts 314, sl ts 315, sl ts 316, sl ts 317, sl ts 318, sl ts 319, sl ts 320, sl ts 321, sl ts 322, sl ts 323, sl ts 324, sl ts 325, sl ts 326, sl ts 327, sl ts 328, sl ts 329, sl ts 330, sl ts 331, sl ts 332, sl ts 333, sl ts 334, sl ts 335, sl ts 336] := (frame_of h).trans rfl
end Go.Proofs.Ythbkbmkcgpdedaa
namespace Go.Proofs.Ythbkbmkcgpdedaa
open Go.RowKit Go.Sort Go.Lib

abbrev stepC (x : Stp) (ta : Option Addr) (tc : Nat) : Array Value := #[.int .i64 x.op, .int .u64 x.job, .int .u64 x.n.1, .string x.n.2, .int .u64 x.m.1, .string x.m.2, .string x.t.p, .int .i64 x.t.fn, .slice ta x.t.args.length tc, .int .i64 x.t.fuel, .int .i64 x.val, .int .i64 x.err]
abbrev StepT : TypeId := 42
theorem step_cells {w : World} {s : Nat} {x : Stp} {ta : Option Addr} {tc : Nat} (h : Box s (stepC x ta tc) StepT w) :
    w.cell? ⟨s, 0, none⟩ = some (.int .i64 x.op) ∧ w.cell? ⟨s, 1, none⟩ = some (.int .u64 x.job) ∧ w.cell? ⟨s, 2, none⟩ = some (.int .u64 x.n.1) ∧ w.cell? ⟨s, 3, none⟩ = some (.string x.n.2) ∧ w.cell? ⟨s, 4, none⟩ = some (.int .u64 x.m.1) ∧ w.cell? ⟨s, 5, none⟩ = some (.string x.m.2) ∧ w.cell? ⟨s, 6, none⟩ = some (.string x.t.p) ∧ w.cell? ⟨s, 7, none⟩ = some (.int .i64 x.t.fn) ∧ w.cell? ⟨s, 8, none⟩ = some (.slice ta x.t.args.length tc) ∧ w.cell? ⟨s, 9, none⟩ = some (.int .i64 x.t.fuel) ∧ w.cell? ⟨s, 10, none⟩ = some (.int .i64 x.val) ∧ w.cell? ⟨s, 11, none⟩ = some (.int .i64 x.err) :=
  ⟨h.cell 0, h.cell 1, h.cell 2, h.cell 3, h.cell 4, h.cell 5, h.cell 6, h.cell 7, h.cell 8, h.cell 9, h.cell 10, h.cell 11⟩
theorem step_keep {w w' : World} {s : Nat} {x : Stp} {ta : Option Addr} {tc : Nat} (h : Box s (stepC x ta tc) StepT w) (hk : Kept w w') : Box s (stepC x ta tc) StepT w' := hk _ _ _ (by decide) h
theorem own_kept {w w' : World} {B : Nat} {E : TypeId} {size : Nat} {v : Value} {n : Nat} {xs : List Value} (h : w.ownsRow B E size v n xs) (hE : E ≠ 85) (hk : Kept w w') : w'.ownsRow B E size v n xs := by
  refine ⟨h.1, h.2.imp id ?_⟩
  rintro ⟨g, cap, cur, hv, h1, h2, h3⟩
  exact ⟨g, cap, cur, hv, h1, hk _ _ _ hE h2, h3⟩
set_option maxHeartbeats 800000 in
theorem new_bad (most : Int) (w : World) (h : most < 1 ∨ most > 4096) :
    Calls Try.prog 8 #[.int .i64 most] w fun e w' => e = .returned (.tuple #[.pointer none, .int .i64 2]) ∧ Below w.heap.size w w' := by
  rcases h with h | h
  · go_enter Try.func8, Try.ntmps8
    go_wp2_with fail
    go_ret2
    exact ⟨rfl, Below.refl _ _⟩
  · have h1 : ¬ most < 1 := by omega
    go_enter Try.func8, Try.ntmps8
    go_wp2_with fail
    go_ret2
    exact ⟨rfl, Below.refl _ _⟩
/-- Numbers that lie ahead of Z stay, however the rest turns. -/
theorem ArgsZ.keep2 {Z : Nat} {w0 w w' : World} {r : Rw} (h : ArgsZ Z w r) (h0 : Below Z w0 w) (h1 : Below Z w0 w') (hz : Z ≤ w0.heap.size) : ArgsZ Z w' r := by
  refine ⟨?_, h.2⟩
  rcases h.1 with e | ⟨b, off, cap, hv, hb, hc⟩
  · exact .inl e
  · injection hv with e1 e2 e3
    by_cases hne : r.args = []
    · exact .inl ⟨hne, _, _, by rw [hne]; rfl⟩
    have hz2 := h.2 _ e1 hne
    refine .inr ⟨b, off, cap, by rw [e1, e3], Nat.lt_of_lt_of_le hz2 (Nat.le_trans hz h1.size), fun i hi t u hu => ?_⟩
    rw [h1.cell (p := ⟨b, off + (i * 1 + t), none⟩) hz2, ← h0.cell (p := ⟨b, off + (i * 1 + t), none⟩) hz2]
    exact hc i hi t u hu
/-- A script's own numbers lie ahead. -/
theorem argsZ_of {W ws : World} {ta : Option Addr} {tc : Nat} {args : List Int} (fn fuel : Int) (fk : Bool) (h : ReadsK encI 1 W (.slice ta args.length tc) args) (hB : Below W.heap.size W ws) : ArgsZ W.heap.size ws ⟨fn, ta, tc, args, fuel, 1, 0, 0, 0, fk⟩ := by
  refine ⟨h.below hB, fun a ha hne => ?_⟩
  rcases h with ⟨e, _⟩ | ⟨b, off, cap, hv, hb, _⟩
  · exact absurd e hne
  · injection hv with e1 _ _
    have e2 : some a = some ⟨b, off, none⟩ := by rw [← e1]; exact ha.symm
    injection e2 with e2
    rw [e2]; exact hb
section
variable {w0 w w' : World} {f m r : Nat} {mo : Int} {lv lv' : Value} {T T' : Tb} {l l' : List Rl}
/-- Blocks of these types turn: the table stays. -/
theorem Tab.typed {S : Nat → Prop} (h : Tab w f m mo T) (hF : Fr S w w') (hT : Typed S w [TrT, RowT]) : Tab w' f m mo T := by
  have far : ∀ (i : Nat) (c : Array Value) (E : TypeId) (fr : Nat × Nat), w.heap[i]? = some (.cells c E fr) → E ∉ [TrT, RowT] → w'.heap[i]? = w.heap[i]? := fun i c E fr hi hE =>
    hF.block i (Array.getElem?_eq_some_iff.1 hi).1 (fun hs => by
      obtain ⟨E', c', f', hE', hb⟩ := hT i hs (Array.getElem?_eq_some_iff.1 hi).1
      rw [hi] at hb
      injection hb with hb
      injection hb with _ hb _
      exact hE (hb ▸ hE'))
  refine ⟨(far _ _ _ _ h.box (by decide)).trans h.box, h.map.block (hF.block m h.lt.2.1 fun hs => ?_), fun p hp => ?_, h.nd⟩
  · obtain ⟨E', c', f', _, hb⟩ := hT m hs h.lt.2.1
    obtain ⟨es, c, h2, _⟩ := h.map
    rw [h2] at hb; cases hb
  · have hr := h.row p hp
    exact ⟨(far _ _ _ _ hr.1 (by decide)).trans hr.1, Args.far hr.2 (fun i cur hi => far i _ _ _ hi (by decide))⟩
theorem dt_left (ht : Vj w0 f m mo T w) (ht' : Vj w0 f m mo T' w') (hd : Dt w0.heap.size r mo lv l w) (hk : Kept w w') : Dt w0.heap.size r mo lv l w' :=
  ⟨hk _ _ _ (by decide) hd.box, own_kept hd.own (by decide) hk, hd.zr, fun p hp => (hd.args p hp).keep2 ht.wj.low ht'.wj.low (Nat.le_refl _)⟩
theorem vj_right (ht : Vj w0 f m mo T w) (hd : Dt w0.heap.size r mo lv l w) (hL : DL r lv w lv' w') : Vj w0 f m mo T w' := by
  have hty : Typed (fun i => i = r ∨ lv.ownBlock = some i) w [TrT, RowT] := (typed_box hd.box).or (typed_own hd.own)
  refine ⟨⟨ht.wj.hf, ht.wj.hm, ht.wj.hr, ht.wj.tab.typed hL.fr hty, ht.wj.low.trans (hL.fr.below (fun i hi => ?_) ht.wj.low.size)⟩, ht.ok, ht.sz, ht.mo⟩
  rcases hi with e | e
  · subst e; exact hd.zr
  · exact (hd.own.lt i e).1
theorem box_right {s : Nat} {c : Array Value} {E : TypeId} (hb : Box s c E w) (hd : Dt w0.heap.size r mo lv l w) (hL : DL r lv w lv' w') (hE : E ∉ [TrT, RowT]) : Box s c E w' := box_dl (show BoxAt w s c E from hb) hd hL hE
theorem own_right {Z n k : Nat} {v : Value} {xs : List Value} {E : TypeId} (ho : w.ownsRow Z E k v n xs) (hd : Dt w0.heap.size r mo lv l w) (hL : DL r lv w lv' w') (hE : E ∉ [TrT, RowT]) : w'.ownsRow Z E k v n xs :=
  own_typed ho hL.fr ((typed_box hd.box).or (typed_own hd.own)) hE
/-- Both, and what they say of each other. -/
structure Pj (w0 : World) (f m r : Nat) (mo : Int) (lv : Value) (T : Tb) (l : List Rl) (w : World) : Prop where
  t : Vj w0 f m mo T w
  d : Dt w0.heap.size r mo lv l w
  s : Sd T l
theorem Pj.below (h : Pj w0 f m r mo lv T l w) (hB : Below w.heap.size w w') : Pj w0 f m r mo lv T l w' := ⟨h.t.below hB, h.d.below hB, h.s⟩
/-- What the document's calls ask for. -/
structure Fit (l : List Rl) : Prop where
  len : l.length ≤ 100000
  nd : (l.map (·.1)).Nodup
  ml : ∀ q ∈ l, q.1.2.size ≤ 9223372036854775807
  op : ∀ q ∈ l, 0 ≤ q.2.op ∧ q.2.op ≤ 1000000
  pb : ∀ q ∈ l, q.2.fk = true → parB q.1.2 = true
  args : ∀ q ∈ l, q.2.args.length ≤ 8192
theorem Sd.fit (h : Sd T l) (ho : Ok T) (hz : T.length ≤ 4096) : Fit l := by
  refine ⟨by rw [h.len]; omega, h.keys, fun q hq => ?_, fun q hq => ?_, fun q hq hf => ?_, fun q hq => ?_⟩
  · obtain ⟨p, hp, e, _⟩ := h.mem hq
    rw [← e]; exact ho.sizes hp
  · obtain ⟨p, hp, e, ec⟩ := h.mem hq
    have e1 : q.2.op = p.2.2.op := (congrArg Rw.op ec.symm : (core q.2).op = (core p.2.2).op)
    have h2 := ho.bound (getT ho.nd hp)
    rw [e1]
    exact ⟨h2.1, Int.le_trans h2.2 (by omega)⟩
  · obtain ⟨p, hp, e, ec⟩ := h.mem hq
    have e1 : q.2.fk = p.2.2.fk := (congrArg Rw.fk ec.symm : (core q.2).fk = (core p.2.2).fk)
    rw [e1] at hf
    rw [← e]; exact (ho.up p hp hf).1
  · obtain ⟨p, hp, e, ec⟩ := h.mem hq
    have e1 : q.2.args = p.2.2.args := (congrArg Rw.args ec.symm : (core q.2).args = (core p.2.2).args)
    rw [e1]; exact ho.args p hp
theorem Pj.fit (h : Pj w0 f m r mo lv T l w) : Fit l := h.s.fit h.t.ok h.t.sz
theorem pj_start {e : Ending} {w1 : World} (h : MadeT mo w e w1) (hm : mo ≤ 4096) : ∃ f m, e = .returned (.tuple #[.pointer (some ⟨f, 0, none⟩), .int .i64 0]) ∧ Pj w f m w1.heap.size mo (.slice none 0 0) [] [] (w1.alloc (.cells #[.int .i64 mo, .slice none 0 0] TrT)) := by
  obtain ⟨f, m, he, hf, hm2, hT, hB⟩ := h
  have hA := alD w1 (.cells #[.int .i64 mo, .slice none 0 0] TrT)
  refine ⟨f, m, he, ⟨⟨hf, hm2, by simp, hT.below hA, hB.trans (hA.mono hB.size)⟩, Ok.nil, by simp, hm⟩, ⟨heap_alloc_new _ _, World.ownsRow_nil _ _ _ _, hB.size, by simp⟩, Sd.start⟩
end
end Go.Proofs.Ythbkbmkcgpdedaa
namespace Go.Proofs.Ythbkbmkcgpdedaa
open Go.RowKit Go.Sort Go.Lib

abbrev zeroRl : Rl := ((0, ⟨#[]⟩), ⟨0, none, 0, [], 0, 0, 0, 0, 0, false⟩)
abbrev ARowT : TypeId := 58
theorem encT_cells {w : World} {b : Nat} {q : Rl} (h : BoxAt w b (encT q).toArray ARowT) :
    w.cell? ⟨b, 0, none⟩ = some (.int .u64 q.1.1) ∧ w.cell? ⟨b, 1, none⟩ = some (.string q.1.2) ∧ w.cell? ⟨b, 2, none⟩ = some (.string q.1.2) ∧ w.cell? ⟨b, 3, none⟩ = some (.int .i64 q.2.fn) ∧ w.cell? ⟨b, 4, none⟩ = some (.slice q.2.aa q.2.args.length q.2.ac) ∧ w.cell? ⟨b, 5, none⟩ = some (.int .i64 q.2.fuel) ∧ w.cell? ⟨b, 6, none⟩ = some (.int .u8 q.2.st) ∧ w.cell? ⟨b, 7, none⟩ = some (.int .i64 q.2.op) ∧ w.cell? ⟨b, 8, none⟩ = some (.int .i64 q.2.val) ∧ w.cell? ⟨b, 9, none⟩ = some (.int .i64 q.2.err) :=
  ⟨h.cell 0, h.cell 1, h.cell 2, h.cell 3, h.cell 4, h.cell 5, h.cell 6, h.cell 7, h.cell 8, h.cell 9⟩
section
variable {w0 w w' : World} {Z f m r : Nat} {mo : Int} {lv lv' : Value} {T T' : Tb} {l l' : List Rl}
theorem get_uni {n : Nm} {e : Ending} (h : GetR T n w e w') : ∃ (q : Rl) (is : Bool), e = .returned (.tuple #[.agg (encT q).toArray, .bool is]) ∧ ((is = false ∧ getL T n = none ∧ q = zeroRl) ∨ (is = true ∧ q.1 = n ∧ ∃ b c, getL T n = some (b, c) ∧ core q.2 = core c)) ∧ ArgsR w' q.2 ∧ Below w.heap.size w w' := by
  obtain ⟨⟨hg, he⟩ | ⟨b, c, aa, ac, hg, he, ho⟩, hB⟩ := h
  · exact ⟨zeroRl, false, he, .inl ⟨rfl, hg, rfl⟩, .inl ⟨rfl, none, 0, rfl⟩, hB⟩
  · refine ⟨(n, { c with aa := aa, ac := ac }), true, he, .inr ⟨rfl, rfl, b, c, hg, rfl⟩, ?_, hB⟩
    exact own_readsK (enc := encI) (k := 1) (fun _ => rfl) (by decide) ho
/-- What both tell of one name. -/
theorem Sd.found (h : Sd T l) {n : Nm} {q : Rl} {is : Bool} {i : Int} (hq : (is = false ∧ getL T n = none ∧ q = zeroRl) ∨ (is = true ∧ q.1 = n ∧ ∃ b c, getL T n = some (b, c) ∧ core q.2 = core c)) (hF : FindN l n i) :
    (is = false ∧ i = -1 ∧ q = zeroRl) ∨ (is = true ∧ q.1 = n ∧ ∃ (j : Nat) (hj : j < l.length), i = (j : Int) ∧ l[j].1 = n ∧ core q.2 = core l[j].2) := by
  rcases hq with ⟨h1, h2, h3⟩ | ⟨h1, h2, b, c, hg, hc⟩
  · rcases hF with ⟨rfl, _⟩ | ⟨j, hj, rfl, hjn⟩
    · exact .inl ⟨h1, rfl, h3⟩
    · have h4 := getL_here h.keys hj hjn
      rw [h.gone h2] at h4
      cases h4
  · obtain ⟨c', hc', he⟩ := h.here hg
    rcases hF with ⟨rfl, hno⟩ | ⟨j, hj, rfl, hjn⟩
    · rw [getL_noneV hno] at hc'
      cases hc'
    · have h4 := getL_here h.keys hj hjn
      rw [hc'] at h4
      injection h4 with h4
      exact .inr ⟨h1, h2, j, hj, rfl, hjn, by rw [← h4]; exact hc.trans he.symm⟩
theorem BackDP.both {n : Nm} {e : Ending} (hs : Sd T l) (h : e = .returned (.int .i64 (ofE l n [5, 5])) ∧ Dt Z r mo lv (stL l n [5, 5] 1) w' ∧ DL r lv w lv w') : e = .returned (.int .i64 (ofV T n [5]).2) ∧ ∃ lv' l', Sd (stT T n [5] 1) l' ∧ Dt Z r mo lv' l' w' ∧ DL r lv w lv' w' := by
  obtain ⟨he, hd, hl⟩ := h
  have hm : ∀ x : Int, x ∈ [(5 : Int), 5] ↔ x ∈ [(5 : Int)] := fun x => by simp
  rw [ofE_congr hm, hs.ofEq] at he
  rw [stL_congr hm] at hd
  exact ⟨he, lv, _, hs.st n [5] 1, hd, hl⟩
theorem WaitDP.both {n : Nm} {e : Ending} (hs : Sd T l) (h : WaitDP Z r mo lv l n w e w') : e = .returned (.tuple #[.bool (waitV T n).1, .int .i64 (waitV T n).2]) ∧ ∃ lv' l', Sd (waitT T n) l' ∧ Dt Z r mo lv' l' w' ∧ DL r lv w lv' w' := by
  obtain ⟨he, hd, hl⟩ := h
  obtain ⟨h1, h2⟩ := hs.wait n
  rw [h1] at he
  exact ⟨he, lv, _, h2, hd, hl⟩
theorem DropDP.both {n : Nm} {e : Ending} (hs : Sd T l) (ho : Ok T) (h : DropDP Z r mo lv l n w e w') : e = .returned (.int .i64 ((T.length : Int) - (dropT T n).length)) ∧ ∃ lv' l', Sd (dropT T n) l' ∧ Dt Z r mo lv' l' w' ∧ DL r lv w lv' w' := by
  obtain ⟨he, lv', hd, hl⟩ := h
  have h2 := hs.drop ho n
  rw [hs.len, h2.len] at he
  exact ⟨he, lv', _, h2, hd, hl⟩
theorem OverT.shape {n : Nm} {val err : Int} {e : Ending} (h : OverT T n val err e T') : ∃ (a : Nm) (b : Bool) (q : Int), e = .returned (.tuple #[.agg #[.int .u64 a.1, .string a.2], .bool b, .int .i64 q]) := by
  rcases h with ⟨_, he, _⟩ | ⟨b, r', _, _, _, he, _⟩
  · exact ⟨(0, ⟨#[]⟩), _, _, he⟩
  · cases hb : (overU (updT T n (overR1 r' val err)) n r').1
    · rw [hb] at he; exact ⟨(0, ⟨#[]⟩), _, _, he⟩
    · rw [hb] at he; exact ⟨(n.1, parS n.2), _, _, he⟩
/-- What the document's list holds at a place. -/
theorem Pj.row (h : Pj w0 f m r mo lv T l w) {j : Nat} (hj : j < l.length) : ∃ g cap, lv = .slice (some ⟨g, 0, none⟩) l.length cap ∧ w.cell? ⟨r, 1, none⟩ = some (.slice (some ⟨g, 0, none⟩) l.length cap) ∧
    (w.cell? ⟨g, j * 11, none⟩ = some (.int .u64 l[j].1.1) ∧ w.cell? ⟨g, j * 11 + 1, none⟩ = some (.string l[j].1.2) ∧ w.cell? ⟨g, j * 11 + 2, none⟩ = some (.string l[j].1.2) ∧ w.cell? ⟨g, j * 11 + 3, none⟩ = some (.int .i64 l[j].2.fn) ∧ w.cell? ⟨g, j * 11 + 4, none⟩ = some (.slice l[j].2.aa l[j].2.args.length l[j].2.ac) ∧ w.cell? ⟨g, j * 11 + 5, none⟩ = some (.int .i64 l[j].2.fuel) ∧ w.cell? ⟨g, j * 11 + 6, none⟩ = some (.int .u8 l[j].2.st) ∧ w.cell? ⟨g, j * 11 + 7, none⟩ = some (.int .i64 l[j].2.op) ∧ w.cell? ⟨g, j * 11 + 8, none⟩ = some (.int .i64 l[j].2.val) ∧ w.cell? ⟨g, j * 11 + 9, none⟩ = some (.int .i64 l[j].2.err)) := by
  obtain ⟨g, cap, e, hc⟩ := h.d.at hj
  refine ⟨g, cap, e, ?_, hc 0 _ rfl, hc 1 _ rfl, hc 2 _ rfl, hc 3 _ rfl, hc 4 _ rfl, hc 5 _ rfl, hc 6 _ rfl, hc 7 _ rfl, hc 8 _ rfl, hc 9 _ rfl⟩
  rw [← e]
  exact h.d.cell
theorem Pj.args (h : Pj w0 f m r mo lv T l w) : ∀ p ∈ l, ArgsR w p.2 := fun p hp => (h.d.args p hp).1
theorem like_args {a b : Rw} (he : core a = core b) (h : b.args.length ≤ 8192) : a.args.length ≤ 1000000 := by
  have h4 : a.args = b.args := (congrArg Rw.args he : (core a).args = (core b).args)
  rw [h4]; omega
theorem ArgsR.below {r : Rw} (h : ArgsR w r) (hB : Below w.heap.size w w') : ArgsR w' r := ReadsK.below h hB
/-- The rows that are told read as the document's. -/
theorem Sd.told (h : Sd T l) {S : List Rl} (hS : S.map coreP = sortV (rowsT T)) : S.length = l.length ∧ ∀ (i : Nat) (h1 : i < S.length) (h2 : i < l.length), S[i].1 = l[i].1 ∧ core S[i].2 = core l[i].2 := by
  rw [← h.eq] at hS
  have hl := congrArg List.length hS
  simp at hl
  refine ⟨hl, fun i h1 h2 => ?_⟩
  have : (S.map coreP)[i]'(by simpa using h1) = (l.map coreP)[i]'(by simpa using h2) := by simp only [hS]
  rw [List.getElem_map, List.getElem_map] at this
  exact ⟨(congrArg Prod.fst this : (coreP S[i]).1 = (coreP l[i]).1), (congrArg Prod.snd this : (coreP S[i]).2 = (coreP l[i]).2)⟩
theorem tk_len (h : Ok T) (n : Nm) (L : List Int) : (tkT T n L).2.2.2.length ≤ 8192 := by
  unfold tkT
  cases hg : getL T n with
  | none => simp
  | some q =>
    simp only []
    split
    · exact h.args _ (getT_mem (b := q.1) (r := q.2) hg)
    · simp
theorem reads_two_names (w : World) (n m : Nm) : ReadsK encM 2 (w.alloc (.cells #[.int .u64 n.1, .string n.2, .int .u64 m.1, .string m.2] NmT)) (.slice (some ⟨w.heap.size, 0, none⟩) 2 2) [n, m] := by
  refine .inr ⟨w.heap.size, 0, 2, rfl, by simp, fun i hi t u hu => ?_⟩
  have hi2 : i < 2 := hi
  have hb : BoxAt (w.alloc (.cells #[.int .u64 n.1, .string n.2, .int .u64 m.1, .string m.2] NmT)) w.heap.size #[.int .u64 n.1, .string n.2, .int .u64 m.1, .string m.2] NmT := heap_alloc_new _ _
  match i, hi2, t with
  | 0, _, 0 => simp [encM] at hu; subst hu; exact hb.cell 0
  | 0, _, 1 => simp [encM] at hu; subst hu; exact hb.cell 1
  | 1, _, 0 => simp [encM] at hu; subst hu; exact hb.cell 2
  | 1, _, 1 => simp [encM] at hu; subst hu; exact hb.cell 3
  | 0, _, t + 2 => simp [encM] at hu
  | 1, _, t + 2 => simp [encM] at hu
end
end Go.Proofs.Ythbkbmkcgpdedaa
