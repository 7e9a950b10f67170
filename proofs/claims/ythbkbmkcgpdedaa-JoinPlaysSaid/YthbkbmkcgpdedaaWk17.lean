/- The table behind so many steps of a script, and the caller's own map: what each call leaves. -/
import Derived.Test.YthbkbmkcgpdedaaOver17
import Derived.Test.YthbkbmkcgpdedaaWakeLaw4
import Derived.Test.YthbkbmkcgpdedaaJoin11
namespace Go.Proofs.Ythbkbmkcgpdedaa
open Go.RowKit Go.Sort Go.Lib

structure Jw (w0 : World) (f m km : Nat) (T : Tb) (K : List (Nm × Nm)) (w : World) : Prop where
  wj : Wj w0 f m 200 T w
  ok : Ok T
  sz : T.length ≤ 200
  kmp : MapL encN w km K
  kb : w0.heap.size ≤ km
  ne : km ≠ m
section
variable {w0 w w' : World} {f m km : Nat} {T T' : Tb} {K : List (Nm × Nm)}
theorem no_cellsK {b : Nat} {K : List (Nm × Nm)} (h : MapL encN w b K) {c : Array Value} {E : TypeId} {fr : Nat × Nat} : w.heap[b]? ≠ some (Obj.cells c E fr) := by
  obtain ⟨es, cl, hb, _⟩ := h
  rw [hb]; intro e; cases e
theorem Jw.rows (h : Jw w0 f m km T K w) : ¬ InRows T km := by
  rintro ⟨p, hp, e⟩
  exact no_cellsK h.kmp (e ▸ (h.wj.tab.row p hp).1)
theorem Jw.fr {S : Nat → Prop} (h : Jw w0 f m km T K w) (hT : Tab w' f m 200 T') (hF : Fr S w w') (hS : ∀ i, S i → i = m ∨ InRows T i) (hr' : ∀ p ∈ T', w0.heap.size ≤ p.2.1) (ho : Ok T') (hs : T'.length ≤ 200) : Jw w0 f m km T' K w' ∧ Kept w w' := by
  obtain ⟨h1, h2⟩ := h.wj.fr hT hF hS hr'
  refine ⟨⟨h1, ho, hs, h.kmp.block (hF.block km h.kmp.lt (fun e => ?_)), h.kb, h.ne⟩, h2⟩
  rcases hS km e with rfl | e
  · exact h.ne rfl
  · exact h.rows e
theorem Jw.below (h : Jw w0 f m km T K w) (hB : Below w.heap.size w w') : Jw w0 f m km T K w' := ⟨h.wj.below hB, h.ok, h.sz, h.kmp.block (hB.block _ h.kmp.lt), h.kb, h.ne⟩
theorem Jw.stay (h : Jw w0 f m km T K w) (_hT : Tab w' f m 200 T) (hB : Below w.heap.size w w') : Jw w0 f m km T K w' ∧ Kept w w' := ⟨h.below hB, .below hB⟩
theorem Jw.args (h : Jw w0 f m km T K w) : ∀ p ∈ T, p.2.2.args.length ≤ 1000000 := fun p hp => Nat.le_trans (h.ok.args p hp) (by decide)
theorem Jw.hr (h : Jw w0 f m km T K w) : ∀ p ∈ T, w0.heap.size ≤ p.2.1 := h.wj.hr
theorem updT_rows {n : Nm} {r' : Rw} {B : Nat} (h : ∀ p ∈ T, B ≤ p.2.1) : ∀ p ∈ updT T n r', B ≤ p.2.1 := by
  intro p hp
  unfold updT at hp
  obtain ⟨q, hq, rfl⟩ := List.mem_map.1 hp
  have := h q hq
  by_cases e : q.1 = n
  · rw [if_pos e]; exact this
  · rw [if_neg e]; exact this
theorem KOk.same {T T' : Tb} {K : List (Nm × Nm)} (h : KOk T K) (e : ∀ a, kidK T' a = kidK T a) : KOk T' K := fun n => (h n).trans (e n).symm
theorem addE_zero {T : Tb} {n : Nm} (h : addE T 200 n = 0) : getL T n = none ∧ T.length < 200 := by
  unfold addE at h
  split at h
  · simp at h
  · rename_i h1
    split at h
    · simp at h
    · refine ⟨by simpa using h1, by omega⟩
theorem put_w (h : Jw w0 f m km T K w) (job : Int) (p : ByteArray) (fn fuel : Int) (v : Value) (l : List Int) (hv : ReadsK encI 1 w v l) (hl : l.length ≤ 8192) (hp : p.size ≤ 9223372036854775807) :
    Calls Try.prog 9 #[.pointer (some ⟨f, 0, none⟩), .int .u64 job, .agg #[.string p, .int .i64 fn, v, .int .i64 fuel]] w fun e w' => e = .returned (.int .i64 (putE T 200 (job, p))) ∧ ∃ T', Jw w0 f m km T' K w' ∧ Kept w w' ∧ (KOk T K → KOk T' K) := by
  refine (put_tab f m 200 T job p fn fuel v l w h.wj.tab hv (by omega) (by have := h.sz; omega) hp).mono ?_
  rintro e w1 ⟨he, ⟨_, hT, hB⟩ | ⟨h0, b, aa, ac, hb, hT, hF⟩⟩
  · obtain ⟨h1, h2⟩ := h.stay hT hB
    exact ⟨he, T, h1, h2, fun hk => hk⟩
  · unfold putE at h0
    split at h0
    · rename_i hm
      obtain ⟨hn, hl2⟩ := addE_zero h0
      have hn' := getL_none_iffV.1 hn
      obtain ⟨h1, h2⟩ := h.fr hT hF (fun i hi => .inl hi) (fun p hp => by
        rcases List.mem_append.1 hp with hp | hp
        · exact h.hr p hp
        · rw [List.mem_singleton] at hp; subst hp; exact Nat.le_trans h.wj.low.size hb) (h.ok.put hn' hm rfl rfl (by exact hl)) (by rw [List.length_append]; exact hl2)
      exact ⟨he, _, h1, h2, fun hk => hk.same (kidK_put hn' rfl)⟩
    · simp at h0
theorem updT_app {T : Tb} {x : Nm × Nat × Rw} {n : Nm} {r : Rw} (h : x.1 ≠ n) : updT (T ++ [x]) n r = updT T n r ++ [x] := by
  unfold updT
  rw [List.map_append]
  simp [h]
theorem fork_w (h : Jw w0 f m km T K w) (pn : Nm) (p : ByteArray) (fn fuel : Int) (v : Value) (l : List Int) (hv : ReadsK encI 1 w v l) (hl : l.length ≤ 8192) (hp : p.size ≤ 9223372036854775807) :
    Calls Try.prog 12 #[.pointer (some ⟨f, 0, none⟩), .agg #[.int .u64 pn.1, .string pn.2], .agg #[.string p, .int .i64 fn, v, .int .i64 fuel]] w fun e w' => ∃ b : Int, e = .returned (.int .i64 b) ∧ ∃ T', Jw w0 f m km T' K w' ∧ Kept w w' ∧ (b ≠ 0 → KOk T K → KOk T' K) ∧ (b = 0 → KOk T K → KOk T' (putL K (pn.1, p) pn)) := by
  refine (fork_tab f m 200 T pn p fn fuel v l w h.wj.tab hv (by omega) (by have := h.sz; omega) hp (fun q hq => by
    obtain ⟨h1, h2⟩ := h.ok.bound (getT h.ok.nd hq)
    have := h.sz
    exact ⟨h1, Int.le_trans h2 (by omega)⟩)).mono ?_
  rintro e w1 ⟨he, ⟨h0, hT, hB⟩ | ⟨h0, b, r, b2, aa, ac, hg, hst, hb2, hT, hF⟩⟩
  · obtain ⟨h1, h2⟩ := h.stay hT hB
    exact ⟨_, he, T, h1, h2, fun _ hk => hk, fun e => absurd e h0⟩
  · have h0' := h0
    unfold forkE at h0
    rw [if_neg (by rw [show (ofV T pn [2]).2 = 0 by unfold ofV; rw [hg]; simp only []; rw [if_pos hst]]; simp)] at h0
    split at h0
    · rename_i hm
      simp only [Bool.and_eq_true, decide_eq_true_eq] at hm
      obtain ⟨⟨hm, hpb⟩, hps⟩ := hm
      obtain ⟨hn, hl2⟩ := addE_zero h0
      have hn' := getL_none_iffV.1 hn
      have hne : ((pn.1, p) : Nm) ≠ pn := fun e => hn' _ (getT_mem hg) e.symm
      have hpar : par ((pn.1, p) : Nm) = pn := by unfold par; exact Prod.ext rfl hps
      rw [updT_app hne] at hT
      have hok := h.ok.fork (r := ⟨fn, aa, ac, l, fuel, 1, 0, 0, 0, true⟩) (b := b2) hg hn' hm hpb hpar rfl (show (1 : Int) ≠ 6 by decide) rfl hl
      obtain ⟨h1, h2⟩ := h.fr hT hF (fun i hi => by
        rcases hi with hi | hi
        · exact .inl hi
        · exact .inr (inRows hg hi)) (fun p hp => by
        rcases List.mem_append.1 hp with hp | hp
        · exact updT_rows h.hr p hp
        · rw [List.mem_singleton] at hp; subst hp; exact Nat.le_trans h.wj.low.size hb2) hok (by rw [List.length_append, updT_len]; exact hl2)
      refine ⟨_, he, _, h1, h2, fun e => absurd h0' e, fun _ hk a => ?_⟩
      rw [getL_putV, kidK_fork h.ok hg hn' rfl a, hk a, hpar]
    · simp at h0
theorem begin_w (h : Jw w0 f m km T K w) (n : Nm) :
    Calls Try.prog 14 #[.pointer (some ⟨f, 0, none⟩), .agg #[.int .u64 n.1, .string n.2]] w fun e w' => ∃ v, e = .returned v ∧ ∃ T', Jw w0 f m km T' K w' ∧ Kept w w' ∧ (KOk T K → KOk T' K) := by
  refine (begin_tab f m 200 T n w h.wj.tab h.args).mono ?_
  rintro e w1 (⟨_, he, hT, hB⟩ | ⟨b, r, aa, ac, hg, hst, he, _, hT, hF⟩)
  · obtain ⟨h1, h2⟩ := h.stay hT hB
    exact ⟨_, he, T, h1, h2, fun hk => hk⟩
  · have hst6 : r.st ≠ 6 := fun e => by rw [e] at hst; revert hst; decide
    obtain ⟨h1, h2⟩ := h.fr hT hF (fun i hi => .inr (inRows hg hi)) (updT_rows h.hr) (h.ok.same hg rfl ⟨fun e => absurd (show (2 : Int) = 6 from e) (by decide), fun e => absurd e hst6⟩ rfl rfl) (by rw [updT_len]; exact h.sz)
    exact ⟨_, he, _, h1, h2, fun hk => hk.same (kidK_upd hg rfl)⟩
theorem leave_w (h : Jw w0 f m km T K w) (n : Nm) :
    Calls Try.prog 19 #[.pointer (some ⟨f, 0, none⟩), .agg #[.int .u64 n.1, .string n.2]] w fun e w' => ∃ v, e = .returned v ∧ ∃ T', Jw w0 f m km T' K w' ∧ Kept w w' ∧ (KOk T K → KOk T' K) := by
  refine (leave_tab f m 200 T n w h.wj.tab h.args).mono ?_
  rintro e w1 (⟨_, he, hT, hB⟩ | ⟨b, r, aa, ac, hg, hst, he, _, hT, hF⟩)
  · obtain ⟨h1, h2⟩ := h.stay hT hB
    exact ⟨_, he, T, h1, h2, fun hk => hk⟩
  · have hst6 : r.st ≠ 6 := fun e => by rw [e] at hst; revert hst; decide
    obtain ⟨h1, h2⟩ := h.fr hT hF (fun i hi => .inr (inRows hg hi)) (updT_rows h.hr) (h.ok.same hg rfl ⟨fun e => absurd (show (5 : Int) = 6 from e) (by decide), fun e => absurd e hst6⟩ rfl rfl) (by rw [updT_len]; exact h.sz)
    exact ⟨_, he, _, h1, h2, fun hk => hk.same (kidK_upd hg rfl)⟩
theorem back_w (h : Jw w0 f m km T K w) (n : Nm) :
    Calls Try.prog 21 #[.pointer (some ⟨f, 0, none⟩), .agg #[.int .u64 n.1, .string n.2]] w fun e w' => ∃ v, e = .returned v ∧ ∃ T', Jw w0 f m km T' K w' ∧ Kept w w' ∧ (KOk T K → KOk T' K) := by
  refine (back_tab f m 200 T n w h.wj.tab).mono ?_
  rintro e w1 ⟨he, hT, hF⟩
  by_cases hb : ∃ b r, getL T n = some (b, r) ∧ r.st = 5
  · obtain ⟨b, r, hg, hst⟩ := hb
    rw [show backT T n = updT T n { r with st := 1 } by unfold backT; rw [hg]; simp only []; rw [if_pos (by simp [hst])]] at hT
    obtain ⟨h1, h2⟩ := h.fr hT hF (fun i hi => .inr hi) (updT_rows h.hr) (h.ok.same hg rfl ⟨fun e => absurd (show (1 : Int) = 6 from e) (by decide), fun e => by rw [hst] at e; exact absurd e (by decide)⟩ rfl rfl) (by rw [updT_len]; exact h.sz)
    exact ⟨_, he, _, h1, h2, fun hk => hk.same (kidK_upd hg rfl)⟩
  · rw [show backT T n = T by
      unfold backT
      cases hg : getL T n with
      | none => rfl
      | some br => simp only []; rw [if_neg (fun e => hb ⟨br.1, br.2, hg, by simpa using e⟩)]] at hT
    obtain ⟨h1, h2⟩ := h.fr hT hF (fun i hi => .inr hi) h.hr h.ok h.sz
    exact ⟨_, he, _, h1, h2, fun hk => hk⟩
def rwZ : Rw := ⟨0, none, 0, [], 0, 0, 0, 0, 0, false⟩
/-- What Get tells of a row. -/
def getR (T : Tb) (n : Nm) : Rw := match getL T n with
  | none => rwZ
  | some (_, r) => r
theorem getR_some {n : Nm} {b : Nat} {r : Rw} (h : getL T n = some (b, r)) : getR T n = r := by unfold getR; rw [h]
theorem getR_none {n : Nm} (h : getL T n = none) : getR T n = rwZ := by unfold getR; rw [h]
theorem wait_w (h : Jw w0 f m km T K w) (n : Nm) :
    Calls Try.prog 17 #[.pointer (some ⟨f, 0, none⟩), .agg #[.int .u64 n.1, .string n.2]] w fun e w' => ∃ (is : Bool) (c : Int), e = .returned (.tuple #[.bool is, .int .i64 c]) ∧ (c = 0 → is = decide ((getR T n).op > 0)) ∧ ∃ T', Jw w0 f m km T' K w' ∧ Kept w w' ∧ (KOk T K → KOk T' K) := by
  refine (wait_tab f m 200 T n w h.wj.tab).mono ?_
  rintro e w1 ⟨he, hT, hF⟩
  refine ⟨_, _, he, ?_, ?_⟩
  · intro h0
    cases hg : getL T n with
    | none => unfold waitV at h0; rw [hg] at h0; simp at h0
    | some br =>
      obtain ⟨b, r⟩ := br
      rw [getR_some hg]
      have hb := (h.ok.bound hg).1
      unfold waitV at h0 ⊢
      rw [hg] at h0 ⊢
      simp only at h0 ⊢
      by_cases hs : r.st ∈ [(2 : Int)]
      · rw [if_pos hs]
        by_cases ho : r.op = 0
        · rw [if_pos ho, ho]; rfl
        · rw [if_neg ho]; exact (decide_eq_true (by omega)).symm
      · rw [if_neg hs] at h0; simp at h0
  · by_cases hb : ∃ b r, getL T n = some (b, r) ∧ r.st = 2 ∧ r.op ≠ 0
    · obtain ⟨b, r, hg, hst, ho⟩ := hb
      have key : waitV T n = (true, 0) := by unfold waitV; rw [hg]; simp only []; rw [if_pos (by simp [hst]), if_neg ho]
      rw [show waitT T n = updT T n { r with st := 3 } by unfold waitT; rw [key, hg]; rfl] at hT
      obtain ⟨h1, h2⟩ := h.fr hT hF (fun i hi => .inr hi) (updT_rows h.hr) (h.ok.same hg rfl ⟨fun e => absurd (show (3 : Int) = 6 from e) (by decide), fun e => by rw [hst] at e; exact absurd e (by decide)⟩ rfl rfl) (by rw [updT_len]; exact h.sz)
      exact ⟨_, h1, h2, fun hk => hk.same (kidK_upd hg rfl)⟩
    · have key : (waitV T n).1 = false := by
        unfold waitV
        cases hg : getL T n with
        | none => rfl
        | some br =>
          simp only []
          by_cases hs : br.2.st ∈ [(2 : Int)]
          · rw [if_pos hs]
            by_cases ho : br.2.op = 0
            · rw [if_pos ho]
            · exact absurd ⟨br.1, br.2, hg, by simpa using hs, ho⟩ hb
          · rw [if_neg hs]
      rw [show waitT T n = T by unfold waitT; rw [key]; cases getL T n <;> rfl] at hT
      obtain ⟨h1, h2⟩ := h.fr hT hF (fun i hi => .inr hi) h.hr h.ok h.sz
      exact ⟨_, h1, h2, fun hk => hk⟩
theorem get_w (h : Jw w0 f m km T K w) (n : Nm) :
    Calls Try.prog 28 #[.pointer (some ⟨f, 0, none⟩), .agg #[.int .u64 n.1, .string n.2]] w fun e w' => ∃ (n' : Nm) (ua : Option Addr) (un uc : Nat) (is : Bool), e = .returned (.tuple #[.agg #[.int .u64 n'.1, .string n'.2, .string n'.2, .int .i64 (getR T n).fn, .slice ua un uc, .int .i64 (getR T n).fuel, .int .u8 (getR T n).st, .int .i64 (getR T n).op, .int .i64 (getR T n).val, .int .i64 (getR T n).err], .bool is]) ∧ Jw w0 f m km T K w' ∧ Kept w w' := by
  refine (get_tab f m 200 T n w h.wj.tab h.args).mono ?_
  rintro e w1 ⟨⟨hg, he⟩ | ⟨b, r, aa, ac, hg, he, _⟩, hB⟩
  · obtain ⟨h1, h2⟩ := h.stay (h.wj.tab.below hB) hB
    exact ⟨(0, ⟨#[]⟩), none, 0, 0, false, by rw [he, getR_none hg]; rfl, h1, h2⟩
  · obtain ⟨h1, h2⟩ := h.stay (h.wj.tab.below hB) hB
    exact ⟨n, aa, r.args.length, ac, true, by rw [he, getR_some hg]; rfl, h1, h2⟩
theorem getR_upd {n : Nm} {b : Nat} {r r' : Rw} (hg : getL T n = some (b, r)) : getR (updT T n r') n = r' := getR_some (getL_upd hg)
theorem Ok.sizes (h : Ok T) {p : Nm × Nat × Rw} (hp : p ∈ T) : p.1.2.size ≤ 9223372036854775807 := Nat.le_trans (mayS_le (h.may p hp)) (by decide)
theorem overU_rows {n : Nm} {r : Rw} {B : Nat} (h : ∀ p ∈ T, B ≤ p.2.1) : ∀ p ∈ (overU T n r).2, B ≤ p.2.1 := by
  unfold overU
  split
  · split
    · exact h
    · split
      · exact updT_rows h
      · exact updT_rows (updT_rows h)
  · exact h
theorem overU_len {n : Nm} {r : Rw} : (overU T n r).2.length = T.length := by
  unfold overU
  split
  · split
    · rfl
    · split
      · exact updT_len _ _ _
      · rw [updT_len, updT_len]
  · rfl
theorem over_w (h : Jw w0 f m km T K w) (n : Nm) (val err : Int) (hk : KOk T K) :
    Calls Try.prog 23 #[.pointer (some ⟨f, 0, none⟩), .agg #[.int .u64 n.1, .string n.2], .agg #[.int .i64 val, .int .i64 err]] w fun e w' => ∃ (pn : Nm) (is : Bool) (c : Int), e = .returned (.tuple #[.agg #[.int .u64 pn.1, .string pn.2], .bool is, .int .i64 c]) ∧ (c ≠ 0 → is = false) ∧ ∃ T', Jw w0 f m km T' K w' ∧ Kept w w' ∧ KOk T' K ∧
      (c = 0 → getL K n = none → is = false) ∧ (∀ q, c = 0 → getL K n = some q → is = (decide ((getR T q).st = 3) && decide ((getR T q).op = 1)) ∧ (is = true → pn = q ∧ (getR T' q).st = 4) ∧ (getR T' q).op = (getR T q).op - 1 ∧ 1 ≤ (getR T q).op ∧ (getR T q).op ≤ 200) := by
  rcases ofV_cases T n [2, 5] with ⟨hc, _⟩ | ⟨b, r, hg, hst, _⟩
  · refine (over_bad f m 200 T n val err w h.wj.tab hc).mono ?_
    rintro e w1 ⟨he, hT, hB⟩
    obtain ⟨h1, h2⟩ := h.stay hT hB
    exact ⟨(0, ⟨#[]⟩), false, _, he, fun _ => rfl, T, h1, h2, hk, fun e => absurd e hc, fun _ e => absurd e hc⟩
  · have hst6 : r.st ≠ 6 := fun e => by rw [e] at hst; revert hst; decide
    refine (over_tab f m 200 T n val err b r w h.wj.tab hg hst (h.ok.sizes (getT_mem hg)) (fun hf => by
      obtain ⟨h1, pb, q, h2, h3, h4⟩ := h.ok.pars hg hf hst6
      have := h.sz
      exact ⟨h1, pb, q, h2, h3, Int.le_trans h4 (by omega)⟩)).mono ?_
    rintro e w1 ⟨he, hT, hF⟩
    obtain ⟨h1, h2⟩ := h.fr hT hF (fun i hi => .inr hi) (overU_rows (updT_rows h.hr)) (h.ok.over hg hst6 val err) (by rw [overU_len, updT_len]; exact h.sz)
    have hkid : getL K n = if r.fk then some (par n) else none := by rw [hk n]; unfold kidK; rw [hg]
    refine ⟨if (overU (updT T n (overR1 r val err)) n r).1 then par n else (0, ⟨#[]⟩), _, 0, by rw [he]; unfold nmV; congr 3; split <;> rfl, fun e => absurd rfl e, _, h1, h2, hk.same (kidK_over h.ok hg hst6 val err), fun _ hn => ?_, fun q _ hq => ?_⟩
    · rw [hkid] at hn
      split at hn
      · cases hn
      · rename_i hf
        unfold overU; rw [if_neg hf]
    · rw [hkid] at hq
      split at hq
      · rename_i hf
        injection hq with hq
        subst hq
        obtain ⟨hne, pb, q, hpg, hq1, hq2⟩ := h.ok.pars hg hf hst6
        have hq3 : q.op ≤ 200 := Int.le_trans hq2 (by have := h.sz; omega)
        have hpn : par n ≠ n := fun e => hne (congrArg Prod.snd e)
        have hg1 : getL (updT T n (overR1 r val err)) (n.1, parS n.2) = some (pb, q) := (getL_upd_ne (show (n.1, parS n.2) ≠ n from hpn)).trans hpg
        rw [getR_some hpg]
        by_cases hw : 0 < q.op - 1 ∨ q.st ≠ 3
        · have hov : overU (updT T n (overR1 r val err)) n r = (false, updT (updT T n (overR1 r val err)) (par n) { q with op := q.op - 1 }) := by
            unfold overU; rw [if_pos hf, hg1]; simp only; rw [if_pos hw]; rfl
          rw [hov]
          refine ⟨?_, fun e => absurd e (by simp), ?_, hq1, hq3⟩
          · rcases hw with hw | hw
            · rw [decide_eq_false (p := q.op = 1) (by omega), Bool.and_false]
            · rw [decide_eq_false hw, Bool.false_and]
          · exact congrArg Rw.op (getR_upd (n := par n) hg1)
        · have hov : overU (updT T n (overR1 r val err)) n r = (true, updT (updT (updT T n (overR1 r val err)) (par n) { q with op := q.op - 1 }) (par n) { q with op := q.op - 1, st := 4 }) := by
            unfold overU; rw [if_pos hf, hg1]; simp only; rw [if_neg hw]; rfl
          rw [hov]
          have hst3 : q.st = 3 := by omega
          refine ⟨?_, fun _ => ⟨if_pos rfl, ?_⟩, ?_, hq1, hq3⟩
          · rw [decide_eq_true hst3, decide_eq_true (show q.op = 1 by omega)]; rfl
          · exact congrArg Rw.st (getR_upd (n := par n) (getL_upd (n := par n) hg1))
          · exact congrArg Rw.op (getR_upd (n := par n) (getL_upd (n := par n) hg1))
      · cases hq
end
end Go.Proofs.Ythbkbmkcgpdedaa
