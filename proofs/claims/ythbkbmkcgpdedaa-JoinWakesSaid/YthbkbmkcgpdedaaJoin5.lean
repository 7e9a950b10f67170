/- Rows are written: Begin, Wait. -/
import Derived.Test.YthbkbmkcgpdedaaJoin4
namespace Go.Proofs.Ythbkbmkcgpdedaa
open Go.RowKit Go.Sort Go.Lib

def updT (T : Tb) (n : Nm) (r' : Rw) : Tb := T.map fun p => if p.1 = n then (p.1, p.2.1, r') else p
theorem updT_len (T : Tb) (n : Nm) (r : Rw) : (updT T n r).length = T.length := by unfold updT; simp
theorem mapT_upd (T : Tb) (n : Nm) (r : Rw) : mapT (updT T n r) = mapT T := by
  unfold mapT updT
  rw [List.map_map]
  apply List.map_congr_left
  intro p _
  simp only [Function.comp]
  split <;> rfl
theorem Tab.keys {w : World} {f m : Nat} {most : Int} {T : Tb} (h : Tab w f m most T) : (T.map (·.1)).Nodup := by
  obtain ⟨_, _, _, _, hn, _⟩ := h.map
  rwa [mapT_keys] at hn
theorem Tab.set {w w' : World} {f m : Nat} {most : Int} {T : Tb} {n : Nm} {b : Nat} {r r' : Rw} (h : Tab w f m most T) (hg : getL T n = some (b, r)) (hF : Fr (fun i => i = b) w w') (hb : w'.heap[b]? = some (rowO n r'))
    (ha : r'.aa = r.aa ∧ r'.ac = r.ac ∧ r'.args = r.args) : Tab w' f m most (updT T n r') := by
  have hmem := getL_mem' hg
  have hrow := h.row _ hmem
  have hbm : b ≠ m := h.notMap hrow.1
  have hbf : b ≠ f := by
    rintro rfl
    have h1 := hrow.1
    rw [h.box] at h1
    unfold rowO at h1
    injection h1 with h1; injection h1 with h1 _ _
    injection h1 with h1; injection h1 with h1 h2; injection h2 with h2 h3; injection h3
  have hk : ∀ i, i < w.heap.size → i ≠ b → w'.heap[i]? = w.heap[i]? := fun i hi hn => hF.block i hi hn
  have hargs : ∀ q : Rw, Args w q → Args w' q := fun q hq => Args.far hq (fun i cur hi => hk i (Array.getElem?_eq_some_iff.1 hi).1 (by
    rintro rfl
    have h1 := hrow.1
    rw [hi] at h1
    unfold rowO at h1
    injection h1 with h1; injection h1 with _ h1 _; cases h1))
  refine ⟨(hk f h.lt.1 (fun e => hbf e.symm)).trans h.box, by rw [mapT_upd]; exact h.map.block (hk m h.lt.2.1 (fun e => hbm e.symm)), ?_, ?_⟩
  · intro p hp
    unfold updT at hp
    obtain ⟨q, hq, rfl⟩ := List.mem_map.1 hp
    by_cases hqn : q.1 = n
    · rw [if_pos hqn]
      have hqe : q = (n, b, r) := eq_of_keyV h.keys hq hmem hqn
      subst hqe
      refine ⟨hb, ?_⟩
      have := hargs _ hrow.2
      unfold Args at this ⊢
      rw [ha.1, ha.2.1, ha.2.2]
      exact this
    · rw [if_neg hqn]
      have hqb : q.2.1 ≠ b := by
        intro e
        have hnd := h.nd
        obtain ⟨i, hi, hqi⟩ := List.getElem_of_mem hq
        obtain ⟨j, hj, hmj⟩ := List.getElem_of_mem hmem
        have : i = j := by
          by_cases hij : i = j
          · exact hij
          · have hpw := List.pairwise_iff_getElem.1 hnd
            rcases Nat.lt_or_gt_of_ne hij with hl | hl
            · exact absurd (by rw [List.getElem_map, List.getElem_map, hqi, hmj]; exact e) (hpw i j (by simpa using hi) (by simpa using hj) hl)
            · exact absurd (by rw [List.getElem_map, List.getElem_map, hqi, hmj]; exact e.symm) (hpw j i (by simpa using hj) (by simpa using hi) hl)
        subst this
        rw [hqi] at hmj
        rw [hmj] at hqn
        exact hqn rfl
      have hr := h.row q hq
      exact ⟨(hk _ (Array.getElem?_eq_some_iff.1 hr.1).1 hqb).trans hr.1, hargs _ hr.2⟩
  · have : (updT T n r').map (·.2.1) = T.map (·.2.1) := by
      unfold updT
      rw [List.map_map]
      apply List.map_congr_left
      intro p _
      simp only [Function.comp]
      split <;> rfl
    rw [this]; exact h.nd
theorem reads_one (w : World) (a : Int) (T : TypeId) : ReadsK (fun x => [Value.int .u8 x]) 1 (w.alloc (.cells #[.int .u8 a] T)) (.slice (some ⟨w.heap.size, 0, none⟩) 1 1) [a] := by
  refine .inr ⟨w.heap.size, 0, 1, rfl, by simp, fun i hi t u hu => ?_⟩
  have : i = 0 := by simpa using hi
  subst this
  match t with
  | 0 => simp at hu; subst hu; simp
  | t + 1 => simp at hu
theorem reads_two (w : World) (a b : Int) (T : TypeId) : ReadsK (fun x => [Value.int .u8 x]) 1 (w.alloc (.cells #[.int .u8 a, .int .u8 b] T)) (.slice (some ⟨w.heap.size, 0, none⟩) 2 2) [a, b] := by
  refine .inr ⟨w.heap.size, 0, 2, rfl, by simp, fun i hi t u hu => ?_⟩
  have hi2 : i < 2 := by simpa using hi
  match t with
  | 0 =>
    match i, hi2 with
    | 0, _ => simp at hu; subst hu; simp
    | 1, _ => simp at hu; subst hu; simp
  | t + 1 => simp at hu
theorem args_reads {w : World} {r : Rw} (h : Args w r) : ReadsK encI 1 w (.slice r.aa r.args.length r.ac) r.args := own_readsK (enc := encI) (k := 1) (fun _ => rfl) (by decide) h
theorem ofV_cases (T : Tb) (n : Nm) (L : List Int) : ((ofV T n L).2 ≠ 0 ∧ (ofV T n L).1 = .pointer none) ∨ ∃ b r, getL T n = some (b, r) ∧ r.st ∈ L ∧ ofV T n L = (.pointer (some ⟨b, 0, none⟩), 0) := by
  unfold ofV
  cases hg : getL T n with
  | none => exact .inl ⟨by simp, rfl⟩
  | some br =>
    obtain ⟨b, r⟩ := br
    by_cases hs : r.st ∈ L
    · exact .inr ⟨b, r, rfl, hs, by simp [hs]⟩
    · exact .inl ⟨by simp [hs], by simp [hs]⟩
theorem row_set {w : World} {b : Nat} {n : Nm} {r : Rw} (h : w.heap[b]? = some (rowO n r)) (s : Int) : (w.setCell ⟨b, 6, none⟩ (.int .u8 s)).heap[b]? = some (rowO n { r with st := s }) := by
  unfold rowO at h ⊢; exact Go.heap_setCell_same w b 6 _ _ _ h
theorem fr_set (w : World) (b o : Nat) (v : Value) : Fr (fun i => i = b) w (w.setCell ⟨b, o, none⟩ v) := (Fr.refl (fun i => i = b) w).setCell (S := fun i => i = b) (p := ⟨b, o, none⟩) rfl v

def waitV (T : Tb) (n : Nm) : Bool × Int := match getL T n with
  | none => (false, 5)
  | some (_, r) => if r.st ∈ [(2 : Int)] then (if r.op = 0 then (false, 0) else (true, 0)) else (false, 3)
def waitT (T : Tb) (n : Nm) : Tb := match getL T n with
  | none => T
  | some (_, r) => if (waitV T n).1 then updT T n { r with st := 3 } else T
set_option maxHeartbeats 1600000 in
set_option maxRecDepth 100000 in
theorem wait_tab (f m : Nat) (most : Int) (T : Tb) (n : Nm) (w : World) (h : Tab w f m most T) :
    Calls Try.prog 17 #[.pointer (some ⟨f, 0, none⟩), .agg #[.int .u64 n.1, .string n.2]] w fun e w' => e = .returned (.tuple #[.bool (waitV T n).1, .int .i64 (waitV T n).2]) ∧ Tab w' f m most (waitT T n) ∧ Fr (fun i => ∃ p ∈ T, p.2.1 = i) w w' := by
  have hA : Below w.heap.size w ((w.alloc (.cells #[.int .u64 n.1, .string n.2] 35)).alloc (.cells #[.int .u8 2] 5)) := ((Below.refl _ _).alloc (Nat.le_refl _) _).alloc (by simp) _
  have h1 := h.below hA
  have HR := Lib.hid (reads_one (w.alloc (.cells #[.int .u64 n.1, .string n.2] 35)) 2 5)
  have HH := Lib.hid h1
  have HA := Lib.hid hA
  clear h h1 hA
  go_enter Try.func17, Try.ntmps17
  go_wp2_with fail
  refine (of_tab f m most T n [2] _ _ HH.out (by have := HR.out; simpa using this) (by decide)).mono ?_
  rintro e w2 ⟨rfl, hB⟩
  have HH2 := Lib.hid (HH.out.below hB)
  have HA2 := Lib.hid (gthen HA.out hB)
  clear HH HA HR hB
  rcases ofV_cases T n [2] with ⟨h1, h2⟩ | ⟨b, r, hg, hs, ho⟩
  · have hv : Hid (waitV T n = (false, (ofV T n [2]).2) ∧ waitT T n = T) := by
      have key : waitV T n = (false, (ofV T n [2]).2) := by
        unfold waitV ofV at *
        cases hg : getL T n with
        | none => rfl
        | some br =>
          obtain ⟨b, r⟩ := br
          rw [hg] at h1
          by_cases hs : r.st ∈ [(2 : Int)]
          · simp [hs] at h1
          · simp [hs]
      refine ⟨key, ?_⟩
      unfold waitT; rw [key]; cases getL T n <;> rfl
    generalize (ofV T n [2]).2 = c at *
    rw [h2]
    clear h2
    go_wp2_with fail
    go_ret2
    exact ⟨by rw [hv.out.1]; rfl, by rw [hv.out.2]; exact HH2.out, .of_below HA2.out⟩
  · rw [ho]
    have hrow := HH2.out.at hg
    have k7 : w2.cell? ⟨b, 7, none⟩ = some (.int .i64 r.op) := row_cells hrow.1 7
    have k6 : w2.cell? ⟨b, 6, none⟩ = some (.int .u8 r.st) := row_cells hrow.1 6
    have z6 : w2.frozen? ⟨b, 6, none⟩ = false := row_open hrow.1 6
    have HROW := Lib.hid hrow.1
    have HG := Lib.hid hg
    have HS := Lib.hid hs
    clear hrow hg hs ho
    by_cases h0 : r.op = 0
    · have hv : Hid (waitV T n = (false, 0) ∧ waitT T n = T) := by
        have key : waitV T n = (false, 0) := by unfold waitV; rw [HG.out]; simp only []; rw [if_pos HS.out, if_pos h0]
        refine ⟨key, ?_⟩
        unfold waitT; rw [key, HG.out]; rfl
      have hb0 : (r.op == 0) = true := by simp [h0]
      clear h0
      go_wp2_with fail
      go_ret2
      exact ⟨by rw [hv.out.1]; rfl, by rw [hv.out.2]; exact HH2.out, .of_below HA2.out⟩
    · have hv : Hid (waitV T n = (true, 0) ∧ waitT T n = updT T n { r with st := 3 }) := by
        have key : waitV T n = (true, 0) := by unfold waitV; rw [HG.out]; simp only []; rw [if_pos HS.out, if_neg h0]
        refine ⟨key, ?_⟩
        unfold waitT; rw [key, HG.out]; rfl
      have hb0 : (r.op == 0) = false := by simpa using h0
      clear h0
      have HT := Lib.hid (HH2.out.set (r' := { r with st := 3 }) HG.out (fr_set w2 b 6 (.int .u8 3)) (row_set HROW.out 3) ⟨rfl, rfl, rfl⟩)
      have HF : Hid (Fr (fun i => ∃ p ∈ T, p.2.1 = i) w (w2.setCell ⟨b, 6, none⟩ (.int .u8 3))) := (Fr.of_below HA2.out).trans ((fr_set w2 b 6 _).mono (fun i hi => ⟨_, getL_mem' HG.out, hi.symm⟩))
      go_wp2_with fail
      go_ret2
      exact ⟨by rw [hv.out.1]; rfl, by rw [hv.out.2]; exact HT.out, HF.out⟩
end Go.Proofs.Ythbkbmkcgpdedaa
