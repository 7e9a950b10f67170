/- Contract: New, whatever rows. -/
import Derived.Test.YtbelafkklblidaaOpenK22
import Derived.Test.YtbelafkklblidaaSame22
import Derived.Test.YtbelafkklblidaaFenceLaw2
import Derived.BigQuiet
namespace Go.Proofs.Ytbelafkklblidaa
open Go.RowKit Go.Sort Go.Lib

def badG (last : Int) (g : Gr) : Bool := !mayS g.1.2 || (decide (g.2 < 1) || decide (last < g.2))

set_option maxHeartbeats 800000 in
set_option maxRecDepth 100000 in
theorem newCl (g : Gr) (jb : Nat) (last : Int) (w : World) (hj : w.cell? ⟨jb, 0, none⟩ = some (.int .u64 last)) (hs : g.1.2.size ≤ 9223372036854775807) :
    Calls Try.prog 25 #[.agg #[.int .u64 g.1.1, .string g.1.2, .int .u64 g.2], .pointer (some ⟨jb, 0, none⟩)] w fun e w' => e = .returned (.bool (badG last g)) ∧ Below w.heap.size w w' := by
  have hjl : jb < w.heap.size := World.block_lt_of_cell? w _ hj
  go_enter Try.func25, Try.ntmps25
  go_wp2_with fail
  refine (may_any g.1.2 _ hs).mono ?_
  rintro e w1 ⟨rfl, hB2⟩
  have c0 : w1.cell? ⟨jb, 0, none⟩ = some (.int .u64 last) := (hB2.cell (p := ⟨jb, 0, none⟩) (by simp; omega)).trans (by rw [World.cell?_alloc_past _ _ _ hjl]; exact hj)
  have n2 : w1.cell? ⟨w.heap.size, 2, none⟩ = some (.int .u64 g.2) := (hB2.cell (p := ⟨w.heap.size, 2, none⟩) (by simp)).trans (by simp)
  have hB := Lib.hid (((Below.refl w.heap.size w).alloc (Nat.le_refl _) (.cells #[.int .u64 g.1.1, .string g.1.2, .int .u64 g.2] 43)).trans (hB2.mono (by simp)))
  clear hB2 hj hjl
  cases hm : mayS g.1.2
  · have hb : badG last g = true := by simp [badG, hm]
    have HB := Lib.hid hb
    clear hb hm
    go_wp2_with fail
    go_ret
    exact ⟨ret_bool HB.out.symm, hB.out⟩
  · by_cases h1 : g.2 < 1
    · have hb : badG last g = true := by simp [badG, hm, h1]
      have HB := Lib.hid hb
      clear hb hm
      go_wp2_with fail
      go_ret
      exact ⟨ret_bool HB.out.symm, hB.out⟩
    · by_cases h2 : last < g.2
      · have hb : badG last g = true := by simp [badG, hm, h2]
        have HB := Lib.hid hb
        clear hb hm
        go_wp2_with fail
        go_ret
        exact ⟨ret_bool HB.out.symm, hB.out⟩
      · have hb : badG last g = false := by simp only [badG, hm, h1, h2]; rfl
        have HB := Lib.hid hb
        clear hb hm
        go_wp2_with fail
        go_ret
        exact ⟨ret_bool (by rw [HB.out]; simp; omega), hB.out⟩

def IdxP (last : Int) (rows : List Gr) (w : World) (e : Ending) (w' : World) : Prop := ∃ r : Int, e = .returned (.int .i64 r) ∧ decide (0 ≤ r) = rows.any (badG last) ∧ Below w.heap.size w w'

set_option maxHeartbeats 800000 in
set_option maxRecDepth 100000 in
theorem index_rows (v : Value) (rows : List Gr) (jb : Nat) (last : Int) (w : World) (hv : ReadsK encG 3 w v rows) (hj : w.cell? ⟨jb, 0, none⟩ = some (.int .u64 last)) (hs : ∀ g ∈ rows, g.1.2.size ≤ 9223372036854775807) (hl : rows.length ≤ 9223372036854775807) :
    Calls Try.prog 40 #[v, .func (.func 25) #[] #[.pointer (some ⟨jb, 0, none⟩)]] w (IdxP last rows w) := by
  obtain ⟨a, cap, rfl⟩ := hv.slice
  have HV := Lib.hid hv
  have HS := Lib.hid hs
  have HJ := Lib.hid hj
  clear hv hs hj
  go_enter Try.func40, Try.ntmps40
  go_wp2_with fail
  go_loopg [8] rows.length (fun gk i wr => ∃ k : Nat, gk + k = rows.length ∧ i = .int .i64 k ∧ Hid (∀ j, (hj : j < rows.length) → j < k → badG last rows[j] = false) ∧ Below w.heap.size w wr)
  case atStart => exact ⟨0, by omega, rfl, Lib.hid (fun j _ hj => absurd hj (by omega)), Below.refl _ _⟩
  case round =>
    obtain ⟨k, hk, rfl, hn, hB⟩ := hrel
    have HB := Lib.hid hB
    clear hB
    by_cases hlt : k < rows.length
    · obtain ⟨b, off, c, he, hb, hc⟩ := (HV.out.below HB.out).at (by omega)
      injection he with he1 he2 he3
      subst he1
      have hcc := hc k hlt
      have hsz := HS.out _ (List.getElem_mem hlt)
      have hnn := hn.out
      clear hc he2 he3
      have c0 : wr.cell? ⟨b, off + k * 3, none⟩ = some (.int .u64 rows[k].1.1) := hcc 0 _ rfl
      have c1 : wr.cell? ⟨b, off + k * 3 + 1, none⟩ = some (.string rows[k].1.2) := hcc 1 _ rfl
      have c2 : wr.cell? ⟨b, off + k * 3 + 2, none⟩ = some (.int .u64 rows[k].2) := hcc 2 _ rfl
      have hbk : ∀ b, badG last rows[k] = b → badG last rows[k] = b := fun _ h => h
      generalize hg : rows[k] = g at *
      clear hcc hb hn
      have hj2 : wr.cell? ⟨jb, 0, none⟩ = some (.int .u64 last) := (HB.out.cell (p := ⟨jb, 0, none⟩) (World.block_lt_of_cell? w _ HJ.out)).trans HJ.out
      go_wp2_with fail
      refine (newCl g jb last _ hj2 hsz).mono ?_
      rintro e w2 ⟨rfl, hB2⟩
      have HB2 := Lib.hid (HB.out.trans (hB2.mono HB.out.size))
      clear HB hB2 c0 c1 c2 hj2
      cases hbg : badG last g
      · go_wp2_with fail
        go_roundg (gk - 1)
        case rel => exact ⟨k + 1, by omega, by go_num, Lib.hid (fun j hj hjk => by
          by_cases e : j = k
          · subst e; rw [hg]; exact hbg
          · exact hnn j hj (by omega)), HB2.out⟩
        case measure => omega
      · go_wp2_with fail
        go_ret
        refine ⟨_, rfl, ?_, HB2.out⟩
        rw [show decide ((0 : Int) ≤ (k : Int)) = true by simp]
        exact (List.any_eq_true.2 ⟨rows[k], List.getElem_mem hlt, by rw [hg]; exact hbg⟩).symm
    · go_wp2_with fail
      go_ret
      refine ⟨_, rfl, ?_, HB.out⟩
      rw [show decide ((0 : Int) ≤ -1) = false by decide]
      refine (List.any_eq_false.2 fun x hx => ?_).symm
      obtain ⟨j, hj, rfl⟩ := List.getElem_of_mem hx
      simp [hn.out j hj (by omega)]

set_option maxHeartbeats 400000 in
theorem contains_rows (v : Value) (rows : List Gr) (jb : Nat) (last : Int) (w : World) (hv : ReadsK encG 3 w v rows) (hj : w.cell? ⟨jb, 0, none⟩ = some (.int .u64 last)) (hs : ∀ g ∈ rows, g.1.2.size ≤ 9223372036854775807) (hl : rows.length ≤ 9223372036854775807) :
    Calls Try.prog 27 #[v, .func (.func 25) #[] #[.pointer (some ⟨jb, 0, none⟩)]] w fun e w' => e = .returned (.bool (rows.any (badG last))) ∧ Below w.heap.size w w' := by
  go_enter Try.func27, Try.ntmps27
  go_wp2_with fail
  refine (index_rows v rows jb last _ hv hj hs hl).mono ?_
  rintro e w1 ⟨r, rfl, hr, hB⟩
  have HR := Lib.hid hr
  clear hr hv hj hs
  go_wp2_with fail
  go_ret
  exact ⟨ret_bool HR.out, hB⟩

def newE (last : Int) (rows : List Gr) : Int :=
  if maxE < last ∨ rows.any (badG last) = true then 2 else if ¬ (rows.map (·.1)).Nodup then 7 else if 1024 < rows.length then 6 else 0
def NewP (last : Int) (rows : List Gr) (w : World) (e : Ending) (w' : World) : Prop :=
  (newE last rows = 0 ∧ ∃ f m, e = .returned (.tuple #[.pointer (some ⟨f, 0, none⟩), .int .i64 0]) ∧ w.heap.size ≤ f ∧ w.heap.size ≤ m ∧ Fen w' f m rows last ∧ Below w.heap.size w w') ∨
  (newE last rows ≠ 0 ∧ e = .returned (.tuple #[.pointer none, .int .i64 (newE last rows)]) ∧ Below w.heap.size w w')
theorem NewP.yes {last : Int} {rows : List Gr} {w w' : World} {e : Ending} (h0 : newE last rows = 0) (h : NewP last rows w e w') :
    ∃ f m, e = .returned (.tuple #[.pointer (some ⟨f, 0, none⟩), .int .i64 0]) ∧ w.heap.size ≤ f ∧ w.heap.size ≤ m ∧ Fen w' f m rows last ∧ Below w.heap.size w w' := by
  rcases h with ⟨_, h⟩ | ⟨h, _⟩
  · exact h
  · exact absurd h0 h
theorem NewP.no {last : Int} {rows : List Gr} {w w' : World} {e : Ending} (x : Int) (h : newE last rows = x) (h0 : x ≠ 0) (he : e = .returned (.tuple #[.pointer none, .int .i64 x])) (hB : Below w.heap.size w w') : NewP last rows w e w' :=
  .inr ⟨by rw [h]; exact h0, by rw [h]; exact he, hB⟩
theorem take_next {last : Int} {rows : List Gr} {k : Nat} (hk : k < rows.length) (hb : rows.any (badG last) = false) (hz : ¬ 0 < valU (rows.take k) rows[k].1) (hn : ((rows.take k).map (·.1)).Nodup) :
    putL (rows.take k) rows[k].1 rows[k].2 = rows.take (k + 1) ∧ ((rows.take (k + 1)).map (·.1)).Nodup := by
  have hno : ∀ p ∈ rows.take k, ¬ p.1 = rows[k].1 := by
    intro p hp e
    have h1 : getL (rows.take k) rows[k].1 = some p.2 := (getL_mem hn _ _).2 (by rw [← e]; exact hp)
    unfold valU at hz; rw [h1] at hz
    have h2 := List.any_eq_false.1 hb p (List.mem_of_mem_take hp)
    simp only [Option.getD_some] at hz
    have h3 : p.2 < 1 := by omega
    simp [badG, h3] at h2
  have hany : (rows.take k).any (fun p => decide (p.1 = rows[k].1)) = false := List.any_eq_false.2 (fun p hp => by simpa using hno p hp)
  refine ⟨?_, ?_⟩
  · unfold putL; rw [hany, if_neg (by simp)]
    rw [List.take_succ_eq_append_getElem hk]
  · rw [List.take_succ_eq_append_getElem hk, List.map_append, List.nodup_append]
    refine ⟨hn, by simp, fun a ha b hb e => ?_⟩
    obtain ⟨p, hp, rfl⟩ := List.mem_map.1 ha
    simp at hb; subst hb
    exact hno p hp e
theorem take_twice {rows : List Gr} {k : Nat} (hk : k < rows.length) (hz : 0 < valU (rows.take k) rows[k].1) : ¬ (rows.map (·.1)).Nodup := by
  intro hn
  have h1 := valU_mem hz
  have h2 : rows = rows.take k ++ rows.drop k := (List.take_append_drop k rows).symm
  rw [h2, List.map_append, List.nodup_append] at hn
  have h3 : rows[k].1 ∈ (rows.drop k).map (·.1) := List.mem_map.2 ⟨rows[k], by rw [List.drop_eq_getElem_cons hk]; exact List.mem_cons_self, rfl⟩
  exact hn.2.2 rows[k].1 (List.mem_map.2 ⟨_, h1, rfl⟩) rows[k].1 h3 rfl
end Go.Proofs.Ytbelafkklblidaa
