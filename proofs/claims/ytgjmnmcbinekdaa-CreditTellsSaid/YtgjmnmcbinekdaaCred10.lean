/- Credits: a copy. -/
import Derived.Test.YtgjmnmcbinekdaaCred9
namespace Go.Proofs.Ytgjmnmcbinekdaa
open Go.RowKit Go.Sort Go.Lib Go.Shelf

set_option maxHeartbeats 800000 in
set_option maxRecDepth 100000 in
theorem cclone_any (v : Value) (l : List Int) (w : World) (h : ReadsK encC 1 w v l) (hl : l.length ≤ 1000000) :
    Calls Try.prog 40 #[v] w fun e w' => ∃ aa ac, e = .returned (.slice aa l.length ac) ∧ w'.ownsRow w.heap.size 3 1 (.slice aa l.length ac) l.length (l.flatMap encC) ∧ Below w.heap.size w w' := by
  obtain ⟨ig, hig, hg0, hg1, hg2⟩ := info_parts info_int
  have q36 : ∀ (w : World) (a : Option Addr) (n c n' c' : Nat), (binOp .eql 23 (.slice a n c) (.slice none n' c')).run Try.prog w = .ok (.bool a.isNone) w := fun w a n c n' c' => Lib.run_eql_slice_nil w _ _ a n c n' c' Try.underlying23
  have main : ∀ (ad : Addr) (cap : Nat), v = .slice (some ad) l.length cap → (∀ j u, (l.flatMap encC)[j]? = some u → w.cell? (ad.add j) = some u) →
      Calls Try.prog 40 #[v] w fun e w' => ∃ aa ac, e = .returned (.slice aa l.length ac) ∧ w'.ownsRow w.heap.size 3 1 (.slice aa l.length ac) l.length (l.flatMap encC) ∧ Below w.heap.size w w' := by
    rintro ad cap rfl hc
    have HC := Lib.hid hc
    clear hc h
    go_enter Try.func40, Try.ntmps40
    go_wp2_with (at_builtin; refine wpList_append_own _ rfl _ _ 23 rfl w.heap.size 3 ig (.int .i64 0) 1 8 Try.underlying23 hig hg0 hg1 hg2 rfl (by decide) _ _ _ rfl (World.ownsRow_made w #[] 0 (Nat.le_refl _) (Nat.zero_le _) (by simp)) ad l.length cap (l.flatMap encC) rfl ?qc1 ?qc2 ?qc3 ?qc4 ?qc5 ?qc6 ?_)
    case qc1 => rw [flat_len (k := 1) (fun _ => rfl)]
    case qc2 => exact fun j u hj => Lib.cell?_alloc_some _ (HC.out j u hj)
    case qc3 =>
      intro u hu
      obtain ⟨x, _, hx⟩ := List.mem_flatMap.1 hu
      simp [encC] at hx
      rw [hx]; rfl
    case qc4 => unfold maxLen; omega
    case qc5 => omega
    case qc6 => simp
    intro v' w1 hown hgrow hnil
    have hB : Below w.heap.size w w1 := ((Below.refl _ w).alloc (Nat.le_refl _) _).grown hgrow (by simp) (by intro k hk; simp [Value.ownBlock] at hk; omega)
    have HO := Lib.hid hown
    have HB := Lib.hid hB
    obtain ⟨a, c, rfl⟩ := (own_readsK (enc := encC) (k := 1) (fun _ => rfl) (by decide) hown).slice
    clear hown hB hgrow hnil
    go_wp2_with fail
    go_ret
    exact ⟨a, c, rfl, HO.out, HB.out⟩
  rcases h with ⟨rfl, a, cap, rfl⟩ | ⟨b, off, cap, rfl, hb, hc⟩
  · cases a with
    | none =>
      clear main
      go_enter Try.func40, Try.ntmps40
      go_wp2_with fail
      go_ret
      exact ⟨none, 0, rfl, World.ownsRow_nil _ _ _ _, Below.refl _ _⟩
    | some ad => exact main ad cap rfl (by simp)
  · refine main ⟨b, off, none⟩ cap rfl fun j u hj => ?_
    have hjl : j < l.length := by have := (List.getElem?_eq_some_iff.1 hj).1; rwa [flat_len (k := 1) (fun _ => rfl), Nat.mul_one] at this
    have h2 := hc j hjl 0 (.int .i64 l[j]) rfl
    rw [Nat.mul_one, Nat.add_zero] at h2
    have h3 : (l.flatMap encC)[j]? = some (.int .i64 l[j]) := by
      have : l.flatMap encC = l.map (fun x => Value.int .i64 x) := by rw [List.map_eq_flatMap]; rfl
      rw [this, List.getElem?_map, List.getElem?_eq_getElem hjl]; rfl
    rw [h3] at hj
    injection hj with hj
    subst hj
    rw [Addr.add_lit]
    exact h2
end Go.Proofs.Ytgjmnmcbinekdaa
