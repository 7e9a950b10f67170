/- Contract: ticks.Timers.All. -/
import Derived.Test.YteladooegjgdnaaAll1
import Derived.Test.YteladooegjgdnaaAll2
namespace Go.Proofs.Yteladooegjgdnaa
open Go.RowKit Go.Sort Go.Lib

set_option maxHeartbeats 1600000 in
set_option maxRecDepth 100000 in
theorem sortedFunc_any {Z B : Nat} {rv : Value} {l : List Tm} {w : World} (ho : w.ownsRow Z TmT 2 rv l.length (l.flatMap encT)) (hc : w.cell? ⟨B, 0, none⟩ = some rv) (hl : l.length ≤ 1000000) (hn : (l.map (·.k)).Nodup) :
    Calls Try.prog 33 #[.func (.func 43) #[] #[TP B], .func (.func 35) #[] #[]] w fun e w' =>
      ∃ v, e = .returned v ∧ w'.ownsRow w.heap.size TmT 2 v (keyL l).length ((keyL l).flatMap encT) ∧ Below w.heap.size w w' := by
  have HS := Lib.hid (values_seq ho hc hl)
  have HBS := Lib.hid (show ∀ b ∈ B :: rv.ownBlock.toList, b < w.heap.size from by
    intro b hb
    rcases List.mem_cons.1 hb with e | e
    · subst e; exact World.block_lt_of_cell? _ _ hc
    · rw [Option.mem_toList] at e; exact (ho.lt b e).2)
  have HN := Lib.hid (And.intro hl hn)
  clear ho hc hl hn
  go_enter Try.func33, Try.ntmps33
  go_wp2_with fail
  refine (collect_seq _ _ l w HS.out HBS.out HN.out.1).mono ?_
  rintro e w2 ⟨v, rfl, ho, hB⟩
  have HO := Lib.hid ho
  have HB := Lib.hid hB
  clear ho hB
  go_wp2_with fail
  refine (sortTms_own l w2 HN.out.2 HO.out HN.out.1 HB.out.size).mono ?_
  rintro e w3 ⟨rfl, ho, hB⟩
  have HO3 := Lib.hid ho
  have HB3 := Lib.hid (HB.out.trans hB)
  clear ho hB
  go_wp2_with fail
  go_ret
  exact ⟨v, rfl, HO3.out, HB3.out⟩
set_option maxHeartbeats 400000 in
theorem values_make (a : Option Addr) (n c : Nat) (w : World) : Calls Try.prog 34 #[.slice a n c] w fun e w' =>
    e = .returned (.func (.func 43) #[] #[TP w.heap.size]) ∧ w' = w.alloc (.cells #[.slice a n c] RowsT) := by
  have hmf : ∀ (fn : Fn) (first cap : Array Value) (w : World), (Instr.makeFunc fn first cap).run Try.prog w = .ok (.func fn first cap) w := fun _ _ _ _ => rfl
  go_enter Try.func34, Try.ntmps34
  go_wp2_with fail
  go_ret
  exact ⟨rfl, rfl⟩
set_option maxHeartbeats 1600000 in
set_option maxRecDepth 100000 in
theorem all_any {Z b : Nat} {rv : Value} {L : List Tm} {now : Int} {w : World} (h : Tms Z b rv L now w) :
    Calls Try.prog 22 #[TP b] w fun e w' => ∃ v, e = .returned v ∧ w'.ownsRow w.heap.size TmT 2 v (keyL L).length ((keyL L).flatMap encT) ∧ Below w.heap.size w w' := by
  obtain ⟨l, hq, ht, hll⟩ := h
  obtain ⟨x0, x1, x2⟩ := hq.cell
  obtain ⟨ra, rc, hrv⟩ := own_slice hq.own
  have hlen := ht.perm.length_eq
  have hn : (l.map (·.k)).Nodup := (ht.perm.map _).nodup_iff.2 ht.nod
  have HK := Lib.hid (keyL_congr ht.nod ht.perm)
  have hA : Below w.heap.size w (w.alloc (.cells #[rv] RowsT)) := alT w _
  have HO := Lib.hid (own_below hq.own hA)
  have HC := Lib.hid (show (w.alloc (.cells #[rv] RowsT)).cell? ⟨w.heap.size, 0, none⟩ = some rv by simp [go_sem])
  have HA := Lib.hid hA
  have HN := Lib.hid (And.intro hn (show l.length ≤ 1000000 by omega))
  clear hq ht hll hlen hn hA
  have HRV := Lib.hid hrv
  rw [hrv] at x0
  clear hrv
  go_enter Try.func22, Try.ntmps22
  go_wp2_with fail
  refine (values_make _ _ _ _).mono ?_
  rintro e w2 ⟨rfl, rfl⟩
  rw [← HRV.out]
  go_wp2_with fail
  refine (sortedFunc_any HO.out HC.out HN.out.2 HN.out.1).mono ?_
  rintro e w3 ⟨v, rfl, ho, hB⟩
  rw [HK.out] at ho
  have HO3 := Lib.hid (owns_monoG ho HA.out.size)
  have HB3 := Lib.hid (gthen HA.out hB)
  clear ho hB
  go_wp2_with fail
  go_ret
  exact ⟨v, rfl, HO3.out, HB3.out⟩
end Go.Proofs.Yteladooegjgdnaa
