/- Give. -/
import Derived.Test.YtenebamecmblaaaRnd5
namespace Go.Proofs.Ytenebamecmblaaa
open Go.RowKit Go.Sort Go.Lib

def updA (A : AB) (n : Int) (x : AO) : AB := A.map fun p => if p.1 = n then (n, x) else p
theorem absR_upd (L : Rd) (n : Int) (y : On) : absR (updR L n y) = updA (absR L) n (abO y) := by
  unfold absR updR updA
  rw [List.map_map, List.map_map]
  apply List.map_congr_left
  intro p _
  simp only [Function.comp]
  split <;> rfl
def giveE (A : AB) (n : Nm) : Int := if mayS n.2 then (match U.getL A n.1 with | none => 5 | some x => if (getL x.2 n).isSome then 7 else if 4096 < x.1.getD (x.1.length - 1) 0 + 1 then 6 else 0) else 2
def heldA (A : AB) (n : Int) : AO := (U.getL A n).getD ([], [])
def giveA (A : AB) (n : Nm) : AB := if giveE A n = 0 then updA A n.1 (keepL (heldA A n.1).1, (heldA A n.1).2 ++ [(n, giveL (heldA A n.1).1)]) else A
def giveVv (A : AB) (n : Nm) : List Int := if giveE A n = 0 then giveL (heldA A n.1).1 else []
theorem getL_mapC (l : List (Nm × Cr)) (n : Nm) : getL (l.map fun q => (q.1, q.2.l)) n = (getL l n).map (·.l) := by
  unfold getL
  rw [List.find?_map, Option.map_map, Option.map_map]
  rfl
theorem getL_mem' {V : Type} {l : List (Nm × V)} {n : Nm} {v : V} (h : getL l n = some v) : (n, v) ∈ l := by
  unfold getL at h
  rw [Option.map_eq_some_iff] at h
  obtain ⟨p, hp, rfl⟩ := h
  have h1 := List.mem_of_find?_eq_some hp
  have h2 := List.find?_some hp
  rw [← (of_decide_eq_true h2)]
  exact h1
theorem COwn.slice {w : World} {B : Nat} {v : Value} {l : List Int} (h : COwn w B v l) : ∃ a c, v = .slice a l.length c := h.reads.slice
theorem COwn.some {w : World} {B : Nat} {a : Option Addr} {n c : Nat} {l : List Int} (h : COwn w B (.slice a n c) l) (hn : n ≠ 0) : a ≠ none := by
  rintro rfl
  rcases h with ⟨_, ⟨e, _⟩ | ⟨g, cap, cur, e, _⟩⟩
  · injection e with e1 e2 e3
    exact hn e2
  · injection e with e1 e2 e3
    cases e1
def GiveR (r m : Nat) (L : Rd) (n : Nm) (w : World) (e : Ending) (w' : World) : Prop :=
  ∃ v, e = .returned (.tuple #[v, .int .i64 (giveE (absR L) n)]) ∧ COwn w' w.heap.size v (giveVv (absR L) n) ∧ Nxt r m L w (giveA (absR L) n) w'
theorem give_no {r m : Nat} {L : Rd} {n : Nm} {w w' : World} {c : Int} (h : Rds w r m L) (hB : Below w.heap.size w w') (he : giveE (absR L) n = c) (hc : c ≠ 0) : GiveR r m L n w (.returned (.tuple #[.slice none 0 0, .int .i64 c])) w' := by
  have hne : ¬ giveE (absR L) n = 0 := by rw [he]; exact hc
  refine ⟨_, by rw [he], ?_, ?_⟩
  · unfold giveVv; rw [if_neg hne]; exact COwn.nil _ _
  · unfold giveA; rw [if_neg hne]; exact ⟨L, rfl, h.below hB, .below m L hB⟩
def outV (x : On) (n : Nm) : Value := ((getL x.out n).map evC).getD (.slice none 0 0)
theorem zeroC (w : World) : (zeroValue 39).run Try.prog w = .ok (.slice none 0 0) w := by kernel_rfl
theorem OnOk.look {w y : World} {x : On} (h : OnOk w x) (hy : y.heap[x.o]? = w.heap[x.o]?) (n : Nm) :
    (Instr.lookup 33 (.map (some x.o)) (.agg #[.int .u64 n.1, .string n.2]) false).run Try.prog y = .ok (outV x n) y := by
  have := (h.map.block hy).lookup nameTy Try.underlying33 (zeroC y) n
  unfold encN at this
  exact this
theorem OnOk.c1 {w : World} {x : On} (h : OnOk w x) : w.cell? ⟨x.b, 1, none⟩ = some (.map (some x.o)) := by simp [World.cell?, h.box, onO, evC]
theorem OnOk.c0 {w : World} {x : On} (h : OnOk w x) : w.cell? ⟨x.b, 0, none⟩ = some (.slice x.held.a x.held.l.length x.held.c) := by simp [World.cell?, h.box, onO, evC]
theorem OnOk.z {w : World} {x : On} (h : OnOk w x) : w.frozen? ⟨x.b, 0, none⟩ = false := by simp [World.frozen?, h.box, onO]
/-- While a credit is given: the box and the map turn, nothing else. -/
structure GiveS (w5 : World) (x : On) (y : World) : Prop where
  fr : Fr (fun i => i = x.b ∨ i = x.o) w5 y
  box : ∃ v, y.heap[x.b]? = some (Obj.cells #[v, .map (some x.o)] 65 (0, 0))
  ne : x.b ≠ x.o
theorem GiveS.c1 {w5 y : World} {x : On} (h : GiveS w5 x y) : y.cell? ⟨x.b, 1, none⟩ = some (.map (some x.o)) := by
  obtain ⟨v, hb⟩ := h.box
  simp [World.cell?, hb]
theorem GiveS.z {w5 y : World} {x : On} (h : GiveS w5 x y) : y.frozen? ⟨x.b, 0, none⟩ = false := by
  obtain ⟨v, hb⟩ := h.box
  simp [World.frozen?, hb]
theorem GiveS.start {w5 : World} {x : On} (h : OnOk w5 x) : GiveS w5 x w5.drew := ⟨(Fr.refl _ _).drew, ⟨_, h.box⟩, h.box_map h⟩
theorem box_set {y : World} {b o : Nat} {u : Value} (h : y.heap[b]? = some (Obj.cells #[u, .map (some o)] 65 (0, 0))) (v : Value) : (y.setCell ⟨b, 0, none⟩ v).heap[b]? = some (Obj.cells #[v, .map (some o)] 65 (0, 0)) := by
  have hl := (Array.getElem?_eq_some_iff.1 h).1
  simp [World.setCell, h, Array.getElem?_modify]
theorem GiveS.store {w5 y : World} {x : On} (h : GiveS w5 x y) (v : Value) : GiveS w5 x (y.setCell ⟨x.b, 0, none⟩ v) := by
  obtain ⟨u, hb⟩ := h.box
  exact ⟨h.fr.setCell (.inl rfl) v, ⟨v, box_set hb v⟩, h.ne⟩
theorem GiveS.only {w5 y y' : World} {x : On} (h : GiveS w5 x y) (hO : OnlyAt y y' x.o) : GiveS w5 x y' := by
  obtain ⟨u, hb⟩ := h.box
  exact ⟨h.fr.only hO (.inr rfl), ⟨u, (hO.2.2.2.2.1 x.b h.ne).trans hb⟩, h.ne⟩
theorem GiveS.done {w5 wz : World} {r m : Nat} {L : Rd} {x : On} {n : Nm} {k g : Cr} (h : GiveS w5 x wz) (hx : OnOk w5 x) (hR : Rds w5 r m L) (hg : U.getL L n.1 = some x) (hk : CrOk w5 k) (hgc : CrOk w5 g) (hga : g.a ≠ none) (hn : getL x.out n = none)
    (hb : wz.heap[x.b]? = some (Obj.cells #[evC k, .map (some x.o)] 65 (0, 0))) (hm : MapL evC wz x.o (putL x.out n g)) :
    CrOk wz g ∧ Rds wz r m (updR L n.1 ⟨x.b, x.o, k, putL x.out n g⟩) ∧ Mv m L w5 (updR L n.1 ⟨x.b, x.o, k, putL x.out n g⟩) wz := by
  have hI : ∀ i, IntB w5 i → wz.heap[i]? = w5.heap[i]? := fun i hi => h.fr.block i hi.lt (fun e => hR.int_out hi (.inr ⟨_, (hR.at hg).1, e⟩))
  refine ⟨hgc.keep hI, hR.set hg (y := ⟨x.b, x.o, k, putL x.out n g⟩) rfl rfl h.fr ⟨hb, hm, hk.keep hI, fun p hp => ?_, fun p hp => ?_⟩⟩
  · change p ∈ putL x.out n g at hp
    rw [putL_newV hn] at hp
    rcases List.mem_append.1 hp with hp | hp
    · exact (hx.out p hp).keep hI
    · rw [List.mem_singleton] at hp; rw [hp]; exact hgc.keep hI
  · change p ∈ putL x.out n g at hp
    rw [putL_newV hn] at hp
    rcases List.mem_append.1 hp with hp | hp
    · exact hx.outn p hp
    · rw [List.mem_singleton] at hp; rw [hp]; exact hga
theorem give_yes {w w5 wz w8 : World} {r m : Nat} {L : Rd} {x : On} {n : Nm} {ka ua aa : Option Addr} {kc uc ac : Nat} (_h : Rds w r m L) (hg : U.getL L n.1 = some x) (hB : Below w.heap.size w w5) (he : giveE (absR L) n = 0)
    (hz : CrOk wz ⟨ua, uc, giveL x.held.l⟩ ∧ Rds wz r m (updR L n.1 ⟨x.b, x.o, ⟨ka, kc, keepL x.held.l⟩, putL x.out n ⟨ua, uc, giveL x.held.l⟩⟩) ∧ Mv m L w5 (updR L n.1 ⟨x.b, x.o, ⟨ka, kc, keepL x.held.l⟩, putL x.out n ⟨ua, uc, giveL x.held.l⟩⟩) wz)
    (ho : w8.ownsRow wz.heap.size 3 1 (.slice aa (giveL x.held.l).length ac) (giveL x.held.l).length ((giveL x.held.l).flatMap encC)) (hB8 : Below wz.heap.size wz w8) :
    GiveR r m L n w (.returned (.tuple #[.slice aa 1 ac, .int .i64 0])) w8 := by
  have hh : (heldA (absR L) n.1).1 = x.held.l := by unfold heldA; rw [getL_absR, hg]; rfl
  have hh2 : (heldA (absR L) n.1).2 = x.out.map fun q => (q.1, q.2.l) := by unfold heldA; rw [getL_absR, hg]; rfl
  have hnone : getL x.out n = none := by
    unfold giveE at he
    rw [getL_absR, hg] at he
    simp only [Option.map_some] at he
    cases hm : mayS n.2
    · rw [hm] at he; simp at he
    · rw [hm] at he
      simp only [if_true] at he
      cases ho : getL x.out n with
      | none => rfl
      | some c => rw [if_pos (by unfold abO; rw [getL_mapC, ho]; rfl)] at he; cases he
  refine ⟨_, by rw [he], ?_, _, ?_, hz.2.1.below hB8, ((Mv.below m L hB).trans hz.2.2).trans (.below m _ hB8)⟩
  · unfold giveVv; rw [if_pos he, hh]
    exact owns_low ho (Nat.le_trans hB.size hz.2.2.fr.size)
  · unfold giveA; rw [if_pos he, hh, hh2, absR_upd]
    unfold abO
    rw [putL_newV hnone, List.map_append]
    rfl
set_option maxHeartbeats 3200000 in
set_option maxRecDepth 100000 in
theorem give_rnd (r m : Nat) (L : Rd) (n : Nm) (w : World) (h : Rds w r m L) (hG : GoodA (absR L)) (hn : n.2.size ≤ 9223372036854775807) :
    Calls Try.prog 13 #[.pointer (some ⟨r, 0, none⟩), .agg #[.int .u64 n.1, .string n.2]] w (GiveR r m L n w) := by
  have hB := below_allocC w (.cells #[.int .u64 n.1, .string n.2] 35)
  have n1 : (w.alloc (.cells #[.int .u64 n.1, .string n.2] 35)).cell? ⟨w.heap.size, 0, none⟩ = some (.int .u64 n.1) := by simp
  have n2 : (w.alloc (.cells #[.int .u64 n.1, .string n.2] 35)).cell? ⟨w.heap.size, 1, none⟩ = some (.string n.2) := by simp
  have h0 := Lib.hid h
  have H := Lib.hid (h.below hB)
  have HB := Lib.hid hB
  have HG := Lib.hid hG
  clear h hG hB
  go_enter Try.func13, Try.ntmps13
  go_wp2_with fail
  generalize hwa : w.alloc (.cells #[.int .u64 n.1, .string n.2] 35) = wa at *
  clear hwa
  refine (of_rnd r m L n.1 _ H.out).mono ?_
  rintro e w2 ⟨rfl, hw2⟩
  subst hw2
  have c0 := H.out.c0
  have hmn := mapNilR w2 (some m)
  unfold ptrR
  cases hm : mayS n.2 with
  | false =>
    have he := Lib.hid (show giveE (absR L) n = 2 by unfold giveE; rw [hm]; rfl)
    go_wp2_with fail
    refine (may_any n.2 _ hn).mono ?_
    rintro e w3 ⟨rfl, hB3⟩
    have HB3 := Lib.hid (gthen HB.out hB3)
    clear hB3
    rw [hm]
    go_wp2_with fail
    go_ret2
    exact give_no h0.out HB3.out he.out (by decide)
  | true =>
    have HM := Lib.hid hm
    cases hg : U.getL L n.1 with
    | none =>
      simp only [Option.map_none]
      have he := Lib.hid (show giveE (absR L) n = 5 by unfold giveE; rw [hm, getL_absR, hg]; rfl)
      clear hg
      go_wp2_with fail
      refine (may_any n.2 _ hn).mono ?_
      rintro e w3 ⟨rfl, hB3⟩
      have HB3 := Lib.hid (gthen HB.out hB3)
      clear hB3
      rw [hm]
      go_wp2_with fail
      go_ret2
      exact give_no h0.out HB3.out he.out (by decide)
    | some x =>
      simp only [Option.map_some]
      have HX := Lib.hid hg
      clear hg
      go_wp2_with fail
      refine (may_any n.2 _ hn).mono ?_
      rintro e w3 ⟨rfl, hB3⟩
      rw [hm]
      have H3 := Lib.hid (H.out.below hB3)
      have HB3 := Lib.hid (gthen HB.out hB3)
      have m1 := cell_keep hB3 n1
      have m2 := cell_keep hB3 n2
      have hx := (H3.out.at HX.out).2
      have hlk := fun q => hx.look (y := w3.drewN q) rfl n
      have hgx := H3.out.good HG.out HX.out
      have HGX := Lib.hid hgx
      have b0 : w3.cell? ⟨x.b, 0, none⟩ = some (.slice x.held.a x.held.l.length x.held.c) := by simp [World.cell?, hx.box, onO, evC]
      have b1 : w3.cell? ⟨x.b, 1, none⟩ = some (.map (some x.o)) := by simp [World.cell?, hx.box, onO, evC]
      have HXX := Lib.hid hx
      clear hB3 hmn c0 n1 n2 hgx
      unfold outV at hlk
      cases ho : getL x.out n with
      | some cr =>
        rw [ho] at hlk
        have hne := hx.outn _ (getL_mem' ho)
        obtain ⟨ca, cc, cl⟩ := cr
        simp only [Option.map_some, Option.getD_some, evC] at hlk
        cases ca with
        | none => exact absurd rfl hne
        | some ca =>
          have he := Lib.hid (show giveE (absR L) n = 7 by
            unfold giveE; rw [hm, getL_absR, HX.out]; simp only [Option.map_some, if_true]; rw [if_pos]; unfold abO; rw [getL_mapC, ho]; rfl)
          clear hx hne ho
          go_wp2_with fail
          go_quiet (fail)
          go_wp2_with fail
          go_ret2
          exact give_no h0.out (below_drewN HB3.out _) he.out (by decide)
      | none =>
        rw [ho] at hlk
        simp only [Option.map_none, Option.getD_none] at hlk
        have HO := Lib.hid ho
        clear hx ho
        go_wp2_with fail
        go_quiet (fail)
        go_wp2_with fail
        have H4 := Lib.hid (H3.out.below (below_drewN (Below.refl _ _) nq))
        have HB4 := Lib.hid (below_drewN HB3.out nq)
        have HX4 := Lib.hid ((H4.out.at HX.out).2)
        have p1 : (w3.drewN nq).cell? ⟨w.heap.size, 0, none⟩ = some (.int .u64 n.1) := m1
        have p2 : (w3.drewN nq).cell? ⟨w.heap.size, 1, none⟩ = some (.string n.2) := m2
        generalize w3.drewN nq = w4 at *
        clear hlk m1 m2 b0 b1 HXX H3 HB3
        refine (half_any x.held.l _ _ HX4.out.held.readsC (owns_cap HX4.out.held) (Nat.le_trans HGX.out.len (by decide))).mono ?_
        rintro e w5 (⟨c, hc0, hc, hlast, rfl, hB5⟩ | ⟨_, _, hlast, v, u, rfl, hov, hou, _, hB5⟩)
        · have he := Lib.hid (show giveE (absR L) n = 6 by
            unfold giveE; rw [HM.out, getL_absR, HX.out]; simp only [Option.map_some, if_true]; rw [if_neg (by unfold abO; rw [getL_mapC, HO.out]; decide), if_pos]
            exact hlast HGX.out.heldMay HGX.out.ne)
          have hc6 : c = 6 := by rw [hc, show mayC x.held.l = true from HGX.out.heldMay, if_pos rfl, if_neg (show ¬ x.held.l = [] from HGX.out.ne)]
          subst hc6
          have HB5 := Lib.hid (gthen HB4.out hB5)
          clear hc hc0 hlast hB5
          go_wp2_with fail
          go_ret2
          exact give_no h0.out HB5.out he.out (by decide)
        · have he := Lib.hid (show giveE (absR L) n = 0 by
            unfold giveE; rw [HM.out, getL_absR, HX.out]; simp only [Option.map_some, if_true]; rw [if_neg (by unfold abO; rw [getL_mapC, HO.out]; decide), if_neg]
            exact hlast)
          obtain ⟨ka, kc, rfl⟩ := COwn.slice (l := keepL x.held.l) hov
          obtain ⟨ua, uc, rfl⟩ := COwn.slice (l := giveL x.held.l) hou
          have HK := Lib.hid (show CrOk w5 ⟨ka, kc, keepL x.held.l⟩ from owns_low hov (Nat.zero_le _))
          have HU := Lib.hid (show CrOk w5 ⟨ua, uc, giveL x.held.l⟩ from owns_low hou (Nat.zero_le _))
          have HUN := Lib.hid (show ua ≠ none from COwn.some hou (show (giveL x.held.l).length ≠ 0 from Nat.one_ne_zero))
          have H5 := Lib.hid (H4.out.below hB5)
          have HX5 := Lib.hid ((H5.out.at HX.out).2)
          have HB5 := Lib.hid (gthen HB4.out hB5)
          have q1 := cell_keep hB5 p1
          have q2 := cell_keep hB5 p2
          have hx0 := (h0.out.at HX.out).2.lt
          have hne1 : ¬ w.heap.size = x.b := by omega
          have hne2 : ¬ w.heap.size = x.o := by omega
          have hws : w.heap.size < w5.heap.size := World.block_lt_of_cell? _ _ q1
          clear hov hou hB5 hlast p1 p2 hx0
          rw [show (giveL x.held.l).length = 1 from rfl]
          generalize hkl : (keepL x.held.l).length = kl
          go_upto_region 13 with fail
          have HNE := Lib.hid (show x.o ≠ x.b from fun e => HX5.out.box_map HX5.out e.symm)
          have HNE2 := Lib.hid (show x.b ≠ x.o from HX5.out.box_map HX5.out)
          refine wp_region_held_drew (S := GiveS w5 x) (by kernel_rfl) (GiveS.start HX5.out) (fun hHeld => ?_)
          refine wpAnyH_take (i := 0) (oi := _) (v := ?_) (by rw [List.getElem?_toArray]; exact rfl) (by kernel_rfl) (by kernel_rfl) (by kernel_rfl) (by exact fun _ _ _ h => h) (Or.inl ⟨by rfl, ?_⟩) hHeld ?_
          rotate_left
          · (intro wX hSw; have z0 := (hSw.fr.cell (p := ⟨w.heap.size, 0, none⟩) hws (by simp only; omega)).trans q1; have z1 := (hSw.fr.cell (p := ⟨w.heap.size, 1, none⟩) hws (by simp only; omega)).trans q2; have z2 := hSw.c1; have z3 := hSw.z; clear hSw; go_simp; try with_reducible rfl)
          try simp only [Act.put, List.setIfInBounds_toArray, List.set_cons_zero, List.set_cons_succ]
          refine wpAnyH_take (i := 1) (oi := _) (v := ?_) (by rw [List.getElem?_toArray]; exact rfl) (by kernel_rfl) (by kernel_rfl) (by kernel_rfl) (by exact fun _ _ _ h => h) (Or.inl ⟨by rfl, ?_⟩) hHeld ?_
          rotate_left
          · (intro wX hSw; have z0 := (hSw.fr.cell (p := ⟨w.heap.size, 0, none⟩) hws (by simp only; omega)).trans q1; have z1 := (hSw.fr.cell (p := ⟨w.heap.size, 1, none⟩) hws (by simp only; omega)).trans q2; have z2 := hSw.c1; have z3 := hSw.z; clear hSw; go_simp; try with_reducible rfl)
          try simp only [Act.put, List.setIfInBounds_toArray, List.set_cons_zero, List.set_cons_succ]
          refine wpAnyH_take (i := 2) (oi := _) (v := ?_) (by rw [List.getElem?_toArray]; exact rfl) (by kernel_rfl) (by kernel_rfl) (by kernel_rfl) (by exact fun _ _ _ h => h) (Or.inl ⟨by rfl, ?_⟩) hHeld ?_
          rotate_left
          · (intro wX hSw; have z0 := (hSw.fr.cell (p := ⟨w.heap.size, 0, none⟩) hws (by simp only; omega)).trans q1; have z1 := (hSw.fr.cell (p := ⟨w.heap.size, 1, none⟩) hws (by simp only; omega)).trans q2; have z2 := hSw.c1; have z3 := hSw.z; clear hSw; go_simp; try with_reducible rfl)
          try simp only [Act.put, List.setIfInBounds_toArray, List.set_cons_zero, List.set_cons_succ]
          refine wpAnyH_take (i := 3) (oi := _) (v := ?_) (by rw [List.getElem?_toArray]; exact rfl) (by kernel_rfl) (by kernel_rfl) (by kernel_rfl) (by exact fun _ _ _ h => h) (Or.inl ⟨by rfl, ?_⟩) hHeld ?_
          rotate_left
          · (intro wX hSw; have z0 := (hSw.fr.cell (p := ⟨w.heap.size, 0, none⟩) hws (by simp only; omega)).trans q1; have z1 := (hSw.fr.cell (p := ⟨w.heap.size, 1, none⟩) hws (by simp only; omega)).trans q2; have z2 := hSw.c1; have z3 := hSw.z; clear hSw; go_simp; try with_reducible rfl)
          try simp only [Act.put, List.setIfInBounds_toArray, List.set_cons_zero, List.set_cons_succ]
          refine wpAnyH_take (i := 4) (oi := _) (v := ?_) (by rw [List.getElem?_toArray]; exact rfl) (by kernel_rfl) (by kernel_rfl) (by kernel_rfl) (by exact fun _ _ _ h => h) (Or.inl ⟨by rfl, ?_⟩) hHeld ?_
          rotate_left
          · (intro wX hSw; have z0 := (hSw.fr.cell (p := ⟨w.heap.size, 0, none⟩) hws (by simp only; omega)).trans q1; have z1 := (hSw.fr.cell (p := ⟨w.heap.size, 1, none⟩) hws (by simp only; omega)).trans q2; have z2 := hSw.c1; have z3 := hSw.z; clear hSw; go_simp; try with_reducible rfl)
          try simp only [Act.put, List.setIfInBounds_toArray, List.set_cons_zero, List.set_cons_succ]
          refine wpAnyH_take (i := 5) (oi := _) (v := ?_) (by rw [List.getElem?_toArray]; exact rfl) (by kernel_rfl) (by kernel_rfl) (by kernel_rfl) (by exact fun _ _ _ h => h) (Or.inl ⟨by rfl, ?_⟩) hHeld ?_
          rotate_left
          · (intro wX hSw; have z0 := (hSw.fr.cell (p := ⟨w.heap.size, 0, none⟩) hws (by simp only; omega)).trans q1; have z1 := (hSw.fr.cell (p := ⟨w.heap.size, 1, none⟩) hws (by simp only; omega)).trans q2; have z2 := hSw.c1; have z3 := hSw.z; clear hSw; go_simp; try with_reducible rfl)
          try simp only [Act.put, List.setIfInBounds_toArray, List.set_cons_zero, List.set_cons_succ]
          refine wpAnyH_take (i := 6) (oi := _) (v := ?_) (by rw [List.getElem?_toArray]; exact rfl) (by kernel_rfl) (by kernel_rfl) (by kernel_rfl) (by exact fun _ _ _ h => h) (Or.inl ⟨by rfl, ?_⟩) hHeld ?_
          rotate_left
          · (intro wX hSw; have z0 := (hSw.fr.cell (p := ⟨w.heap.size, 0, none⟩) hws (by simp only; omega)).trans q1; have z1 := (hSw.fr.cell (p := ⟨w.heap.size, 1, none⟩) hws (by simp only; omega)).trans q2; have z2 := hSw.c1; have z3 := hSw.z; clear hSw; go_simp; try with_reducible rfl)
          try simp only [Act.put, List.setIfInBounds_toArray, List.set_cons_zero, List.set_cons_succ]
          refine wpAnyH_take (i := 7) (oi := _) (v := ?_) (by rw [List.getElem?_toArray]; exact rfl) (by kernel_rfl) (by kernel_rfl) (by kernel_rfl) (by exact fun _ _ _ h => h) (Or.inl ⟨by rfl, ?_⟩) hHeld ?_
          rotate_left
          · (intro wX hSw; have z0 := (hSw.fr.cell (p := ⟨w.heap.size, 0, none⟩) hws (by simp only; omega)).trans q1; have z1 := (hSw.fr.cell (p := ⟨w.heap.size, 1, none⟩) hws (by simp only; omega)).trans q2; have z2 := hSw.c1; have z3 := hSw.z; clear hSw; go_simp; try with_reducible rfl)
          try simp only [Act.put, List.setIfInBounds_toArray, List.set_cons_zero, List.set_cons_succ]
          refine wpAnyH_take (i := 8) (oi := _) (v := ?_) (by rw [List.getElem?_toArray]; exact rfl) (by kernel_rfl) (by kernel_rfl) (by kernel_rfl) (by exact fun _ _ _ h => h) (Or.inl ⟨by rfl, ?_⟩) hHeld ?_
          rotate_left
          · (intro wX hSw; have z0 := (hSw.fr.cell (p := ⟨w.heap.size, 0, none⟩) hws (by simp only; omega)).trans q1; have z1 := (hSw.fr.cell (p := ⟨w.heap.size, 1, none⟩) hws (by simp only; omega)).trans q2; have z2 := hSw.c1; have z3 := hSw.z; clear hSw; go_simp; try with_reducible rfl)
          try simp only [Act.put, List.setIfInBounds_toArray, List.set_cons_zero, List.set_cons_succ]
          refine wpAnyH_take (i := 9) (oi := _) (v := ?_) (by rw [List.getElem?_toArray]; exact rfl) (by kernel_rfl) (by kernel_rfl) (by kernel_rfl) (by exact fun _ _ _ h => h) (Or.inl ⟨by rfl, ?_⟩) hHeld ?_
          rotate_left
          · (intro wX hSw; have z0 := (hSw.fr.cell (p := ⟨w.heap.size, 0, none⟩) hws (by simp only; omega)).trans q1; have z1 := (hSw.fr.cell (p := ⟨w.heap.size, 1, none⟩) hws (by simp only; omega)).trans q2; have z2 := hSw.c1; have z3 := hSw.z; clear hSw; go_simp; try with_reducible rfl)
          try simp only [Act.put, List.setIfInBounds_toArray, List.set_cons_zero, List.set_cons_succ]
          refine wpAnyH_ready (rs := [10]) (by kernel_rfl) (by simp) ?_
          refine AllReadyH.cons (o := _) (by rw [List.getElem?_toArray]; exact rfl) (fun K hK => ?_) ?_
          · have y0 := HX5.out.z; have y1 := HX5.out.c0
            go_simp
            refine hK.out _ _ (show GiveS w5 x (w5.setCell ⟨x.b, 0, none⟩ (.slice ka kl kc)).drew from hHeld.store _) (fun hHeld => ?_)
            clear hK K
            try simp only [Act.put, List.setIfInBounds_toArray, List.set_cons_zero, List.set_cons_succ]
            refine wpAnyH_ready (rs := [11]) (by kernel_rfl) (by simp) ?_
            refine AllReadyH.cons (o := _) (by rw [List.getElem?_toArray]; exact rfl) (fun K hK => ?_) ?_
            · have hME := HX5.out.map.block (w' := (w5.setCell ⟨x.b, 0, none⟩ (.slice ka kl kc)).drew) (Go.heap_setCell_other w5 ⟨x.b, 0, none⟩ _ _ HNE.out)
              obtain ⟨st, w6, hE, hOE, hT⟩ := hME.entry (P := Try.prog) nameTy Try.underlying33 (zeroC _) HO.out
              unfold encN at hE
              clear hME
              go_simp
              refine hK.out _ _ (hHeld.only hOE) (fun hHeld => ?_)
              clear hK K
              try simp only [Act.put, List.setIfInBounds_toArray, List.set_cons_zero, List.set_cons_succ]
              refine wpAnyH_take (i := 12) (oi := _) (v := ?_) (by rw [List.getElem?_toArray]; exact rfl) (by kernel_rfl) (by kernel_rfl) (by kernel_rfl) (by exact fun _ _ _ h => h) (Or.inl ⟨by rfl, ?_⟩) hHeld ?_
              rotate_left
              · (intro wX hSw; have z0 := (hSw.fr.cell (p := ⟨w.heap.size, 0, none⟩) hws (by simp only; omega)).trans q1; have z1 := (hSw.fr.cell (p := ⟨w.heap.size, 1, none⟩) hws (by simp only; omega)).trans q2; have z2 := hSw.c1; have z3 := hSw.z; clear hSw; go_simp; try with_reducible rfl)
              try simp only [Act.put, List.setIfInBounds_toArray, List.set_cons_zero, List.set_cons_succ]
              refine wpAnyH_ready (rs := [13]) (by kernel_rfl) (by simp) ?_
              refine AllReadyH.cons (o := _) (by rw [List.getElem?_toArray]; exact rfl) (fun K hK => ?_) ?_
              · obtain ⟨w7, hT2, hM7, hO7⟩ := hT w6 ⟨ua, uc, giveL x.held.l⟩ rfl
                have hT3 : (Instr.entryStore 33 (.map (some x.o)) (.int .i64 st) (.slice ua 1 uc)).run Try.prog w6 = .ok () w7 := hT2
                clear hT2 hT
                go_simp
                refine hK.out _ _ (hHeld.only hO7) (fun hHeld => ?_)
                clear hK K
                try simp only [Act.put, List.setIfInBounds_toArray, List.set_cons_zero, List.set_cons_succ]
                refine wpAnyH_done (by kernel_rfl) ?_ _
                have hz := GiveS.done (n := n) hHeld HX5.out H5.out HX.out HK.out HU.out HUN.out HO.out (by rw [show evC ⟨ka, kc, keepL x.held.l⟩ = (.slice ka kl kc) by unfold evC; rw [hkl]]; exact (hO7.2.2.2.2.1 x.b HNE2.out).trans ((hOE.2.2.2.2.1 x.b HNE2.out).trans (show (w5.setCell ⟨x.b, 0, none⟩ (.slice ka kl kc)).drew.heap[x.b]? = _ from box_set HX5.out.box _))) (hM7)
                have HZ := Lib.hid hz
                clear hz hHeld hM7 hO7 hOE hE hT3
                generalize w7 = wz at *
                go_wp2_with fail
                refine (cclone_any _ (giveL x.held.l) _ HZ.out.1.readsC (by exact (by decide : 1 ≤ 1000000))).mono ?_
                rintro e w8 ⟨aa, ac, rfl, ho8, hB8⟩
                have HO8 := Lib.hid ho8
                have HB8 := Lib.hid hB8
                clear ho8 hB8
                go_wp2_with fail
                go_ret2
                exact give_yes h0.out HX.out HB5.out he.out HZ.out HO8.out HB8.out
              exact AllReadyH.nil
            exact AllReadyH.nil
          exact AllReadyH.nil
end Go.Proofs.Ytenebamecmblaaa
