/- Walk: CommitOnce, its first loop. -/
import Derived.Test.YtibfcoaiodmimaaHeavy24
import Derived.Test.YtibfcoaiodmimaaCLaw2
import Derived.Test.YtibfcoaiodmimaaEqE24
import Derived.Test.YtibfcoaiodmimaaQue24
import Derived.Test.YtibfcoaiodmimaaRef12a
import Derived.Deep.DeepCutAuto
import Derived.Deep.CutBlock
import Derived.Deep.RegionHeld3
import Derived.BigQuiet
namespace Go.Proofs.Ytibfcoaiodmimaa
open Go.RowKit Go.Sort Go.Lib

theorem want_leO {l : List (Nm × Ent)} (h : GL l) (hl : l.length ≤ 4096) (root : Nm) : (wantR root l).length ≤ 1000000 := by
  unfold wantR; split
  · exact want_len h hl _ _
  · simp
theorem gl_sizeO {l : List (Nm × Ent)} (h : GL l) : ∀ p ∈ l, p.1.2.size ≤ 9223372036854775807 := fun p hp => by
  have := (good_ent (h.good p hp)).2.2.1
  rw [h.key p hp] at this
  omega
/-- A ledger and a map of the call's own. -/
structure On (wb : World) (f m km : Nat) (la kl : List (Nm × Ent)) (w : World) : Prop where
  low : Below wb.heap.size wb w
  hf : wb.heap.size ≤ f
  hm : wb.heap.size ≤ m
  hk : wb.heap.size ≤ km
  led : Led w f m 4096 la
  kn : MapL evE w km kl
  ne : km ≠ f ∧ km ≠ m
section
variable {wb w w' : World} {f m km : Nat} {la kl : List (Nm × Ent)}
theorem On.below (h : On wb f m km la kl w) (hB : Below w.heap.size w w') : On wb f m km la kl w' :=
  ⟨h.low.trans (hB.mono h.low.size), h.hf, h.hm, h.hk, h.led.below hB, h.kn.block (hB.block _ h.kn.lt), h.ne⟩
theorem On.cmd (h : On wb f m km la kl w) {x : Ent} (hC : Cmd f m 4096 la x w w') : On wb f m km (cmL la 4096 x) kl w' :=
  ⟨h.low.trans (hC.2.below (fun i hi => by rcases hi with rfl | rfl; exact h.hf; exact h.hm) h.low.size), h.hf, h.hm, h.hk, hC.1,
    h.kn.block (hC.2.block _ h.kn.lt (by rintro (e | e); exact h.ne.1 e; exact h.ne.2 e)), h.ne⟩
theorem On.known (h : On wb f m km la kl w) {kl' : List (Nm × Ent)} (hM : MapL evE w' km kl') (hO : OnlyAt w w' km) : On wb f m km la kl' w' := by
  have hF : Fr (fun i => i = km) w w' := (Fr.refl _ _).only hO rfl
  exact ⟨h.low.trans (hF.below (fun i hi => by rw [hi]; exact h.hk) h.low.size), h.hf, h.hm, h.hk, h.led.fr hF (fun e => h.ne.1 e.symm) (fun e => h.ne.2 e.symm), hM, h.ne⟩
theorem On.set (h : On wb f m km la kl w) {p : Addr} (hb : wb.heap.size ≤ p.block) (h1 : ¬ InF f m p.block) (h2 : p.block ≠ km) (v : Value) : On wb f m km la kl (w.setCell p v) := by
  have hF : Fr (fun i => i = p.block) w (w.setCell p v) := (Fr.refl (fun i => i = p.block) w).setCell (S := fun i => i = p.block) rfl v
  exact ⟨h.low.trans (hF.below (fun i hi => by rw [hi]; exact hb) h.low.size), h.hf, h.hm, h.hk, h.led.fr hF (fun e => h1 (.inl e.symm)) (fun e => h1 (.inr e.symm)), h.kn.block (hF.block _ h.kn.lt (fun e => h2 e.symm)), h.ne⟩
theorem On.look (h : On wb f m km la kl w) (n : Nm) : (Instr.lookup 48 (.map (some km)) (.agg #[.int .u64 n.1, .string n.2]) true).run Try.prog w = .ok (.tuple #[evE (ofE kl n), .bool (getL kl n).isSome]) w := by
  have := h.kn.lookupOk nameTy Try.underlying48 (zeroE w) n
  rw [show ((getL kl n).map evE).getD (evE zE) = evE (ofE kl n) by unfold ofE; cases getL kl n <;> rfl] at this
  exact this
end
theorem cm_none {l : List (Nm × Ent)} {x : Ent} (hg : getL l x.1 = none) (hc : (cmA l 4096 x).1 = false) : ¬ (cmA l 4096 x).2 = 0 := by
  rcases cm_cases l 4096 x with ⟨_, e⟩ | ⟨_, old, e, _⟩ | ⟨_, _, _, e⟩ | ⟨_, _, _, e⟩
  · rw [e]; decide
  · rw [hg] at e; cases e
  · rw [e]; decide
  · rw [e] at hc; cases hc
theorem cm_some {l : List (Nm × Ent)} (h : GL l) {x old : Ent} (hg : getL l x.1 = some old) : (cmA l 4096 x).1 = false ∧ (old = x → (cmA l 4096 x).2 = 0) ∧ (old ≠ x → ¬ (cmA l 4096 x).2 = 0) := by
  rcases cm_cases l 4096 x with ⟨hb, e⟩ | ⟨_, old', e', e⟩ | ⟨_, e', _, _⟩ | ⟨_, e', _, _⟩
  · rw [e]
    refine ⟨rfl, fun h2 => ?_, fun _ => by decide⟩
    have := h.good _ (getL_memE hg)
    rw [h2, hb] at this; cases this
  · rw [hg] at e'; injection e' with e'; subst e'
    rw [e]
    exact ⟨rfl, fun h2 => by simp [h2], fun h2 => by simp [h2]⟩
  · rw [hg] at e'; cases e'
  · rw [hg] at e'; cases e'
theorem neq_self (a : Ent) (w : World) : (binOp .neq 38 (.agg #[.int .u64 a.1.1, .string a.1.2, .int .i64 a.2.1, .int .i64 a.2.2.1, .int .i64 a.2.2.2]) (.agg #[.int .u64 a.1.1, .string a.1.2, .int .i64 a.2.1, .int .i64 a.2.2.1, .int .i64 a.2.2.2])).run Try.prog w = .ok (.bool false) w := by
  rw [neqE]; simp
theorem step_cells {w : World} {p : Nat} {s : Stp} (h : w.heap[p]? = some (.cells #[.int .i64 s.1, .int .u64 s.2.1.1.1, .string s.2.1.1.2, .int .i64 s.2.1.2.1, .int .i64 s.2.1.2.2.1, .int .i64 s.2.1.2.2.2, .int .u64 s.2.2.1.1, .string s.2.2.1.2, .int .u64 s.2.2.2.1, .string s.2.2.2.2] 40 (0, 0))) :
    w.cell? ⟨p, 1, none⟩ = some (.int .u64 s.2.1.1.1) ∧ w.cell? ⟨p, 2, none⟩ = some (.string s.2.1.1.2) ∧ w.cell? ⟨p, 3, none⟩ = some (.int .i64 s.2.1.2.1) ∧ w.cell? ⟨p, 4, none⟩ = some (.int .i64 s.2.1.2.2.1) ∧ w.cell? ⟨p, 5, none⟩ = some (.int .i64 s.2.1.2.2.2) := by
  simp [World.cell?, h]
theorem ent_cells5 {w : World} {p : Nat} {a : Ent} {T : TypeId} (h : w.heap[p]? = some (.cells #[.int .u64 a.1.1, .string a.1.2, .int .i64 a.2.1, .int .i64 a.2.2.1, .int .i64 a.2.2.2] T (0, 0))) :
    w.cell? ⟨p, 0, none⟩ = some (.int .u64 a.1.1) ∧ w.cell? ⟨p, 1, none⟩ = some (.string a.1.2) ∧ w.cell? ⟨p, 2, none⟩ = some (.int .i64 a.2.1) ∧ w.cell? ⟨p, 3, none⟩ = some (.int .i64 a.2.2.1) ∧ w.cell? ⟨p, 4, none⟩ = some (.int .i64 a.2.2.2) := by
  simp [World.cell?, h]
/-- .. and a queue. -/
structure Oq (wb : World) (f m km B : Nat) (la kl : List (Nm × Ent)) (ql : List ByteArray) (q : Value) (w : World) : Prop where
  on : On wb f m km la kl w
  fB : f < B
  mB : m < B
  kB : km < B
  Bw : B ≤ w.heap.size
  que : Que B w q ql
theorem Oq.below {wb w w' : World} {f m km B : Nat} {la kl : List (Nm × Ent)} {ql : List ByteArray} {q : Value} (h : Oq wb f m km B la kl ql q w) (hB : Below w.heap.size w w') : Oq wb f m km B la kl ql q w' :=
  ⟨h.on.below hB, h.fB, h.mB, h.kB, Nat.le_trans h.Bw hB.size, h.que.below hB⟩
theorem Oq.more {wb w w' : World} {f m km B : Nat} {la kl : List (Nm × Ent)} {ql ql' : List ByteArray} {q q' : Value} (h : Oq wb f m km B la kl ql q w) (hF : Fr (fun i => some i = q.ownBlock) w w') (hq : Que B w' q' ql') : Oq wb f m km B la kl ql' q' w' := by
  have hb : ∀ i, i < B → ¬ some i = q.ownBlock := fun i hi e => by have := (h.que.lt i e.symm).1; omega
  have hwb : wb.heap.size ≤ B := by have := h.on.hf; have := h.fB; omega
  exact ⟨⟨h.on.low.trans (hF.below (fun i hi => by have := (h.que.lt i hi.symm).1; omega) h.on.low.size), h.on.hf, h.on.hm, h.on.hk, h.on.led.fr hF (hb _ h.fB) (hb _ h.mB), h.on.kn.block (hF.block _ h.on.kn.lt (hb _ h.kB)), h.on.ne⟩, h.fB, h.mB, h.kB, Nat.le_trans h.Bw hF.size, hq⟩
def entO (x : Ent) : Obj := .cells #[.int .u64 x.1.1, .string x.1.2, .int .i64 x.2.1, .int .i64 x.2.2.1, .int .i64 x.2.2.2] 38 (0, 0)
def stepO (s : Stp) : Obj := .cells #[.int .i64 s.1, .int .u64 s.2.1.1.1, .string s.2.1.1.2, .int .i64 s.2.1.2.1, .int .i64 s.2.1.2.2.1, .int .i64 s.2.1.2.2.2, .int .u64 s.2.2.1.1, .string s.2.2.1.2, .int .u64 s.2.2.2.1, .string s.2.2.2.2] 40 (0, 0)

set_option maxHeartbeats 8000000 in
set_option maxRecDepth 100000 in
theorem once_any (v u : Value) (l : List Stp) (root : Nm) (kids : List Int) (w0 : World) (hv : ReadsK encS 10 w0 v l) (hz : ∀ x ∈ l, x.2.1.1.2.size ≤ 9223372036854775807) (hl : (l.length : Int) ≤ 9223372036854775807) (hs : root.2.size ≤ 9223372036854775807) (hu : ReadsK enc8 1 w0 u kids) (hk8 : ∀ x ∈ kids, 0 ≤ x) (hkl : (kids.length : Int) ≤ 9223372036854775807) :
    Calls Try.prog 4 #[v, .agg #[.int .u64 root.1, .string root.2], u] w0 fun e w' => e = .returned (.bool true) ∧ Below w0.heap.size w0 w' := by
  obtain ⟨a, cap, rfl⟩ := hv.slice
  obtain ⟨ak, capk, rfl⟩ := hu.slice
  have hA : Below w0.heap.size w0 (w0.alloc (.cells #[.int .u64 root.1, .string root.2] 25)) := (Below.refl _ _).alloc (Nat.le_refl _) _
  have HV := Lib.hid (hv.below hA)
  have HU := Lib.hid (hu.below hA)
  have HZ := Lib.hid hz
  have n1 : (w0.alloc (.cells #[.int .u64 root.1, .string root.2] 25)).cell? ⟨w0.heap.size, 0, none⟩ = some (.int .u64 root.1) := by simp
  have n2 : (w0.alloc (.cells #[.int .u64 root.1, .string root.2] 25)).cell? ⟨w0.heap.size, 1, none⟩ = some (.string root.2) := by simp
  have HA := Lib.hid hA
  clear hv hz hA hu
  have HK8 := Lib.hid hk8
  clear hk8
  go_enter Try.func4, Try.ntmps4
  go_wp2_with fail
  refine (heavy_any _ l _ HV.out hl).mono ?_
  rintro e wb ⟨b, rfl, hB, hb⟩
  replace n1 := cell_keep hB n1
  replace n2 := cell_keep hB n2
  replace HV := Lib.hid (HV.out.below hB)
  replace HU := Lib.hid (HU.out.below hB)
  have HB := Lib.hid (gthen HA.out hB)
  clear hB HA
  cases b
  · have hl2 := hb rfl
    clear hb hl
    by_cases hk : (kids.length : Int) > 200
    · go_wp2_with fail
      refine (works_any _).mono ?_
      rintro e w1 ⟨rfl, hB⟩
      have HB1 := Lib.hid (gthen HB.out hB)
      clear hB HB
      go_wp2_with fail
      go_ret
      exact ⟨ret_boolE rfl, HB1.out⟩
    by_cases hr : (root.2.size : Int) > 100
    · go_wp2_with fail
      refine (works_any _).mono ?_
      rintro e w1 ⟨rfl, hB⟩
      have HB1 := Lib.hid (gthen HB.out hB)
      clear hB HB
      go_wp2_with fail
      go_ret
      exact ⟨ret_boolE rfl, HB1.out⟩
    · go_wp2_with fail
      refine (new_led 4096 _ (by decide) (by decide)).mono ?_
      rintro e w1 ⟨f, m, rfl, hf, hm, hF, hB1⟩
      have HW : Hid (On wb f m w1.heap.size [] [] (w1.alloc (.map #[] 0))) := by
        have hA1 : Below w1.heap.size w1 (w1.alloc (.map #[] 0)) := (Below.refl _ _).alloc (Nat.le_refl _) _
        have hlt := hF.lt
        exact ⟨gthen hB1 hA1, hf, hm, hB1.size, hF.below hA1, MapL.made _ _, by omega, by omega⟩
      have hmm := @Go.RowKit.run_makeMap Try.prog
      clear hf hm hF hB1
      go_wp2_with fail
      generalize hkm : w1.heap.size = km at HW
      go_loopg [10] l.length (fun gk i wr => ∃ (k : Nat) (la : List (Nm × Ent)), gk + k = l.length ∧ i = .int .i64 k ∧ On wb f m km la la wr ∧ GL la ∧ la.length ≤ 4096)
      case atStart => exact ⟨0, [], by omega, rfl, HW.out, GL.nil, by simp⟩
      case round =>
        clear HW
        obtain ⟨k, la, hlen, rfl, hE, hG, hla⟩ := hrel
        have HE := Lib.hid hE
        have HG := Lib.hid hG
        clear hE hG
        by_cases hlt : k < l.length
        · obtain ⟨b, off, c, he, hb, hc⟩ := (HV.out.below HE.out.low).at (by omega)
          injection he with he1 he2 he3
          subst he1
          have hx := Lib.hid (HZ.out _ (List.getElem_mem hlt))
          have hcc := hc k hlt
          clear hc he2 he3 hb
          generalize l[k] = s at hcc hx
          have c0 : wr.cell? ⟨b, off + k * 10, none⟩ = some (.int .i64 s.1) := hcc 0 _ rfl
          have c1 : wr.cell? ⟨b, off + k * 10 + 1, none⟩ = some (.int .u64 s.2.1.1.1) := hcc 1 _ rfl
          have c2 : wr.cell? ⟨b, off + k * 10 + 2, none⟩ = some (.string s.2.1.1.2) := hcc 2 _ rfl
          have c3 : wr.cell? ⟨b, off + k * 10 + 3, none⟩ = some (.int .i64 s.2.1.2.1) := hcc 3 _ rfl
          have c4 : wr.cell? ⟨b, off + k * 10 + 4, none⟩ = some (.int .i64 s.2.1.2.2.1) := hcc 4 _ rfl
          have c5 : wr.cell? ⟨b, off + k * 10 + 5, none⟩ = some (.int .i64 s.2.1.2.2.2) := hcc 5 _ rfl
          have c6 : wr.cell? ⟨b, off + k * 10 + 6, none⟩ = some (.int .u64 s.2.2.1.1) := hcc 6 _ rfl
          have c7 : wr.cell? ⟨b, off + k * 10 + 7, none⟩ = some (.string s.2.2.1.2) := hcc 7 _ rfl
          have c8 : wr.cell? ⟨b, off + k * 10 + 8, none⟩ = some (.int .u64 s.2.2.2.1) := hcc 8 _ rfl
          have c9 : wr.cell? ⟨b, off + k * 10 + 9, none⟩ = some (.string s.2.2.2.2) := hcc 9 _ rfl
          clear hcc
          obtain ⟨op, x, nn, mm⟩ := s
          dsimp only at c0 c1 c2 c3 c4 c5 c6 c7 c8 c9 hx
          by_cases h0 : op = 0
          · subst h0
            have HE1 := Lib.hid (HE.out.below ((Below.refl _ _).alloc (Nat.le_refl _) (stepO (0, x, nn, mm))))
            have hlk := HE1.out.look x.1
            unfold stepO evE at hlk
            cases hg : getL la x.1 with
            | none =>
              rw [show ofE la x.1 = zE by unfold ofE; rw [hg]; rfl, hg] at hlk
              unfold zE at hlk
              simp only [Option.isSome_none] at hlk
              have hA2 : Below (wr.alloc (stepO (0, x, nn, mm))).heap.size (wr.alloc (stepO (0, x, nn, mm))) ((wr.alloc (stepO (0, x, nn, mm))).alloc (.cells #[.int .u64 0, .string ⟨#[]⟩, .int .i64 0, .int .i64 0, .int .i64 0] 38)) := (Below.refl _ _).alloc (Nat.le_refl _) _
              have HE2 := Lib.hid (HE1.out.below hA2)
              have HS2 := Lib.hid ((hA2.block wr.heap.size (by simp)).trans (heap_alloc_new wr (stepO (0, x, nn, mm))))
              have hne : Hid (¬ InF f m wr.heap.size ∧ wr.heap.size ≠ km) := ⟨by have := HE.out.led.lt; rintro (e | e) <;> omega, by have := HE.out.kn.lt; omega⟩
              clear hA2 HE1 HE
              unfold stepO at HE2 HS2
              go_wp2_with fail
              refine (commit_led f m 4096 la x _ HE2.out.led hx.out (by omega)).mono ?_
              rintro e w3 ⟨rfl, hC⟩
              have HE3 := Lib.hid (HE2.out.cmd hC)
              have HS3 := Lib.hid ((hC.2.block wr.heap.size (Array.getElem?_eq_some_iff.1 HS2.out).1 hne.out.1).trans HS2.out)
              clear hlk hC HE2 HS2 c0 c1 c2 c3 c4 c5 c6 c7 c8 c9
              obtain ⟨d1, d2, d3, d4, d5⟩ := step_cells (s := (0, x, nn, mm)) HS3.out
              dsimp only at d1 d2 d3 d4 d5
              cases hc : (cmA la 4096 x).1
              · rw [cm_old hc] at HE3
                have hc2 := cm_none hg hc
                have HG2 := Lib.hid (show ofE la x.1 = zE by unfold ofE; rw [hg]; rfl)
                have HGG := Lib.hid hg
                clear hc hg
                go_wp2_with fail
                refine (of_led f m 4096 la x.1 w3 HE3.out.led).mono ?_
                rintro e w5 ⟨rfl, hB5⟩
                rw [HG2.out, HGG.out]
                have HE5 := Lib.hid (HE3.out.below hB5)
                have HE6 := Lib.hid (HE5.out.below ((Below.refl w5.heap.size w5).alloc (Nat.le_refl _) (.cells #[.int .u64 0, .string ⟨#[]⟩, .int .i64 0, .int .i64 0, .int .i64 0] 38)))
                clear hB5 HE3 HS3 d1 d2 d3 d4 d5 HE5
                unfold evE zE
                simp only [Option.isSome_none]
                go_wp2_with fail
                go_roundg (gk - 1)
                case rel => exact ⟨k + 1, la, by omega, by go_num, HE6.out, HG.out, hla⟩
                case measure => omega
              · obtain ⟨_, _, hlt4, hc0, hcl⟩ := cm_new hc
                have hput : putL la x.1 x = cmL la 4096 x := by rw [hcl]; exact putL_newV hg x
                obtain ⟨w4, hrun, hM, hO⟩ := HE3.out.kn.update (P := Try.prog) nameTy Try.underlying48 x.1 x
                unfold encN evE at hrun
                rw [hput] at hM
                have HE4 := Lib.hid (HE3.out.known hM hO)
                have HS4 := Lib.hid ((hO.2.2.2.2.1 wr.heap.size hne.out.2).trans HS3.out)
                have HGL := Lib.hid (show getL (cmL la 4096 x) x.1 = some x by rw [← hput, getL_putV, if_pos rfl])
                have HG2 := Lib.hid (HG.out.cm 4096 x)
                have hl4 : (cmL la 4096 x).length ≤ 4096 := by rw [hcl]; simp; omega
                have hc2 : (cmA la 4096 x).2 = 0 := by rw [hc0]
                clear hM hO hput hcl hc0 hlt4 hg
                rw [hc2]
                generalize cmL la 4096 x = lb at HE4 HGL HG2 hl4
                obtain ⟨g1, g2, g3, g4, g5⟩ := step_cells (s := (0, x, nn, mm)) HS4.out
                dsimp only at g1 g2 g3 g4 g5
                clear hc hc2
                go_wp2_with fail
                refine (of_led f m 4096 lb x.1 w4 HE4.out.led).mono ?_
                rintro e w5 ⟨rfl, hB5⟩
                rw [show ofE lb x.1 = x by unfold ofE; rw [HGL.out]; rfl, HGL.out]
                have HE5 := Lib.hid (HE4.out.below hB5)
                have HE6 := Lib.hid (HE5.out.below ((Below.refl w5.heap.size w5).alloc (Nat.le_refl _) (.cells #[.int .u64 x.1.1, .string x.1.2, .int .i64 x.2.1, .int .i64 x.2.2.1, .int .i64 x.2.2.2] 38)))
                clear hB5 HE3 HS3 d1 d2 d3 d4 d5 g1 g2 g3 g4 g5 HE5 HE4 HS4 hrun
                unfold evE
                simp only [Option.isSome_some]
                go_wp2_with fail
                go_roundg (gk - 1)
                case rel => exact ⟨k + 1, lb, by omega, by go_num, HE6.out, HG2.out, hl4⟩
                case measure => omega
            | some old =>
              rw [show ofE la x.1 = old by unfold ofE; rw [hg]; rfl, hg] at hlk
              simp only [Option.isSome_some] at hlk
              have hA2 : Below (wr.alloc (stepO (0, x, nn, mm))).heap.size (wr.alloc (stepO (0, x, nn, mm))) ((wr.alloc (stepO (0, x, nn, mm))).alloc (.cells #[.int .u64 old.1.1, .string old.1.2, .int .i64 old.2.1, .int .i64 old.2.2.1, .int .i64 old.2.2.2] 38)) := (Below.refl _ _).alloc (Nat.le_refl _) _
              have HE2 := Lib.hid (HE1.out.below hA2)
              have HS2 := Lib.hid ((hA2.block wr.heap.size (by simp)).trans (heap_alloc_new wr (stepO (0, x, nn, mm))))
              have hO2 := heap_alloc_new (wr.alloc (stepO (0, x, nn, mm))) (.cells #[.int .u64 old.1.1, .string old.1.2, .int .i64 old.2.1, .int .i64 old.2.2.1, .int .i64 old.2.2.2] 38)
              rw [show (wr.alloc (stepO (0, x, nn, mm))).heap.size = wr.heap.size + 1 by simp] at hO2
              have HO2 := Lib.hid hO2
              have hne : Hid (¬ InF f m wr.heap.size ∧ ¬ InF f m (wr.heap.size + 1)) := ⟨by have := HE.out.led.lt; rintro (e | e) <;> omega, by have := HE.out.led.lt; rintro (e | e) <;> omega⟩
              clear hA2 HE1 HE hO2
              unfold stepO at HE2 HS2 HO2
              go_wp2_with fail
              refine (commit_led f m 4096 la x _ HE2.out.led hx.out (by omega)).mono ?_
              rintro e w3 ⟨rfl, hC⟩
              obtain ⟨hc, hy, hn⟩ := cm_some HG.out hg
              have hE3 := HE2.out.cmd hC
              rw [cm_old hc] at hE3
              have HE3 := Lib.hid hE3
              have HS3 := Lib.hid ((hC.2.block wr.heap.size (Array.getElem?_eq_some_iff.1 HS2.out).1 hne.out.1).trans HS2.out)
              have HO3 := Lib.hid ((hC.2.block (wr.heap.size + 1) (Array.getElem?_eq_some_iff.1 HO2.out).1 hne.out.2).trans HO2.out)
              clear hlk hC HE2 HS2 HO2 c0 c1 c2 c3 c4 c5 c6 c7 c8 c9 hE3
              obtain ⟨d1, d2, d3, d4, d5⟩ := step_cells (s := (0, x, nn, mm)) HS3.out
              dsimp only at d1 d2 d3 d4 d5
              obtain ⟨o0, o1, o2, o3, o4⟩ := ent_cells5 HO3.out
              have heq := eqlE old x
              have HG2 := Lib.hid (show ofE la x.1 = old by unfold ofE; rw [hg]; rfl)
              have HGG := Lib.hid hg
              clear hg
              rw [hc]
              by_cases hox : old = x
              · rw [hy hox]
                rw [decide_eq_true hox] at heq
                clear hy hn hc
                have HOX := Lib.hid hox
                clear hox
                go_wp2_with fail
                refine (of_led f m 4096 la x.1 w3 HE3.out.led).mono ?_
                rintro e w5 ⟨rfl, hB5⟩
                rw [HG2.out, HGG.out]
                have HE5 := Lib.hid (HE3.out.below hB5)
                have HE6 := Lib.hid (HE5.out.below ((Below.refl w5.heap.size w5).alloc (Nat.le_refl _) (.cells #[.int .u64 old.1.1, .string old.1.2, .int .i64 old.2.1, .int .i64 old.2.2.1, .int .i64 old.2.2.2] 38)))
                replace o0 := cell_keep hB5 o0; replace o1 := cell_keep hB5 o1; replace o2 := cell_keep hB5 o2; replace o3 := cell_keep hB5 o3; replace o4 := cell_keep hB5 o4
                have hA9 : Below w5.heap.size w5 (w5.alloc (.cells #[.int .u64 old.1.1, .string old.1.2, .int .i64 old.2.1, .int .i64 old.2.2.1, .int .i64 old.2.2.2] 38)) := (Below.refl _ _).alloc (Nat.le_refl _) _
                replace o0 := cell_keep hA9 o0; replace o1 := cell_keep hA9 o1; replace o2 := cell_keep hA9 o2; replace o3 := cell_keep hA9 o3; replace o4 := cell_keep hA9 o4
                clear hA9 hB5 HE3 HS3 d1 d2 d3 d4 d5 HE5 heq
                have hns := neq_self old
                unfold evE
                simp only [Option.isSome_some]
                go_wp2_with fail
                go_roundg (gk - 1)
                case rel => exact ⟨k + 1, la, by omega, by go_num, HE6.out, HG.out, hla⟩
                case measure => omega
              · have hc2 := hn hox
                rw [decide_eq_false hox] at heq
                clear hy hn hc hox
                go_wp2_with fail
                refine (of_led f m 4096 la x.1 w3 HE3.out.led).mono ?_
                rintro e w5 ⟨rfl, hB5⟩
                rw [HG2.out, HGG.out]
                have HE5 := Lib.hid (HE3.out.below hB5)
                have HE6 := Lib.hid (HE5.out.below ((Below.refl w5.heap.size w5).alloc (Nat.le_refl _) (.cells #[.int .u64 old.1.1, .string old.1.2, .int .i64 old.2.1, .int .i64 old.2.2.1, .int .i64 old.2.2.2] 38)))
                replace o0 := cell_keep hB5 o0; replace o1 := cell_keep hB5 o1; replace o2 := cell_keep hB5 o2; replace o3 := cell_keep hB5 o3; replace o4 := cell_keep hB5 o4
                have hA9 : Below w5.heap.size w5 (w5.alloc (.cells #[.int .u64 old.1.1, .string old.1.2, .int .i64 old.2.1, .int .i64 old.2.2.1, .int .i64 old.2.2.2] 38)) := (Below.refl _ _).alloc (Nat.le_refl _) _
                replace o0 := cell_keep hA9 o0; replace o1 := cell_keep hA9 o1; replace o2 := cell_keep hA9 o2; replace o3 := cell_keep hA9 o3; replace o4 := cell_keep hA9 o4
                clear hA9 hB5 HE3 HS3 d1 d2 d3 d4 d5 HE5 heq
                have hns := neq_self old
                unfold evE
                simp only [Option.isSome_some]
                go_wp2_with fail
                go_roundg (gk - 1)
                case rel => exact ⟨k + 1, la, by omega, by go_num, HE6.out, HG.out, hla⟩
                case measure => omega
          · have HE1 := Lib.hid (HE.out.below ((Below.refl _ _).alloc (Nat.le_refl _) (stepO (op, x, nn, mm))))
            unfold stepO at HE1
            go_wp2_with fail
            go_roundg (gk - 1)
            case rel => exact ⟨k + 1, la, by omega, by go_num, HE1.out, HG.out, hla⟩
            case measure => omega
        · obtain rfl : k = l.length := by omega
          clear hlt hlen
          obtain ⟨wo, hwo⟩ : ∃ wo, wo = wr := ⟨_, rfl⟩
          subst hwo
          obtain ⟨gko, hgo⟩ : ∃ gko, gko = gk := ⟨_, rfl⟩
          subst hgo
          have p1 := cell_low HE.out.low (World.block_lt_of_cell? _ _ n1) n1
          have p2 := cell_low HE.out.low (World.block_lt_of_cell? _ _ n2) n2
          go_wp2_with fail
          refine (rmay_any root.2 _ hs).mono ?_
          rintro e w9 ⟨rfl, rfl⟩
          cases hm : mayS root.2
          · have hw := Lib.hid (show wholeR root la = false by unfold wholeR; rw [hm]; rfl)
            have hwr := Lib.hid (show wantR root la = [] by unfold wantR; rw [hm]; rfl)
            clear hm
            go_wp2_with fail
            refine (whole_led f m 4096 la root _ HE.out.led HG.out.good (want_len HG.out hla root.1 root.2) hs).mono ?_
            rintro e w2 ⟨rfl, hB⟩
            rw [hw.out]
            replace p1 := cell_keep hB p1
            replace p2 := cell_keep hB p2
            replace HE := Lib.hid (HE.out.below hB)
            clear hB
            go_wp2_with fail
            refine (wants_led f m 4096 la root _ HE.out.led HG.out.good (want_len HG.out hla root.1 root.2) hs).mono ?_
            rintro e w3 ⟨v, rfl, ho, hB⟩
            rw [hwr.out] at ho
            obtain ⟨a, c, rfl⟩ := (own_readsV ho).slice
            replace HE := Lib.hid (HE.out.below hB)
            clear ho hB p1 p2
            go_wp2_with fail
            refine (works_any _).mono ?_
            rintro e w4 ⟨rfl, hB⟩
            have HB4 := Lib.hid (gthen HB.out (gthen HE.out.low hB))
            clear hB
            go_wp2_with fail
            go_ret
            exact ⟨ret_boolE rfl, HB4.out⟩
          · have HM := Lib.hid hm
            clear hm
            go_upto_block 2 with fail
            go_cut [18] (fun _ wc => ∃ lb, On wb f m km lb la wc ∧ GL lb ∧ lb.length ≤ 4096)
            case first =>
              go_wp2_with fail
              go_loopg [18] 3000 (fun gk i wr => ∃ lb, i = .int .i64 (3000 - (gk : Int)) ∧ gk ≤ 3000 ∧ On wb f m km lb la wr ∧ GL lb ∧ lb.length ≤ 4096)
              case atStart => exact ⟨la, by simp, Nat.le_refl _, HE.out, HG.out, hla⟩
              case round =>
                clear HE HG hla p1 p2
                obtain ⟨lb, rfl, hgk, hE, hG, hla⟩ := hrel
                have HE := Lib.hid hE
                have HG := Lib.hid hG
                clear hE hG
                have p1 := cell_low HE.out.low (World.block_lt_of_cell? _ _ n1) n1
                have p2 := cell_low HE.out.low (World.block_lt_of_cell? _ _ n2) n2
                by_cases hg0 : gk = 0
                · subst hg0
                  clear p1 p2
                  go_wp2_with fail
                  go_meet
                  exact ⟨lb, HE.out, HG.out, hla⟩
                · obtain ⟨ki, hki⟩ : ∃ ki : Nat, 3000 - (gk : Int) = ki := ⟨3000 - gk, by omega⟩
                  rw [hki]
                  have hi : (ki : Int) < 3000 := by omega
                  go_wp2_with fail
                  refine (wants_led f m 4096 lb root _ HE.out.led HG.out.good (want_len HG.out hla root.1 root.2) hs).mono ?_
                  rintro e w3 ⟨v, rfl, ho, hB⟩
                  have HX := Lib.hid (own_readsV ho)
                  obtain ⟨a, c, rfl⟩ := (own_readsV ho).slice
                  replace p1 := cell_keep hB p1
                  replace p2 := cell_keep hB p2
                  replace HE := Lib.hid (HE.out.below hB)
                  clear ho hB
                  have HWL : Hid (wantR root lb = wantP lb root.1 13 root.2 ∧ wholeR root lb = (wantR root lb).isEmpty) := ⟨by unfold wantR; rw [HM.out]; rfl, by unfold wholeR; rw [HM.out]; rfl⟩
                  have hwlen := want_leO HG.out hla root
                  go_wp2_with fail
                  refine (whole_led f m 4096 lb root _ HE.out.led HG.out.good (want_len HG.out hla root.1 root.2) hs).mono ?_
                  rintro e w4 ⟨rfl, hB⟩
                  rw [HWL.out.2]
                  replace p1 := cell_keep hB p1
                  replace p2 := cell_keep hB p2
                  replace HE := Lib.hid (HE.out.below hB)
                  replace HX := Lib.hid (HX.out.below hB)
                  clear hB
                  have HWM := Lib.hid HWL.out.1
                  clear HWL
                  generalize wantR root lb = WL at *
                  cases WL with
                  | nil =>
                    clear p1 p2 HX
                    go_wp2_with fail
                    go_meet
                    exact ⟨lb, HE.out, HG.out, hla⟩
                  | cons q qs =>
                    have hne : ((qs.length : Int) + 1 = 0) = False := by simp; omega
                    obtain ⟨bx, ox, cx, hex, hbx, hcx⟩ := HX.out.at (by simp)
                    injection hex with hex1 hex2 hex3
                    subst hex1
                    have hq0 : w4.cell? ⟨bx, ox, none⟩ = some (.string q) := by have h := hcx 0 (by simp) 0 _ rfl; exact h
                    clear hcx hex2 hex3 HX
                    go_upto_region 30 with fail
                    have hl0 : w0.heap.size < w4.heap.size := World.block_lt_of_cell? _ _ p1
                    have hl1 : bx < w4.heap.size := hbx
                    have HE4 := Lib.hid HE.out
                    refine wp_region_held_drew (S := fun y => Below w4.heap.size w4 y) (by kernel_rfl) ((Below.refl _ _).drew) (fun hHeld => ?_)
                    refine wpAnyH_take (i := 0) (oi := _) (v := ?_) (by rw [List.getElem?_toArray]; exact rfl) (by kernel_rfl) (by kernel_rfl) (by kernel_rfl) (by exact fun _ _ _ h => h) (Or.inl ⟨by rfl, ?_⟩) hHeld ?_
                    rotate_left
                    · (intro w hSw; have q1 := cell_low hSw hl0 p1; have q3 := cell_low hSw hl1 hq0; clear hSw; go_simp; try with_reducible rfl)
                    try simp only [Act.put, List.setIfInBounds_toArray, List.set_cons_zero, List.set_cons_succ]
                    refine wpAnyH_take (i := 1) (oi := _) (v := ?_) (by rw [List.getElem?_toArray]; exact rfl) (by kernel_rfl) (by kernel_rfl) (by kernel_rfl) (by exact fun _ _ _ h => h) (Or.inl ⟨by rfl, ?_⟩) hHeld ?_
                    rotate_left
                    · (intro w hSw; have q1 := cell_low hSw hl0 p1; have q3 := cell_low hSw hl1 hq0; clear hSw; go_simp; try with_reducible rfl)
                    try simp only [Act.put, List.setIfInBounds_toArray, List.set_cons_zero, List.set_cons_succ]
                    refine wpAnyH_take (i := 2) (oi := _) (v := ?_) (by rw [List.getElem?_toArray]; exact rfl) (by kernel_rfl) (by kernel_rfl) (by kernel_rfl) (by exact fun _ _ _ h => h) (Or.inl ⟨by rfl, ?_⟩) hHeld ?_
                    rotate_left
                    · (intro w hSw; have q1 := cell_low hSw hl0 p1; have q3 := cell_low hSw hl1 hq0; clear hSw; go_simp; try with_reducible rfl)
                    try simp only [Act.put, List.setIfInBounds_toArray, List.set_cons_zero, List.set_cons_succ]
                    refine wpAnyH_take (i := 3) (oi := _) (v := ?_) (by rw [List.getElem?_toArray]; exact rfl) (by kernel_rfl) (by kernel_rfl) (by kernel_rfl) (by exact fun _ _ _ h => h) (Or.inl ⟨by rfl, ?_⟩) hHeld ?_
                    rotate_left
                    · (intro w hSw; have q1 := cell_low hSw hl0 p1; have q3 := cell_low hSw hl1 hq0; clear hSw; go_simp; try with_reducible rfl)
                    try simp only [Act.put, List.setIfInBounds_toArray, List.set_cons_zero, List.set_cons_succ]
                    refine wpAnyH_take (i := 4) (oi := _) (v := ?_) (by rw [List.getElem?_toArray]; exact rfl) (by kernel_rfl) (by kernel_rfl) (by kernel_rfl) (by exact fun _ _ _ h => h) (Or.inl ⟨by rfl, ?_⟩) hHeld ?_
                    rotate_left
                    · (intro w hSw; have q1 := cell_low hSw hl0 p1; have q3 := cell_low hSw hl1 hq0; clear hSw; go_simp; try with_reducible rfl)
                    try simp only [Act.put, List.setIfInBounds_toArray, List.set_cons_zero, List.set_cons_succ]
                    refine wpAnyH_take (i := 5) (oi := _) (v := ?_) (by rw [List.getElem?_toArray]; exact rfl) (by kernel_rfl) (by kernel_rfl) (by kernel_rfl) (by exact fun _ _ _ h => h) (Or.inl ⟨by rfl, ?_⟩) hHeld ?_
                    rotate_left
                    · (intro w hSw; have q1 := cell_low hSw hl0 p1; have q3 := cell_low hSw hl1 hq0; clear hSw; go_simp; try with_reducible rfl)
                    try simp only [Act.put, List.setIfInBounds_toArray, List.set_cons_zero, List.set_cons_succ]
                    refine wpAnyH_take (i := 6) (oi := _) (v := ?_) (by rw [List.getElem?_toArray]; exact rfl) (by kernel_rfl) (by kernel_rfl) (by kernel_rfl) (by exact fun _ _ _ h => h) (Or.inl ⟨by rfl, ?_⟩) hHeld ?_
                    rotate_left
                    · (intro w hSw; have q1 := cell_low hSw hl0 p1; have q3 := cell_low hSw hl1 hq0; clear hSw; go_simp; try with_reducible rfl)
                    try simp only [Act.put, List.setIfInBounds_toArray, List.set_cons_zero, List.set_cons_succ]
                    refine wpAnyH_ready (rs := [7]) (by kernel_rfl) (by simp) ?_
                    refine AllReadyH.cons (o := _) (by rw [List.getElem?_toArray]; exact rfl) (fun K hK => ?_) ?_
                    · go_simp
                      refine hK.out _ _ (((Below.refl _ _).alloc (Nat.le_refl _) _).drew) (fun hHeld => ?_)
                      clear hK K
                      try simp only [Act.put, List.setIfInBounds_toArray, List.set_cons_zero, List.set_cons_succ]
                      refine wpAnyH_ready (rs := [8]) (by kernel_rfl) (by simp) ?_
                      refine AllReadyH.cons (o := _) (by rw [List.getElem?_toArray]; exact rfl) (fun K hK => ?_) ?_
                      · go_simp
                        refine hK.out _ _ (((Below.refl _ _).alloc (Nat.le_refl _) _).drew) (fun hHeld => ?_)
                        clear hK K
                        try simp only [Act.put, List.setIfInBounds_toArray, List.set_cons_zero, List.set_cons_succ]
                        refine wpAnyH_done (by kernel_rfl) ?_ _
                        have hx1 : ((w4.alloc (.cells #[.int .u64 root.1, .string q, .int .i64 0, .int .i64 0, .int .i64 0] 38)).drew).heap[w4.heap.size]? = some (.cells #[.int .u64 root.1, .string q, .int .i64 0, .int .i64 0, .int .i64 0] 38 (0, 0)) := heap_alloc_new w4 _
                        replace HE := Lib.hid (HE.out.below hHeld)
                        replace p1 := cell_keep hHeld p1
                        replace p2 := cell_keep hHeld p2
                        replace hq0 := cell_keep hHeld hq0
                        have hpf : Hid (¬ InF f m w4.heap.size ∧ w4.heap.size ≠ km ∧ wb.heap.size ≤ w4.heap.size) := ⟨by have := HE4.out.led.lt; rintro (e | e) <;> omega, by have := HE4.out.kn.lt; omega, HE4.out.low.size⟩
                        clear hHeld hl0 hl1 HE4
                        generalize (w4.alloc (.cells #[.int .u64 root.1, .string q, .int .i64 0, .int .i64 0, .int .i64 0] 38)).drew = wz at *
                        have hqin : q ∈ wantP lb root.1 13 root.2 := by rw [← HWM.out]; simp
                        have hqm := (want_mem HG.out 13 root.2 (by omega) HM.out q hqin).1
                        have HQI := Lib.hid hqin
                        by_cases hkl2 : ki < kids.length
                        · by_cases hq4 : q.size < 4
                          · obtain ⟨bk, okk, ck, hek, hbk, hck⟩ := (HU.out.below HE.out.low).at (by omega)
                            injection hek with hek1 hek2 hek3
                            subst hek1
                            have hkc : wz.cell? ⟨bk, okk + ki, none⟩ = some (.int .u8 kids[ki]) := by have h := hck ki hkl2 0 _ rfl; rw [Nat.mul_one, Nat.add_zero] at h; exact h
                            have hk0 := HK8.out _ (List.getElem_mem hkl2)
                            generalize kids[ki] = kd at hkc hk0
                            clear hck hek2 hek3 hbk
                            have hxc : wz.cell? ⟨w4.heap.size, 2, none⟩ = some (.int .i64 0) := by simp [World.cell?, hx1]
                            have hxf : wz.frozen? ⟨w4.heap.size, 2, none⟩ = false := by simp [World.frozen?, hx1]
                            obtain ⟨e0, e1, e2, e3, e4⟩ := ent_cells5 (a := ((root.1, q), 0, 0, 0)) hx1
                            dsimp only at e0 e1 e2 e3 e4
                            go_wp2_with fail
                            replace HE := Lib.hid (HE.out.set (p := ⟨w4.heap.size, 2, none⟩) hpf.out.2.2 hpf.out.1 hpf.out.2.1 (.int .i64 (kd % 4)))
                            refine (commit_led f m 4096 lb ((root.1, q), kd % 4, 0, 0) _ HE.out.led (by have := mayS_le hqm; show q.size ≤ _; omega) (by omega)).mono ?_
                            rintro e w6 ⟨rfl, hC⟩
                            have HE6 := Lib.hid (HE.out.cmd hC)
                            have HG6 := Lib.hid (HG.out.cm 4096 ((root.1, q), kd % 4, 0, 0))
                            have hl6 : ((cmL lb 4096 ((root.1, q), kd % 4, 0, 0)).length : Int) ≤ 4096 := cm_len (by omega)
                            clear hC e0 e1 e2 e3 e4 p1 p2 hq0 hx1 hkc hxc hxf
                            rcases next_cases HG.out HM.out hqin (k := kd % 4) (by omega) (by omega) (fun _ => hq4) with ⟨_, hcm⟩ | ⟨_, hcm⟩
                            · rw [hcm]
                              clear hcm
                              go_wp2_with fail
                              refine (works_any _).mono ?_
                              rintro e w7 ⟨rfl, hB⟩
                              have HB7 := Lib.hid (gthen HB.out (gthen HE6.out.low hB))
                              clear hB HE6 HG6 HE HG
                              go_wp2_with fail
                              go_ret
                              exact ⟨ret_boolE rfl, HB7.out⟩
                            · rw [hcm]
                              clear hcm
                              generalize cmL lb 4096 ((root.1, q), kd % 4, 0, 0) = lc at HE6 HG6 hl6
                              go_wp2_with fail
                              go_roundg (gk - 1)
                              case rel => exact ⟨lc, by rw [show (3000 : Int) - ((gk - 1 : Nat) : Int) = (ki : Int) + 1 by omega], by omega, HE6.out, HG6.out, by omega⟩
                              case measure => omega
                          · obtain ⟨e0, e1, e2, e3, e4⟩ := ent_cells5 (a := ((root.1, q), 0, 0, 0)) hx1
                            dsimp only at e0 e1 e2 e3 e4
                            go_wp2_with fail
                            refine (commit_led f m 4096 lb ((root.1, q), 0, 0, 0) _ HE.out.led (by have := mayS_le hqm; show q.size ≤ _; omega) (by omega)).mono ?_
                            rintro e w6 ⟨rfl, hC⟩
                            have HE6 := Lib.hid (HE.out.cmd hC)
                            have HG6 := Lib.hid (HG.out.cm 4096 ((root.1, q), 0, 0, 0))
                            have hl6 : ((cmL lb 4096 ((root.1, q), 0, 0, 0)).length : Int) ≤ 4096 := cm_len (by omega)
                            clear hC e0 e1 e2 e3 e4 p1 p2 hq0 hx1
                            rcases next_cases HG.out HM.out hqin (k := 0) (by decide) (by decide) (fun h => absurd h (by decide)) with ⟨_, hcm⟩ | ⟨_, hcm⟩
                            · rw [hcm]
                              clear hcm
                              go_wp2_with fail
                              refine (works_any _).mono ?_
                              rintro e w7 ⟨rfl, hB⟩
                              have HB7 := Lib.hid (gthen HB.out (gthen HE6.out.low hB))
                              clear hB HE6 HG6 HE HG
                              go_wp2_with fail
                              go_ret
                              exact ⟨ret_boolE rfl, HB7.out⟩
                            · rw [hcm]
                              clear hcm
                              generalize cmL lb 4096 ((root.1, q), 0, 0, 0) = lc at HE6 HG6 hl6
                              go_wp2_with fail
                              go_roundg (gk - 1)
                              case rel => exact ⟨lc, by rw [show (3000 : Int) - ((gk - 1 : Nat) : Int) = (ki : Int) + 1 by omega], by omega, HE6.out, HG6.out, by omega⟩
                              case measure => omega
                        · obtain ⟨e0, e1, e2, e3, e4⟩ := ent_cells5 (a := ((root.1, q), 0, 0, 0)) hx1
                          dsimp only at e0 e1 e2 e3 e4
                          go_wp2_with fail
                          refine (commit_led f m 4096 lb ((root.1, q), 0, 0, 0) _ HE.out.led (by have := mayS_le hqm; show q.size ≤ _; omega) (by omega)).mono ?_
                          rintro e w6 ⟨rfl, hC⟩
                          have HE6 := Lib.hid (HE.out.cmd hC)
                          have HG6 := Lib.hid (HG.out.cm 4096 ((root.1, q), 0, 0, 0))
                          have hl6 : ((cmL lb 4096 ((root.1, q), 0, 0, 0)).length : Int) ≤ 4096 := cm_len (by omega)
                          clear hC e0 e1 e2 e3 e4 p1 p2 hq0 hx1
                          rcases next_cases HG.out HM.out hqin (k := 0) (by decide) (by decide) (fun h => absurd h (by decide)) with ⟨_, hcm⟩ | ⟨_, hcm⟩
                          · rw [hcm]
                            clear hcm
                            go_wp2_with fail
                            refine (works_any _).mono ?_
                            rintro e w7 ⟨rfl, hB⟩
                            have HB7 := Lib.hid (gthen HB.out (gthen HE6.out.low hB))
                            clear hB HE6 HG6 HE HG
                            go_wp2_with fail
                            go_ret
                            exact ⟨ret_boolE rfl, HB7.out⟩
                          · rw [hcm]
                            clear hcm
                            generalize cmL lb 4096 ((root.1, q), 0, 0, 0) = lc at HE6 HG6 hl6
                            go_wp2_with fail
                            go_roundg (gk - 1)
                            case rel => exact ⟨lc, by rw [show (3000 : Int) - ((gk - 1 : Nat) : Int) = (ki : Int) + 1 by omega], by omega, HE6.out, HG6.out, by omega⟩
                            case measure => omega
                      exact AllReadyH.nil
                    exact AllReadyH.nil
            case rest =>
              clear HE HG hla p1 p2
              obtain ⟨lb, hE, hG, hlb⟩ := hcut
              have HE := Lib.hid hE
              have HG := Lib.hid hG
              clear hE hG
              have p1 := cell_low HE.out.low (World.block_lt_of_cell? _ _ n1) n1
              have p2 := cell_low HE.out.low (World.block_lt_of_cell? _ _ n2) n2
              go_wp2_with fail
              refine (whole_led f m 4096 lb root _ HE.out.led HG.out.good (want_len HG.out hlb root.1 root.2) hs).mono ?_
              rintro e w4 ⟨rfl, hB⟩
              have HWL : Hid (wantR root lb = wantP lb root.1 13 root.2 ∧ wholeR root lb = (wantR root lb).isEmpty) := ⟨by unfold wantR; rw [HM.out]; rfl, by unfold wholeR; rw [HM.out]; rfl⟩
              rw [HWL.out.2]
              replace p1 := cell_keep hB p1
              replace p2 := cell_keep hB p2
              replace HE := Lib.hid (HE.out.below hB)
              clear hB
              cases hwl : wantR root lb with
              | cons q qs =>
                have HWW := Lib.hid hwl
                clear hwl
                have hpos : (0 : Int) < (qs.length : Int) + 1 := by omega
                go_wp2_with fail
                refine (wants_led f m 4096 lb root _ HE.out.led HG.out.good (want_len HG.out hlb root.1 root.2) hs).mono ?_
                rintro e w5 ⟨v, rfl, ho, hB⟩
                rw [HWW.out] at ho
                obtain ⟨a, c, rfl⟩ := (own_readsV ho).slice
                replace HE := Lib.hid (HE.out.below hB)
                clear ho hB p1 p2
                go_wp2_with fail
                refine (works_any _).mono ?_
                rintro e w6 ⟨rfl, hB⟩
                have HB6 := Lib.hid (gthen HB.out (gthen HE.out.low hB))
                clear hB HE
                go_wp2_with fail
                go_ret
                exact ⟨ret_boolE rfl, HB6.out⟩
              | nil =>
                have HW0 := Lib.hid (show wantP lb root.1 13 root.2 = [] from by rw [← HWL.out.1, hwl])
                clear HWL hwl
                go_wp2_with fail
                refine (under_led f m 4096 lb root _ HE.out.led (by omega) hs (gl_sizeO HG.out)).mono ?_
                rintro e w5 ⟨v, rfl, ho, hB⟩
                obtain ⟨a5, c5, rfl⟩ := own_at ho
                have HUL := Lib.hid (show (treeP lb root.1 13 root.2).length ≤ (undR root lb).length from by rw [undR_len HM.out]; exact tree_under HG.out HM.out HW0.out)
                replace p1 := cell_keep hB p1
                replace p2 := cell_keep hB p2
                replace HE := Lib.hid (HE.out.below hB)
                clear ho hB
                generalize (undR root lb).length = UN at *
                have hq := Que.start w5 root.2
                have HN : Hid ((treeP lb root.1 13 root.2).length ≤ 65537) := by
                  have h1 := tree_count HG.out (job := root.1) 13 root.2
                  have h2 := tree_in_len HG.out root.1 13 root.2
                  show _ ≤ _
                  omega
                have HBF := Lib.hid (Bfs.start HW0.out)
                have hlt := HE.out.led.lt
                have hkt := HE.out.kn.lt
                have HQ : Hid (Oq wb f m km w5.heap.size lb la [root.2] (.slice (some ⟨w5.heap.size, 0, none⟩) 1 1) (w5.alloc (.cells #[.string root.2] 9))) := ⟨HE.out.below ((Below.refl _ _).alloc (Nat.le_refl _) _), hlt.1, hlt.2.1, hkt, by simp, hq⟩
                clear hq hlt hkt HE HW0
                go_wp2_with fail
                generalize hNN : (treeP lb root.1 13 root.2).length = N at *
                clear p1 p2
                generalize w5.heap.size = B at HQ
                go_loopg [24, 25] N (fun gk c q wx => ∃ (ql : List ByteArray) (cn : Nat), gk + cn = N ∧ c = .int .i64 cn ∧ Bfs lb root.1 N ql cn ∧ Oq wb f m km B lb la ql q wx)
                case atStart => exact ⟨[root.2], 0, by omega, rfl, HBF.out, HQ.out⟩
                case round =>
                  clear HBF HQ
                  obtain ⟨ql, cn, hcn, rfl, hbf, hq⟩ := hrel
                  have HBF := Lib.hid hbf
                  have HQ := Lib.hid hq
                  clear hbf hq
                  cases ql with
                  | nil =>
                    have hcN : Hid ((cn : Int) ≤ UN) := by have h1 := HBF.out.sum; have h2 := HUL.out; simp at h1; show (cn : Int) ≤ UN; omega
                    obtain ⟨aq, cq, rfl⟩ := HQ.out.que.slice
                    have hle := hcN.out
                    go_wp2_with fail
                    refine (works_any _).mono ?_
                    rintro e w6 ⟨rfl, hB⟩
                    have HB6 := Lib.hid (gthen HB.out (gthen HQ.out.on.low hB))
                    clear hB HQ
                    go_wp2_with fail
                    go_ret
                    exact ⟨ret_boolE rfl, HB6.out⟩
                  | cons p qs =>
                    obtain ⟨x, hgx⟩ := HBF.out.there
                    have HX := Lib.hid hgx
                    obtain ⟨g, off, cap, rfl, hp0, hqt⟩ := HQ.out.que.head
                    have p1 := cell_low HQ.out.on.low (World.block_lt_of_cell? _ _ n1) n1
                    have HQT := Lib.hid hqt
                    clear hgx hqt
                    cases cap with
                    | zero =>
                      have HQ1 : Hid (Que B wr (.slice (some ⟨g, off, none⟩) qs.length 0) qs) := by have h := HQT.out; rw [if_pos rfl] at h; exact h
                      clear HQT
                      go_wp2_with fail
                      refine (of_led f m 4096 lb (root.1, p) wr HQ.out.on.led).mono ?_
                      rintro e w6 ⟨rfl, hB⟩
                      rw [show ofE lb (root.1, p) = x by unfold ofE; rw [HX.out]; rfl, HX.out]
                      have hA6 : Below w6.heap.size w6 (w6.alloc (entO x)) := (Below.refl _ _).alloc (Nat.le_refl _) _
                      have HQ6 : Hid (Oq wb f m km B lb la qs (.slice (some ⟨g, off, none⟩) qs.length 0) (w6.alloc (entO x))) := ⟨(HQ.out.on.below hB).below hA6, HQ.out.fB, HQ.out.mB, HQ.out.kB, Nat.le_trans HQ.out.Bw (Nat.le_trans hB.size hA6.size), (HQ1.out.below hB).below hA6⟩
                      have HXC := Lib.hid (heap_alloc_new w6 (entO x))
                      have HXB : Hid ((Value.slice (some ⟨g, off, none⟩) qs.length 0).ownBlock ≠ some w6.heap.size) := fun e => by have := ((HQ1.out.below hB).lt _ e).2; omega
                      have hxe := HG.out.ent HX.out
                      obtain ⟨xn, hxn⟩ : ∃ xn : Nat, x.2.1 = xn := ⟨x.2.1.toNat, by have := hxe.2.1; omega⟩
                      have hxn16 : xn ≤ 16 := by have := hxe.2.2.1; omega
                      have HKB : Hid (∀ j, j < xn → kidB p ((j + 1 : Nat) : Int) = true) := fun j hj => (HG.out.kid HX.out (by rw [hxn]; omega)).1
                      have HST := Lib.hid (HBF.out.step HG.out HX.out)
                      have hbl := HBF.out.len
                      have hN2 := HN.out
                      rw [List.length_cons] at hbl
                      rw [hxn] at HST
                      have HXN := Lib.hid hxn
                      have hps := hxe.2.2.2.1
                      clear hB HQ HQ1 hA6 hp0 p1 HBF HX hxe HN hxn
                      unfold evE
                      simp only [Option.isSome_some]
                      unfold entO at HXC HQ6
                      go_wp2_with fail
                      generalize hw7 : w6.alloc (.cells #[.int .u64 x.1.1, .string x.1.2, .int .i64 x.2.1, .int .i64 x.2.2.1, .int .i64 x.2.2.2] 38) = w7 at *
                      generalize w6.heap.size = s at *
                      clear hw7
                      obtain ⟨gk1, hgk1⟩ : ∃ gk1, gk1 = gk := ⟨_, rfl⟩
                      subst hgk1
                      obtain ⟨wr1, hwr1⟩ : ∃ wr1, wr1 = wr := ⟨_, rfl⟩
                      subst hwr1
                      go_loopg [25, 29] xn (fun gk2 q kv wy => ∃ j : Nat, gk2 + j = xn ∧ kv = .int .i64 ((j + 1 : Nat) : Int) ∧ Oq wb f m km B lb la (qs ++ kidsP p j) q wy ∧ q.ownBlock ≠ some s ∧ wy.heap[s]? = some (.cells #[.int .u64 x.1.1, .string x.1.2, .int .i64 x.2.1, .int .i64 x.2.2.1, .int .i64 x.2.2.2] 38 (0, 0)))
                      case atStart => exact ⟨0, by omega, rfl, by unfold kidsP; simpa using HQ6.out, HXB.out, HXC.out⟩
                      case round =>
                        clear HQ6 HXC HXB
                        obtain ⟨j, hj, rfl, hq, hqs, hxc⟩ := hrel
                        have HQ := Lib.hid hq
                        have HQS := Lib.hid hqs
                        have HXC := Lib.hid hxc
                        clear hq hqs hxc
                        have k2 : wr.cell? ⟨s, 2, none⟩ = some (.int .i64 xn) := by rw [← HXN.out]; exact (ent_cells5 HXC.out).2.2.1
                        by_cases hjx : j < xn
                        · have hv := conv_one wr ((j + 1 : Nat) : Int) (by omega) (by omega)
                          have hj1 : ((j + 1 : Nat) : Int) ≤ (xn : Int) := by omega
                          have hj0 : (0 : Int) ≤ ((j + 1 : Nat) : Int) := by omega
                          have hj2 : ((j + 1 : Nat) : Int) < 256 := by omega
                          obtain ⟨jn, hjn⟩ : ∃ jn : Int, ((j + 1 : Nat) : Int) = jn := ⟨_, rfl⟩
                          rw [hjn] at hv hj1 hj0 hj2 ⊢
                          have hlen : (qs ++ kidsP p j).length ≤ 1000000 := by unfold kidsP; simp; omega
                          have HJN := Lib.hid hjn
                          clear hjn
                          go_wp2_with (at_builtin; refine wpList_que (B := B) _ rfl _ _ rfl _ (qs ++ kidsP p j) rfl ?q ⟨wr.heap.size + 1, 0, none⟩ 1 (p ++ ⟨#[UInt8.ofNat jn.toNat]⟩) rfl ?c1 hlen ?c2 ?_)
                          case q => exact (HQ.out.que.below ((Below.refl _ _).alloc (Nat.le_refl _) _)).below ((Below.refl _ _).alloc (Nat.le_refl _) _)
                          case c1 => exact fun a b h => by have h2 := cell_one_new (wr.alloc (.cells #[.int .u8 jn] 5)) (.string (p ++ ⟨#[UInt8.ofNat jn.toNat]⟩)) 9 a b h; rw [show (wr.alloc (.cells #[.int .u8 jn] 5)).heap.size = wr.heap.size + 1 by simp] at h2; exact h2
                          case c2 => have := HQ.out.Bw; simp; omega
                          intro v' w' hq' hF hst
                          have hF2 : Fr (fun i => some i = u25.ownBlock) ((wr.alloc (.cells #[.int .u8 jn] 5)).alloc (.cells #[.string (p ++ ⟨#[UInt8.ofNat jn.toNat]⟩)] 9)) w' := hF
                          have hst2 : v'.ownBlock = u25.ownBlock ∨ ∃ g, v'.ownBlock = some g ∧ wr.heap.size + 1 + 1 ≤ g := hst
                          have hA1 : Below wr.heap.size wr ((wr.alloc (.cells #[.int .u8 jn] 5)).alloc (.cells #[.string (p ++ ⟨#[UInt8.ofNat jn.toNat]⟩)] 9)) := ((Below.refl _ _).alloc (Nat.le_refl _) _).alloc (by simp) _
                          have hsl : s < wr.heap.size := (Array.getElem?_eq_some_iff.1 HXC.out).1
                          have hy : p ++ ⟨#[UInt8.ofNat jn.toNat]⟩ = kidS p ((j + 1 : Nat) : Int) := by
                            have h := (kid_yes (HKB.out j hjx)).1
                            injection h with h
                            rw [HJN.out] at h ⊢
                            exact h
                          have hq2 : Que B w' v' (qs ++ kidsP p (j + 1)) := by rw [kidsP_succ, ← hy]; exact hq'
                          have HQ9 := Lib.hid ((HQ.out.below hA1).more hF2 hq2)
                          have HQS9 : Hid (v'.ownBlock ≠ some s) := by
                            rcases hst2 with e | ⟨g', e, hge⟩
                            · show _ ≠ _; rw [e]; exact HQS.out
                            · show _ ≠ _
                              rw [e]
                              intro e2
                              injection e2 with e2
                              omega
                          have HXC9 := Lib.hid ((hF2.block s (Nat.lt_of_lt_of_le hsl hA1.size) (fun e => HQS.out e.symm)).trans ((hA1.block s hsl).trans HXC.out))
                          clear hq' hF hst hF2 hst2 hA1 hsl hy hq2 HQ HQS HXC k2 hv hj1 hj0 hj2
                          go_wp2_with fail
                          go_roundg (gk - 1)
                          case rel =>
                            refine ⟨j + 1, by omega, ?_, HQ9.out, HQS9.out, HXC9.out⟩
                            rw [← HJN.out]
                            have hb16 : j + 1 ≤ 16 := by omega
                            rw [IntWalk.wrap64_in _ (by omega)]
                            exact congrArg _ (by omega)
                          case measure => omega
                        · obtain rfl : j = xn := by omega
                          have hST : Bfs lb root.1 N (qs ++ kidsP p j) (cn + 1) := by have h := HST.out; rwa [Int.toNat_natCast] at h
                          have HST2 := Lib.hid hST
                          clear hST HST
                          go_wp2_with fail
                          go_roundg (gk1 - 1)
                          case rel => exact ⟨qs ++ kidsP p j, cn + 1, by omega, by go_num, HST2.out, HQ.out⟩
                          case measure => omega
                    | succ cap =>
                      have HQ1 : Hid (Que B wr (.slice (some ⟨g, off + 1, none⟩) qs.length (cap + 1)) qs) := by have h := HQT.out; rw [if_neg (by omega)] at h; exact h
                      clear HQT
                      go_wp2_with fail
                      refine (of_led f m 4096 lb (root.1, p) wr HQ.out.on.led).mono ?_
                      rintro e w6 ⟨rfl, hB⟩
                      rw [show ofE lb (root.1, p) = x by unfold ofE; rw [HX.out]; rfl, HX.out]
                      have hA6 : Below w6.heap.size w6 (w6.alloc (entO x)) := (Below.refl _ _).alloc (Nat.le_refl _) _
                      have HQ6 : Hid (Oq wb f m km B lb la qs (.slice (some ⟨g, off + 1, none⟩) qs.length (cap + 1)) (w6.alloc (entO x))) := ⟨(HQ.out.on.below hB).below hA6, HQ.out.fB, HQ.out.mB, HQ.out.kB, Nat.le_trans HQ.out.Bw (Nat.le_trans hB.size hA6.size), (HQ1.out.below hB).below hA6⟩
                      have HXC := Lib.hid (heap_alloc_new w6 (entO x))
                      have HXB : Hid ((Value.slice (some ⟨g, off + 1, none⟩) qs.length (cap + 1)).ownBlock ≠ some w6.heap.size) := fun e => by have := ((HQ1.out.below hB).lt _ e).2; omega
                      have hxe := HG.out.ent HX.out
                      obtain ⟨xn, hxn⟩ : ∃ xn : Nat, x.2.1 = xn := ⟨x.2.1.toNat, by have := hxe.2.1; omega⟩
                      have hxn16 : xn ≤ 16 := by have := hxe.2.2.1; omega
                      have HKB : Hid (∀ j, j < xn → kidB p ((j + 1 : Nat) : Int) = true) := fun j hj => (HG.out.kid HX.out (by rw [hxn]; omega)).1
                      have HST := Lib.hid (HBF.out.step HG.out HX.out)
                      have hbl := HBF.out.len
                      have hN2 := HN.out
                      rw [List.length_cons] at hbl
                      rw [hxn] at HST
                      have HXN := Lib.hid hxn
                      have hps := hxe.2.2.2.1
                      clear hB HQ HQ1 hA6 hp0 p1 HBF HX hxe HN hxn
                      unfold evE
                      simp only [Option.isSome_some]
                      unfold entO at HXC HQ6
                      go_wp2_with fail
                      generalize hw7 : w6.alloc (.cells #[.int .u64 x.1.1, .string x.1.2, .int .i64 x.2.1, .int .i64 x.2.2.1, .int .i64 x.2.2.2] 38) = w7 at *
                      generalize w6.heap.size = s at *
                      clear hw7
                      obtain ⟨gk1, hgk1⟩ : ∃ gk1, gk1 = gk := ⟨_, rfl⟩
                      subst hgk1
                      obtain ⟨wr1, hwr1⟩ : ∃ wr1, wr1 = wr := ⟨_, rfl⟩
                      subst hwr1
                      go_loopg [25, 29] xn (fun gk2 q kv wy => ∃ j : Nat, gk2 + j = xn ∧ kv = .int .i64 ((j + 1 : Nat) : Int) ∧ Oq wb f m km B lb la (qs ++ kidsP p j) q wy ∧ q.ownBlock ≠ some s ∧ wy.heap[s]? = some (.cells #[.int .u64 x.1.1, .string x.1.2, .int .i64 x.2.1, .int .i64 x.2.2.1, .int .i64 x.2.2.2] 38 (0, 0)))
                      case atStart => exact ⟨0, by omega, rfl, by unfold kidsP; simpa using HQ6.out, HXB.out, HXC.out⟩
                      case round =>
                        clear HQ6 HXC HXB
                        obtain ⟨j, hj, rfl, hq, hqs, hxc⟩ := hrel
                        have HQ := Lib.hid hq
                        have HQS := Lib.hid hqs
                        have HXC := Lib.hid hxc
                        clear hq hqs hxc
                        have k2 : wr.cell? ⟨s, 2, none⟩ = some (.int .i64 xn) := by rw [← HXN.out]; exact (ent_cells5 HXC.out).2.2.1
                        by_cases hjx : j < xn
                        · have hv := conv_one wr ((j + 1 : Nat) : Int) (by omega) (by omega)
                          have hj1 : ((j + 1 : Nat) : Int) ≤ (xn : Int) := by omega
                          have hj0 : (0 : Int) ≤ ((j + 1 : Nat) : Int) := by omega
                          have hj2 : ((j + 1 : Nat) : Int) < 256 := by omega
                          obtain ⟨jn, hjn⟩ : ∃ jn : Int, ((j + 1 : Nat) : Int) = jn := ⟨_, rfl⟩
                          rw [hjn] at hv hj1 hj0 hj2 ⊢
                          have hlen : (qs ++ kidsP p j).length ≤ 1000000 := by unfold kidsP; simp; omega
                          have HJN := Lib.hid hjn
                          clear hjn
                          go_wp2_with (at_builtin; refine wpList_que (B := B) _ rfl _ _ rfl _ (qs ++ kidsP p j) rfl ?q ⟨wr.heap.size + 1, 0, none⟩ 1 (p ++ ⟨#[UInt8.ofNat jn.toNat]⟩) rfl ?c1 hlen ?c2 ?_)
                          case q => exact (HQ.out.que.below ((Below.refl _ _).alloc (Nat.le_refl _) _)).below ((Below.refl _ _).alloc (Nat.le_refl _) _)
                          case c1 => exact fun a b h => by have h2 := cell_one_new (wr.alloc (.cells #[.int .u8 jn] 5)) (.string (p ++ ⟨#[UInt8.ofNat jn.toNat]⟩)) 9 a b h; rw [show (wr.alloc (.cells #[.int .u8 jn] 5)).heap.size = wr.heap.size + 1 by simp] at h2; exact h2
                          case c2 => have := HQ.out.Bw; simp; omega
                          intro v' w' hq' hF hst
                          have hF2 : Fr (fun i => some i = u25.ownBlock) ((wr.alloc (.cells #[.int .u8 jn] 5)).alloc (.cells #[.string (p ++ ⟨#[UInt8.ofNat jn.toNat]⟩)] 9)) w' := hF
                          have hst2 : v'.ownBlock = u25.ownBlock ∨ ∃ g, v'.ownBlock = some g ∧ wr.heap.size + 1 + 1 ≤ g := hst
                          have hA1 : Below wr.heap.size wr ((wr.alloc (.cells #[.int .u8 jn] 5)).alloc (.cells #[.string (p ++ ⟨#[UInt8.ofNat jn.toNat]⟩)] 9)) := ((Below.refl _ _).alloc (Nat.le_refl _) _).alloc (by simp) _
                          have hsl : s < wr.heap.size := (Array.getElem?_eq_some_iff.1 HXC.out).1
                          have hy : p ++ ⟨#[UInt8.ofNat jn.toNat]⟩ = kidS p ((j + 1 : Nat) : Int) := by
                            have h := (kid_yes (HKB.out j hjx)).1
                            injection h with h
                            rw [HJN.out] at h ⊢
                            exact h
                          have hq2 : Que B w' v' (qs ++ kidsP p (j + 1)) := by rw [kidsP_succ, ← hy]; exact hq'
                          have HQ9 := Lib.hid ((HQ.out.below hA1).more hF2 hq2)
                          have HQS9 : Hid (v'.ownBlock ≠ some s) := by
                            rcases hst2 with e | ⟨g', e, hge⟩
                            · show _ ≠ _; rw [e]; exact HQS.out
                            · show _ ≠ _
                              rw [e]
                              intro e2
                              injection e2 with e2
                              omega
                          have HXC9 := Lib.hid ((hF2.block s (Nat.lt_of_lt_of_le hsl hA1.size) (fun e => HQS.out e.symm)).trans ((hA1.block s hsl).trans HXC.out))
                          clear hq' hF hst hF2 hst2 hA1 hsl hy hq2 HQ HQS HXC k2 hv hj1 hj0 hj2
                          go_wp2_with fail
                          go_roundg (gk - 1)
                          case rel =>
                            refine ⟨j + 1, by omega, ?_, HQ9.out, HQS9.out, HXC9.out⟩
                            rw [← HJN.out]
                            have hb16 : j + 1 ≤ 16 := by omega
                            rw [IntWalk.wrap64_in _ (by omega)]
                            exact congrArg _ (by omega)
                          case measure => omega
                        · obtain rfl : j = xn := by omega
                          have hST : Bfs lb root.1 N (qs ++ kidsP p j) (cn + 1) := by have h := HST.out; rwa [Int.toNat_natCast] at h
                          have HST2 := Lib.hid hST
                          clear hST HST
                          go_wp2_with fail
                          go_roundg (gk1 - 1)
                          case rel => exact ⟨qs ++ kidsP p j, cn + 1, by omega, by go_num, HST2.out, HQ.out⟩
                          case measure => omega
  · go_wp2_with fail
    refine (works_any _).mono ?_
    rintro e w1 ⟨rfl, hB⟩
    have HB1 := Lib.hid (gthen HB.out hB)
    clear hB HB
    go_wp2_with fail
    go_ret
    exact ⟨ret_boolE rfl, HB1.out⟩

/-- For the row. -/
theorem once_row (v u k : Value) (W : World) (h : ∃ l, ReadsK encS 10 W v l ∧ l.length ≤ maxLen ∧ ∀ x ∈ l, x.2.1.1.2.size ≤ maxLen ∧ x.2.2.1.2.size ≤ maxLen ∧ x.2.2.2.2.size ≤ maxLen) (h2 : ∃ n : Nm, u = .agg #[.int .u64 n.1, .string n.2] ∧ (Lit.int .u64 n.1).wf = true ∧ n.2.size ≤ maxLen)
    (h3 : ∃ l : List Int, ReadsK enc8 1 W k l ∧ l.length ≤ maxLen ∧ ∀ x ∈ l, (Lit.int .u8 x).wf = true) :
    Calls Try.prog 4 #[v, u, k] W fun e W' => e = .returned (.bool true) ∧ Below W.heap.size W W' := by
  obtain ⟨l, hv, hl, hz⟩ := h
  obtain ⟨n, rfl, _, hs⟩ := h2
  obtain ⟨ks, hk, hkl, hk8⟩ := h3
  unfold maxLen at hl hs hz hkl
  refine once_any v k l n ks W hv (fun x hx => by have := (hz x hx).1; omega) (by omega) (by omega) hk (fun x hx => ?_) (by omega)
  have := hk8 x hx
  simp [Lit.wf] at this
  have h1 : IntKind.u8.min = 0 := rfl
  omega
end Go.Proofs.Ytibfcoaiodmimaa
