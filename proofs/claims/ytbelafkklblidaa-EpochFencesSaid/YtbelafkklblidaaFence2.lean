/- Walk: EpochFences. -/
import Derived.Test.YtbelafkklblidaaFence1
import Derived.Deep.DeepCutAuto
import Derived.Deep.CutBlock
import Derived.Deep.RegionHeld3
import Derived.BigQuiet
namespace Go.Proofs.Ytbelafkklblidaa
open Go.RowKit Go.Sort Go.Lib

def stepO (x : Stp) : Obj := .cells #[.int .i64 x.1, .int .u64 x.2.1.1, .string x.2.1.2, .int .u64 x.2.2] 37 (0, 0)

set_option maxHeartbeats 8000000 in
set_option maxRecDepth 100000 in
theorem fences_any (v : Value) (l : List Stp) (w0 : World) (hv : ReadsK encS 4 w0 v l) (hz : ∀ x ∈ l, x.2.1.2.size ≤ 9223372036854775807) (hl : (l.length : Int) ≤ 9223372036854775807) :
    Calls Try.prog 4 #[v] w0 fun e w' => e = .returned (.bool true) ∧ Below w0.heap.size w0 w' := by
  obtain ⟨ig, hig, hg0, hg1, hg2⟩ := info_parts info_grant
  obtain ⟨a, cap, rfl⟩ := hv.slice
  have HV := Lib.hid hv
  have HZ := Lib.hid hz
  clear hv hz
  go_enter Try.func4, Try.ntmps4
  go_wp2_with fail
  refine (heavy_any _ (.slice none 0 0) l [] w0 HV.out (.inl ⟨rfl, _, _, rfl⟩) hl (by decide)).mono ?_
  rintro e w ⟨b, rfl, rfl, hb⟩
  cases b
  · have hl2 := (hb rfl).1
    clear hb hl
    go_wp2_with fail
    refine (new_empty 0 _ (by decide)).mono ?_
    rintro e w1 ⟨f, m, rfl, hf, hm, hF, hB⟩
    have HE : Hid (Fe w f m w1.heap.size [] 0 [] [] (.slice none 0 0) (.slice none 0 0) w1) := ⟨⟨hf, hm, hF, hB⟩, hF.lt.1, hF.lt.2.1, hB.size, Nat.le_refl _, World.ownsRow_nil _ _ _ _, World.ownsRow_nil _ _ _ _, Apart.nil⟩
    clear hf hm hF hB
    go_wp2_with fail
    generalize w1.heap.size = B at HE
    go_loopg [5, 6, 7, 8] l.length (fun gk sl sd sv si wr => ∃ (k : Nat) (L D V : List Gr) (la : Int), gk + k = l.length ∧ sl = .int .u64 la ∧ si = .int .i64 k ∧ Fe w f m B L la D V sd sv wr ∧ Fp k L D V la)
    case atStart => exact ⟨0, [], [], [], 0, by omega, rfl, rfl, HE.out, Fp.start⟩
    case round =>
      clear HE
      obtain ⟨k, L, D, V, la, hlen, rfl, rfl, hE, hP⟩ := hrel
      have HE := Lib.hid hE
      have HP := Lib.hid hP
      clear hE hP
      by_cases hlt : k < l.length
      · obtain ⟨b, off, c, he, hb, hc⟩ := (HV.out.below HE.out.wk.low).at (by omega)
        injection he with he1 he2 he3
        subst he1
        have hx := Lib.hid (HZ.out _ (List.getElem_mem hlt))
        have hcc := hc k hlt
        clear hc he2 he3
        generalize l[k] = x at hcc hx
        have c0 : wr.cell? ⟨b, off + k * 4, none⟩ = some (.int .i64 x.1) := hcc 0 _ rfl
        have c1 : wr.cell? ⟨b, off + k * 4 + 1, none⟩ = some (.int .u64 x.2.1.1) := hcc 1 _ rfl
        have c2 : wr.cell? ⟨b, off + k * 4 + 2, none⟩ = some (.string x.2.1.2) := hcc 2 _ rfl
        have c3 : wr.cell? ⟨b, off + k * 4 + 3, none⟩ = some (.int .u64 x.2.2) := hcc 3 _ rfl
        clear hcc hb
        go_upto_block 2 with fail
        have HE2 := Lib.hid (HE.out.below ((Below.refl _ _).alloc (Nat.le_refl _) (stepO x)))
        have HS : (wr.alloc (stepO x)).heap[wr.heap.size]? = some (stepO x) := heap_alloc_new _ _
        have HSV := Lib.hid (show u7.ownBlock ≠ some wr.heap.size from fun e => by have := (HE.out.ov.lt _ e).2; omega)
        have HSD := Lib.hid (show u6.ownBlock ≠ some wr.heap.size from fun e => by have := (HE.out.od.lt _ e).2; omega)
        go_cut [5, 6, 7] (fun sl sd sv wc => ∃ (L D V : List Gr) (la : Int), sl = .int .u64 la ∧ Fe w f m B L la D V sd sv wc ∧ Fp (k + 1) L D V la ∧ wc.heap[wr.heap.size]? = some (stepO x))
        case first =>
          obtain ⟨op, n, ep⟩ := x
          dsimp only at hx
          by_cases h0 : op = 0
          · subst h0
            have la0 := HP.out.la0
            have hL : (L.length : Int) ≤ 9223372036854775807 := by have := HP.out.lk; omega
            go_wp2_with fail
            refine (grant_any f m L la n _ HE2.out.wk.fen hx.out la0 hL).mono ?_
            rintro e w2 ⟨rfl, hN, hF⟩
            have HE3 := Lib.hid (HE2.out.moved hN hF)
            have HS3 := HE2.out.keep hF HE.out.Bw HS
            clear hN hF HE2 HS
            by_cases hz : grantE L la n = 0
            · have hg := grant_yes hz
              rw [hg.2.1, hg.2.2] at HE3
              rw [hg.1, hz]
              clear hg
              obtain ⟨a7, cap7, rfl⟩ := (own_readsG HE3.out.ov).slice
              have hV : V.length ≤ 200 := by have := HP.out.dk; omega
              have hI := Lib.hid (Fi.start (n := n) HE3.out HS3 HSV.out HSD.out)
              clear HE3 HS3 HSV HSD
              go_wp2_with fail
              generalize hsz : wr.heap.size = s at *
              obtain ⟨wo, hwo⟩ : ∃ wo, wo = wr := ⟨_, rfl⟩
              subst hwo
              go_loopg [6, 12, 13] V.length (fun gk sd su si wx => ∃ (k' : Nat) (D' U : List Gr), gk + k' = V.length ∧ si = .int .i64 k' ∧ Fi w f m B s (stepO (0, n, ep)) (putL L n (la + 1)) (la + 1) n D V (.slice a7 V.length cap7) k' D' U sd su wx)
              case atStart => exact ⟨0, D, [], by omega, rfl, hI.out⟩
              case round =>
                clear hI c0 c1 c2 c3
                obtain ⟨k', D', U, hlen', rfl, hI⟩ := hrel
                have HI := Lib.hid hI
                clear hI
                by_cases hlt' : k' < V.length
                · obtain ⟨b7, off7, c7, he, hb7, hc7⟩ := (own_readsG HI.out.e.ov).at (by omega)
                  injection he with he1 he2 he3
                  subst he1
                  have hp := Lib.hid (List.getElem_mem hlt')
                  have hcc := hc7 k' hlt'
                  clear hc7 he2 he3
                  generalize V[k'] = p at hcc hp
                  have c0 : wr.cell? ⟨b7, off7 + k' * 3, none⟩ = some (.int .u64 p.1.1) := hcc 0 _ rfl
                  have c1 : wr.cell? ⟨b7, off7 + k' * 3 + 1, none⟩ = some (.string p.1.2) := hcc 1 _ rfl
                  have c2 : wr.cell? ⟨b7, off7 + k' * 3 + 2, none⟩ = some (.int .u64 p.2) := hcc 2 _ rfl
                  have d1 : wr.cell? ⟨s, 1, none⟩ = some (.int .u64 n.1) := by simp [World.cell?, HI.out.so, stepO]
                  have d2 : wr.cell? ⟨s, 2, none⟩ = some (.string n.2) := by simp [World.cell?, HI.out.so, stepO]
                  clear hcc hb7
                  obtain ⟨⟨pj, ps⟩, pe⟩ := p
                  dsimp only at c0 c1 c2
                  go_upto_region 26 with fail
                  go_cut [70] (fun t wx => t = .bool (decide ((pj, ps) = n)) ∧ ∃ q, wx = wr.drewN q)
                  case first =>
                    by_cases hpn : (pj, ps) = n
                    · subst hpn
                      go_wp2_with fail
                      go_quiet (fail)
                      go_wp2_with fail
                      go_meet
                      exact ⟨by simp, ⟨_, rfl⟩⟩
                    · by_cases hj : pj = n.1
                      · have hb : (pj == n.1) = true := by simp [hj]
                        have hc : (ps.toList == n.2.toList) = false := by
                          refine beq_eq_false_iff_ne.2 (fun e => hpn (Prod.ext hj ?_))
                          rw [ByteArray.toList_eq, ByteArray.toList_eq] at e
                          exact ByteArray.ext (Array.toList_inj.1 e)
                        clear hj
                        go_wp2_with fail
                        go_quiet (fail)
                        go_wp2_with fail
                        go_meet
                        exact ⟨by simp [hpn], ⟨_, rfl⟩⟩
                      · have hb : (pj == n.1) = false := by simpa using hj
                        clear hj
                        go_wp2_with fail
                        go_quiet (fail)
                        go_wp2_with fail
                        go_meet
                        exact ⟨by simp [hpn], ⟨_, rfl⟩⟩
                  case rest =>
                    obtain ⟨rfl, q, rfl⟩ := hcut
                    have HI2 := Lib.hid (HI.out.below (below_drewN (Below.refl _ _) q))
                    clear d1 d2
                    by_cases hpn : (pj, ps) = n
                    · rw [decide_eq_true hpn]
                      have HN := Lib.hid hpn
                      clear hpn
                      go_wp2_with (at_builtin; refine wpList_append_lies _ rfl _ _ 23 rfl B GT ig (.agg #[.int .u64 0, .string ⟨#[]⟩, .int .u64 0]) 3 32 Try.underlying23 hig hg0 hg1 hg2 rfl (by decide) _ _ _ rfl (own_below HI2.out.e.od ((Below.refl _ _).alloc (Nat.le_refl _) _)) ⟨wr.heap.size, 0, none⟩ 1 1 (encG ((pj, ps), pe)) rfl rfl ?c1 ?c2 (by decide) ?c3 ?c4 ?c5 _ rfl ?_)
                      case c1 => exact grant_cells ((pj, ps), pe) _ (by simp)
                      case c2 => exact grant_one _
                      case c3 => have := HI2.out.len; have := HP.out.dk; unfold maxLen; omega
                      case c4 => have := HI2.out.len; have := HP.out.dk; omega
                      case c5 => have := HI2.out.e.Bw; simp at this; simp; omega
                      intro g cap' w3 hown hgrow hat _
                      have HI3 := HI2.out.dead (p := ((pj, ps), pe)) (d' := .slice (some ⟨g, 0, none⟩) (D'.length + 1) cap') (grow_fr ((Below.refl _ _).alloc (Nat.le_refl _) _) hgrow) hown ⟨g, rfl, hat.elim .inl (fun h => .inr (by rw [h]; simp))⟩ hp.out HN.out
                      clear HI HI2 hown hgrow hat
                      go_wp2
                      go_roundg (gk - 1)
                      case rel => exact ⟨k' + 1, _, _, by omega, by go_num, HI3⟩
                      case measure => omega
                    · rw [decide_eq_false hpn]
                      clear hpn
                      go_wp2_with (at_builtin; refine wpList_append_lies _ rfl _ _ 23 rfl B GT ig (.agg #[.int .u64 0, .string ⟨#[]⟩, .int .u64 0]) 3 32 Try.underlying23 hig hg0 hg1 hg2 rfl (by decide) _ _ _ rfl (own_below HI2.out.ou ((Below.refl _ _).alloc (Nat.le_refl _) _)) ⟨wr.heap.size, 0, none⟩ 1 1 (encG ((pj, ps), pe)) rfl rfl ?c1 ?c2 (by decide) ?c3 ?c4 ?c5 _ rfl ?_)
                      case c1 => exact grant_cells ((pj, ps), pe) _ (by simp)
                      case c2 => exact grant_one _
                      case c3 => have := HI2.out.len; have := HP.out.dk; unfold maxLen; omega
                      case c4 => have := HI2.out.len; have := HP.out.dk; omega
                      case c5 => have := HI2.out.e.Bw; simp at this; simp; omega
                      intro g cap' w3 hown hgrow hat _
                      have HI3 := HI2.out.live (p := ((pj, ps), pe)) (u' := .slice (some ⟨g, 0, none⟩) (U.length + 1) cap') (grow_fr ((Below.refl _ _).alloc (Nat.le_refl _) _) hgrow) hown ⟨g, rfl, hat.elim .inl (fun h => .inr (by rw [h]; simp))⟩ hp.out
                      clear HI HI2 hown hgrow hat
                      go_wp2
                      go_roundg (gk - 1)
                      case rel => exact ⟨k' + 1, _, _, by omega, by go_num, HI3⟩
                      case measure => omega
                · obtain rfl : k' = V.length := by omega
                  clear hlt' hlen'
                  have d1 : wr.cell? ⟨s, 1, none⟩ = some (.int .u64 n.1) := by simp [World.cell?, HI.out.so, stepO]
                  have d2 : wr.cell? ⟨s, 2, none⟩ = some (.string n.2) := by simp [World.cell?, HI.out.so, stepO]
                  go_wp2_with (at_builtin; refine wpList_append_lies _ rfl _ _ 23 rfl B GT ig (.agg #[.int .u64 0, .string ⟨#[]⟩, .int .u64 0]) 3 32 Try.underlying23 hig hg0 hg1 hg2 rfl (by decide) _ _ _ rfl (own_below HI.out.ou ((Below.refl _ _).alloc (Nat.le_refl _) _)) ⟨wr.heap.size, 0, none⟩ 1 1 (encG (n, la + 1)) rfl rfl ?c1 ?c2 (by decide) ?c3 ?c4 ?c5 _ rfl ?_)
                  case c1 => exact grant_cells (n, la + 1) _ rfl
                  case c2 => exact grant_one _
                  case c3 => have := HI.out.len; have := HP.out.dk; unfold maxLen; omega
                  case c4 => have := HI.out.len; have := HP.out.dk; omega
                  case c5 => have := HI.out.e.Bw; simp; omega
                  intro g cap' w3 hown hgrow hat _
                  have HD := Lib.hid (HI.out.done (p := (n, la + 1)) (u' := .slice (some ⟨g, 0, none⟩) (U.length + 1) cap') (grow_fr ((Below.refl _ _).alloc (Nat.le_refl _) _) hgrow) hown ⟨g, rfl, hat.elim .inl (fun h => .inr (by rw [h]; simp))⟩)
                  have HG := Lib.hid (HP.out.grant hx.out HI.out.dd HI.out.uu (by have := HI.out.len; omega))
                  clear HI hown hgrow hat d1 d2
                  go_wp2
                  go_meet
                  exact ⟨_, _, _, la + 1, rfl, HD.out.1, HG.out, HD.out.2⟩
            · have hg := grant_no rfl hz
              rw [hg.2.1, hg.2.2] at HE3
              rw [hg.1]
              clear hg
              go_wp2_with fail
              go_meet
              exact ⟨L, D, V, la, rfl, HE3.out, HP.out.same, HS3⟩
          · by_cases h1 : op = 1
            · subst h1
              go_wp2_with fail
              refine (take_any f m L la n _ HE2.out.wk.fen).mono ?_
              rintro e w2 ⟨rfl, hN, hF⟩
              have HE3 := Lib.hid (HE2.out.moved hN hF)
              have HS3 := HE2.out.keep hF HE.out.Bw HS
              clear hN hF HE2 HS
              go_wp2_with fail
              go_meet
              exact ⟨_, D, V, la, rfl, HE3.out, HP.out.take n, HS3⟩
            · by_cases h2 : op = 2
              · subst h2
                go_wp2_with fail
                refine (drop_any f m L la n.1 _ HE2.out.wk.fen (by have := HP.out.lk; omega)).mono ?_
                rintro e w2 ⟨rfl, hN, hF⟩
                have HE3 := Lib.hid (HE2.out.moved hN hF)
                have HS3 := HE2.out.keep hF HE.out.Bw HS
                clear hN hF HE2 HS
                go_wp2_with fail
                go_meet
                exact ⟨_, D, V, la, rfl, HE3.out, HP.out.drop n.1, HS3⟩
              · go_wp2_with fail
                go_meet
                exact ⟨L, D, V, la, rfl, HE2.out, HP.out.same, HS⟩
        case rest =>
          clear HE HE2 HS HSV HSD HP
          obtain ⟨L, D, V, la, rfl, hE, hP, hS⟩ := hcut
          have HE := Lib.hid hE
          have HP := Lib.hid hP
          clear hE hP c0 c1 c2 c3
          generalize wr.heap.size = s at *
          obtain ⟨wo, hwo⟩ : ∃ wo, wo = wr := ⟨_, rfl⟩
          subst hwo
          obtain ⟨gko, hgo⟩ : ∃ gko, gko = gk := ⟨_, rfl⟩
          subst hgo
          obtain ⟨a6, cap6, rfl⟩ := (own_readsG HE.out.od).slice
          have hD : D.length ≤ 200 := by have := HP.out.dk; omega
          obtain ⟨op, n, ep⟩ := x
          dsimp only at hx
          go_wp2_with fail
          go_loopg [14] D.length (fun gk sj wx => ∃ j : Nat, gk + j = D.length ∧ sj = .int .i64 j ∧ Below wc.heap.size wc wx)
          case atStart => exact ⟨0, by omega, rfl, Below.refl _ _⟩
          case round =>
            obtain ⟨j, hj, rfl, hB⟩ := hrel
            have HX := Lib.hid (HE.out.below hB)
            have hS2 := (hB.block s (Array.getElem?_eq_some_iff.1 hS).1).trans hS
            have HB := Lib.hid hB
            clear hB
            by_cases hjl : j < D.length
            · obtain ⟨b6, off6, c6, he, hb6, hc6⟩ := (own_readsG HX.out.od).at (by omega)
              injection he with he1 he2 he3
              subst he1
              have hp := List.getElem_mem hjl
              have hcc := hc6 j hjl
              clear hc6 he2 he3
              generalize D[j] = p at hcc hp
              have hzp := HP.out.zd p hp
              have r1 : (allowE L p.1 p.2 == 0) = false := by simpa using HP.out.inv.no hp p.1
              have r2 : (allowE L n p.2 == 0) = false := by simpa using HP.out.inv.no hp n
              have S0 : Fen wr f m L la ∧ Below wr.heap.size wr wr ∧ wr.cell? ⟨b6, off6 + j * 3, none⟩ = some (.int .u64 p.1.1) ∧ wr.cell? ⟨b6, off6 + j * 3 + 1, none⟩ = some (.string p.1.2) ∧ wr.cell? ⟨b6, off6 + j * 3 + 2, none⟩ = some (.int .u64 p.2) ∧ wr.cell? ⟨s, 1, none⟩ = some (.int .u64 n.1) ∧ wr.cell? ⟨s, 2, none⟩ = some (.string n.2) :=
                ⟨HX.out.wk.fen, Below.refl _ _, hcc 0 _ rfl, hcc 1 _ rfl, hcc 2 _ rfl, by simp [World.cell?, hS2, stepO], by simp [World.cell?, hS2, stepO]⟩
              clear hcc hb6 hS2 hp HX
              go_upto_region 37 with fail
              go_cut [147] (fun t wx => t = .bool false ∧ Below wr.heap.size wr wx)
              case first =>
                cases hu : underS n.2 p.1.2
                · have hU : ∀ w, Calls Try.prog 23 #[.string n.2, .string p.1.2] w fun e w' => e = .returned (.bool false) ∧ w = w' := fun w => by
                    have := runder_any n.2 p.1.2 w hx.out hzp
                    rwa [hu] at this
                  clear hu
                  go_wp2_with fail
                  refine wp_region_held_drew (S := fun x => Fen x f m L la ∧ Below wr.heap.size wr x ∧ x.cell? ⟨b6, off6 + j * 3, none⟩ = some (.int .u64 p.1.1) ∧ x.cell? ⟨b6, off6 + j * 3 + 1, none⟩ = some (.string p.1.2) ∧ x.cell? ⟨b6, off6 + j * 3 + 2, none⟩ = some (.int .u64 p.2) ∧ x.cell? ⟨s, 1, none⟩ = some (.int .u64 n.1) ∧ x.cell? ⟨s, 2, none⟩ = some (.string n.2)) (by kernel_rfl) (held5 S0 (Below.refl _ _).drew) (fun hHeld => ?_)
                  refine wpAnyH_take (i := 0) (oi := _) (v := ?_) (by rw [List.getElem?_toArray]; exact rfl) (by kernel_rfl) (by kernel_rfl) (by kernel_rfl) (by exact fun _ _ _ h => h) (Or.inl ⟨by rfl, ?_⟩) hHeld ?_
                  rotate_left
                  · (intro w hSw; (try dsimp only at hSw); go_simp; try with_reducible rfl)
                  try simp only [Act.put, List.setIfInBounds_toArray, List.set_cons_zero, List.set_cons_succ]
                  refine wpAnyH_take (i := 1) (oi := _) (v := ?_) (by rw [List.getElem?_toArray]; exact rfl) (by kernel_rfl) (by kernel_rfl) (by kernel_rfl) (by exact fun _ _ _ h => h) (Or.inl ⟨by rfl, ?_⟩) hHeld ?_
                  rotate_left
                  · (intro w hSw; (try dsimp only at hSw); go_simp; try with_reducible rfl)
                  try simp only [Act.put, List.setIfInBounds_toArray, List.set_cons_zero, List.set_cons_succ]
                  refine wpAnyH_take (i := 2) (oi := _) (v := ?_) (by rw [List.getElem?_toArray]; exact rfl) (by kernel_rfl) (by kernel_rfl) (by kernel_rfl) (by exact fun _ _ _ h => h) (Or.inl ⟨by rfl, ?_⟩) hHeld ?_
                  rotate_left
                  · (intro w hSw; (try dsimp only at hSw); go_simp; try with_reducible rfl)
                  try simp only [Act.put, List.setIfInBounds_toArray, List.set_cons_zero, List.set_cons_succ]
                  refine wpAnyH_take (i := 3) (oi := _) (v := ?_) (by rw [List.getElem?_toArray]; exact rfl) (by kernel_rfl) (by kernel_rfl) (by kernel_rfl) (by exact fun _ _ _ h => h) (Or.inl ⟨by rfl, ?_⟩) hHeld ?_
                  rotate_left
                  · (intro w hSw; (try dsimp only at hSw); go_simp; try with_reducible rfl)
                  try simp only [Act.put, List.setIfInBounds_toArray, List.set_cons_zero, List.set_cons_succ]
                  refine wpAnyH_take (i := 4) (oi := _) (v := ?_) (by rw [List.getElem?_toArray]; exact rfl) (by kernel_rfl) (by kernel_rfl) (by kernel_rfl) (by exact fun _ _ _ h => h) (Or.inl ⟨by rfl, ?_⟩) hHeld ?_
                  rotate_left
                  · (intro w hSw; (try dsimp only at hSw); go_simp; try with_reducible rfl)
                  try simp only [Act.put, List.setIfInBounds_toArray, List.set_cons_zero, List.set_cons_succ]
                  refine wpAnyH_take (i := 5) (oi := _) (v := ?_) (by rw [List.getElem?_toArray]; exact rfl) (by kernel_rfl) (by kernel_rfl) (by kernel_rfl) (by exact fun _ _ _ h => h) (Or.inl ⟨by rfl, ?_⟩) hHeld ?_
                  rotate_left
                  · (intro w hSw; (try dsimp only at hSw); go_simp; try with_reducible rfl)
                  try simp only [Act.put, List.setIfInBounds_toArray, List.set_cons_zero, List.set_cons_succ]
                  refine wpAnyH_take (i := 6) (oi := _) (v := ?_) (by rw [List.getElem?_toArray]; exact rfl) (by kernel_rfl) (by kernel_rfl) (by kernel_rfl) (by exact fun _ _ _ h => h) (Or.inl ⟨by rfl, ?_⟩) hHeld ?_
                  rotate_left
                  · (intro w hSw; (try dsimp only at hSw); go_simp; try with_reducible rfl)
                  try simp only [Act.put, List.setIfInBounds_toArray, List.set_cons_zero, List.set_cons_succ]
                  refine wpAnyH_take (i := 7) (oi := _) (v := ?_) (by rw [List.getElem?_toArray]; exact rfl) (by kernel_rfl) (by kernel_rfl) (by kernel_rfl) (by exact fun _ _ _ h => h) (Or.inl ⟨by rfl, ?_⟩) hHeld ?_
                  rotate_left
                  · (intro w hSw; (try dsimp only at hSw); go_simp; try with_reducible rfl)
                  try simp only [Act.put, List.setIfInBounds_toArray, List.set_cons_zero, List.set_cons_succ]
                  refine wpAnyH_take (i := 8) (oi := _) (v := ?_) (by rw [List.getElem?_toArray]; exact rfl) (by kernel_rfl) (by kernel_rfl) (by kernel_rfl) (by exact fun _ _ _ h => h) (Or.inl ⟨by rfl, ?_⟩) hHeld ?_
                  rotate_left
                  · (intro w hSw; (try dsimp only at hSw); go_simp; try with_reducible rfl)
                  try simp only [Act.put, List.setIfInBounds_toArray, List.set_cons_zero, List.set_cons_succ]
                  refine wpAnyH_take (i := 9) (oi := _) (v := ?_) (by rw [List.getElem?_toArray]; exact rfl) (by kernel_rfl) (by kernel_rfl) (by kernel_rfl) (by exact fun _ _ _ h => h) (Or.inl ⟨by rfl, ?_⟩) hHeld ?_
                  rotate_left
                  · (intro w hSw; (try dsimp only at hSw); go_simp; try with_reducible rfl)
                  try simp only [Act.put, List.setIfInBounds_toArray, List.set_cons_zero, List.set_cons_succ]
                  refine wpAnyH_take (i := 10) (oi := _) (v := ?_) (by rw [List.getElem?_toArray]; exact rfl) (by kernel_rfl) (by kernel_rfl) (by kernel_rfl) (by exact fun _ _ _ h => h) (Or.inl ⟨by rfl, ?_⟩) hHeld ?_
                  rotate_left
                  · (intro w hSw; (try dsimp only at hSw); go_simp; try with_reducible rfl)
                  try simp only [Act.put, List.setIfInBounds_toArray, List.set_cons_zero, List.set_cons_succ]
                  refine wpAnyH_ready (rs := [11]) (by kernel_rfl) (by simp) ?_
                  refine AllReadyH.cons (o := _) (by rw [List.getElem?_toArray]; exact rfl) (fun K hK => ?_) ?_
                  rotate_left
                  · exact AllReadyH.nil
                  go_simp
                  refine (allows_any f m L la p.1 p.2 _ hHeld.1 hzp).mono ?_; rintro e w1 ⟨rfl, hB1⟩
                  go_wp2_with fail
                  refine hK.out _ _ (held5 hHeld hB1) (fun hHeld => ?_)
                  clear hK K
                  try simp only [Act.put, List.setIfInBounds_toArray, List.set_cons_zero, List.set_cons_succ]
                  refine wpAnyH_take (i := 12) (oi := _) (v := ?_) (by rw [List.getElem?_toArray]; exact rfl) (by kernel_rfl) (by kernel_rfl) (by kernel_rfl) (by exact fun _ _ _ h => h) (Or.inl ⟨by rfl, ?_⟩) hHeld ?_
                  rotate_left
                  · (intro w hSw; (try dsimp only at hSw); go_simp; try with_reducible rfl)
                  try simp only [Act.put, List.setIfInBounds_toArray, List.set_cons_zero, List.set_cons_succ]
                  refine wpAnyH_take (i := 13) (oi := _) (v := ?_) (by rw [List.getElem?_toArray]; exact rfl) (by kernel_rfl) (by kernel_rfl) (by kernel_rfl) (by exact fun _ _ _ h => h) (Or.inl ⟨by rfl, ?_⟩) hHeld ?_
                  rotate_left
                  · (intro w hSw; (try dsimp only at hSw); go_simp; try with_reducible rfl)
                  try simp only [Act.put, List.setIfInBounds_toArray, List.set_cons_zero, List.set_cons_succ]
                  refine wpAnyH_take (i := 14) (oi := _) (v := ?_) (by rw [List.getElem?_toArray]; exact rfl) (by kernel_rfl) (by kernel_rfl) (by kernel_rfl) (by exact fun _ _ _ h => h) (Or.inl ⟨by rfl, ?_⟩) hHeld ?_
                  rotate_left
                  · (intro w hSw; (try dsimp only at hSw); go_simp; try with_reducible rfl)
                  try simp only [Act.put, List.setIfInBounds_toArray, List.set_cons_zero, List.set_cons_succ]
                  refine wpAnyH_take (i := 15) (oi := _) (v := ?_) (by rw [List.getElem?_toArray]; exact rfl) (by kernel_rfl) (by kernel_rfl) (by kernel_rfl) (by exact fun _ _ _ h => h) (Or.inl ⟨by rfl, ?_⟩) hHeld ?_
                  rotate_left
                  · (intro w hSw; (try dsimp only at hSw); go_simp; try with_reducible rfl)
                  try simp only [Act.put, List.setIfInBounds_toArray, List.set_cons_zero, List.set_cons_succ]
                  refine wpAnyH_take (i := 16) (oi := _) (v := ?_) (by rw [List.getElem?_toArray]; exact rfl) (by kernel_rfl) (by kernel_rfl) (by kernel_rfl) (by exact fun _ _ _ h => h) (Or.inl ⟨by rfl, ?_⟩) hHeld ?_
                  rotate_left
                  · (intro w hSw; (try dsimp only at hSw); go_simp; try with_reducible rfl)
                  try simp only [Act.put, List.setIfInBounds_toArray, List.set_cons_zero, List.set_cons_succ]
                  refine wpAnyH_take (i := 17) (oi := _) (v := ?_) (by rw [List.getElem?_toArray]; exact rfl) (by kernel_rfl) (by kernel_rfl) (by kernel_rfl) (by exact fun _ _ _ h => h) (Or.inl ⟨by rfl, ?_⟩) hHeld ?_
                  rotate_left
                  · (intro w hSw; (try dsimp only at hSw); go_simp; try with_reducible rfl)
                  try simp only [Act.put, List.setIfInBounds_toArray, List.set_cons_zero, List.set_cons_succ]
                  refine wpAnyH_take (i := 18) (oi := _) (v := ?_) (by rw [List.getElem?_toArray]; exact rfl) (by kernel_rfl) (by kernel_rfl) (by kernel_rfl) (by exact fun _ _ _ h => h) (Or.inl ⟨by rfl, ?_⟩) hHeld ?_
                  rotate_left
                  · (intro w hSw; (try dsimp only at hSw); go_simp; try with_reducible rfl)
                  try simp only [Act.put, List.setIfInBounds_toArray, List.set_cons_zero, List.set_cons_succ]
                  refine wpAnyH_take (i := 19) (oi := _) (v := ?_) (by rw [List.getElem?_toArray]; exact rfl) (by kernel_rfl) (by kernel_rfl) (by kernel_rfl) (by exact fun _ _ _ h => h) (Or.inl ⟨by rfl, ?_⟩) hHeld ?_
                  rotate_left
                  · (intro w hSw; (try dsimp only at hSw); go_simp; try with_reducible rfl)
                  try simp only [Act.put, List.setIfInBounds_toArray, List.set_cons_zero, List.set_cons_succ]
                  refine wpAnyH_take (i := 20) (oi := _) (v := ?_) (by rw [List.getElem?_toArray]; exact rfl) (by kernel_rfl) (by kernel_rfl) (by kernel_rfl) (by exact fun _ _ _ h => h) (Or.inl ⟨by rfl, ?_⟩) hHeld ?_
                  rotate_left
                  · (intro w hSw; (try dsimp only at hSw); go_simp; try with_reducible rfl)
                  try simp only [Act.put, List.setIfInBounds_toArray, List.set_cons_zero, List.set_cons_succ]
                  refine wpAnyH_take (i := 21) (oi := _) (v := ?_) (by rw [List.getElem?_toArray]; exact rfl) (by kernel_rfl) (by kernel_rfl) (by kernel_rfl) (by exact fun _ _ _ h => h) (Or.inl ⟨by rfl, ?_⟩) hHeld ?_
                  rotate_left
                  · (intro w hSw; (try dsimp only at hSw); go_simp; try with_reducible rfl)
                  try simp only [Act.put, List.setIfInBounds_toArray, List.set_cons_zero, List.set_cons_succ]
                  refine wpAnyH_take (i := 22) (oi := _) (v := ?_) (by rw [List.getElem?_toArray]; exact rfl) (by kernel_rfl) (by kernel_rfl) (by kernel_rfl) (by exact fun _ _ _ h => h) (Or.inl ⟨by rfl, ?_⟩) hHeld ?_
                  rotate_left
                  · (intro w hSw; (try dsimp only at hSw); go_simp; try with_reducible rfl)
                  try simp only [Act.put, List.setIfInBounds_toArray, List.set_cons_zero, List.set_cons_succ]
                  refine wpAnyH_ready (rs := [23]) (by kernel_rfl) (by simp) ?_
                  refine AllReadyH.cons (o := _) (by rw [List.getElem?_toArray]; exact rfl) (fun K hK => ?_) ?_
                  rotate_left
                  · exact AllReadyH.nil
                  go_simp
                  refine (hU _).mono ?_; rintro e w2 ⟨rfl, rfl⟩
                  go_wp2_with fail
                  refine hK.out _ _ (held5 hHeld (Below.refl _ _)) (fun hHeld => ?_)
                  clear hK K
                  try simp only [Act.put, List.setIfInBounds_toArray, List.set_cons_zero, List.set_cons_succ]
                  refine wpAnyH_take (i := 24) (oi := _) (v := ?_) (by rw [List.getElem?_toArray]; exact rfl) (by kernel_rfl) (by kernel_rfl) (by kernel_rfl) (by exact fun _ _ _ h => h) (Or.inl ⟨by rfl, ?_⟩) hHeld ?_
                  rotate_left
                  · (intro w hSw; (try dsimp only at hSw); go_simp; try with_reducible rfl)
                  try simp only [Act.put, List.setIfInBounds_toArray, List.set_cons_zero, List.set_cons_succ]
                  refine wpAnyH_take (i := 25) (oi := _) (v := undef) (by rw [List.getElem?_toArray]; exact rfl) (by kernel_rfl) (by kernel_rfl) (by kernel_rfl) (by exact fun _ _ _ h => h) (Or.inr ⟨by rfl, rfl⟩) hHeld ?_
                  try simp only [Act.put, List.setIfInBounds_toArray, List.set_cons_zero, List.set_cons_succ]
                  refine wpAnyH_take (i := 26) (oi := _) (v := undef) (by rw [List.getElem?_toArray]; exact rfl) (by kernel_rfl) (by kernel_rfl) (by kernel_rfl) (by exact fun _ _ _ h => h) (Or.inr ⟨by rfl, rfl⟩) hHeld ?_
                  try simp only [Act.put, List.setIfInBounds_toArray, List.set_cons_zero, List.set_cons_succ]
                  refine wpAnyH_take (i := 27) (oi := _) (v := undef) (by rw [List.getElem?_toArray]; exact rfl) (by kernel_rfl) (by kernel_rfl) (by kernel_rfl) (by exact fun _ _ _ h => h) (Or.inr ⟨by rfl, rfl⟩) hHeld ?_
                  try simp only [Act.put, List.setIfInBounds_toArray, List.set_cons_zero, List.set_cons_succ]
                  refine wpAnyH_take (i := 28) (oi := _) (v := undef) (by rw [List.getElem?_toArray]; exact rfl) (by kernel_rfl) (by kernel_rfl) (by kernel_rfl) (by exact fun _ _ _ h => h) (Or.inr ⟨by rfl, rfl⟩) hHeld ?_
                  try simp only [Act.put, List.setIfInBounds_toArray, List.set_cons_zero, List.set_cons_succ]
                  refine wpAnyH_take (i := 29) (oi := _) (v := undef) (by rw [List.getElem?_toArray]; exact rfl) (by kernel_rfl) (by kernel_rfl) (by kernel_rfl) (by exact fun _ _ _ h => h) (Or.inr ⟨by rfl, rfl⟩) hHeld ?_
                  try simp only [Act.put, List.setIfInBounds_toArray, List.set_cons_zero, List.set_cons_succ]
                  refine wpAnyH_take (i := 30) (oi := _) (v := undef) (by rw [List.getElem?_toArray]; exact rfl) (by kernel_rfl) (by kernel_rfl) (by kernel_rfl) (by exact fun _ _ _ h => h) (Or.inr ⟨by rfl, rfl⟩) hHeld ?_
                  try simp only [Act.put, List.setIfInBounds_toArray, List.set_cons_zero, List.set_cons_succ]
                  refine wpAnyH_take (i := 31) (oi := _) (v := undef) (by rw [List.getElem?_toArray]; exact rfl) (by kernel_rfl) (by kernel_rfl) (by kernel_rfl) (by exact fun _ _ _ h => h) (Or.inr ⟨by rfl, rfl⟩) hHeld ?_
                  try simp only [Act.put, List.setIfInBounds_toArray, List.set_cons_zero, List.set_cons_succ]
                  refine wpAnyH_take (i := 32) (oi := _) (v := undef) (by rw [List.getElem?_toArray]; exact rfl) (by kernel_rfl) (by kernel_rfl) (by kernel_rfl) (by exact fun _ _ _ h => h) (Or.inr ⟨by rfl, rfl⟩) hHeld ?_
                  try simp only [Act.put, List.setIfInBounds_toArray, List.set_cons_zero, List.set_cons_succ]
                  refine wpAnyH_take (i := 33) (oi := _) (v := undef) (by rw [List.getElem?_toArray]; exact rfl) (by kernel_rfl) (by kernel_rfl) (by kernel_rfl) (by exact fun _ _ _ h => h) (Or.inr ⟨by rfl, rfl⟩) hHeld ?_
                  try simp only [Act.put, List.setIfInBounds_toArray, List.set_cons_zero, List.set_cons_succ]
                  refine wpAnyH_take (i := 34) (oi := _) (v := undef) (by rw [List.getElem?_toArray]; exact rfl) (by kernel_rfl) (by kernel_rfl) (by kernel_rfl) (by exact fun _ _ _ h => h) (Or.inr ⟨by rfl, rfl⟩) hHeld ?_
                  try simp only [Act.put, List.setIfInBounds_toArray, List.set_cons_zero, List.set_cons_succ]
                  refine wpAnyH_take (i := 35) (oi := _) (v := ?_) (by rw [List.getElem?_toArray]; exact rfl) (by kernel_rfl) (by kernel_rfl) (by kernel_rfl) (by exact fun _ _ _ h => h) (Or.inl ⟨by rfl, ?_⟩) hHeld ?_
                  rotate_left
                  · (intro w hSw; (try dsimp only at hSw); go_simp; try with_reducible rfl)
                  try simp only [Act.put, List.setIfInBounds_toArray, List.set_cons_zero, List.set_cons_succ]
                  refine wpAnyH_take (i := 36) (oi := _) (v := ?_) (by rw [List.getElem?_toArray]; exact rfl) (by kernel_rfl) (by kernel_rfl) (by kernel_rfl) (by exact fun _ _ _ h => h) (Or.inl ⟨by rfl, ?_⟩) hHeld ?_
                  rotate_left
                  · (intro w hSw; (try dsimp only at hSw); go_simp; try with_reducible rfl)
                  try simp only [Act.put, List.setIfInBounds_toArray, List.set_cons_zero, List.set_cons_succ]
                  refine wpAnyH_done (by kernel_rfl) ?_ _
                  go_wp2_with fail
                  go_meet
                  exact ⟨rfl, hHeld.2.1⟩
                · have hU : ∀ w, Calls Try.prog 23 #[.string n.2, .string p.1.2] w fun e w' => e = .returned (.bool true) ∧ w = w' := fun w => by
                    have := runder_any n.2 p.1.2 w hx.out hzp
                    rwa [hu] at this
                  clear hu
                  go_wp2_with fail
                  refine wp_region_held_drew (S := fun x => Fen x f m L la ∧ Below wr.heap.size wr x ∧ x.cell? ⟨b6, off6 + j * 3, none⟩ = some (.int .u64 p.1.1) ∧ x.cell? ⟨b6, off6 + j * 3 + 1, none⟩ = some (.string p.1.2) ∧ x.cell? ⟨b6, off6 + j * 3 + 2, none⟩ = some (.int .u64 p.2) ∧ x.cell? ⟨s, 1, none⟩ = some (.int .u64 n.1) ∧ x.cell? ⟨s, 2, none⟩ = some (.string n.2)) (by kernel_rfl) (held5 S0 (Below.refl _ _).drew) (fun hHeld => ?_)
                  refine wpAnyH_take (i := 0) (oi := _) (v := ?_) (by rw [List.getElem?_toArray]; exact rfl) (by kernel_rfl) (by kernel_rfl) (by kernel_rfl) (by exact fun _ _ _ h => h) (Or.inl ⟨by rfl, ?_⟩) hHeld ?_
                  rotate_left
                  · (intro w hSw; (try dsimp only at hSw); go_simp; try with_reducible rfl)
                  try simp only [Act.put, List.setIfInBounds_toArray, List.set_cons_zero, List.set_cons_succ]
                  refine wpAnyH_take (i := 1) (oi := _) (v := ?_) (by rw [List.getElem?_toArray]; exact rfl) (by kernel_rfl) (by kernel_rfl) (by kernel_rfl) (by exact fun _ _ _ h => h) (Or.inl ⟨by rfl, ?_⟩) hHeld ?_
                  rotate_left
                  · (intro w hSw; (try dsimp only at hSw); go_simp; try with_reducible rfl)
                  try simp only [Act.put, List.setIfInBounds_toArray, List.set_cons_zero, List.set_cons_succ]
                  refine wpAnyH_take (i := 2) (oi := _) (v := ?_) (by rw [List.getElem?_toArray]; exact rfl) (by kernel_rfl) (by kernel_rfl) (by kernel_rfl) (by exact fun _ _ _ h => h) (Or.inl ⟨by rfl, ?_⟩) hHeld ?_
                  rotate_left
                  · (intro w hSw; (try dsimp only at hSw); go_simp; try with_reducible rfl)
                  try simp only [Act.put, List.setIfInBounds_toArray, List.set_cons_zero, List.set_cons_succ]
                  refine wpAnyH_take (i := 3) (oi := _) (v := ?_) (by rw [List.getElem?_toArray]; exact rfl) (by kernel_rfl) (by kernel_rfl) (by kernel_rfl) (by exact fun _ _ _ h => h) (Or.inl ⟨by rfl, ?_⟩) hHeld ?_
                  rotate_left
                  · (intro w hSw; (try dsimp only at hSw); go_simp; try with_reducible rfl)
                  try simp only [Act.put, List.setIfInBounds_toArray, List.set_cons_zero, List.set_cons_succ]
                  refine wpAnyH_take (i := 4) (oi := _) (v := ?_) (by rw [List.getElem?_toArray]; exact rfl) (by kernel_rfl) (by kernel_rfl) (by kernel_rfl) (by exact fun _ _ _ h => h) (Or.inl ⟨by rfl, ?_⟩) hHeld ?_
                  rotate_left
                  · (intro w hSw; (try dsimp only at hSw); go_simp; try with_reducible rfl)
                  try simp only [Act.put, List.setIfInBounds_toArray, List.set_cons_zero, List.set_cons_succ]
                  refine wpAnyH_take (i := 5) (oi := _) (v := ?_) (by rw [List.getElem?_toArray]; exact rfl) (by kernel_rfl) (by kernel_rfl) (by kernel_rfl) (by exact fun _ _ _ h => h) (Or.inl ⟨by rfl, ?_⟩) hHeld ?_
                  rotate_left
                  · (intro w hSw; (try dsimp only at hSw); go_simp; try with_reducible rfl)
                  try simp only [Act.put, List.setIfInBounds_toArray, List.set_cons_zero, List.set_cons_succ]
                  refine wpAnyH_take (i := 6) (oi := _) (v := ?_) (by rw [List.getElem?_toArray]; exact rfl) (by kernel_rfl) (by kernel_rfl) (by kernel_rfl) (by exact fun _ _ _ h => h) (Or.inl ⟨by rfl, ?_⟩) hHeld ?_
                  rotate_left
                  · (intro w hSw; (try dsimp only at hSw); go_simp; try with_reducible rfl)
                  try simp only [Act.put, List.setIfInBounds_toArray, List.set_cons_zero, List.set_cons_succ]
                  refine wpAnyH_take (i := 7) (oi := _) (v := ?_) (by rw [List.getElem?_toArray]; exact rfl) (by kernel_rfl) (by kernel_rfl) (by kernel_rfl) (by exact fun _ _ _ h => h) (Or.inl ⟨by rfl, ?_⟩) hHeld ?_
                  rotate_left
                  · (intro w hSw; (try dsimp only at hSw); go_simp; try with_reducible rfl)
                  try simp only [Act.put, List.setIfInBounds_toArray, List.set_cons_zero, List.set_cons_succ]
                  refine wpAnyH_take (i := 8) (oi := _) (v := ?_) (by rw [List.getElem?_toArray]; exact rfl) (by kernel_rfl) (by kernel_rfl) (by kernel_rfl) (by exact fun _ _ _ h => h) (Or.inl ⟨by rfl, ?_⟩) hHeld ?_
                  rotate_left
                  · (intro w hSw; (try dsimp only at hSw); go_simp; try with_reducible rfl)
                  try simp only [Act.put, List.setIfInBounds_toArray, List.set_cons_zero, List.set_cons_succ]
                  refine wpAnyH_take (i := 9) (oi := _) (v := ?_) (by rw [List.getElem?_toArray]; exact rfl) (by kernel_rfl) (by kernel_rfl) (by kernel_rfl) (by exact fun _ _ _ h => h) (Or.inl ⟨by rfl, ?_⟩) hHeld ?_
                  rotate_left
                  · (intro w hSw; (try dsimp only at hSw); go_simp; try with_reducible rfl)
                  try simp only [Act.put, List.setIfInBounds_toArray, List.set_cons_zero, List.set_cons_succ]
                  refine wpAnyH_take (i := 10) (oi := _) (v := ?_) (by rw [List.getElem?_toArray]; exact rfl) (by kernel_rfl) (by kernel_rfl) (by kernel_rfl) (by exact fun _ _ _ h => h) (Or.inl ⟨by rfl, ?_⟩) hHeld ?_
                  rotate_left
                  · (intro w hSw; (try dsimp only at hSw); go_simp; try with_reducible rfl)
                  try simp only [Act.put, List.setIfInBounds_toArray, List.set_cons_zero, List.set_cons_succ]
                  refine wpAnyH_ready (rs := [11]) (by kernel_rfl) (by simp) ?_
                  refine AllReadyH.cons (o := _) (by rw [List.getElem?_toArray]; exact rfl) (fun K hK => ?_) ?_
                  rotate_left
                  · exact AllReadyH.nil
                  go_simp
                  refine (allows_any f m L la p.1 p.2 _ hHeld.1 hzp).mono ?_; rintro e w1 ⟨rfl, hB1⟩
                  go_wp2_with fail
                  refine hK.out _ _ (held5 hHeld hB1) (fun hHeld => ?_)
                  clear hK K
                  try simp only [Act.put, List.setIfInBounds_toArray, List.set_cons_zero, List.set_cons_succ]
                  refine wpAnyH_take (i := 12) (oi := _) (v := ?_) (by rw [List.getElem?_toArray]; exact rfl) (by kernel_rfl) (by kernel_rfl) (by kernel_rfl) (by exact fun _ _ _ h => h) (Or.inl ⟨by rfl, ?_⟩) hHeld ?_
                  rotate_left
                  · (intro w hSw; (try dsimp only at hSw); go_simp; try with_reducible rfl)
                  try simp only [Act.put, List.setIfInBounds_toArray, List.set_cons_zero, List.set_cons_succ]
                  refine wpAnyH_take (i := 13) (oi := _) (v := ?_) (by rw [List.getElem?_toArray]; exact rfl) (by kernel_rfl) (by kernel_rfl) (by kernel_rfl) (by exact fun _ _ _ h => h) (Or.inl ⟨by rfl, ?_⟩) hHeld ?_
                  rotate_left
                  · (intro w hSw; (try dsimp only at hSw); go_simp; try with_reducible rfl)
                  try simp only [Act.put, List.setIfInBounds_toArray, List.set_cons_zero, List.set_cons_succ]
                  refine wpAnyH_take (i := 14) (oi := _) (v := ?_) (by rw [List.getElem?_toArray]; exact rfl) (by kernel_rfl) (by kernel_rfl) (by kernel_rfl) (by exact fun _ _ _ h => h) (Or.inl ⟨by rfl, ?_⟩) hHeld ?_
                  rotate_left
                  · (intro w hSw; (try dsimp only at hSw); go_simp; try with_reducible rfl)
                  try simp only [Act.put, List.setIfInBounds_toArray, List.set_cons_zero, List.set_cons_succ]
                  refine wpAnyH_take (i := 15) (oi := _) (v := ?_) (by rw [List.getElem?_toArray]; exact rfl) (by kernel_rfl) (by kernel_rfl) (by kernel_rfl) (by exact fun _ _ _ h => h) (Or.inl ⟨by rfl, ?_⟩) hHeld ?_
                  rotate_left
                  · (intro w hSw; (try dsimp only at hSw); go_simp; try with_reducible rfl)
                  try simp only [Act.put, List.setIfInBounds_toArray, List.set_cons_zero, List.set_cons_succ]
                  refine wpAnyH_take (i := 16) (oi := _) (v := ?_) (by rw [List.getElem?_toArray]; exact rfl) (by kernel_rfl) (by kernel_rfl) (by kernel_rfl) (by exact fun _ _ _ h => h) (Or.inl ⟨by rfl, ?_⟩) hHeld ?_
                  rotate_left
                  · (intro w hSw; (try dsimp only at hSw); go_simp; try with_reducible rfl)
                  try simp only [Act.put, List.setIfInBounds_toArray, List.set_cons_zero, List.set_cons_succ]
                  refine wpAnyH_take (i := 17) (oi := _) (v := ?_) (by rw [List.getElem?_toArray]; exact rfl) (by kernel_rfl) (by kernel_rfl) (by kernel_rfl) (by exact fun _ _ _ h => h) (Or.inl ⟨by rfl, ?_⟩) hHeld ?_
                  rotate_left
                  · (intro w hSw; (try dsimp only at hSw); go_simp; try with_reducible rfl)
                  try simp only [Act.put, List.setIfInBounds_toArray, List.set_cons_zero, List.set_cons_succ]
                  refine wpAnyH_take (i := 18) (oi := _) (v := ?_) (by rw [List.getElem?_toArray]; exact rfl) (by kernel_rfl) (by kernel_rfl) (by kernel_rfl) (by exact fun _ _ _ h => h) (Or.inl ⟨by rfl, ?_⟩) hHeld ?_
                  rotate_left
                  · (intro w hSw; (try dsimp only at hSw); go_simp; try with_reducible rfl)
                  try simp only [Act.put, List.setIfInBounds_toArray, List.set_cons_zero, List.set_cons_succ]
                  refine wpAnyH_take (i := 19) (oi := _) (v := ?_) (by rw [List.getElem?_toArray]; exact rfl) (by kernel_rfl) (by kernel_rfl) (by kernel_rfl) (by exact fun _ _ _ h => h) (Or.inl ⟨by rfl, ?_⟩) hHeld ?_
                  rotate_left
                  · (intro w hSw; (try dsimp only at hSw); go_simp; try with_reducible rfl)
                  try simp only [Act.put, List.setIfInBounds_toArray, List.set_cons_zero, List.set_cons_succ]
                  refine wpAnyH_take (i := 20) (oi := _) (v := ?_) (by rw [List.getElem?_toArray]; exact rfl) (by kernel_rfl) (by kernel_rfl) (by kernel_rfl) (by exact fun _ _ _ h => h) (Or.inl ⟨by rfl, ?_⟩) hHeld ?_
                  rotate_left
                  · (intro w hSw; (try dsimp only at hSw); go_simp; try with_reducible rfl)
                  try simp only [Act.put, List.setIfInBounds_toArray, List.set_cons_zero, List.set_cons_succ]
                  refine wpAnyH_take (i := 21) (oi := _) (v := ?_) (by rw [List.getElem?_toArray]; exact rfl) (by kernel_rfl) (by kernel_rfl) (by kernel_rfl) (by exact fun _ _ _ h => h) (Or.inl ⟨by rfl, ?_⟩) hHeld ?_
                  rotate_left
                  · (intro w hSw; (try dsimp only at hSw); go_simp; try with_reducible rfl)
                  try simp only [Act.put, List.setIfInBounds_toArray, List.set_cons_zero, List.set_cons_succ]
                  refine wpAnyH_take (i := 22) (oi := _) (v := ?_) (by rw [List.getElem?_toArray]; exact rfl) (by kernel_rfl) (by kernel_rfl) (by kernel_rfl) (by exact fun _ _ _ h => h) (Or.inl ⟨by rfl, ?_⟩) hHeld ?_
                  rotate_left
                  · (intro w hSw; (try dsimp only at hSw); go_simp; try with_reducible rfl)
                  try simp only [Act.put, List.setIfInBounds_toArray, List.set_cons_zero, List.set_cons_succ]
                  refine wpAnyH_ready (rs := [23]) (by kernel_rfl) (by simp) ?_
                  refine AllReadyH.cons (o := _) (by rw [List.getElem?_toArray]; exact rfl) (fun K hK => ?_) ?_
                  rotate_left
                  · exact AllReadyH.nil
                  go_simp
                  refine (hU _).mono ?_; rintro e w2 ⟨rfl, rfl⟩
                  go_wp2_with fail
                  refine hK.out _ _ (held5 hHeld (Below.refl _ _)) (fun hHeld => ?_)
                  clear hK K
                  try simp only [Act.put, List.setIfInBounds_toArray, List.set_cons_zero, List.set_cons_succ]
                  refine wpAnyH_take (i := 24) (oi := _) (v := ?_) (by rw [List.getElem?_toArray]; exact rfl) (by kernel_rfl) (by kernel_rfl) (by kernel_rfl) (by exact fun _ _ _ h => h) (Or.inl ⟨by rfl, ?_⟩) hHeld ?_
                  rotate_left
                  · (intro w hSw; (try dsimp only at hSw); go_simp; try with_reducible rfl)
                  try simp only [Act.put, List.setIfInBounds_toArray, List.set_cons_zero, List.set_cons_succ]
                  refine wpAnyH_take (i := 25) (oi := _) (v := ?_) (by rw [List.getElem?_toArray]; exact rfl) (by kernel_rfl) (by kernel_rfl) (by kernel_rfl) (by exact fun _ _ _ h => h) (Or.inl ⟨by rfl, ?_⟩) hHeld ?_
                  rotate_left
                  · (intro w hSw; (try dsimp only at hSw); go_simp; try with_reducible rfl)
                  try simp only [Act.put, List.setIfInBounds_toArray, List.set_cons_zero, List.set_cons_succ]
                  refine wpAnyH_take (i := 26) (oi := _) (v := ?_) (by rw [List.getElem?_toArray]; exact rfl) (by kernel_rfl) (by kernel_rfl) (by kernel_rfl) (by exact fun _ _ _ h => h) (Or.inl ⟨by rfl, ?_⟩) hHeld ?_
                  rotate_left
                  · (intro w hSw; (try dsimp only at hSw); go_simp; try with_reducible rfl)
                  try simp only [Act.put, List.setIfInBounds_toArray, List.set_cons_zero, List.set_cons_succ]
                  refine wpAnyH_take (i := 27) (oi := _) (v := ?_) (by rw [List.getElem?_toArray]; exact rfl) (by kernel_rfl) (by kernel_rfl) (by kernel_rfl) (by exact fun _ _ _ h => h) (Or.inl ⟨by rfl, ?_⟩) hHeld ?_
                  rotate_left
                  · (intro w hSw; (try dsimp only at hSw); go_simp; try with_reducible rfl)
                  try simp only [Act.put, List.setIfInBounds_toArray, List.set_cons_zero, List.set_cons_succ]
                  refine wpAnyH_take (i := 28) (oi := _) (v := ?_) (by rw [List.getElem?_toArray]; exact rfl) (by kernel_rfl) (by kernel_rfl) (by kernel_rfl) (by exact fun _ _ _ h => h) (Or.inl ⟨by rfl, ?_⟩) hHeld ?_
                  rotate_left
                  · (intro w hSw; (try dsimp only at hSw); go_simp; try with_reducible rfl)
                  try simp only [Act.put, List.setIfInBounds_toArray, List.set_cons_zero, List.set_cons_succ]
                  refine wpAnyH_take (i := 29) (oi := _) (v := ?_) (by rw [List.getElem?_toArray]; exact rfl) (by kernel_rfl) (by kernel_rfl) (by kernel_rfl) (by exact fun _ _ _ h => h) (Or.inl ⟨by rfl, ?_⟩) hHeld ?_
                  rotate_left
                  · (intro w hSw; (try dsimp only at hSw); go_simp; try with_reducible rfl)
                  try simp only [Act.put, List.setIfInBounds_toArray, List.set_cons_zero, List.set_cons_succ]
                  refine wpAnyH_take (i := 30) (oi := _) (v := ?_) (by rw [List.getElem?_toArray]; exact rfl) (by kernel_rfl) (by kernel_rfl) (by kernel_rfl) (by exact fun _ _ _ h => h) (Or.inl ⟨by rfl, ?_⟩) hHeld ?_
                  rotate_left
                  · (intro w hSw; (try dsimp only at hSw); go_simp; try with_reducible rfl)
                  try simp only [Act.put, List.setIfInBounds_toArray, List.set_cons_zero, List.set_cons_succ]
                  refine wpAnyH_take (i := 31) (oi := _) (v := ?_) (by rw [List.getElem?_toArray]; exact rfl) (by kernel_rfl) (by kernel_rfl) (by kernel_rfl) (by exact fun _ _ _ h => h) (Or.inl ⟨by rfl, ?_⟩) hHeld ?_
                  rotate_left
                  · (intro w hSw; (try dsimp only at hSw); go_simp; try with_reducible rfl)
                  try simp only [Act.put, List.setIfInBounds_toArray, List.set_cons_zero, List.set_cons_succ]
                  refine wpAnyH_take (i := 32) (oi := _) (v := ?_) (by rw [List.getElem?_toArray]; exact rfl) (by kernel_rfl) (by kernel_rfl) (by kernel_rfl) (by exact fun _ _ _ h => h) (Or.inl ⟨by rfl, ?_⟩) hHeld ?_
                  rotate_left
                  · (intro w hSw; (try dsimp only at hSw); go_simp; try with_reducible rfl)
                  try simp only [Act.put, List.setIfInBounds_toArray, List.set_cons_zero, List.set_cons_succ]
                  refine wpAnyH_ready (rs := [33]) (by kernel_rfl) (by simp) ?_
                  refine AllReadyH.cons (o := _) (by rw [List.getElem?_toArray]; exact rfl) (fun K hK => ?_) ?_
                  rotate_left
                  · exact AllReadyH.nil
                  go_simp
                  refine (allows_any f m L la n p.2 _ hHeld.1 hx.out).mono ?_; rintro e w3 ⟨rfl, hB3⟩
                  go_wp2_with fail
                  refine hK.out _ _ (held5 hHeld hB3) (fun hHeld => ?_)
                  clear hK K
                  try simp only [Act.put, List.setIfInBounds_toArray, List.set_cons_zero, List.set_cons_succ]
                  refine wpAnyH_take (i := 34) (oi := _) (v := ?_) (by rw [List.getElem?_toArray]; exact rfl) (by kernel_rfl) (by kernel_rfl) (by kernel_rfl) (by exact fun _ _ _ h => h) (Or.inl ⟨by rfl, ?_⟩) hHeld ?_
                  rotate_left
                  · (intro w hSw; (try dsimp only at hSw); go_simp; try with_reducible rfl)
                  try simp only [Act.put, List.setIfInBounds_toArray, List.set_cons_zero, List.set_cons_succ]
                  refine wpAnyH_take (i := 35) (oi := _) (v := ?_) (by rw [List.getElem?_toArray]; exact rfl) (by kernel_rfl) (by kernel_rfl) (by kernel_rfl) (by exact fun _ _ _ h => h) (Or.inl ⟨by rfl, ?_⟩) hHeld ?_
                  rotate_left
                  · (intro w hSw; (try dsimp only at hSw); go_simp; try with_reducible rfl)
                  try simp only [Act.put, List.setIfInBounds_toArray, List.set_cons_zero, List.set_cons_succ]
                  refine wpAnyH_take (i := 36) (oi := _) (v := ?_) (by rw [List.getElem?_toArray]; exact rfl) (by kernel_rfl) (by kernel_rfl) (by kernel_rfl) (by exact fun _ _ _ h => h) (Or.inl ⟨by rfl, ?_⟩) hHeld ?_
                  rotate_left
                  · (intro w hSw; (try dsimp only at hSw); go_simp; try with_reducible rfl)
                  try simp only [Act.put, List.setIfInBounds_toArray, List.set_cons_zero, List.set_cons_succ]
                  refine wpAnyH_done (by kernel_rfl) ?_ _
                  go_wp2_with fail
                  go_meet
                  exact ⟨rfl, hHeld.2.1⟩
              case rest =>
                obtain ⟨rfl, hB2⟩ := hcut
                clear S0 r1 r2 hzp
                have HB2 := Lib.hid (HB.out.trans (hB2.mono HB.out.size))
                clear HB hB2
                go_wp2_with fail
                go_roundg (gk - 1)
                case rel => exact ⟨j + 1, by omega, by go_num, HB2.out⟩
                case measure => omega
            · clear hS2
              go_wp2_with fail
              go_roundg (gko - 1)
              case rel => exact ⟨k + 1, L, D, V, la, by omega, rfl, by go_num, HX.out, HP.out⟩
              case measure => omega
      · clear HP
        go_wp2_with fail
        refine (last_call f m L la _ HE.out.wk.fen).mono ?_
        rintro e w3 ⟨rfl, rfl⟩
        have HB := Lib.hid HE.out.wk.low
        clear HE
        go_wp2_with fail
        refine (works_any _).mono ?_
        rintro e w3 ⟨rfl, hB⟩
        have HB2 := Lib.hid (HB.out.trans (hB.mono HB.out.size))
        clear HB hB
        go_wp2_with fail
        go_ret
        exact ⟨ret_bool rfl, HB2.out⟩
  · go_wp2_with fail
    refine (works_any _).mono ?_
    rintro e w1 ⟨rfl, hB⟩
    go_wp2_with fail
    go_ret
    exact ⟨ret_bool rfl, hB⟩
theorem fences_row (v : Value) (W : World) (h : ∃ l, ReadsK encS 4 W v l ∧ l.length ≤ maxLen ∧ ∀ x ∈ l, x.2.1.2.size ≤ maxLen) :
    Calls Try.prog 4 #[v] W fun e w' => e = .returned (.bool true) ∧ Below W.heap.size W w' := by
  obtain ⟨l, hr, hl, hz⟩ := h
  unfold maxLen at hl hz
  exact fences_any v l W hr (fun x hx => by have := hz x hx; omega) (by omega)
end Go.Proofs.Ytbelafkklblidaa
