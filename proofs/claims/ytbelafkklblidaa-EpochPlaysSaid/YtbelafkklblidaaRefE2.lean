/- Contracts: find, Take of the document's fences. -/
import Derived.Test.YtbelafkklblidaaRefE1
namespace Go.Proofs.Ytbelafkklblidaa
open Go.RowKit Go.Sort Go.Lib

def idxG (l : List Gr) (n : Nm) : Nat := l.findIdx (fun p => decide (p.1 = n))
def findR (l : List Gr) (n : Nm) : Int := if idxG l n < l.length then idxG l n else -1
theorem findR_hit {l : List Gr} {n : Nm} {k : Nat} (hk : k < l.length) (h : ∀ j, (hj : j < l.length) → j < k → l[j].1 ≠ n) (hb : l[k].1 = n) : findR l n = k := by
  have : idxG l n = k := (List.findIdx_eq hk).2 ⟨by simpa using hb, fun j hj => by simpa using h j (by omega) hj⟩
  unfold findR; rw [this, if_pos hk]
theorem findR_none {l : List Gr} {n : Nm} (h : ∀ j, (hj : j < l.length) → l[j].1 ≠ n) : findR l n = -1 := by
  have : idxG l n = l.length := List.findIdx_eq_length.2 (fun x hx => by
    obtain ⟨j, hj, rfl⟩ := List.getElem_of_mem hx
    simpa using h j hj)
  unfold findR; rw [this, if_neg (Nat.lt_irrefl _)]
theorem bytes_ne {a b : ByteArray} (h : a ≠ b) : (a.toList == b.toList) = false := by
  refine beq_eq_false_iff_ne.2 (fun e => h ?_)
  rw [ByteArray.toList_eq, ByteArray.toList_eq] at e
  exact ByteArray.ext (Array.toList_inj.1 e)
theorem nm_cases (a n : Nm) : (a = n) ∨ (a ≠ n ∧ (a.1 == n.1) = true ∧ (a.2.toList == n.2.toList) = false) ∨ (a ≠ n ∧ (a.1 == n.1) = false) := by
  by_cases h : a = n
  · exact .inl h
  · by_cases h1 : a.1 = n.1
    · exact .inr (.inl ⟨h, by simp [h1], bytes_ne (fun e => h (Prod.ext h1 e))⟩)
    · exact .inr (.inr ⟨h, by simpa using h1⟩)

def nmO (n : Nm) : Obj := .cells #[.int .u64 n.1, .string n.2] 35 (0, 0)

set_option maxHeartbeats 800000 in
set_option maxRecDepth 100000 in
theorem rfind_any (R r : Nat) (v : Value) (l : List Gr) (last : Int) (n : Nm) (w : World) (h : RFen w R r v l last) (hl : l.length ≤ 100000) :
    Calls Try.prog 29 #[.pointer (some ⟨r, 0, none⟩), .agg #[.int .u64 n.1, .string n.2]] w fun e w' => e = .returned (.int .i64 (findR l n)) ∧ Below w.heap.size w w' := by
  have hA : Below w.heap.size w (w.alloc (nmO n)) := (Below.refl _ _).alloc (Nat.le_refl _) _
  have HF := Lib.hid (h.below hA)
  obtain ⟨a, cap, rfl, hcap, _⟩ := h.cap
  have n1 : (w.alloc (nmO n)).cell? ⟨w.heap.size, 0, none⟩ = some (.int .u64 n.1) := by simp [nmO]
  have n2 : (w.alloc (nmO n)).cell? ⟨w.heap.size, 1, none⟩ = some (.string n.2) := by simp [nmO]
  have HA := Lib.hid hA
  clear h hA
  go_enter Try.func29, Try.ntmps29
  go_wp2_with fail
  change Code.wp _ _ _ _ (w.alloc (nmO n))
  generalize hwa : w.alloc (nmO n) = wa at *
  go_loopg [5] l.length (fun gk i wr => ∃ k : Nat, gk + k = l.length ∧ i = .int .i64 k ∧ Hid (∀ j, (hj : j < l.length) → j < k → l[j].1 ≠ n) ∧ Drew wa wr)
  case atStart => exact ⟨0, by omega, rfl, Lib.hid (fun j _ hj => absurd hj (by omega)), Drew.refl _⟩
  case round =>
    obtain ⟨k, hk, rfl, hn, q, rfl⟩ := hrel
    have c0 := HF.out.c0
    by_cases hlt : k < l.length
    · obtain ⟨b, off, c, he, hb, hc⟩ := HF.out.reads.at (by omega)
      injection he with he1 he2 he3
      subst he1
      have hcc := hc k hlt
      clear hc he2 he3 hb
      have g0 : wa.cell? ⟨b, off + k * 3, none⟩ = some (.int .u64 l[k].1.1) := hcc 0 _ rfl
      have g1 : wa.cell? ⟨b, off + k * 3 + 1, none⟩ = some (.string l[k].1.2) := hcc 1 _ rfl
      clear hcc
      have HN := Lib.hid hn.out
      clear hn
      generalize hg : l[k].1 = g at *
      have HG := Lib.hid hg
      clear hg
      go_upto_region 4 with fail
      go_cut [24] (fun t wx => t = .bool (decide (g = n)) ∧ Drew wa wx)
      case first =>
        rcases nm_cases g n with hgn | ⟨hgn, h1, h2⟩ | ⟨hgn, h1⟩
        · subst hgn
          go_wp2_with fail
          go_quiet (fail)
          go_wp2_with fail
          go_meet
          exact ⟨by simp, (Drew.refl wa).drewN q |>.drewN _⟩
        · have HGN := Lib.hid hgn
          clear hgn
          go_wp2_with fail
          go_quiet (fail)
          go_wp2_with fail
          go_meet
          exact ⟨by rw [decide_eq_false HGN.out], (Drew.refl wa).drewN q |>.drewN _⟩
        · have HGN := Lib.hid hgn
          clear hgn
          go_wp2_with fail
          go_quiet (fail)
          go_wp2_with fail
          go_meet
          exact ⟨by rw [decide_eq_false HGN.out], (Drew.refl wa).drewN q |>.drewN _⟩
      case rest =>
        obtain ⟨rfl, hD⟩ := hcut
        clear c0 n1 n2 g0 g1
        by_cases hgn : g = n
        · rw [decide_eq_true hgn]
          have hr := Lib.hid (findR_hit hlt HN.out (HG.out.trans hgn))
          clear hgn
          obtain ⟨q2, rfl⟩ := hD
          go_wp2_with fail
          go_ret
          exact ⟨ret_int hr.out.symm, below_drewN HA.out _⟩
        · rw [decide_eq_false hgn]
          have hn2 : Hid (∀ j, (hj : j < l.length) → j < k + 1 → l[j].1 ≠ n) := Lib.hid (fun j hj hjk => by
            by_cases e : j = k
            · subst e; rw [HG.out]; exact hgn
            · exact HN.out j hj (by omega))
          clear hgn
          go_wp2_with fail
          go_roundg (gk - 1)
          case rel => exact ⟨k + 1, by omega, by go_num, hn2, hD⟩
          case measure => omega
    · have hr := Lib.hid (findR_none (l := l) (n := n) (fun j hj => hn.out j hj (by omega)))
      clear hn
      go_wp2_with fail
      go_ret
      exact ⟨ret_int hr.out.symm, below_drewN HA.out _⟩

def takeR (l : List Gr) (n : Nm) : List Gr := if idxG l n < l.length then l.take (idxG l n) ++ l.drop (idxG l n + 1) else l
def takeRE (l : List Gr) (n : Nm) : Int := if idxG l n < l.length then 0 else 5

set_option maxHeartbeats 800000 in
set_option maxRecDepth 100000 in
theorem rtake_any (R r : Nat) (v : Value) (l : List Gr) (last : Int) (n : Nm) (w : World) (h : RFen w R r v l last) (hl : l.length ≤ 100000) :
    Calls Try.prog 14 #[.pointer (some ⟨r, 0, none⟩), .agg #[.int .u64 n.1, .string n.2]] w fun e w' =>
      e = .returned (.int .i64 (takeRE l n)) ∧ ∃ v', RFen w' R r v' (takeR l n) last ∧ Fr (fun i => i = r) w w' := by
  have hA : Below w.heap.size w (w.alloc (nmO n)) := (Below.refl _ _).alloc (Nat.le_refl _) _
  have HF := Lib.hid (h.below hA)
  have hrw := h.lt
  have hRr := h.lo
  have HA := Lib.hid hA
  clear h hA
  go_enter Try.func14, Try.ntmps14
  go_wp2_with fail
  refine (rfind_any R r v l last n _ HF.out hl).mono ?_
  rintro e w1 ⟨rfl, hB⟩
  have HF1 := Lib.hid (HF.out.below hB)
  have HB1 := Lib.hid (HA.out.trans (hB.mono HA.out.size))
  clear HF hB HA
  by_cases hk : idxG l n < l.length
  · have e1 : findR l n = (idxG l n : Int) := by unfold findR; rw [if_pos hk]
    have e2 : takeRE l n = 0 := by unfold takeRE; rw [if_pos hk]
    have e3 : takeR l n = l.take (idxG l n) ++ l.drop (idxG l n + 1) := by unfold takeR; rw [if_pos hk]
    have E2 := Lib.hid e2
    have E3 := Lib.hid e3
    rw [e1]
    clear e1 e2 e3
    obtain ⟨a, cap, rfl, hcap, hnil⟩ := HF1.out.cap
    obtain ⟨b, off, cap', he, hb, _⟩ := HF1.out.reads.at (by omega)
    injection he with he1 he2 he3
    subst he1
    clear hnil he2 he3
    generalize hkk : idxG l n = k at *
    have c0 := HF1.out.c0
    have hsz := HB1.out.size
    go_wp2_with (at_builtin; refine wpList_app rfl _ _ rfl (B := w.heap.size) (xs := []) rfl rfl (World.ownsRow_nil _ _ _ _) (HF1.out.reads.take k (by omega) _) (by simp; omega) hsz ?_)
    intro v1 w2 hown1 hg1
    have hB2 := app_below (World.ownsRow_nil w1 w1.heap.size _ _) (Nat.le_refl _) hg1
    have HF2 := Lib.hid (HF1.out.below hB2)
    have HB2 := Lib.hid (HB1.out.trans (hB2.mono HB1.out.size))
    have HO1 : Hid (w2.ownsRow w.heap.size GT 3 v1 (l.take k).length ((l.take k).flatMap encG)) := by rw [List.length_take]; exact hown1
    clear HF1 HB1 hown1 hg1 hB2 c0 hsz
    have c0 := HF2.out.c0
    have z0 := HF2.out.z 0
    have hsz := HB2.out.size
    by_cases hc : cap = k + 1
    · subst hc
      go_wp2_with (at_builtin; refine wpList_app rfl _ _ rfl (B := w.heap.size) (xs := l.take k) rfl rfl HO1.out (.inl ⟨List.drop_eq_nil_of_le (by omega), _, _, rfl⟩) (by simp; omega) hsz ?_)
      intro v2 w3 hown2 hg2
      obtain ⟨a2, m2, cap2, rfl⟩ := own_form hown2
      have hB3 := app_below HO1.out hsz hg2
      have hbox : w3.heap[r]? = _ := (hB3.block r hrw).trans HF2.out.box
      have c3 := (World.cell?_of_block (a := ⟨r, 0, none⟩) (hB3.block r hrw)).trans HF2.out.c0
      have z3 : w3.frozen? ⟨r, 0, none⟩ = false := by simp [World.frozen?, hbox]
      have HS := Lib.hid (RFen.store (l := takeR l n) hbox (by rw [E3.out]; simpa [show l.length - (k + 1) = 0 by omega] using hown2) (show R ≤ w.heap.size by omega) hrw hRr)
      have HFR := Lib.hid ((Fr.of_below (S := fun i => i = r) (HB2.out.trans hB3)).setCell (p := ⟨r, 0, none⟩) rfl (.slice a2 m2 cap2))
      clear HO1 HB2 HF2 hown2 hg2 hB3 hbox c0 z0 hsz
      go_wp2_with fail
      go_ret
      exact ⟨ret_int E2.out.symm, _, HS.out, HFR.out⟩
    · have hc' : ¬ k + 1 = cap := fun e => hc e.symm
      go_wp2_with (at_builtin; refine wpList_app rfl _ _ rfl (B := w.heap.size) (xs := l.take k) rfl rfl HO1.out (HF2.out.reads.drop (k + 1) (by omega) _) (by simp; omega) hsz ?_)
      intro v2 w3 hown2 hg2
      obtain ⟨a2, m2, cap2, rfl⟩ := own_form hown2
      have hB3 := app_below HO1.out hsz hg2
      have hbox : w3.heap[r]? = _ := (hB3.block r hrw).trans HF2.out.box
      have c3 := (World.cell?_of_block (a := ⟨r, 0, none⟩) (hB3.block r hrw)).trans HF2.out.c0
      have z3 : w3.frozen? ⟨r, 0, none⟩ = false := by simp [World.frozen?, hbox]
      have HS := Lib.hid (RFen.store (l := takeR l n) hbox (by rw [E3.out]; simpa using hown2) (show R ≤ w.heap.size by omega) hrw hRr)
      have HFR := Lib.hid ((Fr.of_below (S := fun i => i = r) (HB2.out.trans hB3)).setCell (p := ⟨r, 0, none⟩) rfl (.slice a2 m2 cap2))
      clear HO1 HB2 HF2 hown2 hg2 hB3 hbox c0 z0 hsz
      go_wp2_with fail
      go_ret
      exact ⟨ret_int E2.out.symm, _, HS.out, HFR.out⟩
  · have e1 : findR l n = -1 := by unfold findR; rw [if_neg hk]
    have e2 : takeRE l n = 5 := by unfold takeRE; rw [if_neg hk]
    have e3 : takeR l n = l := by unfold takeR; rw [if_neg hk]
    rw [e1]
    have E2 := Lib.hid e2
    have E3 := Lib.hid e3
    clear e1 e2 e3
    go_wp2_with fail
    go_ret
    exact ⟨ret_int E2.out.symm, v, by rw [E3.out]; exact HF1.out, .of_below HB1.out⟩
end Go.Proofs.Ytbelafkklblidaa
