/- Contract: Drop of the document's fences. -/
import Derived.Test.YtbelafkklblidaaRefE3
namespace Go.Proofs.Ytbelafkklblidaa
open Go.RowKit Go.Sort Go.Lib

/-- While Drop reads. -/
structure Dp (w : World) (R r : Nat) (v : Value) (l : List Gr) (last : Int) (u : Value) (acc : List Gr) (wr : World) : Prop where
  fen : RFen wr R r v l last
  low : Below w.heap.size w wr
  own : wr.ownsRow w.heap.size GT 3 u acc.length (acc.flatMap encG)
theorem dropL_next {l : List Gr} {k : Nat} (hk : k < l.length) (job : Int) : dropL (l.take (k + 1)) job = if l[k].1.1 = job then dropL (l.take k) job else dropL (l.take k) job ++ [l[k]] := by
  unfold dropL
  rw [List.take_succ_eq_append_getElem hk, List.filter_append]
  by_cases h : l[k].1.1 = job
  · simp [h]
  · simp [h]

set_option maxHeartbeats 1600000 in
set_option maxRecDepth 100000 in
theorem rdrop_any (R r : Nat) (v : Value) (l : List Gr) (last job : Int) (w : World) (h : RFen w R r v l last) (hl : l.length ≤ 10000) :
    Calls Try.prog 16 #[.pointer (some ⟨r, 0, none⟩), .int .u64 job] w fun e w' =>
      e = .returned (.int .i64 (l.length - (dropL l job).length)) ∧ ∃ v', RFen w' R r v' (dropL l job) last ∧ Fr (fun i => i = r) w w' := by
  have hrw := h.lt
  have hRr := h.lo
  obtain ⟨a, cap, rfl, hcap, hnil⟩ := h.cap
  have HD : Hid (Dp w R r (.slice a l.length cap) l last (.slice none 0 0) [] w) := ⟨h, Below.refl _ _, World.ownsRow_nil _ _ _ _⟩
  have HF0 := Lib.hid h
  clear h
  go_enter Try.func16, Try.ntmps16
  go_wp2_with fail
  go_loopg [5, 6] l.length (fun gk u i wr => ∃ k : Nat, gk + k = l.length ∧ i = .int .i64 k ∧ Dp w R r (.slice a l.length cap) l last u (dropL (l.take k) job) wr)
  case atStart => exact ⟨0, by omega, rfl, HD.out⟩
  case round =>
    clear HD
    obtain ⟨k, hk, rfl, hD⟩ := hrel
    have HD := Lib.hid hD
    have c0 := hD.fen.c0
    clear hD
    have hlen : (dropL (l.take k) job).length ≤ k := by
      unfold dropL; refine Nat.le_trans (List.length_filter_le _ _) ?_; rw [List.length_take]; omega
    by_cases hlt : k < l.length
    · obtain ⟨b, off, c, he, hb, hc⟩ := HD.out.fen.reads.at (by omega)
      injection he with he1 he2 he3
      subst he1
      have hcc := hc k hlt
      have HNX := Lib.hid (dropL_next hlt job)
      clear hc he2 he3 hb hnil
      generalize hg : l[k] = g at *
      have g0 : wr.cell? ⟨b, off + k * 3, none⟩ = some (.int .u64 g.1.1) := hcc 0 _ rfl
      have g1 : wr.cell? ⟨b, off + k * 3 + 1, none⟩ = some (.string g.1.2) := hcc 1 _ rfl
      have g2 : wr.cell? ⟨b, off + k * 3 + 2, none⟩ = some (.int .u64 g.2) := hcc 2 _ rfl
      clear hcc hg
      by_cases hj : g.1.1 = job
      · have HE : Hid (dropL (l.take (k + 1)) job = dropL (l.take k) job) := Lib.hid (by rw [HNX.out, if_pos hj])
        clear HNX
        go_wp2_with fail
        go_roundg (gk - 1)
        case rel => exact ⟨k + 1, by omega, by go_num, by rw [HE.out]; exact HD.out⟩
        case measure => omega
      · have HE : Hid (dropL (l.take (k + 1)) job = dropL (l.take k) job ++ [g]) := Lib.hid (by rw [HNX.out, if_neg hj])
        clear HNX
        generalize hacc : dropL (l.take k) job = acc at *
        have hsz := HD.out.low.size
        go_wp2_with (at_builtin; refine wpList_app rfl _ _ rfl (B := w.heap.size) (xs := acc) (ys := [g]) rfl rfl (own_below HD.out.own ((Below.refl _ _).alloc (Nat.le_refl _) _)) (reads_single g wr) (by simp; omega) (by simp; omega) ?_)
        intro v3 w3 hown2 hg2
        have HD3 : Hid (Dp w R r (.slice (some ⟨b, off, none⟩) l.length cap) l last v3 (acc ++ [g]) w3) := Lib.hid (by
          have h1 := ((Below.refl wr.heap.size wr).alloc (Nat.le_refl _) (.cells #[.int .u64 g.1.1, .string g.1.2, .int .u64 g.2] 43)).mono hsz
          have h2 := app_below (own_below HD.out.own ((Below.refl _ _).alloc (Nat.le_refl _) (.cells #[.int .u64 g.1.1, .string g.1.2, .int .u64 g.2] 43))) (by simp; omega) hg2
          have h3 := HD.out.low.trans (h1.trans h2)
          exact ⟨HF0.out.below h3, h3, by simpa using hown2⟩)
        clear HD hown2 hg2 g0 g1 g2 c0
        go_wp2_with fail
        go_roundg (gk - 1)
        case rel => exact ⟨k + 1, by omega, by go_num, by rw [HE.out]; exact HD3.out⟩
        case measure => omega
    · obtain rfl : k = l.length := by omega
      have hD := HD.out
      rw [List.take_length] at hD hlen
      obtain ⟨a5, m5, cap5, rfl⟩ := own_form hD.own
      have HS := Lib.hid (RFen.store hD.fen.box hD.own (show R ≤ w.heap.size by omega) hrw hRr)
      have HFR := Lib.hid ((Fr.of_below (S := fun i => i = r) hD.low).setCell (p := ⟨r, 0, none⟩) rfl (.slice a5 m5 cap5))
      have z4 := hD.fen.z 0
      have hm : m5 = (dropL l job).length := by
        obtain ⟨_, ⟨h1, h2⟩ | ⟨_, _, _, h1, _⟩⟩ := hD.own
        · injection h1 with _ h1 _; rw [h1, h2]
        · injection h1
      subst hm
      clear hD HD hnil hcap
      go_wp2_with fail
      go_ret
      exact ⟨ret_int rfl, _, HS.out, HFR.out⟩
end Go.Proofs.Ytbelafkklblidaa
