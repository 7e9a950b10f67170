/- Contract: num.Uint: a number as bytes. -/
import Derived.Test.YtgjmnmcbinekdaaCredB
import Derived.WalkSpells
import Derived.WalkLawsBesides
import Derived.Lib.Hide
import Derived.OwnWalk
import Derived.Carry
import Derived.Deep.DeepCutAuto
import Derived.Deep.CutBlock
import Derived.Deep.LoopGhost
import Derived.Laws.IdiomStrings
import Derived.Lib.UnsafeStr
import Derived.Below
namespace Go.Proofs.Ytgjmnmcbinekdaa
open Go.RowKit Go.Lib

theorem info_u8 : (Try.prog.info? 5).map (fun i => (i.zero, i.size, i.bytes)) = some (some (.int .u8 0), 1, 1) := by kernel_rfl
theorem byte_cell {w : World} {x y : Int} {E : TypeId} (h : x = y) : ∀ j u, ([.int .u8 y] : List Value)[j]? = some u → (w.alloc (.cells #[.int .u8 x] E (0, 0))).cell? ((⟨w.heap.size, 0, none⟩ : Addr).add j) = some u := by
  subst h
  intro j u hj
  match j with
  | 0 => simp at hj; subst hj; simp [go_sem, Addr.add]
  | j + 1 => simp at hj
theorem byte_one (x : Int) : ∀ u ∈ ([.int .u8 x] : List Value), u.oneCell' = true := by intro u hu; simp at hu; subst hu; rfl
theorem byteCells_snoc (l : List UInt8) (b : UInt8) {x : Int} (h : x = (b.toNat : Int)) : byteCells l ++ [.int .u8 x] = byteCells (l ++ [b]) := by rw [byteCells_append, h]; rfl
theorem byteCells_at {l : List UInt8} {j : Nat} (hj : j < l.length) : (byteCells l)[j]? = some (.int .u8 (l[j].toNat : Int)) := by unfold byteCells; rw [List.getElem?_map, List.getElem?_eq_getElem hj]; rfl
theorem or_128 (n : Nat) : bits .or .u8 ((n : Int) % 256) 128 = ((UInt8.ofNat (n % 128 + 128)).toNat : Int) := by
  have h1 : ((n : Int) % 256) = ((n % 256 : Nat) : Int) := by omega
  have h2 : (UInt8.ofNat (n % 128 + 128)).toNat = n % 128 + 128 := by rw [UInt8.toNat_ofNat']; omega
  rw [h1, h2, show (128 : Int) = ((128 : Nat) : Int) from rfl, u8_or_nat _ _ (by omega) (by omega)]
  have h3 : (n % 256) ||| 128 = n % 128 + 128 := by
    by_cases hb : n % 256 < 128
    · rw [Nat.or_comm, nat_join 7 _ _ (by omega) (by omega)]; omega
    · have e1 : n % 256 = 128 ||| (n % 128) := by rw [nat_join 7 _ _ (by omega) (by omega)]; omega
      rw [e1, Nat.or_comm, ← Nat.or_assoc, Nat.or_self, nat_join 7 _ _ (by omega) (by omega)]; omega
  rw [h3]
theorem own_grown {w wr w' : World} {E : TypeId} {v : Value} {n : Nat} {xs : List Value} {o : Obj} (hown : wr.ownsRow w.heap.size E 1 v n xs) (hB : Below w.heap.size w wr) (hg : (wr.alloc o).grownBy w' v.ownBlock) : Below w.heap.size w w' :=
  (hB.alloc hB.size o).grown hg (by have := hB.size; simp; omega) (fun b hb => by
    obtain ⟨_, ⟨rfl, _⟩ | ⟨g, cap, cur, rfl, hb2, _⟩⟩ := hown
    · cases hb
    · simp [Value.ownBlock] at hb; omega)
set_option maxHeartbeats 1600000 in
set_option maxRecDepth 100000 in
theorem numUint_any (n : Nat) (w : World) (hn : n < 18446744073709551616) :
    Calls Try.prog 43 #[.int .u64 n] w fun e w' => e = .returned (.string ⟨(uBytes n).toArray⟩) ∧ Below w.heap.size w w' := by
  obtain ⟨ig, hig, hg0, hg1, hg2⟩ := info_parts info_u8
  have HN := Lib.hid hn
  clear hn
  go_enter Try.func43, Try.ntmps43
  go_wp2_with fail
  go_loopg [0, 3] n (fun gk sx sb wr => sx = .int .u64 gk ∧ gk < 18446744073709551616 ∧ ∃ done : List UInt8, wr.ownsRow w.heap.size 5 1 sb done.length (byteCells done) ∧ done ++ uBytes gk = uBytes n ∧ Below w.heap.size w wr)
  case atStart => exact ⟨rfl, HN.out, [], World.ownsRow_nil _ _ _ _, rfl, Below.refl _ _⟩
  case round =>
    obtain ⟨rfl, hgk, done, ho, hd, hB⟩ := hrel
    have HG := Lib.hid hgk
    have HO := Lib.hid ho
    have HD := Lib.hid hd
    have HB := Lib.hid hB
    clear hgk ho hd hB
    have hdl := congrArg List.length HD.out
    rw [List.length_append] at hdl
    have hun := uBytes_len10 HN.out
    by_cases hlt : 128 ≤ (gk : Int)
    · have HU : Hid (uBytes gk = UInt8.ofNat (gk % 128 + 128) :: uBytes (gk / 128)) := uBytes_big (by omega)
      have HOR := Lib.hid (or_128 gk)
      have HL := Lib.hid (show done.length ≤ 10 by omega)
      clear hdl hun
      go_wp2_with (at_builtin; refine wpList_append_own _ rfl _ _ 49 rfl w.heap.size 5 ig (.int .u8 0) 1 1 Try.underlying49 hig hg0 hg1 hg2 rfl (by decide) _ _ _ rfl (HO.out.alloc _) ⟨wr.heap.size, 0, none⟩ 1 1 [.int .u8 (bits .or .u8 ((gk : Int) % 256) 128)] rfl rfl ?c1 ?c2 ?c3 ?c4 ?c5 ?_)
      case c1 => exact byte_cell rfl
      case c2 => exact byte_one _
      case c3 => have := HL.out; unfold maxLen; omega
      case c4 => have := HL.out; omega
      case c5 => have := HB.out.size; simp; omega
      intro v' w2 hown hgrow _
      have HW := Lib.hid hown
      have HB2 := Lib.hid (own_grown HO.out HB.out hgrow)
      clear hown hgrow HO HB
      go_wp2_with fail
      go_roundg (gk / 128)
      case rel => exact ⟨by go_num, by have := HG.out; omega, done ++ [UInt8.ofNat (gk % 128 + 128)], by rw [List.length_append, ← byteCells_snoc _ _ HOR.out]; exact HW.out, by rw [← HD.out, HU.out, List.append_assoc]; rfl, HB2.out⟩
      case measure => omega
    · have HU : Hid (uBytes gk = [UInt8.ofNat gk]) := uBytes_small (by omega)
      have HL := Lib.hid (show done.length ≤ 10 by omega)
      have HV := Lib.hid (show (gk : Int) = ((UInt8.ofNat gk).toNat : Int) by rw [UInt8.toNat_ofNat']; omega)
      clear hdl hun
      go_wp2_with (at_builtin; refine wpList_append_own _ rfl _ _ 49 rfl w.heap.size 5 ig (.int .u8 0) 1 1 Try.underlying49 hig hg0 hg1 hg2 rfl (by decide) _ _ _ rfl (HO.out.alloc _) ⟨wr.heap.size, 0, none⟩ 1 1 [.int .u8 (gk : Int)] rfl rfl ?c1 ?c2 ?c3 ?c4 ?c5 ?_)
      case c2 => exact rfl
      case c3 => have := HL.out; unfold maxLen; omega
      case c4 => have := HL.out; omega
      case c5 => have := HB.out.size; simp; omega
      intro v' w2 hown hgrow _
      obtain ⟨g, cap, rfl⟩ : ∃ g cap, v' = .slice (some ⟨g, 0, none⟩) (done.length + 1) cap := by
        rcases hown.2 with ⟨_, h0⟩ | ⟨g, cap, cur, hv, _⟩
        · omega
        · exact ⟨g, cap, hv⟩
      have HB2 := Lib.hid (own_grown HO.out HB.out hgrow)
      rw [byteCells_snoc _ _ HV.out] at hown
      have hcells := hown.cells (g := g) rfl
      have hconv : (convert 49 9 (.slice (some ⟨g, 0, none⟩) (done.length + 1) cap)).run Try.prog w2 = .ok (.string ⟨(done ++ [UInt8.ofNat gk]).toArray⟩) w2 := by
        have h := run_convert_bytes_back (P := Try.prog) w2 49 9 5 ⟨g, 0, none⟩ cap (done ++ [UInt8.ofNat gk]) Try.underlying49 Try.underlying5 Try.underlying9 (fun j hj => hcells j _ (byteCells_at hj))
        rwa [List.length_append] at h
      have HE : Hid (done ++ [UInt8.ofNat gk] = uBytes n) := by show _ = _; rw [← HD.out, HU.out]
      clear hcells hown hgrow HO HB
      go_wp2_with fail
      go_ret
      exact ⟨congrArg (fun l => Ending.returned (.string ⟨List.toArray l⟩)) HE.out, HB2.out⟩
end Go.Proofs.Ytgjmnmcbinekdaa
