/- Two Timers side by side; the clock that goes on in two parts. -/
import Derived.Test.YteladooegjgdnaaHp16
namespace Go.Proofs.Yteladooegjgdnaa
open Go.RowKit Go.Sort Go.Lib

theorem NoSame.symm {u v : Value} (h : NoSame u v) : NoSame v u := fun g hg hu => h g hu hg
theorem Tms.two {Z b c : Nat} {rv rv' ru : Value} {L M : List Tm} {now m : Int} {w w' : World} (hx : Tms Z b rv L now w) (hy : Tms Z c ru M m w) (hne : b ≠ c) (hs : NoSame rv ru) (hq : QL b rv w rv' w') : Tms Z c ru M m w' ∧ NoSame rv' ru := by
  obtain ⟨l, q, t, k⟩ := hx
  have hyb := hy.block
  obtain ⟨l2, q2, t2, k2⟩ := hy
  have h1 : ¬ QS b rv c := fun h => h.elim (fun e => hne e.symm) (own_not_box q.own q2.box (by decide))
  refine ⟨⟨l2, ⟨q2.box.fr hq.fr h1, own_fr q2.own hq.fr (fun i hi h => h.elim (fun e => own_not_box q2.own q.box (by decide) (e ▸ hi)) (fun e => hs i e hi)), q2.zb⟩, t2, k2⟩, ?_⟩
  intro g hg hu
  rcases hq.own with e | e
  · exact hs g (e ▸ hg) hu
  · have := e g hg; have := hyb g hu; omega
/-- Two Timers of the call's own. -/
structure Tw (w0 : World) (b : Nat) (rv : Value) (c : Nat) (ru : Value) (L : List Tm) (n : Int) (M : List Tm) (m : Int) (w : World) : Prop where
  x : Wt w0 b rv L n w
  y : Wt w0 c ru M m w
  ne : b ≠ c
  apart : NoSame rv ru
section
variable {w0 w w' : World} {b c : Nat} {rv ru rv' : Value} {L M L' : List Tm} {n m n' : Int}
theorem Tw.symm (h : Tw w0 b rv c ru L n M m w) : Tw w0 c ru b rv M m L n w := ⟨h.y, h.x, fun e => h.ne e.symm, h.apart.symm⟩
theorem Tw.below (h : Tw w0 b rv c ru L n M m w) (hB : Below w.heap.size w w') : Tw w0 b rv c ru L n M m w' := ⟨h.x.below hB, h.y.below hB, h.ne, h.apart⟩
theorem Tw.left (h : Tw w0 b rv c ru L n M m w) (ht : Tms w0.heap.size b rv' L' n' w') (hq : QL b rv w rv' w') : Tw w0 b rv' c ru L' n' M m w' := by
  obtain ⟨h1, h2⟩ := Tms.two h.x.tms h.y.tms h.ne h.apart hq
  have hx := h.x.next ht hq
  exact ⟨hx, ⟨h1, hx.low⟩, h.ne, h2⟩
theorem Tw.right (h : Tw w0 b rv c ru L n M m w) (ht : Tms w0.heap.size c rv' L' n' w') (hq : QL c ru w rv' w') : Tw w0 b rv c rv' L n L' n' w' := (h.symm.left ht hq).symm
end
theorem take_split (a b : Int) (hb : 0 ≤ b) : ∀ L : List Tm, L.takeWhile (dueP (a + b)) = L.takeWhile (dueP a) ++ (L.dropWhile (dueP a)).takeWhile (dueP (a + b))
  | [] => rfl
  | x :: L => by
    by_cases h : x.a ≤ a
    · have h1 : dueP a x = true := decide_eq_true h
      have h2 : dueP (a + b) x = true := decide_eq_true (by omega)
      rw [List.takeWhile_cons, List.takeWhile_cons, List.dropWhile_cons, h1, h2]
      simp only [if_true, List.cons_append]
      rw [take_split a b hb L]
    · have h1 : dueP a x = false := decide_eq_false h
      rw [List.takeWhile_cons (p := dueP a), List.dropWhile_cons, h1]
      rfl
theorem tickE_ok {now d : Int} (h0 : 0 ≤ d) (h1 : d ≤ 200000) (h2 : now ≤ 200000) : tickE now d = 0 := by
  unfold tickE
  rw [if_neg (by omega), if_neg (by omega), if_neg (by omega)]
theorem readsT_take {w : World} {a : Option Addr} {n cap : Nat} {l : List Tm} (h : ReadsK encT 2 w (.slice a n cap) l) (j : Nat) (hj : j ≤ l.length) (c : Nat) : ReadsK encT 2 w (.slice a j c) (l.take j) := by
  rcases h with ⟨rfl, _⟩ | ⟨b, off, cap', he, hb, hc⟩
  · simp at hj; subst hj; exact .inl ⟨by simp, _, _, rfl⟩
  · injection he with he1 _ _
    subst he1
    refine .inr ⟨b, off, c, by rw [List.length_take, Nat.min_eq_left hj], hb, fun i hi t u hu => ?_⟩
    rw [List.getElem_take] at hu
    rw [List.length_take] at hi
    exact hc i (by omega) t u hu
theorem readsT_drop {w : World} {b off n cap : Nat} {l : List Tm} (h : ReadsK encT 2 w (.slice (some ⟨b, off, none⟩) n cap) l) (j : Nat) (hj : j ≤ l.length) (c : Nat) : ReadsK encT 2 w (.slice (some ⟨b, off + j * 2, none⟩) (l.length - j) c) (l.drop j) := by
  rcases h with ⟨rfl, _⟩ | ⟨b', off', cap', he, hb, hc⟩
  · simp at hj; subst hj; exact .inl ⟨by simp, _, _, rfl⟩
  · injection he with he1 _ _
    injection he1 with he1
    injection he1 with h1 h2 h3
    subst h1 h2
    refine .inr ⟨b, off + j * 2, c, by rw [List.length_drop], hb, fun i hi t u hu => ?_⟩
    rw [List.getElem_drop] at hu
    rw [List.length_drop] at hi
    have := hc (j + i) (by omega) t u hu
    rwa [show off + ((j + i) * 2 + t) = off + j * 2 + (i * 2 + t) by rw [Nat.add_mul]; omega] at this
theorem readsT_own {Z n : Nat} {v : Value} {l : List Tm} {w : World} (h : w.ownsRow Z TmT 2 v n (l.flatMap encT)) (hn : l.length = n) : ReadsK encT 2 w v l := by
  subst hn
  exact own_readsK (enc := encT) (fun _ => rfl) (by decide) h
theorem own_cap {Z k n c : Nat} {E : TypeId} {a : Option Addr} {xs : List Value} {w : World} (h : w.ownsRow Z E k (.slice a n c) n xs) : n ≤ c := by
  obtain ⟨_, ⟨hv, h0⟩ | ⟨g, c', cur, hv, _, _, h3, _⟩⟩ := h
  · omega
  · injection hv with _ _ e
    rw [e]; exact h3
/-- The first and the last part of a list that was told. -/
theorem run_first {a : Option Addr} {N n cap : Nat} (hn : n ≤ cap) (W : World) : (Instr.slice 33 (.slice a N cap) none (some (.int .i64 (n : Int))) none).run Try.prog W = .ok (.slice a n cap) W := by
  rw [run_slice_h (P := Try.prog) (w := W) (t := 33) (a := a) (len := N) (cap := cap) (by kernel_rfl) .i64 n (by omega) (by omega)]
  have hs : (sizeOf (Try.prog.elem 33)).run Try.prog W = .ok 2 W := by kernel_rfl
  rw [hs]
  cases a <;> simp [Result.andThen, sliced, Addr.add]
theorem run_last {a : Option Addr} {n cap : Nat} {w : World} {l : List Tm} (h : ReadsK encT 2 w (.slice a l.length cap) l) (hn : n ≤ l.length) (hc0 : l.length ≤ cap) : ∃ v, (∀ W, (Instr.slice 33 (.slice a l.length cap) (some (.int .i64 (n : Int))) none none).run Try.prog W = .ok v W) ∧ ReadsK encT 2 w v (l.drop n) := by
  have hr : ∀ W, (Instr.slice 33 (.slice a l.length cap) (some (.int .i64 (n : Int))) none none).run Try.prog W = .ok (.slice (if cap = n then a else a.map (·.add (n * 2))) (l.length - n) (cap - n)) W := fun W => by
    rw [run_slice_l (P := Try.prog) (w := W) (t := 33) (a := a) (len := l.length) (cap := cap) (by kernel_rfl) .i64 n (by omega) (by omega)]
    have hs : (sizeOf (Try.prog.elem 33)).run Try.prog W = .ok 2 W := by kernel_rfl
    rw [hs]
    simp [Result.andThen, sliced]
  refine ⟨_, hr, ?_⟩
  by_cases he : l.length ≤ n
  · exact .inl ⟨List.drop_eq_nil_of_le he, _, _, by rw [Nat.sub_eq_zero_of_le he]⟩
  · by_cases hc : cap = n
    · omega
    · rw [if_neg hc]
      cases a with
      | none =>
        rcases h with ⟨h1, _⟩ | ⟨b, off, cap', hv, _⟩
        · rw [h1] at he; simp at he
        · cases hv
      | some p =>
        have h' := h
        rcases h with ⟨h1, _⟩ | ⟨b, off, cap', hv, _⟩
        · rw [h1] at he; simp at he
        · injection hv with e1 _ _
          injection e1 with e1
          subst e1
          have := readsT_drop h' n (by omega) (cap - n)
          by_cases hn0 : n = 0
          · subst hn0; simpa [Addr.add] using this
          · have h2 : ¬ n * 2 = 0 := by omega
            simpa [Addr.add, h2] using this
end Go.Proofs.Yteladooegjgdnaa
