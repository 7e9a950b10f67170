/- Credits: two held against each other. -/
import Derived.Test.YtgjmnmcbinekdaaCred8
namespace Go.Proofs.Ytgjmnmcbinekdaa
open Go.RowKit Go.Sort Go.Lib Go.Shelf

def cmpI : List Int → List Int → Int
  | [], [] => 0
  | [], _ :: _ => -1
  | _ :: _, [] => 1
  | x :: xs, y :: ys => if x = y then cmpI xs ys else if x < y then 1 else -1
def cmpC (a b : List Int) : Int := if mayC a && mayC b then cmpI a b else 0
theorem cmpI_drop {a b : List Int} : ∀ (k : Nat), k ≤ a.length → k ≤ b.length → (∀ j (h : j < a.length) (h' : j < b.length), j < k → a[j] = b[j]) → cmpI a b = cmpI (a.drop k) (b.drop k) := by
  intro k
  induction k with
  | zero => intro _ _ _; simp
  | succ k ih =>
    intro ha hb h
    rw [ih (by omega) (by omega) (fun j h1 h2 h3 => h j h1 h2 (by omega)), List.drop_eq_getElem_cons (show k < a.length by omega), List.drop_eq_getElem_cons (show k < b.length by omega)]
    conv => lhs; unfold cmpI
    rw [if_pos (h k (by omega) (by omega) (by omega))]
theorem cmpI_end {a b : List Int} {k : Nat} (h : min a.length b.length ≤ k) (he : cmpI a b = cmpI (a.drop k) (b.drop k)) (hk : k ≤ a.length) (hk' : k ≤ b.length) : cmpI a b = min 1 (max (-1) ((a.length : Int) - b.length)) := by
  rw [he]
  have h2 : k = a.length ∨ k = b.length := by omega
  rcases h2 with rfl | rfl
  · rw [List.drop_length]
    cases hb : b.drop a.length with
    | nil =>
      have : b.length ≤ a.length := by simpa using hb
      have e : (a.length : Int) - b.length = 0 := by omega
      rw [e]; rfl
    | cons y ys =>
      have : a.length < b.length := by
        rcases Nat.lt_or_ge a.length b.length with h | h
        · exact h
        · rw [List.drop_eq_nil_of_le h] at hb; cases hb
      show (-1 : Int) = _
      omega
  · rw [List.drop_length]
    cases hb : a.drop b.length with
    | nil =>
      have : a.length ≤ b.length := by simpa using hb
      have e : (a.length : Int) - b.length = 0 := by omega
      rw [e]; rfl
    | cons y ys =>
      have : b.length < a.length := by
        rcases Nat.lt_or_ge b.length a.length with h | h
        · exact h
        · rw [List.drop_eq_nil_of_le h] at hb; cases hb
      show (1 : Int) = _
      omega
set_option maxHeartbeats 1600000 in
set_option maxRecDepth 100000 in
theorem ccompare_any (l m : List Int) (v u : Value) (w : World) (hv : ReadsK encC 1 w v l) (hu : ReadsK encC 1 w u m) (hl : l.length ≤ 1000000) (hm : m.length ≤ 1000000) :
    Calls Try.prog 18 #[v, u] w fun e w' => e = .returned (.int .i64 (cmpC l m)) ∧ Below w.heap.size w w' := by
  have HV := Lib.hid hv
  have HU := Lib.hid hu
  have hsv := hv.slice
  have hsu := hu.slice
  clear hv hu
  go_enter Try.func18, Try.ntmps18
  go_wp2_with fail
  refine (cmay_any l v w HV.out hl).mono ?_
  rintro e w1 ⟨rfl, hw⟩
  subst hw
  cases hma : mayC l
  · have HC : Hid (cmpC l m = 0) := by show _ = _; unfold cmpC; rw [hma]; rfl
    go_wp2_with fail
    go_ret
    exact ⟨ret_intE HC.out.symm, Below.refl _ _⟩
  · go_wp2_with fail
    refine (cmay_any m u w1 HU.out hm).mono ?_
    rintro e w2 ⟨rfl, hw⟩
    subst hw
    cases hmb : mayC m
    · have HC : Hid (cmpC l m = 0) := by show _ = _; unfold cmpC; rw [hma, hmb]; rfl
      go_wp2_with fail
      go_ret
      exact ⟨ret_intE HC.out.symm, Below.refl _ _⟩
    · have HC : Hid (cmpC l m = cmpI l m) := by show _ = _; unfold cmpC; rw [hma, hmb]; rfl
      obtain ⟨a, c, rfl⟩ := hsv
      obtain ⟨b, d, rfl⟩ := hsu
      clear hma hmb
      go_wp2_with fail
      obtain ⟨n, hn⟩ : ∃ n : Nat, min (l.length : Int) (m.length : Int) = (n : Int) := ⟨min l.length m.length, by omega⟩
      rw [hn]
      go_loopg [19] n (fun gk i wr => ∃ k : Nat, gk + k = n ∧ i = .int .i64 k ∧ Below w2.heap.size w2 wr ∧ ∀ j (hj : j < l.length) (hj' : j < m.length), j < k → l[j] = m[j])
      case atStart => exact ⟨0, by omega, rfl, Below.refl _ _, fun j hj _ h0 => by omega⟩
      case round =>
        obtain ⟨k, hk, rfl, hBw, hall⟩ := hrel
        have HB := Lib.hid hBw
        have HALL := Lib.hid hall
        clear hall
        by_cases hlt : k < n
        · have hkl : k < l.length := by omega
          have hkm : k < m.length := by omega
          obtain ⟨r1, o1, cc1, he1, hb1, hc1⟩ := (HV.out.below hBw).at (by omega)
          obtain ⟨r2, o2, cc2, he2, hb2, hc2⟩ := (HU.out.below hBw).at (by omega)
          injection he1 with he1 he1b he1c
          injection he2 with he2 he2b he2c
          subst he1
          subst he2
          clear he1b he1c he2b he2c
          have k1 : wr.cell? ⟨r1, o1 + k, none⟩ = some (.int .i64 l[k]) := by have h := hc1 k hkl 0 _ rfl; rw [Nat.mul_one, Nat.add_zero] at h; exact h
          have k2 : wr.cell? ⟨r2, o2 + k, none⟩ = some (.int .i64 m[k]) := by have h := hc2 k hkm 0 _ rfl; rw [Nat.mul_one, Nat.add_zero] at h; exact h
          have HD := Lib.hid (cmpI_drop (a := l) (b := m) k (by omega) (by omega) (fun j h1 h2 h3 => HALL.out j h1 h2 h3))
          have HE1 : Hid (l.drop k = l[k] :: l.drop (k + 1)) := List.drop_eq_getElem_cons hkl
          have HE2 : Hid (m.drop k = m[k] :: m.drop (k + 1)) := List.drop_eq_getElem_cons hkm
          have HST : Hid (l[k] ≠ m[k] → cmpI l m = if l[k] < m[k] then 1 else -1) := by
            intro hne
            rw [HD.out, HE1.out, HE2.out]
            conv => lhs; unfold cmpI
            rw [if_neg hne]
          clear hc1 hc2 hBw
          go_wp2_with fail
          go_quiet (fail)
          have hBq := below_drewN HB.out nq
          have q1 := cell_keep (below_drewN (Below.refl wr.heap.size wr) nq) k1
          have q2 := cell_keep (below_drewN (Below.refl wr.heap.size wr) nq) k2
          generalize wr.drewN nq = wq at *
          have HBq := Lib.hid hBq
          clear k1 k2 hBq
          by_cases he : l[k] = m[k]
          · have HE := Lib.hid he
            have t5 : (l[k] != m[k]) = false := by simp [he]
            clear he
            go_wp2_with fail
            go_roundg (gk - 1)
            case rel => exact ⟨k + 1, by omega, by go_num, HBq.out, fun j hj hj' h0 => by
              by_cases e : j = k
              · subst e; exact HE.out
              · exact HALL.out j hj hj' (by omega)⟩
            case measure => omega
          · have HX := Lib.hid (HST.out he)
            have t5 : (l[k] != m[k]) = true := by simp [he]
            clear he
            go_wp2_with fail
            go_quiet (fail)
            have hBq2 := Lib.hid (below_drewN HBq.out nq)
            by_cases hlx : l[k] < m[k]
            · have HR : Hid (cmpC l m = 1) := by show _ = _; rw [HC.out, HX.out, if_pos hlx]
              go_wp2_with fail
              go_ret
              exact ⟨ret_intE HR.out.symm, hBq2.out⟩
            · have HR : Hid (cmpC l m = -1) := by show _ = _; rw [HC.out, HX.out, if_neg hlx]
              go_wp2_with fail
              go_ret
              exact ⟨ret_intE HR.out.symm, hBq2.out⟩
        · have HR : Hid (cmpC l m = min 1 (max (-1) ((l.length : Int) - m.length))) := by
            show _ = _
            rw [HC.out]
            exact cmpI_end (k := k) (by omega) (cmpI_drop k (by omega) (by omega) (fun j h1 h2 h3 => HALL.out j h1 h2 h3)) (by omega) (by omega)
          have e1 : IntKind.i64.wrap ((l.length : Int) - (m.length : Int)) = (l.length : Int) - m.length := by rw [IntKind.wrap_i64]; omega
          go_wp2_with fail
          go_ret
          exact ⟨ret_intE HR.out.symm, HB.out⟩
end Go.Proofs.Ytgjmnmcbinekdaa
