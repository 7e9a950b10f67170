/- The document's bits of a credit: what they are worth. -/
import Derived.Test.YtgjmnmcbinekdaaOrdLaw20
namespace Go.Proofs.Ytgjmnmcbinekdaa
open Go.RowKit Go.Lib

def pn (k : Nat) : Nat := 2 ^ (4096 - k)
theorem pn_pos (k : Nat) : 0 < pn k := Nat.pow_pos (by decide)
theorem pn_half {k : Nat} (h : k + 1 ≤ 4096) : pn k = pn (k + 1) + pn (k + 1) := by
  unfold pn
  rw [show 4096 - k = (4096 - (k + 1)) + 1 by omega, Nat.pow_succ]; omega
theorem pw_pn (k : Nat) : pw (k : Int) = pn k := by unfold pw pn; rw [Int.toNat_natCast]
/-- What a list of numbers is worth, the first of them standing for power k. -/
def vB : Nat → List Int → Int
  | _, [] => 0
  | k, x :: l => x * (pn k : Int) + vB (k + 1) l
def isBit (x : Int) : Prop := x = 0 ∨ x = 1
theorem vB_set : ∀ (L : List Int) (k i : Nat) (x : Int) (h : i < L.length), vB k (L.set i x) = vB k L + (x - L[i]) * (pn (k + i) : Int)
  | [], _, _, _, h => by simp at h
  | y :: L, k, 0, x, _ => by simp only [List.set_cons_zero, vB, List.getElem_cons_zero, Nat.add_zero, Int.sub_mul]; omega
  | y :: L, k, i + 1, x, h => by
    have h1 := vB_set L (k + 1) i x (by simpa using h)
    simp only [List.set_cons_succ, vB, List.getElem_cons_succ]
    rw [h1, show k + 1 + i = k + (i + 1) by omega]; omega
theorem vB_zip : ∀ (a b : List Int) (k : Nat), a.length = b.length → vB k (List.zipWith (· + ·) a b) = vB k a + vB k b
  | [], [], _, _ => rfl
  | x :: a, y :: b, k, h => by
    have h1 := vB_zip a b (k + 1) (by simpa using h)
    simp only [List.zipWith_cons_cons, vB]
    rw [h1, Int.add_mul]; omega
  | [], _ :: _, _, h => by simp at h
  | _ :: _, [], _, h => by simp at h
theorem vB_zero (n : Nat) : ∀ k : Nat, vB k (List.replicate n 0) = 0 := by
  induction n with
  | zero => intro k; rfl
  | succ n ih => intro k; rw [List.replicate_succ]; simp only [vB]; rw [ih]; omega
theorem vB_rest : ∀ (L : List Int) (k : Nat), (∀ x ∈ L, isBit x) → k + 1 + L.length ≤ 4097 → 0 ≤ vB (k + 1) L ∧ vB (k + 1) L < (pn k : Int)
  | [], k, _, _ => by have := pn_pos k; simp only [vB]; omega
  | x :: L, k, hb, hl => by
    simp only [List.length_cons] at hl
    obtain ⟨h1, h2⟩ := vB_rest L (k + 1) (fun y hy => hb y (by simp [hy])) (by omega)
    have h3 := pn_half (k := k) (by omega)
    simp only [vB]
    rcases hb x (by simp) with rfl | rfl <;> omega
/-- The powers whose number is 1. -/
def crF : Nat → List Int → List Int
  | _, [] => []
  | k, x :: l => (if x = 1 then [(k : Int)] else []) ++ crF (k + 1) l
theorem crF_snoc : ∀ (l : List Int) (k : Nat) (x : Int), crF k (l ++ [x]) = crF k l ++ (if x = 1 then [((k + l.length : Nat) : Int)] else [])
  | [], k, x => by simp [crF]
  | y :: l, k, x => by
    simp only [List.cons_append, crF, List.append_assoc, List.length_cons]
    rw [crF_snoc l (k + 1) x, show k + 1 + l.length = k + (l.length + 1) by omega]
theorem crF_take {l : List Int} {j : Nat} (h : j < l.length) : crF 0 (l.take (j + 1)) = crF 0 (l.take j) ++ (if l[j] = 1 then [(j : Int)] else []) := by
  rw [List.take_succ_eq_append_getElem h, crF_snoc, List.length_take, Nat.min_eq_left (by omega), Nat.zero_add]
theorem crF_mem : ∀ (l : List Int) (k : Nat) (x : Int), x ∈ crF k l → (k : Int) ≤ x ∧ x < (k : Int) + l.length
  | [], k, x, h => by simp [crF] at h
  | y :: l, k, x, h => by
    simp only [crF, List.mem_append, List.length_cons] at h ⊢
    rcases h with h | h
    · split at h
      · simp at h; omega
      · simp at h
    · have := crF_mem l (k + 1) x h; omega
theorem crF_sorted : ∀ (l : List Int) (k : Nat), (crF k l).Pairwise (· < ·)
  | [], _ => List.Pairwise.nil
  | y :: l, k => by
    simp only [crF]
    refine List.pairwise_append.2 ⟨?_, crF_sorted l (k + 1), fun a ha b hb => ?_⟩
    · split
      · simp
      · simp
    · have h2 := crF_mem l (k + 1) b hb
      split at ha
      · simp at ha; omega
      · simp at ha
theorem crF_sc {l : List Int} (h : l.length ≤ 4097) : SC (crF 0 l) := ⟨crF_sorted l 0, fun x hx => by have := crF_mem l 0 x hx; omega⟩
theorem crF_val : ∀ (l : List Int) (k : Nat), (∀ x ∈ l, isBit x) → ((vC (crF k l) : Nat) : Int) = vB k l
  | [], _, _ => rfl
  | y :: l, k, h => by
    have h1 := crF_val l (k + 1) (fun x hx => h x (by simp [hx]))
    simp only [crF, vB]
    rw [vC_append]
    rcases h y (by simp) with rfl | rfl
    · rw [if_neg (by decide)]; simp [vC, ← h1]
    · rw [if_pos rfl, vC_one, pw_pn]; simp [← h1]
/-- The bits of a credit. -/
def setA (L : List Int) (c : List Int) : List Int := c.foldl (fun L x => L.set x.toNat 1) L
def bitL (c : List Int) : List Int := setA (List.replicate 4097 0) c
theorem setA_len : ∀ (c L : List Int), (setA L c).length = L.length
  | [], _ => rfl
  | x :: c, L => by unfold setA; rw [List.foldl_cons]; have := setA_len c (L.set x.toNat 1); unfold setA at this; rw [this]; simp
theorem bitL_len (c : List Int) : (bitL c).length = 4097 := by unfold bitL; rw [setA_len, List.length_replicate]
theorem setA_take {L c : List Int} {j : Nat} (h : j < c.length) : setA L (c.take (j + 1)) = (setA L (c.take j)).set c[j].toNat 1 := by
  unfold setA
  rw [List.take_succ_eq_append_getElem h, List.foldl_append]; rfl
theorem setA_bit : ∀ (c L : List Int), (∀ x ∈ L, isBit x) → ∀ x ∈ setA L c, isBit x
  | [], _, h => h
  | y :: c, L, h => by
    have := setA_bit c (L.set y.toNat 1) (fun x hx => by
      rcases List.mem_or_eq_of_mem_set hx with hx | hx
      · exact h x hx
      · exact .inr hx)
    exact this
theorem bitL_bit (c : List Int) : ∀ x ∈ bitL c, isBit x := setA_bit c _ (fun _ hx => .inl (List.eq_of_mem_replicate hx))
theorem setA_val : ∀ (c L : List Int), (∀ x ∈ c, 0 ≤ x ∧ x.toNat < L.length ∧ L.getD x.toNat 0 = 0) → c.Pairwise (· < ·) → vB 0 (setA L c) = vB 0 L + (vC c : Nat)
  | [], L, _, _ => by show vB 0 L = vB 0 L + ((0 : Nat) : Int); simp
  | x :: c, L, h, hp => by
    obtain ⟨h0, h1, h2⟩ := h x (by simp)
    obtain ⟨hp1, hp2⟩ := List.pairwise_cons.1 hp
    have ih := setA_val c (L.set x.toNat 1) (fun y hy => by
      obtain ⟨k0, k1, k2⟩ := h y (by simp [hy])
      have := hp1 y hy
      refine ⟨k0, by simpa using k1, ?_⟩
      rw [List.getD_eq_getElem?_getD, List.getElem?_set_ne (by omega), ← List.getD_eq_getElem?_getD]; exact k2) hp2
    have e : setA L (x :: c) = setA (L.set x.toNat 1) c := rfl
    have h3 : L[x.toNat] = 0 := by rw [List.getD_eq_getElem?_getD, List.getElem?_eq_getElem h1] at h2; exact h2
    rw [e, ih, vB_set _ _ _ _ h1, h3, vC_cons, Nat.zero_add]
    have : pw x = pn x.toNat := by rw [← pw_pn, Int.toNat_of_nonneg h0]
    rw [this]
    omega
theorem bitL_val {c : List Int} (h : SC c) : vB 0 (bitL c) = (vC c : Nat) := by
  unfold bitL
  rw [setA_val c _ (fun x hx => by
    have := h.2 x hx
    refine ⟨this.1, by rw [List.length_replicate]; omega, ?_⟩
    rw [List.getD_eq_getElem?_getD]
    rw [List.getElem?_replicate]; split <;> rfl) h.1, vB_zero]
  omega
/-- Bits held against each other. -/
def cmpB : List Int → List Int → Int
  | x :: a, y :: b => if x < y then -1 else if y < x then 1 else cmpB a b
  | _, _ => 0
theorem cmpB_val : ∀ (a b : List Int) (k : Nat), a.length = b.length → (∀ x ∈ a, isBit x) → (∀ x ∈ b, isBit x) → k + a.length ≤ 4097 →
    (cmpB a b = 0 ∧ vB k a = vB k b) ∨ (cmpB a b = 1 ∧ vB k b < vB k a) ∨ (cmpB a b = -1 ∧ vB k a < vB k b)
  | [], [], _, _, _, _, _ => .inl ⟨rfl, rfl⟩
  | [], _ :: _, _, h, _, _, _ => by simp at h
  | _ :: _, [], _, h, _, _, _ => by simp at h
  | x :: a, y :: b, k, h, ha, hb, hk => by
    simp only [List.length_cons] at h hk
    have ha' : ∀ z ∈ a, isBit z := fun z hz => ha z (by simp [hz])
    have hb' : ∀ z ∈ b, isBit z := fun z hz => hb z (by simp [hz])
    have h1 := vB_rest a k ha' (by omega)
    have h2 := vB_rest b k hb' (by omega)
    have ih := cmpB_val a b (k + 1) (by omega) ha' hb' (by omega)
    simp only [cmpB, vB]
    rcases ha x (by simp) with rfl | rfl <;> rcases hb y (by simp) with rfl | rfl
    · simpa using ih
    · right; right; simp; omega
    · right; left; simp; omega
    · simp only [Int.lt_irrefl, if_false]
      rcases ih with ⟨h, h'⟩ | ⟨h, h'⟩ | ⟨h, h'⟩
      · left; exact ⟨h, by omega⟩
      · right; left; exact ⟨h, by omega⟩
      · right; right; exact ⟨h, by omega⟩
theorem cmpB_drop {a b : List Int} : ∀ (k : Nat), k ≤ a.length → k ≤ b.length → (∀ j (h : j < a.length) (h' : j < b.length), j < k → a[j] = b[j]) → cmpB a b = cmpB (a.drop k) (b.drop k)
  | 0, _, _, _ => rfl
  | k + 1, h, h', he => by
    rw [cmpB_drop k (by omega) (by omega) (fun j hj hj' hk => he j hj hj' (by omega))]
    rw [List.drop_eq_getElem_cons (show k < a.length by omega), List.drop_eq_getElem_cons (show k < b.length by omega)]
    simp only [cmpB]
    have := he k (by omega) (by omega) (by omega)
    rw [if_neg (by omega), if_neg (by omega)]
theorem cmpB_bits {a b : List Int} (ha : mayC a = true) (hb : mayC b = true) : cmpB (bitL a) (bitL b) = cmpC a b := by
  have h1 := cmpB_val (bitL a) (bitL b) 0 (by rw [bitL_len, bitL_len]) (bitL_bit a) (bitL_bit b) (by rw [bitL_len]; omega)
  rw [bitL_val (mayC_sc ha), bitL_val (mayC_sc hb)] at h1
  rcases cmpC_val ha hb with ⟨h, h'⟩ | ⟨h, h'⟩ | ⟨h, h'⟩
  · subst h'; rw [h]; rcases h1 with ⟨h, _⟩ | ⟨_, _⟩ | ⟨_, _⟩ <;> omega
  · rw [h]; rcases h1 with ⟨_, _⟩ | ⟨_, _⟩ | ⟨_, _⟩ <;> omega
  · rw [h]; rcases h1 with ⟨_, _⟩ | ⟨_, _⟩ | ⟨_, _⟩ <;> omega
end Go.Proofs.Ytgjmnmcbinekdaa
