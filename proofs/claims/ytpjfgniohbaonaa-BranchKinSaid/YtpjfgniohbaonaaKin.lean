/- BranchKin: plain laws and the walk. -/
import Derived.Test.YtpjfgniohbaonaaAlive12
import Derived.Deep.DeepCutAuto
namespace Go.Proofs.Ytpjfgniohbaonaa
open Go.RowKit

theorem kid_data {a : ByteArray} {n : Int} (h : kidB a n = true) : (kidS a n).data.toList = a.data.toList ++ [UInt8.ofNat n.toNat] := by
  unfold kidS; rw [if_pos h]; simp
theorem kid_parts {a : ByteArray} {n : Int} (h : kidB a n = true) : mayS a = true ∧ 1 ≤ n ∧ n ≤ 16 ∧ a.size < 12 := by
  unfold kidB at h; simp at h
  have := mayS_le h.1.1.1
  refine ⟨h.1.1.1, h.1.1.2, h.1.2, ?_⟩
  have := h.2; omega
theorem kid_may {a : ByteArray} {n : Int} (h : kidB a n = true) : mayS (kidS a n) = true := by
  obtain ⟨h1, h2, h3, h4⟩ := kid_parts h
  unfold mayS at *; rw [kid_data h]
  unfold mayL at *
  simp only [Bool.and_eq_true, decide_eq_true_eq, Bool.not_eq_true', List.any_eq_false, List.length_append, List.length_cons, List.length_nil] at *
  have hl : a.data.toList.length = a.size := by simp
  refine ⟨by omega, fun x hx => ?_⟩
  rw [List.mem_append] at hx
  rcases hx with hx | hx
  · exact h1.2 x hx
  · rw [List.mem_singleton] at hx; subst hx
    unfold odd8 oddB
    have e2 : (((UInt8.ofNat n.toNat).toNat : Nat) : Int) = n := by simp; omega
    rw [e2]; simp; omega
theorem kid_size {a : ByteArray} {n : Int} (h : kidB a n = true) : (kidS a n).size = a.size + 1 := by
  have := congrArg List.length (kid_data h)
  simpa using this
theorem kid_par {a : ByteArray} {n : Int} (h : kidB a n = true) : parB (kidS a n) = true := by
  refine parB_yes ?_ (kid_may h)
  rw [Lib.toList_data, kid_data h]; simp
theorem kid_parS {a : ByteArray} {n : Int} (h : kidB a n = true) : parS (kidS a n) = a := by
  apply ba_eq
  rw [← parS_yes (kid_par h), Lib.extract_data, kid_data h, kid_size h]
  simp
theorem kid_lastS {a : ByteArray} {n : Int} (h : kidB a n = true) : lastS (kidS a n) = n := by
  obtain ⟨h1, h2, h3, h4⟩ := kid_parts h
  unfold lastS; rw [if_pos (kid_par h), kid_data h, kid_size h]
  have : a.size + 1 - 1 = a.data.toList.length := by simp
  rw [this]; simp; omega
theorem cmpL_prefix : ∀ (a b : List UInt8), b ≠ [] → cmpL a (a ++ b) = -1
  | [], [], h => absurd rfl h
  | [], _ :: _, _ => by simp [cmpL]
  | a :: x, b, h => by simp [cmpL, cmpL_prefix x b h]
theorem kid_cmp {a : ByteArray} {n : Int} (h : kidB a n = true) : cmpS a (kidS a n) = -1 := by
  rw [cmpS_eq, kid_data h]; exact cmpL_prefix _ _ (by simp)
theorem kid_under {a : ByteArray} {n : Int} (h : kidB a n = true) : underS (kidS a n) a = true := by
  unfold underS; rw [kid_may h, (kid_parts h).1, (prefS_iff _ _).2 (by rw [kid_data h]; exact List.prefix_append _ _)]; rfl
theorem kid_not_under {a : ByteArray} {n : Int} (h : kidB a n = true) : underS a (kidS a n) = false := by
  have : prefS a (kidS a n) = false := by
    cases e : prefS a (kidS a n)
    · rfl
    · have k := ((prefS_iff _ _).1 e).length_le
      rw [kid_data h] at k; simp at k; omega
  unfold underS; rw [this]; simp

theorem between : ∀ (a c b : List UInt8), a <+: b → cmpL a c ≤ 0 → cmpL c b ≤ 0 → a <+: c
  | [], _, _, _, _, _ => List.nil_prefix
  | a :: x, [], _, _, h1, _ => by simp [cmpL] at h1
  | a :: x, c :: z, [], h, _, _ => by simp at h
  | a :: x, c :: z, b :: y, h, h1, h2 => by
    rw [List.cons_prefix_cons] at h ⊢
    obtain ⟨e, h⟩ := h
    subst e
    rcases u8_tri a c with k | k | k
    · simp [cmpL, k, u8_asymm k] at h2
    · simp [cmpL, k, u8_asymm k] at h1
    · subst k
      simp [cmpL] at h1 h2
      exact ⟨rfl, between x z y h h1 h2⟩
theorem under_iff (s r : ByteArray) : underS s r = true ↔ mayS s = true ∧ mayS r = true ∧ r.data.toList <+: s.data.toList := by
  unfold underS; rw [Bool.and_eq_true, Bool.and_eq_true, prefS_iff, and_assoc]
theorem kin_between {a b c : ByteArray} (hc : mayS c = true) (h : underS b a = true) (h1 : cmpS a c ≤ 0) (h2 : cmpS c b ≤ 0) : underS c a = true := by
  rw [under_iff] at *; rw [cmpS_eq] at h1 h2
  exact ⟨hc, h.2.1, between _ _ _ h.2.2 h1 h2⟩
theorem lcp_left : ∀ a b, lcp a b <+: a
  | [], _ => by simp [lcp]
  | _ :: _, [] => by simp [lcp]
  | a :: x, b :: y => by
    unfold lcp; split
    · exact List.cons_prefix_cons.2 ⟨rfl, lcp_left x y⟩
    · exact List.nil_prefix
theorem lcp_right : ∀ a b, lcp a b <+: b
  | [], _ => by simp [lcp]
  | _ :: _, [] => by simp [lcp]
  | a :: x, b :: y => by
    unfold lcp; split
    · rename_i e; exact List.cons_prefix_cons.2 ⟨e, lcp_right x y⟩
    · exact List.nil_prefix
theorem lcp_most : ∀ c a b, c <+: a → c <+: b → c <+: lcp a b
  | [], _, _, _, _ => List.nil_prefix
  | c :: z, [], _, h, _ => by simp at h
  | c :: z, _ :: _, [], _, k => by simp at k
  | c :: z, a :: x, b :: y, h, k => by
    rw [List.cons_prefix_cons] at h k
    obtain ⟨e, h⟩ := h; obtain ⟨f, k⟩ := k
    subst e; subst f
    simp only [lcp, if_true]
    exact List.cons_prefix_cons.2 ⟨rfl, lcp_most z x y h k⟩
theorem common_data {a b : ByteArray} (ha : mayS a = true) (hb : mayS b = true) : (commonS a b).data.toList = lcp a.data.toList b.data.toList := by
  unfold commonS; rw [ha, hb]; simp
theorem common_may {a b : ByteArray} (ha : mayS a = true) (hb : mayS b = true) : mayS (commonS a b) = true := by
  have := List.prefix_iff_eq_take.1 (lcp_left a.data.toList b.data.toList)
  unfold mayS at *; rw [common_data ha hb, this]; exact mayL_take ha _
theorem common_under1 {a b : ByteArray} (ha : mayS a = true) (hb : mayS b = true) : underS a (commonS a b) = true :=
  (under_iff _ _).2 ⟨ha, common_may ha hb, by rw [common_data ha hb]; exact lcp_left _ _⟩
theorem common_under2 {a b : ByteArray} (ha : mayS a = true) (hb : mayS b = true) : underS b (commonS a b) = true :=
  (under_iff _ _).2 ⟨hb, common_may ha hb, by rw [common_data ha hb]; exact lcp_right _ _⟩
theorem common_most {a b c : ByteArray} (ha : mayS a = true) (hb : mayS b = true) (h1 : underS a c = true) (h2 : underS b c = true) : underS (commonS a b) c = true := by
  rw [under_iff] at *
  exact ⟨common_may ha hb, h1.2.1, by rw [common_data ha hb]; exact lcp_most _ _ _ h1.2.2 h2.2.2⟩

/-- How far the way up has come: 'up' is the first k bytes of b; 'met' says whether a was met. -/
def Up (a b up : ByteArray) (met : Bool) (i : Nat) : Prop :=
  ∃ k, k ≤ b.data.toList.length ∧ k + i = b.data.toList.length ∧ up.data.toList = b.data.toList.take k ∧ (met = true ↔ ∃ j, k ≤ j ∧ j ≤ b.data.toList.length ∧ b.data.toList.take j = a.data.toList)
theorem ba_beq (a b : ByteArray) : (a.toList == b.toList) = decide (a.data.toList = b.data.toList) := by
  rw [Lib.toList_data, Lib.toList_data]; rw [Bool.eq_iff_iff]; simp
theorem up_start (a b : ByteArray) : Up a b b (b.toList == a.toList) 0 := by
  refine ⟨b.data.toList.length, Nat.le_refl _, rfl, List.take_length.symm, ?_⟩
  rw [ba_beq]; simp only [decide_eq_true_eq]
  constructor
  · exact fun h => ⟨_, Nat.le_refl _, Nat.le_refl _, by rw [List.take_length]; exact h⟩
  · rintro ⟨j, h1, h2, h3⟩
    rw [List.take_of_length_le h1] at h3; exact h3
theorem up_step {a b up : ByteArray} {met : Bool} {i : Nat} (h : Up a b up met i) (hp : parB up = true) : Up a b (parS up) (met || (parS up).toList == a.toList) (i + 1) := by
  obtain ⟨k, hk, hki, hu, hm⟩ := h
  have hpos := parB_size hp
  have hl : up.data.toList.length = up.size := by simp
  have hk0 : up.size = k := by rw [← hl, hu, List.length_take]; omega
  have hd : (parS up).data.toList = b.data.toList.take (k - 1) := by
    rw [← parS_yes hp, Lib.extract_data, hu, hk0]
    simp [List.take_take, show min (k - 1) k = k - 1 by omega]
  refine ⟨k - 1, by omega, by omega, hd, ?_⟩
  rw [Bool.or_eq_true, hm, ba_beq, decide_eq_true_eq, hd]
  constructor
  · rintro (⟨j, h1, h2, h3⟩ | h)
    · exact ⟨j, by omega, h2, h3⟩
    · exact ⟨k - 1, Nat.le_refl _, by omega, h⟩
  · rintro ⟨j, h1, h2, h3⟩
    by_cases e : j = k - 1
    · subst e; exact .inr h3
    · exact .inl ⟨j, by omega, h2, h3⟩
theorem up_end {a b up : ByteArray} {met : Bool} {i : Nat} (h : Up a b up met i) (hb : mayS b = true) (hp : parB up = false) : met = prefS b a := by
  obtain ⟨k, hk, hki, hu, hm⟩ := h
  have hmay : mayS up = true := by unfold mayS at *; rw [hu]; exact mayL_take hb _
  have he : up.toList.isEmpty = true := by
    cases e : up.toList.isEmpty
    · rw [parB_yes e hmay] at hp; cases hp
    · rfl
  rw [Lib.toList_data, hu, List.isEmpty_iff] at he
  have hk0 : k = 0 := by
    rcases Nat.eq_zero_or_pos k with e | e
    · exact e
    · have := congrArg List.length he; rw [List.length_take, List.length_nil] at this; omega
  subst hk0
  rw [Bool.eq_iff_iff, hm, prefS_iff]
  constructor
  · rintro ⟨j, _, _, h3⟩; rw [← h3]; exact List.take_prefix _ _
  · intro hpre; exact ⟨_, Nat.zero_le _, hpre.length_le, (List.prefix_iff_eq_take.1 hpre).symm⟩
theorem up_few {a b up : ByteArray} {met : Bool} {i : Nat} (h : Up a b up met i) (hb : mayS b = true) : i ≤ 12 := by
  obtain ⟨k, hk, hki, hu, hm⟩ := h
  have := mayS_le hb; have hbl : b.data.toList.length = b.size := by simp
  omega
theorem kin_end1 {a b : ByteArray} (hb : mayS b = true) : underS b a = (prefS b a && mayS a && mayS b) := by
  unfold underS; rw [hb]; cases mayS a <;> cases prefS b a <;> rfl
theorem kin_end2 {a b : ByteArray} (hb : mayS b = false) : underS b a = false := by unfold underS; rw [hb]; rfl

set_option maxHeartbeats 4000000 in
set_option maxRecDepth 100000 in
theorem kin_walk (a b c : ByteArray) (n : Int) (w : World) (ha : a.size ≤ 9223372036854775807) (hb : b.size ≤ 9223372036854775807) (hc : c.size ≤ 9223372036854775807)
    (h1 : ¬ 1024 < (a.size : Int)) (h2 : ¬ 1024 < (b.size : Int)) (h3 : ¬ 1024 < (c.size : Int)) :
    Calls Try.prog 5 #[.string a, .string b, .string c, .int .i64 n] w fun e w' => e = .returned (.bool true) ∧ Below w.heap.size w w' := by
  go_enter Try.func5, Try.ntmps5
  go_wp2_with fail
  refine (kid_any a n _ ha).mono ?_; rintro e w1 ⟨rfl, hB⟩
  obtain ⟨kb, hk⟩ : ∃ kb, kidB a n = kb := ⟨_, rfl⟩
  rw [hk]
  have K := Lib.hid hk
  clear hk
  go_upto_if 39 with fail
  go_cut [] (fun wc => Below w.heap.size w wc)
  case first =>
    cases kb
    · go_wp2_with fail
      go_meet
      exact hB
    · have s1 : (kidS a n).size ≤ 9223372036854775807 := by rw [kid_size K.out]; have := (kid_parts K.out).2.2.2; omega
      go_wp2_with fail
      refine (parent_any (kidS a n) _ s1).mono ?_; rintro e w2 ⟨rfl, hB2⟩; replace hB := gthen hB hB2; clear hB2
      rw [kid_parS K.out, kid_par K.out]
      go_wp2_with fail
      refine (last_any (kidS a n) _ s1).mono ?_; rintro e w3 ⟨rfl, hB2⟩; replace hB := gthen hB hB2; clear hB2
      rw [kid_lastS K.out]
      go_wp2_with fail
      refine (may_any (kidS a n) _ s1).mono ?_; rintro e w4 ⟨rfl, hB2⟩; replace hB := gthen hB hB2; clear hB2
      rw [kid_may K.out]
      go_wp2_with fail
      refine (compare_any a (kidS a n) _).mono ?_; rintro e w5 ⟨rfl, rfl⟩
      rw [kid_cmp K.out]
      go_wp2_with fail
      refine (under_any (kidS a n) a _ s1 ha).mono ?_; rintro e w6 ⟨rfl, hB2⟩; replace hB := gthen hB hB2; clear hB2
      rw [kid_under K.out]
      go_wp2_with fail
      refine (under_any a (kidS a n) _ ha s1).mono ?_; rintro e w7 ⟨rfl, hB2⟩; replace hB := gthen hB hB2; clear hB2
      rw [kid_not_under K.out]
      go_wp2_with fail
      go_meet
      exact hB
  case rest =>
    clear hB K
    have hB := hcut
    clear hcut
    go_upto_region 8 with fail
    go_cut [89] (fun s wc => s = .bool (mayS a && mayS b && mayS c) ∧ Below w.heap.size w wc)
    case first =>
      go_wp2_with fail
      refine (may_any a _ ha).mono ?_; rintro e w2 ⟨rfl, hB2⟩; replace hB := gthen hB hB2; clear hB2
      cases e1 : mayS a
      · go_wp2_with fail
        go_meet
        exact ⟨by simp [e1], hB⟩
      · go_wp2_with fail
        refine (may_any b _ hb).mono ?_; rintro e w3 ⟨rfl, hB2⟩; replace hB := gthen hB hB2; clear hB2
        cases e2 : mayS b
        · go_wp2_with fail
          go_meet
          exact ⟨by simp [e1, e2], hB⟩
        · go_wp2_with fail
          refine (may_any c _ hc).mono ?_; rintro e w4 ⟨rfl, hB2⟩; replace hB := gthen hB hB2; clear hB2
          go_wp2_with fail
          go_meet
          exact ⟨by simp [e1, e2], hB⟩
    case rest =>
      obtain ⟨rfl, hB'⟩ := hcut
      clear hB
      have hB := hB'
      clear hB'
      obtain ⟨mm, hmm⟩ : ∃ mm, (mayS a && mayS b && mayS c) = mm := ⟨_, rfl⟩
      rw [hmm]
      have M := Lib.hid hmm
      clear hmm
      go_upto_if 89 with fail
      go_cut [] (fun wc => Below w.heap.size w wc)
      case first =>
        cases mm
        · go_wp2_with fail
          go_meet
          exact hB
        · have m3 := M.out
          rw [Bool.and_eq_true, Bool.and_eq_true] at m3
          have m1 := Lib.hid m3.1.1; have m2 := Lib.hid m3.1.2; have m4 := Lib.hid m3.2
          clear m3
          have hz : (commonS a b).size ≤ 9223372036854775807 := by have := mayS_le (common_may m1.out m2.out); omega
          go_upto_region 9 with fail
          go_cut [110] (fun s wc => s = .bool false ∧ Below w.heap.size w wc)
          case first =>
            go_wp2_with fail
            refine (under_any b a _ hb ha).mono ?_; rintro e w2 ⟨rfl, hB2⟩; replace hB := gthen hB hB2; clear hB2
            cases e1 : underS b a
            · go_wp2_with fail
              go_meet
              exact ⟨rfl, hB⟩
            · have E1 := Lib.hid e1
              clear e1
              go_wp2_with fail
              refine (compare_any a c _).mono ?_; rintro e w3 ⟨rfl, rfl⟩
              by_cases e2 : cmpS a c ≤ 0
              · have E2 := Lib.hid e2
                go_wp2_with fail
                refine (compare_any c b _).mono ?_; rintro e w3 ⟨rfl, rfl⟩
                by_cases e3 : cmpS c b ≤ 0
                · go_wp2_with fail
                  refine (under_any c a _ hc ha).mono ?_; rintro e w4 ⟨rfl, hB2⟩; replace hB := gthen hB hB2; clear hB2
                  rw [kin_between m4.out E1.out E2.out e3]
                  go_wp2_with fail
                  go_meet
                  exact ⟨rfl, hB⟩
                · go_wp2_with fail
                  go_meet
                  exact ⟨rfl, hB⟩
              · go_wp2_with fail
                go_meet
                exact ⟨rfl, hB⟩
          case rest =>
            obtain ⟨rfl, hB'⟩ := hcut
            clear hB
            have hB := hB'
            clear hB'
            go_wp2_with fail
            refine (common_any a b _ ha hb).mono ?_; rintro e w4 ⟨rfl, hB2⟩; replace hB := gthen hB hB2; clear hB2
            have c1 := Lib.hid (common_under1 m1.out m2.out)
            have c2 := Lib.hid (common_under2 m1.out m2.out)
            have c3 := Lib.hid (common_most (c := c) m1.out m2.out)
            generalize commonS a b = m at *
            go_wp2_with fail
            refine (under_any a m _ ha hz).mono ?_; rintro e w5 ⟨rfl, hB2⟩; replace hB := gthen hB hB2; clear hB2
            rw [c1.out]
            go_wp2_with fail
            refine (under_any b m _ hb hz).mono ?_; rintro e w6 ⟨rfl, hB2⟩; replace hB := gthen hB hB2; clear hB2
            rw [c2.out]
            go_wp2_with fail
            refine (under_any a c _ ha hc).mono ?_; rintro e w7 ⟨rfl, hB2⟩; replace hB := gthen hB hB2; clear hB2
            cases e1 : underS a c
            · go_wp2_with fail
              go_meet
              exact hB
            · have E1 := Lib.hid e1
              clear e1
              go_wp2_with fail
              refine (under_any b c _ hb hc).mono ?_; rintro e w8 ⟨rfl, hB2⟩; replace hB := gthen hB hB2; clear hB2
              cases e2 : underS b c
              · go_wp2_with fail
                go_meet
                exact hB
              · have E2 := Lib.hid e2
                clear e2
                go_wp2_with fail
                refine (under_any m c _ hz hc).mono ?_; rintro e w9 ⟨rfl, hB2⟩; replace hB := gthen hB hB2; clear hB2
                rw [c3.out E1.out E2.out]
                go_wp2_with fail
                go_meet
                exact hB
      case rest =>
        clear hB M
        have hB := hcut
        clear hcut
        have hv := cmpL_val b.data.toList a.data.toList
        rw [← cmpS_eq] at hv
        obtain ⟨z, hz⟩ : ∃ z, cmpS b a = z := ⟨_, rfl⟩
        rw [hz] at hv
        have z1 : -1 ≤ z := by omega
        have z2 : z ≤ 1 := by omega
        clear hv
        have HZ := Lib.hid hz
        have HN := Lib.hid ((cmpS_neg a b).trans (by rw [hz]))
        clear hz
        obtain ⟨met0, hmet⟩ : ∃ met, (b.toList == a.toList) = met := ⟨_, rfl⟩
        cases hbm : mayS b
        · have hpar := parB_no2 hbm
          have hun := kin_end2 (a := a) hbm
          go_wp2_with fail
          go_loopw [14, 15, 16] (fun u m i wr => u = .string b ∧ m = .bool met0 ∧ i = .int .i64 0 ∧ Below w.heap.size w wr) (fun _ _ _ _ => 0)
          case atStart => exact ⟨rfl, rfl, rfl, hB⟩
          case round =>
            obtain ⟨rfl, rfl, rfl, hBr⟩ := hrel
            clear hB hmet
            go_wp2_with fail
            refine (parent_any b _ hb).mono ?_; rintro e w2 ⟨rfl, hB2⟩; have hB := hBr.trans (hB2.mono hBr.size); clear hB2 hBr
            rw [hpar]
            go_wp2_with fail
            refine (under_any b a _ hb ha).mono ?_; rintro e w3 ⟨rfl, hB2⟩; replace hB := gthen hB hB2; clear hB2
            rw [hun]
            cases met0
            · go_wp2_with fail
              refine (compare_any a b _).mono ?_; rintro e w5 ⟨he, rfl⟩; rw [HN.out] at he; subst he
              go_wp2_with fail
              refine (compare_any b a _).mono ?_; rintro e w5 ⟨he, rfl⟩; rw [HZ.out] at he; subst he
              go_wp2_with fail
              refine (alive_any _).mono ?_; rintro e w6 ⟨rfl, hB2⟩; replace hB := gthen hB hB2; clear hB2
              go_wp2
              go_ret
              exact ⟨ret_bool rfl, hB⟩
            · go_wp2_with fail
              refine (may_any a _ ha).mono ?_; rintro e w4 ⟨rfl, hB2⟩; replace hB := gthen hB hB2; clear hB2
              cases mayS a
              · go_wp2_with fail
                refine (compare_any a b _).mono ?_; rintro e w5 ⟨he, rfl⟩; rw [HN.out] at he; subst he
                go_wp2_with fail
                refine (compare_any b a _).mono ?_; rintro e w5 ⟨he, rfl⟩; rw [HZ.out] at he; subst he
                go_wp2_with fail
                refine (alive_any _).mono ?_; rintro e w6 ⟨rfl, hB2⟩; replace hB := gthen hB hB2; clear hB2
                go_wp2
                go_ret
                exact ⟨ret_bool rfl, hB⟩
              · go_wp2_with fail
                refine (may_any b _ hb).mono ?_; rintro e w5 ⟨rfl, hB2⟩; replace hB := gthen hB hB2; clear hB2
                go_wp2_with fail
                refine (compare_any a b _).mono ?_; rintro e w5 ⟨he, rfl⟩; rw [HN.out] at he; subst he
                go_wp2_with fail
                refine (compare_any b a _).mono ?_; rintro e w5 ⟨he, rfl⟩; rw [HZ.out] at he; subst he
                go_wp2_with fail
                refine (alive_any _).mono ?_; rintro e w6 ⟨rfl, hB2⟩; replace hB := gthen hB hB2; clear hB2
                go_wp2
                go_ret
                exact ⟨ret_bool rfl, hB⟩
        · have HM := Lib.hid hbm
          have HU := Lib.hid (kin_end1 (a := a) hbm)
          have hU0 : Hid (Up a b b met0 0) := by rw [← hmet]; exact up_start a b
          clear hbm
          go_wp2_with fail
          go_loopw [14, 15, 16] (fun u m i wr => ∃ (up : ByteArray) (met : Bool) (k : Nat), u = .string up ∧ m = .bool met ∧ i = .int .i64 k ∧ up.size ≤ 9223372036854775807 ∧ k ≤ 12 ∧ Hid (Up a b up met k) ∧ Below w.heap.size w wr) (fun _ _ i _ => 20 - (intOf i).toNat)
          case atStart => exact ⟨b, met0, 0, rfl, rfl, rfl, hb, by omega, hU0, hB⟩
          case round =>
            obtain ⟨up, met, k, rfl, rfl, rfl, hup, hk, hU, hBr⟩ := hrel
            clear hB hmet hU0
            go_wp2_with fail
            refine (parent_any up _ hup).mono ?_; rintro e w2 ⟨rfl, hB2⟩; have hB := hBr.trans (hB2.mono hBr.size); clear hB2 hBr
            cases hp : parB up
            · have hend := Lib.hid (up_end hU.out HM.out hp)
              clear hp
              go_wp2_with fail
              refine (under_any b a _ hb ha).mono ?_; rintro e w3 ⟨rfl, hB2⟩; replace hB := gthen hB hB2; clear hB2
              rw [HU.out, ← hend.out, HM.out]
              cases met
              · go_wp2_with fail
                refine (compare_any a b _).mono ?_; rintro e w5 ⟨he, rfl⟩; rw [HN.out] at he; subst he
                go_wp2_with fail
                refine (compare_any b a _).mono ?_; rintro e w5 ⟨he, rfl⟩; rw [HZ.out] at he; subst he
                go_wp2_with fail
                refine (alive_any _).mono ?_; rintro e w6 ⟨rfl, hB2⟩; replace hB := gthen hB hB2; clear hB2
                go_wp2
                go_ret
                exact ⟨ret_bool rfl, hB⟩
              · go_wp2_with fail
                refine (may_any a _ ha).mono ?_; rintro e w4 ⟨rfl, hB2⟩; replace hB := gthen hB hB2; clear hB2
                cases mayS a
                · go_wp2_with fail
                  refine (compare_any a b _).mono ?_; rintro e w5 ⟨he, rfl⟩; rw [HN.out] at he; subst he
                  go_wp2_with fail
                  refine (compare_any b a _).mono ?_; rintro e w5 ⟨he, rfl⟩; rw [HZ.out] at he; subst he
                  go_wp2_with fail
                  refine (alive_any _).mono ?_; rintro e w6 ⟨rfl, hB2⟩; replace hB := gthen hB hB2; clear hB2
                  go_wp2
                  go_ret
                  exact ⟨ret_bool rfl, hB⟩
                · go_wp2_with fail
                  refine (may_any b _ hb).mono ?_; rintro e w5 ⟨rfl, hB2⟩; replace hB := gthen hB hB2; clear hB2
                  rw [HM.out]
                  go_wp2_with fail
                  refine (compare_any a b _).mono ?_; rintro e w5 ⟨he, rfl⟩; rw [HN.out] at he; subst he
                  go_wp2_with fail
                  refine (compare_any b a _).mono ?_; rintro e w5 ⟨he, rfl⟩; rw [HZ.out] at he; subst he
                  go_wp2_with fail
                  refine (alive_any _).mono ?_; rintro e w6 ⟨rfl, hB2⟩; replace hB := gthen hB hB2; clear hB2
                  go_wp2
                  go_ret
                  exact ⟨ret_bool rfl, hB⟩
            · have hst := Lib.hid (up_step hU.out hp)
              have hk2 := up_few hst.out HM.out
              have hs2 : (parS up).size ≤ 9223372036854775807 := by rw [← parS_yes hp]; simp; omega
              clear hp
              generalize parS up = up2 at *
              obtain ⟨m2, hm2⟩ : ∃ m2, (up2.toList == a.toList) = m2 := ⟨_, rfl⟩
              rw [hm2] at hst
              cases met
              · go_wp2_with fail
                go_roundw
                case rel => exact ⟨up2, m2, k + 1, rfl, rfl, by go_num, hs2, by omega, hst, hB⟩
                case measure => simp [intOf]; omega
              · go_wp2_with fail
                go_roundw
                case rel => exact ⟨up2, true, k + 1, rfl, rfl, by go_num, hs2, by omega, hst, hB⟩
                case measure => simp [intOf]; omega

set_option maxHeartbeats 400000 in
set_option maxRecDepth 100000 in
theorem kin_long (a b c : ByteArray) (n : Int) (w : World) (h : 1024 < (a.size : Int) ∨ (¬ 1024 < (a.size : Int) ∧ 1024 < (b.size : Int)) ∨ (¬ 1024 < (a.size : Int) ∧ ¬ 1024 < (b.size : Int) ∧ 1024 < (c.size : Int)))
    (_ha : a.size ≤ 9223372036854775807) (_hb : b.size ≤ 9223372036854775807) (_hc : c.size ≤ 9223372036854775807) :
    Calls Try.prog 5 #[.string a, .string b, .string c, .int .i64 n] w fun e w' => e = .returned (.bool true) ∧ Below w.heap.size w w' := by
  rcases h with h1 | ⟨h1, h2⟩ | ⟨h1, h2, h3⟩
  all_goals
    go_enter Try.func5, Try.ntmps5
    go_wp2_with fail
    refine (alive_any _).mono ?_; rintro e w1 ⟨rfl, hB⟩
    go_wp2
    go_ret
    exact ⟨ret_bool rfl, hB⟩

theorem kin_row (a b c : ByteArray) (n : Int) (w : World) (ha : a.size ≤ maxLen) (hb : b.size ≤ maxLen) (hc : c.size ≤ maxLen) (_hn : (Lit.int .i64 n).wf = true) :
    Calls Try.prog 5 #[.string a, .string b, .string c, .int .i64 n] w fun e w' => e = .returned (.bool true) ∧ Below w.heap.size w w' := by
  by_cases h1 : 1024 < (a.size : Int)
  · exact kin_long a b c n w (.inl h1) ha hb hc
  · by_cases h2 : 1024 < (b.size : Int)
    · exact kin_long a b c n w (.inr (.inl ⟨h1, h2⟩)) ha hb hc
    · by_cases h3 : 1024 < (c.size : Int)
      · exact kin_long a b c n w (.inr (.inr ⟨h1, h2, h3⟩)) ha hb hc
      · exact kin_walk a b c n w ha hb hc h1 h2 h3
end Go.Proofs.Ytpjfgniohbaonaa
