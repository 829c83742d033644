/-
  hauberkref05.gap: the place behind what stands between tokens, as 'LexP.gap' has it.
-/
import Derived.Test.YtjegaejdphmdgaaDoorGap
namespace Go.Proofs.YtjegaejdphmdgaaDoor.Print
open Go.RowKit Go.Lib Go.Proofs.YtjegaejdphmdgaaDoorW.PrintWords Go.Proofs.YtjegaejdphmdgaaDoor.LexP
set_option linter.unusedVariables false

/-- The gap from within a line's remark on. -/
def afterLine : List UInt8 → Nat × Bool
  | [] => (0, true)
  | c :: t => if c = 10 then gap (c :: t) else ((afterLine t).1 + 1, (afterLine t).2)
theorem afterLine_spec : ∀ l : List UInt8, afterLine l = if Lib.indexByte l 10 < 0 then (l.length, true) else ((Lib.indexByte l 10).toNat + (gap (l.drop (Lib.indexByte l 10).toNat)).1, (gap (l.drop (Lib.indexByte l 10).toNat)).2)
  | [] => rfl
  | c :: t => by
    unfold afterLine Lib.indexByte
    by_cases h : c = 10
    · subst h; simp
    · have hb : (c == 10) = false := beq_eq_false_iff_ne.2 h
      rw [if_neg h, hb, afterLine_spec t]
      simp only [Bool.false_eq_true, if_false]
      have hge := Lib.indexByte_ge t 10
      by_cases h1 : Lib.indexByte t 10 = -1
      · rw [h1]; simp
      · have h2 : (Lib.indexByte t 10 == -1) = false := beq_eq_false_iff_ne.2 h1
        obtain ⟨m, hm⟩ : ∃ m : Nat, Lib.indexByte t 10 = m := ⟨(Lib.indexByte t 10).toNat, by omega⟩
        rw [h2]
        simp only [Bool.false_eq_true, if_false]
        rw [if_neg (by omega), if_neg (by omega), hm]
        have : ((m : Int) + 1).toNat = m + 1 := by omega
        rw [this]; simp; omega
theorem gap_slash {c : UInt8} {t : List UInt8} (h : ¬ isBlank c = true) (h2 : Lib.hasPrefix (c :: t) [47, 47] = true) : gap (c :: t) = afterLine (c :: t) := by
  rw [afterLine_spec]
  by_cases h3 : Lib.indexByte (c :: t) 10 < 0
  · rw [gap_last h h2 h3, if_pos h3]
  · rw [gap_line h h2 (by omega), if_neg h3]
theorem index_cons (b : UInt8) (l sub : List UInt8) : Lib.index (b :: l) sub = if sub.isPrefixOf (b :: l) then 0 else if Lib.index l sub == -1 then -1 else Lib.index l sub + 1 := rfl

theorem drop_at (s : ByteArray) (k : Nat) (h : k < s.size) : ∃ c : UInt8, (∀ h : k < s.size, ((s[k]'h).toNat : Int) = (c.toNat : Int)) ∧ s.data.toList.drop k = c :: s.data.toList.drop (k + 1) := by
  have hk' : k < s.data.size := h
  refine ⟨s.data[k]'hk', fun h => ?_, ?_⟩
  · simp [ByteArray.getElem_eq_getElem_data]
  · rw [List.drop_eq_getElem_cons (by simpa using hk')]; simp

theorem starts_eq (s : ByteArray) (k : Nat) (p : ByteArray) (h : k + p.size ≤ s.size) : ((s.extract k (k + p.size)).toList == p.toList) = Lib.hasPrefix (s.data.toList.drop k) p.data.toList := by
  have h1 := Lib.hasPrefix_of_take (s.data.toList.drop k) p.data.toList
  rw [← h1, Lib.toList_data, Lib.toList_data, Lib.extract_data, ← Lib.size_eq, show k + p.size - k = p.size by omega, decide_eq_true (by rw [List.length_drop, size_len]; omega), Bool.true_and]
set_option maxRecDepth 100000 in
theorem starts_any (s : ByteArray) (k : Nat) (p : ByteArray) (w : World) (hs : s.size < 4294967281) (hk : k ≤ s.size) (hp : p.size ≤ 100) :
    Calls Tryd.prog 26 #[.string s, .int .i64 k, .string p] w fun e w' => e = .returned (.bool (Lib.hasPrefix (s.data.toList.drop k) p.data.toList)) ∧ w = w' := by
  by_cases h : k + p.size ≤ s.size
  · have h0 : (k : Int) + (p.size : Int) ≤ (s.size : Int) := by omega
    go_enter Tryd.func26, Tryd.ntmps26
    go_wp2
    go_ret
    refine ⟨?_, rfl⟩
    show Ending.returned (.bool ((s.extract k (k + p.size)).toList == p.toList)) = _
    rw [starts_eq s k p h]
  · have h0 : ¬ (k : Int) + (p.size : Int) ≤ (s.size : Int) := by omega
    go_enter Tryd.func26, Tryd.ntmps26
    go_wp2
    go_ret
    refine ⟨?_, rfl⟩
    show Ending.returned (.bool false) = _
    have hf : Lib.hasPrefix (s.data.toList.drop k) p.data.toList = false := Bool.eq_false_iff.2 (fun hh => h (by have := prefix_len hh; rw [List.length_drop, size_len, ← Lib.size_eq] at this; omega))
    rw [hf]

theorem eqb (a b : Int) : (a == b) = true ∨ (a == b) = false := by cases (a == b) <;> simp
theorem blank_cases {c : UInt8} (h : isBlank c = true) : c = 32 ∨ c = 9 ∨ c = 10 ∨ c = 13 := by
  unfold isBlank at h
  simp only [Bool.or_eq_true, beq_iff_eq] at h
  rcases h with ((h | h) | h) | h
  · exact .inl h
  · exact .inr (.inl h)
  · exact .inr (.inr (.inl h))
  · exact .inr (.inr (.inr h))
theorem not_blank {c : UInt8} (h : ¬ isBlank c = true) : ((c.toNat : Int) == 32) = false ∧ ((c.toNat : Int) == 9) = false ∧ ((c.toNat : Int) == 10) = false ∧ ((c.toNat : Int) == 13) = false := by
  unfold isBlank at h
  simp only [Bool.or_eq_true, beq_iff_eq, not_or] at h
  obtain ⟨⟨⟨h1, h2⟩, h3⟩, h4⟩ := h
  have key : ∀ n : UInt8, c ≠ n → ((c.toNat : Int) == (n.toNat : Int)) = false := fun n hn => by
    rw [beq_eq_false_iff_ne]; intro e; exact hn (UInt8.toNat_inj.1 (by omega))
  exact ⟨key 32 h1, key 9 h2, key 10 h3, key 13 h4⟩
theorem not_ten {c : UInt8} (h : c ≠ 10) : ((c.toNat : Int) == 10) = false ∧ ((c.toNat : Int) != 10) = true := by
  have : ((c.toNat : Int) == (((10 : UInt8)).toNat : Int)) = false := by
    rw [beq_eq_false_iff_ne]; intro e; exact h (UInt8.toNat_inj.1 (by omega))
  exact ⟨this, congrArg (!·) this⟩
theorem st_yes (s : ByteArray) (k : Nat) (p : ByteArray) (w : World) (hs : s.size < 4294967281) (hk : k ≤ s.size) (hp : p.size ≤ 100) (h : Lib.hasPrefix (s.data.toList.drop k) p.data.toList = true) :
    Calls Tryd.prog 26 #[.string s, .int .i64 k, .string p] w fun e w' => e = .returned (.bool true) ∧ w = w' :=
  (starts_any s k p w hs hk hp).mono fun e w' ⟨he, hw⟩ => ⟨by rw [he, h], hw⟩
theorem st_no (s : ByteArray) (k : Nat) (p : ByteArray) (w : World) (hs : s.size < 4294967281) (hk : k ≤ s.size) (hp : p.size ≤ 100) (h : ¬ Lib.hasPrefix (s.data.toList.drop k) p.data.toList = true) :
    Calls Tryd.prog 26 #[.string s, .int .i64 k, .string p] w fun e w' => e = .returned (.bool false) ∧ w = w' :=
  (starts_any s k p w hs hk hp).mono fun e w' ⟨he, hw⟩ => ⟨by rw [he, Bool.eq_false_iff.2 h], hw⟩

set_option maxHeartbeats 4000000 in
set_option maxRecDepth 100000 in
theorem rgap_any (s : ByteArray) (at0 : Nat) (w : World) (hs : s.size < 4294967281) (h0 : at0 ≤ s.size) :
    Calls Tryd.prog 18 #[.string s, .int .i64 at0] w fun e w' => e = .returned (.tuple #[.int .i64 ((at0 : Int) + ((gap (s.data.toList.drop at0)).1 : Int)), .bool (gap (s.data.toList.drop at0)).2]) ∧ w = w' := by
  obtain ⟨R, hR⟩ : ∃ R : Int, R = (at0 : Int) + ((gap (s.data.toList.drop at0)).1 : Int) := ⟨_, rfl⟩
  obtain ⟨B, hB⟩ : ∃ B : Bool, B = (gap (s.data.toList.drop at0)).2 := ⟨_, rfl⟩
  rw [← hR, ← hB]
  have HR := Lib.hid hR; have HB := Lib.hid hB; clear hR hB
  go_enter Tryd.func18, Tryd.ntmps18
  go_wp2
  go_loop [1] (fun va => ∃ k : Nat, k ≤ s.size ∧ va = .int .i64 k ∧ Hid (R = (k : Int) + ((gap (s.data.toList.drop k)).1 : Int) ∧ B = (gap (s.data.toList.drop k)).2)) (fun va => s.size - (intOf va).toNat)
  case atStart => exact ⟨at0, h0, rfl, Lib.hid ⟨HR.out, HB.out⟩⟩
  case round =>
    obtain ⟨k, hk, rfl, hh⟩ := hrel
    clear HR HB h0
    by_cases hlt : k < s.size
    · obtain ⟨c, hi, hdrop⟩ := drop_at s k hlt
      have hg := hh.out
      clear hh
      have HD := Lib.hid hdrop
      rw [hdrop] at hg
      by_cases hb : isBlank c = true
      · rw [gap_blank hb] at hg
        have HG := Lib.hid hg
        have hb4 := blank_cases hb
        clear hg hdrop hb
        rcases hb4 with rfl | rfl | rfl | rfl
        all_goals go_wp2
        all_goals go_round
        all_goals first
          | exact ⟨k + 1, by omega, by go_num, Lib.hid ⟨by rw [HG.out.1]; omega, HG.out.2⟩⟩
          | (simp [intOf]; omega)
      · obtain ⟨n1, n2, n3, n4⟩ := not_blank hb
        by_cases hp : Lib.hasPrefix (c :: s.data.toList.drop (k + 1)) [47, 47] = true
        · rw [gap_slash hb hp, ← hdrop] at hg
          have HG := Lib.hid hg
          have Hp := Lib.hid (show Lib.hasPrefix (s.data.toList.drop k) [47, 47] = true by rw [hdrop]; exact hp)
          clear hg hdrop hb hp HD
          go_wp2_with (go_at_call 26; (with_reducible refine (st_yes s k ⟨#[47, 47]⟩ _ hs hk (by decide) Hp.out).mono ?_); rintro e w' ⟨rfl, rfl⟩)
          go_loop [1] (fun va => ∃ j : Nat, k ≤ j ∧ j ≤ s.size ∧ va = .int .i64 j ∧ Hid (R = (j : Int) + ((afterLine (s.data.toList.drop j)).1 : Int) ∧ B = (afterLine (s.data.toList.drop j)).2 ∧ (j = k → Lib.hasPrefix (s.data.toList.drop k) [47, 47] = true))) (fun va => s.size - (intOf va).toNat)
          case atStart => exact ⟨k, by omega, hk, rfl, Lib.hid ⟨HG.out.1, HG.out.2, fun _ => Hp.out⟩⟩
          case round =>
            clear HG Hp hi n1 n2 n3 n4
            obtain ⟨j, hkj, hj, rfl, hh⟩ := hrel
            by_cases hjl : j < s.size
            · obtain ⟨d, hdi, hdd⟩ := drop_at s j hjl
              have hg := hh.out
              rw [hdd] at hg
              by_cases hten : d = 10
              · subst hten
                have hne : j ≠ k := by
                  intro e
                  have h1 := hg.2.2 e
                  rw [← e, hdd] at h1
                  exact absurd (prefix_head h1) (by decide)
                have HG := Lib.hid (show R = (j : Int) + ((gap (s.data.toList.drop j)).1 : Int) ∧ B = (gap (s.data.toList.drop j)).2 by
                  rw [hdd]; exact ⟨hg.1, hg.2.1⟩)
                clear hg hdd hh
                go_wp2
                go_round
                case rel => exact ⟨j, by omega, rfl, HG⟩
                case measure => simp [intOf]; omega
              · obtain ⟨m1, m2⟩ := not_ten hten
                have HG := Lib.hid (show R = ((j + 1 : Nat) : Int) + ((afterLine (s.data.toList.drop (j + 1))).1 : Int) ∧ B = (afterLine (s.data.toList.drop (j + 1))).2 by
                  obtain ⟨g1, g2, _⟩ := hg
                  unfold afterLine at g1 g2
                  rw [if_neg hten] at g1 g2
                  exact ⟨by rw [g1]; push_cast; omega, g2⟩)
                clear hg hdd hh hten
                go_wp2
                go_round
                case rel => exact ⟨j + 1, by omega, by omega, by go_num, Lib.hid ⟨HG.out.1, HG.out.2, fun h => by omega⟩⟩
                case measure => simp [intOf]; omega
            · obtain rfl : j = s.size := by omega
              have hg := hh.out
              rw [List.drop_eq_nil_of_le (by rw [size_len]; exact Nat.le_refl _)] at hg
              have HG := Lib.hid (show R = (s.size : Int) + ((gap (s.data.toList.drop s.size)).1 : Int) ∧ B = (gap (s.data.toList.drop s.size)).2 by
                rw [List.drop_eq_nil_of_le (by rw [size_len]; exact Nat.le_refl _)]; exact ⟨hg.1, hg.2.1⟩)
              clear hg hh
              go_wp2
              go_round
              case rel => exact ⟨s.size, by omega, rfl, HG⟩
              case measure => simp [intOf]; omega
        · by_cases hq : Lib.hasPrefix (c :: s.data.toList.drop (k + 1)) [47, 42] = true
          · have h2 : k + 2 ≤ s.size := by
              have := prefix_len hq
              rw [← hdrop, List.length_drop, size_len] at this
              simp at this; omega
            obtain ⟨I, hI⟩ : ∃ I, I = Lib.index ((c :: s.data.toList.drop (k + 1)).drop 2) [42, 47] := ⟨_, rfl⟩
            have hd2 : (c :: s.data.toList.drop (k + 1)).drop 2 = s.data.toList.drop (k + 2) := by rw [← hdrop, List.drop_drop]
            have HNO : Hid (I < 0 → R = (k : Int) + 0 ∧ B = false) := Lib.hid fun h => by rw [hI] at h; rw [gap_open hb hp hq h] at hg; exact hg
            have HYES : Hid (∀ m : Nat, I = m → R = ((k + (m + 4) : Nat) : Int) + ((gap (s.data.toList.drop (k + (m + 4)))).1 : Int) ∧ B = (gap (s.data.toList.drop (k + (m + 4)))).2) := Lib.hid fun m hm => by
              rw [hI] at hm
              rw [gap_remark hb hp hq (by omega), hm] at hg
              simp only [Int.toNat_natCast] at hg
              rw [show (c :: s.data.toList.drop (k + 1)).drop (m + 4) = s.data.toList.drop (k + (m + 4)) by rw [← hdrop, List.drop_drop]] at hg
              exact ⟨by rw [hg.1]; push_cast; omega, hg.2⟩
            have HI := Lib.hid (show Lib.index (s.data.toList.drop (k + 2)) [42, 47] = I by rw [hI, hd2])
            have Hp := Lib.hid (show ¬ Lib.hasPrefix (s.data.toList.drop k) [47, 47] = true by rw [hdrop]; exact hp)
            have Hq := Lib.hid (show Lib.hasPrefix (s.data.toList.drop k) [47, 42] = true by rw [hdrop]; exact hq)
            clear hg hdrop hb hp hq HD hI hd2
            go_wp2_with (first | (go_at_call 26; (with_reducible refine (st_no s k ⟨#[47, 47]⟩ _ hs hk (by decide) Hp.out).mono ?_); rintro e w' ⟨rfl, rfl⟩) | (go_at_call 26; (with_reducible refine (st_yes s k ⟨#[47, 42]⟩ _ hs hk (by decide) Hq.out).mono ?_); rintro e w' ⟨rfl, rfl⟩))
            go_loop [6] (fun va => ∃ j : Nat, k + 2 ≤ j ∧ j ≤ s.size ∧ va = .int .i64 j ∧ Hid (Lib.index (s.data.toList.drop j) [42, 47] = -1 ∧ I = -1 ∨ 0 ≤ Lib.index (s.data.toList.drop j) [42, 47] ∧ I = Lib.index (s.data.toList.drop j) [42, 47] + ((j : Int) - (k + 2)))) (fun va => s.size - (intOf va).toNat)
            case atStart => exact ⟨k + 2, by omega, h2, by go_num, Lib.hid (by
              have := Lib.index_ge (s.data.toList.drop (k + 2)) [42, 47]
              rw [HI.out] at this ⊢
              by_cases h : I = -1
              · exact .inl ⟨h, h⟩
              · exact .inr ⟨by omega, by push_cast; omega⟩)⟩
            case round =>
              clear HI Hp Hq hi n1 n2 n3 n4
              obtain ⟨j, hkj, hj, rfl, hh⟩ := hrel
              by_cases hjl : j < s.size
              · obtain ⟨d, hdi, hdd⟩ := drop_at s j hjl
                have hg := hh.out
                rw [hdd, index_cons] at hg
                by_cases hst : Lib.hasPrefix (d :: s.data.toList.drop (j + 1)) [42, 47] = true
                · have hst' : [42, 47].isPrefixOf (d :: s.data.toList.drop (j + 1)) = true := hst
                  rw [if_pos hst'] at hg
                  have HG : Hid (R = ((j + 2 : Nat) : Int) + ((gap (s.data.toList.drop (j + 2))).1 : Int) ∧ B = (gap (s.data.toList.drop (j + 2))).2) := by
                    obtain ⟨m, hm⟩ : ∃ m : Nat, j = k + 2 + m := ⟨j - (k + 2), by omega⟩
                    have hI : I = (m : Int) := by rcases hg with ⟨h, _⟩ | ⟨_, h⟩ <;> omega
                    have := HYES.out m hI
                    rw [show k + (m + 4) = j + 2 by omega] at this
                    exact Lib.hid this
                  have hroom : j + 2 ≤ s.size := by
                    have := prefix_len hst
                    rw [← hdd, List.length_drop, size_len] at this
                    simp at this; omega
                  have Hs := Lib.hid (show Lib.hasPrefix (s.data.toList.drop j) [42, 47] = true by rw [hdd]; exact hst)
                  clear hg hdd hh hst hst' HYES HNO
                  go_wp2_with (go_at_call 26; (with_reducible refine (st_yes s j ⟨#[42, 47]⟩ _ hs hj (by decide) Hs.out).mono ?_); rintro e w' ⟨rfl, rfl⟩)
                  go_round
                  case rel => exact ⟨j + 2, by omega, by go_num, HG⟩
                  case measure => simp [intOf]; omega
                · have hst' : ¬ [42, 47].isPrefixOf (d :: s.data.toList.drop (j + 1)) = true := hst
                  rw [if_neg hst'] at hg
                  have HG := Lib.hid (show Lib.index (s.data.toList.drop (j + 1)) [42, 47] = -1 ∧ I = -1 ∨ 0 ≤ Lib.index (s.data.toList.drop (j + 1)) [42, 47] ∧ I = Lib.index (s.data.toList.drop (j + 1)) [42, 47] + (((j + 1 : Nat) : Int) - (k + 2)) by
                    have hge := Lib.index_ge (s.data.toList.drop (j + 1)) [42, 47]
                    by_cases h1 : Lib.index (s.data.toList.drop (j + 1)) [42, 47] = -1
                    · rw [h1] at hg
                      rcases hg with ⟨_, h⟩ | ⟨h, _⟩
                      · exact .inl ⟨h1, h⟩
                      · exact absurd h (by decide)
                    · have h2 : (Lib.index (s.data.toList.drop (j + 1)) [42, 47] == -1) = false := beq_eq_false_iff_ne.2 h1
                      rw [h2] at hg
                      simp only [Bool.false_eq_true, if_false] at hg
                      rcases hg with ⟨h, _⟩ | ⟨_, h⟩
                      · omega
                      · exact .inr ⟨by omega, by rw [h]; push_cast; omega⟩)
                  have Hs := Lib.hid (show ¬ Lib.hasPrefix (s.data.toList.drop j) [42, 47] = true by rw [hdd]; exact hst)
                  clear hg hdd hh hst hst'
                  go_wp2_with (go_at_call 26; (with_reducible refine (st_no s j ⟨#[42, 47]⟩ _ hs hj (by decide) Hs.out).mono ?_); rintro e w' ⟨rfl, rfl⟩)
                  go_round
                  case rel => exact ⟨j + 1, by omega, by omega, by go_num, HG⟩
                  case measure => simp [intOf]; omega
              · obtain rfl : j = s.size := by omega
                have hg := hh.out
                rw [List.drop_eq_nil_of_le (by rw [size_len]; exact Nat.le_refl _)] at hg
                have hI : I < 0 := by
                  rcases hg with ⟨_, h⟩ | ⟨h, _⟩
                  · omega
                  · exact absurd h (by decide)
                have HG := Lib.hid (HNO.out hI)
                clear hg hh hI HNO HYES
                go_wp2
                go_ret2
                exact ⟨by rw [HG.out.1, HG.out.2]; simp, rfl⟩
          · rw [gap_stop hb hp hq] at hg
            have HG := Lib.hid hg
            have Hp := Lib.hid (show ¬ Lib.hasPrefix (s.data.toList.drop k) [47, 47] = true by rw [hdrop]; exact hp)
            have Hq := Lib.hid (show ¬ Lib.hasPrefix (s.data.toList.drop k) [47, 42] = true by rw [hdrop]; exact hq)
            clear hg hdrop hb hp hq HD
            go_wp2_with (first | (go_at_call 26; (with_reducible refine (st_no s k ⟨#[47, 47]⟩ _ hs hk (by decide) Hp.out).mono ?_); rintro e w' ⟨rfl, rfl⟩) | (go_at_call 26; (with_reducible refine (st_no s k ⟨#[47, 42]⟩ _ hs hk (by decide) Hq.out).mono ?_); rintro e w' ⟨rfl, rfl⟩))
            go_ret2
            exact ⟨by rw [HG.out.1, HG.out.2]; simp, rfl⟩
    · obtain rfl : k = s.size := by omega
      have hg := hh.out
      rw [List.drop_eq_nil_of_le (by rw [size_len]; omega)] at hg
      have HG := Lib.hid hg
      clear hh hg
      go_wp2
      go_ret2
      exact ⟨by rw [HG.out.1, HG.out.2]; simp [gap_nil], rfl⟩
end Go.Proofs.YtjegaejdphmdgaaDoor.Print
